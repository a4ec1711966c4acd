/- A run, piece by piece: printed by program (ez2.py). -/
import Derived.Test.YtmafjaglalggkaaGreatHs4
import Derived.Test.YtmafjaglalggkaaGreatProg
import Derived.RecoverIn
import Derived.Test.YtmafjaglalggkaaGreatRows
import Derived.ProofKit
import Derived.Deep.SlicePairs
import Derived.Lib.Builder
import Derived.Lib.AppendStr
import Derived.Lib.UnsafeStr
import Derived.RegionTactic
/- The fast evaluator, part e: code, a function's run; all that may come of them. -/
set_option linter.unusedVariables false
namespace Go.Proofs.YtmafjaglalggkaaGreat
open Go
abbrev Res := Ex × Fr × Mem
abbrev Ress := List Res
abbrev SelfE := Nat → List Nat → List Nat → Code → Fr → Mem → Option Ress
inductive YE where
  | out
  | rd
  | it (b : Nat) (f : List Nat → List Nat → List V → Mem → Option Out)
def YE.sub : YE → YE
  | .it b f => .it b f
  | _ => .out
def YE.h (Y : YE) (ro hr : List Nat) (b : Nat) (args : List V) (m : Mem) : Option Out :=
  match Y with
  | .it b' f => cond (Nat.beq b b') (f ro hr args m) none
  | _ => none
def YE.Ok : YE → YC → Prop
  | .out, .out => True
  | .rd, .rd => True
  | .it b f, .it b' f' => b = b' ∧ ∀ {ro hr : List Nat} {args : List V} {m : Mem} {rs : Out} {K : V → Mem → Prop}, f ro hr args m = some rs → (∀ r ∈ rs, K r.1 r.2) → f' ro hr args m K
  | _, _ => False
theorem YE.Ok.sub {Y : YE} {Z : YC} (h : Y.Ok Z) : Y.sub.Ok Z.sub := by
  cases Y <;> cases Z <;> first | exact h.elim | trivial | exact h
theorem YE.Ok.yh {Y : YE} {Z : YC} (h : Y.Ok Z) {ro hr : List Nat} : YhOk (Y.h ro hr) (Z.h ro hr) := by
  intro b args m rs K h1 hK
  cases Y <;> cases Z <;> first | exact h.elim | (cases h1; done) | skip
  obtain ⟨rfl, hf⟩ := h
  simp only [YE.h] at h1
  simp only [YC.h]
  obtain ⟨h2, h3⟩ := condO h1
  rw [h2]
  exact hf h3 hK
abbrev SelfYE := YE → SelfE
noncomputable def normGF (P : Program) (Ts : List TypeId) (vs : List V) : List V :=
  List.rec (motive := fun _ => List V → List V) (fun l => l) (fun T _ ih l => List.casesOn (motive := fun _ => List V) l [] (fun v r => normV P T v :: ih r)) Ts vs
theorem normGF_eq (P : Program) : ∀ (Ts : List TypeId) (vs : List V), normGF P Ts vs = normG P true Ts vs
  | [], vs => by simp only [normG]; rfl
  | T :: Ts, [] => by simp only [normG]; rfl
  | T :: Ts, v :: vs => by simp only [normG, cond_true]; rw [← normGF_eq P Ts vs]; rfl
theorem normG_len (P : Program) : ∀ (Ts : List TypeId) (vs : List V), (normG P true Ts vs).length = vs.length
  | [], vs => by simp only [normG]
  | T :: Ts, [] => by simp only [normG]
  | T :: Ts, v :: vs => by simp only [normG, List.length_cons, normG_len P Ts vs]
noncomputable def frameF (P : Program) (fn : Func) (args : List V) : Fr := Fr.mk (normGF P fn.params.toList args) (Nat.sub fn.ntmps (rlen args)) (Nat.add (rlen args) (Nat.sub fn.ntmps (rlen args)))
theorem frameF_l (P : Program) (fn : Func) (args : List V) : (frameF P fn args).l = frameG P true fn args := by
  unfold frameF frameG
  rw [mk_l (by rw [normGF_eq, normG_len, rlen_eq]; rfl), normGF_eq, rlen_eq]; rfl
noncomputable def resLF (P : Program) : List ResultVar → Fr → Mem → Option (List V)
  | [], _, _ => some []
  | .tmp i :: l, t, m => match resLF P l t m with
    | some vs => some ((acc i).g t :: vs)
    | none => none
  | .cell i T :: l, t, m => match sLoadE P T ((acc i).g t) m, resLF P l t m with
    | some v, some vs => some (v :: vs)
    | _, _ => none
theorem resLF_ok {P : Program} : ∀ {l : List ResultVar} {t : Fr} {m : Mem} {vs : List V} {K : List V → Prop}, resLF P l t m = some vs → K vs → resL P l t.l m K
  | [], t, m, vs, K, h, hK => by cases h; exact hK
  | .tmp i :: l, t, m, vs, K, h, hK => by
    simp only [resLF] at h
    split at h
    · rename_i vs' hv
      cases h
      rw [acc_g] at hK
      exact resLF_ok (K := fun vs => K (vget t.l i :: vs)) hv hK
    · cases h
  | .cell i T :: l, t, m, vs, K, h, hK => by
    simp only [resLF] at h
    split at h
    · rename_i v vs' h1 h2
      cases h
      rw [acc_g] at h1
      exact sLoadE_ok (K := fun v => resL P l t.l m fun vs => K (v :: vs)) h1 (resLF_ok (K := fun vs => K (v :: vs)) h2 hK)
    · cases h
noncomputable def retF (P : Program) (fn : Func) (r : Res) : Option (V × Mem) :=
  match r.1 with
  | .ext _ => none
  | _ => match resLF P fn.results.toList r.2.1 r.2.2 with
    | some vs => some (oneV (normGF P fn.resultTypes.toList vs), r.2.2)
    | none => none
theorem retF_ok {P : Program} {fn : Func} {r : Res} {x : V × Mem} {K : V → Mem → Prop} (h : retF P fn r = some x) (hK : K x.1 x.2) : retG P true fn K r.1 r.2.1.l r.2.2 := by
  obtain ⟨e, t, m⟩ := r
  unfold retF at h
  unfold retG
  cases e <;> dsimp only at h ⊢
  case ext i => cases h
  all_goals
    split at h
    · rename_i vs hv
      cases h
      rw [normGF_eq] at hK
      exact resLF_ok (K := fun vs => K (oneV (normG P true fn.resultTypes.toList vs)) m) hv hK
    · cases h
noncomputable def gcVF (n : Nat) (r : V × Mem) : Option (V × Mem) :=
  cond (Nat.ble (rlen r.2) (Nat.succ n)) (some r) (match canonF n [r.1] r.2 with
    | some (t, m2) => some (rget .z t 0, m2)
    | none => none)
theorem gcVF_ok {n : Nat} {r x : V × Mem} {K : V → Mem → Prop} (h : gcVF n r = some x) (hK : K x.1 x.2 ∨ K (wkV x.1) x.2) : gcQ (some n) K r.1 r.2 := by
  unfold gcVF at h
  unfold gcQ
  dsimp only
  cases hb : Nat.ble (rlen r.2) (Nat.succ n) with
  | true =>
    rw [hb] at h
    cases h
    unfold canonS
    rw [rlen_eq] at hb
    have hb' : Nat.ble r.2.length (n + 1) = true := hb
    simp only [hb', cond_true]
    exact hK
  | false =>
    rw [hb] at h
    simp only [cond_false] at h
    split at h
    · rename_i t m2 hc
      cases h
      rw [rget_vget] at hK
      exact canonF_ok hc hK
    · cases h
def sameR (x : V × Mem) (l : Out) : Bool := l.all fun y => smV x.1 y.1 && eqM x.2 y.2
theorem sameR_ok {x : V × Mem} {l : Out} (h : sameR x l = true) : ∀ y ∈ l, y = x := fun y hy => by
  have := List.all_eq_true.1 h y hy
  simp only [Bool.and_eq_true] at this
  exact Prod.ext (smV_ok _ _ this.1).symm (eqM_ok this.2).symm
def wkR (x : V × Mem) : V × Mem := (wkV x.1, x.2)
def mergeR (l : Out) : Out :=
  match l with
  | [] => []
  | [x] => [x]
  | x :: r => cond (sameR x r) [x] (cond (sameR (wkR x) (r.map wkR)) [wkR x] (x :: r))
theorem mergeR_ok {l : Out} {K : V → Mem → Prop} (hK : ∀ x ∈ mergeR l, K x.1 x.2) : ∀ x ∈ l, K x.1 x.2 ∨ K (wkV x.1) x.2 := by
  intro x hx
  match l, hK, hx with
  | [], _, hx => cases hx
  | [y], hK, hx => exact .inl (hK x hx)
  | y :: z :: r, hK, hx =>
    simp only [mergeR] at hK
    cases h1 : sameR y (z :: r) with
    | true =>
      rw [h1] at hK
      have e : x = y := by
        rcases List.mem_cons.1 hx with h | h
        · exact h
        · exact sameR_ok h1 x h
      rw [e]
      exact .inl (hK y (by simp))
    | false =>
      rw [h1] at hK
      simp only [cond_false] at hK
      cases h2 : sameR (wkR y) ((z :: r).map wkR) with
      | true =>
        rw [h2] at hK
        have e : wkR x = wkR y := by
          rcases List.mem_cons.1 hx with h | h
          · rw [h]
          · exact sameR_ok h2 _ (List.mem_map.2 ⟨x, h, rfl⟩)
        have := hK (wkR y) (by simp)
        rw [← e] at this
        exact .inr this
      | false => rw [h2] at hK; exact .inl (hK x hx)
structure SPE (P : Program) where
  sp : SP P
  e : List Nat → CallE → FuncId → List V → Mem → Option (Option Out)
  ok : ∀ {ro : List Nat} {callE : CallE} {call : CallH}, CallEOk callE call → ∀ {g : FuncId} {args : List V} {m : Mem} {rs : Out} {K : V → Mem → Prop}, e ro callE g args m = some (some rs) → (∀ r ∈ rs, K r.1 r.2) → ∃ p, sp.f ro call g args m K = some p ∧ p
  no : ∀ {ro : List Nat} {callE : CallE} {call : CallH} {g : FuncId} {args : List V} {m : Mem} {K : V → Mem → Prop}, e ro callE g args m = none → sp.f ro call g args m K = none
noncomputable def callF0 (P : Program) (inl : List Nat) (self : SelfE) (ro hr : List Nat) : CallE := fun g args m =>
  match P.funcs[g]? with
  | none => none
  | some fn => cond (inL inl g)
      (match fn.body with
        | none => none
        | some c => cond (fn.name == "runtime.NumGoroutine") none (match bindS (self g ro hr c (frameF P fn args) m) fun r => match retF P fn r with
          | some x => one1 (gcVF (rlen m) x)
          | none => none with
          | some l => some (mergeR l)
          | none => none))
      none
noncomputable def callF (P : Program) (E : SPE P) (inl : List Nat) (self : SelfE) (ro hr : List Nat) : CallE := fun g args m =>
  match E.e (hr ++ ro) (callF0 P inl self ro hr) g args m with
  | some r => r
  | none => callF0 P inl self ro hr g args m
def HE {P : Program} (E : SPE P) (inl : List Nat) (n : Nat) : SH P := ⟨[], [], inl, [], [], false, n, KN.no, true, E.sp⟩
def SelfEOk (selfE : SelfE) (self : SelfT) : Prop := ∀ {fi : Nat} {ro hr : List Nat} {c : Code} {t : Fr} {m : Mem} {rs : Ress} {Q : PostS}, selfE fi ro hr c t m = some rs → (∀ r ∈ rs, Q r.1 r.2.1.l r.2.2) → self fi ro hr c Q t.l m
theorem callF0_ok {P : Program} {E : SPE P} {inl : List Nat} {n : Nat} {selfE : SelfE} {self : SelfT} (hs : SelfEOk selfE self) {ro hr : List Nat} : CallEOk (callF0 P inl selfE ro hr) (callH0 P (HE E inl n) self ro hr) := by
  intro g args m rs K h hK
  unfold callF0 at h
  unfold callH0
  split at h
  · cases h
  · rename_i fn hf
    rw [hf]
    dsimp only
    obtain ⟨h1, h2⟩ := condO h
    have h1' : inL (HE E inl n).inl g = true := h1
    rw [h1']
    simp only [cond_true]
    split at h2
    · cases h2
    · rename_i c hc
      obtain ⟨h3, h4⟩ := condN h2
      rw [hc]
      dsimp only
      rw [h3]
      simp only [cond_false]
      split at h4
      · rename_i l hl
        cases h4
        obtain ⟨l1, h5, h6⟩ := bindS_ok hl
        have ef : frameG P (HE E inl n).gc fn args = (frameF P fn args).l := (frameF_l P fn args).symm
        rw [ef]
        refine hs h5 fun r hr => ?_
        obtain ⟨a, h7, h8⟩ := h6 r hr
        split at h7
        · rename_i x hx
          obtain ⟨y, h9, rfl⟩ := one1_some h7
          rw [rlen_eq] at h9
          exact retF_ok hx (gcVF_ok h9 (mergeR_ok hK y (h8 y (by simp))))
        · cases h7
      · cases h4
theorem callF_ok {P : Program} {E : SPE P} {inl : List Nat} {n : Nat} {selfE : SelfE} {self : SelfT} (hs : SelfEOk selfE self) {ro hr : List Nat} : CallEOk (callF P E inl selfE ro hr) (callH P (HE E inl n) self ro hr) := by
  intro g args m rs K h hK
  unfold callF at h
  unfold callH
  split at h
  · rename_i r hr1
    subst h
    obtain ⟨p, h1, h2⟩ := E.ok (callF0_ok (E := E) (n := n) (selfE := selfE) (self := self) hs) hr1 hK
    have h1' : (HE E inl n).sp.f (hr ++ ro) (callH0 P (HE E inl n) self ro hr) g args m K = some p := h1
    rw [h1']; exact h2
  · rename_i hr1
    have h1' : (HE E inl n).sp.f (hr ++ ro) (callH0 P (HE E inl n) self ro hr) g args m K = none := E.no hr1
    rw [h1']
    exact callF0_ok (E := E) (n := n) (selfE := selfE) (self := self) hs h hK
noncomputable def rndsF (n0 : Nat) (step : Fr → Mem → Option Ress) (n : Nat) (t : Fr) (m : Mem) : Option Ress :=
  Nat.rec (motive := fun _ => Fr → Mem → Option Ress) (fun _ _ => none)
    (fun _ ih t m => bindS (step t m) fun r => match r.1 with
      | .nrm => (match canonH n0 r.2.1 r.2.2 with
        | some (t2, m2) => ih t2 m2
        | none => none)
      | _ => some [r]) n t m
theorem rndsF_ok {n0 : Nat} {stepE : Fr → Mem → Option Ress} {step : PostS → List V → Mem → Prop} (hs : ∀ {t : Fr} {m rs} {Q : PostS}, stepE t m = some rs → (∀ r ∈ rs, Q r.1 r.2.1.l r.2.2) → step Q t.l m) {Q : PostS} :
    ∀ {n : Nat} {t : Fr} {m : Mem} {rs : Ress}, rndsF n0 stepE n t m = some rs → (∀ r ∈ rs, Q r.1 r.2.1.l r.2.2) → rnds (some n0) step Q n t.l m
  | 0, t, m, rs, h, _ => by cases h
  | n + 1, t, m, rs, h, hQ => by
    have h : bindS (stepE t m) (fun r => match r.1 with
      | .nrm => (match canonH n0 r.2.1 r.2.2 with
        | some (t2, m2) => rndsF n0 stepE n t2 m2
        | none => none)
      | _ => some [r]) = some rs := h
    obtain ⟨l, h1, h2⟩ := bindS_ok h
    unfold rnds
    refine hs h1 fun r hr => ?_
    obtain ⟨a, h3, h4⟩ := h2 r hr
    obtain ⟨e, t', m'⟩ := r
    cases e with
    | nrm =>
      dsimp only at h3
      split at h3
      · rename_i t2 m2 hc
        exact canonH_ok (K := rnds (some n0) step Q n) hc (rndsF_ok hs h3 fun x hx => hQ x (h4 x hx))
      · cases h3
    | ext i =>
      cases h3
      have := hQ (.ext i, t', m') (h4 _ (by simp))
      exact this
    | ret =>
      cases h3
      have := hQ (.ret, t', m') (h4 _ (by simp))
      exact this
noncomputable def setAF (t : Fr) (ps : List Tmp) (args : List V) : Fr :=
  List.rec (motive := fun _ => Fr → List V → Fr) (fun t _ => t) (fun p _ ih t l => List.casesOn (motive := fun _ => Fr) l t (fun v r => ih ((acc p).s t v) r)) ps t args
theorem setAF_l : ∀ (ps : List Tmp) (t : Fr) (args : List V), (setAF t ps args).l = setA t.l ps args
  | [], t, args => by cases args <;> rfl
  | p :: ps, t, [] => rfl
  | p :: ps, t, v :: vs => by
    show (setAF ((acc p).s t v) ps vs).l = setA (vset t.l p v) ps vs
    rw [setAF_l ps, acc_s]
structure CF where
  r : SelfYE → YE → List Nat → List Nat → Fr → Mem → Option Ress
def nrmR (l : OutsF) : Ress := l.map fun x => (.nrm, x.1, x.2)
noncomputable def cCode (P : Program) (E : SPE P) (inl : List Nat) (nl : Nat) : Code → CF
  | .skip => ⟨fun _ _ _ _ t m => some [(.nrm, t, m)]⟩
  | .region _ ops d => cond (ops.toList.all fun o => !isDefer o)
      (cond d (cond (drawB ops.toList ops.toList.length [] && Region.noSelect ops.toList.toArray)
          ⟨fun self Y hr ro t m => match (cDraw P ops.toList ops.toList.length []).r ro hr (callF P E inl (self Y.sub) ro) [] t m with
            | some outs => match agreeF (rlen m) outs with
              | some l => some (nrmR l)
              | none => none
            | none => none⟩ ⟨fun _ _ _ _ _ _ => none⟩)
        ⟨fun self Y hr ro t m => match (cOps P ops.toList ops.toList).r (rapp hr ro) (callF P E inl (self Y.sub) ro hr) (Y.h ro hr) t m with
            | some l => some (nrmR l)
            | none => none⟩) ⟨fun _ _ _ _ _ _ => none⟩
  | .seq x y => ⟨fun self Y hr ro t m => bindS ((cCode P E inl nl x).r self Y hr ro t m) fun r => match r.1 with
      | .nrm => (cCode P E inl nl y).r self Y hr ro r.2.1 r.2.2
      | _ => some [r]⟩
  | .cond c x y => ⟨fun self Y hr ro t m => match (cOpd c).e t with
      | .u (.b b) => cond b ((cCode P E inl nl x).r self Y hr ro t m) ((cCode P E inl nl y).r self Y hr ro t m)
      | _ => none⟩
  | .block id c => ⟨fun self Y hr ro t m => bindS ((cCode P E inl nl c).r self Y hr ro t m) fun r => match r.1 with
      | .ext j => some [(cond (Nat.beq j id) .nrm (.ext j), r.2.1, r.2.2)]
      | _ => some [r]⟩
  | .loop c => ⟨fun self Y hr ro t m => rndsF (rlen m) (fun t m => (cCode P E inl nl c).r self Y hr ro t m) nl t m⟩
  | .exit id => ⟨fun _ _ _ _ t m => some [(.ext id, t, m)]⟩
  | .ret => ⟨fun _ _ _ _ t m => some [(.ret, t, m)]⟩
  | .scope c => cCode P E inl nl c
  | .label _ => ⟨fun _ _ _ _ t m => some [(.nrm, t, m)]⟩
  | .rangeFunc g ps assign body => ⟨fun self Y hr ro t m => match Y with
    | .out => (match (cOpd g).e t with
      | .f gi as' cs => match P.funcs[gi]? with
        | none => none
        | some fn => match fn.body with
          | none => none
          | some c => cond (fn.name == "runtime.NumGoroutine" || !noEx body) none (
            bindS (self (.it (rlen m) fun ro' hr' args m1 => match rget .x m1 (rlen m) with
                | .tk => cond (Nat.beq args.length ps.size) (bindS ((cCode P E inl nl assign).r self .rd hr' ro' (setAF t ps.toList args) (rset m1 (rlen m) .x)) fun r2 => match r2.1 with
                  | .nrm => bindS ((cCode P E inl nl body).r self .rd hr' ro' r2.2.1 r2.2.2) fun r3 => (match r3.1, rget .x r3.2.2 (rlen m) with
                    | .nrm, .x => some [(.u (.b true), rset r3.2.2 (rlen m) .tk)]
                    | _, _ => none)
                  | _ => none) none
                | _ => none) gi ro hr c (frameF P fn (rapp (rapp as' [.y (rlen m)]) cs)) (rapp m [.tk])) fun r => match retF P fn r with
              | some x => (match rget .x x.2 (rlen m) with
                | .tk => some [(.nrm, t, rset x.2 (rlen m) .x)]
                | _ => none)
              | none => none)
      | _ => none)
    | _ => none⟩
  | _ => ⟨fun _ _ _ _ _ _ => none⟩
theorem c_cond (c : Bool) (f g : CF) (self : SelfYE) (Y : YE) (hr ro : List Nat) (t : Fr) (m : Mem) : (cond c f g).r self Y hr ro t m = cond c (f.r self Y hr ro t m) (g.r self Y hr ro t m) := by cases c <;> rfl
theorem cCode_ok {P : Program} {E : SPE P} {inl : List Nat} {nl : Nat} {selfE : SelfYE} {self : SelfY} (hs : ∀ {Y : YE} {Z : YC}, Y.Ok Z → SelfEOk (selfE Y) (self Z)) {fi : Nat} :
    ∀ (c : Code) {Y : YE} {Z : YC} (hY : Y.Ok Z) {hr ro : List Nat} {t : Fr} {m : Mem} {rs : Ress} {Q : PostS}, (cCode P E inl nl c).r selfE Y hr ro t m = some rs → (∀ r ∈ rs, Q r.1 r.2.1.l r.2.2) → vcC P (HE E inl nl) self fi c Z hr ro Q t.l m := by
  have fj : ∀ a b c, findH (HE E inl nl).jo a b c = none := fun a b c => rfl
  have fl : ∀ a b c, findH (HE E inl nl).lo a b c = none := fun a b c => rfl
  intro c
  induction c with
  | skip => intro Y Z hY hr ro t m rs Q h hQ; simp only [cCode] at h; cases h; exact hQ (.nrm, t, m) (by simp)
  | exit id => intro Y Z hY hr ro t m rs Q h hQ; simp only [cCode] at h; cases h; exact hQ (.ext id, t, m) (by simp)
  | ret => intro Y Z hY hr ro t m rs Q h hQ; simp only [cCode] at h; cases h; exact hQ (.ret, t, m) (by simp)
  | label id => intro Y Z hY hr ro t m rs Q h hQ; simp only [cCode] at h; cases h; exact hQ (.nrm, t, m) (by simp)
  | scope c ih => intro Y Z hY hr ro t m rs Q h hQ; simp only [cCode] at h; simp only [vcC]; exact ih hY h hQ
  | region id ops d =>
    intro Y Z hY hr ro t m rs Q h hQ
    simp only [cCode] at h
    rw [c_cond, c_cond, c_cond] at h
    simp only [vcC]
    obtain ⟨h1, h2⟩ := condO h
    rw [h1]
    simp only [cond_true]
    cases d with
    | true =>
      simp only [cond_true] at h2 ⊢
      obtain ⟨h3, h4⟩ := condO h2
      rw [h3]
      simp only [cond_true]
      split at h4
      · rename_i outs ho
        split at h4
        · rename_i l ha
          cases h4
          rw [rlen_eq] at ha
          refine cDraw_ok (fun h5 => callF_ok (n := nl) (selfE := selfE Y.sub) (self := self Z.sub) (hs hY.sub)) ho fun x hx => ?_
          exact agreeF_ok ha (fun y hy => hQ (.nrm, y.1, y.2) (List.mem_map.2 ⟨y, hy, rfl⟩)) x hx
        · cases h4
      · cases h4
    | false =>
      simp only [cond_false] at h2 ⊢
      split at h2
      · rename_i l hl
        cases h2
        rw [rapp_eq] at hl
        exact cOps_ok (callF_ok (n := nl) (selfE := selfE Y.sub) (self := self Z.sub) (hs hY.sub)) hY.yh (K := Q .nrm) hl fun x hx => hQ (.nrm, x.1, x.2) (List.mem_map.2 ⟨x, hx, rfl⟩)
      · cases h2
  | seq x y ihx ihy =>
    intro Y Z hY hr ro t m rs Q h hQ
    simp only [cCode] at h
    simp only [vcC, fj]
    obtain ⟨l, h1, h2⟩ := bindS_ok h
    refine ihx hY h1 fun r hr => ?_
    obtain ⟨a, h3, h4⟩ := h2 r hr
    obtain ⟨e, t', m'⟩ := r
    cases e with
    | nrm => exact ihy hY h3 fun x hx => hQ x (h4 x hx)
    | ext i =>
      cases h3
      have := hQ (.ext i, t', m') (h4 _ (by simp))
      exact this
    | ret =>
      cases h3
      have := hQ (.ret, t', m') (h4 _ (by simp))
      exact this
  | cond c x y ihx ihy =>
    intro Y Z hY hr ro t m rs Q h hQ
    simp only [cCode] at h
    simp only [vcC]
    rw [cOpd_e] at h
    split at h
    · rename_i b hc
      rw [hc]
      dsimp only
      cases b
      · exact ihy hY h hQ
      · exact ihx hY h hQ
    · cases h
  | block id c ih =>
    intro Y Z hY hr ro t m rs Q h hQ
    simp only [cCode] at h
    simp only [vcC]
    obtain ⟨l, h1, h2⟩ := bindS_ok h
    refine ih hY h1 fun r hr => ?_
    obtain ⟨a, h3, h4⟩ := h2 r hr
    obtain ⟨e, t', m'⟩ := r
    cases e with
    | nrm =>
      cases h3
      have := hQ (.nrm, t', m') (h4 _ (by simp))
      exact this
    | ext j =>
      cases h3
      have := hQ (cond (Nat.beq j id) .nrm (.ext j), t', m') (h4 _ (by simp))
      simp only [blockS]
      dsimp only at this
      cases hb : Nat.beq j id with
      | true => rw [hb] at this; exact this
      | false => rw [hb] at this; exact this
    | ret =>
      cases h3
      have := hQ (.ret, t', m') (h4 _ (by simp))
      exact this
  | loop c ih =>
    intro Y Z hY hr ro t m rs Q h hQ
    simp only [cCode] at h
    simp only [vcC, fl]
    rw [rlen_eq] at h
    exact rndsF_ok (step := fun Q => vcC P (HE E inl nl) self fi c Z hr ro Q) (fun h1 h2 => ih hY h1 h2) h hQ
  | rangeFunc g ps assign body iha ihb =>
    intro Y Z hY hr ro t m rs Q h hQ
    cases Y with
    | rd => simp [cCode] at h
    | it b f => simp [cCode] at h
    | out =>
      cases Z with
      | rd => exact hY.elim
      | it b f => exact hY.elim
      | out =>
        simp only [cCode, cOpd_e, rlen_eq, rapp_eq, rget_mg, rset_eq] at h
        simp only [vcC]
        split at h
        · rename_i gi as' cs hg
          rw [hg]
          dsimp only
          split at h
          · cases h
          · rename_i fn hf
            rw [hf]
            dsimp only
            split at h
            · cases h
            · rename_i c hc
              rw [hc]
              dsimp only
              obtain ⟨h1, h2⟩ := condN h
              rw [h1]
              simp only [cond_false]
              obtain ⟨l, hl, h3⟩ := bindS_ok h2
              rw [show frameG P (HE E inl nl).gc fn (as' ++ [V.y m.length] ++ cs) = (frameF P fn (as' ++ [V.y m.length] ++ cs)).l from (frameF_l P fn _).symm]
              refine hs ?_ (Q := retG P true fn fun _ m' => isY (mg m' m.length) (Q .nrm t.l (ms m' m.length .x))) hl fun r1 hr1 => ?_
              · refine ⟨rfl, fun {ro' hr' args m1 r2 K} h3 hK => ?_⟩
                dsimp only at h3 ⊢
                split at h3
                · rename_i htk1
                  obtain ⟨h4, h5⟩ := condO h3
                  rw [htk1]
                  simp only [isY, h4, cond_true]
                  obtain ⟨l2, hl2, h6⟩ := bindS_ok h5
                  rw [← ms_set] at hl2
                  rw [← setAF_l]
                  refine iha (Y := .rd) (Z := .rd) trivial hl2 fun q hq => ?_
                  obtain ⟨a, h7, h8⟩ := h6 q hq
                  obtain ⟨e2, t2, m2⟩ := q
                  cases e2 with
                  | nrm =>
                    dsimp only at h7
                    obtain ⟨l3, hl3, h9⟩ := bindS_ok h7
                    refine ihb (Y := .rd) (Z := .rd) trivial hl3 fun q3 hq3 => ?_
                    obtain ⟨a3, h10, h11⟩ := h9 q3 hq3
                    obtain ⟨e3, t3, m3⟩ := q3
                    cases e3 with
                    | nrm =>
                      dsimp only at h10
                      dsimp only
                      split at h10
                      · rename_i hx1 hx
                        cases h10
                        rw [hx]
                        have := hK (.u (.b true), m3.set m.length .tk) (h8 _ (h11 _ (by simp)))
                        rw [ms_set]; exact this
                      · cases h10
                    | ext i => cases h10
                    | ret => cases h10
                  | ext i => cases h7
                  | ret => cases h7
                · cases h3
              · obtain ⟨a, h4, h5⟩ := h3 r1 hr1
                split at h4
                · rename_i x hx
                  refine retF_ok hx ?_
                  split at h4
                  · rename_i htk
                    cases h4
                    rw [htk]
                    have := hQ (.nrm, t, x.2.set m.length .x) (h5 _ (by simp))
                    dsimp only [isY]
                    rw [ms_set]; exact this
                  · cases h4
                · cases h4
        · cases h
  | _ => intro Y Z hY hr ro t m rs Q h hQ; simp [cCode] at h
noncomputable def runF (P : Program) (E : SPE P) (inl : List Nat) (nl : Nat) (n : Nat) : SelfYE :=
  Nat.rec (motive := fun _ => SelfYE) (fun _ _ _ _ _ _ _ => none) (fun _ ih Y _ ro hr c t m => (cCode P E inl nl c).r ih Y hr ro t m) n
theorem runF_ok {P : Program} {E : SPE P} {inl : List Nat} {nl : Nat} : ∀ (n : Nat) {Y : YE} {Z : YC}, Y.Ok Z → SelfEOk (runF P E inl nl n Y) (runS P (HE E inl nl) n Z)
  | 0, _, _, _ => fun h _ => by cases h
  | n + 1, _, _, hY => fun h hQ => cCode_ok (self := runS P (HE E inl nl) n) (runF_ok n) _ hY h hQ
def endTE (x : V) (m : Mem) (ix : List Nat) : Option (V × Mem) :=
  cond (allIn ix (refsV x) && allIn ix (ix.flatMap fun b => refsA (mg m b)) && below m.length ix) (some (renV (fun b => posL ix b 0) x, subM m ix)) none
def endE (own : Bool) (n : Nat) (r : V × Mem) : Option (V × Mem) :=
  match frzX own r.2 r.1 with
  | none => none
  | some (x1, m1) => endTE x1 m1 (clo m1 1000 (refsV x1 ++ (m1.take n).flatMap refsA) (List.range n))
theorem endE_ok {own : Bool} {n : Nat} {r x : V × Mem} {Q : V → Mem → Prop} (h : endE own n r = some x) (hQ : Q x.1 x.2) : endS own n Q r.1 r.2 := by
  unfold endE at h
  unfold endS
  split at h
  · cases h
  · rename_i x1 m1 hf
    rw [hf]
    dsimp only
    unfold endTE at h
    unfold endT
    obtain ⟨h1, h2⟩ := condO h
    cases h2
    rw [h1]; exact hQ
end Go.Proofs.YtmafjaglalggkaaGreat

/- The fast evaluator, part f: a run piece by piece. -/
set_option linter.unusedVariables false
namespace Go.Proofs.YtmafjaglalggkaaGreat
open Go
variable {P : Program} {E : SPE P} {inl : List Nat} {nl n : Nat}
noncomputable abbrev CodeE (P : Program) (E : SPE P) (inl : List Nat) (nl n : Nat) (c : Code) (t : Fr) (m : Mem) : Option Ress := (cCode P E inl nl c).r (runF P E inl nl n) .out [] [] t m
noncomputable def evK (P : Program) (E : SPE P) (inl : List Nat) (nl n : Nat) : Nat → Code → Fr → Mem → Option (Fr × Mem)
  | 0, _, t, m => some (t, m)
  | k + 1, .seq x y, t, m => match CodeE P E inl nl n x t m with
    | some [(.nrm, t1, m1)] => evK P E inl nl n k y t1 m1
    | _ => none
  | _ + 1, _, _, _ => none
def dropK : Nat → Code → Code
  | 0, c => c
  | k + 1, .seq _ y => dropK k y
  | _ + 1, c => c
def bodyOf (fn : Func) : Code := match fn.body with
  | some c => c
  | none => .skip
end Go.Proofs.YtmafjaglalggkaaGreat

/- Lemmas for proofs of what the symbolic engine asks: lists in loops, data, ends of calls. -/
set_option linter.unusedVariables false
namespace Go.Proofs.YtmafjaglalggkaaGreat
open Go Go.Proofs
section
variable {α β : Type} {L l : List α} {a : α} {x : Int} {e : α → β}
theorem elL_of {γ : Type} {R : List γ} {r : γ} {K : γ → Prop} (h0 : 0 ≤ x) (h : R[x.toNat]? = some r) : elL R x K = K r := by
  obtain ⟨k, rfl⟩ := Int.eq_ofNat_of_zero_le h0
  simp only [Int.toNat_natCast] at h
  show (match R[k]? with | some r => K r | none => False) = K r
  rw [h]
variable {P : List α → Prop}
end
section
variable {α β : Type} {L l t : List α} {a : α} {x : Int} {e : α → β}
end
section
variable {r : List U} {u : U} {K : Int → Prop} {n : Int} {s j : Nat}
theorem dL_l {c : List (List U)} {K : List (List U) → Prop} : dL s (some (.l s c)) K = K c := by
  show cond (Nat.beq s s) (K c) False = K c
  rw [show Nat.beq s s = true from Nat.beq_refl s]; rfl
end
section
variable {m : Mem} {n n' : Int} {b : Bool} {s z z' E : Nat} {r r' : List (List U)} {x : ByteArray} {p : Option (List U)}
theorem post_B {F : Bool → Prop} : post [.B] [] F (.u (.b b)) m = F b := rfl
end
theorem PRun.mono {P : Program} {g : FuncId} {m : Mem} {args : List V} {Q Q' : V → Mem → Prop} (h : PRun P g m args Q) (k : ∀ x m', Q x m' → Q' x m') : PRun P g m args Q' :=
  fun D ρ chs C hp vs M F => (h D ρ chs C hp vs M F).mono fun _ _ ⟨D', ρ', chs', x, m', a, b, c, d⟩ => ⟨D', ρ', chs', x, m', a, b, c, k _ _ d⟩
end Go.Proofs.YtmafjaglalggkaaGreat

/- What the functions do, written by program (psv.py) and held against the program by the kernel. -/
set_option linter.unusedVariables false
set_option maxRecDepth 100000
namespace Go.Proofs.YtmafjaglalggkaaGreat
open Go Go.Proofs
theorem mixT30 : Tryz.prog.follows .mixedOrders = true := by kernel_rfl
theorem S5 {w_0 : Int} {w_1 : Int} {w_2 : List (List U)} {w_3 : List (List U)} {w_4 : List (List U)} {w_5 : List (List U)} {w_6 : List (List U)} {w_7 : List (List U)} {w_8 : Int} {w_9 : List (List U)} {w_10 : List (List U)} {w_11 : List (List U)} {w_12 : List (List U)} {w_13 : List (List U)} {w_14 : Int} {w_15 : List (List U)} {Q : V → Mem → Prop} (hh : ∀ k1 : Prop, ((∀ k2 : Prop, ((∀ k3 : Prop, ((∀ k4 : Bool → Prop, (∀ b1 : Bool, ((bif b1 then (bif decide ((List.length w_9 : Int) ≤ 20) then (bif decide ((List.length w_10 : Int) ≤ 12) then (bif decide ((List.length w_11 : Int) ≤ 12) then PRun Tryz.prog 17 [] [.l 2 w_12] (post [.B] [] (fun b2 => (bif b2 then (bif decide ((List.length w_13 : Int) ≤ 40) then Q (.u (.b (decide ((List.length w_15 : Int) ≤ 40)))) [] else Q (.u (.b false)) []) else Q (.u (.b false)) [] : Prop))) else Q (.u (.b false)) []) else Q (.u (.b false)) []) else Q (.u (.b false)) []) else Q (.u (.b false)) [])) → k4 b1) → (bif decide ((List.length w_2 : Int) ≤ 40) then (bif decide ((List.length w_3 : Int) ≤ 40) then (bif decide ((List.length w_4 : Int) ≤ 40) then (bif decide ((List.length w_5 : Int) ≤ 40) then (bif decide ((List.length w_6 : Int) ≤ 60) then k4 (decide ((List.length w_7 : Int) ≤ 20)) else k4 false) else k4 false) else k4 false) else k4 false) else k4 false)) → k3) → ∃ (I1 : Int → Prop) (f1 : Int → Nat), I1 0 ∧ (∀ x1 : Int, I1 x1 → (bif decide (x1 < (List.length w_11 : Int)) then (bif decide (x1 < 12) then elL w_11 x1 (fun r1 => dL 2 (ug r1 13) (fun l1 => (bif decide ((List.length l1 : Int) > 12) then Q (.u (.b false)) [] else elL w_11 x1 (fun r2 => dL 2 (ug r2 14) (fun l2 => (bif decide ((List.length l2 : Int) > 12) then Q (.u (.b false)) [] else I1 (IntKind.wrap .i64 (x1 + 1)) ∧ f1 (IntKind.wrap .i64 (x1 + 1)) < f1 x1)))))) else k3) else k3))) → k2) → ∃ (I2 : Int → Prop) (f2 : Int → Nat), I2 0 ∧ (∀ x2 : Int, I2 x2 → (bif decide (x2 < (List.length w_10 : Int)) then (bif decide (x2 < 12) then elL w_10 x2 (fun r3 => dL 2 (ug r3 11) (fun l3 => (bif decide ((List.length l3 : Int) > 12) then Q (.u (.b false)) [] else I2 (IntKind.wrap .i64 (x2 + 1)) ∧ f2 (IntKind.wrap .i64 (x2 + 1)) < f2 x2))) else k2) else k2))) → k1) → ∃ (I3 : Int → Prop) (f3 : Int → Nat), I3 0 ∧ (∀ x3 : Int, I3 x3 → (bif decide (x3 < (List.length w_9 : Int)) then (bif decide (x3 < 20) then elL w_9 x3 (fun r4 => dL 1 (ug r4 0) (fun l4 => (bif decide ((List.length l4 : Int) > 12) then Q (.u (.b false)) [] else elL w_9 x3 (fun r5 => dL 1 (ug r5 1) (fun l5 => (bif decide ((List.length l5 : Int) > 12) then Q (.u (.b false)) [] else I3 (IntKind.wrap .i64 (x3 + 1)) ∧ f3 (IntKind.wrap .i64 (x3 + 1)) < f3 x3)))))) else k1) else k1))) : PRun Tryz.prog 5 [] [.a [.i w_0, .i w_1, .l 2 w_2, .l 2 w_3, .l 2 w_4, .l 2 w_5, .l 5 w_6, .l 9 w_7, .i w_8, .l 2 w_9, .l 16 w_10, .l 19 w_11, .l 2 w_12, .l 3 w_13, .i w_14, .l 4 w_15]] Q :=
  funS2 mixT30 Tryz.func5 (by kernel_rfl) (H := ⟨[((5, 2, 1), ⟨[(3, .I)], []⟩), ((5, 7, 1), ⟨[(4, .I)], []⟩), ((5, 12, 1), ⟨[(5, .I)], []⟩)], [((5, 6, 1), ⟨[], []⟩), ((5, 11, 1), ⟨[], []⟩), ((5, 16, 1), ⟨[], []⟩), ((5, 17, 1), ⟨[(6, .B)], []⟩)], [], [], [], false, 64, KN.no, false, SP.no⟩) (n := 2) (by kernel_rfl) hh
theorem S17 {l : List (List U)} {Q : V → Mem → Prop} (hh : ∃ (I1 : Int → Prop) (f1 : Int → Nat), I1 0 ∧ (∀ x1 : Int, I1 x1 → (bif decide (x1 < (List.length l : Int)) then (bif decide (x1 < 8) then elL l x1 (fun r1 => dL 2 (ug r1 1) (fun l1 => (bif decide ((List.length l1 : Int) > 20) then Q (.u (.b false)) [] else I1 (IntKind.wrap .i64 (x1 + 1)) ∧ f1 (IntKind.wrap .i64 (x1 + 1)) < f1 x1))) else Q (.u (.b (decide ((List.length l : Int) ≤ 8)))) []) else Q (.u (.b (decide ((List.length l : Int) ≤ 8)))) []))) : PRun Tryz.prog 17 [] [.l 2 l] Q :=
  funS2 mixT30 Tryz.func17 (by kernel_rfl) (H := ⟨[((17, 2, 0), ⟨[(3, .I)], []⟩)], [], [], [], [], false, 64, KN.no, false, SP.no⟩) (n := 2) (by kernel_rfl) hh
end Go.Proofs.YtmafjaglalggkaaGreat

/- A call of vault.whole, which defers, told by what it does. -/
set_option linter.unusedVariables false
namespace Go.Proofs.YtmafjaglalggkaaGreat
open Go Go.Proofs
variable {P : Program} {D D' : Fz} {ρ ρ' : List Loc} {m m' : Mem} {chs C : List Chunk} {h h' : Heap} {ro hr : List Nat}
end Go.Proofs.YtmafjaglalggkaaGreat

/- Calls that are known (what they come to is shown elsewhere), within closed runs; runs piece by piece, with such calls. -/
set_option linter.unusedVariables false
namespace Go.Proofs.YtmafjaglalggkaaGreat
open Go Go.Proofs
variable {P : Program} {D D' : Fz} {ρ ρ' : List Loc} {m m' : Mem} {chs C : List Chunk} {h h' : Heap} {ro hr : List Nat}
def overL : Mem → List Nat → List AB → Mem
  | m, j :: js, a :: al => overL (ms m j a) js al
  | m, _, _ => m
theorem overL_len : ∀ (js : List Nat) (al : List AB) (m : Mem), (overL m js al).length = m.length
  | [], al, m => by cases al <;> rfl
  | j :: js, [], m => rfl
  | j :: js, a :: al, m => by simp only [overL]; rw [overL_len js al, ms_len]
theorem overL_S : ∀ {js : List Nat} {al : List AB} {cs : List Chunk} {m : Mem} {c : List Chunk}, js.length = al.length → cs.length = al.length → SAt D ρ m c (cs ++ C) h → js.Nodup →
    (∀ (i j : Nat) (a : AB) (ch : Chunk), js[i]? = some j → al[i]? = some a → cs[i]? = some ch → j < m.length ∧ ∃ L, ρ[j]? = some L ∧ Ent D ρ L a ch) →
    ∃ c', SAt D ρ (overL m js al) c' C h ∧ ∀ b, b ∉ js → c'[b]? = c[b]? ∧ mg (overL m js al) b = mg m b
  | [], [], cs, m, c, h1, h2, M, hn, he => by
    have : cs = [] := List.eq_nil_of_length_eq_zero (by simpa using h2)
    subst this
    exact ⟨c, M, fun b _ => ⟨rfl, rfl⟩⟩
  | j :: js, a :: al, ch :: cs, m, c, h1, h2, M, hn, he => by
    obtain ⟨hj, L, hL, hE⟩ := he 0 j a ch rfl rfl rfl
    have M2 : SAt D ρ (ms m j a) (c.set j ch) (cs ++ C) h := M.over hj hL hE
    have hn2 := List.nodup_cons.1 hn
    obtain ⟨c', M3, g⟩ := overL_S (js := js) (al := al) (cs := cs) (by simpa using h1) (by simpa using h2) M2 hn2.2 fun i j' a' ch' q1 q2 q3 => by
      obtain ⟨w1, w2⟩ := he (i + 1) j' a' ch' (by simpa using q1) (by simpa using q2) (by simpa using q3)
      exact ⟨by rw [ms_len]; exact w1, w2⟩
    refine ⟨c', M3, fun b hb => ?_⟩
    simp only [List.mem_cons, not_or] at hb
    obtain ⟨g1, g2⟩ := g b hb.2
    refine ⟨by rw [g1, List.getElem?_set_ne (Ne.symm hb.1)], ?_⟩
    simp only [overL]
    rw [g2, mg_ms_ne (Ne.symm hb.1)]
  | [], _ :: _, _, _, _, h1, _, _, _, _ => by simp at h1
  | _ :: _, [], _, _, _, h1, _, _, _, _ => by simp at h1
  | _ :: _, _ :: _, [], _, _, _, h2, _, _, _ => by simp at h2
def fK (ix : List Nat) (n i : Nat) : Nat := cond (Nat.ble (i + 1) ix.length) (nthN ix i) (n + (i - ix.length))
def backM (m : Mem) (ix : List Nat) (M' : Mem) : Mem :=
  overL (killM m ix ++ List.replicate (M'.length - ix.length) .x) (ix ++ List.range' m.length (M'.length - ix.length)) (M'.map (renA (fK ix m.length)))
theorem fK_lt {ix : List Nat} {n i b : Nat} (h : ix[i]? = some b) : fK ix n i = b := by
  have : i < ix.length := by
    rcases Nat.lt_or_ge i ix.length with h1 | h1
    · exact h1
    · rw [List.getElem?_eq_none h1] at h; cases h
  unfold fK
  rw [Nat.ble_eq_true_of_le this, cond_true]
  exact nthN_eq h
theorem fK_ge {ix : List Nat} {n k : Nat} : fK ix n (ix.length + k) = n + k := by
  unfold fK
  have : Nat.ble (ix.length + k + 1) ix.length = false := by
    cases e : Nat.ble (ix.length + k + 1) ix.length with
    | false => rfl
    | true => have := Nat.le_of_ble_eq_true e; omega
  rw [this, cond_false]; omega
def KnP (P : Program) (ro : List Nat) (g : FuncId) (args : List V) (m : Mem) (K : V → Mem → Prop) : Prop :=
  ∃ (ix : List Nat) (R : V) (M' : Mem), ix.Nodup ∧ (∀ b ∈ ix, b < m.length ∧ b ∉ ro) ∧ (∀ b ∈ ix, ∀ c ∈ refsA (mg m b), c ∈ ix) ∧ (∀ b ∈ refsL args, b ∈ ix) ∧
    PRun P g (subM m ix) (renL (fun b => posL ix b 0) args) (fun x m' => x = R ∧ m' = M') ∧ K (renV (fK ix m.length) R) (backM m ix M')
theorem xs_S : ∀ (k : Nat) {ρ : List Loc} {m : Mem} {chs C : List Chunk} {s : List Loc}, SAt D ρ m chs C h → s.length = k → SAt D (ρ ++ s) (m ++ List.replicate k .x) (chs ++ List.replicate k []) C h
  | 0, ρ, m, chs, C, s, M, hs => by
    have : s = [] := List.eq_nil_of_length_eq_zero hs
    subst this
    simpa using M
  | k + 1, ρ, m, chs, C, [], M, hs => by simp at hs
  | k + 1, ρ, m, chs, C, L :: s, M, hs => by
    have M1 : SAt D (ρ ++ [L]) (m ++ [.x]) (chs ++ [[]]) C h := SAt.push (ch := []) ⟨M.len, M.lch, M.ent, by
      have := M.st
      refine this.perm ?_
      simp⟩ .x
    have := xs_S k (s := s) M1 (by simpa using hs)
    simpa [List.append_assoc, List.replicate_succ] using this
theorem known_S {X : Fz → List Loc → Prop} {g : FuncId} {args : List V} {KS : V → Mem → Prop} (hs : KnP P (hr ++ ro) g args m KS) {vs : List Value} (M : SAt D ρ m chs C h) (ha : RpL D ρ vs args) : Run P g vs h (PostE ro hr D ρ m chs C KS) := by
  obtain ⟨ix, R, M', hnd, hb, hcl, har, hrun, hK⟩ := hs
  obtain ⟨c', cs, hcs, Mk, gk, Ms⟩ := M.sub2 hnd (fun b h => (hb b h).1) hcl
  have ra' := (ren_all (D := D) (ρ := ρ) (f := fun b => posL ix b 0) (ρ' := ix.map fun b => (ρ[b]?).getD ⟨0, none, 0, 0, none⟩)).2.1 ha fun b hb L hL => by
    obtain ⟨k, h4, h5⟩ := posL_get (k := 0) (har b hb)
    rw [h4, Nat.zero_add, List.getElem?_map, h5, Option.map_some, hL]; rfl
  refine (hrun D _ cs (c' ++ C) h vs Ms ra').mono ?_
  rintro v h' ⟨D2, s, cs2, x, m', le, Ms2, hv, rfl, rfl⟩
  -- al many blocks al places
  have l1 := Ms2.len
  have l2 := Ms2.lch
  simp only [List.length_append, List.length_map] at l1
  have hk : m'.length - ix.length = s.length := by omega
  have Mk2 : SAt D2 ρ (killM m ix) c' (cs2 ++ C) h' := ⟨Mk.len, Mk.lch, fun i L ab ch q1 q2 q3 => by have := (Mk.ent i L ab ch q1 q2 q3).mono le (s := []); rwa [List.append_nil] at this, Ms2.st.perm (by
    simp only [List.flatten_append]
    exact List.perm_append_comm_assoc _ _ _)⟩
  have Mx := xs_S (m'.length - ix.length) (s := s) Mk2 hk.symm
  have lm : (killM m ix).length = m.length := killM_len _ _
  have fin : ∀ {i : Nat} {L : Loc}, ((ix.map fun b => (ρ[b]?).getD ⟨0, none, 0, 0, none⟩) ++ s)[i]? = some L → (ρ ++ s)[fK ix m.length i]? = some L := by
    intro i L hL
    rcases Nat.lt_or_ge i ix.length with hi | hi
    · have e := List.getElem?_eq_getElem hi
      rw [List.getElem?_append_left (by simpa using hi), List.getElem?_map, e, Option.map_some] at hL
      rw [fK_lt e]
      have hlt : ix[i] < ρ.length := by rw [M.len]; exact (hb _ (List.getElem_mem hi)).1
      rw [List.getElem?_append_left hlt, List.getElem?_eq_getElem hlt]
      rw [List.getElem?_eq_getElem hlt, Option.getD_some] at hL
      exact hL
    · obtain ⟨k, rfl⟩ := Nat.exists_eq_add_of_le hi
      rw [List.getElem?_append_right (by simp)] at hL
      rw [fK_ge, List.getElem?_append_right (by rw [M.len]; omega)]
      have e1 : m.length + k - ρ.length = k := by rw [M.len]; omega
      have e2 : ix.length + k - (ix.map fun b => (ρ[b]?).getD ⟨0, none, 0, 0, none⟩).length = k := by simp
      rw [e2] at hL
      rw [e1]; exact hL
  have hjs : ∀ (i j : Nat), (ix ++ List.range' m.length (m'.length - ix.length))[i]? = some j → i < m'.length ∧ j = fK ix m.length i ∧ j < m.length + (m'.length - ix.length) := by
    intro i j hj
    rcases Nat.lt_or_ge i ix.length with hi | hi
    · rw [List.getElem?_append_left hi] at hj
      exact ⟨by omega, (fK_lt hj).symm, by have := (hb j (List.mem_of_getElem? hj)).1; omega⟩
    · obtain ⟨k, rfl⟩ := Nat.exists_eq_add_of_le hi
      rw [List.getElem?_append_right (by omega)] at hj
      have hk2 : ix.length + k - ix.length < m'.length - ix.length := by
        rcases Nat.lt_or_ge (ix.length + k - ix.length) (m'.length - ix.length) with q | q
        · exact q
        · rw [List.getElem?_eq_none (by simpa using q)] at hj; cases hj
      rw [List.getElem?_range' hk2] at hj
      simp only [Option.some.injEq] at hj
      rw [fK_ge]
      omega
  obtain ⟨c2, M3, g3⟩ := overL_S (js := ix ++ List.range' m.length (m'.length - ix.length)) (al := m'.map (renA (fK ix m.length))) (cs := cs2) (by simp; omega) (by simp [l2]) Mx (by
      refine List.nodup_append.2 ⟨hnd, List.nodup_range', ?_⟩
      intro a ha b hb2 e
      subst e
      have := (hb a ha).1
      have := List.mem_range'_1.1 hb2
      omega) fun i j a ch q1 q2 q3 => by
    obtain ⟨hi, rfl, hlt⟩ := hjs i j q1
    refine ⟨by simp only [List.length_append, List.length_replicate, lm]; exact hlt, ?_⟩
    simp only [List.getElem?_map] at q2
    obtain ⟨a0, ha0, rfl⟩ := Option.map_eq_some_iff.1 q2
    have hiL : i < ((ix.map fun b => (ρ[b]?).getD ⟨0, none, 0, 0, none⟩) ++ s).length := by simp; omega
    have e := List.getElem?_eq_getElem hiL
    exact ⟨_, fin e, (Ms2.ent i _ a0 ch e ha0 q3).ren fun b _ L hL => fin hL⟩
  have hv3 := (ren_all (D := D2) (f := fK ix m.length) (ρ' := ρ ++ s)).1 hv fun b _ L hL => fin hL
  refine ⟨D2, ρ ++ s, _, c2, _, ⟨le, ⟨s, rfl⟩, fun b h1 h2 => ?_, fun b h1 h2 => ?_, ?_⟩, M3, hv3, hK⟩
  · have hni : b ∉ ix := fun hbi => (hb b hbi).2 (List.mem_append.2 (.inl (inL_iff.1 h1)))
    have hnj : b ∉ ix ++ List.range' m.length (m'.length - ix.length) := by
      intro hh
      rcases List.mem_append.1 hh with q | q
      · exact hni q
      · have := List.mem_range'_1.1 q; omega
    rw [(g3 b hnj).1, List.getElem?_append_left (by rw [Mk.lch, lm]; exact h2), (gk b hni).1]
  · have hni : b ∉ ix := fun hbi => (hb b hbi).2 (inL_iff.1 h1)
    have hnj : b ∉ ix ++ List.range' m.length (m'.length - ix.length) := by
      intro hh
      rcases List.mem_append.1 hh with q | q
      · exact hni q
      · have := List.mem_range'_1.1 q; omega
    have := (g3 b hnj).2
    show mg (overL _ _ _) b = _
    rw [this, mg_app (by rw [lm]; exact h2), (gk b hni).2]
  · rw [overL_len]
    simp only [List.length_append, lm]; omega
def spKn (S : SP P) (Gs : List Nat) : SP P where
  f ro call g args m K := cond (inL Gs g) (some (KnP P ro g args m K)) (S.f ro call g args m K)
  ok := by
    intro ro hr X call hX hcall g args m KS p hs hp D ρ chs C h vs xx M ha
    cases hg : inL Gs g with
    | true =>
      rw [hg] at hs
      simp only [cond_true, Option.some.injEq] at hs
      subst hs
      exact known_S (X := X) hp M ha
    | false => rw [hg] at hs; exact S.ok hX hcall hs hp xx M ha
noncomputable def speKn (E : SPE P) (Gs : List Nat) : SPE P where
  sp := spKn E.sp Gs
  e ro callE g args m := cond (inL Gs g) (some none) (E.e ro callE g args m)
  ok := by
    intro ro callE call hc g args m rs K h hK
    cases hg : inL Gs g with
    | true => rw [hg] at h; cases h
    | false =>
      rw [hg] at h
      obtain ⟨p, h3, h4⟩ := E.ok hc h hK
      exact ⟨p, by show cond (inL Gs g) _ _ = _; rw [hg]; exact h3, h4⟩
  no := by
    intro ro callE call g args m K h
    cases hg : inL Gs g with
    | true => rw [hg] at h; cases h
    | false => rw [hg] at h; show cond (inL Gs g) _ _ = _; rw [hg]; exact E.no h
variable {E : SPE P} {inl : List Nat} {nl n fi : Nat}
structure Ev (P : Program) (E : SPE P) (inl : List Nat) (nl n fi : Nat) (c : Code) (t : Fr) (m : Mem) (rs : Ress) : Prop where
  go : ∀ {Q : PostS}, (∀ r ∈ rs, Q r.1 r.2.1.l r.2.2) → vcC P (HE E inl nl) (runS P (HE E inl nl) n) fi c .out [] [] Q t.l m
theorem Ev.code {c : Code} {t : Fr} {m : Mem} {rs : Ress} (h : CodeE P E inl nl n c t m = some rs) : Ev P E inl nl n fi c t m rs :=
  ⟨fun hQ => cCode_ok (selfE := runF P E inl nl n) (self := runS P (HE E inl nl) n) (runF_ok n) c (Y := .out) (Z := .out) trivial h hQ⟩
theorem Ev.seq {x y : Code} {t t1 : Fr} {m m1 : Mem} {rs : Ress} (hx : Ev P E inl nl n fi x t m [(.nrm, t1, m1)]) (hy : Ev P E inl nl n fi y t1 m1 rs) : Ev P E inl nl n fi (.seq x y) t m rs := by
  refine ⟨fun {Q} hQ => ?_⟩
  have fj : ∀ a b c, findH (HE E inl nl).jo a b c = none := fun a b c => rfl
  simp only [vcC, fj]
  exact hx.go fun r hr => by rw [List.mem_singleton.1 hr]; exact hy.go hQ
theorem Ev.pieces : ∀ {k : Nat} {c : Code} {t t1 : Fr} {m m1 : Mem} {rs : Ress}, evK P E inl nl n k c t m = some (t1, m1) → Ev P E inl nl n fi (dropK k c) t1 m1 rs → Ev P E inl nl n fi c t m rs
  | 0, c, t, t1, m, m1, rs, h, hy => by cases h; exact hy
  | k + 1, .seq x y, t, t1, m, m1, rs, h, hy => by
    simp only [evK] at h
    split at h
    · rename_i t2 m2 h2
      exact Ev.seq (Ev.code h2) (Ev.pieces h hy)
    · cases h
  | _ + 1, .skip, _, _, _, _, _, h, _ => by simp [evK] at h
  | _ + 1, .region .., _, _, _, _, _, h, _ => by simp [evK] at h
  | _ + 1, .cond .., _, _, _, _, _, h, _ => by simp [evK] at h
  | _ + 1, .block .., _, _, _, _, _, h, _ => by simp [evK] at h
  | _ + 1, .loop .., _, _, _, _, _, h, _ => by simp [evK] at h
  | _ + 1, .exit .., _, _, _, _, _, h, _ => by simp [evK] at h
  | _ + 1, .ret, _, _, _, _, _, h, _ => by simp [evK] at h
  | _ + 1, .scope .., _, _, _, _, _, h, _ => by simp [evK] at h
  | _ + 1, .label .., _, _, _, _, _, h, _ => by simp [evK] at h
  | _ + 1, .rangeFunc .., _, _, _, _, _, h, _ => by simp [evK] at h
  | _ + 1, .goto .., _, _, _, _, _, h, _ => by simp [evK] at h
theorem opsSY_app {vw : Bool} {call : CallH} {yh : Nat → List V → Mem → (V → Mem → Prop) → Prop} {ops : List Oper} {K : List V → Mem → Prop} : ∀ (l1 l2 : List Oper) (t : List V) (m : Mem),
    opsSY P vw ro call yh ops K (l1 ++ l2) t m = opsSY P vw ro call yh ops (fun t m => opsSY P vw ro call yh ops K l2 t m) l1 t m
  | [], l2, t, m => rfl
  | o :: l1, l2, t, m => by
    simp only [List.cons_append, opsSY, opsSY_app l1 l2]
theorem cond_brk {b : Bool} {x y : Code} {c : Operand} {t : Fr} {m : Mem} {rs : Ress} (hc : (cOpd c).e t = .u (.b b)) (h : Ev P E inl nl n fi (cond b x y) t m rs) : Ev P E inl nl n fi (.cond c x y) t m rs := by
  refine ⟨fun {Q} hQ => ?_⟩
  rw [cOpd_e] at hc
  simp only [vcC]
  rw [hc]
  have := h.go hQ
  cases b <;> exact this
end Go.Proofs.YtmafjaglalggkaaGreat

/- Runs piece by piece: rules that a program prints the use of. -/
set_option linter.unusedVariables false
namespace Go.Proofs.YtmafjaglalggkaaGreat
open Go Go.Proofs
variable {P : Program} {E S : SPE P} {inl Gs : List Nat} {nl n fi : Nat}
def cSeq : Code → Bool
  | .seq .. => true
  | _ => false
def cL : Code → Code
  | .seq x _ => x
  | c => c
def cR : Code → Code
  | .seq _ y => y
  | c => c
theorem cSeq_eq {c : Code} (h : cSeq c = true) : c = .seq (cL c) (cR c) := by cases c <;> first | rfl | cases h
theorem Ev.seqP {c : Code} {t t1 : Fr} {m m1 : Mem} {rs : Ress} (hs : cSeq c = true) (hx : Ev P E inl nl n fi (cL c) t m [(.nrm, t1, m1)]) (hy : Ev P E inl nl n fi (cR c) t1 m1 rs) : Ev P E inl nl n fi c t m rs := by
  rw [cSeq_eq hs]; exact Ev.seq hx hy
theorem Ev.seqE {c : Code} {t t1 : Fr} {m m1 : Mem} {e : Ex} (he : e ≠ .nrm) (hs : cSeq c = true) (hx : Ev P E inl nl n fi (cL c) t m [(e, t1, m1)]) : Ev P E inl nl n fi c t m [(e, t1, m1)] := by
  rw [cSeq_eq hs]
  refine ⟨fun {Q} hQ => ?_⟩
  have fj : ∀ a b c, findH (HE E inl nl).jo a b c = none := fun a b c => rfl
  simp only [vcC, fj]
  refine hx.go fun r hr => ?_
  rw [List.mem_singleton.1 hr]
  have := hQ _ (List.mem_singleton_self _)
  cases e with
  | nrm => exact absurd rfl he
  | ret => exact this
  | ext j => exact this
def cCond : Code → Bool
  | .cond .. => true
  | _ => false
def cO : Code → Operand
  | .cond c _ _ => c
  | _ => .tmp 0
def cT : Code → Code
  | .cond _ x _ => x
  | c => c
def cF : Code → Code
  | .cond _ _ y => y
  | c => c
theorem cCond_eq {c : Code} (h : cCond c = true) : c = .cond (cO c) (cT c) (cF c) := by cases c <;> first | rfl | cases h
theorem Ev.condT {c : Code} {t : Fr} {m : Mem} {rs : Ress} (hs : cCond c = true) (hc : (cOpd (cO c)).e t = .u (.b true)) (h : Ev P E inl nl n fi (cT c) t m rs) : Ev P E inl nl n fi c t m rs := by
  rw [cCond_eq hs]; exact cond_brk hc h
theorem Ev.condF {c : Code} {t : Fr} {m : Mem} {rs : Ress} (hs : cCond c = true) (hc : (cOpd (cO c)).e t = .u (.b false)) (h : Ev P E inl nl n fi (cF c) t m rs) : Ev P E inl nl n fi c t m rs := by
  rw [cCond_eq hs]; exact cond_brk hc h
def cReg : Code → Bool
  | .region _ _ false => true
  | _ => false
def cOp : Code → List Oper
  | .region _ ops _ => ops.toList
  | _ => []
def opAt : List Oper → Nat → Oper
  | o :: _, 0 => o
  | _ :: l, n + 1 => opAt l n
  | [], _ => ⟨none, .move (.tmp 0), 0, "", #[], none⟩
def opCall (o : Oper) : Bool :=
  match o.op with
  | .call ⟨.value _, _, _⟩ => true
  | _ => false
def opF (o : Oper) : Operand :=
  match o.op with
  | .call ⟨.value f, _, _⟩ => f
  | _ => .tmp 0
def opArgs (o : Oper) : List Operand :=
  match o.op with
  | .call ⟨.value _, l, _⟩ => l.toList
  | _ => []
theorem op_split : ∀ {l : List Oper} {k : Nat}, k < l.length → l = l.take k ++ opAt l k :: l.drop (k + 1)
  | [], k, h => by simp at h
  | o :: l, 0, h => rfl
  | o :: l, k + 1, h => by
    show o :: l = o :: (l.take k ++ opAt l k :: l.drop (k + 1))
    rw [← op_split (by simpa using h)]
def okIx (ix : List Nat) (args : List V) (m : Mem) : Bool := below m.length ix && allIn ix (refsL args) && allIn ix (ix.flatMap fun b => refsA (mg m b))
noncomputable abbrev regE (P : Program) (E : SPE P) (inl : List Nat) (nl n : Nat) (L l : List Oper) (t : Fr) (m : Mem) : Option OutsF := (cOps P L l).r [] (callF P E inl (runF P E inl nl n .out) [] []) ((YE.out).h [] []) t m
structure EvO (P : Program) (E : SPE P) (inl : List Nat) (nl n : Nat) (L l : List Oper) (t : Fr) (m : Mem) (outs : OutsF) : Prop where
  go : ∀ {K : List V → Mem → Prop}, (∀ x ∈ outs, K x.1.l x.2) → opsSY P true [] (callH P (HE E inl nl) (runS P (HE E inl nl) n .out) [] []) (YC.out.h [] []) L K l t.l m
theorem callOk0 : CallEOk (callF P E inl (runF P E inl nl n .out) [] []) (callH P (HE E inl nl) (runS P (HE E inl nl) n .out) [] []) :=
  callF_ok (n := nl) (selfE := runF P E inl nl n .out) (self := runS P (HE E inl nl) n .out) (runF_ok n (Y := .out) (Z := .out) trivial)
theorem yhOk0 : YhOk ((YE.out).h [] []) (YC.out.h [] []) := YE.Ok.yh (Y := .out) (Z := .out) trivial
theorem EvO.ops {L l : List Oper} {t : Fr} {m : Mem} {outs : OutsF} (h : regE P E inl nl n L l t m = some outs) : EvO P E inl nl n L l t m outs :=
  ⟨fun hK => cOps_ok callOk0 yhOk0 h hK⟩
theorem Ev.reg {c : Code} {t : Fr} {m : Mem} {outs : OutsF} (hr : cReg c = true) (hd : ((cOp c).all fun o => !isDefer o) = true) (h : EvO P E inl nl n (cOp c) (cOp c) t m outs) : Ev P E inl nl n fi c t m (nrmR outs) := by
  obtain ⟨id, ops, rfl⟩ : ∃ id ops, c = .region id ops false := by cases c <;> first | (rename_i d; cases d <;> first | exact ⟨_, _, rfl⟩ | cases hr) | cases hr
  refine ⟨fun {Q} hQ => ?_⟩
  simp only [cOp] at *
  simp only [vcC]
  rw [hd]
  simp only [cond_true, cond_false]
  exact h.go (K := Q .nrm) fun x hx => hQ (.nrm, x.1, x.2) (List.mem_map.2 ⟨x, hx, rfl⟩)
theorem EvO.op {L l : List Oper} {k : Nat} {t t1 t2 : Fr} {m m1 : Mem} {outs : OutsF} {v : V} (hk : Nat.ble (k + 1) l.length = true)
    (h1 : regE P E inl nl n L (l.take k) t m = some [(t1, m1)]) (hg : (cG L (opAt l k)).g t1 = some (true, t2))
    (hy : yieldOf t2.l (opAt l k) = none) (hq : quietB (opAt l k) = true) (hst : strO P (opAt l k) = false) (hv : (cQ P (opAt l k)).q t2 m1 = some v)
    (h2 : EvO P E inl nl n L (l.drop (k + 1)) ((cPut (opAt l k).dst).p t2 v) m1 outs) : EvO P E inl nl n L l t m outs := by
  refine ⟨fun {K} hK => ?_⟩
  have hl := op_split (Nat.le_of_ble_eq_true hk)
  suffices hs : opsSY P true [] (callH P (HE E inl nl) (runS P (HE E inl nl) n .out) [] []) (YC.out.h [] []) L K (l.take k ++ opAt l k :: l.drop (k + 1)) t.l m by rw [← hl] at hs; exact hs
  rw [opsSY_app]
  refine cOps_ok callOk0 yhOk0 h1 fun x hx => ?_
  rw [List.mem_singleton.1 hx]
  dsimp only
  simp only [opsSY]
  refine guardE_ok (cG_some hg) ?_
  simp only [cond_true]
  rw [hy]
  dsimp only
  unfold opS
  simp only [cond_true, hq]
  rw [strP_none hst]
  dsimp only
  rw [cQ_eq] at hv
  have := h2.go hK
  rw [cPut_eq] at this
  exact quietE_ok (K := fun v => opsSY P true [] (callH P (HE E inl nl) (runS P (HE E inl nl) n .out) [] []) (YC.out.h [] []) L K (l.drop (k + 1)) (vput t2.l (opAt l k).dst v) m1) hv this
theorem EvO.not {L l : List Oper} {k : Nat} {t t1 t2 : Fr} {m m1 : Mem} {outs : OutsF} (hk : Nat.ble (k + 1) l.length = true)
    (h1 : regE P E inl nl n L (l.take k) t m = some [(t1, m1)]) (hg : (cG L (opAt l k)).g t1 = some (false, t2))
    (h2 : EvO P E inl nl n L (l.drop (k + 1)) ((cPut (opAt l k).dst).p t2 (.t [])) m1 outs) : EvO P E inl nl n L l t m outs := by
  refine ⟨fun {K} hK => ?_⟩
  have hl := op_split (Nat.le_of_ble_eq_true hk)
  suffices hs : opsSY P true [] (callH P (HE E inl nl) (runS P (HE E inl nl) n .out) [] []) (YC.out.h [] []) L K (l.take k ++ opAt l k :: l.drop (k + 1)) t.l m by rw [← hl] at hs; exact hs
  rw [opsSY_app]
  refine cOps_ok callOk0 yhOk0 h1 fun x hx => ?_
  rw [List.mem_singleton.1 hx]
  dsimp only
  simp only [opsSY]
  refine guardE_ok (cG_some hg) ?_
  simp only [cond_false]
  have := h2.go hK
  rw [cPut_eq] at this
  exact this
theorem EvO.call {L l : List Oper} {k : Nat} {t t1 t2 : Fr} {m m1 M' ms : Mem} {outs : OutsF} {args al a cc : List V} {g : FuncId} {R : V} (ix : List Nat) (hk : Nat.ble (k + 1) l.length = true)
    (h1 : regE P (speKn S Gs) inl nl n L (l.take k) t m = some [(t1, m1)]) (hg : (cG L (opAt l k)).g t1 = some (true, t2))
    (hc : opCall (opAt l k) = true) (hf : (cOpd (opF (opAt l k))).e t2 = .f g a cc) (hin : inL Gs g = true) (hargs : a ++ evA t2 (cOpds (opArgs (opAt l k))) ++ cc = args)
    (hn : ix.Nodup) (hix : okIx ix args m1 = true) (hm : subM m1 ix = ms) (ha : renL (fun b => posL ix b 0) args = al) (hp : PRun P g ms al fun x m' => x = R ∧ m' = M')
    (h2 : EvO P (speKn S Gs) inl nl n L (l.drop (k + 1)) ((cPut (opAt l k).dst).p t2 (renV (fK ix m1.length) R)) (backM m1 ix M') outs) : EvO P (speKn S Gs) inl nl n L l t m outs := by
  refine ⟨fun {K} hK => ?_⟩
  have hl := op_split (Nat.le_of_ble_eq_true hk)
  suffices hs : opsSY P true [] (callH P (HE (speKn S Gs) inl nl) (runS P (HE (speKn S Gs) inl nl) n .out) [] []) (YC.out.h [] []) L K (l.take k ++ opAt l k :: l.drop (k + 1)) t.l m by rw [← hl] at hs; exact hs
  rw [opsSY_app]
  refine cOps_ok callOk0 yhOk0 h1 fun x hx => ?_
  rw [List.mem_singleton.1 hx]
  dsimp only
  simp only [opsSY]
  refine guardE_ok (cG_some hg) ?_
  simp only [cond_true]
  generalize hoo : opAt l k = o at *
  obtain ⟨dst, op, ty, pos, after, guard⟩ := o
  obtain ⟨f, al', tys, rfl⟩ : ∃ f al' tys, op = .call ⟨.value f, al', tys⟩ := by
    unfold opCall at hc
    split at hc
    · rename_i f l tys he; exact ⟨f, l, tys, he⟩
    · cases hc
  have hf : evS t2.l f = .f g a cc := by rw [← cOpd_e]; exact hf
  have hargs : a ++ al'.toList.map (evS t2.l) ++ cc = args := by rw [← evA_eq]; exact hargs
  have hy : yieldOf t2.l (⟨dst, .call ⟨.value f, al', tys⟩, ty, pos, after, guard⟩ : Oper) = none := by unfold yieldOf; simp only [hf]
  rw [hy]
  dsimp only
  unfold opS
  have hq : quietB (⟨dst, .call ⟨.value f, al', tys⟩, ty, pos, after, guard⟩ : Oper) = false := rfl
  simp only [cond_true, hq, cond_false]
  rw [strP_none rfl]
  dsimp only
  unfold effS
  simp only [hf]
  rw [hargs]
  unfold callH
  have e : (HE (speKn S Gs) inl nl).sp.f ([] ++ []) (callH0 P (HE (speKn S Gs) inl nl) (runS P (HE (speKn S Gs) inl nl) n .out) [] []) g args m1 = fun K => some (KnP P [] g args m1 K) := by
    funext K
    show cond (inL Gs g) _ _ = _
    rw [hin]; rfl
  rw [e]
  subst hm ha
  simp only [okIx, Bool.and_eq_true] at hix
  refine ⟨ix, R, M', hn, fun b hb => ⟨below_iff hix.1.1 b hb, by simp⟩, fun b hb c hc => allIn_iff hix.2 c (List.mem_flatMap.2 ⟨b, hb, hc⟩), allIn_iff hix.1.2, hp, ?_⟩
  have := h2.go hK
  rw [cPut_eq] at this
  exact this
noncomputable def endKT (P : Program) (fn : Func) (m : Mem) (r : Res) : Option (V × Mem) :=
  match retF P fn r with
  | some x => endE false m.length x
  | none => none
theorem Ev.runT (hmix : P.follows .mixedOrders = true) {f : FuncId} {fn : Func} (hf : P.funcs[f]? = some fn) (hn : (fn.name == "runtime.NumGoroutine") = false) {c : Code} (hc : fn.body = some c) {m : Mem} {args : List V} {r : Res} (h : Ev P E inl nl n f c (frameF P fn args) m [r]) {y : V × Mem} (he : endKT P fn m r = some y) : PRun P f m args fun x m' => x = y.1 ∧ m' = y.2 := by
  refine funSG hmix (H := HE E inl nl) (n := n + 1) (gc := true) hf hn hc ?_
  show vcC P (HE E inl nl) (runS P (HE E inl nl) n) f c .out [] [] _ _ m
  rw [← frameF_l]
  refine h.go fun x hx => ?_
  rw [List.mem_singleton.1 hx]
  unfold endKT at he
  split at he
  · rename_i z hz
    exact retF_ok hz (endE_ok he ⟨rfl, rfl⟩)
  · cases he
end Go.Proofs.YtmafjaglalggkaaGreat

/- Runs piece by piece: regions that draw their order, with calls that are known. -/
set_option linter.unusedVariables false
namespace Go.Proofs.YtmafjaglalggkaaGreat
open Go Go.Proofs
variable {P : Program} {E S : SPE P} {inl Gs : List Nat} {nl n fi : Nat}
end Go.Proofs.YtmafjaglalggkaaGreat

/- Runs piece by piece: frames and memories told by what is new in them; operations known under a hypothesis. -/
set_option linter.unusedVariables false
namespace Go.Proofs.YtmafjaglalggkaaGreat
open Go Go.Proofs
variable {P : Program} {E S : SPE P} {inl Gs : List Nat} {nl n fi : Nat}
noncomputable def puF : Fr → List (Nat × V) → Fr
  | t, [] => t
  | t, (i, v) :: l => puF ((acc i).s t v) l
def paM : Mem → List (Nat × AB) → Mem → Mem
  | m, [], e => m ++ e
  | m, (i, a) :: l, e => paM (ms m i a) l e
theorem symE {x : Option V} {b c : Bool} (h : x = some (.u (.b b))) (hb : b = c) : x = some (.u (.b c)) := by rw [h, hb]
theorem Ev.codeA {c : Code} {t : Fr} {m : Mem} {rs : Ress} (h : CodeE P E inl nl n c t m = some rs := by kernel_rfl) : Ev P E inl nl n fi c t m rs := Ev.code h
theorem Ev.piecesA {k : Nat} {c : Code} {t t1 : Fr} {m m1 : Mem} {rs : Ress} (h2 : Ev P E inl nl n fi (dropK k c) t1 m1 rs) (h : evK P E inl nl n k c t m = some (t1, m1) := by kernel_rfl) : Ev P E inl nl n fi c t m rs := Ev.pieces h h2
theorem Ev.seqPA {c : Code} {t t1 : Fr} {m m1 : Mem} {rs : Ress} (hx : Ev P E inl nl n fi (cL c) t m [(.nrm, t1, m1)]) (hy : Ev P E inl nl n fi (cR c) t1 m1 rs) (hs : cSeq c = true := by kernel_rfl) : Ev P E inl nl n fi c t m rs := Ev.seqP hs hx hy
theorem Ev.regA {c : Code} {t t3 : Fr} {m m3 : Mem} (h : EvO P E inl nl n (cOp c) (cOp c) t m [(t3, m3)]) (hr : cReg c = true := by kernel_rfl) (hd : ((cOp c).all fun o => !isDefer o) = true := by kernel_rfl) : Ev P E inl nl n fi c t m [(.nrm, t3, m3)] := Ev.reg hr hd h
theorem EvO.opsA {L l : List Oper} {t : Fr} {m : Mem} {outs : OutsF} (h : regE P E inl nl n L l t m = some outs := by kernel_rfl) : EvO P E inl nl n L l t m outs := EvO.ops h
theorem EvO.opA {L l : List Oper} {k : Nat} {t t1 t2 : Fr} {m m1 : Mem} {outs : OutsF} {v : V} (hv : (cQ P (opAt l k)).q t2 m1 = some v)
    (h2 : EvO P E inl nl n L (l.drop (k + 1)) ((cPut (opAt l k).dst).p t2 v) m1 outs) (hk : Nat.ble (k + 1) l.length = true := by kernel_rfl)
    (h1 : regE P E inl nl n L (l.take k) t m = some [(t1, m1)] := by kernel_rfl) (hg : (cG L (opAt l k)).g t1 = some (true, t2) := by kernel_rfl)
    (hy : yieldOf t2.l (opAt l k) = none := by kernel_rfl) (hq : quietB (opAt l k) = true := by kernel_rfl) (hst : strO P (opAt l k) = false := by kernel_rfl) : EvO P E inl nl n L l t m outs := EvO.op hk h1 hg hy hq hst hv h2
theorem EvO.callA {L l : List Oper} {k : Nat} {t t1 t2 : Fr} {m m1 M' ms : Mem} {outs : OutsF} {args al a cc : List V} {g : FuncId} {R : V} {ix : List Nat} (hp : PRun P g ms al fun x m' => x = R ∧ m' = M')
    (h2 : EvO P (speKn S Gs) inl nl n L (l.drop (k + 1)) ((cPut (opAt l k).dst).p t2 (renV (fK ix m1.length) R)) (backM m1 ix M') outs) (hk : Nat.ble (k + 1) l.length = true := by kernel_rfl)
    (h1 : regE P (speKn S Gs) inl nl n L (l.take k) t m = some [(t1, m1)] := by kernel_rfl) (hg : (cG L (opAt l k)).g t1 = some (true, t2) := by kernel_rfl)
    (hc : opCall (opAt l k) = true := by kernel_rfl) (hf : (cOpd (opF (opAt l k))).e t2 = .f g a cc := by kernel_rfl) (hin : inL Gs g = true := by kernel_rfl) (hargs : a ++ evA t2 (cOpds (opArgs (opAt l k))) ++ cc = args := by kernel_rfl)
    (hn : ix.Nodup := by decide) (hix : okIx ix args m1 = true := by kernel_rfl) (hm : subM m1 ix = ms := by kernel_rfl) (ha : renL (fun b => posL ix b 0) args = al := by kernel_rfl) : EvO P (speKn S Gs) inl nl n L l t m outs :=
  EvO.call ix hk h1 hg hc hf hin hargs hn hix hm ha hp h2
theorem Ev.runA (E : SPE P) {f : FuncId} {fn : Func} (hf : P.funcs[f]? = some fn) {c : Code} {m m1 : Mem} {args : List V} {r : Res} {x : V} (h : Ev P E (List.range 600) 300 60 f c (frameF P fn args) m [r]) (he : endKT P fn m r = some (x, m1) := by kernel_rfl)
    (hmix : P.follows .mixedOrders = true := by kernel_rfl) (hn : (fn.name == "runtime.NumGoroutine") = false := by kernel_rfl) (hc : fn.body = some c := by kernel_rfl) : PRun P f m args fun y m' => y = x ∧ m' = m1 := Ev.runT hmix hf hn hc h he
end Go.Proofs.YtmafjaglalggkaaGreat

/- From the symbolic engine's runs to the rows. -/
set_option linter.unusedVariables false
namespace Go.Proofs.YtmafjaglalggkaaGreat
open Go Go.Proofs Go.ChangeShapes Go.WideShapes Go.ChangeAt Go.RowKit
theorem Tryz.own : ownKnob Tryz.prog.godebug = none := by kernel_rfl
theorem Tryz.laidOut : laidOutB Tryz.prog = true := by kernel_rfl
theorem belowOf {W W' : World} (k : Keep W.heap W'.heap) (s : Same W W') : RowKit.Below W.heap.size W W' :=
  ⟨s.os, s.tape, s.output, k.size, fun b hb => k.blk b hb (by simp)⟩
theorem rp_agg {D : Fz} {cs : Array Value} {us : List U} (h : RdL D (Value.agg cs).cells.toList us) : Rp D [] (.agg cs) (.a (us.map .u)) := by
  obtain ⟨cs⟩ := cs
  exact .a (RpC.ofU h)
theorem rd_scalar {D : Fz} {v : Value} {x : U} (hv : ∀ cs, v ≠ .agg cs) (h : RdL D v.cells.toList [x]) : Rd D v x := by
  have e : v.cells.toList = [v] := by cases v <;> first | rfl | exact absurd rfl (hv _)
  rw [e] at h
  cases h with | cons a _ => exact a
theorem rd_string {P : Program} {w : World} {r : Reach} {b t : Nat} {v : Value} {D : Fz} {x : U} (hv : Value.okWide P w r b t v) (hu : P.underlying t = some .string) (h : RdL D v.cells.toList [x]) : Rd D v x := by
  refine rd_scalar (fun cs e => ?_) h
  subst e
  unfold Value.okWide at hv
  rw [hu] at hv
  simp only [Cell.okWide, hu, Cell.ok] at hv
theorem SAt.all (h : Heap) : SAt (allD h) [] [] [] [] h := ⟨rfl, rfl, fun i L ab ch h => by simp at h, by simpa using St.all h⟩
end Go.Proofs.YtmafjaglalggkaaGreat

/- Has a world few parts? (the law StateNone) -/
set_option linter.unusedVariables false
namespace Go.Proofs.YtmafjaglalggkaaGreat
open Go Go.Proofs
variable {Q : V → Mem → Prop}
open Classical in
noncomputable def few1 (i n : Nat) (l : List (List U)) (k : Nat) : Bool := decide (∀ (x : Nat) (r : List U), x < n → l[x]? = some r → ∀ s A, ug r i = some (.l s A) → A.length ≤ k)
open Classical in
theorem few1_t {i n k : Nat} {l : List (List U)} (h : ∀ (x : Nat) (r : List U), x < n → l[x]? = some r → ∀ s A, ug r i = some (.l s A) → A.length ≤ k) : few1 i n l k = true := decide_eq_true h
open Classical in
theorem few1_f {i n k x : Nat} {l : List (List U)} {r : List U} (hx : x < n) (hr : l[x]? = some r) {s : Nat} {A : List (List U)} (ha : ug r i = some (.l s A)) (h : k < A.length) : few1 i n l k = false := decide_eq_false fun g => by have := g x r hx hr s A ha; omega
def LsAt (s : Nat) (is : List Nat) (l : List (List U)) : Prop := ∀ r ∈ l, ∀ i ∈ is, ∃ A, ug r i = some (.l s A)
noncomputable def fewG (w12 : List (List U)) : Bool := few1 1 8 w12 20 && decide ((w12.length : Int) ≤ 8)
theorem fewG_S {l : List (List U)} (hl : LsAt 2 [1] l) (k : Q (.u (.b (fewG l))) []) : PRun Tryz.prog 17 [] [.l 2 l] Q := by
  have fin : (∀ (x : Nat) (r : List U), x < 8 → l[x]? = some r → ∀ s A, ug r 1 = some (.l s A) → A.length ≤ 20) → Q (.u (.b (decide ((List.length l : Int) ≤ 8)))) [] := fun h => by
    unfold fewG at k
    rwa [few1_t h, Bool.true_and] at k
  refine S17 ⟨fun x => 0 ≤ x ∧ x ≤ 8 ∧ ∀ (i : Nat) (r : List U), (i : Int) < x → l[i]? = some r → ∀ s A, ug r 1 = some (.l s A) → A.length ≤ 20, fun x => (8 - x).toNat, ⟨by omega, by omega, fun i b h => by omega⟩, ?_⟩
  rintro x ⟨h0, h8, hx⟩
  refine cIf (fun h1 => cIf (fun h2 => ?_) fun h2 => fin fun i r hi hr => hx i r (by omega) hr) fun h1 => fin fun i r hi hr => hx i r (by
    have := (List.getElem?_eq_some_iff.1 hr).1
    omega) hr
  have hlt : x.toNat < l.length := by omega
  obtain ⟨A, ha⟩ := hl _ (List.getElem_mem hlt) 1 (by simp)
  rw [elL_of (r := l[x.toNat]) h0 (by simp [hlt]), ha, dL_l]
  refine cIf (fun h => ?_) fun h => ⟨⟨by rw [w64 (by omega) (by omega)]; omega, by rw [w64 (by omega) (by omega)]; omega, fun i r hi hr => ?_⟩, by rw [w64 (by omega) (by omega)]; dsimp only; omega⟩
  · unfold fewG at k
    rwa [few1_f (x := x.toNat) (by omega) (by simp [hlt]) ha (by omega), Bool.false_and] at k
  rw [w64 (by omega) (by omega)] at hi
  by_cases he : (i : Int) < x
  · exact hx i r he hr
  · have : i = x.toNat := by omega
    subst this
    rw [List.getElem?_eq_getElem hlt] at hr
    cases hr
    intro s B hB
    rw [ha] at hB
    cases hB
    omega
theorem few1_loop {s i n k : Nat} {l : List (List U)} (hl : LsAt s [i] l) (hn : n ≤ 1000) {K F : Prop} (hK : few1 i n l k = true → K) (hF : few1 i n l k = false → F) :
    ∃ (I : Int → Prop) (f : Int → Nat), I 0 ∧ (∀ x : Int, I x → (bif decide (x < (List.length l : Int)) then (bif decide (x < (n : Int)) then elL l x (fun r => dL s (ug r i) (fun A => (bif decide ((List.length A : Int) > (k : Int)) then F else I (IntKind.wrap .i64 (x + 1)) ∧ f (IntKind.wrap .i64 (x + 1)) < f x))) else K) else K)) := by
  refine ⟨fun x => 0 ≤ x ∧ x ≤ n ∧ ∀ (j : Nat) (r : List U), (j : Int) < x → l[j]? = some r → ∀ s A, ug r i = some (.l s A) → A.length ≤ k, fun x => (n - x).toNat, ⟨by omega, by omega, fun j b h => by omega⟩, ?_⟩
  rintro x ⟨h0, h8, hx⟩
  refine cIf (fun h1 => cIf (fun h2 => ?_) fun h2 => hK (few1_t fun j r hi hr => hx j r (by omega) hr)) fun h1 => hK (few1_t fun j r hi hr => hx j r (by
    have := (List.getElem?_eq_some_iff.1 hr).1
    omega) hr)
  have hlt : x.toNat < l.length := by omega
  obtain ⟨A, ha⟩ := hl _ (List.getElem_mem hlt) i (by simp)
  rw [elL_of (r := l[x.toNat]) h0 (by simp [hlt]), ha, dL_l]
  refine cIf (fun h => hF (few1_f (x := x.toNat) (by omega) (by simp [hlt]) ha (by omega))) fun h => ⟨⟨by rw [w64 (by omega) (by omega)]; omega, by rw [w64 (by omega) (by omega)]; omega, fun j r hi hr => ?_⟩, by rw [w64 (by omega) (by omega)]; dsimp only; omega⟩
  rw [w64 (by omega) (by omega)] at hi
  by_cases he : (j : Int) < x
  · exact hx j r he hr
  · have : j = x.toNat := by omega
    subst this
    rw [List.getElem?_eq_getElem hlt] at hr
    cases hr
    intro s B hB
    rw [ha] at hB
    cases hB
    omega
theorem few2_loop {s i i2 n k : Nat} {l : List (List U)} (hl : LsAt s [i, i2] l) (hn : n ≤ 1000) {K F : Prop} (hK : (few1 i n l k && few1 i2 n l k) = true → K) (hF : (few1 i n l k && few1 i2 n l k) = false → F) :
    ∃ (I : Int → Prop) (f : Int → Nat), I 0 ∧ (∀ x : Int, I x → (bif decide (x < (List.length l : Int)) then (bif decide (x < (n : Int)) then elL l x (fun r => dL s (ug r i) (fun A => (bif decide ((List.length A : Int) > (k : Int)) then F else elL l x (fun r => dL s (ug r i2) (fun A => (bif decide ((List.length A : Int) > (k : Int)) then F else I (IntKind.wrap .i64 (x + 1)) ∧ f (IntKind.wrap .i64 (x + 1)) < f x)))))) else K) else K)) := by
  refine ⟨fun x => 0 ≤ x ∧ x ≤ n ∧ ∀ (j : Nat) (r : List U), (j : Int) < x → l[j]? = some r → (∀ s A, ug r i = some (.l s A) → A.length ≤ k) ∧ ∀ s A, ug r i2 = some (.l s A) → A.length ≤ k, fun x => (n - x).toNat, ⟨by omega, by omega, fun j b h => by omega⟩, ?_⟩
  rintro x ⟨h0, h8, hx⟩
  have all : (∀ (j : Nat) (r : List U), j < n → l[j]? = some r → (∀ s A, ug r i = some (.l s A) → A.length ≤ k) ∧ ∀ s A, ug r i2 = some (.l s A) → A.length ≤ k) → K := fun h => hK (by rw [few1_t fun j r hj hr => (h j r hj hr).1, few1_t fun j r hj hr => (h j r hj hr).2]; rfl)
  refine cIf (fun h1 => cIf (fun h2 => ?_) fun h2 => all fun j r hi hr => hx j r (by omega) hr) fun h1 => all fun j r hi hr => hx j r (by
    have := (List.getElem?_eq_some_iff.1 hr).1
    omega) hr
  have hlt : x.toNat < l.length := by omega
  obtain ⟨A, ha⟩ := hl _ (List.getElem_mem hlt) i (by simp)
  obtain ⟨B, hb⟩ := hl _ (List.getElem_mem hlt) i2 (by simp)
  rw [elL_of (r := l[x.toNat]) h0 (by simp [hlt])]
  rw [ha, dL_l]
  refine cIf (fun h => hF (by rw [few1_f (x := x.toNat) (by omega) (by simp [hlt]) ha (by omega)]; rfl)) fun h => ?_
  rw [elL_of (r := l[x.toNat]) h0 (by simp [hlt])]
  rw [hb, dL_l]
  refine cIf (fun h => hF (by rw [few1_f (i := i2) (x := x.toNat) (by omega) (by simp [hlt]) hb (by omega), Bool.and_false])) fun h' => ⟨⟨by rw [w64 (by omega) (by omega)]; omega, by rw [w64 (by omega) (by omega)]; omega, fun j r hi hr => ?_⟩, by rw [w64 (by omega) (by omega)]; dsimp only; omega⟩
  rw [w64 (by omega) (by omega)] at hi
  by_cases he : (j : Int) < x
  · exact hx j r he hr
  · have : j = x.toNat := by omega
    subst this
    rw [List.getElem?_eq_getElem hlt] at hr
    cases hr
    refine ⟨fun s B' hB => ?_, fun s B' hB => ?_⟩
    · rw [ha] at hB
      cases hB
      omega
    · rw [hb] at hB
      cases hB
      omega
theorem few30_S {w_0 : Int} {w_1 : Int} {w_2 : List (List U)} {w_3 : List (List U)} {w_4 : List (List U)} {w_5 : List (List U)} {w_6 : List (List U)} {w_7 : List (List U)} {w_8 : Int} {w_9 : List (List U)} {w_10 : List (List U)} {w_11 : List (List U)} {w_12 : List (List U)} {w_13 : List (List U)} {w_14 : Int} {w_15 : List (List U)}
    (h9 : LsAt 1 [0, 1] w_9) (h10 : LsAt 2 [11] w_10) (h11 : LsAt 2 [13, 14] w_11) (h12 : LsAt 2 [1] w_12) :
    ∃ b : Bool, PRun Tryz.prog 5 [] [.a [.i w_0, .i w_1, .l 2 w_2, .l 2 w_3, .l 2 w_4, .l 2 w_5, .l 5 w_6, .l 9 w_7, .i w_8, .l 2 w_9, .l 16 w_10, .l 19 w_11, .l 2 w_12, .l 3 w_13, .i w_14, .l 4 w_15]] fun x m => x = .u (.b b) ∧ m = [] := by
  cases hA : (few1 0 20 w_9 12 && few1 1 20 w_9 12) with
  | false => exact ⟨false, S5 fun k1 _ => few2_loop (n := 20) (k := 12) h9 (by omega) (fun h => by rw [hA] at h; cases h) fun _ => ⟨rfl, rfl⟩⟩
  | true =>
  cases hB : few1 11 12 w_10 12 with
  | false => exact ⟨false, S5 fun k1 hk1 => few2_loop (n := 20) (k := 12) h9 (by omega) (fun _ => hk1 fun k2 hk2 => few1_loop (n := 12) (k := 12) h10 (by omega) (fun h => by rw [hB] at h; cases h) fun _ => ⟨rfl, rfl⟩) fun h => by rw [hA] at h; cases h⟩
  | true =>
  cases hC : (few1 13 12 w_11 12 && few1 14 12 w_11 12) with
  | false => exact ⟨false, S5 fun k1 hk1 => few2_loop (n := 20) (k := 12) h9 (by omega) (fun _ => hk1 fun k2 hk2 => few1_loop (n := 12) (k := 12) h10 (by omega) (fun _ => hk2 fun k3 hk3 => few2_loop (n := 12) (k := 12) h11 (by omega) (fun h => by rw [hC] at h; cases h) fun _ => ⟨rfl, rfl⟩) fun h => by rw [hB] at h; cases h) fun h => by rw [hA] at h; cases h⟩
  | true =>
  generalize hR : (decide ((List.length w_2 : Int) ≤ 40) && decide ((List.length w_3 : Int) ≤ 40) && decide ((List.length w_4 : Int) ≤ 40) && decide ((List.length w_5 : Int) ≤ 40) && decide ((List.length w_6 : Int) ≤ 60) && decide ((List.length w_7 : Int) ≤ 20) && decide ((List.length w_9 : Int) ≤ 20) && decide ((List.length w_10 : Int) ≤ 12) && decide ((List.length w_11 : Int) ≤ 12) && fewG w_12 && decide ((List.length w_13 : Int) ≤ 40) && decide ((List.length w_15 : Int) ≤ 40)) = R
  refine ⟨R, S5 fun k1 hk1 => few2_loop (n := 20) (k := 12) h9 (by omega) (fun _ => hk1 fun k2 hk2 => few1_loop (n := 12) (k := 12) h10 (by omega) (fun _ => hk2 fun k3 hk3 => few2_loop (n := 12) (k := 12) h11 (by omega) (fun _ => hk3 ?_) fun h => by rw [hC] at h; cases h) fun h => by rw [hB] at h; cases h) fun h => by rw [hA] at h; cases h⟩
  intro k4 hk4
  have no : R = false → V.u (.b false) = .u (.b R) ∧ ([] : Mem) = [] := fun h => by rw [h]; exact ⟨rfl, rfl⟩
  have f : R = false → k4 false := fun h => hk4 false (no h)
  refine cB (fun h2 => cB (fun h3 => cB (fun h4 => cB (fun h5 => cB (fun h6 => hk4 _ (cB (fun h7 => cB (fun h9 => cB (fun h10 => cB (fun h11 => fewG_S h12 ?_) fun h => no ?_) fun h => no ?_) fun h => no ?_) fun h => no ?_)) fun h => f ?_) fun h => f ?_) fun h => f ?_) fun h => f ?_) fun h => f ?_
  · rw [post_B]
    refine cB (fun h12 => cB (fun h13 => ?_) fun h => no ?_) fun h => no ?_
    · rw [← hR, h2, h3, h4, h5, h6, h7, h9, h10, h11, h12, h13]
      exact ⟨rfl, rfl⟩
    all_goals rw [← hR, h]; simp
  all_goals rw [← hR, h]; simp
def lAt : Ds → Nat → Option Nat
  | .l z _ _, 0 => some z
  | .i _ r, n + 1 => lAt r n
  | .b r, n + 1 => lAt r n
  | .s r, n + 1 => lAt r n
  | .l _ _ r, n + 1 => lAt r n
  | _, _ => none
theorem lAt_S : ∀ {d : Ds} {i s : Nat} {r : List U}, lAt d i = some s → ShU d r → ∃ A, ug r i = some (.l s A)
  | .l z e d, 0, s, r, h, hr => by
    cases h
    obtain ⟨rows, us, rfl, -⟩ := hr
    exact ⟨rows, rfl⟩
  | .i k d, n + 1, s, r, h, hr => by
    obtain ⟨x, us, rfl, -, hr⟩ := hr
    exact lAt_S (d := d) (i := n) (r := us) h hr
  | .b d, n + 1, s, r, h, hr => by
    obtain ⟨x, us, rfl, hr⟩ := hr
    exact lAt_S (d := d) (i := n) (r := us) h hr
  | .s d, n + 1, s, r, h, hr => by
    obtain ⟨x, us, rfl, -, hr⟩ := hr
    exact lAt_S (d := d) (i := n) (r := us) h hr
  | .l z e d, n + 1, s, r, h, hr => by
    obtain ⟨rows, us, rfl, -, -, hr⟩ := hr
    exact lAt_S (d := d) (i := n) (r := us) h hr
  | .nil, _, _, _, h, _ => by cases h
  | .i .., 0, _, _, h, _ => by cases h
  | .b .., 0, _, _, h, _ => by cases h
  | .s .., 0, _, _, h, _ => by cases h
theorem lsAt_of {d : Ds} {s : Nat} {is : List Nat} {l : List (List U)} (hd : ∀ i ∈ is, lAt d i = some s) (h : ∀ r ∈ l, ShU d r) : LsAt s is l := fun r hr i hi => lAt_S (hd i hi) (h r hr)
end Go.Proofs.YtmafjaglalggkaaGreat

/- strings.Builder at the head of a block of any type: WriteString and String, told by what they do. -/
set_option linter.unusedVariables false
namespace Go.Proofs.YtmafjaglalggkaaGreat
open Go Go.Proofs
section
variable {P : Program}
theorem app_str {w : World} {t u ty e : TypeId} {i : TypeInfo} (ht : P.underlying t = some (.slice e)) (hu : P.underlying u = some .string) (hi : P.info? e = some i) (hz : i.zero = some (.int .u8 0)) (hsize : i.size = 1) (hby : i.bytes = 1)
    {v : Value} {n : Nat} {xs : List Value} (hown : w.ownsRow 0 e 1 v n xs) (s : ByteArray) (h63 : n + s.size ≤ 1000000) :
    ∃ v' w', (Builtin.append_ #[t, u] ty #[v, .string s]).run P w = .ok v' w' ∧ Same w w' ∧ w'.ownsRow 0 e 1 v' (n + s.size) (xs ++ Lib.strCells s) ∧ w.grownBy w' v.ownBlock ∧ (∀ g, v'.ownBlock = some g → v.ownBlock = some g ∨ w.heap.size ≤ g) := by
  have hxl : xs.length = n := by simpa using hown.1
  obtain ⟨v', w', hr, h2, h3, h4⟩ := Lib.run_append_own_string (P := P) w 0 t u ty e i ht hu hi hz hsize hby v n xs hown s (by unfold maxLen; omega) (by omega) (Nat.zero_le _)
  have key : ∃ v'' w'', (Builtin.append_ #[t, u] ty #[v, .string s]).run P w = .ok v'' w'' ∧ w.drawn ≤ w''.drawn ∧ (∀ g, v''.ownBlock = some g → v.ownBlock = some g ∨ w.heap.size ≤ g) := by
    rcases hown.2 with ⟨rfl, rfl⟩ | ⟨g, cap, cur, rfl, _, hg, hnc, hcm, hcs, htake⟩
    · by_cases hm : s.size = 0
      · have hf := Lib.run_firstCells_string (P := P) w 1 s
        rw [hm] at hf
        exact ⟨.slice none 0 0, w, by simp [Builtin.append_, run_underlying ht, run_underlying hu, sizeOf, typeInfo, hi, hsize, Builtin.lenOf, hm, hf], Nat.le_refl _, fun g hg => by simp [Value.ownBlock] at hg⟩
      · refine ⟨_, _, run_append_nil_string (P := P) w t u ty e i (.int .u8 0) ht hu hi hz s (by omega) (by omega) (by rw [hby]; omega), Nat.le_succ w.drawn, fun g hg => .inr ?_⟩
        simp only [Value.ownBlock, Option.some.injEq] at hg
        omega
    · have hcs' : cur.size = cap := by simpa using hcs
      by_cases hroom : n + s.size ≤ cap
      · exact ⟨_, _, Lib.run_append_room_string (P := P) w t u ty e i ht hu hi hsize g n cap cur hg s hroom (by omega), Nat.le_refl _, fun g' hg' => .inl (by simpa [Value.ownBlock] using hg')⟩
      · have holds : ∀ j u, xs[j]? = some u → w.cell? ((⟨g, 0, none⟩ : Addr).add j) = some u := hown.cells (g := g) rfl
        refine ⟨_, _, Lib.run_append_grow_string (P := P) w t u ty e i (.int .u8 0) ht hu hi hz ⟨g, 0, none⟩ n cap xs (by rw [hsize]; simpa using hxl) holds s (by omega) (by omega) (by rw [hby]; exact growslice_fits (by omega) (by omega)), Nat.le_succ w.drawn, fun g' hg' => .inr ?_⟩
        simp only [Value.ownBlock, Option.some.injEq] at hg'
        omega
  obtain ⟨v'', w'', hr2, hd, hg⟩ := key
  rw [hr] at hr2
  cases hr2
  exact ⟨v', w', hr, ⟨h3.tape, h3.os, h3.output, hd⟩, h2, h3, hg⟩
theorem wpl_app_str {ops : Array Oper} {rest : List Oper} {o : Oper} {a : Act} {w : World} {Q : Exit → Act → World → Prop} (hgd : o.guard = none) (sl x : Operand) (t u : TypeId)
    (ho : o.op = .call { callee := .builtin .append, args := #[sl, x], argTypes := #[t, u] })
    {e : TypeId} {i : TypeInfo} (ht : P.underlying t = some (.slice e)) (hu : P.underlying u = some .string) (hi : P.info? e = some i) (hz : i.zero = some (.int .u8 0)) (hsize : i.size = 1) (hby : i.bytes = 1)
    {v : Value} {n : Nat} {xs : List Value} (hs : a.eval sl = v) (hown : w.ownsRow 0 e 1 v n xs) (s : ByteArray) (hx : a.eval x = .string s) (h63 : n + s.size ≤ 1000000)
    (h : ∀ v' w', Same w w' → w'.ownsRow 0 e 1 v' (n + s.size) (xs ++ Lib.strCells s) → w.grownBy w' v.ownBlock → (∀ g, v'.ownBlock = some g → v.ownBlock = some g ∨ w.heap.size ≤ g) → wpList P ops Q rest (a.put o.dst v') w') : wpList P ops Q (o :: rest) a w := by
  refine wpList_plain hgd fun K hK => ?_
  obtain ⟨v', w', hr, h2, h3, h4, h5⟩ := app_str (P := P) (w := w) (ty := o.type) ht hu hi hz hsize hby hown s h63
  unfold Oper.wp execOp
  simp only [ho, resolve, invoke, builtin, Sem.run_bind, Sem.run_pure, Result.andThen_ok, List.map_toArray, List.map_cons, List.map_nil, hs, hx, hr]
  exact hK _ _ (h v' w' h2 h3 h4 h5)
end
structure BdT (T : TypeId) : Prop where
  lies : liesAt Tryz.prog (Tryz.prog).depth T (2 / (Tryz.prog).cellsOf T) 0 85 1 = true
  ne : T ≠ 5
abbrev bSelf (b : Nat) : Value := .pointer (some ⟨b, 0, none⟩)
theorem heap_set2 {w : World} {b : Nat} {p v q : Value} {T : TypeId} (hb : w.heap[b]? = some (.cells #[p, v] T (0, 0))) :
    (w.setCell ⟨b, 0, none⟩ q).heap[b]? = some (.cells #[q, v] T (0, 0)) ∧ (w.setCell ⟨b, 1, none⟩ q).heap[b]? = some (.cells #[p, q] T (0, 0)) := by
  constructor <;> simp [World.setCell, Array.getElem?_modify, hb]
theorem KB_set (w : World) (b o : Nat) (q : Value) : KB [b] w.heap (w.setCell ⟨b, o, none⟩ q).heap := ⟨by simp [World.setCell], fun k hk hb => by
  simp only [List.mem_singleton] at hb
  simp only [World.setCell, Array.getElem?_modify]
  rw [if_neg fun e => hb e.symm]⟩
def bytesN (s : ByteArray) : List Nat := s.data.toList.map fun c => c.toNat
theorem byteC_str (s : ByteArray) : byteC (bytesN s) = Lib.strCells s := by
  unfold byteC bytesN Lib.strCells
  rw [List.map_map]
  rfl
theorem bytesN_lt {s : ByteArray} : ∀ n ∈ bytesN s, n < 256 := by
  intro n hn
  obtain ⟨c, _, rfl⟩ := List.mem_map.1 hn
  exact c.toNat_lt
def bStr (l : List Nat) : ByteArray := ⟨(l.map fun n => UInt8.ofNat n).toArray⟩
theorem byteC_bytes {l : List Nat} (h : ∀ n ∈ l, n < 256) : byteC l = Lib.byteCells (l.map fun n => UInt8.ofNat n) := by
  unfold byteC Lib.byteCells
  rw [List.map_map]
  refine List.map_congr_left fun n hn => ?_
  have := h n hn
  simp only [Function.comp_def]
  have e : (UInt8.ofNat n).toNat = n := by simp; omega
  rw [e]; rfl
variable {D : Fz} {C : List Chunk}
theorem Bd.opens {T E : TypeId} {l : List Nat} {b : Nat} {ch : Chunk} {w : World} (hf : (⟨T, E, l⟩ : Bd).f D b ch) (S : St D (ch :: C) w.heap) :
    (∀ n ∈ l, n < 256) ∧ ∃ p v, (p = Value.pointer none ∨ p = bSelf b) ∧ w.heap[b]? = some (.cells #[p, v] T (0, 0)) ∧ w.ownsRow 0 E 1 v l.length (byteC l) ∧ v.ownBlock ≠ some b ∧ ch.map (·.1) = b :: v.ownBlock.toList := by
  obtain ⟨hl, p, hp, ⟨h1, h2⟩ | ⟨g, c, ps, h1, h2, h3, h4⟩⟩ := hf
  · dsimp only at h1 h2
    subst h1 h2
    exact ⟨hl, p, _, hp, S.get (by simp), World.ownsRow_nil _ _ _ _, by simp [Value.ownBlock], by simp [Value.ownBlock]⟩
  · dsimp only at h1 h3 h4
    subst h4
    have hnd := S.nd
    simp only [ids, List.flatten_cons, List.map_append, List.nodup_append] at hnd
    have hne : b ≠ g := by
      have := hnd.1
      simp only [List.map_cons, List.map_nil, List.nodup_cons, List.mem_singleton] at this
      exact this.1
    refine ⟨hl, p, _, hp, S.get (by simp), ⟨by simp, .inr ⟨g, c, _, rfl, Nat.zero_le _, S.get (o := .cells (byteC l ++ ps).toArray E (0, 0)) (by simp), h1, h2, ?_, ?_⟩⟩, by simp [Value.ownBlock]; exact fun e => hne e.symm, by simp [Value.ownBlock]⟩
    · simp only [List.size_toArray, List.length_append]; omega
    · simp
theorem Bd.closes {T E : TypeId} {l : List Nat} {b : Nat} {ch : Chunk} {h : Heap} {p v : Value} {w : World} {F : List Nat} (S : St D (ch :: C) h) (hF : ch.map (·.1) = F) (hbF : b ∈ F) (k : KB F h w.heap) (hl : ∀ n ∈ l, n < 256)
    (hp : p = Value.pointer none ∨ p = bSelf b) (hb : w.heap[b]? = some (.cells #[p, v] T (0, 0))) (ho : w.ownsRow 0 E 1 v l.length (byteC l)) (hne : v.ownBlock ≠ some b) (hg : ∀ g, v.ownBlock = some g → g ∈ F ∨ h.size ≤ g) :
    ∃ ch', (⟨T, E, l⟩ : Bd).f D b ch' ∧ St D (ch' :: C) w.heap := by
  subst hF
  rcases ho.2 with ⟨rfl, h0⟩ | ⟨g, cap, cur, rfl, _, hgg, hnc, hcm, hcs, htake⟩
  · have : l = [] := List.eq_nil_of_length_eq_zero h0
    subst this
    exact ⟨_, ⟨hl, p, hp, .inl ⟨rfl, rfl⟩⟩, S.upd k (fun q hq => by rw [List.mem_singleton.1 hq]; exact hb) (by simp) fun q hq => by rw [List.mem_singleton.1 hq]; exact .inl hbF⟩
  · have hgb : g ≠ b := fun e => hne (by rw [e]; rfl)
    have hcur : cur = (byteC l ++ cur.toList.drop l.length).toArray := by
      apply Array.ext'
      rw [Nat.mul_one] at htake
      conv => lhs; rw [← List.take_append_drop l.length cur.toList, htake]
    have hlen : (byteC l).length + (cur.toList.drop l.length).length = cap := by simp; omega
    refine ⟨_, ⟨hl, p, hp, .inr ⟨g, cap, cur.toList.drop l.length, hnc, hcm, hlen, rfl⟩⟩, S.upd k (fun q hq => ?_) ?_ fun q hq => ?_⟩
    · simp only [List.mem_cons, List.not_mem_nil, or_false] at hq
      rcases hq with rfl | rfl
      · exact hb
      · dsimp only; rw [← hcur]; exact hgg
    · simp; exact fun e => hgb e.symm
    · simp only [List.mem_cons, List.not_mem_nil, or_false] at hq
      rcases hq with rfl | rfl
      · exact .inl hbF
      · exact hg g rfl
section
set_option maxHeartbeats 1000000
set_option maxRecDepth 100000
theorem bd_copy1 (b : Nat) (w : World) (h0 : w.cell? ⟨b, 0, none⟩ = some (bSelf b)) : Calls Tryz.prog 132 #[bSelf b] w fun e w' => e = .returned (.tuple #[]) ∧ w' = w := by
  obtain ⟨j, hj, _⟩ : ∃ j, Tryz.prog.info? 85 = some j ∧ j.size = 2 := Option.map_eq_some_iff.1 (by kernel_rfl)
  go_enter Tryz.func132, Tryz.ntmps132
  go_wp2
  rw [Lib.run_neq_ptr_same w _ (tp := 82) (te := 85) (by kernel_rfl) hj]
  go_wp2
  go_end0
  exact ⟨rfl, rfl⟩
theorem bd_copy0 {T : TypeId} (hT : BdT T) (b : Nat) (v : Value) (w : World) (hb : w.heap[b]? = some (.cells #[.pointer none, v] T (0, 0))) :
    Calls Tryz.prog 132 #[bSelf b] w fun e w' => e = .returned (.tuple #[]) ∧ w' = w.setCell ⟨b, 0, none⟩ (bSelf b) := by
  obtain ⟨j, hj, hjs⟩ : ∃ j, Tryz.prog.info? 85 = some j ∧ j.size = 2 := Option.map_eq_some_iff.1 (by kernel_rfl)
  have h0 : w.cell? ⟨b, 0, none⟩ = some (.pointer none) := by rw [Lib.cell_of_heap hb]; rfl
  have hsh : w.shape? b = some (T, 2) := by simp [World.shape?, hb]
  have hfz : w.frozen? ⟨b, 0, none⟩ = false := Lib.frozen_of_heap hb 0
  have hlies := hT.lies
  clear hb
  go_enter Tryz.func132, Tryz.ntmps132
  go_wp2
  rw [Lib.run_to_unsafe w ⟨b, 0, none⟩ (src := 82) (dst := 255) (t := 85) (by kernel_rfl) (by kernel_rfl) hj (by rw [hjs]; decide) hsh (Nat.zero_lt_succ 1)]
  simp only [Result.andThen]
  rw [Oper.upon_value]
  go_wp2
  rw [run_callFunc_extern Tryz.func189 (by kernel_rfl) (by kernel_rfl) (by kernel_rfl) (e := Extern.AbiNoEscape.same) (by kernel_rfl)]
  rw [Lib.run_noEscape]
  simp only [Result.andThen]
  rw [Oper.upon_value]
  go_wp2
  rw [Lib.run_from_unsafe w ⟨b, 0, none⟩ (src := 255) (dst := 82) (u := 85) (by kernel_rfl) (by kernel_rfl) hj hsh hlies]
  simp only [Result.andThen]
  rw [Oper.upon_value]
  go_wp2
  go_end0
  exact ⟨rfl, rfl⟩
theorem bd_copy {T : TypeId} (hT : BdT T) (b : Nat) (p v : Value) (w : World) (hp : p = Value.pointer none ∨ p = bSelf b) (hb : w.heap[b]? = some (.cells #[p, v] T (0, 0))) :
    Calls Tryz.prog 132 #[bSelf b] w fun e w' => e = .returned (.tuple #[]) ∧ w'.heap[b]? = some (.cells #[bSelf b, v] T (0, 0)) ∧ KB [b] w.heap w'.heap ∧ w'.heap.size = w.heap.size ∧ Same w w' := by
  rcases hp with rfl | rfl
  · refine (bd_copy0 hT b v w hb).mono ?_
    rintro e w' ⟨rfl, rfl⟩
    exact ⟨rfl, (heap_set2 hb).1, KB_set w b 0 _, by simp [World.setCell], ⟨rfl, rfl, rfl, Nat.le_refl _⟩⟩
  · refine (bd_copy1 b w (by rw [Lib.cell_of_heap hb]; rfl)).mono ?_
    rintro e w' ⟨rfl, rfl⟩
    exact ⟨rfl, hb, .refl _ _, rfl, .refl _⟩
theorem bd_write {T : TypeId} (hT : BdT T) {l : List Nat} {b : Nat} {ch : Chunk} (s : ByteArray) (w : World) (hf : (⟨T, 5, l⟩ : Bd).f D b ch) (S : St D (ch :: C) w.heap) (hs : l.length + s.size ≤ 1000000) :
    Calls Tryz.prog 31 #[bSelf b, .string s] w fun e w' => e = .returned (.tuple #[.int .i64 s.size, .nilIface]) ∧ (Same w w' ∧ ∃ ch', (⟨T, 5, l ++ bytesN s⟩ : Bd).f D b ch' ∧ St D (ch' :: C) w'.heap) := by
  obtain ⟨hl, p, v, hp, hb, ho, hne, hF⟩ := Bd.opens hf S
  obtain ⟨i0, hi, hz, hz1, hz2⟩ : ∃ i, Tryz.prog.info? 5 = some i ∧ i.zero = some (.int .u8 0) ∧ i.size = 1 ∧ i.bytes = 1 := by
    obtain ⟨i, h1, h2⟩ := Option.map_eq_some_iff.1 (show ((Tryz.prog.info? 5).map fun i => (i.zero, i.size, i.bytes)) = some (some (.int .u8 0), 1, 1) by kernel_rfl)
    simp only [Prod.mk.injEq] at h2
    exact ⟨i, h1, h2⟩
  have e132 : ∀ args w, (callFunc 132 args).run Tryz.prog w = .ok (.enter 132 args) w := run_callFunc ⟨_, Tryz.func132, by kernel_rfl, by kernel_rfl⟩
  go_enter Tryz.func31, Tryz.ntmps31
  go_wp2_with (go_at_call 132; refine (bd_copy hT b p v _ hp hb).mono ?_)
  rintro e w1 ⟨rfl, hb1, k1, z1, s1⟩
  have ho1 : w1.ownsRow 0 5 1 v l.length (byteC l) := by
    refine ⟨ho.1, ?_⟩
    rcases ho.2 with h | ⟨g, cap, cur, rfl, h1, hg, h2⟩
    · exact .inl h
    · exact .inr ⟨g, cap, cur, rfl, h1, k1.get hg (by simp only [List.mem_singleton]; exact fun e => hne (by rw [← e]; rfl)), h2⟩
  have c1 : w1.cell? ⟨b, 1, none⟩ = some v := by rw [Lib.cell_of_heap hb1]; rfl
  go_wp2_with (at_builtin; refine wpl_app_str rfl _ _ 83 9 rfl (by kernel_rfl) (by kernel_rfl) hi hz hz1 hz2 rfl ho1 s rfl hs ?_)
  intro v' w2 s2 ho2 hgrow hg2
  have hb2 : w2.heap[b]? = some (.cells #[bSelf b, v] T (0, 0)) := by
    rw [hgrow.block b (lt_of_get hb1) (fun e => hne e.symm)]
    exact hb1
  have d1 : w2.cell? ⟨b, 1, none⟩ = some v := by rw [Lib.cell_of_heap hb2]; rfl
  have f1 : w2.frozen? ⟨b, 1, none⟩ = false := Lib.frozen_of_heap hb2 1
  have ho2' := ho2
  obtain ⟨ao, n', cap, rfl⟩ : ∃ ao n' cap, v' = .slice ao n' cap := by
    rcases ho2.2 with ⟨hv, _⟩ | ⟨g, cap, cur, hv, _⟩
    · exact ⟨_, _, _, hv⟩
    · exact ⟨_, _, _, hv⟩
  have hne2 : (Value.slice ao n' cap).ownBlock ≠ some b := fun e => by
    rcases hg2 b e with h | h
    · exact hne h
    · have := lt_of_get hb1; omega
  have key : Same w (w2.setCell ⟨b, 1, none⟩ (.slice ao n' cap)) ∧ ∃ ch', (⟨T, 5, l ++ bytesN s⟩ : Bd).f D b ch' ∧ St D (ch' :: C) (w2.setCell ⟨b, 1, none⟩ (.slice ao n' cap)).heap := by
    refine ⟨s1.trans (s2.trans ⟨rfl, rfl, rfl, Nat.le_refl _⟩), ?_⟩
    have k2 : KB (b :: v.ownBlock.toList) w1.heap w2.heap := ⟨hgrow.size, fun x hx hf => hgrow.block x hx fun e => hf (by rw [← e]; simp)⟩
    have k3 : KB (b :: v.ownBlock.toList) w2.heap (w2.setCell ⟨b, 1, none⟩ (.slice ao n' cap)).heap := (KB_set w2 b 1 _).mono fun x hx _ => by simp at hx; simp [hx]
    have k0 : KB (b :: v.ownBlock.toList) w.heap w1.heap := k1.mono fun x hx _ => by simp at hx; simp [hx]
    refine Bd.closes S hF (by simp) ((k0.trans k2).trans k3) (fun n hn => ?_) (.inr rfl) (heap_set2 hb2).2 ?_ hne2 fun g hg => ?_
    · rcases List.mem_append.1 hn with h | h
      · exact hl n h
      · exact bytesN_lt n h
    · have hlen : (l ++ bytesN s).length = l.length + s.size := by
        have := Lib.strCells_length s
        rw [← byteC_str] at this
        simp only [List.length_map] at this
        rw [List.length_append, this]
      have hap : byteC (l ++ bytesN s) = byteC l ++ Lib.strCells s := by rw [← byteC_str]; exact List.map_append
      rw [hlen, hap]
      refine ⟨ho2.1, ?_⟩
      rcases ho2.2 with h | ⟨g, cap, cur, hv, h1, hg, h2⟩
      · exact .inl h
      · refine .inr ⟨g, cap, cur, hv, h1, ?_, h2⟩
        exact (KB_set w2 b 1 _).get hg (by simp only [List.mem_singleton]; exact fun e => hne2 (by rw [hv, e]; rfl))
    · rcases hg2 g hg with h | h
      · exact .inl (by rw [h]; simp)
      · exact .inr (by omega)
  clear ho2 ho2' hgrow hg2 hne2 hb2 ho1 hb1 k1 z1 s1 s2
  go_wp2
  go_ret2
  exact ⟨rfl, key⟩
theorem St.gone {ch : Chunk} {h h' : Heap} (S : St D (ch :: C) h) (k : KB (ch.map (·.1)) h h') : St D C h' := (S.upd (c' := []) k (by simp) (by simp) (by simp)).drop
theorem froze_S (w : World) (g n : Nat) : Same w (w.freeze ⟨g, 0, none⟩ n) ∧ KB [g] w.heap (w.freeze ⟨g, 0, none⟩ n).heap := by
  unfold World.freeze
  split
  · exact ⟨.refl w, .refl _ _⟩
  · exact ⟨⟨rfl, rfl, rfl, Nat.le_refl _⟩, by simp, fun k hk hf => by
      simp only [Array.getElem?_modify]
      rw [if_neg (by simp at hf; omega)]⟩
theorem drew_S (w : World) : Same w w.drew := ⟨rfl, rfl, rfl, Nat.le_succ _⟩
theorem bd_str1 {T : TypeId} (l : List UInt8) (h0 : l ≠ []) (b g cap : Nat) (p : Value) (cur : Array Value) (w : World) (hb : w.heap[b]? = some (.cells #[p, .slice (some ⟨g, 0, none⟩) l.length cap] T (0, 0))) (hg : w.heap[g]? = some (.cells cur 5 (0, 0)))
    (hc : l.length ≤ cap) (hcs : cur.size = cap) (hl : l.length ≤ 1000000) (ht : cur.toList.take l.length = Lib.byteCells l) :
    Calls Tryz.prog 50 #[bSelf b] w fun e w' => e = .returned (.string ⟨l.toArray⟩) ∧ w' = w.drew.freeze ⟨g, 0, none⟩ l.length := by
  have hl0 : l.length ≠ 0 := by simpa using h0
  have c1 : w.drew.cell? ⟨b, 1, none⟩ = some (.slice (some ⟨g, 0, none⟩) l.length cap) := by
    have : w.drew.heap[b]? = some (.cells #[p, .slice (some ⟨g, 0, none⟩) l.length cap] T (0, 0)) := hb
    rw [Lib.cell_of_heap this]; rfl
  have hSD : (Builtin.unsafeSliceData_ #[83] 211 #[.slice (some ⟨g, 0, none⟩) l.length cap]).run Tryz.prog w.drew = .ok (.pointer (some ⟨g, 0, none⟩)) w.drew :=
    Lib.run_unsafeSliceData_row _ _ _ _ _ _ (by omega)
  have hUS : (Builtin.unsafeString_ #[211, 3] 9 #[.pointer (some ⟨g, 0, none⟩), .int .i64 l.length]).run Tryz.prog w.drew = .ok (.string ⟨l.toArray⟩) (w.drew.freeze ⟨g, 0, none⟩ l.length) := by
    refine Lib.run_unsafeString_row w.drew 211 3 9 5 (by kernel_rfl) (by kernel_rfl) g cur.size (by have hg' : w.drew.heap[g]? = some (.cells cur 5 (0, 0)) := hg; simp [World.shape?, hg']) l h0 (by omega) (by omega) ?_
    intro j x hx
    have hg' : w.drew.heap[g]? = some (.cells cur 5 (0, 0)) := hg
    have h1 : (Lib.byteCells l)[j]? = some (.int .u8 x.toNat) := by simp [Lib.byteCells, hx]
    have hj : j < l.length := (List.getElem?_eq_some_iff.1 hx).1
    rw [← ht, List.getElem?_take, if_pos hj] at h1
    have e : (⟨g, 0, none⟩ : Addr).add j = ⟨g, j, none⟩ := by
      unfold Addr.add
      by_cases hj0 : j = 0
      · subst hj0; simp
      · simp [hj0]
    rw [e, Lib.cell_of_heap hg', ← Array.getElem?_toList]
    exact h1
  clear hb hg ht hcs
  go_enter Tryz.func50, Tryz.ntmps50
  go_wp2
  go_region
  all_goals (go_wp2; go_ret; exact ⟨rfl, rfl⟩)
theorem bd_str0 {T : TypeId} (b : Nat) (p : Value) (v : Value) (q : Option Addr) (w w2 : World) (hb : w.heap[b]? = some (.cells #[p, v] T (0, 0))) (hv : ∃ ao c, v = .slice ao 0 c) (hb2 : w2.heap[b]? = some (.cells #[p, v] T (0, 0)))
    (hSD : (Builtin.unsafeSliceData_ #[83] 211 #[v]).run Tryz.prog w.drew = .ok (.pointer q) w2) :
    Calls Tryz.prog 50 #[bSelf b] w fun e w' => e = .returned (.string ⟨#[]⟩) ∧ w' = w2 := by
  obtain ⟨ao, c, rfl⟩ := hv
  have hUS : (Builtin.unsafeString_ #[211, 3] 9 #[.pointer q, .int .i64 0]).run Tryz.prog w2 = .ok (.string .empty) w2 := Lib.run_unsafeString_none w2 _ _ _ q
  have c1 : w.drew.cell? ⟨b, 1, none⟩ = some (.slice ao 0 c) := by
    have : w.drew.heap[b]? = some (.cells #[p, .slice ao 0 c] T (0, 0)) := hb
    rw [Lib.cell_of_heap this]; rfl
  have c2 : w2.cell? ⟨b, 1, none⟩ = some (.slice ao 0 c) := by
    rw [Lib.cell_of_heap hb2]; rfl
  clear hb hb2
  go_enter Tryz.func50, Tryz.ntmps50
  go_wp2
  go_region
  all_goals (go_wp2; go_ret; exact ⟨rfl, rfl⟩)
theorem bd_string {T : TypeId} (hT : BdT T) {l : List Nat} {b : Nat} {ch : Chunk} (w : World) (hf : (⟨T, 5, l⟩ : Bd).f D b ch) (S : St D (ch :: C) w.heap) (hs : l.length ≤ 1000000) :
    Calls Tryz.prog 50 #[bSelf b] w fun e w' => e = .returned (.string (bStr l)) ∧ (Same w w' ∧ St D C w'.heap) := by
  obtain ⟨hl, p, v, hp, hb, ho, hne, hF⟩ := Bd.opens hf S
  have fin0 : ∀ w2 : World, l = [] → Same w.drew w2 → KB (ch.map (·.1)) w.heap w2.heap → ∀ e w', (e = Ending.returned (.string ⟨#[]⟩) ∧ w' = w2) → e = .returned (.string (bStr l)) ∧ (Same w w' ∧ St D C w'.heap) := by
    rintro w2 rfl ss k e w' ⟨rfl, rfl⟩
    exact ⟨rfl, (drew_S w).trans ss, S.gone k⟩
  rcases ho.2 with ⟨rfl, h0⟩ | ⟨g, cap, cur, rfl, _, hg, hnc, hcm, hcs, htake⟩
  · exact (bd_str0 b p _ none w w.drew hb ⟨_, _, rfl⟩ hb rfl).mono (fin0 _ (List.eq_nil_of_length_eq_zero h0) (.refl _) (.refl _ _))
  · by_cases h0 : l = []
    · subst h0
      by_cases hc : cap = 0
      · subst hc
        have hb2 : (w.drew.alloc (.view ⟨g, 0, none⟩ 5)).heap[b]? = some (.cells #[p, .slice (some ⟨g, 0, none⟩) 0 0] T (0, 0)) := (heap_alloc_old w.drew _ (lt_of_get hb)).trans hb
        exact (bd_str0 b p _ _ w _ hb ⟨_, _, rfl⟩ hb2 (Lib.run_unsafeSliceData_zero w.drew _ _ 5 (by kernel_rfl) ⟨g, 0, none⟩ 0 (5, cur.size) (by have hg' : w.drew.heap[g]? = some (.cells cur 5 (0, 0)) := hg; simp [World.shape?, hg']))).mono (fin0 _ rfl ⟨rfl, rfl, rfl, Nat.le_refl _⟩ (KB.push _ _ _))
      · exact (bd_str0 b p _ _ w w.drew hb ⟨_, _, rfl⟩ hb (Lib.run_unsafeSliceData_row _ _ _ _ _ _ hc)).mono (fin0 _ rfl (.refl _) (.refl _ _))
    · have e1 : (l.map fun n => UInt8.ofNat n).length = l.length := List.length_map _
      have hn : l.map (fun n => UInt8.ofNat n) ≠ [] := by simpa using h0
      rw [byteC_bytes hl, Nat.mul_one] at htake
      have := bd_str1 (T := T) (l.map fun n => UInt8.ofNat n) hn b g cap p cur w (by rw [e1]; exact hb) hg (by rw [e1]; exact hnc) (by simpa using hcs) (by rw [e1]; exact hs) (by rw [e1]; exact htake)
      refine this.mono ?_
      rintro e w' ⟨rfl, rfl⟩
      obtain ⟨q1, q2⟩ := froze_S w.drew g (l.map fun n => UInt8.ofNat n).length
      exact ⟨rfl, (drew_S w).trans q1, S.gone (KB.mono (b := (w.drew.freeze _ _).heap) q2 fun x hx _ => by
        rw [hF]
        rw [List.mem_singleton.1 hx]
        simp [Value.ownBlock])⟩
end
end Go.Proofs.YtmafjaglalggkaaGreat

/- Calls of a builder's WriteString and String, told by what they do. -/
set_option linter.unusedVariables false
namespace Go.Proofs.YtmafjaglalggkaaGreat
open Go Go.Proofs
variable {D D' : Fz} {ρ ρ' : List Loc} {m m' : Mem} {chs C : List Chunk} {h h' : Heap} {ro hr : List Nat}
def bdArg (Ts : List TypeId) (ro : List Nat) (m : Mem) : List V → Option (Nat × Bd × List V)
  | .r b 0 :: l => (match mg m b with
    | .o I => (match I.d with
      | some x => cond (!inL ro b && inL Ts x.T && Nat.beq x.E 5) (some (b, x, l)) none
      | none => none)
    | _ => none)
  | _ => none
def bdW (x : Bd) (s : ByteArray) : AB := .o (.bd ⟨x.T, x.E, x.l ++ bytesN s⟩)
def bdF (Ts : List TypeId) (ro : List Nat) (g : FuncId) (args : List V) (m : Mem) (K : V → Mem → Prop) : Option Prop :=
  cond (Nat.beq g 31) (match bdArg Ts ro m args with
    | some (b, x, [.u (.s s)]) => some (x.l.length + s.size ≤ 1000000 ∧ K (.t [.u (.i .i64 s.size), .z]) (ms m b (bdW x s)))
    | _ => some False)
  (cond (Nat.beq g 50) (match bdArg Ts ro m args with
    | some (b, x, []) => some (x.l.length ≤ 1000000 ∧ K (.u (.s (bStr x.l))) (ms m b .x))
    | _ => some False) none)
theorem bdArg_S {Ts : List TypeId} {args l : List V} {b : Nat} {x : Bd} {vs : List Value} (ha : bdArg Ts (hr ++ ro) m args = some (b, x, l)) (M : SAt D ρ m chs C h) (hv : RpL D ρ vs args) :
    ∃ L ch vl, vs = bSelf L.b :: vl ∧ RpL D ρ vl l ∧ inL (hr ++ ro) b = false ∧ inL Ts x.T = true ∧ x.E = 5 ∧ ρ[b]? = some L ∧ chs[b]? = some ch ∧ x.f D L.b ch := by
  unfold bdArg at ha
  split at ha
  · rename_i b' l'
    split at ha
    · rename_i I hm
      split at ha
      · rename_i y hy
        cases hc : (!inL (hr ++ ro) b' && inL Ts y.T && Nat.beq y.E 5) with
        | false => rw [hc] at ha; cases ha
        | true =>
          rw [hc] at ha
          simp only [cond_true, Option.some.injEq, Prod.mk.injEq] at ha
          obtain ⟨rfl, rfl, rfl⟩ := ha
          simp only [Bool.and_eq_true, Bool.not_eq_true'] at hc
          obtain ⟨L, ch, g1, g2, g3⟩ := M.get (b := b') (by rw [hm]; simp)
          rw [hm] at g3
          cases hv with
          | cons h1 h2 =>
            obtain ⟨L', hL, rfl⟩ := h1.r_inv
            rw [g1] at hL
            cases hL
            cases g3 with
            | o hf => exact ⟨L, ch, _, rfl, h2, hc.1.1, hc.1.2, Nat.eq_of_beq_eq_true hc.2, g1, g2, by rw [I.hd hy] at hf; exact hf⟩
      · cases ha
    · cases ha
  · cases ha
theorem callWr : Callable Tryz.prog 31 := ⟨_, Tryz.func31, by kernel_rfl, by kernel_rfl⟩
theorem callStr : Callable Tryz.prog 50 := ⟨_, Tryz.func50, by kernel_rfl, by kernel_rfl⟩
theorem bdF_S {Ts : List TypeId} (hT : ∀ T, inL Ts T = true → BdT T) {g : FuncId} {args : List V} {KS : V → Mem → Prop} {p : Prop} (hs : bdF Ts (hr ++ ro) g args m KS = some p) (hp : p) {vs : List Value} (M : SAt D ρ m chs C h) (ha : RpL D ρ vs args) : Run Tryz.prog g vs h (PostE ro hr D ρ m chs C KS) := by
  unfold bdF at hs
  cases hb : Nat.beq g 31 with
  | true =>
    rw [hb] at hs
    have := Nat.eq_of_beq_eq_true hb
    subst this
    simp only [cond_true] at hs
    split at hs
    · rename_i b x s hx
      cases hs
      obtain ⟨L, ch, vl, rfl, hvl, c1, c2, c3, g1, g2, hf⟩ := bdArg_S hx M ha
      have : vl = [.string s] := by
        cases hvl with
        | cons h1 h2 =>
          cases h2
          cases h1 with
          | u hr => cases hr; rfl
      subst this
      obtain ⟨T, E, l⟩ := x
      dsimp only at c2 c3 hp
      subst c3
      refine ⟨callWr, fun w hw => ?_⟩
      subst hw
      refine (bd_write (hT T c2) s w hf (M.front g2) hp.1).mono ?_
      rintro e w' ⟨rfl, ss, ch', hf', S'⟩
      exact ⟨_, rfl, ⟨D, ρ, _, chs.set b ch', _, .set (.refl D) c1, M.put g1 g2 S' (.refl D) (.o hf'), .t (.cons (.u (by constructor)) (.cons .z .nil)), hp.2⟩, ss⟩
    · cases hs
      exact hp.elim
  | false =>
    rw [hb] at hs
    simp only [cond_false] at hs
    cases hb2 : Nat.beq g 50 with
    | false => rw [hb2] at hs; cases hs
    | true =>
      rw [hb2] at hs
      have := Nat.eq_of_beq_eq_true hb2
      subst this
      simp only [cond_true] at hs
      split at hs
      · rename_i b x hx
        cases hs
        obtain ⟨L, ch, vl, rfl, hvl, c1, c2, c3, g1, g2, hf⟩ := bdArg_S hx M ha
        cases hvl
        obtain ⟨T, E, l⟩ := x
        dsimp only at c2 c3 hp
        subst c3
        refine ⟨callStr, fun w hw => ?_⟩
        subst hw
        refine (bd_string (hT T c2) w hf (M.front g2) hp.1).mono ?_
        rintro e w' ⟨rfl, ss, S'⟩
        exact ⟨_, rfl, ⟨D, ρ, _, chs.set b [], _, .set (.refl D) c1, M.put g1 g2 S'.nil (.refl D) .x, .u (by constructor), hp.2⟩, ss⟩
      · cases hs
        exact hp.elim
def spBd (Ts : List TypeId) (hT : ∀ T, inL Ts T = true → BdT T) : SP Tryz.prog where
  f ro call g args m K := bdF Ts ro g args m K
  ok := by
    intro ro hr X call hX hcall g args m KS p hs hp D ρ chs C h vs xx M ha
    exact bdF_S hT hs hp M ha
def bdEv (Ts : List TypeId) (ro : List Nat) (g : FuncId) (args : List V) (m : Mem) : Option (Option Out) :=
  cond (Nat.beq g 31) (match bdArg Ts ro m args with
    | some (b, x, [.u (.s s)]) => some (cond (Nat.ble (x.l.length + s.size) 1000000) (some [(.t [.u (.i .i64 s.size), .z], ms m b (bdW x s))]) none)
    | _ => some none)
  (cond (Nat.beq g 50) (match bdArg Ts ro m args with
    | some (b, x, []) => some (cond (Nat.ble x.l.length 1000000) (some [(.u (.s (bStr x.l)), ms m b .x)]) none)
    | _ => some none) none)
theorem bdEv_ok {Ts : List TypeId} {g : FuncId} {args : List V} {rs : Out} {K : V → Mem → Prop} (h : bdEv Ts ro g args m = some (some rs)) (hK : ∀ r ∈ rs, K r.1 r.2) : ∃ p, bdF Ts ro g args m K = some p ∧ p := by
  unfold bdEv at h
  unfold bdF
  cases hb : Nat.beq g 31 with
  | true =>
    rw [hb] at h
    simp only [cond_true] at h ⊢
    split at h
    · rename_i b x s hx
      simp only [Option.some.injEq] at h
      obtain ⟨h1, h2⟩ := condO h
      cases h2
      exact ⟨_, rfl, Nat.le_of_ble_eq_true h1, hK _ (List.mem_singleton_self _)⟩
    · cases h
  | false =>
    rw [hb] at h
    simp only [cond_false] at h ⊢
    cases hb2 : Nat.beq g 50 with
    | false => rw [hb2] at h; cases h
    | true =>
      rw [hb2] at h
      simp only [cond_true] at h ⊢
      split at h
      · rename_i b x hx
        simp only [Option.some.injEq] at h
        obtain ⟨h1, h2⟩ := condO h
        cases h2
        exact ⟨_, rfl, Nat.le_of_ble_eq_true h1, hK _ (List.mem_singleton_self _)⟩
      · cases h
theorem bdEv_no {Ts : List TypeId} {g : FuncId} {args : List V} {K : V → Mem → Prop} (h : bdEv Ts ro g args m = none) : bdF Ts ro g args m K = none := by
  unfold bdEv at h
  unfold bdF
  cases hb : Nat.beq g 31 with
  | true =>
    rw [hb] at h
    simp only [cond_true] at h
    split at h <;> cases h
  | false =>
    rw [hb] at h
    simp only [cond_false] at h ⊢
    cases hb2 : Nat.beq g 50 with
    | false => rfl
    | true =>
      rw [hb2] at h
      simp only [cond_true] at h
      split at h <;> cases h
noncomputable def speBd (Ts : List TypeId) (hT : ∀ T, inL Ts T = true → BdT T) : SPE Tryz.prog where
  sp := spBd Ts hT
  e ro callE g args m := bdEv Ts ro g args m
  ok := by
    intro ro callE call hc g args m rs K h hK
    exact bdEv_ok h hK
  no := by
    intro ro callE call g args m K h
    exact bdEv_no h
theorem bdTs : ∀ T, inL [87] T = true → BdT T := fun T hT => by
  have : T = 87 := by
    simp only [inL] at hT
    cases e : Nat.beq 87 T with
    | true => exact (Nat.eq_of_beq_eq_true e).symm
    | false => rw [e] at hT; cases hT
  subst this
  exact ⟨by kernel_rfl, by decide⟩
def orO {α : Type} (x y : Option α) : Option α :=
  match x with
  | some p => some p
  | none => y
def orP (x y : Option Prop) : Option Prop :=
  match x with
  | some p => some p
  | none => y
def SP.or {P : Program} (A B : SP P) : SP P where
  f ro call g args m K := orP (A.f ro call g args m K) (B.f ro call g args m K)
  ok := by
    intro ro hr X call hX hcall g args m KS p hs hp D ρ chs C h vs xx M ha
    unfold orP at hs
    split at hs
    · rename_i q hq
      cases hs
      exact A.ok hX hcall hq hp xx M ha
    · exact B.ok hX hcall hs hp xx M ha
noncomputable def SPE.or {P : Program} (A B : SPE P) : SPE P where
  sp := A.sp.or B.sp
  e ro callE g args m := orO (A.e ro callE g args m) (B.e ro callE g args m)
  ok := by
    intro ro callE call hc g args m rs K h hK
    show ∃ p, orP (A.sp.f ro call g args m K) (B.sp.f ro call g args m K) = some p ∧ p
    unfold orO at h
    split at h
    · rename_i q hq
      cases h
      obtain ⟨p, h1, h2⟩ := A.ok hc hq hK
      rw [h1]
      exact ⟨p, rfl, h2⟩
    · rename_i hq
      rw [A.no hq]
      exact B.ok hc h hK
  no := by
    intro ro callE call g args m K h
    show orP (A.sp.f ro call g args m K) (B.sp.f ro call g args m K) = .none
    unfold orO at h
    split at h
    · cases h
    · rename_i hq
      rw [A.no hq]
      exact B.no h
end Go.Proofs.YtmafjaglalggkaaGreat

/- Calls of goods.Norm, told by what they come to. -/
set_option linter.unusedVariables false
namespace Go.Proofs.YtmafjaglalggkaaGreat
open Go Go.Proofs
def insT (k n : Int) : List Stk → List Stk
  | [] => [(k, n)]
  | (a, b) :: l => if k < a then (k, n) :: (a, b) :: l else if k = a then (a, b + n) :: l else (a, b) :: insT k n l
def normR : List Stk → List Stk
  | [] => []
  | (k, n) :: l => if n = 0 then normR l else insT k n (normR l)
def normF (l : List Stk) : Int × List Stk :=
  if (l.all fun s => decide (1 ≤ s.1) && decide (0 ≤ s.2)) = true then (if ((normR l).any fun s => decide (MaxQ < s.2)) = true then (5, []) else (0, normR l)) else (1, [])
theorem insT_mem {k n : Int} : ∀ {r : List Stk}, r.Pairwise (fun a b => a.1 < b.1) → ∀ j q, (j, q) ∈ insT k n r ↔ (j ≠ k ∧ (j, q) ∈ r) ∨ (j = k ∧ ((∃ b, (k, b) ∈ r ∧ q = b + n) ∨ ((∀ b, (k, b) ∉ r) ∧ q = n)))
  | [], _, j, q => by simp [insT]
  | (a, b) :: l, h, j, q => by
    obtain ⟨h1, h2⟩ := List.pairwise_cons.1 h
    simp only [insT]
    by_cases c1 : k < a
    · rw [if_pos c1]
      have hno : ∀ b', (k, b') ∉ (a, b) :: l := by
        intro b' hb
        rcases List.mem_cons.1 hb with e | e
        · cases e; omega
        · have := h1 _ e; simp only at this; omega
      constructor
      · intro hm
        rcases List.mem_cons.1 hm with e | e
        · cases e; exact .inr ⟨rfl, .inr ⟨hno, rfl⟩⟩
        · exact .inl ⟨fun e2 => hno q (e2 ▸ e), e⟩
      · rintro (⟨-, e⟩ | ⟨rfl, ⟨b', e, -⟩ | ⟨-, rfl⟩⟩)
        · exact List.mem_cons_of_mem _ e
        · exact absurd e (hno b')
        · exact List.mem_cons_self
    · rw [if_neg c1]
      by_cases c2 : k = a
      · subst c2
        rw [if_pos rfl]
        have hno : ∀ q, (k, q) ∉ l := fun q e => by have := h1 _ e; simp only at this; omega
        constructor
        · intro hm
          rcases List.mem_cons.1 hm with e | e
          · cases e; exact .inr ⟨rfl, .inl ⟨b, List.mem_cons_self, rfl⟩⟩
          · exact .inl ⟨fun e2 => hno q (e2 ▸ e), List.mem_cons_of_mem _ e⟩
        · rintro (⟨e1, e⟩ | ⟨rfl, ⟨b', e, rfl⟩ | ⟨e, -⟩⟩)
          · rcases List.mem_cons.1 e with e2 | e2
            · cases e2; exact absurd rfl e1
            · exact List.mem_cons_of_mem _ e2
          · rcases List.mem_cons.1 e with e2 | e2
            · cases e2; exact List.mem_cons_self
            · exact absurd e2 (hno b')
          · exact absurd List.mem_cons_self (e b)
      · rw [if_neg c2, List.mem_cons, insT_mem h2 j q]
        have hk : ∀ b', (k, b') ∈ (a, b) :: l ↔ (k, b') ∈ l := fun b' => by
          rw [List.mem_cons]
          constructor
          · rintro (e | e)
            · cases e; exact absurd rfl c2
            · exact e
          · exact .inr
        simp only [hk, List.mem_cons]
        constructor
        · rintro (e | ⟨e1, e⟩ | e)
          · cases e; exact .inl ⟨fun e => c2 e.symm, .inl rfl⟩
          · exact .inl ⟨e1, .inr e⟩
          · exact .inr e
        · rintro (⟨e1, e | e⟩ | e)
          · exact .inl e
          · exact .inr (.inl ⟨e1, e⟩)
          · exact .inr (.inr e)
theorem insT_rise {k n : Int} : ∀ {r : List Stk}, r.Pairwise (fun a b => a.1 < b.1) → (insT k n r).Pairwise (fun a b => a.1 < b.1)
  | [], _ => by simp [insT]
  | (a, b) :: l, h => by
    obtain ⟨h1, h2⟩ := List.pairwise_cons.1 h
    simp only [insT]
    by_cases c1 : k < a
    · rw [if_pos c1]
      refine List.pairwise_cons.2 ⟨fun p hp => ?_, h⟩
      rcases List.mem_cons.1 hp with rfl | e
      · exact c1
      · have := h1 _ e; simp only at this ⊢; omega
    · rw [if_neg c1]
      by_cases c2 : k = a
      · rw [if_pos c2]
        exact List.pairwise_cons.2 ⟨fun p hp => h1 p hp, h2⟩
      · rw [if_neg c2]
        refine List.pairwise_cons.2 ⟨?_, insT_rise h2⟩
        rintro ⟨j, q⟩ hp
        rcases (insT_mem h2 j q).1 hp with ⟨-, e⟩ | ⟨rfl, -⟩
        · exact h1 _ e
        · simp only; omega
theorem normR_SN : ∀ {l : List Stk}, good l → SN l (normR l)
  | [], _ => ⟨.nil, fun k n => by simp [normR, tot]; omega⟩
  | (k, n) :: l, h => by
    have hg : good l := fun s hs => h s (List.mem_cons_of_mem _ hs)
    have h0 := h (k, n) List.mem_cons_self
    simp only at h0
    obtain ⟨i1, i2⟩ := normR_SN hg
    have ht : ∀ j, tot ((k, n) :: l) j = tot l j + if k = j then n else 0 := fun j => by
      simp only [tot]
      split <;> omega
    simp only [normR]
    by_cases hn : n = 0
    · rw [if_pos hn]
      refine ⟨i1, fun j q => ?_⟩
      rw [i2, ht]
      subst hn
      simp
    · rw [if_neg hn]
      refine ⟨insT_rise i1, fun j q => ?_⟩
      rw [insT_mem i1, ht]
      by_cases hj : k = j
      · subst hj
        rw [if_pos rfl]
        have hp := tot_nonneg hg k
        constructor
        · rintro (⟨e, -⟩ | ⟨-, ⟨b, e, rfl⟩ | ⟨e, rfl⟩⟩)
          · exact absurd rfl e
          · obtain ⟨e1, e2⟩ := (i2 k b).1 e
            exact ⟨by omega, by omega⟩
          · have : tot l k = 0 := by
              by_cases hz : tot l k = 0
              · exact hz
              · exact absurd ((i2 k (tot l k)).2 ⟨rfl, by omega⟩) (e _)
            exact ⟨by omega, by omega⟩
        · rintro ⟨rfl, hq⟩
          refine .inr ⟨rfl, ?_⟩
          by_cases hz : tot l k = 0
          · refine .inr ⟨fun b hb => ?_, by omega⟩
            obtain ⟨e1, e2⟩ := (i2 k b).1 hb
            omega
          · exact .inl ⟨tot l k, (i2 k _).2 ⟨rfl, by omega⟩, by omega⟩
      · rw [if_neg hj, Int.add_zero, i2]
        constructor
        · rintro (⟨-, e⟩ | ⟨e, -⟩)
          · exact e
          · exact absurd e.symm hj
        · exact fun e => .inl ⟨fun e2 => hj e2.symm, e⟩
theorem normF_ok (l : List Stk) : NormP l (normF l).1 (normF l).2 := by
  have hgood : ((l.all fun s => decide (1 ≤ s.1) && decide (0 ≤ s.2)) = true) ↔ good l := by
    simp [good, List.all_eq_true]
  unfold normF
  by_cases h : good l
  · rw [if_pos (hgood.2 h)]
    have hs := normR_SN h
    have ho : (((normR l).any fun s => decide (MaxQ < s.2)) = true) ↔ over l := by
      rw [List.any_eq_true]
      constructor
      · rintro ⟨⟨k, n⟩, hm, hd⟩
        simp only [decide_eq_true_eq] at hd
        obtain ⟨e1, e2⟩ := (hs.2 k n).1 hm
        obtain ⟨s, hs1, hs2⟩ := tot_pos (l := l) (k := k) (by omega)
        exact ⟨s, hs1, by rw [hs2]; omega⟩
      · rintro ⟨s, hs1, hs2⟩
        have hM : MaxQ = 1125899906842624 := rfl
        exact ⟨(s.1, tot l s.1), (hs.2 _ _).2 ⟨rfl, by omega⟩, by simpa using hs2⟩
    by_cases hov : over l
    · rw [if_pos (ho.2 hov)]
      exact ⟨(errN_over h hov).symm, fun e => by simp at e, fun _ => rfl⟩
    · rw [if_neg fun e => hov (ho.1 e)]
      exact ⟨(errN_ok h hov).symm, fun _ => hs, fun e => absurd rfl e⟩
  · rw [if_neg fun e => h (hgood.1 e)]
    exact ⟨(errN_bad h).symm, fun e => by simp at e, fun _ => rfl⟩
abbrev eStk (x : Stk) : List U := [.n x.1, .n x.2]
def stkL : List (List U) → Option (List Stk)
  | [] => some []
  | [.i .i64 a, .i .i64 b] :: l => (match stkL l with
    | some r => some ((a, b) :: r)
    | none => none)
  | _ => none
theorem stkL_ok : ∀ {rows : List (List U)} {L : List Stk}, stkL rows = some L → rows = L.map eStk
  | [], L, h => by cases h; rfl
  | r :: l, L, h => by
    unfold stkL at h
    split at h
    · rename_i h0; cases h0
    · rename_i a b l' h0
      cases h0
      split at h
      · rename_i q hq
        cases h
        rw [stkL_ok hq]; rfl
      · cases h
    · cases h
def rngB (L : List Stk) : Bool := L.all fun s => decide (-9223372036854775808 ≤ s.1) && decide (s.1 ≤ 9223372036854775807) && decide (-9223372036854775808 ≤ s.2) && decide (s.2 ≤ 9223372036854775807)
theorem rngB_ok {L : List Stk} (h : rngB L = true) : rng L := fun s hs => by
  have := List.all_eq_true.1 h s hs
  simp only [Bool.and_eq_true, decide_eq_true_eq] at this
  exact ⟨⟨this.1.1.1, this.1.1.2⟩, this.1.2, this.2⟩
variable {D D' : Fz} {ρ ρ' : List Loc} {m m' : Mem} {chs C : List Chunk} {h h' : Heap} {ro hr : List Nat}
theorem ownStk {B : Nat} {T : TypeId} {a : Option Addr} {n c : Nat} {r : List Stk} (s : OwnS B T 2 h a n c (r.flatMap encS)) (hs : Sl h a n c r) : ∃ ch, Own D T 2 a c (r.map eStk) ch ∧ (∀ p ∈ ch, h[p.1]? = some p.2) ∧ (∀ p ∈ ch, B ≤ p.1) ∧ (ch.map (·.1)).Nodup := by
  rcases s with ⟨rfl, rfl, rfl, h0⟩ | ⟨b, l, rfl, h1, h2, h3, h4, h5, h6⟩
  · have : r = [] := List.eq_nil_of_length_eq_zero hs.1
    subst this
    exact ⟨[], .nil, by simp, by simp, by simp⟩
  · refine ⟨_, .row b c l (r.map eStk) (fun i j => match r[i]? with | some s => (encS s).getD j undef | none => undef) h3 (by rw [List.length_map, hs.1]; exact h4) ?_ ?_ ?_, by simpa using h2, by simpa using h1, by simp⟩
    · intro q hq
      obtain ⟨s, -, rfl⟩ := List.mem_map.1 hq
      rfl
    · intro i j q u hi hj
      rw [List.getElem?_map] at hi
      cases hr : r[i]? with
      | none => rw [hr] at hi; cases hi
      | some s =>
        rw [hr] at hi
        cases hi
        obtain ⟨b', o', e, hc⟩ := hs.2.2 i s hr
        cases e
        match j, hj with
        | 0, hj => have := hc 0 _ rfl; rw [hcell_of h2, Nat.zero_add] at this; exact this
        | 1, hj => have := hc 1 _ rfl; rw [hcell_of h2, Nat.zero_add] at this; exact this
    · intro i j q u hi hj
      rw [List.getElem?_map] at hi
      cases hr : r[i]? with
      | none => rw [hr] at hi; cases hi
      | some s =>
        rw [hr] at hi
        cases hi
        match j, hj with
        | 0, hj => cases hj; exact .int .i64 _
        | 1, hj => cases hj; exact .int .i64 _
theorem src_sl {a : Option Addr} {n c : Nat} {L : List Stk} (hx : Src D h 2 a (L.map eStk)) (hn : n = L.length) (hc : n ≤ c) : Sl h a n c L := by
  refine ⟨hn.symm, hc, fun i x hi => ?_⟩
  have hr : (L.map eStk)[i]? = some (eStk x) := by simp [hi]
  rcases hx.2 with h0 | ⟨b, o, w, rfl, hc⟩
  · rw [h0] at hr; simp at hr
  refine ⟨b, o, rfl, fun j v hv => ?_⟩
  match j, hv with
  | 0, hv => simp [encS] at hv; subst hv; obtain ⟨h1, h2⟩ := hc i 0 _ _ hr rfl; rw [Rd.int_iff.1 h2] at h1; exact h1
  | 1, hv => simp [encS] at hv; subst hv; obtain ⟨h1, h2⟩ := hc i 1 _ _ hr rfl; rw [Rd.int_iff.1 h2] at h1; exact h1
theorem Own.cap {T sz : Nat} {a : Option Addr} {c : Nat} {rows : List (List U)} {ch : Chunk} (o : Own D T sz a c rows ch) : rows.length ≤ c := by
  cases o with
  | nil => exact Nat.le_refl _
  | row _ _ _ _ _ _ h2 _ _ _ => exact h2
theorem src_cap {x : V} {s : Nat} {rows : List (List U)} {a : Option Addr} {n c : Nat} (hs : srcS m x = some (s, rows)) (M : SAt D ρ m chs C h) (hv : Rp D ρ (.slice a n c) x) : n ≤ c := by
  cases hv with
  | u hr =>
    rename_i y
    cases y <;> simp only [srcS, Option.some.injEq, Prod.mk.injEq, reduceCtorEq] at hs
    exact hr.len.2
  | c => exact Nat.le_refl _
  | w hL =>
    rename_i b L
    unfold srcS at hs
    dsimp only at hs
    split at hs
    · rename_i E s' r hm
      obtain ⟨L', ch, g1, g2, g3⟩ := M.get (b := b) (by rw [hm]; simp)
      rw [hm] at g3
      rw [hL] at g1
      cases g1
      cases g3 with
      | w o hn =>
        rw [hn]
        exact o.cap
    · cases hs
  | v _ _ _ _ h5 => exact h5
  | nl => exact Nat.le_refl _
  | z => simp [srcS] at hs
  | sl _ _ h => exact h
def stkA (m : Mem) : V → Option (List Stk)
  | .nl _ => some []
  | x => (match srcS m x with
    | some (2, rows) => stkL rows
    | _ => none)
theorem stkA_S {x : V} {v : Value} {L : List Stk} (hs : stkA m x = some L) (M : SAt D ρ m chs C h) (hv : Rp D ρ v x) : ∃ a n c, v = .slice a n c ∧ Sl h a n c L := by
  unfold stkA at hs
  split at hs
  · cases hs
    cases hv
    exact ⟨_, _, _, rfl, rfl, Nat.le_refl _, fun i x hi => by simp at hi⟩
  · split at hs
    · rename_i rows hr
      have := stkL_ok hs
      subst this
      obtain ⟨a, c, rfl, hS⟩ := srcS_S hr M hv
      exact ⟨a, _, c, rfl, src_sl hS (by simp) (src_cap hr M hv)⟩
    · cases hs
def nrmV (L : List Stk) : V := .t [.u (.l 2 ((normF L).2.map eStk)), .i (normF L).1]
def nrmP (g : FuncId) (args : List V) (m : Mem) (K : V → Mem → Prop) : Option Prop :=
  cond (Nat.beq g 211) (match args with
    | [x] => (match stkA m x with
      | some L => some (cond (rngB L && Nat.ble L.length 1000) (K (nrmV L) m) False)
      | none => some False)
    | _ => some False) none
theorem nrmP_S {g : FuncId} {args : List V} {KS : V → Mem → Prop} {p : Prop} (hs : nrmP g args m KS = some p) (hp : p) {vs : List Value} (M : SAt D ρ m chs C h) (ha : RpL D ρ vs args) : Run Tryz.prog g vs h (PostE ro hr D ρ m chs C KS) := by
  unfold nrmP at hs
  cases hb : Nat.beq g 211 with
  | false => rw [hb] at hs; cases hs
  | true =>
    rw [hb] at hs
    have := Nat.eq_of_beq_eq_true hb
    subst this
    simp only [cond_true] at hs
    split at hs
    · rename_i x
      split at hs
      · rename_i L hL
        cases hs
        obtain ⟨hc, hk⟩ := cond_spec hp
        simp only [Bool.and_eq_true] at hc
        cases ha with
        | cons h1 h2 =>
          cases h2
          obtain ⟨a, n, c, rfl, sl⟩ := stkA_S hL M h1
          refine (norm_spec sl (rngB_ok hc.1) (by rw [← sl.1]; exact Nat.le_of_ble_eq_true hc.2)).mono ?_
          rintro v h' ⟨a', n', c', r, e, rfl, own, sl', k, hN⟩
          obtain ⟨he, hr⟩ := hN.unique (normF_ok L)
          subst he hr
          obtain ⟨ch, o, g1, g2, g3⟩ := ownStk (D := D) own sl'
          have S2 : St D (ch :: (chs ++ C)) h' := M.st.nil.upd (k.mono fun x hx => by simp at hx) g1 g3 fun p hp => .inr (g2 p hp)
          obtain ⟨D', le, S3, hR⟩ := o.freeze S2
          have hn' : n' = (normF L).2.length := sl'.1.symm
          rw [List.length_map, ← hn'] at hR
          exact ⟨D', ρ, m, chs, _, ⟨le, ⟨[], by simp⟩, fun _ _ _ => rfl, fun _ _ _ => rfl, Nat.le_refl _⟩, M.mono le S3, .t (.cons (.u hR) (.cons (.u (.int .i64 _)) .nil)), hk⟩
      · cases hs; exact hp.elim
    · cases hs; exact hp.elim
def spNrm : SP Tryz.prog where
  f ro call g args m K := nrmP g args m K
  ok := by
    intro ro hr X call hX hcall g args m KS p hs hp D ρ chs C h vs xx M ha
    exact nrmP_S hs hp M ha
def nrmE (g : FuncId) (args : List V) (m : Mem) : Option (Option Out) :=
  cond (Nat.beq g 211) (match args with
    | [x] => (match stkA m x with
      | some L => some (cond (rngB L && Nat.ble L.length 1000) (some [(nrmV L, m)]) none)
      | none => some none)
    | _ => some none) none
noncomputable def speNrm : SPE Tryz.prog where
  sp := spNrm
  e ro callE g args m := nrmE g args m
  ok := by
    intro ro callE call hc g args m rs K h hK
    show ∃ p, nrmP g args m K = some p ∧ p
    unfold nrmE at h
    unfold nrmP
    cases hb : Nat.beq g 211 with
    | false => rw [hb] at h; cases h
    | true =>
      rw [hb] at h
      simp only [cond_true] at h ⊢
      split at h
      · split at h
        · rename_i L hL
          simp only [Option.some.injEq] at h
          obtain ⟨h1, h2⟩ := condO h
          cases h2
          refine ⟨_, rfl, ?_⟩
          rw [h1]
          exact hK _ (List.mem_singleton_self _)
        · cases h
      · cases h
  no := by
    intro ro callE call g args m K h
    show nrmP g args m K = none
    unfold nrmE at h
    unfold nrmP
    cases hb : Nat.beq g 211 with
    | false => rfl
    | true =>
      rw [hb] at h
      simp only [cond_true] at h
      split at h
      · split at h <;> cases h
      · cases h
end Go.Proofs.YtmafjaglalggkaaGreat

/- A run, piece by piece: printed by program (ez2.py). -/
set_option linter.unusedVariables false
set_option maxRecDepth 1000000
namespace Go.Proofs.YtmafjaglalggkaaGreat
open Go Go.Proofs
noncomputable section
structure NbV where
  w1 : Int
  w2 : Int
  w3 : List (List U)
  w4 : List (List U)
  w5 : List (List U)
  w6 : List (List U)
  w7 : List (List U)
  w8 : List (List U)
  w9 : Int
  w10 : List (List U)
  w11 : List (List U)
  w12 : List (List U)
  w13 : List (List U)
  w14 : List (List U)
  w15 : Int
  w16 : List (List U)
  s17 : ByteArray
  e : Int
structure NbH (v : NbV) (b1 b2 : Bool) (e : Int) (z q : Bool) : Prop where
  hF : PRun Tryz.prog 5 [] [.a [.i v.w1, .i v.w2, .u (.l 2 v.w3), .u (.l 2 v.w4), .u (.l 2 v.w5), .u (.l 2 v.w6), .u (.l 5 v.w7), .u (.l 9 v.w8), .i v.w9, .u (.l 2 v.w10), .u (.l 16 v.w11), .u (.l 19 v.w12), .u (.l 2 v.w13), .u (.l 3 v.w14), .i v.w15, .u (.l 4 v.w16)]] fun x m => x = .u (.b b1) ∧ m = []
  he : eqF e 0 = z
  hS : bif b1 then ltF 4096 (Int.ofNat v.s17.size) = q else True
noncomputable abbrev eK1 := (speKn (speNrm.or (speBd [87] bdTs)) [7, 8, 10, 12, 15, 18, 19, 20])
noncomputable abbrev awev := Ev Tryz.prog eK1 (List.range 600) 300 60 6
def awM0 (v : NbV) : Mem := []
noncomputable abbrev awC1 : Code := bodyOf Tryz.f6
def awT1 (v : NbV) : Fr := Fr.mk [.u (.b false)] 93 94
def awT2 (v : NbV) : Fr := Fr.mk [.u (.b false)] 93 94
def awk1M0 (v : NbV) : Mem := []
def awk1T1 (v : NbV) : Fr := Fr.mk [.i 0, .z, .r 0 0, .w 8, .w 9, .w 12, .r 2 0, .r 4 0, .r 7 0, .w 8, .w 9, .i 3, .i 4, .w 12, .a [.i 1, .i 3], .a [.i 2, .i 1], .w 1, .a [.i 3, .i 2, .i 10, .w 1, .i 2, .i 3, .i 5], .a [.i 3, .i 2], .w 3, .a [.i 4, .i 1, .i 7, .w 3, .i 0, .i 0, .i 3], .a [.i 3, .i 2, .i 10, .w 1, .i 2, .i 3, .i 5], .a [.i 4, .i 1, .i 7, .w 3, .i 0, .i 0, .i 3], .w 5, .i 0, .i 0, .i 1, .a [.i 1, .i 1, .i 1, .i 1000], .i 0, .i 0, .i 0, .i 1, .i 0, .i 0, .i 0, .a [.i 1, .i 1, .i 0, .i 0], .w 6, .a [.i 200, .i 1, .i 500], .a [.i 4, .w 5, .i 2, .w 6, .i 3, .i 200, .i 1, .i 500], .a [.i 0, .i 0], .a [.i 1, .i 60], .a [.i 2, .i 500], .a [.i 3, .i 2], .w 8, .i 3, .u (.b false), .i 2, .i 3, .i 4, .u (.b false), .i 3, .i 4, .w 10, .i 2, .i 3, .a [.i 2, .i 0, .i 1, .i 3], .i 3, .i 1, .i 20, .a [.i 2, .i 0, .i 1, .i 3, .i 20], .w 11, .w 9, .a [.i 0, .i 1, .i 0, .i 1, .i 1, .i 0, .i 0, .i (-1), .i 0], .a [.i 0, .i 2, .i 0, .i 1, .i 2, .i 0, .i 0, .i (-1), .i 0], .a [.i 0, .i 1, .i 0, .i 1, .i 2, .i 3, .i 0, .i 4, .i 0], .a [.i 0, .i 2, .i 0, .i 1, .i 1, .i 0, .i 8, .i (-1), .i 0], .a [.i 0, .i 1, .i 0, .i 2, .i 1, .i 0, .i 0, .i (-1), .i 0], .w 12, .a [.i 4, .w 5, .i 2, .w 6, .i 3, .i 200, .i 1, .i 500], .w 8, .w 9, .w 12] 0 72
def awk1M2 (v : NbV) : Mem := [.c [.i 4, .w 5, .i 2, .w 6, .i 3, .i 200, .i 1, .i 500],
  .x,
  .c [.i 3, .i 2, .i 10, .w 1, .i 2, .i 3, .i 5],
  .x,
  .c [.i 4, .i 1, .i 7, .w 3, .i 0, .i 0, .i 3],
  .w 69 7 [[.n 3, .n 2, .n 10, .l 2 [[.n 1, .n 3], [.n 2, .n 1]], .n 2, .n 3, .n 5], [.n 4, .n 1, .n 7, .l 2 [[.n 3, .n 2]], .n 0, .n 0, .n 3]],
  .w 71 4 [[.n 1, .n 1, .n 1, .n 1000], [.n 1, .n 1, .n 0, .n 0]],
  .c [.i 4, .w 5, .i 2, .w 6, .i 3, .i 200, .i 1, .i 500],
  .w 74 2 [[.n 0, .n 0], [.n 1, .n 60], [.n 2, .n 500], [.n 3, .n 2]],
  .w 78 5 [[.n 1, .n 0, .n 1, .n 1, .n 60], [.n 1, .n 0, .n 1, .n 2, .n 40], [.n 1, .n 0, .n 1, .n 3, .n 20], [.n 2, .n 0, .n 1, .n 1, .n 60], [.n 2, .n 0, .n 1, .n 2, .n 40], [.n 2, .n 0, .n 1, .n 3, .n 20]],
  .x,
  .w 78 5 [[.n 2, .n 0, .n 1, .n 3, .n 20]],
  .w 80 9 [[.n 0, .n 1, .n 0, .n 1, .n 1, .n 0, .n 0, .n (-1), .n 0], [.n 0, .n 2, .n 0, .n 1, .n 2, .n 0, .n 0, .n (-1), .n 0], [.n 0, .n 1, .n 0, .n 1, .n 2, .n 3, .n 0, .n 4, .n 0], [.n 0, .n 2, .n 0, .n 1, .n 1, .n 0, .n 8, .n (-1), .n 0], [.n 0, .n 1, .n 0, .n 2, .n 1, .n 0, .n 0, .n (-1), .n 0]]]
abbrev awk1Mm (v : NbV) : Mem := (awk1M0 v)
theorem awk1_run (v : NbV) : PRun Tryz.prog 7 (awk1M0 v) [.i 0] fun x m => x = .t [.a [.i 4, .u (.l 7 [[.n 3, .n 2, .n 10, .l 2 [[.n 1, .n 3], [.n 2, .n 1]], .n 2, .n 3, .n 5], [.n 4, .n 1, .n 7, .l 2 [[.n 3, .n 2]], .n 0, .n 0, .n 3]]), .i 2, .u (.l 4 [[.n 1, .n 1, .n 1, .n 1000], [.n 1, .n 1, .n 0, .n 0]]), .i 3, .i 200, .i 1, .i 500], .u (.l 2 [[.n 0, .n 0], [.n 1, .n 60], [.n 2, .n 500], [.n 3, .n 2]]), .u (.l 5 [[.n 1, .n 0, .n 1, .n 1, .n 60], [.n 1, .n 0, .n 1, .n 2, .n 40], [.n 1, .n 0, .n 1, .n 3, .n 20], [.n 2, .n 0, .n 1, .n 1, .n 60], [.n 2, .n 0, .n 1, .n 2, .n 40], [.n 2, .n 0, .n 1, .n 3, .n 20]]), .u (.l 9 [[.n 0, .n 1, .n 0, .n 1, .n 1, .n 0, .n 0, .n (-1), .n 0], [.n 0, .n 2, .n 0, .n 1, .n 2, .n 0, .n 0, .n (-1), .n 0], [.n 0, .n 1, .n 0, .n 1, .n 2, .n 3, .n 0, .n 4, .n 0], [.n 0, .n 2, .n 0, .n 1, .n 1, .n 0, .n 8, .n (-1), .n 0], [.n 0, .n 1, .n 0, .n 2, .n 1, .n 0, .n 0, .n (-1), .n 0]])] ∧ m = (awk1Mm v) := Ev.runA (speNrm.or (speBd [87] bdTs)) Tryz.func7 (c := (bodyOf Tryz.f7)) (r := (.ret, (awk1T1 v), (awk1M2 v))) Ev.codeA
def awT3 (v : NbV) : Fr := Fr.mk [.u (.b false), .r 0 0, .u (.l 2 [[.n 0, .n 0], [.n 1, .n 60], [.n 2, .n 500], [.n 3, .n 2]]), .u (.l 5 [[.n 1, .n 0, .n 1, .n 1, .n 60], [.n 1, .n 0, .n 1, .n 2, .n 40], [.n 1, .n 0, .n 1, .n 3, .n 20], [.n 2, .n 0, .n 1, .n 1, .n 60], [.n 2, .n 0, .n 1, .n 2, .n 40], [.n 2, .n 0, .n 1, .n 3, .n 20]]), .u (.l 9 [[.n 0, .n 1, .n 0, .n 1, .n 1, .n 0, .n 0, .n (-1), .n 0], [.n 0, .n 2, .n 0, .n 1, .n 2, .n 0, .n 0, .n (-1), .n 0], [.n 0, .n 1, .n 0, .n 1, .n 2, .n 3, .n 0, .n 4, .n 0], [.n 0, .n 2, .n 0, .n 1, .n 1, .n 0, .n 8, .n (-1), .n 0], [.n 0, .n 1, .n 0, .n 2, .n 1, .n 0, .n 0, .n (-1), .n 0]]), .z, .z, .z, .z, .z, .z, .z, .z, .z, .z, .t [.a [.i 4, .u (.l 7 [[.n 3, .n 2, .n 10, .l 2 [[.n 1, .n 3], [.n 2, .n 1]], .n 2, .n 3, .n 5], [.n 4, .n 1, .n 7, .l 2 [[.n 3, .n 2]], .n 0, .n 0, .n 3]]), .i 2, .u (.l 4 [[.n 1, .n 1, .n 1, .n 1000], [.n 1, .n 1, .n 0, .n 0]]), .i 3, .i 200, .i 1, .i 500], .u (.l 2 [[.n 0, .n 0], [.n 1, .n 60], [.n 2, .n 500], [.n 3, .n 2]]), .u (.l 5 [[.n 1, .n 0, .n 1, .n 1, .n 60], [.n 1, .n 0, .n 1, .n 2, .n 40], [.n 1, .n 0, .n 1, .n 3, .n 20], [.n 2, .n 0, .n 1, .n 1, .n 60], [.n 2, .n 0, .n 1, .n 2, .n 40], [.n 2, .n 0, .n 1, .n 3, .n 20]]), .u (.l 9 [[.n 0, .n 1, .n 0, .n 1, .n 1, .n 0, .n 0, .n (-1), .n 0], [.n 0, .n 2, .n 0, .n 1, .n 2, .n 0, .n 0, .n (-1), .n 0], [.n 0, .n 1, .n 0, .n 1, .n 2, .n 3, .n 0, .n 4, .n 0], [.n 0, .n 2, .n 0, .n 1, .n 1, .n 0, .n 8, .n (-1), .n 0], [.n 0, .n 1, .n 0, .n 2, .n 1, .n 0, .n 0, .n (-1), .n 0]])], .t [.a [.i 4, .u (.l 7 [[.n 3, .n 2, .n 10, .l 2 [[.n 1, .n 3], [.n 2, .n 1]], .n 2, .n 3, .n 5], [.n 4, .n 1, .n 7, .l 2 [[.n 3, .n 2]], .n 0, .n 0, .n 3]]), .i 2, .u (.l 4 [[.n 1, .n 1, .n 1, .n 1000], [.n 1, .n 1, .n 0, .n 0]]), .i 3, .i 200, .i 1, .i 500], .u (.l 2 [[.n 0, .n 0], [.n 1, .n 60], [.n 2, .n 500], [.n 3, .n 2]]), .u (.l 5 [[.n 1, .n 0, .n 1, .n 1, .n 60], [.n 1, .n 0, .n 1, .n 2, .n 40], [.n 1, .n 0, .n 1, .n 3, .n 20], [.n 2, .n 0, .n 1, .n 1, .n 60], [.n 2, .n 0, .n 1, .n 2, .n 40], [.n 2, .n 0, .n 1, .n 3, .n 20]]), .u (.l 9 [[.n 0, .n 1, .n 0, .n 1, .n 1, .n 0, .n 0, .n (-1), .n 0], [.n 0, .n 2, .n 0, .n 1, .n 2, .n 0, .n 0, .n (-1), .n 0], [.n 0, .n 1, .n 0, .n 1, .n 2, .n 3, .n 0, .n 4, .n 0], [.n 0, .n 2, .n 0, .n 1, .n 1, .n 0, .n 8, .n (-1), .n 0], [.n 0, .n 1, .n 0, .n 2, .n 1, .n 0, .n 0, .n (-1), .n 0]])], .a [.i 4, .u (.l 7 [[.n 3, .n 2, .n 10, .l 2 [[.n 1, .n 3], [.n 2, .n 1]], .n 2, .n 3, .n 5], [.n 4, .n 1, .n 7, .l 2 [[.n 3, .n 2]], .n 0, .n 0, .n 3]]), .i 2, .u (.l 4 [[.n 1, .n 1, .n 1, .n 1000], [.n 1, .n 1, .n 0, .n 0]]), .i 3, .i 200, .i 1, .i 500], .u (.l 2 [[.n 0, .n 0], [.n 1, .n 60], [.n 2, .n 500], [.n 3, .n 2]]), .u (.l 5 [[.n 1, .n 0, .n 1, .n 1, .n 60], [.n 1, .n 0, .n 1, .n 2, .n 40], [.n 1, .n 0, .n 1, .n 3, .n 20], [.n 2, .n 0, .n 1, .n 1, .n 60], [.n 2, .n 0, .n 1, .n 2, .n 40], [.n 2, .n 0, .n 1, .n 3, .n 20]]), .u (.l 9 [[.n 0, .n 1, .n 0, .n 1, .n 1, .n 0, .n 0, .n (-1), .n 0], [.n 0, .n 2, .n 0, .n 1, .n 2, .n 0, .n 0, .n (-1), .n 0], [.n 0, .n 1, .n 0, .n 1, .n 2, .n 3, .n 0, .n 4, .n 0], [.n 0, .n 2, .n 0, .n 1, .n 1, .n 0, .n 8, .n (-1), .n 0], [.n 0, .n 1, .n 0, .n 2, .n 1, .n 0, .n 0, .n (-1), .n 0]])] 73 94
def awM4 (v : NbV) : Mem := [.c [.i 4, .u (.l 7 [[.n 3, .n 2, .n 10, .l 2 [[.n 1, .n 3], [.n 2, .n 1]], .n 2, .n 3, .n 5], [.n 4, .n 1, .n 7, .l 2 [[.n 3, .n 2]], .n 0, .n 0, .n 3]]), .i 2, .u (.l 4 [[.n 1, .n 1, .n 1, .n 1000], [.n 1, .n 1, .n 0, .n 0]]), .i 3, .i 200, .i 1, .i 500]]
def awT5 (v : NbV) : Fr := puF (awT3 v) [(21, .a [.i 4, .u (.l 7 [[.n 3, .n 2, .n 10, .l 2 [[.n 1, .n 3], [.n 2, .n 1]], .n 2, .n 3, .n 5], [.n 4, .n 1, .n 7, .l 2 [[.n 3, .n 2]], .n 0, .n 0, .n 3]]), .i 2, .u (.l 4 [[.n 1, .n 1, .n 1, .n 1000], [.n 1, .n 1, .n 0, .n 0]]), .i 3, .i 200, .i 1, .i 500])]
def awk2M0 (v : NbV) : Mem := []
def awk2T1 (v : NbV) : Fr := Fr.mk [.a [.i 4, .u (.l 7 [[.n 3, .n 2, .n 10, .l 2 [[.n 1, .n 3], [.n 2, .n 1]], .n 2, .n 3, .n 5], [.n 4, .n 1, .n 7, .l 2 [[.n 3, .n 2]], .n 0, .n 0, .n 3]]), .i 2, .u (.l 4 [[.n 1, .n 1, .n 1, .n 1000], [.n 1, .n 1, .n 0, .n 0]]), .i 3, .i 200, .i 1, .i 500], .r 0 0, .r 1 0, .r 3 0, .i 4, .r 0 3, .u (.l 4 [[.n 1, .n 1, .n 1, .n 1000], [.n 1, .n 1, .n 0, .n 0]]), .i 2, .i 4, .w 2, .a [.i 0, .i 0, .nl 2, .nl 2, .nl 2, .nl 2, .nl 5, .nl 9, .i 1, .w 2, .nl 16, .nl 19, .nl 2, .nl 3, .i 1, .nl 4], .i 4, .r 0 4, .i 3, .u (.b false), .i 3, .i 4, .r 3 5, .w 4, .i 3, .a [.i 3, .i 0], .w 5, .w 6, .r 3 5, .a [.i 0, .i 0, .nl 2, .nl 2, .nl 2, .w 6, .nl 5, .nl 9, .i 1, .w 2, .nl 16, .nl 19, .nl 2, .nl 3, .i 1, .nl 4]] 0 25
def awk2M2 (v : NbV) : Mem := [.c [.i 4, .u (.l 7 [[.n 3, .n 2, .n 10, .l 2 [[.n 1, .n 3], [.n 2, .n 1]], .n 2, .n 3, .n 5], [.n 4, .n 1, .n 7, .l 2 [[.n 3, .n 2]], .n 0, .n 0, .n 3]]), .i 2, .u (.l 4 [[.n 1, .n 1, .n 1, .n 1000], [.n 1, .n 1, .n 0, .n 0]]), .i 3, .i 200, .i 1, .i 500],
  .c [.i 0, .i 0, .nl 2, .nl 2, .nl 2, .w 6, .nl 5, .nl 9, .i 1, .w 2, .nl 16, .nl 19, .nl 2, .nl 3, .i 1, .nl 4],
  .w 58 2 [[.l 1 [], .l 1 []], [.l 1 [], .l 1 []], [.l 1 [], .l 1 []], [.l 1 [], .l 1 []]],
  .c [.i 0, .i 0, .nl 2, .nl 2, .nl 2, .w 6, .nl 5, .nl 9, .i 1, .w 2, .nl 16, .nl 19, .nl 2, .nl 3, .i 1, .nl 4],
  .x,
  .w 74 2 [[.n 3, .n 0]],
  .w 74 2 [[.n 0, .n 0], [.n 1, .n 0], [.n 2, .n 0], [.n 3, .n 0]]]
abbrev awk2Mm (v : NbV) : Mem := (awk2M0 v)
theorem awk2_run (v : NbV) : PRun Tryz.prog 18 (awk2M0 v) [.a [.i 4, .u (.l 7 [[.n 3, .n 2, .n 10, .l 2 [[.n 1, .n 3], [.n 2, .n 1]], .n 2, .n 3, .n 5], [.n 4, .n 1, .n 7, .l 2 [[.n 3, .n 2]], .n 0, .n 0, .n 3]]), .i 2, .u (.l 4 [[.n 1, .n 1, .n 1, .n 1000], [.n 1, .n 1, .n 0, .n 0]]), .i 3, .i 200, .i 1, .i 500]] fun x m => x = .a [.i 0, .i 0, .nl 2, .nl 2, .nl 2, .u (.l 2 [[.n 0, .n 0], [.n 1, .n 0], [.n 2, .n 0], [.n 3, .n 0]]), .nl 5, .nl 9, .i 1, .u (.l 2 [[.l 1 [], .l 1 []], [.l 1 [], .l 1 []], [.l 1 [], .l 1 []], [.l 1 [], .l 1 []]]), .nl 16, .nl 19, .nl 2, .nl 3, .i 1, .nl 4] ∧ m = (awk2Mm v) := Ev.runA (speNrm.or (speBd [87] bdTs)) Tryz.func18 (c := (bodyOf Tryz.f18)) (r := (.ret, (awk2T1 v), (awk2M2 v))) Ev.codeA
def awT6 (v : NbV) : Fr := puF (awT5 v) [(5, .r 1 0), (22, .a [.i 0, .i 0, .nl 2, .nl 2, .nl 2, .u (.l 2 [[.n 0, .n 0], [.n 1, .n 0], [.n 2, .n 0], [.n 3, .n 0]]), .nl 5, .nl 9, .i 1, .u (.l 2 [[.l 1 [], .l 1 []], [.l 1 [], .l 1 []], [.l 1 [], .l 1 []], [.l 1 [], .l 1 []]]), .nl 16, .nl 19, .nl 2, .nl 3, .i 1, .nl 4])]
def awM7 (v : NbV) : Mem := [.c [.i 4, .u (.l 7 [[.n 3, .n 2, .n 10, .l 2 [[.n 1, .n 3], [.n 2, .n 1]], .n 2, .n 3, .n 5], [.n 4, .n 1, .n 7, .l 2 [[.n 3, .n 2]], .n 0, .n 0, .n 3]]), .i 2, .u (.l 4 [[.n 1, .n 1, .n 1, .n 1000], [.n 1, .n 1, .n 0, .n 0]]), .i 3, .i 200, .i 1, .i 500],
  .c [.i 0, .i 0, .nl 2, .nl 2, .nl 2, .u (.l 2 [[.n 0, .n 0], [.n 1, .n 0], [.n 2, .n 0], [.n 3, .n 0]]), .nl 5, .nl 9, .i 1, .u (.l 2 [[.l 1 [], .l 1 []], [.l 1 [], .l 1 []], [.l 1 [], .l 1 []], [.l 1 [], .l 1 []]]), .nl 16, .nl 19, .nl 2, .nl 3, .i 1, .nl 4]]
def awT8 (v : NbV) : Fr := puF (awT6 v) [(24, .a [.i 4, .u (.l 7 [[.n 3, .n 2, .n 10, .l 2 [[.n 1, .n 3], [.n 2, .n 1]], .n 2, .n 3, .n 5], [.n 4, .n 1, .n 7, .l 2 [[.n 3, .n 2]], .n 0, .n 0, .n 3]]), .i 2, .u (.l 4 [[.n 1, .n 1, .n 1, .n 1000], [.n 1, .n 1, .n 0, .n 0]]), .i 3, .i 200, .i 1, .i 500]), (25, .a [.i 0, .i 0, .nl 2, .nl 2, .nl 2, .u (.l 2 [[.n 0, .n 0], [.n 1, .n 0], [.n 2, .n 0], [.n 3, .n 0]]), .nl 5, .nl 9, .i 1, .u (.l 2 [[.l 1 [], .l 1 []], [.l 1 [], .l 1 []], [.l 1 [], .l 1 []], [.l 1 [], .l 1 []]]), .nl 16, .nl 19, .nl 2, .nl 3, .i 1, .nl 4])]
noncomputable abbrev eK2 := (speKn (speNrm.or (speBd [87] bdTs)) [15])
def awk3T0 (v : NbV) : Fr := frameF Tryz.prog Tryz.f8 [.a [.i 4, .u (.l 7 [[.n 3, .n 2, .n 10, .l 2 [[.n 1, .n 3], [.n 2, .n 1]], .n 2, .n 3, .n 5], [.n 4, .n 1, .n 7, .l 2 [[.n 3, .n 2]], .n 0, .n 0, .n 3]]), .i 2, .u (.l 4 [[.n 1, .n 1, .n 1, .n 1000], [.n 1, .n 1, .n 0, .n 0]]), .i 3, .i 200, .i 1, .i 500], .a [.i 0, .i 0, .nl 2, .nl 2, .nl 2, .u (.l 2 [[.n 0, .n 0], [.n 1, .n 0], [.n 2, .n 0], [.n 3, .n 0]]), .nl 5, .nl 9, .i 1, .u (.l 2 [[.l 1 [], .l 1 []], [.l 1 [], .l 1 []], [.l 1 [], .l 1 []], [.l 1 [], .l 1 []]]), .nl 16, .nl 19, .nl 2, .nl 3, .i 1, .nl 4]]
def awk3M0 (v : NbV) : Mem := []
def awk3T1 (v : NbV) : Fr := puF (awk3T0 v) [(2, .r 0 0), (3, .r 1 0), (4, .u (.s ⟨#[]⟩)), (5, .i 0)]
def awk3M2 (v : NbV) : Mem := [.c [.i 4, .u (.l 7 [[.n 3, .n 2, .n 10, .l 2 [[.n 1, .n 3], [.n 2, .n 1]], .n 2, .n 3, .n 5], [.n 4, .n 1, .n 7, .l 2 [[.n 3, .n 2]], .n 0, .n 0, .n 3]]), .i 2, .u (.l 4 [[.n 1, .n 1, .n 1, .n 1000], [.n 1, .n 1, .n 0, .n 0]]), .i 3, .i 200, .i 1, .i 500],
  .c [.i 0, .i 0, .nl 2, .nl 2, .nl 2, .u (.l 2 [[.n 0, .n 0], [.n 1, .n 0], [.n 2, .n 0], [.n 3, .n 0]]), .nl 5, .nl 9, .i 1, .u (.l 2 [[.l 1 [], .l 1 []], [.l 1 [], .l 1 []], [.l 1 [], .l 1 []], [.l 1 [], .l 1 []]]), .nl 16, .nl 19, .nl 2, .nl 3, .i 1, .nl 4]]
def awk3T3 (v : NbV) : Fr := puF (awk3T1 v) [(12, .a [.i 4, .u (.l 7 [[.n 3, .n 2, .n 10, .l 2 [[.n 1, .n 3], [.n 2, .n 1]], .n 2, .n 3, .n 5], [.n 4, .n 1, .n 7, .l 2 [[.n 3, .n 2]], .n 0, .n 0, .n 3]]), .i 2, .u (.l 4 [[.n 1, .n 1, .n 1, .n 1000], [.n 1, .n 1, .n 0, .n 0]]), .i 3, .i 200, .i 1, .i 500]), (13, .a [.i 0, .i 0, .nl 2, .nl 2, .nl 2, .u (.l 2 [[.n 0, .n 0], [.n 1, .n 0], [.n 2, .n 0], [.n 3, .n 0]]), .nl 5, .nl 9, .i 1, .u (.l 2 [[.l 1 [], .l 1 []], [.l 1 [], .l 1 []], [.l 1 [], .l 1 []], [.l 1 [], .l 1 []]]), .nl 16, .nl 19, .nl 2, .nl 3, .i 1, .nl 4])]
noncomputable abbrev eK3 := (speKn (speNrm.or (speBd [87] bdTs)) [60, 92])
def awk3k4T0 (v : NbV) : Fr := frameF Tryz.prog Tryz.f15 [.a [.i 4, .u (.l 7 [[.n 3, .n 2, .n 10, .l 2 [[.n 1, .n 3], [.n 2, .n 1]], .n 2, .n 3, .n 5], [.n 4, .n 1, .n 7, .l 2 [[.n 3, .n 2]], .n 0, .n 0, .n 3]]), .i 2, .u (.l 4 [[.n 1, .n 1, .n 1, .n 1000], [.n 1, .n 1, .n 0, .n 0]]), .i 3, .i 200, .i 1, .i 500], .a [.i 0, .i 0, .nl 2, .nl 2, .nl 2, .u (.l 2 [[.n 0, .n 0], [.n 1, .n 0], [.n 2, .n 0], [.n 3, .n 0]]), .nl 5, .nl 9, .i 1, .u (.l 2 [[.l 1 [], .l 1 []], [.l 1 [], .l 1 []], [.l 1 [], .l 1 []], [.l 1 [], .l 1 []]]), .nl 16, .nl 19, .nl 2, .nl 3, .i 1, .nl 4]]
def awk3k4M0 (v : NbV) : Mem := []
def awk3k4T1 (v : NbV) : Fr := puF (awk3k4T0 v) [(2, .r 0 0), (3, .r 1 0), (4, .i 0)]
def awk3k4M2 (v : NbV) : Mem := [.c [.i 4, .u (.l 7 [[.n 3, .n 2, .n 10, .l 2 [[.n 1, .n 3], [.n 2, .n 1]], .n 2, .n 3, .n 5], [.n 4, .n 1, .n 7, .l 2 [[.n 3, .n 2]], .n 0, .n 0, .n 3]]), .i 2, .u (.l 4 [[.n 1, .n 1, .n 1, .n 1000], [.n 1, .n 1, .n 0, .n 0]]), .i 3, .i 200, .i 1, .i 500],
  .c [.i 0, .i 0, .nl 2, .nl 2, .nl 2, .u (.l 2 [[.n 0, .n 0], [.n 1, .n 0], [.n 2, .n 0], [.n 3, .n 0]]), .nl 5, .nl 9, .i 1, .u (.l 2 [[.l 1 [], .l 1 []], [.l 1 [], .l 1 []], [.l 1 [], .l 1 []], [.l 1 [], .l 1 []]]), .nl 16, .nl 19, .nl 2, .nl 3, .i 1, .nl 4]]
def awk3k4T3 (v : NbV) : Fr := puF (awk3k4T1 v) [(6, .a [.i 4, .u (.l 7 [[.n 3, .n 2, .n 10, .l 2 [[.n 1, .n 3], [.n 2, .n 1]], .n 2, .n 3, .n 5], [.n 4, .n 1, .n 7, .l 2 [[.n 3, .n 2]], .n 0, .n 0, .n 3]]), .i 2, .u (.l 4 [[.n 1, .n 1, .n 1, .n 1000], [.n 1, .n 1, .n 0, .n 0]]), .i 3, .i 200, .i 1, .i 500])]
def awk3k4k5M0 (v : NbV) : Mem := []
def awk3k4k5T1 (v : NbV) : Fr := Fr.mk [.a [.i 4, .u (.l 7 [[.n 3, .n 2, .n 10, .l 2 [[.n 1, .n 3], [.n 2, .n 1]], .n 2, .n 3, .n 5], [.n 4, .n 1, .n 7, .l 2 [[.n 3, .n 2]], .n 0, .n 0, .n 3]]), .i 2, .u (.l 4 [[.n 1, .n 1, .n 1, .n 1000], [.n 1, .n 1, .n 0, .n 0]]), .i 3, .i 200, .i 1, .i 500], .r 0 0, .i 0, .w 1, .i 0, .a [.i 4, .u (.l 7 [[.n 3, .n 2, .n 10, .l 2 [[.n 1, .n 3], [.n 2, .n 1]], .n 2, .n 3, .n 5], [.n 4, .n 1, .n 7, .l 2 [[.n 3, .n 2]], .n 0, .n 0, .n 3]]), .i 2, .u (.l 4 [[.n 1, .n 1, .n 1, .n 1000], [.n 1, .n 1, .n 0, .n 0]]), .i 3, .i 200, .i 1, .i 500], .u (.b true), .u (.b false), .t [.w 1, .i 0], .r 0 0, .i 4, .a [.i 4, .u (.l 7 [[.n 3, .n 2, .n 10, .l 2 [[.n 1, .n 3], [.n 2, .n 1]], .n 2, .n 3, .n 5], [.n 4, .n 1, .n 7, .l 2 [[.n 3, .n 2]], .n 0, .n 0, .n 3]]), .i 2, .u (.l 4 [[.n 1, .n 1, .n 1, .n 1000], [.n 1, .n 1, .n 0, .n 0]]), .i 3, .i 200, .i 1, .i 500], .w 2, .t [.w 1, .i 0], .w 1, .i 0, .u (.b false), .i 0, .u (.b false), .z, .u (.b false), .w 1, .i 2, .u (.b false)] 0 24
def awk3k4k5M2 (v : NbV) : Mem := [.c [.i 4, .u (.l 7 [[.n 3, .n 2, .n 10, .l 2 [[.n 1, .n 3], [.n 2, .n 1]], .n 2, .n 3, .n 5], [.n 4, .n 1, .n 7, .l 2 [[.n 3, .n 2]], .n 0, .n 0, .n 3]]), .i 2, .u (.l 4 [[.n 1, .n 1, .n 1, .n 1000], [.n 1, .n 1, .n 0, .n 0]]), .i 3, .i 200, .i 1, .i 500],
  .w 3 1 [[.n 0], [.n 0], [.n 1], [.n 2]],
  .w 278 2 [[.n 3, .n 1], [.n 3, .n 2], [.n 4, .n 3]]]
abbrev awk3k4k5Mm (v : NbV) : Mem := (awk3k4k5M0 v)
theorem awk3k4k5_run (v : NbV) : PRun Tryz.prog 60 (awk3k4k5M0 v) [.a [.i 4, .u (.l 7 [[.n 3, .n 2, .n 10, .l 2 [[.n 1, .n 3], [.n 2, .n 1]], .n 2, .n 3, .n 5], [.n 4, .n 1, .n 7, .l 2 [[.n 3, .n 2]], .n 0, .n 0, .n 3]]), .i 2, .u (.l 4 [[.n 1, .n 1, .n 1, .n 1000], [.n 1, .n 1, .n 0, .n 0]]), .i 3, .i 200, .i 1, .i 500]] fun x m => x = .i 0 ∧ m = (awk3k4k5Mm v) := Ev.runA (speNrm.or (speBd [87] bdTs)) Tryz.func60 (c := (bodyOf Tryz.f60)) (r := (.ret, (awk3k4k5T1 v), (awk3k4k5M2 v))) Ev.codeA
def awk3k4T4 (v : NbV) : Fr := puF (awk3k4T3 v) [(5, .i 0), (7, .i 0)]
def awk3k4T5 (v : NbV) : Fr := puF (awk3k4T4 v) [(8, .i 0), (9, .u (.b true)), (10, .u (.b true)), (11, .a [.i 4, .u (.l 7 [[.n 3, .n 2, .n 10, .l 2 [[.n 1, .n 3], [.n 2, .n 1]], .n 2, .n 3, .n 5], [.n 4, .n 1, .n 7, .l 2 [[.n 3, .n 2]], .n 0, .n 0, .n 3]]), .i 2, .u (.l 4 [[.n 1, .n 1, .n 1, .n 1000], [.n 1, .n 1, .n 0, .n 0]]), .i 3, .i 200, .i 1, .i 500]), (12, .a [.i 0, .i 0, .nl 2, .nl 2, .nl 2, .u (.l 2 [[.n 0, .n 0], [.n 1, .n 0], [.n 2, .n 0], [.n 3, .n 0]]), .nl 5, .nl 9, .i 1, .u (.l 2 [[.l 1 [], .l 1 []], [.l 1 [], .l 1 []], [.l 1 [], .l 1 []], [.l 1 [], .l 1 []]]), .nl 16, .nl 19, .nl 2, .nl 3, .i 1, .nl 4])]
noncomputable abbrev eK4 := (speKn (speNrm.or (speBd [87] bdTs)) [160, 161])
def awk3k4k6T0 (v : NbV) : Fr := frameF Tryz.prog Tryz.f92 [.a [.i 4, .u (.l 7 [[.n 3, .n 2, .n 10, .l 2 [[.n 1, .n 3], [.n 2, .n 1]], .n 2, .n 3, .n 5], [.n 4, .n 1, .n 7, .l 2 [[.n 3, .n 2]], .n 0, .n 0, .n 3]]), .i 2, .u (.l 4 [[.n 1, .n 1, .n 1, .n 1000], [.n 1, .n 1, .n 0, .n 0]]), .i 3, .i 200, .i 1, .i 500], .a [.i 0, .i 0, .nl 2, .nl 2, .nl 2, .u (.l 2 [[.n 0, .n 0], [.n 1, .n 0], [.n 2, .n 0], [.n 3, .n 0]]), .nl 5, .nl 9, .i 1, .u (.l 2 [[.l 1 [], .l 1 []], [.l 1 [], .l 1 []], [.l 1 [], .l 1 []], [.l 1 [], .l 1 []]]), .nl 16, .nl 19, .nl 2, .nl 3, .i 1, .nl 4]]
def awk3k4k6M0 (v : NbV) : Mem := []
def awk3k4k6T1 (v : NbV) : Fr := puF (awk3k4k6T0 v) [(2, .r 0 0), (3, .r 1 0), (4, .u (.b false)), (5, .u (.b true)), (6, .r 1 0), (7, .i 0), (8, .u (.b true)), (9, .u (.b true)), (10, .r 1 0), (11, .i 0), (12, .u (.b true)), (13, .u (.b true)), (14, .u (.b true)), (15, .r 1 1), (16, .i 0), (17, .u (.b true)), (18, .u (.b true)), (19, .u (.b true)), (20, .r 1 1), (21, .i 0), (22, .u (.b true)), (23, .u (.b true))]
def awk3k4k6M2 (v : NbV) : Mem := [.c [.i 4, .u (.l 7 [[.n 3, .n 2, .n 10, .l 2 [[.n 1, .n 3], [.n 2, .n 1]], .n 2, .n 3, .n 5], [.n 4, .n 1, .n 7, .l 2 [[.n 3, .n 2]], .n 0, .n 0, .n 3]]), .i 2, .u (.l 4 [[.n 1, .n 1, .n 1, .n 1000], [.n 1, .n 1, .n 0, .n 0]]), .i 3, .i 200, .i 1, .i 500],
  .c [.i 0, .i 0, .nl 2, .nl 2, .nl 2, .u (.l 2 [[.n 0, .n 0], [.n 1, .n 0], [.n 2, .n 0], [.n 3, .n 0]]), .nl 5, .nl 9, .i 1, .u (.l 2 [[.l 1 [], .l 1 []], [.l 1 [], .l 1 []], [.l 1 [], .l 1 []], [.l 1 [], .l 1 []]]), .nl 16, .nl 19, .nl 2, .nl 3, .i 1, .nl 4]]
def awk3k4k6T3 (v : NbV) : Fr := Fr.mk [.a [.i 4, .u (.l 7 [[.n 3, .n 2, .n 10, .l 2 [[.n 1, .n 3], [.n 2, .n 1]], .n 2, .n 3, .n 5], [.n 4, .n 1, .n 7, .l 2 [[.n 3, .n 2]], .n 0, .n 0, .n 3]]), .i 2, .u (.l 4 [[.n 1, .n 1, .n 1, .n 1000], [.n 1, .n 1, .n 0, .n 0]]), .i 3, .i 200, .i 1, .i 500], .a [.i 0, .i 0, .nl 2, .nl 2, .nl 2, .u (.l 2 [[.n 0, .n 0], [.n 1, .n 0], [.n 2, .n 0], [.n 3, .n 0]]), .nl 5, .nl 9, .i 1, .u (.l 2 [[.l 1 [], .l 1 []], [.l 1 [], .l 1 []], [.l 1 [], .l 1 []], [.l 1 [], .l 1 []]]), .nl 16, .nl 19, .nl 2, .nl 3, .i 1, .nl 4], .r 0 0, .r 1 0, .u (.b false), .u (.b true), .r 1 0, .i 0, .u (.b true), .u (.b true), .r 1 0, .i 0, .u (.b true), .u (.b true), .u (.b true), .r 1 1, .i 0, .u (.b true), .u (.b true), .u (.b true), .r 1 1, .i 0, .u (.b true), .u (.b true), .u (.b true), .u (.b true), .r 1 2, .nl 2, .r 0 0, .i 4, .u (.b true), .u (.b true), .u (.b true), .r 1 3, .nl 2, .r 0 0, .i 4, .u (.b true), .u (.b true), .u (.b true), .r 1 4, .nl 2, .r 0 0, .i 4, .u (.b true), .u (.b true), .u (.b true), .a [.i 4, .u (.l 7 [[.n 3, .n 2, .n 10, .l 2 [[.n 1, .n 3], [.n 2, .n 1]], .n 2, .n 3, .n 5], [.n 4, .n 1, .n 7, .l 2 [[.n 3, .n 2]], .n 0, .n 0, .n 3]]), .i 2, .u (.l 4 [[.n 1, .n 1, .n 1, .n 1000], [.n 1, .n 1, .n 0, .n 0]]), .i 3, .i 200, .i 1, .i 500], .a [.i 0, .i 0, .nl 2, .nl 2, .nl 2, .u (.l 2 [[.n 0, .n 0], [.n 1, .n 0], [.n 2, .n 0], [.n 3, .n 0]]), .nl 5, .nl 9, .i 1, .u (.l 2 [[.l 1 [], .l 1 []], [.l 1 [], .l 1 []], [.l 1 [], .l 1 []], [.l 1 [], .l 1 []]]), .nl 16, .nl 19, .nl 2, .nl 3, .i 1, .nl 4]] 7 56
def awk3k4k6k7M0 (v : NbV) : Mem := []
def awk3k4k6k7T1 (v : NbV) : Fr := Fr.mk [.a [.i 4, .u (.l 7 [[.n 3, .n 2, .n 10, .l 2 [[.n 1, .n 3], [.n 2, .n 1]], .n 2, .n 3, .n 5], [.n 4, .n 1, .n 7, .l 2 [[.n 3, .n 2]], .n 0, .n 0, .n 3]]), .i 2, .u (.l 4 [[.n 1, .n 1, .n 1, .n 1000], [.n 1, .n 1, .n 0, .n 0]]), .i 3, .i 200, .i 1, .i 500], .a [.i 0, .i 0, .nl 2, .nl 2, .nl 2, .u (.l 2 [[.n 0, .n 0], [.n 1, .n 0], [.n 2, .n 0], [.n 3, .n 0]]), .nl 5, .nl 9, .i 1, .u (.l 2 [[.l 1 [], .l 1 []], [.l 1 [], .l 1 []], [.l 1 [], .l 1 []], [.l 1 [], .l 1 []]]), .nl 16, .nl 19, .nl 2, .nl 3, .i 1, .nl 4], .r 0 0, .r 1 0, .u (.b true), .r 2 0, .i 0, .i 3, .i 0, .i 0, .z, .z, .z, .z, .t [.r 2 0, .i 0], .r 1 5, .u (.l 2 [[.n 0, .n 0], [.n 1, .n 0], [.n 2, .n 0], [.n 3, .n 0]]), .t [.r 2 0, .i 0], .r 2 0, .i 0, .i 0, .u (.b false), .u (.b false), .r 2 0, .w 4, .r 1 5, .u (.l 2 [[.n 0, .n 0], [.n 1, .n 0], [.n 2, .n 0], [.n 3, .n 0]]), .u (.b true), .u (.b false), .u (.b false), .r 0 4, .i 3, .i 4, .i 4, .u (.b false), .i 3, .t [.i 0, .i 0], .r 2 0, .i 3, .t [.i 0, .i 0], .i 0, .i 0, .i 0, .u (.b false), .i 4, .r 1 12, .nl 2, .i 0, .i 0, .u (.b false), .z, .z, .z, .z, .z, .z, .z, .z, .z, .z, .z, .z, .r 1 6, .nl 5, .f 216 [] [.r 1 0], .u (.b true), .u (.b true), .r 1 7, .nl 9, .f 220 [] [.r 1 0], .u (.b true), .u (.b true)] 0 72
def awk3k4k6k7M2 (v : NbV) : Mem := [.c [.i 4, .u (.l 7 [[.n 3, .n 2, .n 10, .l 2 [[.n 1, .n 3], [.n 2, .n 1]], .n 2, .n 3, .n 5], [.n 4, .n 1, .n 7, .l 2 [[.n 3, .n 2]], .n 0, .n 0, .n 3]]), .i 2, .u (.l 4 [[.n 1, .n 1, .n 1, .n 1000], [.n 1, .n 1, .n 0, .n 0]]), .i 3, .i 200, .i 1, .i 500],
  .c [.i 0, .i 0, .nl 2, .nl 2, .nl 2, .u (.l 2 [[.n 0, .n 0], [.n 1, .n 0], [.n 2, .n 0], [.n 3, .n 0]]), .nl 5, .nl 9, .i 1, .u (.l 2 [[.l 1 [], .l 1 []], [.l 1 [], .l 1 []], [.l 1 [], .l 1 []], [.l 1 [], .l 1 []]]), .nl 16, .nl 19, .nl 2, .nl 3, .i 1, .nl 4],
  .c [.w 3, .i 0],
  .w 412 5 [[.n 0, .n 0, .n 0, .n 0, .n 0], [.n 1, .n 0, .n 0, .n 0, .n 0], [.n 2, .n 0, .n 0, .n 0, .n 0], [.n 3, .n 0, .n 0, .n 0, .n 0]],
  .w 74 2 [[.n 0, .n 0], [.n 1, .n 0], [.n 2, .n 0], [.n 3, .n 0]],
  .c [.nl 5, .n .i64 33 [0, 0, 0, 0, 0, 0, 0, 0, 0, 0, 0, 0, 0, 0, 0, 0, 0, 0, 0, 0, 0, 0, 0, 0, 0, 0, 0, 0, 0, 0, 0, 0, 0]],
  .c [.nl 13, .i 0]]
abbrev awk3k4k6k7Mm (v : NbV) : Mem := (awk3k4k6k7M0 v)
theorem awk3k4k6k7_run (v : NbV) : PRun Tryz.prog 160 (awk3k4k6k7M0 v) [.a [.i 4, .u (.l 7 [[.n 3, .n 2, .n 10, .l 2 [[.n 1, .n 3], [.n 2, .n 1]], .n 2, .n 3, .n 5], [.n 4, .n 1, .n 7, .l 2 [[.n 3, .n 2]], .n 0, .n 0, .n 3]]), .i 2, .u (.l 4 [[.n 1, .n 1, .n 1, .n 1000], [.n 1, .n 1, .n 0, .n 0]]), .i 3, .i 200, .i 1, .i 500], .a [.i 0, .i 0, .nl 2, .nl 2, .nl 2, .u (.l 2 [[.n 0, .n 0], [.n 1, .n 0], [.n 2, .n 0], [.n 3, .n 0]]), .nl 5, .nl 9, .i 1, .u (.l 2 [[.l 1 [], .l 1 []], [.l 1 [], .l 1 []], [.l 1 [], .l 1 []], [.l 1 [], .l 1 []]]), .nl 16, .nl 19, .nl 2, .nl 3, .i 1, .nl 4]] fun x m => x = .u (.b true) ∧ m = (awk3k4k6k7Mm v) := Ev.runA (speNrm.or (speBd [87] bdTs)) Tryz.func160 (c := (bodyOf Tryz.f160)) (r := (.ret, (awk3k4k6k7T1 v), (awk3k4k6k7M2 v))) Ev.codeA
def awk3k4k6T4 (v : NbV) : Fr := puF (awk3k4k6T3 v) [(49, .u (.b true)), (50, .u (.b true)), (51, .u (.b true)), (52, .a [.i 4, .u (.l 7 [[.n 3, .n 2, .n 10, .l 2 [[.n 1, .n 3], [.n 2, .n 1]], .n 2, .n 3, .n 5], [.n 4, .n 1, .n 7, .l 2 [[.n 3, .n 2]], .n 0, .n 0, .n 3]]), .i 2, .u (.l 4 [[.n 1, .n 1, .n 1, .n 1000], [.n 1, .n 1, .n 0, .n 0]]), .i 3, .i 200, .i 1, .i 500]), (53, .a [.i 0, .i 0, .nl 2, .nl 2, .nl 2, .u (.l 2 [[.n 0, .n 0], [.n 1, .n 0], [.n 2, .n 0], [.n 3, .n 0]]), .nl 5, .nl 9, .i 1, .u (.l 2 [[.l 1 [], .l 1 []], [.l 1 [], .l 1 []], [.l 1 [], .l 1 []], [.l 1 [], .l 1 []]]), .nl 16, .nl 19, .nl 2, .nl 3, .i 1, .nl 4])]
def awk3k4k6k8M0 (v : NbV) : Mem := []
def awk3k4k6k8T1 (v : NbV) : Fr := Fr.mk [.a [.i 4, .u (.l 7 [[.n 3, .n 2, .n 10, .l 2 [[.n 1, .n 3], [.n 2, .n 1]], .n 2, .n 3, .n 5], [.n 4, .n 1, .n 7, .l 2 [[.n 3, .n 2]], .n 0, .n 0, .n 3]]), .i 2, .u (.l 4 [[.n 1, .n 1, .n 1, .n 1000], [.n 1, .n 1, .n 0, .n 0]]), .i 3, .i 200, .i 1, .i 500], .a [.i 0, .i 0, .nl 2, .nl 2, .nl 2, .u (.l 2 [[.n 0, .n 0], [.n 1, .n 0], [.n 2, .n 0], [.n 3, .n 0]]), .nl 5, .nl 9, .i 1, .u (.l 2 [[.l 1 [], .l 1 []], [.l 1 [], .l 1 []], [.l 1 [], .l 1 []], [.l 1 [], .l 1 []]]), .nl 16, .nl 19, .nl 2, .nl 3, .i 1, .nl 4], .r 0 0, .r 1 0, .u (.b true), .r 2 0, .i 0, .z, .z, .z, .z, .r 5 0, .i 0, .r 6 0, .i 0, .t [.r 2 0, .i 0], .r 0 3, .u (.l 4 [[.n 1, .n 1, .n 1, .n 1000], [.n 1, .n 1, .n 0, .n 0]]), .r 1 9, .u (.l 2 [[.l 1 [], .l 1 []], [.l 1 [], .l 1 []], [.l 1 [], .l 1 []], [.l 1 [], .l 1 []]]), .t [.r 2 0, .i 0], .r 2 0, .i 0, .i 0, .u (.b false), .u (.b false), .r 1 10, .nl 16, .i 0, .u (.b false), .u (.b false), .u (.b false), .r 1 11, .nl 19, .i 0, .u (.b false), .u (.b false), .r 1 10, .nl 16, .i 0, .i 0, .u (.b false), .z, .z, .z, .z, .z, .z, .z, .z, .z, .z, .z, .z, .z, .z, .r 1 11, .nl 19, .i 0, .i 0, .u (.b false), .z, .z, .z, .z, .z, .z, .z, .z, .z, .z, .z, .z, .z, .z, .r 1 13, .nl 3, .u (.b false), .t [.r 5 0, .i 0], .r 1 12, .nl 2, .t [.r 5 0, .i 0], .r 5 0, .i 0, .t [.r 6 0, .i 0], .r 1 15, .nl 4, .t [.r 6 0, .i 0], .r 6 0, .i 0, .i 0, .u (.b true), .u (.b true), .i 0, .u (.b true), .u (.b true), .u (.b true), .r 1 13, .nl 3, .f 228 [] [.r 1 0], .u (.b true), .u (.b true)] 0 102
def awk3k4k6k8M2 (v : NbV) : Mem := [.c [.i 4, .u (.l 7 [[.n 3, .n 2, .n 10, .l 2 [[.n 1, .n 3], [.n 2, .n 1]], .n 2, .n 3, .n 5], [.n 4, .n 1, .n 7, .l 2 [[.n 3, .n 2]], .n 0, .n 0, .n 3]]), .i 2, .u (.l 4 [[.n 1, .n 1, .n 1, .n 1000], [.n 1, .n 1, .n 0, .n 0]]), .i 3, .i 200, .i 1, .i 500],
  .c [.i 0, .i 0, .nl 2, .nl 2, .nl 2, .u (.l 2 [[.n 0, .n 0], [.n 1, .n 0], [.n 2, .n 0], [.n 3, .n 0]]), .nl 5, .nl 9, .i 1, .u (.l 2 [[.l 1 [], .l 1 []], [.l 1 [], .l 1 []], [.l 1 [], .l 1 []], [.l 1 [], .l 1 []]]), .nl 16, .nl 19, .nl 2, .nl 3, .i 1, .nl 4],
  .c [.w 3, .m 4],
  .cw 381 3 4 [.i 1, .c 1 [], .c 1 [], .i 1, .c 1 [], .c 1 [], .i 1, .c 1 [], .c 1 [], .i 0, .c 1 [], .c 1 []],
  .p .n 1 false [],
  .c [.nl 1],
  .c [.nl 4, .nm]]
abbrev awk3k4k6k8Mm (v : NbV) : Mem := (awk3k4k6k8M0 v)
theorem awk3k4k6k8_run (v : NbV) : PRun Tryz.prog 161 (awk3k4k6k8M0 v) [.a [.i 4, .u (.l 7 [[.n 3, .n 2, .n 10, .l 2 [[.n 1, .n 3], [.n 2, .n 1]], .n 2, .n 3, .n 5], [.n 4, .n 1, .n 7, .l 2 [[.n 3, .n 2]], .n 0, .n 0, .n 3]]), .i 2, .u (.l 4 [[.n 1, .n 1, .n 1, .n 1000], [.n 1, .n 1, .n 0, .n 0]]), .i 3, .i 200, .i 1, .i 500], .a [.i 0, .i 0, .nl 2, .nl 2, .nl 2, .u (.l 2 [[.n 0, .n 0], [.n 1, .n 0], [.n 2, .n 0], [.n 3, .n 0]]), .nl 5, .nl 9, .i 1, .u (.l 2 [[.l 1 [], .l 1 []], [.l 1 [], .l 1 []], [.l 1 [], .l 1 []], [.l 1 [], .l 1 []]]), .nl 16, .nl 19, .nl 2, .nl 3, .i 1, .nl 4]] fun x m => x = .u (.b true) ∧ m = (awk3k4k6k8Mm v) := Ev.runA (speNrm.or (speBd [87] bdTs)) Tryz.func161 (c := (bodyOf Tryz.f161)) (r := (.ret, (awk3k4k6k8T1 v), (awk3k4k6k8M2 v))) Ev.codeA
def awk3k4k6T5 (v : NbV) : Fr := puF (awk3k4k6T4 v) [(4, .u (.b true)), (54, .u (.b true)), (55, .u (.b true))]
abbrev awk3k4k6Mm (v : NbV) : Mem := (awk3k4k6M0 v)
theorem awk3k4k6_run (v : NbV) : PRun Tryz.prog 92 (awk3k4k6M0 v) [.a [.i 4, .u (.l 7 [[.n 3, .n 2, .n 10, .l 2 [[.n 1, .n 3], [.n 2, .n 1]], .n 2, .n 3, .n 5], [.n 4, .n 1, .n 7, .l 2 [[.n 3, .n 2]], .n 0, .n 0, .n 3]]), .i 2, .u (.l 4 [[.n 1, .n 1, .n 1, .n 1000], [.n 1, .n 1, .n 0, .n 0]]), .i 3, .i 200, .i 1, .i 500], .a [.i 0, .i 0, .nl 2, .nl 2, .nl 2, .u (.l 2 [[.n 0, .n 0], [.n 1, .n 0], [.n 2, .n 0], [.n 3, .n 0]]), .nl 5, .nl 9, .i 1, .u (.l 2 [[.l 1 [], .l 1 []], [.l 1 [], .l 1 []], [.l 1 [], .l 1 []], [.l 1 [], .l 1 []]]), .nl 16, .nl 19, .nl 2, .nl 3, .i 1, .nl 4]] fun x m => x = .u (.b true) ∧ m = (awk3k4k6Mm v) := Ev.runA eK4 Tryz.func92 (c := (bodyOf Tryz.f92)) (r := (.ret, (awk3k4k6T5 v), (awk3k4k6M2 v))) (Ev.piecesA (k := 2) (t1 := awk3k4k6T1 v) (m1 := awk3k4k6M2 v) (Ev.seqPA (t1 := awk3k4k6T5 v) (m1 := awk3k4k6M2 v) (Ev.regA (EvO.callA (t2 := awk3k4k6T3 v) (m1 := awk3k4k6M2 v) (ix := []) (k := 25) (t1 := (awk3k4k6T3 v)) (args := [.a [.i 4, .u (.l 7 [[.n 3, .n 2, .n 10, .l 2 [[.n 1, .n 3], [.n 2, .n 1]], .n 2, .n 3, .n 5], [.n 4, .n 1, .n 7, .l 2 [[.n 3, .n 2]], .n 0, .n 0, .n 3]]), .i 2, .u (.l 4 [[.n 1, .n 1, .n 1, .n 1000], [.n 1, .n 1, .n 0, .n 0]]), .i 3, .i 200, .i 1, .i 500], .a [.i 0, .i 0, .nl 2, .nl 2, .nl 2, .u (.l 2 [[.n 0, .n 0], [.n 1, .n 0], [.n 2, .n 0], [.n 3, .n 0]]), .nl 5, .nl 9, .i 1, .u (.l 2 [[.l 1 [], .l 1 []], [.l 1 [], .l 1 []], [.l 1 [], .l 1 []], [.l 1 [], .l 1 []]]), .nl 16, .nl 19, .nl 2, .nl 3, .i 1, .nl 4]]) (a := []) (cc := []) (awk3k4k6k7_run v) (EvO.callA (t2 := awk3k4k6T4 v) (m1 := awk3k4k6M2 v) (ix := []) (k := 4) (t1 := (awk3k4k6T4 v)) (args := [.a [.i 4, .u (.l 7 [[.n 3, .n 2, .n 10, .l 2 [[.n 1, .n 3], [.n 2, .n 1]], .n 2, .n 3, .n 5], [.n 4, .n 1, .n 7, .l 2 [[.n 3, .n 2]], .n 0, .n 0, .n 3]]), .i 2, .u (.l 4 [[.n 1, .n 1, .n 1, .n 1000], [.n 1, .n 1, .n 0, .n 0]]), .i 3, .i 200, .i 1, .i 500], .a [.i 0, .i 0, .nl 2, .nl 2, .nl 2, .u (.l 2 [[.n 0, .n 0], [.n 1, .n 0], [.n 2, .n 0], [.n 3, .n 0]]), .nl 5, .nl 9, .i 1, .u (.l 2 [[.l 1 [], .l 1 []], [.l 1 [], .l 1 []], [.l 1 [], .l 1 []], [.l 1 [], .l 1 []]]), .nl 16, .nl 19, .nl 2, .nl 3, .i 1, .nl 4]]) (a := []) (cc := []) (awk3k4k6k8_run v) EvO.opsA))) Ev.codeA))
def awk3k4T6 (v : NbV) : Fr := puF (awk3k4T5 v) [(13, .u (.b true)), (14, .u (.b false)), (15, .u (.b false))]
def awk3k4T8 (v : NbV) : Fr := puF (awk3k4T6 v) [(16, .i 0)]
abbrev awk3k4Mm (v : NbV) : Mem := (awk3k4M0 v)
theorem awk3k4_run (v : NbV) : PRun Tryz.prog 15 (awk3k4M0 v) [.a [.i 4, .u (.l 7 [[.n 3, .n 2, .n 10, .l 2 [[.n 1, .n 3], [.n 2, .n 1]], .n 2, .n 3, .n 5], [.n 4, .n 1, .n 7, .l 2 [[.n 3, .n 2]], .n 0, .n 0, .n 3]]), .i 2, .u (.l 4 [[.n 1, .n 1, .n 1, .n 1000], [.n 1, .n 1, .n 0, .n 0]]), .i 3, .i 200, .i 1, .i 500], .a [.i 0, .i 0, .nl 2, .nl 2, .nl 2, .u (.l 2 [[.n 0, .n 0], [.n 1, .n 0], [.n 2, .n 0], [.n 3, .n 0]]), .nl 5, .nl 9, .i 1, .u (.l 2 [[.l 1 [], .l 1 []], [.l 1 [], .l 1 []], [.l 1 [], .l 1 []], [.l 1 [], .l 1 []]]), .nl 16, .nl 19, .nl 2, .nl 3, .i 1, .nl 4]] fun x m => x = .i 0 ∧ m = (awk3k4Mm v) := Ev.runA eK3 Tryz.func15 (c := (bodyOf Tryz.f15)) (r := (.ret, (awk3k4T8 v), (awk3k4M2 v))) (Ev.piecesA (k := 1) (t1 := awk3k4T1 v) (m1 := awk3k4M2 v) (Ev.seqPA (t1 := awk3k4T4 v) (m1 := awk3k4M2 v) (Ev.regA (EvO.callA (t2 := awk3k4T3 v) (m1 := awk3k4M2 v) (ix := []) (k := 1) (t1 := (awk3k4T3 v)) (args := [.a [.i 4, .u (.l 7 [[.n 3, .n 2, .n 10, .l 2 [[.n 1, .n 3], [.n 2, .n 1]], .n 2, .n 3, .n 5], [.n 4, .n 1, .n 7, .l 2 [[.n 3, .n 2]], .n 0, .n 0, .n 3]]), .i 2, .u (.l 4 [[.n 1, .n 1, .n 1, .n 1000], [.n 1, .n 1, .n 0, .n 0]]), .i 3, .i 200, .i 1, .i 500]]) (a := []) (cc := []) (awk3k4k5_run v) EvO.opsA)) (Ev.seqPA (t1 := awk3k4T6 v) (m1 := awk3k4M2 v) (Ev.seqPA (t1 := awk3k4T6 v) (m1 := awk3k4M2 v) (Ev.regA (EvO.callA (t2 := awk3k4T5 v) (m1 := awk3k4M2 v) (ix := []) (k := 5) (t1 := (awk3k4T5 v)) (args := [.a [.i 4, .u (.l 7 [[.n 3, .n 2, .n 10, .l 2 [[.n 1, .n 3], [.n 2, .n 1]], .n 2, .n 3, .n 5], [.n 4, .n 1, .n 7, .l 2 [[.n 3, .n 2]], .n 0, .n 0, .n 3]]), .i 2, .u (.l 4 [[.n 1, .n 1, .n 1, .n 1000], [.n 1, .n 1, .n 0, .n 0]]), .i 3, .i 200, .i 1, .i 500], .a [.i 0, .i 0, .nl 2, .nl 2, .nl 2, .u (.l 2 [[.n 0, .n 0], [.n 1, .n 0], [.n 2, .n 0], [.n 3, .n 0]]), .nl 5, .nl 9, .i 1, .u (.l 2 [[.l 1 [], .l 1 []], [.l 1 [], .l 1 []], [.l 1 [], .l 1 []], [.l 1 [], .l 1 []]]), .nl 16, .nl 19, .nl 2, .nl 3, .i 1, .nl 4]]) (a := []) (cc := []) (awk3k4k6_run v) EvO.opsA)) Ev.codeA) Ev.codeA)))
def awk3T4 (v : NbV) : Fr := puF (awk3T3 v) [(6, .i 0), (14, .i 0)]
def awk3T5 (v : NbV) : Fr := puF (awk3T4 v) [(15, .i 0), (16, .u (.b false))]
def awk3T6 (v : NbV) : Fr := Fr.mk [.a [.i 4, .u (.l 7 [[.n 3, .n 2, .n 10, .l 2 [[.n 1, .n 3], [.n 2, .n 1]], .n 2, .n 3, .n 5], [.n 4, .n 1, .n 7, .l 2 [[.n 3, .n 2]], .n 0, .n 0, .n 3]]), .i 2, .u (.l 4 [[.n 1, .n 1, .n 1, .n 1000], [.n 1, .n 1, .n 0, .n 0]]), .i 3, .i 200, .i 1, .i 500], .a [.i 0, .i 0, .nl 2, .nl 2, .nl 2, .u (.l 2 [[.n 0, .n 0], [.n 1, .n 0], [.n 2, .n 0], [.n 3, .n 0]]), .nl 5, .nl 9, .i 1, .u (.l 2 [[.l 1 [], .l 1 []], [.l 1 [], .l 1 []], [.l 1 [], .l 1 []], [.l 1 [], .l 1 []]]), .nl 16, .nl 19, .nl 2, .nl 3, .i 1, .nl 4], .r 0 0, .r 1 0, .u (.s ⟨#[0, 0, 0, 0, 0, 4, 0, 0, 1, 0, 2, 0, 3, 0, 0, 0, 1, 4, 0, 0, 0, 0, 0, 0, 0, 0, 0, 0, 0, 0, 1, 1, 0]⟩), .i 0, .i 0, .r 3 0, .f 21 [] [.r 3 0], .r 4 0, .u (.s ⟨#[0]⟩), .i 0, .a [.i 4, .u (.l 7 [[.n 3, .n 2, .n 10, .l 2 [[.n 1, .n 3], [.n 2, .n 1]], .n 2, .n 3, .n 5], [.n 4, .n 1, .n 7, .l 2 [[.n 3, .n 2]], .n 0, .n 0, .n 3]]), .i 2, .u (.l 4 [[.n 1, .n 1, .n 1, .n 1000], [.n 1, .n 1, .n 0, .n 0]]), .i 3, .i 200, .i 1, .i 500], .a [.i 0, .i 0, .nl 2, .nl 2, .nl 2, .u (.l 2 [[.n 0, .n 0], [.n 1, .n 0], [.n 2, .n 0], [.n 3, .n 0]]), .nl 5, .nl 9, .i 1, .u (.l 2 [[.l 1 [], .l 1 []], [.l 1 [], .l 1 []], [.l 1 [], .l 1 []], [.l 1 [], .l 1 []]]), .nl 16, .nl 19, .nl 2, .nl 3, .i 1, .nl 4], .i 0, .i 0, .u (.b false), .z, .a [.u (.p none), .nl 1], .r 2 0, .f 21 [] [.r 3 0], .f 23 [] [.r 3 0], .r 2 0, .r 1 0, .i 0, .r 1 1, .i 0, .w 5, .t [], .r 2 0, .r 1 2, .nl 2, .f 21 [] [.r 3 0], .t [], .r 2 0, .r 1 3, .nl 2, .f 21 [] [.r 3 0], .t [], .r 2 0, .r 1 4, .nl 2, .f 21 [] [.r 3 0], .t [], .r 2 0, .r 1 5, .u (.l 2 [[.n 0, .n 0], [.n 1, .n 0], [.n 2, .n 0], [.n 3, .n 0]]), .f 26 [] [.r 3 0], .t [], .r 2 0, .r 1 6, .nl 5, .f 28 [] [.r 3 0], .t [], .r 2 0, .r 1 7, .nl 9, .f 30 [] [.r 3 0], .t [], .r 2 0, .r 1 8, .i 1, .w 11, .t [], .r 2 0, .r 1 9, .u (.l 2 [[.l 1 [], .l 1 []], [.l 1 [], .l 1 []], [.l 1 [], .l 1 []], [.l 1 [], .l 1 []]]), .f 34 [] [.r 3 0, .r 4 0], .t [], .r 2 0, .r 1 10, .nl 16, .f 37 [] [.r 3 0], .t [], .r 2 0, .r 1 11, .nl 19, .f 41 [] [.r 3 0], .t [], .r 2 0, .r 1 12, .nl 2, .f 44 [] [.r 3 0], .t [], .r 2 0, .r 1 13, .nl 3, .f 48 [] [.r 3 0], .t [], .r 2 0, .r 1 14, .i 1, .w 16, .t [], .t [.u (.s ⟨#[0]⟩), .i 0], .r 1 15, .nl 4, .t [.u (.s ⟨#[0]⟩), .i 0], .u (.s ⟨#[0]⟩), .i 0, .r 2 0, .u (.s ⟨#[0]⟩), .t [], .r 2 0, .r 2 0, .r 2 0, .u (.s ⟨#[0, 0, 0, 0, 0, 4, 0, 0, 1, 0, 2, 0, 3, 0, 0, 0, 1, 4, 0, 0, 0, 0, 0, 0, 0, 0, 0, 0, 0, 0, 1, 1, 0]⟩)] 0 107
def awk3M7 (v : NbV) : Mem := paM (awk3M2 v) [] [.x,
  .c [.r 2 0],
  .c [.f 23 [] [.r 3 0]],
  .w 3 1 [[.n 0], [.n 0]],
  .w 3 1 [[.n 0]],
  .w 3 1 [[.n 0]],
  .w 3 1 [[.n 0]],
  .w 3 1 [[.n 0]],
  .w 3 1 [[.n 0]],
  .w 3 1 [[.n 1]],
  .w 3 1 [[.n 0]],
  .w 3 1 [[.n 0]],
  .w 3 1 [[.n 0]],
  .w 3 1 [[.n 0]],
  .w 3 1 [[.n 1]],
  .c [.nl 4, .nm]]
abbrev awk3Mm (v : NbV) : Mem := (awk3M0 v)
theorem awk3_run (v : NbV) : PRun Tryz.prog 8 (awk3M0 v) [.a [.i 4, .u (.l 7 [[.n 3, .n 2, .n 10, .l 2 [[.n 1, .n 3], [.n 2, .n 1]], .n 2, .n 3, .n 5], [.n 4, .n 1, .n 7, .l 2 [[.n 3, .n 2]], .n 0, .n 0, .n 3]]), .i 2, .u (.l 4 [[.n 1, .n 1, .n 1, .n 1000], [.n 1, .n 1, .n 0, .n 0]]), .i 3, .i 200, .i 1, .i 500], .a [.i 0, .i 0, .nl 2, .nl 2, .nl 2, .u (.l 2 [[.n 0, .n 0], [.n 1, .n 0], [.n 2, .n 0], [.n 3, .n 0]]), .nl 5, .nl 9, .i 1, .u (.l 2 [[.l 1 [], .l 1 []], [.l 1 [], .l 1 []], [.l 1 [], .l 1 []], [.l 1 [], .l 1 []]]), .nl 16, .nl 19, .nl 2, .nl 3, .i 1, .nl 4]] fun x m => x = .t [.u (.s ⟨#[0, 0, 0, 0, 0, 4, 0, 0, 1, 0, 2, 0, 3, 0, 0, 0, 1, 4, 0, 0, 0, 0, 0, 0, 0, 0, 0, 0, 0, 0, 1, 1, 0]⟩), .i 0] ∧ m = (awk3Mm v) := Ev.runA eK2 Tryz.func8 (c := (bodyOf Tryz.f8)) (r := (.ret, (awk3T6 v), (awk3M7 v))) (Ev.piecesA (k := 1) (t1 := awk3T1 v) (m1 := awk3M2 v) (Ev.seqPA (t1 := awk3T5 v) (m1 := awk3M2 v) (Ev.seqPA (t1 := awk3T4 v) (m1 := awk3M2 v) (Ev.regA (EvO.callA (t2 := awk3T3 v) (m1 := awk3M2 v) (ix := []) (k := 2) (t1 := (awk3T3 v)) (args := [.a [.i 4, .u (.l 7 [[.n 3, .n 2, .n 10, .l 2 [[.n 1, .n 3], [.n 2, .n 1]], .n 2, .n 3, .n 5], [.n 4, .n 1, .n 7, .l 2 [[.n 3, .n 2]], .n 0, .n 0, .n 3]]), .i 2, .u (.l 4 [[.n 1, .n 1, .n 1, .n 1000], [.n 1, .n 1, .n 0, .n 0]]), .i 3, .i 200, .i 1, .i 500], .a [.i 0, .i 0, .nl 2, .nl 2, .nl 2, .u (.l 2 [[.n 0, .n 0], [.n 1, .n 0], [.n 2, .n 0], [.n 3, .n 0]]), .nl 5, .nl 9, .i 1, .u (.l 2 [[.l 1 [], .l 1 []], [.l 1 [], .l 1 []], [.l 1 [], .l 1 []], [.l 1 [], .l 1 []]]), .nl 16, .nl 19, .nl 2, .nl 3, .i 1, .nl 4]]) (a := []) (cc := []) (awk3k4_run v) EvO.opsA)) Ev.codeA) Ev.codeA))
def awT9 (v : NbV) : Fr := puF (awT8 v) [(6, .u (.s ⟨#[0, 0, 0, 0, 0, 4, 0, 0, 1, 0, 2, 0, 3, 0, 0, 0, 1, 4, 0, 0, 0, 0, 0, 0, 0, 0, 0, 0, 0, 0, 1, 1, 0]⟩)), (7, .i 0), (23, .t [.u (.s ⟨#[0, 0, 0, 0, 0, 4, 0, 0, 1, 0, 2, 0, 3, 0, 0, 0, 1, 4, 0, 0, 0, 0, 0, 0, 0, 0, 0, 0, 0, 0, 1, 1, 0]⟩), .i 0]), (26, .t [.u (.s ⟨#[0, 0, 0, 0, 0, 4, 0, 0, 1, 0, 2, 0, 3, 0, 0, 0, 1, 4, 0, 0, 0, 0, 0, 0, 0, 0, 0, 0, 0, 0, 1, 1, 0]⟩), .i 0]), (27, .u (.s ⟨#[0, 0, 0, 0, 0, 4, 0, 0, 1, 0, 2, 0, 3, 0, 0, 0, 1, 4, 0, 0, 0, 0, 0, 0, 0, 0, 0, 0, 0, 0, 1, 1, 0]⟩)), (28, .i 0)]
def awT10 (v : NbV) : Fr := puF (awT9 v) [(30, .a [.i 4, .u (.l 7 [[.n 3, .n 2, .n 10, .l 2 [[.n 1, .n 3], [.n 2, .n 1]], .n 2, .n 3, .n 5], [.n 4, .n 1, .n 7, .l 2 [[.n 3, .n 2]], .n 0, .n 0, .n 3]]), .i 2, .u (.l 4 [[.n 1, .n 1, .n 1, .n 1000], [.n 1, .n 1, .n 0, .n 0]]), .i 3, .i 200, .i 1, .i 500]), (31, .u (.s ⟨#[0, 0, 0, 0, 0, 4, 0, 0, 1, 0, 2, 0, 3, 0, 0, 0, 1, 4, 0, 0, 0, 0, 0, 0, 0, 0, 0, 0, 0, 0, 1, 1, 0]⟩))]
def awk9T0 (v : NbV) : Fr := frameF Tryz.prog Tryz.f10 [.a [.i 4, .u (.l 7 [[.n 3, .n 2, .n 10, .l 2 [[.n 1, .n 3], [.n 2, .n 1]], .n 2, .n 3, .n 5], [.n 4, .n 1, .n 7, .l 2 [[.n 3, .n 2]], .n 0, .n 0, .n 3]]), .i 2, .u (.l 4 [[.n 1, .n 1, .n 1, .n 1000], [.n 1, .n 1, .n 0, .n 0]]), .i 3, .i 200, .i 1, .i 500], .u (.s ⟨#[0, 0, 0, 0, 0, 4, 0, 0, 1, 0, 2, 0, 3, 0, 0, 0, 1, 4, 0, 0, 0, 0, 0, 0, 0, 0, 0, 0, 0, 0, 1, 1, 0]⟩)]
def awk9M0 (v : NbV) : Mem := []
def awk9T1 (v : NbV) : Fr := puF (awk9T0 v) [(2, .r 0 0), (4, .r 1 0), (5, .i 0)]
def awk9M2 (v : NbV) : Mem := [.c [.i 4, .u (.l 7 [[.n 3, .n 2, .n 10, .l 2 [[.n 1, .n 3], [.n 2, .n 1]], .n 2, .n 3, .n 5], [.n 4, .n 1, .n 7, .l 2 [[.n 3, .n 2]], .n 0, .n 0, .n 3]]), .i 2, .u (.l 4 [[.n 1, .n 1, .n 1, .n 1000], [.n 1, .n 1, .n 0, .n 0]]), .i 3, .i 200, .i 1, .i 500],
  .c [.i 0, .i 0, .nl 2, .nl 2, .nl 2, .nl 2, .nl 5, .nl 9, .i 0, .nl 2, .nl 16, .nl 19, .nl 2, .nl 3, .i 0, .nl 4]]
def awk9T3 (v : NbV) : Fr := puF (awk9T1 v) [(11, .a [.i 4, .u (.l 7 [[.n 3, .n 2, .n 10, .l 2 [[.n 1, .n 3], [.n 2, .n 1]], .n 2, .n 3, .n 5], [.n 4, .n 1, .n 7, .l 2 [[.n 3, .n 2]], .n 0, .n 0, .n 3]]), .i 2, .u (.l 4 [[.n 1, .n 1, .n 1, .n 1000], [.n 1, .n 1, .n 0, .n 0]]), .i 3, .i 200, .i 1, .i 500])]
def awk9T4 (v : NbV) : Fr := puF (awk9T3 v) [(6, .i 0), (12, .i 0)]
def awk9T5 (v : NbV) : Fr := puF (awk9T4 v) [(13, .i 0)]
def awk9T6 (v : NbV) : Fr := puF (awk9T5 v) [(14, .u (.b false))]
def awk9T8 (v : NbV) : Fr := Fr.mk [.a [.i 4, .u (.l 7 [[.n 3, .n 2, .n 10, .l 2 [[.n 1, .n 3], [.n 2, .n 1]], .n 2, .n 3, .n 5], [.n 4, .n 1, .n 7, .l 2 [[.n 3, .n 2]], .n 0, .n 0, .n 3]]), .i 2, .u (.l 4 [[.n 1, .n 1, .n 1, .n 1000], [.n 1, .n 1, .n 0, .n 0]]), .i 3, .i 200, .i 1, .i 500], .u (.s ⟨#[0, 0, 0, 0, 0, 4, 0, 0, 1, 0, 2, 0, 3, 0, 0, 0, 1, 4, 0, 0, 0, 0, 0, 0, 0, 0, 0, 0, 0, 0, 1, 1, 0]⟩), .r 0 0, .z, .r 1 0, .i 0, .i 0, .r 4 0, .f 62 [] [.r 4 0], .r 5 0, .z, .a [.i 4, .u (.l 7 [[.n 3, .n 2, .n 10, .l 2 [[.n 1, .n 3], [.n 2, .n 1]], .n 2, .n 3, .n 5], [.n 4, .n 1, .n 7, .l 2 [[.n 3, .n 2]], .n 0, .n 0, .n 3]]), .i 2, .u (.l 4 [[.n 1, .n 1, .n 1, .n 1000], [.n 1, .n 1, .n 0, .n 0]]), .i 3, .i 200, .i 1, .i 500], .i 0, .i 0, .u (.b false), .z, .z, .u (.s ⟨#[0, 0, 0, 0, 0, 4, 0, 0, 1, 0, 2, 0, 3, 0, 0, 0, 1, 4, 0, 0, 0, 0, 0, 0, 0, 0, 0, 0, 0, 0, 1, 1, 0]⟩), .r 2 0, .a [.r 2 0, .u (.b false)], .r 3 0, .f 62 [] [.r 4 0], .r 3 0, .i 0, .r 3 0, .i 0, .a [.i 0, .i 0, .nl 2, .nl 2, .nl 2, .nl 2, .nl 5, .nl 9, .i 0, .nl 2, .nl 16, .nl 19, .nl 2, .nl 3, .i 0, .nl 4], .r 3 0, .f 62 [] [.r 4 0], .nl 2, .r 3 0, .f 62 [] [.r 4 0], .nl 2, .r 3 0, .f 62 [] [.r 4 0], .nl 2, .r 5 2, .r 5 3, .r 5 4, .r 3 0, .f 66 [] [.r 4 0], .w 6, .r 5 5, .r 3 0, .f 68 [] [.r 4 0], .nl 5, .r 5 6, .r 3 0, .f 70 [] [.r 4 0], .nl 9, .r 5 7, .r 3 0, .i 1, .r 5 8, .r 3 0, .f 73 [] [.r 4 0], .w 7, .r 5 9, .r 3 0, .f 76 [] [.r 4 0], .nl 16, .r 5 10, .r 3 0, .f 80 [] [.r 4 0], .nl 19, .r 5 11, .r 3 0, .f 84 [] [.r 4 0], .nl 2, .r 5 12, .r 5 12, .nl 2, .i 0, .i 0, .u (.b false), .z, .z, .z, .z, .z, .z, .z, .z, .z, .r 3 0, .f 88 [] [.r 4 0], .nl 3, .r 5 13, .r 3 0, .i 1, .r 5 14, .r 3 0, .nl 4, .r 5 15] 20 114
def awk9M9 (v : NbV) : Mem := [.c [.i 4, .u (.l 7 [[.n 3, .n 2, .n 10, .l 2 [[.n 1, .n 3], [.n 2, .n 1]], .n 2, .n 3, .n 5], [.n 4, .n 1, .n 7, .l 2 [[.n 3, .n 2]], .n 0, .n 0, .n 3]]), .i 2, .u (.l 4 [[.n 1, .n 1, .n 1, .n 1000], [.n 1, .n 1, .n 0, .n 0]]), .i 3, .i 200, .i 1, .i 500],
  .c [.i 0, .i 0, .nl 2, .nl 2, .nl 2, .nl 2, .nl 5, .nl 9, .i 0, .nl 2, .nl 16, .nl 19, .nl 2, .nl 3, .i 0, .nl 4],
  .c [.u (.s ⟨#[]⟩), .u (.b false), .u (.b true)],
  .c [.r 2 0, .u (.b false)],
  .c [.r 3 0],
  .c [.i 0, .i 0, .nl 2, .nl 2, .nl 2, .w 6, .nl 5, .nl 9, .i 1, .w 7, .nl 16, .nl 19, .nl 2, .nl 3, .i 1, .nl 4],
  .w 74 2 [[.n 0, .n 0], [.n 1, .n 0], [.n 2, .n 0], [.n 3, .n 0]],
  .w 58 2 [[.l 1 [], .l 1 []], [.l 1 [], .l 1 []], [.l 1 [], .l 1 []], [.l 1 [], .l 1 []]]]
def awk9T10 (v : NbV) : Fr := puF (awk9T8 v) [(94, .r 3 0), (95, .r 3 0), (96, .r 3 1), (97, .u (.b false)), (98, .u (.b false)), (99, .r 3 0), (100, .r 3 0), (101, .r 3 0), (102, .r 2 0), (103, .u (.b true)), (104, .u (.b false)), (105, .u (.b false)), (106, .u (.b false)), (107, .a [.i 4, .u (.l 7 [[.n 3, .n 2, .n 10, .l 2 [[.n 1, .n 3], [.n 2, .n 1]], .n 2, .n 3, .n 5], [.n 4, .n 1, .n 7, .l 2 [[.n 3, .n 2]], .n 0, .n 0, .n 3]]), .i 2, .u (.l 4 [[.n 1, .n 1, .n 1, .n 1000], [.n 1, .n 1, .n 0, .n 0]]), .i 3, .i 200, .i 1, .i 500]), (108, .a [.i 0, .i 0, .nl 2, .nl 2, .nl 2, .w 6, .nl 5, .nl 9, .i 1, .w 7, .nl 16, .nl 19, .nl 2, .nl 3, .i 1, .nl 4])]
def awk9k10M0 (v : NbV) : Mem := [.w 74 2 [[.n 0, .n 0], [.n 1, .n 0], [.n 2, .n 0], [.n 3, .n 0]],
  .w 58 2 [[.l 1 [], .l 1 []], [.l 1 [], .l 1 []], [.l 1 [], .l 1 []], [.l 1 [], .l 1 []]]]
def awk9k10T1 (v : NbV) : Fr := puF (awk3k4k6T1 v) [(1, .a [.i 0, .i 0, .nl 2, .nl 2, .nl 2, .w 0, .nl 5, .nl 9, .i 1, .w 1, .nl 16, .nl 19, .nl 2, .nl 3, .i 1, .nl 4]), (2, .r 2 0), (3, .r 3 0), (6, .r 3 0), (10, .r 3 0), (15, .r 3 1), (20, .r 3 1)]
def awk9k10M2 (v : NbV) : Mem := [.w 74 2 [[.n 0, .n 0], [.n 1, .n 0], [.n 2, .n 0], [.n 3, .n 0]],
  .w 58 2 [[.l 1 [], .l 1 []], [.l 1 [], .l 1 []], [.l 1 [], .l 1 []], [.l 1 [], .l 1 []]],
  .c [.i 4, .u (.l 7 [[.n 3, .n 2, .n 10, .l 2 [[.n 1, .n 3], [.n 2, .n 1]], .n 2, .n 3, .n 5], [.n 4, .n 1, .n 7, .l 2 [[.n 3, .n 2]], .n 0, .n 0, .n 3]]), .i 2, .u (.l 4 [[.n 1, .n 1, .n 1, .n 1000], [.n 1, .n 1, .n 0, .n 0]]), .i 3, .i 200, .i 1, .i 500],
  .c [.i 0, .i 0, .nl 2, .nl 2, .nl 2, .w 0, .nl 5, .nl 9, .i 1, .w 1, .nl 16, .nl 19, .nl 2, .nl 3, .i 1, .nl 4]]
def awk9k10T3 (v : NbV) : Fr := puF (awk3k4k6T3 v) [(1, .a [.i 0, .i 0, .nl 2, .nl 2, .nl 2, .w 0, .nl 5, .nl 9, .i 1, .w 1, .nl 16, .nl 19, .nl 2, .nl 3, .i 1, .nl 4]), (2, .r 2 0), (3, .r 3 0), (6, .r 3 0), (10, .r 3 0), (15, .r 3 1), (20, .r 3 1), (26, .r 3 2), (28, .r 2 0), (33, .r 3 3), (35, .r 2 0), (40, .r 3 4), (42, .r 2 0), (48, .a [.i 0, .i 0, .nl 2, .nl 2, .nl 2, .w 0, .nl 5, .nl 9, .i 1, .w 1, .nl 16, .nl 19, .nl 2, .nl 3, .i 1, .nl 4])]
def awk9k10k11M0 (v : NbV) : Mem := [.w 74 2 [[.n 0, .n 0], [.n 1, .n 0], [.n 2, .n 0], [.n 3, .n 0]],
  .w 58 2 [[.l 1 [], .l 1 []], [.l 1 [], .l 1 []], [.l 1 [], .l 1 []], [.l 1 [], .l 1 []]]]
def awk9k10k11T1 (v : NbV) : Fr := puF (awk3k4k6k7T1 v) [(1, .a [.i 0, .i 0, .nl 2, .nl 2, .nl 2, .w 0, .nl 5, .nl 9, .i 1, .w 1, .nl 16, .nl 19, .nl 2, .nl 3, .i 1, .nl 4]), (2, .r 2 0), (3, .r 3 0), (5, .r 4 0), (14, .t [.r 4 0, .i 0]), (15, .r 3 5), (16, .w 0), (17, .t [.r 4 0, .i 0]), (18, .r 4 0), (23, .r 4 0), (24, .w 6), (25, .r 3 5), (26, .w 0), (30, .r 2 4), (37, .r 4 0), (45, .r 3 12), (62, .r 3 6), (64, .f 216 [] [.r 3 0]), (67, .r 3 7), (69, .f 220 [] [.r 3 0])]
def awk9k10k11M2 (v : NbV) : Mem := [.w 74 2 [[.n 0, .n 0], [.n 1, .n 0], [.n 2, .n 0], [.n 3, .n 0]],
  .w 58 2 [[.l 1 [], .l 1 []], [.l 1 [], .l 1 []], [.l 1 [], .l 1 []], [.l 1 [], .l 1 []]],
  .c [.i 4, .u (.l 7 [[.n 3, .n 2, .n 10, .l 2 [[.n 1, .n 3], [.n 2, .n 1]], .n 2, .n 3, .n 5], [.n 4, .n 1, .n 7, .l 2 [[.n 3, .n 2]], .n 0, .n 0, .n 3]]), .i 2, .u (.l 4 [[.n 1, .n 1, .n 1, .n 1000], [.n 1, .n 1, .n 0, .n 0]]), .i 3, .i 200, .i 1, .i 500],
  .c [.i 0, .i 0, .nl 2, .nl 2, .nl 2, .w 0, .nl 5, .nl 9, .i 1, .w 1, .nl 16, .nl 19, .nl 2, .nl 3, .i 1, .nl 4],
  .c [.w 5, .i 0],
  .w 412 5 [[.n 0, .n 0, .n 0, .n 0, .n 0], [.n 1, .n 0, .n 0, .n 0, .n 0], [.n 2, .n 0, .n 0, .n 0, .n 0], [.n 3, .n 0, .n 0, .n 0, .n 0]],
  .w 74 2 [[.n 0, .n 0], [.n 1, .n 0], [.n 2, .n 0], [.n 3, .n 0]],
  .c [.nl 5, .n .i64 33 [0, 0, 0, 0, 0, 0, 0, 0, 0, 0, 0, 0, 0, 0, 0, 0, 0, 0, 0, 0, 0, 0, 0, 0, 0, 0, 0, 0, 0, 0, 0, 0, 0]],
  .c [.nl 13, .i 0]]
abbrev awk9k10k11Mm (v : NbV) : Mem := (awk9k10k11M0 v)
theorem awk9k10k11_run (v : NbV) : PRun Tryz.prog 160 (awk9k10k11M0 v) [.a [.i 4, .u (.l 7 [[.n 3, .n 2, .n 10, .l 2 [[.n 1, .n 3], [.n 2, .n 1]], .n 2, .n 3, .n 5], [.n 4, .n 1, .n 7, .l 2 [[.n 3, .n 2]], .n 0, .n 0, .n 3]]), .i 2, .u (.l 4 [[.n 1, .n 1, .n 1, .n 1000], [.n 1, .n 1, .n 0, .n 0]]), .i 3, .i 200, .i 1, .i 500], .a [.i 0, .i 0, .nl 2, .nl 2, .nl 2, .w 0, .nl 5, .nl 9, .i 1, .w 1, .nl 16, .nl 19, .nl 2, .nl 3, .i 1, .nl 4]] fun x m => x = .u (.b true) ∧ m = (awk9k10k11Mm v) := Ev.runA (speNrm.or (speBd [87] bdTs)) Tryz.func160 (c := (bodyOf Tryz.f160)) (r := (.ret, (awk9k10k11T1 v), (awk9k10k11M2 v))) Ev.codeA
def awk9k10T4 (v : NbV) : Fr := puF (awk9k10T3 v) [(49, .u (.b true)), (50, .u (.b true)), (51, .u (.b true)), (52, .a [.i 4, .u (.l 7 [[.n 3, .n 2, .n 10, .l 2 [[.n 1, .n 3], [.n 2, .n 1]], .n 2, .n 3, .n 5], [.n 4, .n 1, .n 7, .l 2 [[.n 3, .n 2]], .n 0, .n 0, .n 3]]), .i 2, .u (.l 4 [[.n 1, .n 1, .n 1, .n 1000], [.n 1, .n 1, .n 0, .n 0]]), .i 3, .i 200, .i 1, .i 500]), (53, .a [.i 0, .i 0, .nl 2, .nl 2, .nl 2, .w 0, .nl 5, .nl 9, .i 1, .w 1, .nl 16, .nl 19, .nl 2, .nl 3, .i 1, .nl 4])]
def awk9k10k12M0 (v : NbV) : Mem := [.w 74 2 [[.n 0, .n 0], [.n 1, .n 0], [.n 2, .n 0], [.n 3, .n 0]],
  .w 58 2 [[.l 1 [], .l 1 []], [.l 1 [], .l 1 []], [.l 1 [], .l 1 []], [.l 1 [], .l 1 []]]]
def awk9k10k12T1 (v : NbV) : Fr := puF (awk3k4k6k8T1 v) [(1, .a [.i 0, .i 0, .nl 2, .nl 2, .nl 2, .w 0, .nl 5, .nl 9, .i 1, .w 1, .nl 16, .nl 19, .nl 2, .nl 3, .i 1, .nl 4]), (2, .r 2 0), (3, .r 3 0), (5, .r 4 0), (11, .r 7 0), (13, .r 8 0), (15, .t [.r 4 0, .i 0]), (16, .r 2 3), (18, .r 3 9), (19, .w 1), (20, .t [.r 4 0, .i 0]), (21, .r 4 0), (26, .r 3 10), (32, .r 3 11), (37, .r 3 10), (56, .r 3 11), (75, .r 3 13), (78, .t [.r 7 0, .i 0]), (79, .r 3 12), (81, .t [.r 7 0, .i 0]), (82, .r 7 0), (84, .t [.r 8 0, .i 0]), (85, .r 3 15), (87, .t [.r 8 0, .i 0]), (88, .r 8 0), (97, .r 3 13), (99, .f 228 [] [.r 3 0])]
def awk9k10k12M2 (v : NbV) : Mem := [.w 74 2 [[.n 0, .n 0], [.n 1, .n 0], [.n 2, .n 0], [.n 3, .n 0]],
  .w 58 2 [[.l 1 [], .l 1 []], [.l 1 [], .l 1 []], [.l 1 [], .l 1 []], [.l 1 [], .l 1 []]],
  .c [.i 4, .u (.l 7 [[.n 3, .n 2, .n 10, .l 2 [[.n 1, .n 3], [.n 2, .n 1]], .n 2, .n 3, .n 5], [.n 4, .n 1, .n 7, .l 2 [[.n 3, .n 2]], .n 0, .n 0, .n 3]]), .i 2, .u (.l 4 [[.n 1, .n 1, .n 1, .n 1000], [.n 1, .n 1, .n 0, .n 0]]), .i 3, .i 200, .i 1, .i 500],
  .c [.i 0, .i 0, .nl 2, .nl 2, .nl 2, .w 0, .nl 5, .nl 9, .i 1, .w 1, .nl 16, .nl 19, .nl 2, .nl 3, .i 1, .nl 4],
  .c [.w 5, .m 6],
  .cw 381 3 4 [.i 1, .c 1 [], .c 1 [], .i 1, .c 1 [], .c 1 [], .i 1, .c 1 [], .c 1 [], .i 0, .c 1 [], .c 1 []],
  .p .n 1 false [],
  .c [.nl 1],
  .c [.nl 4, .nm]]
abbrev awk9k10k12Mm (v : NbV) : Mem := (awk9k10k12M0 v)
theorem awk9k10k12_run (v : NbV) : PRun Tryz.prog 161 (awk9k10k12M0 v) [.a [.i 4, .u (.l 7 [[.n 3, .n 2, .n 10, .l 2 [[.n 1, .n 3], [.n 2, .n 1]], .n 2, .n 3, .n 5], [.n 4, .n 1, .n 7, .l 2 [[.n 3, .n 2]], .n 0, .n 0, .n 3]]), .i 2, .u (.l 4 [[.n 1, .n 1, .n 1, .n 1000], [.n 1, .n 1, .n 0, .n 0]]), .i 3, .i 200, .i 1, .i 500], .a [.i 0, .i 0, .nl 2, .nl 2, .nl 2, .w 0, .nl 5, .nl 9, .i 1, .w 1, .nl 16, .nl 19, .nl 2, .nl 3, .i 1, .nl 4]] fun x m => x = .u (.b true) ∧ m = (awk9k10k12Mm v) := Ev.runA (speNrm.or (speBd [87] bdTs)) Tryz.func161 (c := (bodyOf Tryz.f161)) (r := (.ret, (awk9k10k12T1 v), (awk9k10k12M2 v))) Ev.codeA
def awk9k10T5 (v : NbV) : Fr := puF (awk9k10T4 v) [(4, .u (.b true)), (54, .u (.b true)), (55, .u (.b true))]
abbrev awk9k10Mm (v : NbV) : Mem := (awk9k10M0 v)
theorem awk9k10_run (v : NbV) : PRun Tryz.prog 92 (awk9k10M0 v) [.a [.i 4, .u (.l 7 [[.n 3, .n 2, .n 10, .l 2 [[.n 1, .n 3], [.n 2, .n 1]], .n 2, .n 3, .n 5], [.n 4, .n 1, .n 7, .l 2 [[.n 3, .n 2]], .n 0, .n 0, .n 3]]), .i 2, .u (.l 4 [[.n 1, .n 1, .n 1, .n 1000], [.n 1, .n 1, .n 0, .n 0]]), .i 3, .i 200, .i 1, .i 500], .a [.i 0, .i 0, .nl 2, .nl 2, .nl 2, .w 0, .nl 5, .nl 9, .i 1, .w 1, .nl 16, .nl 19, .nl 2, .nl 3, .i 1, .nl 4]] fun x m => x = .u (.b true) ∧ m = (awk9k10Mm v) := Ev.runA eK4 Tryz.func92 (c := (bodyOf Tryz.f92)) (r := (.ret, (awk9k10T5 v), (awk9k10M2 v))) (Ev.piecesA (k := 2) (t1 := awk9k10T1 v) (m1 := awk9k10M2 v) (Ev.seqPA (t1 := awk9k10T5 v) (m1 := awk9k10M2 v) (Ev.regA (EvO.callA (t2 := awk9k10T3 v) (m1 := awk9k10M2 v) (ix := [0, 1]) (k := 25) (t1 := (awk9k10T3 v)) (args := [.a [.i 4, .u (.l 7 [[.n 3, .n 2, .n 10, .l 2 [[.n 1, .n 3], [.n 2, .n 1]], .n 2, .n 3, .n 5], [.n 4, .n 1, .n 7, .l 2 [[.n 3, .n 2]], .n 0, .n 0, .n 3]]), .i 2, .u (.l 4 [[.n 1, .n 1, .n 1, .n 1000], [.n 1, .n 1, .n 0, .n 0]]), .i 3, .i 200, .i 1, .i 500], .a [.i 0, .i 0, .nl 2, .nl 2, .nl 2, .w 0, .nl 5, .nl 9, .i 1, .w 1, .nl 16, .nl 19, .nl 2, .nl 3, .i 1, .nl 4]]) (a := []) (cc := []) (awk9k10k11_run v) (EvO.callA (t2 := awk9k10T4 v) (m1 := awk9k10M2 v) (ix := [0, 1]) (k := 4) (t1 := (awk9k10T4 v)) (args := [.a [.i 4, .u (.l 7 [[.n 3, .n 2, .n 10, .l 2 [[.n 1, .n 3], [.n 2, .n 1]], .n 2, .n 3, .n 5], [.n 4, .n 1, .n 7, .l 2 [[.n 3, .n 2]], .n 0, .n 0, .n 3]]), .i 2, .u (.l 4 [[.n 1, .n 1, .n 1, .n 1000], [.n 1, .n 1, .n 0, .n 0]]), .i 3, .i 200, .i 1, .i 500], .a [.i 0, .i 0, .nl 2, .nl 2, .nl 2, .w 0, .nl 5, .nl 9, .i 1, .w 1, .nl 16, .nl 19, .nl 2, .nl 3, .i 1, .nl 4]]) (a := []) (cc := []) (awk9k10k12_run v) EvO.opsA))) Ev.codeA))
def awk9T11 (v : NbV) : Fr := puF (awk9T10 v) [(109, .u (.b true)), (110, .u (.b false)), (111, .u (.b false))]
def awk9T13 (v : NbV) : Fr := puF (awk9T11 v) [(113, .a [.i 0, .i 0, .nl 2, .nl 2, .nl 2, .w 6, .nl 5, .nl 9, .i 1, .w 7, .nl 16, .nl 19, .nl 2, .nl 3, .i 1, .nl 4])]
def awk9M14 (v : NbV) : Mem := paM (awk9M9 v) [(1, .c [.i 0, .i 0, .nl 2, .nl 2, .nl 2, .w 6, .nl 5, .nl 9, .i 1, .w 7, .nl 16, .nl 19, .nl 2, .nl 3, .i 1, .nl 4])] []
abbrev awk9Mm (v : NbV) : Mem := (awk9M0 v)
theorem awk9_run (v : NbV) : PRun Tryz.prog 10 (awk9M0 v) [.a [.i 4, .u (.l 7 [[.n 3, .n 2, .n 10, .l 2 [[.n 1, .n 3], [.n 2, .n 1]], .n 2, .n 3, .n 5], [.n 4, .n 1, .n 7, .l 2 [[.n 3, .n 2]], .n 0, .n 0, .n 3]]), .i 2, .u (.l 4 [[.n 1, .n 1, .n 1, .n 1000], [.n 1, .n 1, .n 0, .n 0]]), .i 3, .i 200, .i 1, .i 500], .u (.s ⟨#[0, 0, 0, 0, 0, 4, 0, 0, 1, 0, 2, 0, 3, 0, 0, 0, 1, 4, 0, 0, 0, 0, 0, 0, 0, 0, 0, 0, 0, 0, 1, 1, 0]⟩)] fun x m => x = .t [.a [.i 0, .i 0, .nl 2, .nl 2, .nl 2, .u (.l 2 [[.n 0, .n 0], [.n 1, .n 0], [.n 2, .n 0], [.n 3, .n 0]]), .nl 5, .nl 9, .i 1, .u (.l 2 [[.l 1 [], .l 1 []], [.l 1 [], .l 1 []], [.l 1 [], .l 1 []], [.l 1 [], .l 1 []]]), .nl 16, .nl 19, .nl 2, .nl 3, .i 1, .nl 4], .i 0] ∧ m = (awk9Mm v) := Ev.runA eK3 Tryz.func10 (c := (bodyOf Tryz.f10)) (r := (.ret, (awk9T13 v), (awk9M14 v))) (Ev.piecesA (k := 1) (t1 := awk9T1 v) (m1 := awk9M2 v) (Ev.seqPA (t1 := awk9T6 v) (m1 := awk9M2 v) (Ev.seqPA (t1 := awk9T4 v) (m1 := awk9M2 v) (Ev.regA (EvO.callA (t2 := awk9T3 v) (m1 := awk9M2 v) (ix := []) (k := 1) (t1 := (awk9T3 v)) (args := [.a [.i 4, .u (.l 7 [[.n 3, .n 2, .n 10, .l 2 [[.n 1, .n 3], [.n 2, .n 1]], .n 2, .n 3, .n 5], [.n 4, .n 1, .n 7, .l 2 [[.n 3, .n 2]], .n 0, .n 0, .n 3]]), .i 2, .u (.l 4 [[.n 1, .n 1, .n 1, .n 1000], [.n 1, .n 1, .n 0, .n 0]]), .i 3, .i 200, .i 1, .i 500]]) (a := []) (cc := []) (awk3k4k5_run v) EvO.opsA)) (Ev.seqPA (t1 := awk9T6 v) (m1 := awk9M2 v) (Ev.regA EvO.opsA) Ev.codeA)) (Ev.piecesA (k := 16) (t1 := awk9T8 v) (m1 := awk9M9 v) (Ev.seqPA (t1 := awk9T11 v) (m1 := awk9M9 v) (Ev.seqPA (t1 := awk9T11 v) (m1 := awk9M9 v) (Ev.regA (EvO.callA (t2 := awk9T10 v) (m1 := awk9M9 v) (ix := [6, 7]) (k := 15) (t1 := (awk9T10 v)) (args := [.a [.i 4, .u (.l 7 [[.n 3, .n 2, .n 10, .l 2 [[.n 1, .n 3], [.n 2, .n 1]], .n 2, .n 3, .n 5], [.n 4, .n 1, .n 7, .l 2 [[.n 3, .n 2]], .n 0, .n 0, .n 3]]), .i 2, .u (.l 4 [[.n 1, .n 1, .n 1, .n 1000], [.n 1, .n 1, .n 0, .n 0]]), .i 3, .i 200, .i 1, .i 500], .a [.i 0, .i 0, .nl 2, .nl 2, .nl 2, .w 6, .nl 5, .nl 9, .i 1, .w 7, .nl 16, .nl 19, .nl 2, .nl 3, .i 1, .nl 4]]) (a := []) (cc := []) (awk9k10_run v) EvO.opsA)) Ev.codeA) Ev.codeA))))
def awT11 (v : NbV) : Fr := puF (awT10 v) [(8, .r 2 0), (9, .i 0), (29, .t [.a [.i 0, .i 0, .nl 2, .nl 2, .nl 2, .u (.l 2 [[.n 0, .n 0], [.n 1, .n 0], [.n 2, .n 0], [.n 3, .n 0]]), .nl 5, .nl 9, .i 1, .u (.l 2 [[.l 1 [], .l 1 []], [.l 1 [], .l 1 []], [.l 1 [], .l 1 []], [.l 1 [], .l 1 []]]), .nl 16, .nl 19, .nl 2, .nl 3, .i 1, .nl 4], .i 0]), (32, .t [.a [.i 0, .i 0, .nl 2, .nl 2, .nl 2, .u (.l 2 [[.n 0, .n 0], [.n 1, .n 0], [.n 2, .n 0], [.n 3, .n 0]]), .nl 5, .nl 9, .i 1, .u (.l 2 [[.l 1 [], .l 1 []], [.l 1 [], .l 1 []], [.l 1 [], .l 1 []], [.l 1 [], .l 1 []]]), .nl 16, .nl 19, .nl 2, .nl 3, .i 1, .nl 4], .i 0]), (33, .a [.i 0, .i 0, .nl 2, .nl 2, .nl 2, .u (.l 2 [[.n 0, .n 0], [.n 1, .n 0], [.n 2, .n 0], [.n 3, .n 0]]), .nl 5, .nl 9, .i 1, .u (.l 2 [[.l 1 [], .l 1 []], [.l 1 [], .l 1 []], [.l 1 [], .l 1 []], [.l 1 [], .l 1 []]]), .nl 16, .nl 19, .nl 2, .nl 3, .i 1, .nl 4]), (34, .i 0)]
def awM12 (v : NbV) : Mem := paM (awM7 v) [] [.c [.i 0, .i 0, .nl 2, .nl 2, .nl 2, .u (.l 2 [[.n 0, .n 0], [.n 1, .n 0], [.n 2, .n 0], [.n 3, .n 0]]), .nl 5, .nl 9, .i 1, .u (.l 2 [[.l 1 [], .l 1 []], [.l 1 [], .l 1 []], [.l 1 [], .l 1 []], [.l 1 [], .l 1 []]]), .nl 16, .nl 19, .nl 2, .nl 3, .i 1, .nl 4]]
def awT13 (v : NbV) : Fr := puF (awT10 v) [(8, .r 2 0), (9, .i 0), (10, .r 3 0), (29, .t [.a [.i 0, .i 0, .nl 2, .nl 2, .nl 2, .u (.l 2 [[.n 0, .n 0], [.n 1, .n 0], [.n 2, .n 0], [.n 3, .n 0]]), .nl 5, .nl 9, .i 1, .u (.l 2 [[.l 1 [], .l 1 []], [.l 1 [], .l 1 []], [.l 1 [], .l 1 []], [.l 1 [], .l 1 []]]), .nl 16, .nl 19, .nl 2, .nl 3, .i 1, .nl 4], .i 0]), (32, .t [.a [.i 0, .i 0, .nl 2, .nl 2, .nl 2, .u (.l 2 [[.n 0, .n 0], [.n 1, .n 0], [.n 2, .n 0], [.n 3, .n 0]]), .nl 5, .nl 9, .i 1, .u (.l 2 [[.l 1 [], .l 1 []], [.l 1 [], .l 1 []], [.l 1 [], .l 1 []], [.l 1 [], .l 1 []]]), .nl 16, .nl 19, .nl 2, .nl 3, .i 1, .nl 4], .i 0]), (33, .a [.i 0, .i 0, .nl 2, .nl 2, .nl 2, .u (.l 2 [[.n 0, .n 0], [.n 1, .n 0], [.n 2, .n 0], [.n 3, .n 0]]), .nl 5, .nl 9, .i 1, .u (.l 2 [[.l 1 [], .l 1 []], [.l 1 [], .l 1 []], [.l 1 [], .l 1 []], [.l 1 [], .l 1 []]]), .nl 16, .nl 19, .nl 2, .nl 3, .i 1, .nl 4]), (34, .i 0), (35, .a [.i 0, .i 0, .nl 2, .nl 2, .nl 2, .u (.l 2 [[.n 0, .n 0], [.n 1, .n 0], [.n 2, .n 0], [.n 3, .n 0]]), .nl 5, .nl 9, .i 1, .u (.l 2 [[.l 1 [], .l 1 []], [.l 1 [], .l 1 []], [.l 1 [], .l 1 []], [.l 1 [], .l 1 []]]), .nl 16, .nl 19, .nl 2, .nl 3, .i 1, .nl 4]), (36, .u (.l 2 [[.n 0, .n 0], [.n 1, .n 60], [.n 2, .n 500], [.n 3, .n 2]])), (37, .r 3 5), (38, .u (.l 5 [[.n 1, .n 0, .n 1, .n 1, .n 60], [.n 1, .n 0, .n 1, .n 2, .n 40], [.n 1, .n 0, .n 1, .n 3, .n 20], [.n 2, .n 0, .n 1, .n 1, .n 60], [.n 2, .n 0, .n 1, .n 2, .n 40], [.n 2, .n 0, .n 1, .n 3, .n 20]])), (39, .r 3 6)]
def awM14 (v : NbV) : Mem := paM (awM12 v) [] [.c [.i 0, .i 0, .nl 2, .nl 2, .nl 2, .u (.l 2 [[.n 0, .n 0], [.n 1, .n 60], [.n 2, .n 500], [.n 3, .n 2]]), .u (.l 5 [[.n 1, .n 0, .n 1, .n 1, .n 60], [.n 1, .n 0, .n 1, .n 2, .n 40], [.n 1, .n 0, .n 1, .n 3, .n 20], [.n 2, .n 0, .n 1, .n 1, .n 60], [.n 2, .n 0, .n 1, .n 2, .n 40], [.n 2, .n 0, .n 1, .n 3, .n 20]]), .nl 9, .i 1, .u (.l 2 [[.l 1 [], .l 1 []], [.l 1 [], .l 1 []], [.l 1 [], .l 1 []], [.l 1 [], .l 1 []]]), .nl 16, .nl 19, .nl 2, .nl 3, .i 1, .nl 4]]
def awT15 (v : NbV) : Fr := puF (awT10 v) [(8, .r 2 0), (9, .i 0), (10, .r 3 0), (29, .t [.a [.i 0, .i 0, .nl 2, .nl 2, .nl 2, .u (.l 2 [[.n 0, .n 0], [.n 1, .n 0], [.n 2, .n 0], [.n 3, .n 0]]), .nl 5, .nl 9, .i 1, .u (.l 2 [[.l 1 [], .l 1 []], [.l 1 [], .l 1 []], [.l 1 [], .l 1 []], [.l 1 [], .l 1 []]]), .nl 16, .nl 19, .nl 2, .nl 3, .i 1, .nl 4], .i 0]), (32, .t [.a [.i 0, .i 0, .nl 2, .nl 2, .nl 2, .u (.l 2 [[.n 0, .n 0], [.n 1, .n 0], [.n 2, .n 0], [.n 3, .n 0]]), .nl 5, .nl 9, .i 1, .u (.l 2 [[.l 1 [], .l 1 []], [.l 1 [], .l 1 []], [.l 1 [], .l 1 []], [.l 1 [], .l 1 []]]), .nl 16, .nl 19, .nl 2, .nl 3, .i 1, .nl 4], .i 0]), (33, .a [.i 0, .i 0, .nl 2, .nl 2, .nl 2, .u (.l 2 [[.n 0, .n 0], [.n 1, .n 0], [.n 2, .n 0], [.n 3, .n 0]]), .nl 5, .nl 9, .i 1, .u (.l 2 [[.l 1 [], .l 1 []], [.l 1 [], .l 1 []], [.l 1 [], .l 1 []], [.l 1 [], .l 1 []]]), .nl 16, .nl 19, .nl 2, .nl 3, .i 1, .nl 4]), (34, .i 0), (35, .a [.i 0, .i 0, .nl 2, .nl 2, .nl 2, .u (.l 2 [[.n 0, .n 0], [.n 1, .n 0], [.n 2, .n 0], [.n 3, .n 0]]), .nl 5, .nl 9, .i 1, .u (.l 2 [[.l 1 [], .l 1 []], [.l 1 [], .l 1 []], [.l 1 [], .l 1 []], [.l 1 [], .l 1 []]]), .nl 16, .nl 19, .nl 2, .nl 3, .i 1, .nl 4]), (36, .u (.l 2 [[.n 0, .n 0], [.n 1, .n 60], [.n 2, .n 500], [.n 3, .n 2]])), (37, .r 3 5), (38, .u (.l 5 [[.n 1, .n 0, .n 1, .n 1, .n 60], [.n 1, .n 0, .n 1, .n 2, .n 40], [.n 1, .n 0, .n 1, .n 3, .n 20], [.n 2, .n 0, .n 1, .n 1, .n 60], [.n 2, .n 0, .n 1, .n 2, .n 40], [.n 2, .n 0, .n 1, .n 3, .n 20]])), (39, .r 3 6), (41, .a [.i 4, .u (.l 7 [[.n 3, .n 2, .n 10, .l 2 [[.n 1, .n 3], [.n 2, .n 1]], .n 2, .n 3, .n 5], [.n 4, .n 1, .n 7, .l 2 [[.n 3, .n 2]], .n 0, .n 0, .n 3]]), .i 2, .u (.l 4 [[.n 1, .n 1, .n 1, .n 1000], [.n 1, .n 1, .n 0, .n 0]]), .i 3, .i 200, .i 1, .i 500]), (42, .a [.i 0, .i 0, .nl 2, .nl 2, .nl 2, .u (.l 2 [[.n 0, .n 0], [.n 1, .n 60], [.n 2, .n 500], [.n 3, .n 2]]), .u (.l 5 [[.n 1, .n 0, .n 1, .n 1, .n 60], [.n 1, .n 0, .n 1, .n 2, .n 40], [.n 1, .n 0, .n 1, .n 3, .n 20], [.n 2, .n 0, .n 1, .n 1, .n 60], [.n 2, .n 0, .n 1, .n 2, .n 40], [.n 2, .n 0, .n 1, .n 3, .n 20]]), .nl 9, .i 1, .u (.l 2 [[.l 1 [], .l 1 []], [.l 1 [], .l 1 []], [.l 1 [], .l 1 []], [.l 1 [], .l 1 []]]), .nl 16, .nl 19, .nl 2, .nl 3, .i 1, .nl 4])]
noncomputable abbrev eK5 := (speKn (speNrm.or (speBd [87] bdTs)) [8, 103])
def awk13T0 (v : NbV) : Fr := frameF Tryz.prog Tryz.f12 [.a [.i 4, .u (.l 7 [[.n 3, .n 2, .n 10, .l 2 [[.n 1, .n 3], [.n 2, .n 1]], .n 2, .n 3, .n 5], [.n 4, .n 1, .n 7, .l 2 [[.n 3, .n 2]], .n 0, .n 0, .n 3]]), .i 2, .u (.l 4 [[.n 1, .n 1, .n 1, .n 1000], [.n 1, .n 1, .n 0, .n 0]]), .i 3, .i 200, .i 1, .i 500], .a [.i 0, .i 0, .nl 2, .nl 2, .nl 2, .u (.l 2 [[.n 0, .n 0], [.n 1, .n 60], [.n 2, .n 500], [.n 3, .n 2]]), .u (.l 5 [[.n 1, .n 0, .n 1, .n 1, .n 60], [.n 1, .n 0, .n 1, .n 2, .n 40], [.n 1, .n 0, .n 1, .n 3, .n 20], [.n 2, .n 0, .n 1, .n 1, .n 60], [.n 2, .n 0, .n 1, .n 2, .n 40], [.n 2, .n 0, .n 1, .n 3, .n 20]]), .nl 9, .i 1, .u (.l 2 [[.l 1 [], .l 1 []], [.l 1 [], .l 1 []], [.l 1 [], .l 1 []], [.l 1 [], .l 1 []]]), .nl 16, .nl 19, .nl 2, .nl 3, .i 1, .nl 4]]
def awk13M0 (v : NbV) : Mem := []
def awk13T1 (v : NbV) : Fr := puF (awk13T0 v) [(2, .r 0 0), (3, .r 1 0), (4, .u (.i .u32 0)), (5, .i 0)]
def awk13M2 (v : NbV) : Mem := [.c [.i 4, .u (.l 7 [[.n 3, .n 2, .n 10, .l 2 [[.n 1, .n 3], [.n 2, .n 1]], .n 2, .n 3, .n 5], [.n 4, .n 1, .n 7, .l 2 [[.n 3, .n 2]], .n 0, .n 0, .n 3]]), .i 2, .u (.l 4 [[.n 1, .n 1, .n 1, .n 1000], [.n 1, .n 1, .n 0, .n 0]]), .i 3, .i 200, .i 1, .i 500],
  .c [.i 0, .i 0, .nl 2, .nl 2, .nl 2, .u (.l 2 [[.n 0, .n 0], [.n 1, .n 60], [.n 2, .n 500], [.n 3, .n 2]]), .u (.l 5 [[.n 1, .n 0, .n 1, .n 1, .n 60], [.n 1, .n 0, .n 1, .n 2, .n 40], [.n 1, .n 0, .n 1, .n 3, .n 20], [.n 2, .n 0, .n 1, .n 1, .n 60], [.n 2, .n 0, .n 1, .n 2, .n 40], [.n 2, .n 0, .n 1, .n 3, .n 20]]), .nl 9, .i 1, .u (.l 2 [[.l 1 [], .l 1 []], [.l 1 [], .l 1 []], [.l 1 [], .l 1 []], [.l 1 [], .l 1 []]]), .nl 16, .nl 19, .nl 2, .nl 3, .i 1, .nl 4]]
def awk13T3 (v : NbV) : Fr := puF (awk13T1 v) [(9, .a [.i 4, .u (.l 7 [[.n 3, .n 2, .n 10, .l 2 [[.n 1, .n 3], [.n 2, .n 1]], .n 2, .n 3, .n 5], [.n 4, .n 1, .n 7, .l 2 [[.n 3, .n 2]], .n 0, .n 0, .n 3]]), .i 2, .u (.l 4 [[.n 1, .n 1, .n 1, .n 1000], [.n 1, .n 1, .n 0, .n 0]]), .i 3, .i 200, .i 1, .i 500]), (10, .a [.i 0, .i 0, .nl 2, .nl 2, .nl 2, .u (.l 2 [[.n 0, .n 0], [.n 1, .n 60], [.n 2, .n 500], [.n 3, .n 2]]), .u (.l 5 [[.n 1, .n 0, .n 1, .n 1, .n 60], [.n 1, .n 0, .n 1, .n 2, .n 40], [.n 1, .n 0, .n 1, .n 3, .n 20], [.n 2, .n 0, .n 1, .n 1, .n 60], [.n 2, .n 0, .n 1, .n 2, .n 40], [.n 2, .n 0, .n 1, .n 3, .n 20]]), .nl 9, .i 1, .u (.l 2 [[.l 1 [], .l 1 []], [.l 1 [], .l 1 []], [.l 1 [], .l 1 []], [.l 1 [], .l 1 []]]), .nl 16, .nl 19, .nl 2, .nl 3, .i 1, .nl 4])]
def awk13k14T0 (v : NbV) : Fr := frameF Tryz.prog Tryz.f8 [.a [.i 4, .u (.l 7 [[.n 3, .n 2, .n 10, .l 2 [[.n 1, .n 3], [.n 2, .n 1]], .n 2, .n 3, .n 5], [.n 4, .n 1, .n 7, .l 2 [[.n 3, .n 2]], .n 0, .n 0, .n 3]]), .i 2, .u (.l 4 [[.n 1, .n 1, .n 1, .n 1000], [.n 1, .n 1, .n 0, .n 0]]), .i 3, .i 200, .i 1, .i 500], .a [.i 0, .i 0, .nl 2, .nl 2, .nl 2, .u (.l 2 [[.n 0, .n 0], [.n 1, .n 60], [.n 2, .n 500], [.n 3, .n 2]]), .u (.l 5 [[.n 1, .n 0, .n 1, .n 1, .n 60], [.n 1, .n 0, .n 1, .n 2, .n 40], [.n 1, .n 0, .n 1, .n 3, .n 20], [.n 2, .n 0, .n 1, .n 1, .n 60], [.n 2, .n 0, .n 1, .n 2, .n 40], [.n 2, .n 0, .n 1, .n 3, .n 20]]), .nl 9, .i 1, .u (.l 2 [[.l 1 [], .l 1 []], [.l 1 [], .l 1 []], [.l 1 [], .l 1 []], [.l 1 [], .l 1 []]]), .nl 16, .nl 19, .nl 2, .nl 3, .i 1, .nl 4]]
def awk13k14M0 (v : NbV) : Mem := []
def awk13k14T1 (v : NbV) : Fr := puF (awk13k14T0 v) [(2, .r 0 0), (3, .r 1 0), (4, .u (.s ⟨#[]⟩)), (5, .i 0)]
def awk13k14M2 (v : NbV) : Mem := [.c [.i 4, .u (.l 7 [[.n 3, .n 2, .n 10, .l 2 [[.n 1, .n 3], [.n 2, .n 1]], .n 2, .n 3, .n 5], [.n 4, .n 1, .n 7, .l 2 [[.n 3, .n 2]], .n 0, .n 0, .n 3]]), .i 2, .u (.l 4 [[.n 1, .n 1, .n 1, .n 1000], [.n 1, .n 1, .n 0, .n 0]]), .i 3, .i 200, .i 1, .i 500],
  .c [.i 0, .i 0, .nl 2, .nl 2, .nl 2, .u (.l 2 [[.n 0, .n 0], [.n 1, .n 60], [.n 2, .n 500], [.n 3, .n 2]]), .u (.l 5 [[.n 1, .n 0, .n 1, .n 1, .n 60], [.n 1, .n 0, .n 1, .n 2, .n 40], [.n 1, .n 0, .n 1, .n 3, .n 20], [.n 2, .n 0, .n 1, .n 1, .n 60], [.n 2, .n 0, .n 1, .n 2, .n 40], [.n 2, .n 0, .n 1, .n 3, .n 20]]), .nl 9, .i 1, .u (.l 2 [[.l 1 [], .l 1 []], [.l 1 [], .l 1 []], [.l 1 [], .l 1 []], [.l 1 [], .l 1 []]]), .nl 16, .nl 19, .nl 2, .nl 3, .i 1, .nl 4]]
def awk13k14T3 (v : NbV) : Fr := puF (awk13k14T1 v) [(12, .a [.i 4, .u (.l 7 [[.n 3, .n 2, .n 10, .l 2 [[.n 1, .n 3], [.n 2, .n 1]], .n 2, .n 3, .n 5], [.n 4, .n 1, .n 7, .l 2 [[.n 3, .n 2]], .n 0, .n 0, .n 3]]), .i 2, .u (.l 4 [[.n 1, .n 1, .n 1, .n 1000], [.n 1, .n 1, .n 0, .n 0]]), .i 3, .i 200, .i 1, .i 500]), (13, .a [.i 0, .i 0, .nl 2, .nl 2, .nl 2, .u (.l 2 [[.n 0, .n 0], [.n 1, .n 60], [.n 2, .n 500], [.n 3, .n 2]]), .u (.l 5 [[.n 1, .n 0, .n 1, .n 1, .n 60], [.n 1, .n 0, .n 1, .n 2, .n 40], [.n 1, .n 0, .n 1, .n 3, .n 20], [.n 2, .n 0, .n 1, .n 1, .n 60], [.n 2, .n 0, .n 1, .n 2, .n 40], [.n 2, .n 0, .n 1, .n 3, .n 20]]), .nl 9, .i 1, .u (.l 2 [[.l 1 [], .l 1 []], [.l 1 [], .l 1 []], [.l 1 [], .l 1 []], [.l 1 [], .l 1 []]]), .nl 16, .nl 19, .nl 2, .nl 3, .i 1, .nl 4])]
def awk13k14k15T0 (v : NbV) : Fr := frameF Tryz.prog Tryz.f15 [.a [.i 4, .u (.l 7 [[.n 3, .n 2, .n 10, .l 2 [[.n 1, .n 3], [.n 2, .n 1]], .n 2, .n 3, .n 5], [.n 4, .n 1, .n 7, .l 2 [[.n 3, .n 2]], .n 0, .n 0, .n 3]]), .i 2, .u (.l 4 [[.n 1, .n 1, .n 1, .n 1000], [.n 1, .n 1, .n 0, .n 0]]), .i 3, .i 200, .i 1, .i 500], .a [.i 0, .i 0, .nl 2, .nl 2, .nl 2, .u (.l 2 [[.n 0, .n 0], [.n 1, .n 60], [.n 2, .n 500], [.n 3, .n 2]]), .u (.l 5 [[.n 1, .n 0, .n 1, .n 1, .n 60], [.n 1, .n 0, .n 1, .n 2, .n 40], [.n 1, .n 0, .n 1, .n 3, .n 20], [.n 2, .n 0, .n 1, .n 1, .n 60], [.n 2, .n 0, .n 1, .n 2, .n 40], [.n 2, .n 0, .n 1, .n 3, .n 20]]), .nl 9, .i 1, .u (.l 2 [[.l 1 [], .l 1 []], [.l 1 [], .l 1 []], [.l 1 [], .l 1 []], [.l 1 [], .l 1 []]]), .nl 16, .nl 19, .nl 2, .nl 3, .i 1, .nl 4]]
def awk13k14k15M0 (v : NbV) : Mem := []
def awk13k14k15T1 (v : NbV) : Fr := puF (awk13k14k15T0 v) [(2, .r 0 0), (3, .r 1 0), (4, .i 0)]
def awk13k14k15M2 (v : NbV) : Mem := [.c [.i 4, .u (.l 7 [[.n 3, .n 2, .n 10, .l 2 [[.n 1, .n 3], [.n 2, .n 1]], .n 2, .n 3, .n 5], [.n 4, .n 1, .n 7, .l 2 [[.n 3, .n 2]], .n 0, .n 0, .n 3]]), .i 2, .u (.l 4 [[.n 1, .n 1, .n 1, .n 1000], [.n 1, .n 1, .n 0, .n 0]]), .i 3, .i 200, .i 1, .i 500],
  .c [.i 0, .i 0, .nl 2, .nl 2, .nl 2, .u (.l 2 [[.n 0, .n 0], [.n 1, .n 60], [.n 2, .n 500], [.n 3, .n 2]]), .u (.l 5 [[.n 1, .n 0, .n 1, .n 1, .n 60], [.n 1, .n 0, .n 1, .n 2, .n 40], [.n 1, .n 0, .n 1, .n 3, .n 20], [.n 2, .n 0, .n 1, .n 1, .n 60], [.n 2, .n 0, .n 1, .n 2, .n 40], [.n 2, .n 0, .n 1, .n 3, .n 20]]), .nl 9, .i 1, .u (.l 2 [[.l 1 [], .l 1 []], [.l 1 [], .l 1 []], [.l 1 [], .l 1 []], [.l 1 [], .l 1 []]]), .nl 16, .nl 19, .nl 2, .nl 3, .i 1, .nl 4]]
def awk13k14k15T3 (v : NbV) : Fr := puF (awk13k14k15T1 v) [(6, .a [.i 4, .u (.l 7 [[.n 3, .n 2, .n 10, .l 2 [[.n 1, .n 3], [.n 2, .n 1]], .n 2, .n 3, .n 5], [.n 4, .n 1, .n 7, .l 2 [[.n 3, .n 2]], .n 0, .n 0, .n 3]]), .i 2, .u (.l 4 [[.n 1, .n 1, .n 1, .n 1000], [.n 1, .n 1, .n 0, .n 0]]), .i 3, .i 200, .i 1, .i 500])]
def awk13k14k15T4 (v : NbV) : Fr := puF (awk13k14k15T3 v) [(5, .i 0), (7, .i 0)]
def awk13k14k15T5 (v : NbV) : Fr := puF (awk13k14k15T4 v) [(8, .i 0), (9, .u (.b true)), (10, .u (.b true)), (11, .a [.i 4, .u (.l 7 [[.n 3, .n 2, .n 10, .l 2 [[.n 1, .n 3], [.n 2, .n 1]], .n 2, .n 3, .n 5], [.n 4, .n 1, .n 7, .l 2 [[.n 3, .n 2]], .n 0, .n 0, .n 3]]), .i 2, .u (.l 4 [[.n 1, .n 1, .n 1, .n 1000], [.n 1, .n 1, .n 0, .n 0]]), .i 3, .i 200, .i 1, .i 500]), (12, .a [.i 0, .i 0, .nl 2, .nl 2, .nl 2, .u (.l 2 [[.n 0, .n 0], [.n 1, .n 60], [.n 2, .n 500], [.n 3, .n 2]]), .u (.l 5 [[.n 1, .n 0, .n 1, .n 1, .n 60], [.n 1, .n 0, .n 1, .n 2, .n 40], [.n 1, .n 0, .n 1, .n 3, .n 20], [.n 2, .n 0, .n 1, .n 1, .n 60], [.n 2, .n 0, .n 1, .n 2, .n 40], [.n 2, .n 0, .n 1, .n 3, .n 20]]), .nl 9, .i 1, .u (.l 2 [[.l 1 [], .l 1 []], [.l 1 [], .l 1 []], [.l 1 [], .l 1 []], [.l 1 [], .l 1 []]]), .nl 16, .nl 19, .nl 2, .nl 3, .i 1, .nl 4])]
def awk13k14k15k16T0 (v : NbV) : Fr := frameF Tryz.prog Tryz.f92 [.a [.i 4, .u (.l 7 [[.n 3, .n 2, .n 10, .l 2 [[.n 1, .n 3], [.n 2, .n 1]], .n 2, .n 3, .n 5], [.n 4, .n 1, .n 7, .l 2 [[.n 3, .n 2]], .n 0, .n 0, .n 3]]), .i 2, .u (.l 4 [[.n 1, .n 1, .n 1, .n 1000], [.n 1, .n 1, .n 0, .n 0]]), .i 3, .i 200, .i 1, .i 500], .a [.i 0, .i 0, .nl 2, .nl 2, .nl 2, .u (.l 2 [[.n 0, .n 0], [.n 1, .n 60], [.n 2, .n 500], [.n 3, .n 2]]), .u (.l 5 [[.n 1, .n 0, .n 1, .n 1, .n 60], [.n 1, .n 0, .n 1, .n 2, .n 40], [.n 1, .n 0, .n 1, .n 3, .n 20], [.n 2, .n 0, .n 1, .n 1, .n 60], [.n 2, .n 0, .n 1, .n 2, .n 40], [.n 2, .n 0, .n 1, .n 3, .n 20]]), .nl 9, .i 1, .u (.l 2 [[.l 1 [], .l 1 []], [.l 1 [], .l 1 []], [.l 1 [], .l 1 []], [.l 1 [], .l 1 []]]), .nl 16, .nl 19, .nl 2, .nl 3, .i 1, .nl 4]]
def awk13k14k15k16M0 (v : NbV) : Mem := []
def awk13k14k15k16T1 (v : NbV) : Fr := puF (awk13k14k15k16T0 v) [(2, .r 0 0), (3, .r 1 0), (4, .u (.b false)), (5, .u (.b true)), (6, .r 1 0), (7, .i 0), (8, .u (.b true)), (9, .u (.b true)), (10, .r 1 0), (11, .i 0), (12, .u (.b true)), (13, .u (.b true)), (14, .u (.b true)), (15, .r 1 1), (16, .i 0), (17, .u (.b true)), (18, .u (.b true)), (19, .u (.b true)), (20, .r 1 1), (21, .i 0), (22, .u (.b true)), (23, .u (.b true))]
def awk13k14k15k16M2 (v : NbV) : Mem := [.c [.i 4, .u (.l 7 [[.n 3, .n 2, .n 10, .l 2 [[.n 1, .n 3], [.n 2, .n 1]], .n 2, .n 3, .n 5], [.n 4, .n 1, .n 7, .l 2 [[.n 3, .n 2]], .n 0, .n 0, .n 3]]), .i 2, .u (.l 4 [[.n 1, .n 1, .n 1, .n 1000], [.n 1, .n 1, .n 0, .n 0]]), .i 3, .i 200, .i 1, .i 500],
  .c [.i 0, .i 0, .nl 2, .nl 2, .nl 2, .u (.l 2 [[.n 0, .n 0], [.n 1, .n 60], [.n 2, .n 500], [.n 3, .n 2]]), .u (.l 5 [[.n 1, .n 0, .n 1, .n 1, .n 60], [.n 1, .n 0, .n 1, .n 2, .n 40], [.n 1, .n 0, .n 1, .n 3, .n 20], [.n 2, .n 0, .n 1, .n 1, .n 60], [.n 2, .n 0, .n 1, .n 2, .n 40], [.n 2, .n 0, .n 1, .n 3, .n 20]]), .nl 9, .i 1, .u (.l 2 [[.l 1 [], .l 1 []], [.l 1 [], .l 1 []], [.l 1 [], .l 1 []], [.l 1 [], .l 1 []]]), .nl 16, .nl 19, .nl 2, .nl 3, .i 1, .nl 4]]
def awk13k14k15k16T3 (v : NbV) : Fr := puF (awk3k4k6T3 v) [(1, .a [.i 0, .i 0, .nl 2, .nl 2, .nl 2, .u (.l 2 [[.n 0, .n 0], [.n 1, .n 60], [.n 2, .n 500], [.n 3, .n 2]]), .u (.l 5 [[.n 1, .n 0, .n 1, .n 1, .n 60], [.n 1, .n 0, .n 1, .n 2, .n 40], [.n 1, .n 0, .n 1, .n 3, .n 20], [.n 2, .n 0, .n 1, .n 1, .n 60], [.n 2, .n 0, .n 1, .n 2, .n 40], [.n 2, .n 0, .n 1, .n 3, .n 20]]), .nl 9, .i 1, .u (.l 2 [[.l 1 [], .l 1 []], [.l 1 [], .l 1 []], [.l 1 [], .l 1 []], [.l 1 [], .l 1 []]]), .nl 16, .nl 19, .nl 2, .nl 3, .i 1, .nl 4]), (48, .a [.i 0, .i 0, .nl 2, .nl 2, .nl 2, .u (.l 2 [[.n 0, .n 0], [.n 1, .n 60], [.n 2, .n 500], [.n 3, .n 2]]), .u (.l 5 [[.n 1, .n 0, .n 1, .n 1, .n 60], [.n 1, .n 0, .n 1, .n 2, .n 40], [.n 1, .n 0, .n 1, .n 3, .n 20], [.n 2, .n 0, .n 1, .n 1, .n 60], [.n 2, .n 0, .n 1, .n 2, .n 40], [.n 2, .n 0, .n 1, .n 3, .n 20]]), .nl 9, .i 1, .u (.l 2 [[.l 1 [], .l 1 []], [.l 1 [], .l 1 []], [.l 1 [], .l 1 []], [.l 1 [], .l 1 []]]), .nl 16, .nl 19, .nl 2, .nl 3, .i 1, .nl 4])]
def awk13k14k15k16k17M0 (v : NbV) : Mem := []
def awk13k14k15k16k17T1 (v : NbV) : Fr := Fr.mk [.a [.i 4, .u (.l 7 [[.n 3, .n 2, .n 10, .l 2 [[.n 1, .n 3], [.n 2, .n 1]], .n 2, .n 3, .n 5], [.n 4, .n 1, .n 7, .l 2 [[.n 3, .n 2]], .n 0, .n 0, .n 3]]), .i 2, .u (.l 4 [[.n 1, .n 1, .n 1, .n 1000], [.n 1, .n 1, .n 0, .n 0]]), .i 3, .i 200, .i 1, .i 500], .a [.i 0, .i 0, .nl 2, .nl 2, .nl 2, .u (.l 2 [[.n 0, .n 0], [.n 1, .n 60], [.n 2, .n 500], [.n 3, .n 2]]), .u (.l 5 [[.n 1, .n 0, .n 1, .n 1, .n 60], [.n 1, .n 0, .n 1, .n 2, .n 40], [.n 1, .n 0, .n 1, .n 3, .n 20], [.n 2, .n 0, .n 1, .n 1, .n 60], [.n 2, .n 0, .n 1, .n 2, .n 40], [.n 2, .n 0, .n 1, .n 3, .n 20]]), .nl 9, .i 1, .u (.l 2 [[.l 1 [], .l 1 []], [.l 1 [], .l 1 []], [.l 1 [], .l 1 []], [.l 1 [], .l 1 []]]), .nl 16, .nl 19, .nl 2, .nl 3, .i 1, .nl 4], .r 0 0, .r 1 0, .u (.b true), .r 2 0, .i 0, .i 3, .i 2, .i 0, .z, .z, .z, .z, .t [.r 2 0, .i 0], .r 1 5, .u (.l 2 [[.n 0, .n 0], [.n 1, .n 60], [.n 2, .n 500], [.n 3, .n 2]]), .t [.r 2 0, .i 0], .r 2 0, .i 0, .i 0, .u (.b false), .u (.b false), .r 2 0, .w 4, .r 1 5, .u (.l 2 [[.n 0, .n 0], [.n 1, .n 60], [.n 2, .n 500], [.n 3, .n 2]]), .u (.b true), .u (.b false), .u (.b false), .r 0 4, .i 3, .i 4, .i 4, .u (.b false), .i 3, .t [.i 2, .i 0], .r 2 0, .i 3, .t [.i 2, .i 0], .i 2, .i 0, .i 0, .u (.b false), .i 4, .r 1 12, .nl 2, .i 0, .i 0, .u (.b false), .z, .z, .z, .z, .z, .z, .z, .z, .z, .z, .z, .z, .r 1 6, .u (.l 5 [[.n 1, .n 0, .n 1, .n 1, .n 60], [.n 1, .n 0, .n 1, .n 2, .n 40], [.n 1, .n 0, .n 1, .n 3, .n 20], [.n 2, .n 0, .n 1, .n 1, .n 60], [.n 2, .n 0, .n 1, .n 2, .n 40], [.n 2, .n 0, .n 1, .n 3, .n 20]]), .f 216 [] [.r 1 0], .u (.b true), .u (.b true), .r 1 7, .nl 9, .f 220 [] [.r 1 0], .u (.b true), .u (.b true)] 0 72
def awk13k14k15k16k17M2 (v : NbV) : Mem := [.c [.i 4, .u (.l 7 [[.n 3, .n 2, .n 10, .l 2 [[.n 1, .n 3], [.n 2, .n 1]], .n 2, .n 3, .n 5], [.n 4, .n 1, .n 7, .l 2 [[.n 3, .n 2]], .n 0, .n 0, .n 3]]), .i 2, .u (.l 4 [[.n 1, .n 1, .n 1, .n 1000], [.n 1, .n 1, .n 0, .n 0]]), .i 3, .i 200, .i 1, .i 500],
  .c [.i 0, .i 0, .nl 2, .nl 2, .nl 2, .u (.l 2 [[.n 0, .n 0], [.n 1, .n 60], [.n 2, .n 500], [.n 3, .n 2]]), .u (.l 5 [[.n 1, .n 0, .n 1, .n 1, .n 60], [.n 1, .n 0, .n 1, .n 2, .n 40], [.n 1, .n 0, .n 1, .n 3, .n 20], [.n 2, .n 0, .n 1, .n 1, .n 60], [.n 2, .n 0, .n 1, .n 2, .n 40], [.n 2, .n 0, .n 1, .n 3, .n 20]]), .nl 9, .i 1, .u (.l 2 [[.l 1 [], .l 1 []], [.l 1 [], .l 1 []], [.l 1 [], .l 1 []], [.l 1 [], .l 1 []]]), .nl 16, .nl 19, .nl 2, .nl 3, .i 1, .nl 4],
  .c [.w 3, .i 562],
  .w 412 5 [[.n 0, .n 0, .n 0, .n 0, .n 0], [.n 1, .n 0, .n 0, .n 0, .n 60], [.n 2, .n 0, .n 0, .n 0, .n 500], [.n 3, .n 0, .n 0, .n 0, .n 2]],
  .w 74 2 [[.n 0, .n 0], [.n 1, .n 60], [.n 2, .n 500], [.n 3, .n 2]],
  .w 78 5 [[.n 1, .n 0, .n 1, .n 1, .n 60], [.n 1, .n 0, .n 1, .n 2, .n 40], [.n 1, .n 0, .n 1, .n 3, .n 20], [.n 2, .n 0, .n 1, .n 1, .n 60], [.n 2, .n 0, .n 1, .n 2, .n 40], [.n 2, .n 0, .n 1, .n 3, .n 20]],
  .c [.nl 13, .i 0]]
abbrev awk13k14k15k16k17Mm (v : NbV) : Mem := (awk13k14k15k16k17M0 v)
theorem awk13k14k15k16k17_run (v : NbV) : PRun Tryz.prog 160 (awk13k14k15k16k17M0 v) [.a [.i 4, .u (.l 7 [[.n 3, .n 2, .n 10, .l 2 [[.n 1, .n 3], [.n 2, .n 1]], .n 2, .n 3, .n 5], [.n 4, .n 1, .n 7, .l 2 [[.n 3, .n 2]], .n 0, .n 0, .n 3]]), .i 2, .u (.l 4 [[.n 1, .n 1, .n 1, .n 1000], [.n 1, .n 1, .n 0, .n 0]]), .i 3, .i 200, .i 1, .i 500], .a [.i 0, .i 0, .nl 2, .nl 2, .nl 2, .u (.l 2 [[.n 0, .n 0], [.n 1, .n 60], [.n 2, .n 500], [.n 3, .n 2]]), .u (.l 5 [[.n 1, .n 0, .n 1, .n 1, .n 60], [.n 1, .n 0, .n 1, .n 2, .n 40], [.n 1, .n 0, .n 1, .n 3, .n 20], [.n 2, .n 0, .n 1, .n 1, .n 60], [.n 2, .n 0, .n 1, .n 2, .n 40], [.n 2, .n 0, .n 1, .n 3, .n 20]]), .nl 9, .i 1, .u (.l 2 [[.l 1 [], .l 1 []], [.l 1 [], .l 1 []], [.l 1 [], .l 1 []], [.l 1 [], .l 1 []]]), .nl 16, .nl 19, .nl 2, .nl 3, .i 1, .nl 4]] fun x m => x = .u (.b true) ∧ m = (awk13k14k15k16k17Mm v) := Ev.runA (speNrm.or (speBd [87] bdTs)) Tryz.func160 (c := (bodyOf Tryz.f160)) (r := (.ret, (awk13k14k15k16k17T1 v), (awk13k14k15k16k17M2 v))) Ev.codeA
def awk13k14k15k16T4 (v : NbV) : Fr := puF (awk13k14k15k16T3 v) [(49, .u (.b true)), (50, .u (.b true)), (51, .u (.b true)), (52, .a [.i 4, .u (.l 7 [[.n 3, .n 2, .n 10, .l 2 [[.n 1, .n 3], [.n 2, .n 1]], .n 2, .n 3, .n 5], [.n 4, .n 1, .n 7, .l 2 [[.n 3, .n 2]], .n 0, .n 0, .n 3]]), .i 2, .u (.l 4 [[.n 1, .n 1, .n 1, .n 1000], [.n 1, .n 1, .n 0, .n 0]]), .i 3, .i 200, .i 1, .i 500]), (53, .a [.i 0, .i 0, .nl 2, .nl 2, .nl 2, .u (.l 2 [[.n 0, .n 0], [.n 1, .n 60], [.n 2, .n 500], [.n 3, .n 2]]), .u (.l 5 [[.n 1, .n 0, .n 1, .n 1, .n 60], [.n 1, .n 0, .n 1, .n 2, .n 40], [.n 1, .n 0, .n 1, .n 3, .n 20], [.n 2, .n 0, .n 1, .n 1, .n 60], [.n 2, .n 0, .n 1, .n 2, .n 40], [.n 2, .n 0, .n 1, .n 3, .n 20]]), .nl 9, .i 1, .u (.l 2 [[.l 1 [], .l 1 []], [.l 1 [], .l 1 []], [.l 1 [], .l 1 []], [.l 1 [], .l 1 []]]), .nl 16, .nl 19, .nl 2, .nl 3, .i 1, .nl 4])]
def awk13k14k15k16k18M0 (v : NbV) : Mem := []
def awk13k14k15k16k18T1 (v : NbV) : Fr := puF (awk3k4k6k8T1 v) [(1, .a [.i 0, .i 0, .nl 2, .nl 2, .nl 2, .u (.l 2 [[.n 0, .n 0], [.n 1, .n 60], [.n 2, .n 500], [.n 3, .n 2]]), .u (.l 5 [[.n 1, .n 0, .n 1, .n 1, .n 60], [.n 1, .n 0, .n 1, .n 2, .n 40], [.n 1, .n 0, .n 1, .n 3, .n 20], [.n 2, .n 0, .n 1, .n 1, .n 60], [.n 2, .n 0, .n 1, .n 2, .n 40], [.n 2, .n 0, .n 1, .n 3, .n 20]]), .nl 9, .i 1, .u (.l 2 [[.l 1 [], .l 1 []], [.l 1 [], .l 1 []], [.l 1 [], .l 1 []], [.l 1 [], .l 1 []]]), .nl 16, .nl 19, .nl 2, .nl 3, .i 1, .nl 4])]
def awk13k14k15k16k18M2 (v : NbV) : Mem := [.c [.i 4, .u (.l 7 [[.n 3, .n 2, .n 10, .l 2 [[.n 1, .n 3], [.n 2, .n 1]], .n 2, .n 3, .n 5], [.n 4, .n 1, .n 7, .l 2 [[.n 3, .n 2]], .n 0, .n 0, .n 3]]), .i 2, .u (.l 4 [[.n 1, .n 1, .n 1, .n 1000], [.n 1, .n 1, .n 0, .n 0]]), .i 3, .i 200, .i 1, .i 500],
  .c [.i 0, .i 0, .nl 2, .nl 2, .nl 2, .u (.l 2 [[.n 0, .n 0], [.n 1, .n 60], [.n 2, .n 500], [.n 3, .n 2]]), .u (.l 5 [[.n 1, .n 0, .n 1, .n 1, .n 60], [.n 1, .n 0, .n 1, .n 2, .n 40], [.n 1, .n 0, .n 1, .n 3, .n 20], [.n 2, .n 0, .n 1, .n 1, .n 60], [.n 2, .n 0, .n 1, .n 2, .n 40], [.n 2, .n 0, .n 1, .n 3, .n 20]]), .nl 9, .i 1, .u (.l 2 [[.l 1 [], .l 1 []], [.l 1 [], .l 1 []], [.l 1 [], .l 1 []], [.l 1 [], .l 1 []]]), .nl 16, .nl 19, .nl 2, .nl 3, .i 1, .nl 4],
  .c [.w 3, .m 4],
  .cw 381 3 4 [.i 1, .c 1 [], .c 1 [], .i 1, .c 1 [], .c 1 [], .i 1, .c 1 [], .c 1 [], .i 0, .c 1 [], .c 1 []],
  .p .n 1 false [],
  .c [.nl 1],
  .c [.nl 4, .nm]]
abbrev awk13k14k15k16k18Mm (v : NbV) : Mem := (awk13k14k15k16k18M0 v)
theorem awk13k14k15k16k18_run (v : NbV) : PRun Tryz.prog 161 (awk13k14k15k16k18M0 v) [.a [.i 4, .u (.l 7 [[.n 3, .n 2, .n 10, .l 2 [[.n 1, .n 3], [.n 2, .n 1]], .n 2, .n 3, .n 5], [.n 4, .n 1, .n 7, .l 2 [[.n 3, .n 2]], .n 0, .n 0, .n 3]]), .i 2, .u (.l 4 [[.n 1, .n 1, .n 1, .n 1000], [.n 1, .n 1, .n 0, .n 0]]), .i 3, .i 200, .i 1, .i 500], .a [.i 0, .i 0, .nl 2, .nl 2, .nl 2, .u (.l 2 [[.n 0, .n 0], [.n 1, .n 60], [.n 2, .n 500], [.n 3, .n 2]]), .u (.l 5 [[.n 1, .n 0, .n 1, .n 1, .n 60], [.n 1, .n 0, .n 1, .n 2, .n 40], [.n 1, .n 0, .n 1, .n 3, .n 20], [.n 2, .n 0, .n 1, .n 1, .n 60], [.n 2, .n 0, .n 1, .n 2, .n 40], [.n 2, .n 0, .n 1, .n 3, .n 20]]), .nl 9, .i 1, .u (.l 2 [[.l 1 [], .l 1 []], [.l 1 [], .l 1 []], [.l 1 [], .l 1 []], [.l 1 [], .l 1 []]]), .nl 16, .nl 19, .nl 2, .nl 3, .i 1, .nl 4]] fun x m => x = .u (.b true) ∧ m = (awk13k14k15k16k18Mm v) := Ev.runA (speNrm.or (speBd [87] bdTs)) Tryz.func161 (c := (bodyOf Tryz.f161)) (r := (.ret, (awk13k14k15k16k18T1 v), (awk13k14k15k16k18M2 v))) Ev.codeA
def awk13k14k15k16T5 (v : NbV) : Fr := puF (awk13k14k15k16T4 v) [(4, .u (.b true)), (54, .u (.b true)), (55, .u (.b true))]
abbrev awk13k14k15k16Mm (v : NbV) : Mem := (awk13k14k15k16M0 v)
theorem awk13k14k15k16_run (v : NbV) : PRun Tryz.prog 92 (awk13k14k15k16M0 v) [.a [.i 4, .u (.l 7 [[.n 3, .n 2, .n 10, .l 2 [[.n 1, .n 3], [.n 2, .n 1]], .n 2, .n 3, .n 5], [.n 4, .n 1, .n 7, .l 2 [[.n 3, .n 2]], .n 0, .n 0, .n 3]]), .i 2, .u (.l 4 [[.n 1, .n 1, .n 1, .n 1000], [.n 1, .n 1, .n 0, .n 0]]), .i 3, .i 200, .i 1, .i 500], .a [.i 0, .i 0, .nl 2, .nl 2, .nl 2, .u (.l 2 [[.n 0, .n 0], [.n 1, .n 60], [.n 2, .n 500], [.n 3, .n 2]]), .u (.l 5 [[.n 1, .n 0, .n 1, .n 1, .n 60], [.n 1, .n 0, .n 1, .n 2, .n 40], [.n 1, .n 0, .n 1, .n 3, .n 20], [.n 2, .n 0, .n 1, .n 1, .n 60], [.n 2, .n 0, .n 1, .n 2, .n 40], [.n 2, .n 0, .n 1, .n 3, .n 20]]), .nl 9, .i 1, .u (.l 2 [[.l 1 [], .l 1 []], [.l 1 [], .l 1 []], [.l 1 [], .l 1 []], [.l 1 [], .l 1 []]]), .nl 16, .nl 19, .nl 2, .nl 3, .i 1, .nl 4]] fun x m => x = .u (.b true) ∧ m = (awk13k14k15k16Mm v) := Ev.runA eK4 Tryz.func92 (c := (bodyOf Tryz.f92)) (r := (.ret, (awk13k14k15k16T5 v), (awk13k14k15k16M2 v))) (Ev.piecesA (k := 2) (t1 := awk13k14k15k16T1 v) (m1 := awk13k14k15k16M2 v) (Ev.seqPA (t1 := awk13k14k15k16T5 v) (m1 := awk13k14k15k16M2 v) (Ev.regA (EvO.callA (t2 := awk13k14k15k16T3 v) (m1 := awk13k14k15k16M2 v) (ix := []) (k := 25) (t1 := (awk13k14k15k16T3 v)) (args := [.a [.i 4, .u (.l 7 [[.n 3, .n 2, .n 10, .l 2 [[.n 1, .n 3], [.n 2, .n 1]], .n 2, .n 3, .n 5], [.n 4, .n 1, .n 7, .l 2 [[.n 3, .n 2]], .n 0, .n 0, .n 3]]), .i 2, .u (.l 4 [[.n 1, .n 1, .n 1, .n 1000], [.n 1, .n 1, .n 0, .n 0]]), .i 3, .i 200, .i 1, .i 500], .a [.i 0, .i 0, .nl 2, .nl 2, .nl 2, .u (.l 2 [[.n 0, .n 0], [.n 1, .n 60], [.n 2, .n 500], [.n 3, .n 2]]), .u (.l 5 [[.n 1, .n 0, .n 1, .n 1, .n 60], [.n 1, .n 0, .n 1, .n 2, .n 40], [.n 1, .n 0, .n 1, .n 3, .n 20], [.n 2, .n 0, .n 1, .n 1, .n 60], [.n 2, .n 0, .n 1, .n 2, .n 40], [.n 2, .n 0, .n 1, .n 3, .n 20]]), .nl 9, .i 1, .u (.l 2 [[.l 1 [], .l 1 []], [.l 1 [], .l 1 []], [.l 1 [], .l 1 []], [.l 1 [], .l 1 []]]), .nl 16, .nl 19, .nl 2, .nl 3, .i 1, .nl 4]]) (a := []) (cc := []) (awk13k14k15k16k17_run v) (EvO.callA (t2 := awk13k14k15k16T4 v) (m1 := awk13k14k15k16M2 v) (ix := []) (k := 4) (t1 := (awk13k14k15k16T4 v)) (args := [.a [.i 4, .u (.l 7 [[.n 3, .n 2, .n 10, .l 2 [[.n 1, .n 3], [.n 2, .n 1]], .n 2, .n 3, .n 5], [.n 4, .n 1, .n 7, .l 2 [[.n 3, .n 2]], .n 0, .n 0, .n 3]]), .i 2, .u (.l 4 [[.n 1, .n 1, .n 1, .n 1000], [.n 1, .n 1, .n 0, .n 0]]), .i 3, .i 200, .i 1, .i 500], .a [.i 0, .i 0, .nl 2, .nl 2, .nl 2, .u (.l 2 [[.n 0, .n 0], [.n 1, .n 60], [.n 2, .n 500], [.n 3, .n 2]]), .u (.l 5 [[.n 1, .n 0, .n 1, .n 1, .n 60], [.n 1, .n 0, .n 1, .n 2, .n 40], [.n 1, .n 0, .n 1, .n 3, .n 20], [.n 2, .n 0, .n 1, .n 1, .n 60], [.n 2, .n 0, .n 1, .n 2, .n 40], [.n 2, .n 0, .n 1, .n 3, .n 20]]), .nl 9, .i 1, .u (.l 2 [[.l 1 [], .l 1 []], [.l 1 [], .l 1 []], [.l 1 [], .l 1 []], [.l 1 [], .l 1 []]]), .nl 16, .nl 19, .nl 2, .nl 3, .i 1, .nl 4]]) (a := []) (cc := []) (awk13k14k15k16k18_run v) EvO.opsA))) Ev.codeA))
def awk13k14k15T6 (v : NbV) : Fr := puF (awk13k14k15T5 v) [(13, .u (.b true)), (14, .u (.b false)), (15, .u (.b false))]
def awk13k14k15T8 (v : NbV) : Fr := puF (awk13k14k15T6 v) [(16, .i 0)]
abbrev awk13k14k15Mm (v : NbV) : Mem := (awk13k14k15M0 v)
theorem awk13k14k15_run (v : NbV) : PRun Tryz.prog 15 (awk13k14k15M0 v) [.a [.i 4, .u (.l 7 [[.n 3, .n 2, .n 10, .l 2 [[.n 1, .n 3], [.n 2, .n 1]], .n 2, .n 3, .n 5], [.n 4, .n 1, .n 7, .l 2 [[.n 3, .n 2]], .n 0, .n 0, .n 3]]), .i 2, .u (.l 4 [[.n 1, .n 1, .n 1, .n 1000], [.n 1, .n 1, .n 0, .n 0]]), .i 3, .i 200, .i 1, .i 500], .a [.i 0, .i 0, .nl 2, .nl 2, .nl 2, .u (.l 2 [[.n 0, .n 0], [.n 1, .n 60], [.n 2, .n 500], [.n 3, .n 2]]), .u (.l 5 [[.n 1, .n 0, .n 1, .n 1, .n 60], [.n 1, .n 0, .n 1, .n 2, .n 40], [.n 1, .n 0, .n 1, .n 3, .n 20], [.n 2, .n 0, .n 1, .n 1, .n 60], [.n 2, .n 0, .n 1, .n 2, .n 40], [.n 2, .n 0, .n 1, .n 3, .n 20]]), .nl 9, .i 1, .u (.l 2 [[.l 1 [], .l 1 []], [.l 1 [], .l 1 []], [.l 1 [], .l 1 []], [.l 1 [], .l 1 []]]), .nl 16, .nl 19, .nl 2, .nl 3, .i 1, .nl 4]] fun x m => x = .i 0 ∧ m = (awk13k14k15Mm v) := Ev.runA eK3 Tryz.func15 (c := (bodyOf Tryz.f15)) (r := (.ret, (awk13k14k15T8 v), (awk13k14k15M2 v))) (Ev.piecesA (k := 1) (t1 := awk13k14k15T1 v) (m1 := awk13k14k15M2 v) (Ev.seqPA (t1 := awk13k14k15T4 v) (m1 := awk13k14k15M2 v) (Ev.regA (EvO.callA (t2 := awk13k14k15T3 v) (m1 := awk13k14k15M2 v) (ix := []) (k := 1) (t1 := (awk13k14k15T3 v)) (args := [.a [.i 4, .u (.l 7 [[.n 3, .n 2, .n 10, .l 2 [[.n 1, .n 3], [.n 2, .n 1]], .n 2, .n 3, .n 5], [.n 4, .n 1, .n 7, .l 2 [[.n 3, .n 2]], .n 0, .n 0, .n 3]]), .i 2, .u (.l 4 [[.n 1, .n 1, .n 1, .n 1000], [.n 1, .n 1, .n 0, .n 0]]), .i 3, .i 200, .i 1, .i 500]]) (a := []) (cc := []) (awk3k4k5_run v) EvO.opsA)) (Ev.seqPA (t1 := awk13k14k15T6 v) (m1 := awk13k14k15M2 v) (Ev.seqPA (t1 := awk13k14k15T6 v) (m1 := awk13k14k15M2 v) (Ev.regA (EvO.callA (t2 := awk13k14k15T5 v) (m1 := awk13k14k15M2 v) (ix := []) (k := 5) (t1 := (awk13k14k15T5 v)) (args := [.a [.i 4, .u (.l 7 [[.n 3, .n 2, .n 10, .l 2 [[.n 1, .n 3], [.n 2, .n 1]], .n 2, .n 3, .n 5], [.n 4, .n 1, .n 7, .l 2 [[.n 3, .n 2]], .n 0, .n 0, .n 3]]), .i 2, .u (.l 4 [[.n 1, .n 1, .n 1, .n 1000], [.n 1, .n 1, .n 0, .n 0]]), .i 3, .i 200, .i 1, .i 500], .a [.i 0, .i 0, .nl 2, .nl 2, .nl 2, .u (.l 2 [[.n 0, .n 0], [.n 1, .n 60], [.n 2, .n 500], [.n 3, .n 2]]), .u (.l 5 [[.n 1, .n 0, .n 1, .n 1, .n 60], [.n 1, .n 0, .n 1, .n 2, .n 40], [.n 1, .n 0, .n 1, .n 3, .n 20], [.n 2, .n 0, .n 1, .n 1, .n 60], [.n 2, .n 0, .n 1, .n 2, .n 40], [.n 2, .n 0, .n 1, .n 3, .n 20]]), .nl 9, .i 1, .u (.l 2 [[.l 1 [], .l 1 []], [.l 1 [], .l 1 []], [.l 1 [], .l 1 []], [.l 1 [], .l 1 []]]), .nl 16, .nl 19, .nl 2, .nl 3, .i 1, .nl 4]]) (a := []) (cc := []) (awk13k14k15k16_run v) EvO.opsA)) Ev.codeA) Ev.codeA)))
def awk13k14T4 (v : NbV) : Fr := puF (awk13k14T3 v) [(6, .i 0), (14, .i 0)]
def awk13k14T5 (v : NbV) : Fr := puF (awk13k14T4 v) [(15, .i 0), (16, .u (.b false))]
def awk13k14T6 (v : NbV) : Fr := Fr.mk [.a [.i 4, .u (.l 7 [[.n 3, .n 2, .n 10, .l 2 [[.n 1, .n 3], [.n 2, .n 1]], .n 2, .n 3, .n 5], [.n 4, .n 1, .n 7, .l 2 [[.n 3, .n 2]], .n 0, .n 0, .n 3]]), .i 2, .u (.l 4 [[.n 1, .n 1, .n 1, .n 1000], [.n 1, .n 1, .n 0, .n 0]]), .i 3, .i 200, .i 1, .i 500], .a [.i 0, .i 0, .nl 2, .nl 2, .nl 2, .u (.l 2 [[.n 0, .n 0], [.n 1, .n 60], [.n 2, .n 500], [.n 3, .n 2]]), .u (.l 5 [[.n 1, .n 0, .n 1, .n 1, .n 60], [.n 1, .n 0, .n 1, .n 2, .n 40], [.n 1, .n 0, .n 1, .n 3, .n 20], [.n 2, .n 0, .n 1, .n 1, .n 60], [.n 2, .n 0, .n 1, .n 2, .n 40], [.n 2, .n 0, .n 1, .n 3, .n 20]]), .nl 9, .i 1, .u (.l 2 [[.l 1 [], .l 1 []], [.l 1 [], .l 1 []], [.l 1 [], .l 1 []], [.l 1 [], .l 1 []]]), .nl 16, .nl 19, .nl 2, .nl 3, .i 1, .nl 4], .r 0 0, .r 1 0, .u (.s ⟨#[0, 0, 0, 0, 0, 4, 0, 0, 1, 60, 2, 244, 3, 3, 2, 6, 1, 0, 1, 1, 60, 1, 0, 1, 2, 40, 1, 0, 1, 3, 20, 2, 0, 1, 1, 60, 2, 0, 1, 2, 40, 2, 0, 1, 3, 20, 0, 1, 4, 0, 0, 0, 0, 0, 0, 0, 0, 0, 0, 0, 0, 1, 1, 0]⟩), .i 0, .i 0, .r 3 0, .f 21 [] [.r 3 0], .r 4 0, .u (.s ⟨#[0]⟩), .i 0, .a [.i 4, .u (.l 7 [[.n 3, .n 2, .n 10, .l 2 [[.n 1, .n 3], [.n 2, .n 1]], .n 2, .n 3, .n 5], [.n 4, .n 1, .n 7, .l 2 [[.n 3, .n 2]], .n 0, .n 0, .n 3]]), .i 2, .u (.l 4 [[.n 1, .n 1, .n 1, .n 1000], [.n 1, .n 1, .n 0, .n 0]]), .i 3, .i 200, .i 1, .i 500], .a [.i 0, .i 0, .nl 2, .nl 2, .nl 2, .u (.l 2 [[.n 0, .n 0], [.n 1, .n 60], [.n 2, .n 500], [.n 3, .n 2]]), .u (.l 5 [[.n 1, .n 0, .n 1, .n 1, .n 60], [.n 1, .n 0, .n 1, .n 2, .n 40], [.n 1, .n 0, .n 1, .n 3, .n 20], [.n 2, .n 0, .n 1, .n 1, .n 60], [.n 2, .n 0, .n 1, .n 2, .n 40], [.n 2, .n 0, .n 1, .n 3, .n 20]]), .nl 9, .i 1, .u (.l 2 [[.l 1 [], .l 1 []], [.l 1 [], .l 1 []], [.l 1 [], .l 1 []], [.l 1 [], .l 1 []]]), .nl 16, .nl 19, .nl 2, .nl 3, .i 1, .nl 4], .i 0, .i 0, .u (.b false), .z, .a [.u (.p none), .nl 1], .r 2 0, .f 21 [] [.r 3 0], .f 23 [] [.r 3 0], .r 2 0, .r 1 0, .i 0, .r 1 1, .i 0, .w 5, .t [], .r 2 0, .r 1 2, .nl 2, .f 21 [] [.r 3 0], .t [], .r 2 0, .r 1 3, .nl 2, .f 21 [] [.r 3 0], .t [], .r 2 0, .r 1 4, .nl 2, .f 21 [] [.r 3 0], .t [], .r 2 0, .r 1 5, .u (.l 2 [[.n 0, .n 0], [.n 1, .n 60], [.n 2, .n 500], [.n 3, .n 2]]), .f 26 [] [.r 3 0], .t [], .r 2 0, .r 1 6, .u (.l 5 [[.n 1, .n 0, .n 1, .n 1, .n 60], [.n 1, .n 0, .n 1, .n 2, .n 40], [.n 1, .n 0, .n 1, .n 3, .n 20], [.n 2, .n 0, .n 1, .n 1, .n 60], [.n 2, .n 0, .n 1, .n 2, .n 40], [.n 2, .n 0, .n 1, .n 3, .n 20]]), .f 28 [] [.r 3 0], .t [], .r 2 0, .r 1 7, .nl 9, .f 30 [] [.r 3 0], .t [], .r 2 0, .r 1 8, .i 1, .w 10, .t [], .r 2 0, .r 1 9, .u (.l 2 [[.l 1 [], .l 1 []], [.l 1 [], .l 1 []], [.l 1 [], .l 1 []], [.l 1 [], .l 1 []]]), .f 34 [] [.r 3 0, .r 4 0], .t [], .r 2 0, .r 1 10, .nl 16, .f 37 [] [.r 3 0], .t [], .r 2 0, .r 1 11, .nl 19, .f 41 [] [.r 3 0], .t [], .r 2 0, .r 1 12, .nl 2, .f 44 [] [.r 3 0], .t [], .r 2 0, .r 1 13, .nl 3, .f 48 [] [.r 3 0], .t [], .r 2 0, .r 1 14, .i 1, .w 15, .t [], .t [.u (.s ⟨#[0]⟩), .i 0], .r 1 15, .nl 4, .t [.u (.s ⟨#[0]⟩), .i 0], .u (.s ⟨#[0]⟩), .i 0, .r 2 0, .u (.s ⟨#[0]⟩), .t [], .r 2 0, .r 2 0, .r 2 0, .u (.s ⟨#[0, 0, 0, 0, 0, 4, 0, 0, 1, 60, 2, 244, 3, 3, 2, 6, 1, 0, 1, 1, 60, 1, 0, 1, 2, 40, 1, 0, 1, 3, 20, 2, 0, 1, 1, 60, 2, 0, 1, 2, 40, 2, 0, 1, 3, 20, 0, 1, 4, 0, 0, 0, 0, 0, 0, 0, 0, 0, 0, 0, 0, 1, 1, 0]⟩)] 0 107
def awk13k14M7 (v : NbV) : Mem := paM (awk13k14M2 v) [] [.x,
  .c [.r 2 0],
  .c [.f 23 [] [.r 3 0]],
  .w 3 1 [[.n 0], [.n 0]],
  .w 3 1 [[.n 0]],
  .w 3 1 [[.n 0]],
  .w 3 1 [[.n 0]],
  .w 3 1 [[.n 0]],
  .w 3 1 [[.n 1]],
  .w 3 1 [[.n 0]],
  .w 3 1 [[.n 0]],
  .w 3 1 [[.n 0]],
  .w 3 1 [[.n 0]],
  .w 3 1 [[.n 1]],
  .c [.nl 4, .nm]]
abbrev awk13k14Mm (v : NbV) : Mem := (awk13k14M0 v)
theorem awk13k14_run (v : NbV) : PRun Tryz.prog 8 (awk13k14M0 v) [.a [.i 4, .u (.l 7 [[.n 3, .n 2, .n 10, .l 2 [[.n 1, .n 3], [.n 2, .n 1]], .n 2, .n 3, .n 5], [.n 4, .n 1, .n 7, .l 2 [[.n 3, .n 2]], .n 0, .n 0, .n 3]]), .i 2, .u (.l 4 [[.n 1, .n 1, .n 1, .n 1000], [.n 1, .n 1, .n 0, .n 0]]), .i 3, .i 200, .i 1, .i 500], .a [.i 0, .i 0, .nl 2, .nl 2, .nl 2, .u (.l 2 [[.n 0, .n 0], [.n 1, .n 60], [.n 2, .n 500], [.n 3, .n 2]]), .u (.l 5 [[.n 1, .n 0, .n 1, .n 1, .n 60], [.n 1, .n 0, .n 1, .n 2, .n 40], [.n 1, .n 0, .n 1, .n 3, .n 20], [.n 2, .n 0, .n 1, .n 1, .n 60], [.n 2, .n 0, .n 1, .n 2, .n 40], [.n 2, .n 0, .n 1, .n 3, .n 20]]), .nl 9, .i 1, .u (.l 2 [[.l 1 [], .l 1 []], [.l 1 [], .l 1 []], [.l 1 [], .l 1 []], [.l 1 [], .l 1 []]]), .nl 16, .nl 19, .nl 2, .nl 3, .i 1, .nl 4]] fun x m => x = .t [.u (.s ⟨#[0, 0, 0, 0, 0, 4, 0, 0, 1, 60, 2, 244, 3, 3, 2, 6, 1, 0, 1, 1, 60, 1, 0, 1, 2, 40, 1, 0, 1, 3, 20, 2, 0, 1, 1, 60, 2, 0, 1, 2, 40, 2, 0, 1, 3, 20, 0, 1, 4, 0, 0, 0, 0, 0, 0, 0, 0, 0, 0, 0, 0, 1, 1, 0]⟩), .i 0] ∧ m = (awk13k14Mm v) := Ev.runA eK2 Tryz.func8 (c := (bodyOf Tryz.f8)) (r := (.ret, (awk13k14T6 v), (awk13k14M7 v))) (Ev.piecesA (k := 1) (t1 := awk13k14T1 v) (m1 := awk13k14M2 v) (Ev.seqPA (t1 := awk13k14T5 v) (m1 := awk13k14M2 v) (Ev.seqPA (t1 := awk13k14T4 v) (m1 := awk13k14M2 v) (Ev.regA (EvO.callA (t2 := awk13k14T3 v) (m1 := awk13k14M2 v) (ix := []) (k := 2) (t1 := (awk13k14T3 v)) (args := [.a [.i 4, .u (.l 7 [[.n 3, .n 2, .n 10, .l 2 [[.n 1, .n 3], [.n 2, .n 1]], .n 2, .n 3, .n 5], [.n 4, .n 1, .n 7, .l 2 [[.n 3, .n 2]], .n 0, .n 0, .n 3]]), .i 2, .u (.l 4 [[.n 1, .n 1, .n 1, .n 1000], [.n 1, .n 1, .n 0, .n 0]]), .i 3, .i 200, .i 1, .i 500], .a [.i 0, .i 0, .nl 2, .nl 2, .nl 2, .u (.l 2 [[.n 0, .n 0], [.n 1, .n 60], [.n 2, .n 500], [.n 3, .n 2]]), .u (.l 5 [[.n 1, .n 0, .n 1, .n 1, .n 60], [.n 1, .n 0, .n 1, .n 2, .n 40], [.n 1, .n 0, .n 1, .n 3, .n 20], [.n 2, .n 0, .n 1, .n 1, .n 60], [.n 2, .n 0, .n 1, .n 2, .n 40], [.n 2, .n 0, .n 1, .n 3, .n 20]]), .nl 9, .i 1, .u (.l 2 [[.l 1 [], .l 1 []], [.l 1 [], .l 1 []], [.l 1 [], .l 1 []], [.l 1 [], .l 1 []]]), .nl 16, .nl 19, .nl 2, .nl 3, .i 1, .nl 4]]) (a := []) (cc := []) (awk13k14k15_run v) EvO.opsA)) Ev.codeA) Ev.codeA))
def awk13T4 (v : NbV) : Fr := puF (awk13T3 v) [(6, .u (.s ⟨#[0, 0, 0, 0, 0, 4, 0, 0, 1, 60, 2, 244, 3, 3, 2, 6, 1, 0, 1, 1, 60, 1, 0, 1, 2, 40, 1, 0, 1, 3, 20, 2, 0, 1, 1, 60, 2, 0, 1, 2, 40, 2, 0, 1, 3, 20, 0, 1, 4, 0, 0, 0, 0, 0, 0, 0, 0, 0, 0, 0, 0, 1, 1, 0]⟩)), (7, .i 0), (8, .t [.u (.s ⟨#[0, 0, 0, 0, 0, 4, 0, 0, 1, 60, 2, 244, 3, 3, 2, 6, 1, 0, 1, 1, 60, 1, 0, 1, 2, 40, 1, 0, 1, 3, 20, 2, 0, 1, 1, 60, 2, 0, 1, 2, 40, 2, 0, 1, 3, 20, 0, 1, 4, 0, 0, 0, 0, 0, 0, 0, 0, 0, 0, 0, 0, 1, 1, 0]⟩), .i 0]), (11, .t [.u (.s ⟨#[0, 0, 0, 0, 0, 4, 0, 0, 1, 60, 2, 244, 3, 3, 2, 6, 1, 0, 1, 1, 60, 1, 0, 1, 2, 40, 1, 0, 1, 3, 20, 2, 0, 1, 1, 60, 2, 0, 1, 2, 40, 2, 0, 1, 3, 20, 0, 1, 4, 0, 0, 0, 0, 0, 0, 0, 0, 0, 0, 0, 0, 1, 1, 0]⟩), .i 0]), (12, .u (.s ⟨#[0, 0, 0, 0, 0, 4, 0, 0, 1, 60, 2, 244, 3, 3, 2, 6, 1, 0, 1, 1, 60, 1, 0, 1, 2, 40, 1, 0, 1, 3, 20, 2, 0, 1, 1, 60, 2, 0, 1, 2, 40, 2, 0, 1, 3, 20, 0, 1, 4, 0, 0, 0, 0, 0, 0, 0, 0, 0, 0, 0, 0, 1, 1, 0]⟩)), (13, .i 0)]
def awk13T5 (v : NbV) : Fr := puF (awk13T4 v) [(14, .i 0), (15, .u (.b false))]
def awk13T6 (v : NbV) : Fr := puF (awk13T5 v) [(17, .u (.s ⟨#[0, 0, 0, 0, 0, 4, 0, 0, 1, 60, 2, 244, 3, 3, 2, 6, 1, 0, 1, 1, 60, 1, 0, 1, 2, 40, 1, 0, 1, 3, 20, 2, 0, 1, 1, 60, 2, 0, 1, 2, 40, 2, 0, 1, 3, 20, 0, 1, 4, 0, 0, 0, 0, 0, 0, 0, 0, 0, 0, 0, 0, 1, 1, 0]⟩))]
def awk13k19M0 (v : NbV) : Mem := []
def awk13k19T1 (v : NbV) : Fr := Fr.mk [.u (.s ⟨#[0, 0, 0, 0, 0, 4, 0, 0, 1, 60, 2, 244, 3, 3, 2, 6, 1, 0, 1, 1, 60, 1, 0, 1, 2, 40, 1, 0, 1, 3, 20, 2, 0, 1, 1, 60, 2, 0, 1, 2, 40, 2, 0, 1, 3, 20, 0, 1, 4, 0, 0, 0, 0, 0, 0, 0, 0, 0, 0, 0, 0, 1, 1, 0]⟩), .z, .u (.i .u32 3437115553), .u (.s ⟨#[0, 0, 0, 0, 0, 4, 0, 0, 1, 60, 2, 244, 3, 3, 2, 6, 1, 0, 1, 1, 60, 1, 0, 1, 2, 40, 1, 0, 1, 3, 20, 2, 0, 1, 1, 60, 2, 0, 1, 2, 40, 2, 0, 1, 3, 20, 0, 1, 4, 0, 0, 0, 0, 0, 0, 0, 0, 0, 0, 0, 0, 1, 1, 0]⟩), .u (.i .u32 3437115553)] 0 5
def awk13k19M2 (v : NbV) : Mem := [.c [.u (.i .u32 0), .u (.i .u32 498536548), .u (.i .u32 997073096), .u (.i .u32 651767980), .u (.i .u32 1994146192), .u (.i .u32 1802195444), .u (.i .u32 1303535960), .u (.i .u32 1342533948), .u (.i .u32 3988292384), .u (.i .u32 4027552580), .u (.i .u32 3604390888), .u (.i .u32 3412177804), .u (.i .u32 2607071920), .u (.i .u32 2262029012), .u (.i .u32 2685067896), .u (.i .u32 3183342108)]]
abbrev awk13k19Mm (v : NbV) : Mem := (awk13k19M0 v)
theorem awk13k19_run (v : NbV) : PRun Tryz.prog 103 (awk13k19M0 v) [.u (.s ⟨#[0, 0, 0, 0, 0, 4, 0, 0, 1, 60, 2, 244, 3, 3, 2, 6, 1, 0, 1, 1, 60, 1, 0, 1, 2, 40, 1, 0, 1, 3, 20, 2, 0, 1, 1, 60, 2, 0, 1, 2, 40, 2, 0, 1, 3, 20, 0, 1, 4, 0, 0, 0, 0, 0, 0, 0, 0, 0, 0, 0, 0, 1, 1, 0]⟩)] fun x m => x = .u (.i .u32 3437115553) ∧ m = (awk13k19Mm v) := Ev.runA (speNrm.or (speBd [87] bdTs)) Tryz.func103 (c := (bodyOf Tryz.f103)) (r := (.ret, (awk13k19T1 v), (awk13k19M2 v))) Ev.codeA
def awk13T7 (v : NbV) : Fr := puF (awk13T6 v) [(4, .u (.i .u32 3437115553)), (18, .u (.i .u32 3437115553))]
def awk13T8 (v : NbV) : Fr := puF (awk13T6 v) [(4, .u (.i .u32 3437115553)), (18, .u (.i .u32 3437115553))]
abbrev awk13Mm (v : NbV) : Mem := (awk13M0 v)
theorem awk13_run (v : NbV) : PRun Tryz.prog 12 (awk13M0 v) [.a [.i 4, .u (.l 7 [[.n 3, .n 2, .n 10, .l 2 [[.n 1, .n 3], [.n 2, .n 1]], .n 2, .n 3, .n 5], [.n 4, .n 1, .n 7, .l 2 [[.n 3, .n 2]], .n 0, .n 0, .n 3]]), .i 2, .u (.l 4 [[.n 1, .n 1, .n 1, .n 1000], [.n 1, .n 1, .n 0, .n 0]]), .i 3, .i 200, .i 1, .i 500], .a [.i 0, .i 0, .nl 2, .nl 2, .nl 2, .u (.l 2 [[.n 0, .n 0], [.n 1, .n 60], [.n 2, .n 500], [.n 3, .n 2]]), .u (.l 5 [[.n 1, .n 0, .n 1, .n 1, .n 60], [.n 1, .n 0, .n 1, .n 2, .n 40], [.n 1, .n 0, .n 1, .n 3, .n 20], [.n 2, .n 0, .n 1, .n 1, .n 60], [.n 2, .n 0, .n 1, .n 2, .n 40], [.n 2, .n 0, .n 1, .n 3, .n 20]]), .nl 9, .i 1, .u (.l 2 [[.l 1 [], .l 1 []], [.l 1 [], .l 1 []], [.l 1 [], .l 1 []], [.l 1 [], .l 1 []]]), .nl 16, .nl 19, .nl 2, .nl 3, .i 1, .nl 4]] fun x m => x = .t [.u (.i .u32 3437115553), .i 0] ∧ m = (awk13Mm v) := Ev.runA eK5 Tryz.func12 (c := (bodyOf Tryz.f12)) (r := (.ret, (awk13T8 v), (awk13M2 v))) (Ev.piecesA (k := 1) (t1 := awk13T1 v) (m1 := awk13M2 v) (Ev.seqPA (t1 := awk13T4 v) (m1 := awk13M2 v) (Ev.regA (EvO.callA (t2 := awk13T3 v) (m1 := awk13M2 v) (ix := []) (k := 2) (t1 := (awk13T3 v)) (args := [.a [.i 4, .u (.l 7 [[.n 3, .n 2, .n 10, .l 2 [[.n 1, .n 3], [.n 2, .n 1]], .n 2, .n 3, .n 5], [.n 4, .n 1, .n 7, .l 2 [[.n 3, .n 2]], .n 0, .n 0, .n 3]]), .i 2, .u (.l 4 [[.n 1, .n 1, .n 1, .n 1000], [.n 1, .n 1, .n 0, .n 0]]), .i 3, .i 200, .i 1, .i 500], .a [.i 0, .i 0, .nl 2, .nl 2, .nl 2, .u (.l 2 [[.n 0, .n 0], [.n 1, .n 60], [.n 2, .n 500], [.n 3, .n 2]]), .u (.l 5 [[.n 1, .n 0, .n 1, .n 1, .n 60], [.n 1, .n 0, .n 1, .n 2, .n 40], [.n 1, .n 0, .n 1, .n 3, .n 20], [.n 2, .n 0, .n 1, .n 1, .n 60], [.n 2, .n 0, .n 1, .n 2, .n 40], [.n 2, .n 0, .n 1, .n 3, .n 20]]), .nl 9, .i 1, .u (.l 2 [[.l 1 [], .l 1 []], [.l 1 [], .l 1 []], [.l 1 [], .l 1 []], [.l 1 [], .l 1 []]]), .nl 16, .nl 19, .nl 2, .nl 3, .i 1, .nl 4]]) (a := []) (cc := []) (awk13k14_run v) EvO.opsA)) (Ev.piecesA (k := 1) (t1 := awk13T5 v) (m1 := awk13M2 v) (Ev.seqPA (t1 := awk13T7 v) (m1 := awk13M2 v) (Ev.regA (EvO.callA (t2 := awk13T6 v) (m1 := awk13M2 v) (ix := []) (k := 1) (t1 := (awk13T6 v)) (args := [.u (.s ⟨#[0, 0, 0, 0, 0, 4, 0, 0, 1, 60, 2, 244, 3, 3, 2, 6, 1, 0, 1, 1, 60, 1, 0, 1, 2, 40, 1, 0, 1, 3, 20, 2, 0, 1, 1, 60, 2, 0, 1, 2, 40, 2, 0, 1, 3, 20, 0, 1, 4, 0, 0, 0, 0, 0, 0, 0, 0, 0, 0, 0, 0, 1, 1, 0]⟩)]) (a := []) (cc := []) (awk13k19_run v) EvO.opsA)) Ev.codeA))))
def awT16 (v : NbV) : Fr := puF (awT10 v) [(8, .r 2 0), (9, .i 0), (10, .r 3 0), (11, .u (.i .u32 3437115553)), (12, .i 0), (29, .t [.a [.i 0, .i 0, .nl 2, .nl 2, .nl 2, .u (.l 2 [[.n 0, .n 0], [.n 1, .n 0], [.n 2, .n 0], [.n 3, .n 0]]), .nl 5, .nl 9, .i 1, .u (.l 2 [[.l 1 [], .l 1 []], [.l 1 [], .l 1 []], [.l 1 [], .l 1 []], [.l 1 [], .l 1 []]]), .nl 16, .nl 19, .nl 2, .nl 3, .i 1, .nl 4], .i 0]), (32, .t [.a [.i 0, .i 0, .nl 2, .nl 2, .nl 2, .u (.l 2 [[.n 0, .n 0], [.n 1, .n 0], [.n 2, .n 0], [.n 3, .n 0]]), .nl 5, .nl 9, .i 1, .u (.l 2 [[.l 1 [], .l 1 []], [.l 1 [], .l 1 []], [.l 1 [], .l 1 []], [.l 1 [], .l 1 []]]), .nl 16, .nl 19, .nl 2, .nl 3, .i 1, .nl 4], .i 0]), (33, .a [.i 0, .i 0, .nl 2, .nl 2, .nl 2, .u (.l 2 [[.n 0, .n 0], [.n 1, .n 0], [.n 2, .n 0], [.n 3, .n 0]]), .nl 5, .nl 9, .i 1, .u (.l 2 [[.l 1 [], .l 1 []], [.l 1 [], .l 1 []], [.l 1 [], .l 1 []], [.l 1 [], .l 1 []]]), .nl 16, .nl 19, .nl 2, .nl 3, .i 1, .nl 4]), (34, .i 0), (35, .a [.i 0, .i 0, .nl 2, .nl 2, .nl 2, .u (.l 2 [[.n 0, .n 0], [.n 1, .n 0], [.n 2, .n 0], [.n 3, .n 0]]), .nl 5, .nl 9, .i 1, .u (.l 2 [[.l 1 [], .l 1 []], [.l 1 [], .l 1 []], [.l 1 [], .l 1 []], [.l 1 [], .l 1 []]]), .nl 16, .nl 19, .nl 2, .nl 3, .i 1, .nl 4]), (36, .u (.l 2 [[.n 0, .n 0], [.n 1, .n 60], [.n 2, .n 500], [.n 3, .n 2]])), (37, .r 3 5), (38, .u (.l 5 [[.n 1, .n 0, .n 1, .n 1, .n 60], [.n 1, .n 0, .n 1, .n 2, .n 40], [.n 1, .n 0, .n 1, .n 3, .n 20], [.n 2, .n 0, .n 1, .n 1, .n 60], [.n 2, .n 0, .n 1, .n 2, .n 40], [.n 2, .n 0, .n 1, .n 3, .n 20]])), (39, .r 3 6), (40, .t [.u (.i .u32 3437115553), .i 0]), (41, .a [.i 4, .u (.l 7 [[.n 3, .n 2, .n 10, .l 2 [[.n 1, .n 3], [.n 2, .n 1]], .n 2, .n 3, .n 5], [.n 4, .n 1, .n 7, .l 2 [[.n 3, .n 2]], .n 0, .n 0, .n 3]]), .i 2, .u (.l 4 [[.n 1, .n 1, .n 1, .n 1000], [.n 1, .n 1, .n 0, .n 0]]), .i 3, .i 200, .i 1, .i 500]), (42, .a [.i 0, .i 0, .nl 2, .nl 2, .nl 2, .u (.l 2 [[.n 0, .n 0], [.n 1, .n 60], [.n 2, .n 500], [.n 3, .n 2]]), .u (.l 5 [[.n 1, .n 0, .n 1, .n 1, .n 60], [.n 1, .n 0, .n 1, .n 2, .n 40], [.n 1, .n 0, .n 1, .n 3, .n 20], [.n 2, .n 0, .n 1, .n 1, .n 60], [.n 2, .n 0, .n 1, .n 2, .n 40], [.n 2, .n 0, .n 1, .n 3, .n 20]]), .nl 9, .i 1, .u (.l 2 [[.l 1 [], .l 1 []], [.l 1 [], .l 1 []], [.l 1 [], .l 1 []], [.l 1 [], .l 1 []]]), .nl 16, .nl 19, .nl 2, .nl 3, .i 1, .nl 4]), (43, .t [.u (.i .u32 3437115553), .i 0]), (44, .u (.i .u32 3437115553)), (45, .i 0)]
def awT17 (v : NbV) : Fr := puF (awT10 v) [(8, .r 2 0), (9, .i 0), (10, .r 3 0), (11, .u (.i .u32 3437115553)), (12, .i 0), (29, .t [.a [.i 0, .i 0, .nl 2, .nl 2, .nl 2, .u (.l 2 [[.n 0, .n 0], [.n 1, .n 0], [.n 2, .n 0], [.n 3, .n 0]]), .nl 5, .nl 9, .i 1, .u (.l 2 [[.l 1 [], .l 1 []], [.l 1 [], .l 1 []], [.l 1 [], .l 1 []], [.l 1 [], .l 1 []]]), .nl 16, .nl 19, .nl 2, .nl 3, .i 1, .nl 4], .i 0]), (32, .t [.a [.i 0, .i 0, .nl 2, .nl 2, .nl 2, .u (.l 2 [[.n 0, .n 0], [.n 1, .n 0], [.n 2, .n 0], [.n 3, .n 0]]), .nl 5, .nl 9, .i 1, .u (.l 2 [[.l 1 [], .l 1 []], [.l 1 [], .l 1 []], [.l 1 [], .l 1 []], [.l 1 [], .l 1 []]]), .nl 16, .nl 19, .nl 2, .nl 3, .i 1, .nl 4], .i 0]), (33, .a [.i 0, .i 0, .nl 2, .nl 2, .nl 2, .u (.l 2 [[.n 0, .n 0], [.n 1, .n 0], [.n 2, .n 0], [.n 3, .n 0]]), .nl 5, .nl 9, .i 1, .u (.l 2 [[.l 1 [], .l 1 []], [.l 1 [], .l 1 []], [.l 1 [], .l 1 []], [.l 1 [], .l 1 []]]), .nl 16, .nl 19, .nl 2, .nl 3, .i 1, .nl 4]), (34, .i 0), (35, .a [.i 0, .i 0, .nl 2, .nl 2, .nl 2, .u (.l 2 [[.n 0, .n 0], [.n 1, .n 0], [.n 2, .n 0], [.n 3, .n 0]]), .nl 5, .nl 9, .i 1, .u (.l 2 [[.l 1 [], .l 1 []], [.l 1 [], .l 1 []], [.l 1 [], .l 1 []], [.l 1 [], .l 1 []]]), .nl 16, .nl 19, .nl 2, .nl 3, .i 1, .nl 4]), (36, .u (.l 2 [[.n 0, .n 0], [.n 1, .n 60], [.n 2, .n 500], [.n 3, .n 2]])), (37, .r 3 5), (38, .u (.l 5 [[.n 1, .n 0, .n 1, .n 1, .n 60], [.n 1, .n 0, .n 1, .n 2, .n 40], [.n 1, .n 0, .n 1, .n 3, .n 20], [.n 2, .n 0, .n 1, .n 1, .n 60], [.n 2, .n 0, .n 1, .n 2, .n 40], [.n 2, .n 0, .n 1, .n 3, .n 20]])), (39, .r 3 6), (40, .t [.u (.i .u32 3437115553), .i 0]), (41, .a [.i 4, .u (.l 7 [[.n 3, .n 2, .n 10, .l 2 [[.n 1, .n 3], [.n 2, .n 1]], .n 2, .n 3, .n 5], [.n 4, .n 1, .n 7, .l 2 [[.n 3, .n 2]], .n 0, .n 0, .n 3]]), .i 2, .u (.l 4 [[.n 1, .n 1, .n 1, .n 1000], [.n 1, .n 1, .n 0, .n 0]]), .i 3, .i 200, .i 1, .i 500]), (42, .a [.i 0, .i 0, .nl 2, .nl 2, .nl 2, .u (.l 2 [[.n 0, .n 0], [.n 1, .n 60], [.n 2, .n 500], [.n 3, .n 2]]), .u (.l 5 [[.n 1, .n 0, .n 1, .n 1, .n 60], [.n 1, .n 0, .n 1, .n 2, .n 40], [.n 1, .n 0, .n 1, .n 3, .n 20], [.n 2, .n 0, .n 1, .n 1, .n 60], [.n 2, .n 0, .n 1, .n 2, .n 40], [.n 2, .n 0, .n 1, .n 3, .n 20]]), .nl 9, .i 1, .u (.l 2 [[.l 1 [], .l 1 []], [.l 1 [], .l 1 []], [.l 1 [], .l 1 []], [.l 1 [], .l 1 []]]), .nl 16, .nl 19, .nl 2, .nl 3, .i 1, .nl 4]), (43, .t [.u (.i .u32 3437115553), .i 0]), (44, .u (.i .u32 3437115553)), (45, .i 0), (47, .a [.i 4, .u (.l 7 [[.n 3, .n 2, .n 10, .l 2 [[.n 1, .n 3], [.n 2, .n 1]], .n 2, .n 3, .n 5], [.n 4, .n 1, .n 7, .l 2 [[.n 3, .n 2]], .n 0, .n 0, .n 3]]), .i 2, .u (.l 4 [[.n 1, .n 1, .n 1, .n 1000], [.n 1, .n 1, .n 0, .n 0]]), .i 3, .i 200, .i 1, .i 500]), (48, .a [.i 0, .i 0, .nl 2, .nl 2, .nl 2, .u (.l 2 [[.n 0, .n 0], [.n 1, .n 0], [.n 2, .n 0], [.n 3, .n 0]]), .nl 5, .nl 9, .i 1, .u (.l 2 [[.l 1 [], .l 1 []], [.l 1 [], .l 1 []], [.l 1 [], .l 1 []], [.l 1 [], .l 1 []]]), .nl 16, .nl 19, .nl 2, .nl 3, .i 1, .nl 4])]
def awk20T0 (v : NbV) : Fr := frameF Tryz.prog Tryz.f12 [.a [.i 4, .u (.l 7 [[.n 3, .n 2, .n 10, .l 2 [[.n 1, .n 3], [.n 2, .n 1]], .n 2, .n 3, .n 5], [.n 4, .n 1, .n 7, .l 2 [[.n 3, .n 2]], .n 0, .n 0, .n 3]]), .i 2, .u (.l 4 [[.n 1, .n 1, .n 1, .n 1000], [.n 1, .n 1, .n 0, .n 0]]), .i 3, .i 200, .i 1, .i 500], .a [.i 0, .i 0, .nl 2, .nl 2, .nl 2, .u (.l 2 [[.n 0, .n 0], [.n 1, .n 0], [.n 2, .n 0], [.n 3, .n 0]]), .nl 5, .nl 9, .i 1, .u (.l 2 [[.l 1 [], .l 1 []], [.l 1 [], .l 1 []], [.l 1 [], .l 1 []], [.l 1 [], .l 1 []]]), .nl 16, .nl 19, .nl 2, .nl 3, .i 1, .nl 4]]
def awk20M0 (v : NbV) : Mem := []
def awk20T1 (v : NbV) : Fr := puF (awk20T0 v) [(2, .r 0 0), (3, .r 1 0), (4, .u (.i .u32 0)), (5, .i 0)]
def awk20M2 (v : NbV) : Mem := [.c [.i 4, .u (.l 7 [[.n 3, .n 2, .n 10, .l 2 [[.n 1, .n 3], [.n 2, .n 1]], .n 2, .n 3, .n 5], [.n 4, .n 1, .n 7, .l 2 [[.n 3, .n 2]], .n 0, .n 0, .n 3]]), .i 2, .u (.l 4 [[.n 1, .n 1, .n 1, .n 1000], [.n 1, .n 1, .n 0, .n 0]]), .i 3, .i 200, .i 1, .i 500],
  .c [.i 0, .i 0, .nl 2, .nl 2, .nl 2, .u (.l 2 [[.n 0, .n 0], [.n 1, .n 0], [.n 2, .n 0], [.n 3, .n 0]]), .nl 5, .nl 9, .i 1, .u (.l 2 [[.l 1 [], .l 1 []], [.l 1 [], .l 1 []], [.l 1 [], .l 1 []], [.l 1 [], .l 1 []]]), .nl 16, .nl 19, .nl 2, .nl 3, .i 1, .nl 4]]
def awk20T3 (v : NbV) : Fr := puF (awk20T1 v) [(9, .a [.i 4, .u (.l 7 [[.n 3, .n 2, .n 10, .l 2 [[.n 1, .n 3], [.n 2, .n 1]], .n 2, .n 3, .n 5], [.n 4, .n 1, .n 7, .l 2 [[.n 3, .n 2]], .n 0, .n 0, .n 3]]), .i 2, .u (.l 4 [[.n 1, .n 1, .n 1, .n 1000], [.n 1, .n 1, .n 0, .n 0]]), .i 3, .i 200, .i 1, .i 500]), (10, .a [.i 0, .i 0, .nl 2, .nl 2, .nl 2, .u (.l 2 [[.n 0, .n 0], [.n 1, .n 0], [.n 2, .n 0], [.n 3, .n 0]]), .nl 5, .nl 9, .i 1, .u (.l 2 [[.l 1 [], .l 1 []], [.l 1 [], .l 1 []], [.l 1 [], .l 1 []], [.l 1 [], .l 1 []]]), .nl 16, .nl 19, .nl 2, .nl 3, .i 1, .nl 4])]
def awk20T4 (v : NbV) : Fr := puF (awk20T3 v) [(6, .u (.s ⟨#[0, 0, 0, 0, 0, 4, 0, 0, 1, 0, 2, 0, 3, 0, 0, 0, 1, 4, 0, 0, 0, 0, 0, 0, 0, 0, 0, 0, 0, 0, 1, 1, 0]⟩)), (7, .i 0), (8, .t [.u (.s ⟨#[0, 0, 0, 0, 0, 4, 0, 0, 1, 0, 2, 0, 3, 0, 0, 0, 1, 4, 0, 0, 0, 0, 0, 0, 0, 0, 0, 0, 0, 0, 1, 1, 0]⟩), .i 0]), (11, .t [.u (.s ⟨#[0, 0, 0, 0, 0, 4, 0, 0, 1, 0, 2, 0, 3, 0, 0, 0, 1, 4, 0, 0, 0, 0, 0, 0, 0, 0, 0, 0, 0, 0, 1, 1, 0]⟩), .i 0]), (12, .u (.s ⟨#[0, 0, 0, 0, 0, 4, 0, 0, 1, 0, 2, 0, 3, 0, 0, 0, 1, 4, 0, 0, 0, 0, 0, 0, 0, 0, 0, 0, 0, 0, 1, 1, 0]⟩)), (13, .i 0)]
def awk20T5 (v : NbV) : Fr := puF (awk20T4 v) [(14, .i 0), (15, .u (.b false))]
def awk20T6 (v : NbV) : Fr := puF (awk20T5 v) [(17, .u (.s ⟨#[0, 0, 0, 0, 0, 4, 0, 0, 1, 0, 2, 0, 3, 0, 0, 0, 1, 4, 0, 0, 0, 0, 0, 0, 0, 0, 0, 0, 0, 0, 1, 1, 0]⟩))]
def awk20k21M0 (v : NbV) : Mem := []
def awk20k21T1 (v : NbV) : Fr := Fr.mk [.u (.s ⟨#[0, 0, 0, 0, 0, 4, 0, 0, 1, 0, 2, 0, 3, 0, 0, 0, 1, 4, 0, 0, 0, 0, 0, 0, 0, 0, 0, 0, 0, 0, 1, 1, 0]⟩), .z, .u (.i .u32 82236239), .u (.s ⟨#[0, 0, 0, 0, 0, 4, 0, 0, 1, 0, 2, 0, 3, 0, 0, 0, 1, 4, 0, 0, 0, 0, 0, 0, 0, 0, 0, 0, 0, 0, 1, 1, 0]⟩), .u (.i .u32 82236239)] 0 5
def awk20k21M2 (v : NbV) : Mem := [.c [.u (.i .u32 0), .u (.i .u32 498536548), .u (.i .u32 997073096), .u (.i .u32 651767980), .u (.i .u32 1994146192), .u (.i .u32 1802195444), .u (.i .u32 1303535960), .u (.i .u32 1342533948), .u (.i .u32 3988292384), .u (.i .u32 4027552580), .u (.i .u32 3604390888), .u (.i .u32 3412177804), .u (.i .u32 2607071920), .u (.i .u32 2262029012), .u (.i .u32 2685067896), .u (.i .u32 3183342108)]]
abbrev awk20k21Mm (v : NbV) : Mem := (awk20k21M0 v)
theorem awk20k21_run (v : NbV) : PRun Tryz.prog 103 (awk20k21M0 v) [.u (.s ⟨#[0, 0, 0, 0, 0, 4, 0, 0, 1, 0, 2, 0, 3, 0, 0, 0, 1, 4, 0, 0, 0, 0, 0, 0, 0, 0, 0, 0, 0, 0, 1, 1, 0]⟩)] fun x m => x = .u (.i .u32 82236239) ∧ m = (awk20k21Mm v) := Ev.runA (speNrm.or (speBd [87] bdTs)) Tryz.func103 (c := (bodyOf Tryz.f103)) (r := (.ret, (awk20k21T1 v), (awk20k21M2 v))) Ev.codeA
def awk20T7 (v : NbV) : Fr := puF (awk20T6 v) [(4, .u (.i .u32 82236239)), (18, .u (.i .u32 82236239))]
def awk20T8 (v : NbV) : Fr := puF (awk20T6 v) [(4, .u (.i .u32 82236239)), (18, .u (.i .u32 82236239))]
abbrev awk20Mm (v : NbV) : Mem := (awk20M0 v)
theorem awk20_run (v : NbV) : PRun Tryz.prog 12 (awk20M0 v) [.a [.i 4, .u (.l 7 [[.n 3, .n 2, .n 10, .l 2 [[.n 1, .n 3], [.n 2, .n 1]], .n 2, .n 3, .n 5], [.n 4, .n 1, .n 7, .l 2 [[.n 3, .n 2]], .n 0, .n 0, .n 3]]), .i 2, .u (.l 4 [[.n 1, .n 1, .n 1, .n 1000], [.n 1, .n 1, .n 0, .n 0]]), .i 3, .i 200, .i 1, .i 500], .a [.i 0, .i 0, .nl 2, .nl 2, .nl 2, .u (.l 2 [[.n 0, .n 0], [.n 1, .n 0], [.n 2, .n 0], [.n 3, .n 0]]), .nl 5, .nl 9, .i 1, .u (.l 2 [[.l 1 [], .l 1 []], [.l 1 [], .l 1 []], [.l 1 [], .l 1 []], [.l 1 [], .l 1 []]]), .nl 16, .nl 19, .nl 2, .nl 3, .i 1, .nl 4]] fun x m => x = .t [.u (.i .u32 82236239), .i 0] ∧ m = (awk20Mm v) := Ev.runA eK5 Tryz.func12 (c := (bodyOf Tryz.f12)) (r := (.ret, (awk20T8 v), (awk20M2 v))) (Ev.piecesA (k := 1) (t1 := awk20T1 v) (m1 := awk20M2 v) (Ev.seqPA (t1 := awk20T4 v) (m1 := awk20M2 v) (Ev.regA (EvO.callA (t2 := awk20T3 v) (m1 := awk20M2 v) (ix := []) (k := 2) (t1 := (awk20T3 v)) (args := [.a [.i 4, .u (.l 7 [[.n 3, .n 2, .n 10, .l 2 [[.n 1, .n 3], [.n 2, .n 1]], .n 2, .n 3, .n 5], [.n 4, .n 1, .n 7, .l 2 [[.n 3, .n 2]], .n 0, .n 0, .n 3]]), .i 2, .u (.l 4 [[.n 1, .n 1, .n 1, .n 1000], [.n 1, .n 1, .n 0, .n 0]]), .i 3, .i 200, .i 1, .i 500], .a [.i 0, .i 0, .nl 2, .nl 2, .nl 2, .u (.l 2 [[.n 0, .n 0], [.n 1, .n 0], [.n 2, .n 0], [.n 3, .n 0]]), .nl 5, .nl 9, .i 1, .u (.l 2 [[.l 1 [], .l 1 []], [.l 1 [], .l 1 []], [.l 1 [], .l 1 []], [.l 1 [], .l 1 []]]), .nl 16, .nl 19, .nl 2, .nl 3, .i 1, .nl 4]]) (a := []) (cc := []) (awk3_run v) EvO.opsA)) (Ev.piecesA (k := 1) (t1 := awk20T5 v) (m1 := awk20M2 v) (Ev.seqPA (t1 := awk20T7 v) (m1 := awk20M2 v) (Ev.regA (EvO.callA (t2 := awk20T6 v) (m1 := awk20M2 v) (ix := []) (k := 1) (t1 := (awk20T6 v)) (args := [.u (.s ⟨#[0, 0, 0, 0, 0, 4, 0, 0, 1, 0, 2, 0, 3, 0, 0, 0, 1, 4, 0, 0, 0, 0, 0, 0, 0, 0, 0, 0, 0, 0, 1, 1, 0]⟩)]) (a := []) (cc := []) (awk20k21_run v) EvO.opsA)) Ev.codeA))))
def awT18 (v : NbV) : Fr := puF (awT10 v) [(8, .r 2 0), (9, .i 0), (10, .r 3 0), (11, .u (.i .u32 3437115553)), (12, .i 0), (13, .u (.i .u32 82236239)), (14, .i 0), (29, .t [.a [.i 0, .i 0, .nl 2, .nl 2, .nl 2, .u (.l 2 [[.n 0, .n 0], [.n 1, .n 0], [.n 2, .n 0], [.n 3, .n 0]]), .nl 5, .nl 9, .i 1, .u (.l 2 [[.l 1 [], .l 1 []], [.l 1 [], .l 1 []], [.l 1 [], .l 1 []], [.l 1 [], .l 1 []]]), .nl 16, .nl 19, .nl 2, .nl 3, .i 1, .nl 4], .i 0]), (32, .t [.a [.i 0, .i 0, .nl 2, .nl 2, .nl 2, .u (.l 2 [[.n 0, .n 0], [.n 1, .n 0], [.n 2, .n 0], [.n 3, .n 0]]), .nl 5, .nl 9, .i 1, .u (.l 2 [[.l 1 [], .l 1 []], [.l 1 [], .l 1 []], [.l 1 [], .l 1 []], [.l 1 [], .l 1 []]]), .nl 16, .nl 19, .nl 2, .nl 3, .i 1, .nl 4], .i 0]), (33, .a [.i 0, .i 0, .nl 2, .nl 2, .nl 2, .u (.l 2 [[.n 0, .n 0], [.n 1, .n 0], [.n 2, .n 0], [.n 3, .n 0]]), .nl 5, .nl 9, .i 1, .u (.l 2 [[.l 1 [], .l 1 []], [.l 1 [], .l 1 []], [.l 1 [], .l 1 []], [.l 1 [], .l 1 []]]), .nl 16, .nl 19, .nl 2, .nl 3, .i 1, .nl 4]), (34, .i 0), (35, .a [.i 0, .i 0, .nl 2, .nl 2, .nl 2, .u (.l 2 [[.n 0, .n 0], [.n 1, .n 0], [.n 2, .n 0], [.n 3, .n 0]]), .nl 5, .nl 9, .i 1, .u (.l 2 [[.l 1 [], .l 1 []], [.l 1 [], .l 1 []], [.l 1 [], .l 1 []], [.l 1 [], .l 1 []]]), .nl 16, .nl 19, .nl 2, .nl 3, .i 1, .nl 4]), (36, .u (.l 2 [[.n 0, .n 0], [.n 1, .n 60], [.n 2, .n 500], [.n 3, .n 2]])), (37, .r 3 5), (38, .u (.l 5 [[.n 1, .n 0, .n 1, .n 1, .n 60], [.n 1, .n 0, .n 1, .n 2, .n 40], [.n 1, .n 0, .n 1, .n 3, .n 20], [.n 2, .n 0, .n 1, .n 1, .n 60], [.n 2, .n 0, .n 1, .n 2, .n 40], [.n 2, .n 0, .n 1, .n 3, .n 20]])), (39, .r 3 6), (40, .t [.u (.i .u32 3437115553), .i 0]), (41, .a [.i 4, .u (.l 7 [[.n 3, .n 2, .n 10, .l 2 [[.n 1, .n 3], [.n 2, .n 1]], .n 2, .n 3, .n 5], [.n 4, .n 1, .n 7, .l 2 [[.n 3, .n 2]], .n 0, .n 0, .n 3]]), .i 2, .u (.l 4 [[.n 1, .n 1, .n 1, .n 1000], [.n 1, .n 1, .n 0, .n 0]]), .i 3, .i 200, .i 1, .i 500]), (42, .a [.i 0, .i 0, .nl 2, .nl 2, .nl 2, .u (.l 2 [[.n 0, .n 0], [.n 1, .n 60], [.n 2, .n 500], [.n 3, .n 2]]), .u (.l 5 [[.n 1, .n 0, .n 1, .n 1, .n 60], [.n 1, .n 0, .n 1, .n 2, .n 40], [.n 1, .n 0, .n 1, .n 3, .n 20], [.n 2, .n 0, .n 1, .n 1, .n 60], [.n 2, .n 0, .n 1, .n 2, .n 40], [.n 2, .n 0, .n 1, .n 3, .n 20]]), .nl 9, .i 1, .u (.l 2 [[.l 1 [], .l 1 []], [.l 1 [], .l 1 []], [.l 1 [], .l 1 []], [.l 1 [], .l 1 []]]), .nl 16, .nl 19, .nl 2, .nl 3, .i 1, .nl 4]), (43, .t [.u (.i .u32 3437115553), .i 0]), (44, .u (.i .u32 3437115553)), (45, .i 0), (46, .t [.u (.i .u32 82236239), .i 0]), (47, .a [.i 4, .u (.l 7 [[.n 3, .n 2, .n 10, .l 2 [[.n 1, .n 3], [.n 2, .n 1]], .n 2, .n 3, .n 5], [.n 4, .n 1, .n 7, .l 2 [[.n 3, .n 2]], .n 0, .n 0, .n 3]]), .i 2, .u (.l 4 [[.n 1, .n 1, .n 1, .n 1000], [.n 1, .n 1, .n 0, .n 0]]), .i 3, .i 200, .i 1, .i 500]), (48, .a [.i 0, .i 0, .nl 2, .nl 2, .nl 2, .u (.l 2 [[.n 0, .n 0], [.n 1, .n 0], [.n 2, .n 0], [.n 3, .n 0]]), .nl 5, .nl 9, .i 1, .u (.l 2 [[.l 1 [], .l 1 []], [.l 1 [], .l 1 []], [.l 1 [], .l 1 []], [.l 1 [], .l 1 []]]), .nl 16, .nl 19, .nl 2, .nl 3, .i 1, .nl 4]), (49, .t [.u (.i .u32 82236239), .i 0]), (50, .u (.i .u32 82236239)), (51, .i 0)]
def awT19 (v : NbV) : Fr := puF (awT10 v) [(8, .r 2 0), (9, .i 0), (10, .r 3 0), (11, .u (.i .u32 3437115553)), (12, .i 0), (13, .u (.i .u32 82236239)), (14, .i 0), (29, .t [.a [.i 0, .i 0, .nl 2, .nl 2, .nl 2, .u (.l 2 [[.n 0, .n 0], [.n 1, .n 0], [.n 2, .n 0], [.n 3, .n 0]]), .nl 5, .nl 9, .i 1, .u (.l 2 [[.l 1 [], .l 1 []], [.l 1 [], .l 1 []], [.l 1 [], .l 1 []], [.l 1 [], .l 1 []]]), .nl 16, .nl 19, .nl 2, .nl 3, .i 1, .nl 4], .i 0]), (32, .t [.a [.i 0, .i 0, .nl 2, .nl 2, .nl 2, .u (.l 2 [[.n 0, .n 0], [.n 1, .n 0], [.n 2, .n 0], [.n 3, .n 0]]), .nl 5, .nl 9, .i 1, .u (.l 2 [[.l 1 [], .l 1 []], [.l 1 [], .l 1 []], [.l 1 [], .l 1 []], [.l 1 [], .l 1 []]]), .nl 16, .nl 19, .nl 2, .nl 3, .i 1, .nl 4], .i 0]), (33, .a [.i 0, .i 0, .nl 2, .nl 2, .nl 2, .u (.l 2 [[.n 0, .n 0], [.n 1, .n 0], [.n 2, .n 0], [.n 3, .n 0]]), .nl 5, .nl 9, .i 1, .u (.l 2 [[.l 1 [], .l 1 []], [.l 1 [], .l 1 []], [.l 1 [], .l 1 []], [.l 1 [], .l 1 []]]), .nl 16, .nl 19, .nl 2, .nl 3, .i 1, .nl 4]), (34, .i 0), (35, .a [.i 0, .i 0, .nl 2, .nl 2, .nl 2, .u (.l 2 [[.n 0, .n 0], [.n 1, .n 0], [.n 2, .n 0], [.n 3, .n 0]]), .nl 5, .nl 9, .i 1, .u (.l 2 [[.l 1 [], .l 1 []], [.l 1 [], .l 1 []], [.l 1 [], .l 1 []], [.l 1 [], .l 1 []]]), .nl 16, .nl 19, .nl 2, .nl 3, .i 1, .nl 4]), (36, .u (.l 2 [[.n 0, .n 0], [.n 1, .n 60], [.n 2, .n 500], [.n 3, .n 2]])), (37, .r 3 5), (38, .u (.l 5 [[.n 1, .n 0, .n 1, .n 1, .n 60], [.n 1, .n 0, .n 1, .n 2, .n 40], [.n 1, .n 0, .n 1, .n 3, .n 20], [.n 2, .n 0, .n 1, .n 1, .n 60], [.n 2, .n 0, .n 1, .n 2, .n 40], [.n 2, .n 0, .n 1, .n 3, .n 20]])), (39, .r 3 6), (40, .t [.u (.i .u32 3437115553), .i 0]), (41, .a [.i 4, .u (.l 7 [[.n 3, .n 2, .n 10, .l 2 [[.n 1, .n 3], [.n 2, .n 1]], .n 2, .n 3, .n 5], [.n 4, .n 1, .n 7, .l 2 [[.n 3, .n 2]], .n 0, .n 0, .n 3]]), .i 2, .u (.l 4 [[.n 1, .n 1, .n 1, .n 1000], [.n 1, .n 1, .n 0, .n 0]]), .i 3, .i 200, .i 1, .i 500]), (42, .a [.i 0, .i 0, .nl 2, .nl 2, .nl 2, .u (.l 2 [[.n 0, .n 0], [.n 1, .n 60], [.n 2, .n 500], [.n 3, .n 2]]), .u (.l 5 [[.n 1, .n 0, .n 1, .n 1, .n 60], [.n 1, .n 0, .n 1, .n 2, .n 40], [.n 1, .n 0, .n 1, .n 3, .n 20], [.n 2, .n 0, .n 1, .n 1, .n 60], [.n 2, .n 0, .n 1, .n 2, .n 40], [.n 2, .n 0, .n 1, .n 3, .n 20]]), .nl 9, .i 1, .u (.l 2 [[.l 1 [], .l 1 []], [.l 1 [], .l 1 []], [.l 1 [], .l 1 []], [.l 1 [], .l 1 []]]), .nl 16, .nl 19, .nl 2, .nl 3, .i 1, .nl 4]), (43, .t [.u (.i .u32 3437115553), .i 0]), (44, .u (.i .u32 3437115553)), (45, .i 0), (46, .t [.u (.i .u32 82236239), .i 0]), (47, .a [.i 4, .u (.l 7 [[.n 3, .n 2, .n 10, .l 2 [[.n 1, .n 3], [.n 2, .n 1]], .n 2, .n 3, .n 5], [.n 4, .n 1, .n 7, .l 2 [[.n 3, .n 2]], .n 0, .n 0, .n 3]]), .i 2, .u (.l 4 [[.n 1, .n 1, .n 1, .n 1000], [.n 1, .n 1, .n 0, .n 0]]), .i 3, .i 200, .i 1, .i 500]), (48, .a [.i 0, .i 0, .nl 2, .nl 2, .nl 2, .u (.l 2 [[.n 0, .n 0], [.n 1, .n 0], [.n 2, .n 0], [.n 3, .n 0]]), .nl 5, .nl 9, .i 1, .u (.l 2 [[.l 1 [], .l 1 []], [.l 1 [], .l 1 []], [.l 1 [], .l 1 []], [.l 1 [], .l 1 []]]), .nl 16, .nl 19, .nl 2, .nl 3, .i 1, .nl 4]), (49, .t [.u (.i .u32 82236239), .i 0]), (50, .u (.i .u32 82236239)), (51, .i 0), (52, .i 0), (53, .u (.b true)), (54, .u (.b true)), (55, .i 0), (56, .u (.b true)), (57, .u (.b true)), (58, .u (.b true)), (59, .a [.i 0, .i 0, .nl 2, .nl 2, .nl 2, .u (.l 2 [[.n 0, .n 0], [.n 1, .n 0], [.n 2, .n 0], [.n 3, .n 0]]), .nl 5, .nl 9, .i 1, .u (.l 2 [[.l 1 [], .l 1 []], [.l 1 [], .l 1 []], [.l 1 [], .l 1 []], [.l 1 [], .l 1 []]]), .nl 16, .nl 19, .nl 2, .nl 3, .i 1, .nl 4]), (60, .a [.i 0, .i 0, .nl 2, .nl 2, .nl 2, .u (.l 2 [[.n 0, .n 0], [.n 1, .n 0], [.n 2, .n 0], [.n 3, .n 0]]), .nl 5, .nl 9, .i 1, .u (.l 2 [[.l 1 [], .l 1 []], [.l 1 [], .l 1 []], [.l 1 [], .l 1 []], [.l 1 [], .l 1 []]]), .nl 16, .nl 19, .nl 2, .nl 3, .i 1, .nl 4])]
noncomputable abbrev eK6 := (speKn (speNrm.or (speBd [87] bdTs)) [20])
def awk22T0 (v : NbV) : Fr := frameF Tryz.prog Tryz.f19 [.a [.i 0, .i 0, .nl 2, .nl 2, .nl 2, .u (.l 2 [[.n 0, .n 0], [.n 1, .n 0], [.n 2, .n 0], [.n 3, .n 0]]), .nl 5, .nl 9, .i 1, .u (.l 2 [[.l 1 [], .l 1 []], [.l 1 [], .l 1 []], [.l 1 [], .l 1 []], [.l 1 [], .l 1 []]]), .nl 16, .nl 19, .nl 2, .nl 3, .i 1, .nl 4], .a [.i 0, .i 0, .nl 2, .nl 2, .nl 2, .u (.l 2 [[.n 0, .n 0], [.n 1, .n 0], [.n 2, .n 0], [.n 3, .n 0]]), .nl 5, .nl 9, .i 1, .u (.l 2 [[.l 1 [], .l 1 []], [.l 1 [], .l 1 []], [.l 1 [], .l 1 []], [.l 1 [], .l 1 []]]), .nl 16, .nl 19, .nl 2, .nl 3, .i 1, .nl 4]]
def awk22M0 (v : NbV) : Mem := []
def awk22T1 (v : NbV) : Fr := puF (awk22T0 v) [(2, .r 0 0), (3, .r 1 0), (4, .u (.b false))]
def awk22M2 (v : NbV) : Mem := [.c [.i 0, .i 0, .nl 2, .nl 2, .nl 2, .u (.l 2 [[.n 0, .n 0], [.n 1, .n 0], [.n 2, .n 0], [.n 3, .n 0]]), .nl 5, .nl 9, .i 1, .u (.l 2 [[.l 1 [], .l 1 []], [.l 1 [], .l 1 []], [.l 1 [], .l 1 []], [.l 1 [], .l 1 []]]), .nl 16, .nl 19, .nl 2, .nl 3, .i 1, .nl 4],
  .c [.i 0, .i 0, .nl 2, .nl 2, .nl 2, .u (.l 2 [[.n 0, .n 0], [.n 1, .n 0], [.n 2, .n 0], [.n 3, .n 0]]), .nl 5, .nl 9, .i 1, .u (.l 2 [[.l 1 [], .l 1 []], [.l 1 [], .l 1 []], [.l 1 [], .l 1 []], [.l 1 [], .l 1 []]]), .nl 16, .nl 19, .nl 2, .nl 3, .i 1, .nl 4]]
def awk22T3 (v : NbV) : Fr := Fr.mk [.a [.i 0, .i 0, .nl 2, .nl 2, .nl 2, .u (.l 2 [[.n 0, .n 0], [.n 1, .n 0], [.n 2, .n 0], [.n 3, .n 0]]), .nl 5, .nl 9, .i 1, .u (.l 2 [[.l 1 [], .l 1 []], [.l 1 [], .l 1 []], [.l 1 [], .l 1 []], [.l 1 [], .l 1 []]]), .nl 16, .nl 19, .nl 2, .nl 3, .i 1, .nl 4], .a [.i 0, .i 0, .nl 2, .nl 2, .nl 2, .u (.l 2 [[.n 0, .n 0], [.n 1, .n 0], [.n 2, .n 0], [.n 3, .n 0]]), .nl 5, .nl 9, .i 1, .u (.l 2 [[.l 1 [], .l 1 []], [.l 1 [], .l 1 []], [.l 1 [], .l 1 []], [.l 1 [], .l 1 []]]), .nl 16, .nl 19, .nl 2, .nl 3, .i 1, .nl 4], .r 0 0, .r 1 0, .u (.b false), .a [.i 0, .i 0, .nl 2, .nl 2, .nl 2, .u (.l 2 [[.n 0, .n 0], [.n 1, .n 0], [.n 2, .n 0], [.n 3, .n 0]]), .nl 5, .nl 9, .i 1, .u (.l 2 [[.l 1 [], .l 1 []], [.l 1 [], .l 1 []], [.l 1 [], .l 1 []], [.l 1 [], .l 1 []]]), .nl 16, .nl 19, .nl 2, .nl 3, .i 1, .nl 4], .a [.i 0, .i 0, .nl 2, .nl 2, .nl 2, .u (.l 2 [[.n 0, .n 0], [.n 1, .n 0], [.n 2, .n 0], [.n 3, .n 0]]), .nl 5, .nl 9, .i 1, .u (.l 2 [[.l 1 [], .l 1 []], [.l 1 [], .l 1 []], [.l 1 [], .l 1 []], [.l 1 [], .l 1 []]]), .nl 16, .nl 19, .nl 2, .nl 3, .i 1, .nl 4]] 2 9
def awk22k23M0 (v : NbV) : Mem := []
def awk22k23T1 (v : NbV) : Fr := Fr.mk [.a [.i 0, .i 0, .nl 2, .nl 2, .nl 2, .u (.l 2 [[.n 0, .n 0], [.n 1, .n 0], [.n 2, .n 0], [.n 3, .n 0]]), .nl 5, .nl 9, .i 1, .u (.l 2 [[.l 1 [], .l 1 []], [.l 1 [], .l 1 []], [.l 1 [], .l 1 []], [.l 1 [], .l 1 []]]), .nl 16, .nl 19, .nl 2, .nl 3, .i 1, .nl 4], .a [.i 0, .i 0, .nl 2, .nl 2, .nl 2, .u (.l 2 [[.n 0, .n 0], [.n 1, .n 0], [.n 2, .n 0], [.n 3, .n 0]]), .nl 5, .nl 9, .i 1, .u (.l 2 [[.l 1 [], .l 1 []], [.l 1 [], .l 1 []], [.l 1 [], .l 1 []], [.l 1 [], .l 1 []]]), .nl 16, .nl 19, .nl 2, .nl 3, .i 1, .nl 4], .r 0 0, .r 1 0, .u (.s ⟨#[]⟩), .f 115 [] [], .f 117 [] [], .z, .r 3 0, .r 0 0, .i 0, .r 1 0, .i 0, .u (.b true), .a [.u (.s ⟨#[110, 111, 119]⟩), .u (.b true)], .r 0 1, .i 0, .r 1 1, .i 0, .u (.b true), .a [.u (.s ⟨#[109, 105, 110, 116, 101, 100]⟩), .u (.b true)], .r 0 2, .nl 2, .r 1 2, .nl 2, .u (.b true), .a [.u (.s ⟨#[115, 101, 101, 100, 101, 100]⟩), .u (.b true)], .r 0 3, .nl 2, .r 1 3, .nl 2, .u (.b true), .a [.u (.s ⟨#[109, 97, 100, 101]⟩), .u (.b true)], .r 0 4, .nl 2, .r 1 4, .nl 2, .u (.b true), .a [.u (.s ⟨#[117, 115, 101, 100]⟩), .u (.b true)], .r 0 5, .u (.l 2 [[.n 0, .n 0], [.n 1, .n 0], [.n 2, .n 0], [.n 3, .n 0]]), .r 1 5, .u (.l 2 [[.n 0, .n 0], [.n 1, .n 0], [.n 2, .n 0], [.n 3, .n 0]]), .u (.b true), .a [.u (.s ⟨#[97, 99, 99, 111, 117, 110, 116, 115]⟩), .u (.b true)], .r 0 6, .nl 5, .r 1 6, .nl 5, .u (.b true), .a [.u (.s ⟨#[108, 111, 116, 115]⟩), .u (.b true)], .r 0 7, .nl 9, .r 1 7, .nl 9, .u (.b true), .u (.b true), .r 0 8, .i 1, .r 1 8, .i 1, .u (.b true), .u (.b true), .a [.u (.s ⟨#[100, 114, 97, 102, 116, 115]⟩), .u (.b true)], .r 0 9, .u (.l 2 [[.l 1 [], .l 1 []], [.l 1 [], .l 1 []], [.l 1 [], .l 1 []], [.l 1 [], .l 1 []]]), .r 1 9, .u (.l 2 [[.l 1 [], .l 1 []], [.l 1 [], .l 1 []], [.l 1 [], .l 1 []], [.l 1 [], .l 1 []]]), .f 115 [] [], .u (.b true), .a [.u (.s ⟨#[108, 105, 110, 101, 115]⟩), .u (.b true)], .r 0 10, .nl 16, .r 1 10, .nl 16, .u (.b true), .a [.u (.s ⟨#[106, 111, 98, 115]⟩), .u (.b true)], .r 0 11, .nl 19, .r 1 11, .nl 19, .u (.b true), .a [.u (.s ⟨#[100, 101, 97, 108, 115]⟩), .u (.b true)], .r 0 12, .nl 2, .r 1 12, .nl 2, .f 117 [] [], .u (.b true), .a [.u (.s ⟨#[103, 117, 105, 108, 100, 115]⟩), .u (.b true)], .r 0 13, .nl 3, .r 1 13, .nl 3, .u (.b true), .u (.b true), .r 0 14, .i 1, .r 1 14, .i 1, .u (.b true), .u (.b true), .a [.u (.s ⟨#[116, 105, 109, 101, 114, 115]⟩), .u (.b true)], .r 0 15, .nl 4, .r 1 15, .nl 4, .u (.b true), .a [.u (.s ⟨#[109, 97, 114, 107, 115]⟩), .u (.b true)], .w 2, .i 14, .i 14, .u (.b false), .e 2 2 13 0, .a [.u (.s ⟨#[109, 97, 114, 107, 115]⟩), .u (.b true)], .r 3 1, .u (.b true), .u (.b false), .z, .z, .i 14] 0 121
def awk22k23M2 (v : NbV) : Mem := [.c [.i 0, .i 0, .nl 2, .nl 2, .nl 2, .u (.l 2 [[.n 0, .n 0], [.n 1, .n 0], [.n 2, .n 0], [.n 3, .n 0]]), .nl 5, .nl 9, .i 1, .u (.l 2 [[.l 1 [], .l 1 []], [.l 1 [], .l 1 []], [.l 1 [], .l 1 []], [.l 1 [], .l 1 []]]), .nl 16, .nl 19, .nl 2, .nl 3, .i 1, .nl 4],
  .c [.i 0, .i 0, .nl 2, .nl 2, .nl 2, .u (.l 2 [[.n 0, .n 0], [.n 1, .n 0], [.n 2, .n 0], [.n 3, .n 0]]), .nl 5, .nl 9, .i 1, .u (.l 2 [[.l 1 [], .l 1 []], [.l 1 [], .l 1 []], [.l 1 [], .l 1 []], [.l 1 [], .l 1 []]]), .nl 16, .nl 19, .nl 2, .nl 3, .i 1, .nl 4],
  .w 192 2 [[.s ⟨#[110, 111, 119]⟩, .b true], [.s ⟨#[109, 105, 110, 116, 101, 100]⟩, .b true], [.s ⟨#[115, 101, 101, 100, 101, 100]⟩, .b true], [.s ⟨#[109, 97, 100, 101]⟩, .b true], [.s ⟨#[117, 115, 101, 100]⟩, .b true], [.s ⟨#[97, 99, 99, 111, 117, 110, 116, 115]⟩, .b true], [.s ⟨#[108, 111, 116, 115]⟩, .b true], [.s ⟨#[100, 114, 97, 102, 116, 115]⟩, .b true], [.s ⟨#[108, 105, 110, 101, 115]⟩, .b true], [.s ⟨#[106, 111, 98, 115]⟩, .b true], [.s ⟨#[100, 101, 97, 108, 115]⟩, .b true], [.s ⟨#[103, 117, 105, 108, 100, 115]⟩, .b true], [.s ⟨#[116, 105, 109, 101, 114, 115]⟩, .b true], [.s ⟨#[109, 97, 114, 107, 115]⟩, .b true]],
  .c [.u (.s ⟨#[109, 97, 114, 107, 115]⟩), .u (.b true)]]
abbrev awk22k23Mm (v : NbV) : Mem := (awk22k23M0 v)
theorem awk22k23_run (v : NbV) : PRun Tryz.prog 20 (awk22k23M0 v) [.a [.i 0, .i 0, .nl 2, .nl 2, .nl 2, .u (.l 2 [[.n 0, .n 0], [.n 1, .n 0], [.n 2, .n 0], [.n 3, .n 0]]), .nl 5, .nl 9, .i 1, .u (.l 2 [[.l 1 [], .l 1 []], [.l 1 [], .l 1 []], [.l 1 [], .l 1 []], [.l 1 [], .l 1 []]]), .nl 16, .nl 19, .nl 2, .nl 3, .i 1, .nl 4], .a [.i 0, .i 0, .nl 2, .nl 2, .nl 2, .u (.l 2 [[.n 0, .n 0], [.n 1, .n 0], [.n 2, .n 0], [.n 3, .n 0]]), .nl 5, .nl 9, .i 1, .u (.l 2 [[.l 1 [], .l 1 []], [.l 1 [], .l 1 []], [.l 1 [], .l 1 []], [.l 1 [], .l 1 []]]), .nl 16, .nl 19, .nl 2, .nl 3, .i 1, .nl 4]] fun x m => x = .u (.s ⟨#[]⟩) ∧ m = (awk22k23Mm v) := Ev.runA (speNrm.or (speBd [87] bdTs)) Tryz.func20 (c := (bodyOf Tryz.f20)) (r := (.ret, (awk22k23T1 v), (awk22k23M2 v))) Ev.codeA
def awk22T4 (v : NbV) : Fr := puF (awk22T3 v) [(4, .u (.b true)), (7, .u (.s ⟨#[]⟩)), (8, .u (.b true))]
abbrev awk22Mm (v : NbV) : Mem := (awk22M0 v)
theorem awk22_run (v : NbV) : PRun Tryz.prog 19 (awk22M0 v) [.a [.i 0, .i 0, .nl 2, .nl 2, .nl 2, .u (.l 2 [[.n 0, .n 0], [.n 1, .n 0], [.n 2, .n 0], [.n 3, .n 0]]), .nl 5, .nl 9, .i 1, .u (.l 2 [[.l 1 [], .l 1 []], [.l 1 [], .l 1 []], [.l 1 [], .l 1 []], [.l 1 [], .l 1 []]]), .nl 16, .nl 19, .nl 2, .nl 3, .i 1, .nl 4], .a [.i 0, .i 0, .nl 2, .nl 2, .nl 2, .u (.l 2 [[.n 0, .n 0], [.n 1, .n 0], [.n 2, .n 0], [.n 3, .n 0]]), .nl 5, .nl 9, .i 1, .u (.l 2 [[.l 1 [], .l 1 []], [.l 1 [], .l 1 []], [.l 1 [], .l 1 []], [.l 1 [], .l 1 []]]), .nl 16, .nl 19, .nl 2, .nl 3, .i 1, .nl 4]] fun x m => x = .u (.b true) ∧ m = (awk22Mm v) := Ev.runA eK6 Tryz.func19 (c := (bodyOf Tryz.f19)) (r := (.ret, (awk22T4 v), (awk22M2 v))) (Ev.piecesA (k := 1) (t1 := awk22T1 v) (m1 := awk22M2 v) (Ev.seqPA (t1 := awk22T4 v) (m1 := awk22M2 v) (Ev.regA (EvO.callA (t2 := awk22T3 v) (m1 := awk22M2 v) (ix := []) (k := 2) (t1 := (awk22T3 v)) (args := [.a [.i 0, .i 0, .nl 2, .nl 2, .nl 2, .u (.l 2 [[.n 0, .n 0], [.n 1, .n 0], [.n 2, .n 0], [.n 3, .n 0]]), .nl 5, .nl 9, .i 1, .u (.l 2 [[.l 1 [], .l 1 []], [.l 1 [], .l 1 []], [.l 1 [], .l 1 []], [.l 1 [], .l 1 []]]), .nl 16, .nl 19, .nl 2, .nl 3, .i 1, .nl 4], .a [.i 0, .i 0, .nl 2, .nl 2, .nl 2, .u (.l 2 [[.n 0, .n 0], [.n 1, .n 0], [.n 2, .n 0], [.n 3, .n 0]]), .nl 5, .nl 9, .i 1, .u (.l 2 [[.l 1 [], .l 1 []], [.l 1 [], .l 1 []], [.l 1 [], .l 1 []], [.l 1 [], .l 1 []]]), .nl 16, .nl 19, .nl 2, .nl 3, .i 1, .nl 4]]) (a := []) (cc := []) (awk22k23_run v) EvO.opsA)) Ev.codeA))
def awT20 (v : NbV) : Fr := puF (awT10 v) [(8, .r 2 0), (9, .i 0), (10, .r 3 0), (11, .u (.i .u32 3437115553)), (12, .i 0), (13, .u (.i .u32 82236239)), (14, .i 0), (29, .t [.a [.i 0, .i 0, .nl 2, .nl 2, .nl 2, .u (.l 2 [[.n 0, .n 0], [.n 1, .n 0], [.n 2, .n 0], [.n 3, .n 0]]), .nl 5, .nl 9, .i 1, .u (.l 2 [[.l 1 [], .l 1 []], [.l 1 [], .l 1 []], [.l 1 [], .l 1 []], [.l 1 [], .l 1 []]]), .nl 16, .nl 19, .nl 2, .nl 3, .i 1, .nl 4], .i 0]), (32, .t [.a [.i 0, .i 0, .nl 2, .nl 2, .nl 2, .u (.l 2 [[.n 0, .n 0], [.n 1, .n 0], [.n 2, .n 0], [.n 3, .n 0]]), .nl 5, .nl 9, .i 1, .u (.l 2 [[.l 1 [], .l 1 []], [.l 1 [], .l 1 []], [.l 1 [], .l 1 []], [.l 1 [], .l 1 []]]), .nl 16, .nl 19, .nl 2, .nl 3, .i 1, .nl 4], .i 0]), (33, .a [.i 0, .i 0, .nl 2, .nl 2, .nl 2, .u (.l 2 [[.n 0, .n 0], [.n 1, .n 0], [.n 2, .n 0], [.n 3, .n 0]]), .nl 5, .nl 9, .i 1, .u (.l 2 [[.l 1 [], .l 1 []], [.l 1 [], .l 1 []], [.l 1 [], .l 1 []], [.l 1 [], .l 1 []]]), .nl 16, .nl 19, .nl 2, .nl 3, .i 1, .nl 4]), (34, .i 0), (35, .a [.i 0, .i 0, .nl 2, .nl 2, .nl 2, .u (.l 2 [[.n 0, .n 0], [.n 1, .n 0], [.n 2, .n 0], [.n 3, .n 0]]), .nl 5, .nl 9, .i 1, .u (.l 2 [[.l 1 [], .l 1 []], [.l 1 [], .l 1 []], [.l 1 [], .l 1 []], [.l 1 [], .l 1 []]]), .nl 16, .nl 19, .nl 2, .nl 3, .i 1, .nl 4]), (36, .u (.l 2 [[.n 0, .n 0], [.n 1, .n 60], [.n 2, .n 500], [.n 3, .n 2]])), (37, .r 3 5), (38, .u (.l 5 [[.n 1, .n 0, .n 1, .n 1, .n 60], [.n 1, .n 0, .n 1, .n 2, .n 40], [.n 1, .n 0, .n 1, .n 3, .n 20], [.n 2, .n 0, .n 1, .n 1, .n 60], [.n 2, .n 0, .n 1, .n 2, .n 40], [.n 2, .n 0, .n 1, .n 3, .n 20]])), (39, .r 3 6), (40, .t [.u (.i .u32 3437115553), .i 0]), (41, .a [.i 4, .u (.l 7 [[.n 3, .n 2, .n 10, .l 2 [[.n 1, .n 3], [.n 2, .n 1]], .n 2, .n 3, .n 5], [.n 4, .n 1, .n 7, .l 2 [[.n 3, .n 2]], .n 0, .n 0, .n 3]]), .i 2, .u (.l 4 [[.n 1, .n 1, .n 1, .n 1000], [.n 1, .n 1, .n 0, .n 0]]), .i 3, .i 200, .i 1, .i 500]), (42, .a [.i 0, .i 0, .nl 2, .nl 2, .nl 2, .u (.l 2 [[.n 0, .n 0], [.n 1, .n 60], [.n 2, .n 500], [.n 3, .n 2]]), .u (.l 5 [[.n 1, .n 0, .n 1, .n 1, .n 60], [.n 1, .n 0, .n 1, .n 2, .n 40], [.n 1, .n 0, .n 1, .n 3, .n 20], [.n 2, .n 0, .n 1, .n 1, .n 60], [.n 2, .n 0, .n 1, .n 2, .n 40], [.n 2, .n 0, .n 1, .n 3, .n 20]]), .nl 9, .i 1, .u (.l 2 [[.l 1 [], .l 1 []], [.l 1 [], .l 1 []], [.l 1 [], .l 1 []], [.l 1 [], .l 1 []]]), .nl 16, .nl 19, .nl 2, .nl 3, .i 1, .nl 4]), (43, .t [.u (.i .u32 3437115553), .i 0]), (44, .u (.i .u32 3437115553)), (45, .i 0), (46, .t [.u (.i .u32 82236239), .i 0]), (47, .a [.i 4, .u (.l 7 [[.n 3, .n 2, .n 10, .l 2 [[.n 1, .n 3], [.n 2, .n 1]], .n 2, .n 3, .n 5], [.n 4, .n 1, .n 7, .l 2 [[.n 3, .n 2]], .n 0, .n 0, .n 3]]), .i 2, .u (.l 4 [[.n 1, .n 1, .n 1, .n 1000], [.n 1, .n 1, .n 0, .n 0]]), .i 3, .i 200, .i 1, .i 500]), (48, .a [.i 0, .i 0, .nl 2, .nl 2, .nl 2, .u (.l 2 [[.n 0, .n 0], [.n 1, .n 0], [.n 2, .n 0], [.n 3, .n 0]]), .nl 5, .nl 9, .i 1, .u (.l 2 [[.l 1 [], .l 1 []], [.l 1 [], .l 1 []], [.l 1 [], .l 1 []], [.l 1 [], .l 1 []]]), .nl 16, .nl 19, .nl 2, .nl 3, .i 1, .nl 4]), (49, .t [.u (.i .u32 82236239), .i 0]), (50, .u (.i .u32 82236239)), (51, .i 0), (52, .i 0), (53, .u (.b true)), (54, .u (.b true)), (55, .i 0), (56, .u (.b true)), (57, .u (.b true)), (58, .u (.b true)), (59, .a [.i 0, .i 0, .nl 2, .nl 2, .nl 2, .u (.l 2 [[.n 0, .n 0], [.n 1, .n 0], [.n 2, .n 0], [.n 3, .n 0]]), .nl 5, .nl 9, .i 1, .u (.l 2 [[.l 1 [], .l 1 []], [.l 1 [], .l 1 []], [.l 1 [], .l 1 []], [.l 1 [], .l 1 []]]), .nl 16, .nl 19, .nl 2, .nl 3, .i 1, .nl 4]), (60, .a [.i 0, .i 0, .nl 2, .nl 2, .nl 2, .u (.l 2 [[.n 0, .n 0], [.n 1, .n 0], [.n 2, .n 0], [.n 3, .n 0]]), .nl 5, .nl 9, .i 1, .u (.l 2 [[.l 1 [], .l 1 []], [.l 1 [], .l 1 []], [.l 1 [], .l 1 []], [.l 1 [], .l 1 []]]), .nl 16, .nl 19, .nl 2, .nl 3, .i 1, .nl 4]), (61, .u (.b true)), (62, .u (.b true)), (63, .u (.b true)), (64, .a [.i 0, .i 0, .nl 2, .nl 2, .nl 2, .u (.l 2 [[.n 0, .n 0], [.n 1, .n 0], [.n 2, .n 0], [.n 3, .n 0]]), .nl 5, .nl 9, .i 1, .u (.l 2 [[.l 1 [], .l 1 []], [.l 1 [], .l 1 []], [.l 1 [], .l 1 []], [.l 1 [], .l 1 []]]), .nl 16, .nl 19, .nl 2, .nl 3, .i 1, .nl 4]), (65, .a [.i 0, .i 0, .nl 2, .nl 2, .nl 2, .u (.l 2 [[.n 0, .n 0], [.n 1, .n 60], [.n 2, .n 500], [.n 3, .n 2]]), .u (.l 5 [[.n 1, .n 0, .n 1, .n 1, .n 60], [.n 1, .n 0, .n 1, .n 2, .n 40], [.n 1, .n 0, .n 1, .n 3, .n 20], [.n 2, .n 0, .n 1, .n 1, .n 60], [.n 2, .n 0, .n 1, .n 2, .n 40], [.n 2, .n 0, .n 1, .n 3, .n 20]]), .nl 9, .i 1, .u (.l 2 [[.l 1 [], .l 1 []], [.l 1 [], .l 1 []], [.l 1 [], .l 1 []], [.l 1 [], .l 1 []]]), .nl 16, .nl 19, .nl 2, .nl 3, .i 1, .nl 4])]
def awk24M0 (v : NbV) : Mem := []
def awk24T1 (v : NbV) : Fr := puF (awk22k23T1 v) [(1, .a [.i 0, .i 0, .nl 2, .nl 2, .nl 2, .u (.l 2 [[.n 0, .n 0], [.n 1, .n 60], [.n 2, .n 500], [.n 3, .n 2]]), .u (.l 5 [[.n 1, .n 0, .n 1, .n 1, .n 60], [.n 1, .n 0, .n 1, .n 2, .n 40], [.n 1, .n 0, .n 1, .n 3, .n 20], [.n 2, .n 0, .n 1, .n 1, .n 60], [.n 2, .n 0, .n 1, .n 2, .n 40], [.n 2, .n 0, .n 1, .n 3, .n 20]]), .nl 9, .i 1, .u (.l 2 [[.l 1 [], .l 1 []], [.l 1 [], .l 1 []], [.l 1 [], .l 1 []], [.l 1 [], .l 1 []]]), .nl 16, .nl 19, .nl 2, .nl 3, .i 1, .nl 4]), (4, .u (.s ⟨#[97, 99, 99, 111, 117, 110, 116, 115]⟩)), (8, .r 4 0), (42, .u (.l 2 [[.n 0, .n 0], [.n 1, .n 60], [.n 2, .n 500], [.n 3, .n 2]])), (43, .u (.b false)), (44, .a [.u (.s ⟨#[97, 99, 99, 111, 117, 110, 116, 115]⟩), .u (.b false)]), (48, .u (.l 5 [[.n 1, .n 0, .n 1, .n 1, .n 60], [.n 1, .n 0, .n 1, .n 2, .n 40], [.n 1, .n 0, .n 1, .n 3, .n 20], [.n 2, .n 0, .n 1, .n 1, .n 60], [.n 2, .n 0, .n 1, .n 2, .n 40], [.n 2, .n 0, .n 1, .n 3, .n 20]])), (49, .u (.b false)), (50, .a [.u (.s ⟨#[108, 111, 116, 115]⟩), .u (.b false)]), (111, .i 5), (112, .u (.b true)), (113, .e 2 2 5 0), (114, .a [.u (.s ⟨#[97, 99, 99, 111, 117, 110, 116, 115]⟩), .u (.b false)]), (115, .r 4 1), (116, .u (.b false)), (117, .u (.b true)), (118, .r 4 0), (119, .u (.s ⟨#[97, 99, 99, 111, 117, 110, 116, 115]⟩)), (120, .i 5)]
def awk24M2 (v : NbV) : Mem := [.c [.i 0, .i 0, .nl 2, .nl 2, .nl 2, .u (.l 2 [[.n 0, .n 0], [.n 1, .n 0], [.n 2, .n 0], [.n 3, .n 0]]), .nl 5, .nl 9, .i 1, .u (.l 2 [[.l 1 [], .l 1 []], [.l 1 [], .l 1 []], [.l 1 [], .l 1 []], [.l 1 [], .l 1 []]]), .nl 16, .nl 19, .nl 2, .nl 3, .i 1, .nl 4],
  .c [.i 0, .i 0, .nl 2, .nl 2, .nl 2, .u (.l 2 [[.n 0, .n 0], [.n 1, .n 60], [.n 2, .n 500], [.n 3, .n 2]]), .u (.l 5 [[.n 1, .n 0, .n 1, .n 1, .n 60], [.n 1, .n 0, .n 1, .n 2, .n 40], [.n 1, .n 0, .n 1, .n 3, .n 20], [.n 2, .n 0, .n 1, .n 1, .n 60], [.n 2, .n 0, .n 1, .n 2, .n 40], [.n 2, .n 0, .n 1, .n 3, .n 20]]), .nl 9, .i 1, .u (.l 2 [[.l 1 [], .l 1 []], [.l 1 [], .l 1 []], [.l 1 [], .l 1 []], [.l 1 [], .l 1 []]]), .nl 16, .nl 19, .nl 2, .nl 3, .i 1, .nl 4],
  .w 192 2 [[.s ⟨#[110, 111, 119]⟩, .b true], [.s ⟨#[109, 105, 110, 116, 101, 100]⟩, .b true], [.s ⟨#[115, 101, 101, 100, 101, 100]⟩, .b true], [.s ⟨#[109, 97, 100, 101]⟩, .b true], [.s ⟨#[117, 115, 101, 100]⟩, .b true], [.s ⟨#[97, 99, 99, 111, 117, 110, 116, 115]⟩, .b false], [.s ⟨#[108, 111, 116, 115]⟩, .b false], [.s ⟨#[100, 114, 97, 102, 116, 115]⟩, .b true], [.s ⟨#[108, 105, 110, 101, 115]⟩, .b true], [.s ⟨#[106, 111, 98, 115]⟩, .b true], [.s ⟨#[100, 101, 97, 108, 115]⟩, .b true], [.s ⟨#[103, 117, 105, 108, 100, 115]⟩, .b true], [.s ⟨#[116, 105, 109, 101, 114, 115]⟩, .b true], [.s ⟨#[109, 97, 114, 107, 115]⟩, .b true]],
  .c [.u (.s ⟨#[117, 115, 101, 100]⟩), .u (.b true)],
  .c [.u (.s ⟨#[97, 99, 99, 111, 117, 110, 116, 115]⟩), .u (.b false)]]
abbrev awk24Mm (v : NbV) : Mem := (awk24M0 v)
theorem awk24_run (v : NbV) : PRun Tryz.prog 20 (awk24M0 v) [.a [.i 0, .i 0, .nl 2, .nl 2, .nl 2, .u (.l 2 [[.n 0, .n 0], [.n 1, .n 0], [.n 2, .n 0], [.n 3, .n 0]]), .nl 5, .nl 9, .i 1, .u (.l 2 [[.l 1 [], .l 1 []], [.l 1 [], .l 1 []], [.l 1 [], .l 1 []], [.l 1 [], .l 1 []]]), .nl 16, .nl 19, .nl 2, .nl 3, .i 1, .nl 4], .a [.i 0, .i 0, .nl 2, .nl 2, .nl 2, .u (.l 2 [[.n 0, .n 0], [.n 1, .n 60], [.n 2, .n 500], [.n 3, .n 2]]), .u (.l 5 [[.n 1, .n 0, .n 1, .n 1, .n 60], [.n 1, .n 0, .n 1, .n 2, .n 40], [.n 1, .n 0, .n 1, .n 3, .n 20], [.n 2, .n 0, .n 1, .n 1, .n 60], [.n 2, .n 0, .n 1, .n 2, .n 40], [.n 2, .n 0, .n 1, .n 3, .n 20]]), .nl 9, .i 1, .u (.l 2 [[.l 1 [], .l 1 []], [.l 1 [], .l 1 []], [.l 1 [], .l 1 []], [.l 1 [], .l 1 []]]), .nl 16, .nl 19, .nl 2, .nl 3, .i 1, .nl 4]] fun x m => x = .u (.s ⟨#[97, 99, 99, 111, 117, 110, 116, 115]⟩) ∧ m = (awk24Mm v) := Ev.runA (speNrm.or (speBd [87] bdTs)) Tryz.func20 (c := (bodyOf Tryz.f20)) (r := (.ret, (awk24T1 v), (awk24M2 v))) Ev.codeA
def awT21 (v : NbV) : Fr := Fr.mk [.u (.b false), .r 0 0, .u (.l 2 [[.n 0, .n 0], [.n 1, .n 60], [.n 2, .n 500], [.n 3, .n 2]]), .u (.l 5 [[.n 1, .n 0, .n 1, .n 1, .n 60], [.n 1, .n 0, .n 1, .n 2, .n 40], [.n 1, .n 0, .n 1, .n 3, .n 20], [.n 2, .n 0, .n 1, .n 1, .n 60], [.n 2, .n 0, .n 1, .n 2, .n 40], [.n 2, .n 0, .n 1, .n 3, .n 20]]), .u (.l 9 [[.n 0, .n 1, .n 0, .n 1, .n 1, .n 0, .n 0, .n (-1), .n 0], [.n 0, .n 2, .n 0, .n 1, .n 2, .n 0, .n 0, .n (-1), .n 0], [.n 0, .n 1, .n 0, .n 1, .n 2, .n 3, .n 0, .n 4, .n 0], [.n 0, .n 2, .n 0, .n 1, .n 1, .n 0, .n 8, .n (-1), .n 0], [.n 0, .n 1, .n 0, .n 2, .n 1, .n 0, .n 0, .n (-1), .n 0]]), .r 1 0, .u (.s ⟨#[0, 0, 0, 0, 0, 4, 0, 0, 1, 0, 2, 0, 3, 0, 0, 0, 1, 4, 0, 0, 0, 0, 0, 0, 0, 0, 0, 0, 0, 0, 1, 1, 0]⟩), .i 0, .r 2 0, .i 0, .r 3 0, .u (.i .u32 3437115553), .i 0, .u (.i .u32 82236239), .i 0, .t [.a [.i 4, .u (.l 7 [[.n 3, .n 2, .n 10, .l 2 [[.n 1, .n 3], [.n 2, .n 1]], .n 2, .n 3, .n 5], [.n 4, .n 1, .n 7, .l 2 [[.n 3, .n 2]], .n 0, .n 0, .n 3]]), .i 2, .u (.l 4 [[.n 1, .n 1, .n 1, .n 1000], [.n 1, .n 1, .n 0, .n 0]]), .i 3, .i 200, .i 1, .i 500], .u (.l 2 [[.n 0, .n 0], [.n 1, .n 60], [.n 2, .n 500], [.n 3, .n 2]]), .u (.l 5 [[.n 1, .n 0, .n 1, .n 1, .n 60], [.n 1, .n 0, .n 1, .n 2, .n 40], [.n 1, .n 0, .n 1, .n 3, .n 20], [.n 2, .n 0, .n 1, .n 1, .n 60], [.n 2, .n 0, .n 1, .n 2, .n 40], [.n 2, .n 0, .n 1, .n 3, .n 20]]), .u (.l 9 [[.n 0, .n 1, .n 0, .n 1, .n 1, .n 0, .n 0, .n (-1), .n 0], [.n 0, .n 2, .n 0, .n 1, .n 2, .n 0, .n 0, .n (-1), .n 0], [.n 0, .n 1, .n 0, .n 1, .n 2, .n 3, .n 0, .n 4, .n 0], [.n 0, .n 2, .n 0, .n 1, .n 1, .n 0, .n 8, .n (-1), .n 0], [.n 0, .n 1, .n 0, .n 2, .n 1, .n 0, .n 0, .n (-1), .n 0]])], .t [.a [.i 4, .u (.l 7 [[.n 3, .n 2, .n 10, .l 2 [[.n 1, .n 3], [.n 2, .n 1]], .n 2, .n 3, .n 5], [.n 4, .n 1, .n 7, .l 2 [[.n 3, .n 2]], .n 0, .n 0, .n 3]]), .i 2, .u (.l 4 [[.n 1, .n 1, .n 1, .n 1000], [.n 1, .n 1, .n 0, .n 0]]), .i 3, .i 200, .i 1, .i 500], .u (.l 2 [[.n 0, .n 0], [.n 1, .n 60], [.n 2, .n 500], [.n 3, .n 2]]), .u (.l 5 [[.n 1, .n 0, .n 1, .n 1, .n 60], [.n 1, .n 0, .n 1, .n 2, .n 40], [.n 1, .n 0, .n 1, .n 3, .n 20], [.n 2, .n 0, .n 1, .n 1, .n 60], [.n 2, .n 0, .n 1, .n 2, .n 40], [.n 2, .n 0, .n 1, .n 3, .n 20]]), .u (.l 9 [[.n 0, .n 1, .n 0, .n 1, .n 1, .n 0, .n 0, .n (-1), .n 0], [.n 0, .n 2, .n 0, .n 1, .n 2, .n 0, .n 0, .n (-1), .n 0], [.n 0, .n 1, .n 0, .n 1, .n 2, .n 3, .n 0, .n 4, .n 0], [.n 0, .n 2, .n 0, .n 1, .n 1, .n 0, .n 8, .n (-1), .n 0], [.n 0, .n 1, .n 0, .n 2, .n 1, .n 0, .n 0, .n (-1), .n 0]])], .a [.i 4, .u (.l 7 [[.n 3, .n 2, .n 10, .l 2 [[.n 1, .n 3], [.n 2, .n 1]], .n 2, .n 3, .n 5], [.n 4, .n 1, .n 7, .l 2 [[.n 3, .n 2]], .n 0, .n 0, .n 3]]), .i 2, .u (.l 4 [[.n 1, .n 1, .n 1, .n 1000], [.n 1, .n 1, .n 0, .n 0]]), .i 3, .i 200, .i 1, .i 500], .u (.l 2 [[.n 0, .n 0], [.n 1, .n 60], [.n 2, .n 500], [.n 3, .n 2]]), .u (.l 5 [[.n 1, .n 0, .n 1, .n 1, .n 60], [.n 1, .n 0, .n 1, .n 2, .n 40], [.n 1, .n 0, .n 1, .n 3, .n 20], [.n 2, .n 0, .n 1, .n 1, .n 60], [.n 2, .n 0, .n 1, .n 2, .n 40], [.n 2, .n 0, .n 1, .n 3, .n 20]]), .u (.l 9 [[.n 0, .n 1, .n 0, .n 1, .n 1, .n 0, .n 0, .n (-1), .n 0], [.n 0, .n 2, .n 0, .n 1, .n 2, .n 0, .n 0, .n (-1), .n 0], [.n 0, .n 1, .n 0, .n 1, .n 2, .n 3, .n 0, .n 4, .n 0], [.n 0, .n 2, .n 0, .n 1, .n 1, .n 0, .n 8, .n (-1), .n 0], [.n 0, .n 1, .n 0, .n 2, .n 1, .n 0, .n 0, .n (-1), .n 0]]), .a [.i 4, .u (.l 7 [[.n 3, .n 2, .n 10, .l 2 [[.n 1, .n 3], [.n 2, .n 1]], .n 2, .n 3, .n 5], [.n 4, .n 1, .n 7, .l 2 [[.n 3, .n 2]], .n 0, .n 0, .n 3]]), .i 2, .u (.l 4 [[.n 1, .n 1, .n 1, .n 1000], [.n 1, .n 1, .n 0, .n 0]]), .i 3, .i 200, .i 1, .i 500], .a [.i 0, .i 0, .nl 2, .nl 2, .nl 2, .u (.l 2 [[.n 0, .n 0], [.n 1, .n 0], [.n 2, .n 0], [.n 3, .n 0]]), .nl 5, .nl 9, .i 1, .u (.l 2 [[.l 1 [], .l 1 []], [.l 1 [], .l 1 []], [.l 1 [], .l 1 []], [.l 1 [], .l 1 []]]), .nl 16, .nl 19, .nl 2, .nl 3, .i 1, .nl 4], .t [.u (.s ⟨#[0, 0, 0, 0, 0, 4, 0, 0, 1, 0, 2, 0, 3, 0, 0, 0, 1, 4, 0, 0, 0, 0, 0, 0, 0, 0, 0, 0, 0, 0, 1, 1, 0]⟩), .i 0], .a [.i 4, .u (.l 7 [[.n 3, .n 2, .n 10, .l 2 [[.n 1, .n 3], [.n 2, .n 1]], .n 2, .n 3, .n 5], [.n 4, .n 1, .n 7, .l 2 [[.n 3, .n 2]], .n 0, .n 0, .n 3]]), .i 2, .u (.l 4 [[.n 1, .n 1, .n 1, .n 1000], [.n 1, .n 1, .n 0, .n 0]]), .i 3, .i 200, .i 1, .i 500], .a [.i 0, .i 0, .nl 2, .nl 2, .nl 2, .u (.l 2 [[.n 0, .n 0], [.n 1, .n 0], [.n 2, .n 0], [.n 3, .n 0]]), .nl 5, .nl 9, .i 1, .u (.l 2 [[.l 1 [], .l 1 []], [.l 1 [], .l 1 []], [.l 1 [], .l 1 []], [.l 1 [], .l 1 []]]), .nl 16, .nl 19, .nl 2, .nl 3, .i 1, .nl 4], .t [.u (.s ⟨#[0, 0, 0, 0, 0, 4, 0, 0, 1, 0, 2, 0, 3, 0, 0, 0, 1, 4, 0, 0, 0, 0, 0, 0, 0, 0, 0, 0, 0, 0, 1, 1, 0]⟩), .i 0], .u (.s ⟨#[0, 0, 0, 0, 0, 4, 0, 0, 1, 0, 2, 0, 3, 0, 0, 0, 1, 4, 0, 0, 0, 0, 0, 0, 0, 0, 0, 0, 0, 0, 1, 1, 0]⟩), .i 0, .t [.a [.i 0, .i 0, .nl 2, .nl 2, .nl 2, .u (.l 2 [[.n 0, .n 0], [.n 1, .n 0], [.n 2, .n 0], [.n 3, .n 0]]), .nl 5, .nl 9, .i 1, .u (.l 2 [[.l 1 [], .l 1 []], [.l 1 [], .l 1 []], [.l 1 [], .l 1 []], [.l 1 [], .l 1 []]]), .nl 16, .nl 19, .nl 2, .nl 3, .i 1, .nl 4], .i 0], .a [.i 4, .u (.l 7 [[.n 3, .n 2, .n 10, .l 2 [[.n 1, .n 3], [.n 2, .n 1]], .n 2, .n 3, .n 5], [.n 4, .n 1, .n 7, .l 2 [[.n 3, .n 2]], .n 0, .n 0, .n 3]]), .i 2, .u (.l 4 [[.n 1, .n 1, .n 1, .n 1000], [.n 1, .n 1, .n 0, .n 0]]), .i 3, .i 200, .i 1, .i 500], .u (.s ⟨#[0, 0, 0, 0, 0, 4, 0, 0, 1, 0, 2, 0, 3, 0, 0, 0, 1, 4, 0, 0, 0, 0, 0, 0, 0, 0, 0, 0, 0, 0, 1, 1, 0]⟩), .t [.a [.i 0, .i 0, .nl 2, .nl 2, .nl 2, .u (.l 2 [[.n 0, .n 0], [.n 1, .n 0], [.n 2, .n 0], [.n 3, .n 0]]), .nl 5, .nl 9, .i 1, .u (.l 2 [[.l 1 [], .l 1 []], [.l 1 [], .l 1 []], [.l 1 [], .l 1 []], [.l 1 [], .l 1 []]]), .nl 16, .nl 19, .nl 2, .nl 3, .i 1, .nl 4], .i 0], .a [.i 0, .i 0, .nl 2, .nl 2, .nl 2, .u (.l 2 [[.n 0, .n 0], [.n 1, .n 0], [.n 2, .n 0], [.n 3, .n 0]]), .nl 5, .nl 9, .i 1, .u (.l 2 [[.l 1 [], .l 1 []], [.l 1 [], .l 1 []], [.l 1 [], .l 1 []], [.l 1 [], .l 1 []]]), .nl 16, .nl 19, .nl 2, .nl 3, .i 1, .nl 4], .i 0, .a [.i 0, .i 0, .nl 2, .nl 2, .nl 2, .u (.l 2 [[.n 0, .n 0], [.n 1, .n 0], [.n 2, .n 0], [.n 3, .n 0]]), .nl 5, .nl 9, .i 1, .u (.l 2 [[.l 1 [], .l 1 []], [.l 1 [], .l 1 []], [.l 1 [], .l 1 []], [.l 1 [], .l 1 []]]), .nl 16, .nl 19, .nl 2, .nl 3, .i 1, .nl 4], .u (.l 2 [[.n 0, .n 0], [.n 1, .n 60], [.n 2, .n 500], [.n 3, .n 2]]), .r 3 5, .u (.l 5 [[.n 1, .n 0, .n 1, .n 1, .n 60], [.n 1, .n 0, .n 1, .n 2, .n 40], [.n 1, .n 0, .n 1, .n 3, .n 20], [.n 2, .n 0, .n 1, .n 1, .n 60], [.n 2, .n 0, .n 1, .n 2, .n 40], [.n 2, .n 0, .n 1, .n 3, .n 20]]), .r 3 6, .t [.u (.i .u32 3437115553), .i 0], .a [.i 4, .u (.l 7 [[.n 3, .n 2, .n 10, .l 2 [[.n 1, .n 3], [.n 2, .n 1]], .n 2, .n 3, .n 5], [.n 4, .n 1, .n 7, .l 2 [[.n 3, .n 2]], .n 0, .n 0, .n 3]]), .i 2, .u (.l 4 [[.n 1, .n 1, .n 1, .n 1000], [.n 1, .n 1, .n 0, .n 0]]), .i 3, .i 200, .i 1, .i 500], .a [.i 0, .i 0, .nl 2, .nl 2, .nl 2, .u (.l 2 [[.n 0, .n 0], [.n 1, .n 60], [.n 2, .n 500], [.n 3, .n 2]]), .u (.l 5 [[.n 1, .n 0, .n 1, .n 1, .n 60], [.n 1, .n 0, .n 1, .n 2, .n 40], [.n 1, .n 0, .n 1, .n 3, .n 20], [.n 2, .n 0, .n 1, .n 1, .n 60], [.n 2, .n 0, .n 1, .n 2, .n 40], [.n 2, .n 0, .n 1, .n 3, .n 20]]), .nl 9, .i 1, .u (.l 2 [[.l 1 [], .l 1 []], [.l 1 [], .l 1 []], [.l 1 [], .l 1 []], [.l 1 [], .l 1 []]]), .nl 16, .nl 19, .nl 2, .nl 3, .i 1, .nl 4], .t [.u (.i .u32 3437115553), .i 0], .u (.i .u32 3437115553), .i 0, .t [.u (.i .u32 82236239), .i 0], .a [.i 4, .u (.l 7 [[.n 3, .n 2, .n 10, .l 2 [[.n 1, .n 3], [.n 2, .n 1]], .n 2, .n 3, .n 5], [.n 4, .n 1, .n 7, .l 2 [[.n 3, .n 2]], .n 0, .n 0, .n 3]]), .i 2, .u (.l 4 [[.n 1, .n 1, .n 1, .n 1000], [.n 1, .n 1, .n 0, .n 0]]), .i 3, .i 200, .i 1, .i 500], .a [.i 0, .i 0, .nl 2, .nl 2, .nl 2, .u (.l 2 [[.n 0, .n 0], [.n 1, .n 0], [.n 2, .n 0], [.n 3, .n 0]]), .nl 5, .nl 9, .i 1, .u (.l 2 [[.l 1 [], .l 1 []], [.l 1 [], .l 1 []], [.l 1 [], .l 1 []], [.l 1 [], .l 1 []]]), .nl 16, .nl 19, .nl 2, .nl 3, .i 1, .nl 4], .t [.u (.i .u32 82236239), .i 0], .u (.i .u32 82236239), .i 0, .i 0, .u (.b true), .u (.b true), .i 0, .u (.b true), .u (.b true), .u (.b true), .a [.i 0, .i 0, .nl 2, .nl 2, .nl 2, .u (.l 2 [[.n 0, .n 0], [.n 1, .n 0], [.n 2, .n 0], [.n 3, .n 0]]), .nl 5, .nl 9, .i 1, .u (.l 2 [[.l 1 [], .l 1 []], [.l 1 [], .l 1 []], [.l 1 [], .l 1 []], [.l 1 [], .l 1 []]]), .nl 16, .nl 19, .nl 2, .nl 3, .i 1, .nl 4], .a [.i 0, .i 0, .nl 2, .nl 2, .nl 2, .u (.l 2 [[.n 0, .n 0], [.n 1, .n 0], [.n 2, .n 0], [.n 3, .n 0]]), .nl 5, .nl 9, .i 1, .u (.l 2 [[.l 1 [], .l 1 []], [.l 1 [], .l 1 []], [.l 1 [], .l 1 []], [.l 1 [], .l 1 []]]), .nl 16, .nl 19, .nl 2, .nl 3, .i 1, .nl 4], .u (.b true), .u (.b true), .u (.b true), .a [.i 0, .i 0, .nl 2, .nl 2, .nl 2, .u (.l 2 [[.n 0, .n 0], [.n 1, .n 0], [.n 2, .n 0], [.n 3, .n 0]]), .nl 5, .nl 9, .i 1, .u (.l 2 [[.l 1 [], .l 1 []], [.l 1 [], .l 1 []], [.l 1 [], .l 1 []], [.l 1 [], .l 1 []]]), .nl 16, .nl 19, .nl 2, .nl 3, .i 1, .nl 4], .a [.i 0, .i 0, .nl 2, .nl 2, .nl 2, .u (.l 2 [[.n 0, .n 0], [.n 1, .n 60], [.n 2, .n 500], [.n 3, .n 2]]), .u (.l 5 [[.n 1, .n 0, .n 1, .n 1, .n 60], [.n 1, .n 0, .n 1, .n 2, .n 40], [.n 1, .n 0, .n 1, .n 3, .n 20], [.n 2, .n 0, .n 1, .n 1, .n 60], [.n 2, .n 0, .n 1, .n 2, .n 40], [.n 2, .n 0, .n 1, .n 3, .n 20]]), .nl 9, .i 1, .u (.l 2 [[.l 1 [], .l 1 []], [.l 1 [], .l 1 []], [.l 1 [], .l 1 []], [.l 1 [], .l 1 []]]), .nl 16, .nl 19, .nl 2, .nl 3, .i 1, .nl 4], .u (.s ⟨#[97, 99, 99, 111, 117, 110, 116, 115]⟩), .u (.b true), .u (.b true), .u (.b true), .a [.i 0, .i 0, .nl 2, .nl 2, .nl 2, .u (.l 2 [[.n 0, .n 0], [.n 1, .n 0], [.n 2, .n 0], [.n 3, .n 0]]), .nl 5, .nl 9, .i 1, .u (.l 2 [[.l 1 [], .l 1 []], [.l 1 [], .l 1 []], [.l 1 [], .l 1 []], [.l 1 [], .l 1 []]]), .nl 16, .nl 19, .nl 2, .nl 3, .i 1, .nl 4], .a [.i 0, .i 0, .nl 2, .nl 2, .nl 2, .u (.l 2 [[.n 0, .n 0], [.n 1, .n 60], [.n 2, .n 500], [.n 3, .n 2]]), .u (.l 5 [[.n 1, .n 0, .n 1, .n 1, .n 60], [.n 1, .n 0, .n 1, .n 2, .n 40], [.n 1, .n 0, .n 1, .n 3, .n 20], [.n 2, .n 0, .n 1, .n 1, .n 60], [.n 2, .n 0, .n 1, .n 2, .n 40], [.n 2, .n 0, .n 1, .n 3, .n 20]]), .nl 9, .i 1, .u (.l 2 [[.l 1 [], .l 1 []], [.l 1 [], .l 1 []], [.l 1 [], .l 1 []], [.l 1 [], .l 1 []]]), .nl 16, .nl 19, .nl 2, .nl 3, .i 1, .nl 4]] 22 94
def awk25T0 (v : NbV) : Fr := frameF Tryz.prog Tryz.f19 [.a [.i 0, .i 0, .nl 2, .nl 2, .nl 2, .u (.l 2 [[.n 0, .n 0], [.n 1, .n 0], [.n 2, .n 0], [.n 3, .n 0]]), .nl 5, .nl 9, .i 1, .u (.l 2 [[.l 1 [], .l 1 []], [.l 1 [], .l 1 []], [.l 1 [], .l 1 []], [.l 1 [], .l 1 []]]), .nl 16, .nl 19, .nl 2, .nl 3, .i 1, .nl 4], .a [.i 0, .i 0, .nl 2, .nl 2, .nl 2, .u (.l 2 [[.n 0, .n 0], [.n 1, .n 60], [.n 2, .n 500], [.n 3, .n 2]]), .u (.l 5 [[.n 1, .n 0, .n 1, .n 1, .n 60], [.n 1, .n 0, .n 1, .n 2, .n 40], [.n 1, .n 0, .n 1, .n 3, .n 20], [.n 2, .n 0, .n 1, .n 1, .n 60], [.n 2, .n 0, .n 1, .n 2, .n 40], [.n 2, .n 0, .n 1, .n 3, .n 20]]), .nl 9, .i 1, .u (.l 2 [[.l 1 [], .l 1 []], [.l 1 [], .l 1 []], [.l 1 [], .l 1 []], [.l 1 [], .l 1 []]]), .nl 16, .nl 19, .nl 2, .nl 3, .i 1, .nl 4]]
def awk25M0 (v : NbV) : Mem := []
def awk25T1 (v : NbV) : Fr := puF (awk25T0 v) [(2, .r 0 0), (3, .r 1 0), (4, .u (.b false))]
def awk25M2 (v : NbV) : Mem := [.c [.i 0, .i 0, .nl 2, .nl 2, .nl 2, .u (.l 2 [[.n 0, .n 0], [.n 1, .n 0], [.n 2, .n 0], [.n 3, .n 0]]), .nl 5, .nl 9, .i 1, .u (.l 2 [[.l 1 [], .l 1 []], [.l 1 [], .l 1 []], [.l 1 [], .l 1 []], [.l 1 [], .l 1 []]]), .nl 16, .nl 19, .nl 2, .nl 3, .i 1, .nl 4],
  .c [.i 0, .i 0, .nl 2, .nl 2, .nl 2, .u (.l 2 [[.n 0, .n 0], [.n 1, .n 60], [.n 2, .n 500], [.n 3, .n 2]]), .u (.l 5 [[.n 1, .n 0, .n 1, .n 1, .n 60], [.n 1, .n 0, .n 1, .n 2, .n 40], [.n 1, .n 0, .n 1, .n 3, .n 20], [.n 2, .n 0, .n 1, .n 1, .n 60], [.n 2, .n 0, .n 1, .n 2, .n 40], [.n 2, .n 0, .n 1, .n 3, .n 20]]), .nl 9, .i 1, .u (.l 2 [[.l 1 [], .l 1 []], [.l 1 [], .l 1 []], [.l 1 [], .l 1 []], [.l 1 [], .l 1 []]]), .nl 16, .nl 19, .nl 2, .nl 3, .i 1, .nl 4]]
def awk25T3 (v : NbV) : Fr := Fr.mk [.a [.i 0, .i 0, .nl 2, .nl 2, .nl 2, .u (.l 2 [[.n 0, .n 0], [.n 1, .n 0], [.n 2, .n 0], [.n 3, .n 0]]), .nl 5, .nl 9, .i 1, .u (.l 2 [[.l 1 [], .l 1 []], [.l 1 [], .l 1 []], [.l 1 [], .l 1 []], [.l 1 [], .l 1 []]]), .nl 16, .nl 19, .nl 2, .nl 3, .i 1, .nl 4], .a [.i 0, .i 0, .nl 2, .nl 2, .nl 2, .u (.l 2 [[.n 0, .n 0], [.n 1, .n 60], [.n 2, .n 500], [.n 3, .n 2]]), .u (.l 5 [[.n 1, .n 0, .n 1, .n 1, .n 60], [.n 1, .n 0, .n 1, .n 2, .n 40], [.n 1, .n 0, .n 1, .n 3, .n 20], [.n 2, .n 0, .n 1, .n 1, .n 60], [.n 2, .n 0, .n 1, .n 2, .n 40], [.n 2, .n 0, .n 1, .n 3, .n 20]]), .nl 9, .i 1, .u (.l 2 [[.l 1 [], .l 1 []], [.l 1 [], .l 1 []], [.l 1 [], .l 1 []], [.l 1 [], .l 1 []]]), .nl 16, .nl 19, .nl 2, .nl 3, .i 1, .nl 4], .r 0 0, .r 1 0, .u (.b false), .a [.i 0, .i 0, .nl 2, .nl 2, .nl 2, .u (.l 2 [[.n 0, .n 0], [.n 1, .n 0], [.n 2, .n 0], [.n 3, .n 0]]), .nl 5, .nl 9, .i 1, .u (.l 2 [[.l 1 [], .l 1 []], [.l 1 [], .l 1 []], [.l 1 [], .l 1 []], [.l 1 [], .l 1 []]]), .nl 16, .nl 19, .nl 2, .nl 3, .i 1, .nl 4], .a [.i 0, .i 0, .nl 2, .nl 2, .nl 2, .u (.l 2 [[.n 0, .n 0], [.n 1, .n 60], [.n 2, .n 500], [.n 3, .n 2]]), .u (.l 5 [[.n 1, .n 0, .n 1, .n 1, .n 60], [.n 1, .n 0, .n 1, .n 2, .n 40], [.n 1, .n 0, .n 1, .n 3, .n 20], [.n 2, .n 0, .n 1, .n 1, .n 60], [.n 2, .n 0, .n 1, .n 2, .n 40], [.n 2, .n 0, .n 1, .n 3, .n 20]]), .nl 9, .i 1, .u (.l 2 [[.l 1 [], .l 1 []], [.l 1 [], .l 1 []], [.l 1 [], .l 1 []], [.l 1 [], .l 1 []]]), .nl 16, .nl 19, .nl 2, .nl 3, .i 1, .nl 4]] 2 9
def awk25T4 (v : NbV) : Fr := puF (awk25T3 v) [(7, .u (.s ⟨#[97, 99, 99, 111, 117, 110, 116, 115]⟩)), (8, .u (.b false))]
abbrev awk25Mm (v : NbV) : Mem := (awk25M0 v)
theorem awk25_run (v : NbV) : PRun Tryz.prog 19 (awk25M0 v) [.a [.i 0, .i 0, .nl 2, .nl 2, .nl 2, .u (.l 2 [[.n 0, .n 0], [.n 1, .n 0], [.n 2, .n 0], [.n 3, .n 0]]), .nl 5, .nl 9, .i 1, .u (.l 2 [[.l 1 [], .l 1 []], [.l 1 [], .l 1 []], [.l 1 [], .l 1 []], [.l 1 [], .l 1 []]]), .nl 16, .nl 19, .nl 2, .nl 3, .i 1, .nl 4], .a [.i 0, .i 0, .nl 2, .nl 2, .nl 2, .u (.l 2 [[.n 0, .n 0], [.n 1, .n 60], [.n 2, .n 500], [.n 3, .n 2]]), .u (.l 5 [[.n 1, .n 0, .n 1, .n 1, .n 60], [.n 1, .n 0, .n 1, .n 2, .n 40], [.n 1, .n 0, .n 1, .n 3, .n 20], [.n 2, .n 0, .n 1, .n 1, .n 60], [.n 2, .n 0, .n 1, .n 2, .n 40], [.n 2, .n 0, .n 1, .n 3, .n 20]]), .nl 9, .i 1, .u (.l 2 [[.l 1 [], .l 1 []], [.l 1 [], .l 1 []], [.l 1 [], .l 1 []], [.l 1 [], .l 1 []]]), .nl 16, .nl 19, .nl 2, .nl 3, .i 1, .nl 4]] fun x m => x = .u (.b false) ∧ m = (awk25Mm v) := Ev.runA eK6 Tryz.func19 (c := (bodyOf Tryz.f19)) (r := (.ret, (awk25T4 v), (awk25M2 v))) (Ev.piecesA (k := 1) (t1 := awk25T1 v) (m1 := awk25M2 v) (Ev.seqPA (t1 := awk25T4 v) (m1 := awk25M2 v) (Ev.regA (EvO.callA (t2 := awk25T3 v) (m1 := awk25M2 v) (ix := []) (k := 2) (t1 := (awk25T3 v)) (args := [.a [.i 0, .i 0, .nl 2, .nl 2, .nl 2, .u (.l 2 [[.n 0, .n 0], [.n 1, .n 0], [.n 2, .n 0], [.n 3, .n 0]]), .nl 5, .nl 9, .i 1, .u (.l 2 [[.l 1 [], .l 1 []], [.l 1 [], .l 1 []], [.l 1 [], .l 1 []], [.l 1 [], .l 1 []]]), .nl 16, .nl 19, .nl 2, .nl 3, .i 1, .nl 4], .a [.i 0, .i 0, .nl 2, .nl 2, .nl 2, .u (.l 2 [[.n 0, .n 0], [.n 1, .n 60], [.n 2, .n 500], [.n 3, .n 2]]), .u (.l 5 [[.n 1, .n 0, .n 1, .n 1, .n 60], [.n 1, .n 0, .n 1, .n 2, .n 40], [.n 1, .n 0, .n 1, .n 3, .n 20], [.n 2, .n 0, .n 1, .n 1, .n 60], [.n 2, .n 0, .n 1, .n 2, .n 40], [.n 2, .n 0, .n 1, .n 3, .n 20]]), .nl 9, .i 1, .u (.l 2 [[.l 1 [], .l 1 []], [.l 1 [], .l 1 []], [.l 1 [], .l 1 []], [.l 1 [], .l 1 []]]), .nl 16, .nl 19, .nl 2, .nl 3, .i 1, .nl 4]]) (a := []) (cc := []) (awk24_run v) EvO.opsA)) Ev.codeA))
def awT22 (v : NbV) : Fr := puF (awT21 v) [(72, .u (.b false)), (73, .u (.b true)), (74, .u (.b true)), (75, .u (.b true)), (76, .a [.i 4, .u (.l 7 [[.n 3, .n 2, .n 10, .l 2 [[.n 1, .n 3], [.n 2, .n 1]], .n 2, .n 3, .n 5], [.n 4, .n 1, .n 7, .l 2 [[.n 3, .n 2]], .n 0, .n 0, .n 3]]), .i 2, .u (.l 4 [[.n 1, .n 1, .n 1, .n 1000], [.n 1, .n 1, .n 0, .n 0]]), .i 3, .i 200, .i 1, .i 500]), (77, .a [.i 0, .i 0, .nl 2, .nl 2, .nl 2, .u (.l 2 [[.n 0, .n 0], [.n 1, .n 60], [.n 2, .n 500], [.n 3, .n 2]]), .u (.l 5 [[.n 1, .n 0, .n 1, .n 1, .n 60], [.n 1, .n 0, .n 1, .n 2, .n 40], [.n 1, .n 0, .n 1, .n 3, .n 20], [.n 2, .n 0, .n 1, .n 1, .n 60], [.n 2, .n 0, .n 1, .n 2, .n 40], [.n 2, .n 0, .n 1, .n 3, .n 20]]), .nl 9, .i 1, .u (.l 2 [[.l 1 [], .l 1 []], [.l 1 [], .l 1 []], [.l 1 [], .l 1 []], [.l 1 [], .l 1 []]]), .nl 16, .nl 19, .nl 2, .nl 3, .i 1, .nl 4])]
def awT23 (v : NbV) : Fr := puF (awT22 v) [(0, .u (.b true)), (78, .i 0), (79, .u (.b true)), (80, .u (.b true)), (81, .u (.b true)), (82, .i 0), (83, .u (.b true)), (84, .u (.b true)), (85, .u (.b true)), (86, .i 0), (87, .u (.b true)), (88, .u (.b true)), (89, .u (.b true)), (90, .u (.i .u32 3437115553)), (91, .u (.i .u32 82236239)), (92, .u (.b true)), (93, .u (.b true))]
theorem awn31 (v : NbV) : awev (cR (cR (dropK 1 awC1))) (awT6 v) (awM7 v) [(.ret, (awT23 v), (awM14 v))] := Ev.seqPA (t1 := awT9 v) (m1 := awM7 v) (Ev.regA (EvO.callA (t2 := awT8 v) (m1 := awM7 v) (ix := []) (k := 2) (t1 := (awT8 v)) (args := [.a [.i 4, .u (.l 7 [[.n 3, .n 2, .n 10, .l 2 [[.n 1, .n 3], [.n 2, .n 1]], .n 2, .n 3, .n 5], [.n 4, .n 1, .n 7, .l 2 [[.n 3, .n 2]], .n 0, .n 0, .n 3]]), .i 2, .u (.l 4 [[.n 1, .n 1, .n 1, .n 1000], [.n 1, .n 1, .n 0, .n 0]]), .i 3, .i 200, .i 1, .i 500], .a [.i 0, .i 0, .nl 2, .nl 2, .nl 2, .u (.l 2 [[.n 0, .n 0], [.n 1, .n 0], [.n 2, .n 0], [.n 3, .n 0]]), .nl 5, .nl 9, .i 1, .u (.l 2 [[.l 1 [], .l 1 []], [.l 1 [], .l 1 []], [.l 1 [], .l 1 []], [.l 1 [], .l 1 []]]), .nl 16, .nl 19, .nl 2, .nl 3, .i 1, .nl 4]]) (a := []) (cc := []) (awk3_run v) EvO.opsA)) (Ev.seqPA (t1 := awT11 v) (m1 := awM12 v) (Ev.regA (EvO.callA (t2 := awT10 v) (m1 := awM7 v) (ix := []) (k := 2) (t1 := (awT10 v)) (args := [.a [.i 4, .u (.l 7 [[.n 3, .n 2, .n 10, .l 2 [[.n 1, .n 3], [.n 2, .n 1]], .n 2, .n 3, .n 5], [.n 4, .n 1, .n 7, .l 2 [[.n 3, .n 2]], .n 0, .n 0, .n 3]]), .i 2, .u (.l 4 [[.n 1, .n 1, .n 1, .n 1000], [.n 1, .n 1, .n 0, .n 0]]), .i 3, .i 200, .i 1, .i 500], .u (.s ⟨#[0, 0, 0, 0, 0, 4, 0, 0, 1, 0, 2, 0, 3, 0, 0, 0, 1, 4, 0, 0, 0, 0, 0, 0, 0, 0, 0, 0, 0, 0, 1, 1, 0]⟩)]) (a := []) (cc := []) (awk9_run v) EvO.opsA)) (Ev.piecesA (k := 3) (t1 := awT13 v) (m1 := awM14 v) (Ev.seqPA (t1 := awT16 v) (m1 := awM14 v) (Ev.regA (EvO.callA (t2 := awT15 v) (m1 := awM14 v) (ix := []) (k := 2) (t1 := (awT15 v)) (args := [.a [.i 4, .u (.l 7 [[.n 3, .n 2, .n 10, .l 2 [[.n 1, .n 3], [.n 2, .n 1]], .n 2, .n 3, .n 5], [.n 4, .n 1, .n 7, .l 2 [[.n 3, .n 2]], .n 0, .n 0, .n 3]]), .i 2, .u (.l 4 [[.n 1, .n 1, .n 1, .n 1000], [.n 1, .n 1, .n 0, .n 0]]), .i 3, .i 200, .i 1, .i 500], .a [.i 0, .i 0, .nl 2, .nl 2, .nl 2, .u (.l 2 [[.n 0, .n 0], [.n 1, .n 60], [.n 2, .n 500], [.n 3, .n 2]]), .u (.l 5 [[.n 1, .n 0, .n 1, .n 1, .n 60], [.n 1, .n 0, .n 1, .n 2, .n 40], [.n 1, .n 0, .n 1, .n 3, .n 20], [.n 2, .n 0, .n 1, .n 1, .n 60], [.n 2, .n 0, .n 1, .n 2, .n 40], [.n 2, .n 0, .n 1, .n 3, .n 20]]), .nl 9, .i 1, .u (.l 2 [[.l 1 [], .l 1 []], [.l 1 [], .l 1 []], [.l 1 [], .l 1 []], [.l 1 [], .l 1 []]]), .nl 16, .nl 19, .nl 2, .nl 3, .i 1, .nl 4]]) (a := []) (cc := []) (awk13_run v) EvO.opsA)) (Ev.seqPA (t1 := awT18 v) (m1 := awM14 v) (Ev.regA (EvO.callA (t2 := awT17 v) (m1 := awM14 v) (ix := []) (k := 2) (t1 := (awT17 v)) (args := [.a [.i 4, .u (.l 7 [[.n 3, .n 2, .n 10, .l 2 [[.n 1, .n 3], [.n 2, .n 1]], .n 2, .n 3, .n 5], [.n 4, .n 1, .n 7, .l 2 [[.n 3, .n 2]], .n 0, .n 0, .n 3]]), .i 2, .u (.l 4 [[.n 1, .n 1, .n 1, .n 1000], [.n 1, .n 1, .n 0, .n 0]]), .i 3, .i 200, .i 1, .i 500], .a [.i 0, .i 0, .nl 2, .nl 2, .nl 2, .u (.l 2 [[.n 0, .n 0], [.n 1, .n 0], [.n 2, .n 0], [.n 3, .n 0]]), .nl 5, .nl 9, .i 1, .u (.l 2 [[.l 1 [], .l 1 []], [.l 1 [], .l 1 []], [.l 1 [], .l 1 []], [.l 1 [], .l 1 []]]), .nl 16, .nl 19, .nl 2, .nl 3, .i 1, .nl 4]]) (a := []) (cc := []) (awk20_run v) EvO.opsA)) (Ev.seqPA (t1 := awT23 v) (m1 := awM14 v) (Ev.regA (EvO.callA (t2 := awT19 v) (m1 := awM14 v) (ix := []) (k := 9) (t1 := (awT19 v)) (args := [.a [.i 0, .i 0, .nl 2, .nl 2, .nl 2, .u (.l 2 [[.n 0, .n 0], [.n 1, .n 0], [.n 2, .n 0], [.n 3, .n 0]]), .nl 5, .nl 9, .i 1, .u (.l 2 [[.l 1 [], .l 1 []], [.l 1 [], .l 1 []], [.l 1 [], .l 1 []], [.l 1 [], .l 1 []]]), .nl 16, .nl 19, .nl 2, .nl 3, .i 1, .nl 4], .a [.i 0, .i 0, .nl 2, .nl 2, .nl 2, .u (.l 2 [[.n 0, .n 0], [.n 1, .n 0], [.n 2, .n 0], [.n 3, .n 0]]), .nl 5, .nl 9, .i 1, .u (.l 2 [[.l 1 [], .l 1 []], [.l 1 [], .l 1 []], [.l 1 [], .l 1 []], [.l 1 [], .l 1 []]]), .nl 16, .nl 19, .nl 2, .nl 3, .i 1, .nl 4]]) (a := []) (cc := []) (awk22_run v) (EvO.callA (t2 := awT20 v) (m1 := awM14 v) (ix := []) (k := 4) (t1 := (awT20 v)) (args := [.a [.i 0, .i 0, .nl 2, .nl 2, .nl 2, .u (.l 2 [[.n 0, .n 0], [.n 1, .n 0], [.n 2, .n 0], [.n 3, .n 0]]), .nl 5, .nl 9, .i 1, .u (.l 2 [[.l 1 [], .l 1 []], [.l 1 [], .l 1 []], [.l 1 [], .l 1 []], [.l 1 [], .l 1 []]]), .nl 16, .nl 19, .nl 2, .nl 3, .i 1, .nl 4], .a [.i 0, .i 0, .nl 2, .nl 2, .nl 2, .u (.l 2 [[.n 0, .n 0], [.n 1, .n 60], [.n 2, .n 500], [.n 3, .n 2]]), .u (.l 5 [[.n 1, .n 0, .n 1, .n 1, .n 60], [.n 1, .n 0, .n 1, .n 2, .n 40], [.n 1, .n 0, .n 1, .n 3, .n 20], [.n 2, .n 0, .n 1, .n 1, .n 60], [.n 2, .n 0, .n 1, .n 2, .n 40], [.n 2, .n 0, .n 1, .n 3, .n 20]]), .nl 9, .i 1, .u (.l 2 [[.l 1 [], .l 1 []], [.l 1 [], .l 1 []], [.l 1 [], .l 1 []], [.l 1 [], .l 1 []]]), .nl 16, .nl 19, .nl 2, .nl 3, .i 1, .nl 4]]) (a := []) (cc := []) (awk24_run v) (EvO.callA (t2 := awT21 v) (m1 := awM14 v) (ix := []) (k := 5) (t1 := (awT21 v)) (args := [.a [.i 0, .i 0, .nl 2, .nl 2, .nl 2, .u (.l 2 [[.n 0, .n 0], [.n 1, .n 0], [.n 2, .n 0], [.n 3, .n 0]]), .nl 5, .nl 9, .i 1, .u (.l 2 [[.l 1 [], .l 1 []], [.l 1 [], .l 1 []], [.l 1 [], .l 1 []], [.l 1 [], .l 1 []]]), .nl 16, .nl 19, .nl 2, .nl 3, .i 1, .nl 4], .a [.i 0, .i 0, .nl 2, .nl 2, .nl 2, .u (.l 2 [[.n 0, .n 0], [.n 1, .n 60], [.n 2, .n 500], [.n 3, .n 2]]), .u (.l 5 [[.n 1, .n 0, .n 1, .n 1, .n 60], [.n 1, .n 0, .n 1, .n 2, .n 40], [.n 1, .n 0, .n 1, .n 3, .n 20], [.n 2, .n 0, .n 1, .n 1, .n 60], [.n 2, .n 0, .n 1, .n 2, .n 40], [.n 2, .n 0, .n 1, .n 3, .n 20]]), .nl 9, .i 1, .u (.l 2 [[.l 1 [], .l 1 []], [.l 1 [], .l 1 []], [.l 1 [], .l 1 []], [.l 1 [], .l 1 []]]), .nl 16, .nl 19, .nl 2, .nl 3, .i 1, .nl 4]]) (a := []) (cc := []) (awk25_run v) (EvO.callA (t2 := awT22 v) (m1 := awM14 v) (ix := []) (k := 5) (t1 := (awT22 v)) (args := [.a [.i 4, .u (.l 7 [[.n 3, .n 2, .n 10, .l 2 [[.n 1, .n 3], [.n 2, .n 1]], .n 2, .n 3, .n 5], [.n 4, .n 1, .n 7, .l 2 [[.n 3, .n 2]], .n 0, .n 0, .n 3]]), .i 2, .u (.l 4 [[.n 1, .n 1, .n 1, .n 1000], [.n 1, .n 1, .n 0, .n 0]]), .i 3, .i 200, .i 1, .i 500], .a [.i 0, .i 0, .nl 2, .nl 2, .nl 2, .u (.l 2 [[.n 0, .n 0], [.n 1, .n 60], [.n 2, .n 500], [.n 3, .n 2]]), .u (.l 5 [[.n 1, .n 0, .n 1, .n 1, .n 60], [.n 1, .n 0, .n 1, .n 2, .n 40], [.n 1, .n 0, .n 1, .n 3, .n 20], [.n 2, .n 0, .n 1, .n 1, .n 60], [.n 2, .n 0, .n 1, .n 2, .n 40], [.n 2, .n 0, .n 1, .n 3, .n 20]]), .nl 9, .i 1, .u (.l 2 [[.l 1 [], .l 1 []], [.l 1 [], .l 1 []], [.l 1 [], .l 1 []], [.l 1 [], .l 1 []]]), .nl 16, .nl 19, .nl 2, .nl 3, .i 1, .nl 4]]) (a := []) (cc := []) (awk13k14k15_run v) EvO.opsA))))) Ev.codeA)))))
abbrev aw6Mm (v : NbV) : Mem := (awM0 v)
theorem aw6_run (v : NbV) : PRun Tryz.prog 6 (awM0 v) [] fun x m => x = .u (.b true) ∧ m = (aw6Mm v) := Ev.runA eK1 Tryz.func6 (c := awC1) (r := (.ret, (awT23 v), (awM14 v))) (Ev.piecesA (k := 1) (t1 := awT1 v) (m1 := awM0 v) (Ev.seqPA (t1 := awT3 v) (m1 := awM4 v) (Ev.regA (EvO.callA (t2 := awT2 v) (m1 := awM0 v) (ix := []) (k := 0) (t1 := (awT2 v)) (args := [.i 0]) (a := []) (cc := []) (awk1_run v) EvO.opsA)) (Ev.seqPA (t1 := awT6 v) (m1 := awM7 v) (Ev.regA (EvO.callA (t2 := awT5 v) (m1 := awM4 v) (ix := []) (k := 1) (t1 := (awT5 v)) (args := [.a [.i 4, .u (.l 7 [[.n 3, .n 2, .n 10, .l 2 [[.n 1, .n 3], [.n 2, .n 1]], .n 2, .n 3, .n 5], [.n 4, .n 1, .n 7, .l 2 [[.n 3, .n 2]], .n 0, .n 0, .n 3]]), .i 2, .u (.l 4 [[.n 1, .n 1, .n 1, .n 1000], [.n 1, .n 1, .n 0, .n 0]]), .i 3, .i 200, .i 1, .i 500]]) (a := []) (cc := []) (awk2_run v) EvO.opsA)) (awn31 v))))
end
end Go.Proofs.YtmafjaglalggkaaGreat
