/- The engine, part k: a range over a function; code in a round. A second verification condition, that of code in which such are. -/
import Derived.Test.YtjcjlhpabjjflaaEf
import Derived.RangeFuncIn
import Derived.RangeFuncLeaves
import Derived.RangeFuncRecord
import Derived.OrdersIn
import Derived.TacticsIn
set_option linter.unusedVariables false
namespace Go.Proofs.Ytjcjlhpabjjflaa
open Go

/- ## Definitions -/
abbrev FW (r : Option Nat) : Fence := { Fence.wide with round := r }
/-- A call of the yield of loop l. -/
def YRun (P : Program) (l : Nat) (args : List Value) (h : Heap) (R : Value → Heap → Prop) : Prop :=
  ∀ w : World, w.heap = h → ∃ fn tmps assign body, (Instr.yield l args.toArray).run P w = .ok (.round l fn tmps assign body) w ∧
    RoundIn (FW none) 0 P l fn tmps assign body w fun e w' => ∃ v, e = .returned v ∧ R v w'.heap ∧ Same w w'
def CallVI (P : Program) (f : Value) (args : List Value) (h : Heap) (R : Value → Heap → Prop) : Prop :=
  match f with
  | .func (.func g) first captured => Run P g (first.toList ++ args ++ captured.toList) h R
  | .func (.yield l) first _ => YRun P l (first.toList ++ args) h R
  | _ => False
def opKI (P : Program) (H : Hn) (t : List Value) (o : Oper) (h : Heap) (K : Value → Heap → Prop) : Prop :=
  match o.op with
  | .call c =>
    match c.callee with
    | .value f => CallVI P (ev t f) (c.args.toList.map (ev t)) h (typed P o.type K)
    | _ => opK P H t o h K
  | _ => opK P H t o h K
def vcOpsI (P : Program) (H : Hn) (ops : List Oper) (K : List Value → Heap → Prop) : List Oper → List Value → Heap → Prop
  | [], t, h => K t h
  | o :: rest, t, h => guarded ops o t (fun t => opKI P H t o h fun v h' => vcOpsI P H ops K rest (lput t o.dst v) h') (fun t => vcOpsI P H ops K rest (lput t o.dst undef) h)
def isDefer (o : Oper) : Bool := match o.op with | .defer _ => true | _ => false
/-- For all values of this shape. -/
def Sh.All (x : Sh) (f : Value → Prop) : Prop :=
  match x with
  | .i k => ∀ n : Int, f (.int k n)
  | .b => ∀ c : Bool, f (.bool c)
  | .s => ∀ s : ByteArray, f (.string s)
  | .p => ∀ a : Option Addr, f (.pointer a)
  | .sl => ∀ (a : Option Addr) (n c : Nat), f (.slice a n c)
  | .m => ∀ r : Option Nat, f (.map r)
  | .v => ∀ v : Value, f v
def alL : List Value → (List Value → Prop) → Prop
  | [], f => f []
  | z :: l, f => (shOf z).All fun v => alL l fun vs => f (v :: vs)
def alE (z : Value) (f : Value → Prop) : Prop :=
  match z with
  | .agg cs => alL cs.toList fun vs => f (.agg vs.toArray)
  | z => (shOf z).All f
def alArgs (P : Program) (rs : List (Nat × TypeId)) : List Tmp → (List Value → Prop) → Prop
  | [], f => f []
  | p :: ps, f => alE (zeroOf P (rsOf rs (.tmp p))) fun v => alArgs P rs ps fun vs => f (v :: vs)
def atO (h : Heap) (l : Nat) (o : Obj) : Prop := h[l]? = some o
def setO (h : Heap) (l : Nat) (o : Obj) (K : Heap → Prop) : Prop := K (h.setIfInBounds l o)
abbrev PostI := Ex → List Value → List Nat → Heap → Prop
def exitsOf : Code → List Ex
  | .ret => [.ret]
  | .exit i => [.ext i]
  | .seq x y => exitsOf x ++ exitsOf y
  | .cond _ x y => exitsOf x ++ exitsOf y
  | .block i c => (exitsOf c).filter fun e => match e with | .ext j => !Nat.beq i j | _ => true
  | .loop c => exitsOf c
  | .scope c => exitsOf c
  | _ => []
def anyOf (f : Ex → Prop) : List Ex → Prop
  | [] => False
  | e :: l => f e ∨ anyOf f l
def thenI (K : List Value → List Nat → Heap → Prop) (Q : PostI) : PostI
  | .nrm, t, ds, h => K t ds h
  | .ext i, t, ds, h => Q (.ext i) t ds h
  | .ret, t, ds, h => Q .ret t ds h
def blockI (id : Nat) (Q : PostI) : PostI
  | .nrm, t, ds, h => Q .nrm t ds h
  | .ext j, t, ds, h => cond (Nat.beq j id) (Q .nrm t ds h) (Q (.ext j) t ds h)
  | .ret, t, ds, h => Q .ret t ds h
def vcI (P : Program) (H : Hn) : Bool → Code → PostI → List Value → List Nat → Heap → Prop
  | _, .skip, Q, t, ds, h => Q .nrm t ds h
  | _, .region _ ops d, Q, t, ds, h =>
    cond d (cond (drawB ops.toList ops.toList.length [] && Region.noSelect ops.toList.toArray && ops.toList.all fun o => !isDefer o) (vcDraw P H ops.toList (fun t h => Q .nrm t ds h) ops.toList.length [] [] t h) False)
      (cond (ops.toList.all fun o => !isDefer o) (vcOpsI P H ops.toList (fun t h => Q .nrm t ds h) ops.toList t h) False)
  | r, .seq x y, Q, t, ds, h => vcI P H r x (thenI (vcI P H r y Q) Q) t ds h
  | r, .cond c x y, Q, t, ds, h => bcase (ev t c) (vcI P H r x Q t ds h) (vcI P H r y Q t ds h)
  | r, .block id c, Q, t, ds, h => vcI P H r c (blockI id Q) t ds h
  | r, .loop c, Q, t, ds, h =>
    ∃ (I : InvT (shapes (hintOf H.hs (firstRegion c)))) (m : MeaT (shapes (hintOf H.hs (firstRegion c)))),
      app _ I (vals t (hintOf H.hs (firstRegion c))) h ∧
      ∀ (g : Nat → Value) (h' : Heap), allI _ I h' fun vs =>
        vcI P H r c (thenI (fun t2 ds2 h2 => ds2 = ds ∧ app _ I (vals t2 (hintOf H.hs (firstRegion c))) h2 ∧ appM _ m (vals t2 (hintOf H.hs (firstRegion c))) h2 < appM _ m vs h') Q)
          (frameAt (mods c) t (hintOf H.hs (firstRegion c)) g vs) ds h'
  | _, .exit id, Q, t, ds, h => Q (.ext id) t ds h
  | _, .ret, Q, t, ds, h => Q .ret t ds h
  | r, .scope c, Q, t, ds, h => vcI P H r c Q t ds h
  | _, .label _, Q, t, ds, h => Q .nrm t ds h
  | false, .rangeFunc g ps assign body, Q, t, ds, h =>
    ∀ (oR oB : Obj) (oD : Ex → Obj), newB h (.deferred (some [])) fun D h1 => newB h1 oR fun l h2 =>
      (alArgs P H.rs ps.toList fun as => ∀ (h3 : Heap) (R : Value → Heap → Prop), atO h3 l oR →
        vcI P H true assign (thenI (fun t4 ds4 h4 => ds4 = [] ∧ atO h4 l oR ∧ setO h4 l oB fun h5 =>
          vcI P H true body (fun e _ _ h6 => atO h6 l oB ∧ match e with
            | .nrm => setO h6 l oR (R (.bool true))
            | e => setO h6 l (oD e) (R (.bool false))) t4 [] h5) fun _ _ _ _ => False) (setAll t ps.toList as) [] h3 → YRun P l as h3 R) →
      CallV P (ev t g) [.func (.yield l) #[] #[]] h2 fun _ h7 =>
        (atO h7 l oR ∧ ∀ oX : Obj, setO h7 l oX fun h8 => Q .nrm t (D :: ds) h8) ∨ anyOf (fun e => atO h7 l (oD e) ∧ ∀ oX : Obj, setO h7 l oX fun h8 => Q e t (D :: ds) h8) (exitsOf body)
  | _, _, _, _, _, _ => False
def takeDs : List Nat → Heap → (Heap → Prop) → Prop
  | [], h, K => K h
  | D :: ds, h, K => atO h D (.deferred (some [])) ∧ setO h D (.deferred none) fun h' => takeDs ds h' K
def vcFunI (P : Program) (H : Hn) (fn : Func) (args : List Value) (h : Heap) (R : Value → Heap → Prop) : Prop :=
  match fn.body with
  | none => False
  | some c => vcI P H false c (fun e t ds h => match e with | .ext _ => False | .nrm => takeDs ds h fun h => resS P fn.results.toList t h fun vs => R (one vs) h | .ret => takeDs ds h fun h => resS P fn.results.toList t h fun vs => R (one vs) h)
      (args ++ List.replicate (fn.ntmps - args.length) undef) [] h

section
variable {P : Program}
/- ## From the walk to the fenced walk -/
theorem callsIn_of {r : Option Nat} {n : Nat} {f : FuncId} {args : Array Value} {w : World} {R : Ending → World → Prop} (h : Calls P f args w R) : CallsIn (FW r) n P f args w R :=
  (callsIn_wide (n := n)).2 h
theorem rowsIn_of {r : Option Nat} {n : Nat} {row : String} {args : Array Value} {w : World} {R : Value → World → Prop} (h : Rows P row args w R) : RowsIn (FW r) n P row args w R :=
  fun c cs _ => let ⟨v, w', hR, hs⟩ := h c cs; ⟨v, w', hR, stepsIn_wide.2 hs⟩
def Dm (ds : List Deferred) (K : Act → World → Prop) : Act → World → Prop := fun a w => ∃ a0, K a0 w ∧ a = { a0 with defers := a0.defers ++ ds }
def DmQ (ds : List Deferred) (Q : Exit → Act → World → Prop) : Exit → Act → World → Prop := fun e a w => ∃ a0, Q e a0 w ∧ a = { a0 with defers := a0.defers ++ ds }
theorem put_dm (a : Act) (ds : List Deferred) (d : Option Tmp) (v : Value) : ({ a with defers := a.defers ++ ds } : Act).put d v = { a.put d v with defers := (a.put d v).defers ++ ds } := by
  cases d <;> rfl
theorem op_in {o : Oper} {a : Act} {w : World} {K : Act → World → Prop} {Q : Exit → Act → World → Prop} {r : Option Nat} {n : Nat} {ds : List Deferred} (hd : isDefer o = false) (hQ : ¬ LetsOut Q) (h : o.wp P a w K Q) :
    o.wpIn (FW r) n P { a with defers := a.defers ++ ds } w (Dm ds K) (DmQ ds Q) := by
  have hd' : ∀ c, o.op ≠ .defer c := fun c e => by unfold isDefer at hd; rw [e] at hd; cases hd
  refine ⟨fun _ _ => trivial, ?_⟩
  rw [Oper.semAt_eq _ _ _ hd']
  have he : ({ a with defers := a.defers ++ ds } : Act).eval = a.eval := by funext x; cases x <;> rfl
  rw [he]
  unfold Oper.wp at h
  generalize hres : (execOp a.eval o).run P w = res at h ⊢
  cases res with
  | ok nx w' =>
    cases nx <;> simp only [Oper.upon, Oper.uponIn] at h ⊢ <;> try exact h.elim
    case value v => exact ⟨_, h, put_dm _ _ _ _⟩
    case skip => exact ⟨_, h, put_dm _ _ _ _⟩
    case enter f args =>
      refine ⟨fun hh => (by cases hh), callsIn_of (h.mono fun e w'' he => ?_)⟩
      cases e with
      | returned v => exact ⟨_, he, put_dm _ _ _ _⟩
      | panicked c => exact ⟨_, he, rfl⟩
      | outgrown => exact absurd he hQ
    case row row args => exact ⟨fun hh => (by cases hh), rowsIn_of (Rows.mono h fun v w'' he => ⟨_, he, put_dm _ _ _ _⟩)⟩
    case defer d => exact ⟨_, h, put_dm { a with defers := d :: a.defers } ds _ _⟩
  | halt x w' =>
    cases x <;> simp only [Oper.upon, Oper.uponIn] at h ⊢ <;> try exact h.elim
    case panic v => exact ⟨_, h, rfl⟩
theorem any_in {ops : Array Oper} {Q : Exit → Act → World → Prop} {r : Option Nat} {n : Nat} {ds : List Deferred} (hd : ∀ o ∈ ops.toList, isDefer o = false) (hQ : ¬ LetsOut Q) : ∀ (fuel : Nat) (listed : Array Bool) (a : Act) (w : World),
    wpAny P .any ops Q fuel listed a w → wpAnyIn (FW r) n P .any ops (DmQ ds Q) fuel listed { a with defers := a.defers ++ ds } w
  | 0, listed, a, w, h => ⟨h.1, _, h.2, rfl⟩
  | fuel + 1, listed, a, w, h => by
    refine ⟨fun hr => ⟨_, h.1 hr, rfl⟩, fun i hi => ?_⟩
    have h1 := h.2 i hi
    unfold wpOp at h1
    unfold wpOpIn
    cases ho : ops[i]? with
    | none => rw [ho] at h1; exact any_in hd hQ fuel _ a w h1
    | some o =>
      rw [ho] at h1
      simp only at h1 ⊢
      split
      · rename_i hw
        rw [if_pos hw] at h1
        have hom : o ∈ ops.toList := by simpa using Array.mem_of_getElem? ho
        rcases h1 with h1 | ⟨-, h1⟩
        · refine Oper.wpIn_mono (fun a' w' hh => ?_) (op_in (ds := ds) (hd o hom) hQ h1)
          obtain ⟨a0, h2, rfl⟩ := hh
          exact any_in hd hQ fuel _ a0 w' h2
        · exact absurd h1 hQ
      · rename_i hw
        rw [if_neg hw] at h1
        refine ⟨fun _ _ => trivial, ?_⟩
        rw [put_dm]
        exact any_in hd hQ fuel _ _ w h1
/- ## Operations -/
theorem eval_dm (a : Act) (ds : List Deferred) : ({ a with defers := ds } : Act).eval = a.eval := by funext x; cases x <;> rfl
theorem eval_evI (a : Act) : a.eval = ev a.tmps.toList := eval_eq a
theorem opI_sound {H : Hn} {o : Oper} {h : Heap} {K : Value → Heap → Prop} {a : Act} (hh : opKI P H a.tmps.toList o h K) (hd : isDefer o = false) {w : World} (hw : w.heap = h) {r : Option Nat} {n : Nat}
    {next : Act → World → Prop} {Q : Exit → Act → World → Prop} (hn : ∀ v w', K v w'.heap → Same w w' → next (a.put o.dst v) w') : o.wpIn (FW r) n P a w next Q := by
  have hd' : ∀ c, o.op ≠ .defer c := fun c e => by unfold isDefer at hd; rw [e] at hd; cases hd
  have old : opK P H a.tmps.toList o h K → o.wpIn (FW r) n P a w next Q := fun hk => by
    have h1 : o.wp P a w (fun a' w' => ∃ v, K v w'.heap ∧ Same w w' ∧ a' = a.put o.dst v) (fun _ _ _ => False) := op_sound hk hw fun v w' hK hS => ⟨v, hK, hS, rfl⟩
    have h2 := op_in (r := r) (n := n) (ds := []) hd (fun ⟨_, _, h⟩ => h) h1
    rw [List.append_nil] at h2
    have h3 : o.wpIn (FW r) n P a w next (DmQ [] fun _ _ _ => False) := Oper.wpIn_mono (fun a' w' hh => by
      obtain ⟨a0, ⟨v, hK, hS, rfl⟩, rfl⟩ := hh
      rw [List.append_nil]; exact hn v w' hK hS) h2
    refine ⟨h3.1, ?_⟩
    have h4 := h3.2
    generalize (Oper.semAt (FW r).round a.eval o).run P w = res at h4 ⊢
    have hno : ∀ e a w, ¬ (DmQ [] fun _ _ _ => False : Exit → Act → World → Prop) e a w := fun e a w ⟨_, h, _⟩ => h
    cases res with
    | ok nx w' =>
      cases nx <;> simp only [Oper.uponIn] at h4 ⊢ <;> try exact h4
      case enter f args =>
        refine ⟨h4.1, h4.2.mono fun e w'' he => ?_⟩
        cases e with
        | returned v => exact he
        | panicked c => exact absurd he (hno _ _ _)
        | outgrown => obtain ⟨_, _, h⟩ := he; exact absurd h (hno _ _ _)
      case round l f tmps assign body =>
        refine ⟨h4.1, RoundIn.mono h4.2 fun e w'' he => ?_⟩
        cases e with
        | returned v => exact he
        | panicked c => exact absurd he (hno _ _ _)
        | outgrown => obtain ⟨_, _, h⟩ := he; exact absurd h (hno _ _ _)
    | halt x w' =>
      cases x <;> simp only [Oper.uponIn] at h4 ⊢ <;> try exact h4
      case panic v => exact absurd h4 (hno _ _ _)
  unfold opKI at hh
  split at hh
  · rename_i c hc
    split at hh
    · rename_i f hf
      unfold CallVI at hh
      split at hh
      · rename_i g first captured hv
        refine old ?_
        have h1 : effK P H a.tmps.toList o h K := by
          obtain ⟨dst, op, ty, pos, after, guard⟩ := o
          simp only at hc
          subst hc
          obtain ⟨ce, args, ats⟩ := c
          simp only at hf
          subst hf
          simp only [effK]
          unfold CallV
          rw [hv]
          exact hh
        unfold opK
        have e1 : pureOp o = false := by unfold pureOp; rw [hc]; obtain ⟨ce, args, ats⟩ := c; simp only at hf; subst hf; rfl
        have e2 : readOp o = false := by unfold readOp; rw [hc]; obtain ⟨ce, args, ats⟩ := c; simp only at hf; subst hf; rfl
        rw [e1, e2]; exact h1
      · rename_i l first captured hv
        refine ⟨fun _ _ => trivial, ?_⟩
        rw [Oper.semAt_eq _ _ _ hd', eval_eq]
        obtain ⟨fn, tmps, assign, body, hy, hR⟩ := hh w hw
        have he : (execOp (ev a.tmps.toList) o).run P w = .ok (.round l fn tmps assign body) w := by
          unfold execOp
          rw [hc]
          simp only [resolve, hf, hv, Deferred.ofValue, Sem.run_bind, Sem.run_pure, Result.andThen_ok, invoke]
          have : (first ++ c.args.map (ev a.tmps.toList)) = (first.toList ++ c.args.toList.map (ev a.tmps.toList)).toArray := by apply Array.ext'; simp
          rw [this]; exact hy
        rw [he]
        refine ⟨fun hx => (by cases hx), RoundIn.mono (R := fun e w' => ∃ v, e = .returned v ∧ typed P o.type K v w'.heap ∧ Same w w') ⟨hR.1, fun c cs hr => hR.2 c cs (room_wide _)⟩ fun e w' he => ?_⟩
        obtain ⟨v, rfl, hK, hS⟩ := he
        refine hn v w' ?_ hS
        exact typed_spec hK
      · exact hh.elim
    · exact old hh
  · exact old hh
/- ## Regions, code -/
def mark (D : Nat) : Deferred := { target := .collected D, args := #[] }
def UpI (md : List Nat) (t : List Value) (w : World) (K : List Value → List Nat → Heap → Prop) (a' : Act) (w' : World) : Prop :=
  ∃ ds, a'.defers = ds.map mark ∧ Same w w' ∧ Agr md t a'.tmps.toList ∧ K a'.tmps.toList ds w'.heap
def LiftI (Q : PostI) (md : List Nat) (t : List Value) (w : World) : Exit → Act → World → Prop
  | .normal, a', w' => UpI md t w (Q .nrm) a' w'
  | .exit id, a', w' => UpI md t w (Q (.ext id)) a' w'
  | .ret, a', w' => UpI md t w (Q .ret) a' w'
  | _, _, _ => False
theorem opsI_sound {H : Hn} {ops : List Oper} {K : List Value → Heap → Prop} {md : List Nat} {Q : Exit → Act → World → Prop} {r : Option Nat} {n : Nat} : ∀ (l : List Oper) (a : Act) (w : World),
    vcOpsI P H ops K l a.tmps.toList w.heap → (∀ o ∈ l, isDefer o = false) → (∀ o ∈ l, ∀ d, o.dst = some d → d ∈ md) →
    (∀ a' w', a'.defers = a.defers → Same w w' → Agr md a.tmps.toList a'.tmps.toList → K a'.tmps.toList w'.heap → Q .normal a' w') → wpListIn (FW r) n P ops.toArray Q l a w
  | [], a, w, hh, _, _, hQ => hQ a w rfl (.refl w) (.refl _ _) hh
  | o :: l, a, w, hh, hd, hm, hQ => by
    have hput : ∀ v, Agr md a.tmps.toList (a.put o.dst v).tmps.toList := fun v => by rw [put_list]; exact .put v fun i hi => hm o (by simp) i hi
    unfold wpListIn
    rcases guarded_spec hh with ⟨hw, h1⟩ | ⟨hw, h1⟩
    · rw [if_pos hw]
      refine opI_sound h1 (hd o (by simp)) rfl (fun v w' hK hS => ?_)
      refine opsI_sound l (a.put o.dst v) w' (by rw [put_list]; exact hK) (fun o' ho' => hd o' (by simp [ho'])) (fun o' ho' => hm o' (by simp [ho'])) fun a' w'' h2 h3 h4 h5 => ?_
      exact hQ a' w'' (by rw [h2, put_defers']) (hS.trans h3) ((hput v).trans h4) h5
    · rw [if_neg (by rw [hw]; simp)]
      refine ⟨fun _ _ => trivial, ?_⟩
      refine opsI_sound l (a.put o.dst undef) w (by rw [put_list]; exact h1) (fun o' ho' => hd o' (by simp [ho'])) (fun o' ho' => hm o' (by simp [ho'])) fun a' w'' h2 h3 h4 h5 => ?_
      exact hQ a' w'' (by rw [h2, put_defers']) h3 ((hput undef).trans h4) h5
theorem UpI.mono {md md' : List Nat} {t : List Value} {w : World} {K K' : List Value → List Nat → Heap → Prop} {a' : Act} {w' : World} (h : UpI md t w K a' w') (hm : ∀ i ∈ md, i ∈ md') (hK : ∀ t ds h, K t ds h → K' t ds h) : UpI md' t w K' a' w' :=
  let ⟨ds, h1, h2, h3, h4⟩ := h; ⟨ds, h1, h2, h3.mono hm, hK _ _ _ h4⟩
theorem UpI.after {md md' mD : List Nat} {t : List Value} {w w1 : World} {a1 : Act} {K K' : List Value → List Nat → Heap → Prop} {a' : Act} {w' : World} (h1 : UpI md t w K a1 w1) (h2 : UpI md' a1.tmps.toList w1 K' a' w')
    (hm : ∀ i ∈ md, i ∈ mD) (hm' : ∀ i ∈ md', i ∈ mD) : UpI mD t w K' a' w' :=
  let ⟨_, _, g2, g3, _⟩ := h1; let ⟨ds, k1, k2, k3, k4⟩ := h2; ⟨ds, k1, g2.trans k2, (g3.mono hm).trans (k3.mono hm'), k4⟩
theorem stepR_scope' {b : Frame} {a : Act} {k : List Item} {cs : List Frame} {w : World} {c : Code} : step P (lone (b.atR a (.code (.scope c) :: k)) cs w) = .next (lone (b.atR a (.code c :: .inScope c :: k)) cs w) :=
  step_lone_go (by simp [stepG, stepG.exec, Frame.atR])
theorem stepR_inScope' {b : Frame} {a : Act} {k : List Item} {cs : List Frame} {w : World} {c : Code} : step P (lone (b.atR a (.inScope c :: k)) cs w) = .next (lone (b.atR a k) cs w) :=
  step_lone_go (by simp [stepG, stepG.exec, Frame.atR])
theorem wpIn_scope {F : Fence} {n : Nat} {c : Code} {Q : Exit → Act → World → Prop} {a : Act} {w : World} (h : c.wpIn F n P (Exit.noGoto Q) a w) : (Code.scope c).wpIn F n P Q a w := by
  intro b k cs hro hb hr
  have h0 : (lone (b.atR a (.code (.scope c) :: k)) cs w).fenced P F := fenced_calm hb hr rfl
  obtain ⟨e, a₁, w₁, hq, harr⟩ := h b (.inScope c :: k) cs hro hb hr
  cases e with
  | normal => exact ⟨.normal, a₁, w₁, hq, .head h0 stepR_scope' (StepsIn.trans harr (.one (fenced_calm hb hr rfl) stepR_inScope'))⟩
  | exit id' =>
    have hx : exitTo id' (.inScope c :: k) = exitTo id' k := by simp [exitTo]
    exact ⟨.exit id', a₁, w₁, hq, fun k' hk => .head h0 stepR_scope' (harr.1 k' (by rw [hx]; exact hk)),
      fun hr' hk => let ⟨k₁, h1, h2⟩ := harr.2 hr' (by rw [hx]; exact hk); ⟨k₁, h1, .head h0 stepR_scope' h2⟩⟩
  | goto l => exact hq.elim
  | ret => exact ⟨_, a₁, w₁, hq, .of_steps (.one h0 stepR_scope') harr⟩
  | panic ch => exact ⟨_, a₁, w₁, hq, .of_steps (.one h0 stepR_scope') harr⟩
  | outgrown => exact ⟨_, a₁, w₁, hq, .of_steps (.one h0 stepR_scope') harr⟩

/-- All but the statement itself. -/
theorem vcI_sound (hmix : P.follows .mixedOrders = true) {H : Hn} {r : Option Nat}
    (hrange : ∀ g ps assign body (Q : PostI) (a : Act) (w : World) (ds : List Nat), vcI P H r.isSome (.rangeFunc g ps assign body) Q a.tmps.toList ds w.heap → a.defers = ds.map mark → ∀ n, (Code.rangeFunc g ps assign body).wpIn (FW r) n P (LiftI Q [] a.tmps.toList w) a w) :
    ∀ (c : Code) (Q : PostI) (a : Act) (w : World) (ds : List Nat), vcI P H r.isSome c Q a.tmps.toList ds w.heap → a.defers = ds.map mark → ∀ n, c.wpIn (FW r) n P (LiftI Q (mods c) a.tmps.toList w) a w := by
  intro c
  induction c with
  | skip => intro Q a w ds hh hd n; simp only [vcI] at hh; exact wpIn_skip ⟨ds, hd, .refl w, .refl _ _, hh⟩
  | region id ops d =>
    intro Q a w ds hh hd n
    simp only [vcI] at hh
    have hm : ∀ o ∈ ops.toList, ∀ d', o.dst = some d' → d' ∈ mods (.region id ops d) := fun o ho d' hd' => by
      simp only [mods, List.mem_append]
      exact .inl (List.mem_filterMap.2 ⟨o, ho, hd'⟩)
    cases d with
    | false =>
      obtain ⟨hnd, hh⟩ := cond_spec hh
      have hnd' : ∀ o ∈ ops.toList, isDefer o = false := fun o ho => by simpa using List.all_eq_true.1 hnd o ho
      have := opsI_sound (P := P) (r := r) (n := n) (Q := LiftI Q (mods (.region id ops false)) a.tmps.toList w) ops.toList a w hh hnd' hm fun a' w' h1 h2 h3 h4 => ⟨ds, by rw [h1, hd], h2, h3, h4⟩
      refine wpIn_region_list ?_
      simpa using this
    | true =>
      obtain ⟨hB, hh⟩ := cond_spec hh
      refine wpIn_region_any hmix ?_
      rw [Bool.and_eq_true, Bool.and_eq_true] at hB
      obtain ⟨⟨hB, hsel⟩, hnd⟩ := hB
      have hnd' : ∀ o ∈ ops.toList, isDefer o = false := fun o ho => by simpa using List.all_eq_true.1 hnd o ho
      have key := draw_sound (P := P) (md := mods (.region id ops true)) (Q := Lift (fun e t h => Q e t ds h) (mods (.region id ops true)) a.tmps.toList w) hsel (fun _ _ _ h => h) (fun _ _ h => h) hm ops.toList.length [] [] (Array.replicate ops.toList.length false) { a with defers := [] }
        { w with drawn := w.drawn + 1 } hh hB ⟨by simp, fun k hk => by rw [rep_get true hk]; simp, fun k hk => by simp at hk⟩ (fun j oj hj hl => by rw [rep_getF] at hl; cases hl)
        rfl (fun a' w' hU => ⟨hU.1, ⟨hU.2.1.tape, hU.2.1.os, hU.2.1.output, Nat.le_trans (Nat.le_succ _) hU.2.1.drawn⟩, hU.2.2.1, hU.2.2.2⟩)
      have h1 := wpF_any _ _ _ _ key
      have h2 := any_in (r := r) (n := n) (ds := a.defers) (by simpa using hnd') (fun ⟨_, _, h⟩ => h) _ _ _ _ h1
      have mono : ∀ (fuel : Nat) (listed : Array Bool) (a1 : Act) (w1 : World), wpAnyIn (FW r) n P .any ops.toList.toArray (DmQ a.defers (Lift (fun e t h => Q e t ds h) (mods (.region id ops true)) a.tmps.toList w)) fuel listed a1 w1 →
          wpAnyIn (FW r) n P .any ops.toList.toArray (LiftI Q (mods (.region id ops true)) a.tmps.toList w) fuel listed a1 w1 := by
        have hq : ∀ e a1 w1, DmQ a.defers (Lift (fun e t h => Q e t ds h) (mods (.region id ops true)) a.tmps.toList w) e a1 w1 → LiftI Q (mods (.region id ops true)) a.tmps.toList w e a1 w1 := by
          rintro e a1 w1 ⟨a0, h, rfl⟩
          cases e with
          | normal => exact ⟨ds, by rw [h.1, List.nil_append, hd], h.2.1, h.2.2.1, h.2.2.2⟩
          | exit id => exact ⟨ds, by rw [h.1, List.nil_append, hd], h.2.1, h.2.2.1, h.2.2.2⟩
          | ret => exact ⟨ds, by rw [h.1, List.nil_append, hd], h.2.1, h.2.2.1, h.2.2.2⟩
          | _ => exact h.elim
        have hqo : ∀ {Qa Qb : Exit → Act → World → Prop}, (∀ e a w, Qa e a w → Qb e a w) → ∀ {o : Oper} {a1 : Act} {w1 : World} {K : Act → World → Prop}, o.wpIn (FW r) n P a1 w1 K Qa → o.wpIn (FW r) n P a1 w1 K Qb := by
          intro Qa Qb hq o a1 w1 K h
          refine ⟨h.1, ?_⟩
          have h4 := h.2
          generalize (Oper.semAt (FW r).round a1.eval o).run P w1 = res at h4 ⊢
          cases res with
          | ok nx w' =>
            cases nx <;> simp only [Oper.uponIn] at h4 ⊢ <;> try exact h4
            case enter f args =>
              refine ⟨h4.1, h4.2.mono fun e w'' he => ?_⟩
              cases e with
              | returned v => exact he
              | panicked c => exact hq _ _ _ he
              | outgrown => obtain ⟨a2, w2, h⟩ := he; exact ⟨a2, w2, hq _ _ _ h⟩
            case round l f tmps assign body =>
              refine ⟨h4.1, RoundIn.mono h4.2 fun e w'' he => ?_⟩
              cases e with
              | returned v => exact he
              | panicked c => exact hq _ _ _ he
              | outgrown => obtain ⟨a2, w2, h⟩ := he; exact ⟨a2, w2, hq _ _ _ h⟩
          | halt x w' =>
            cases x <;> simp only [Oper.uponIn] at h4 ⊢ <;> try exact h4
            case panic v => exact hq _ _ _ h4
        intro fuel
        induction fuel with
        | zero => intro listed a1 w1 h; exact ⟨h.1, hq _ _ _ h.2⟩
        | succ fuel ih =>
          intro listed a1 w1 h
          refine ⟨fun hr => hq _ _ _ (h.1 hr), fun i hi => ?_⟩
          have := h.2 i hi
          unfold wpOpIn at this ⊢
          split
          · rename_i ho; rw [ho] at this; exact ih _ _ _ this
          · rename_i o ho
            rw [ho] at this
            simp only at this
            split
            · rename_i hw; rw [if_pos hw] at this; exact Oper.wpIn_mono (fun a' w' hh => ih _ _ _ hh) (hqo hq this)
            · rename_i hw; rw [if_neg hw] at this; exact ⟨this.1, ih _ _ _ this.2⟩
      have h3 := mono _ _ _ _ h2
      have : ({ a with defers := [] ++ a.defers } : Act) = a := by cases a; rfl
      rw [List.nil_append] at h3
      simpa using h3
  | seq x y ihx ihy =>
    intro Q a w ds hh hd n
    simp only [vcI] at hh
    have hmx : ∀ i ∈ mods x, i ∈ mods (.seq x y) := fun i hi => by simp only [mods, List.mem_append]; exact .inl hi
    have hmy : ∀ i ∈ mods y, i ∈ mods (.seq x y) := fun i hi => by simp only [mods, List.mem_append]; exact .inr hi
    refine wpIn_seq (wpIn_mono (ihx _ a w ds hh hd n) fun e a1 w1 hq => ?_)
    cases e with
    | normal =>
      obtain ⟨ds1, h1, h2, h3, h4⟩ := hq
      refine wpIn_mono (ihy Q a1 w1 ds1 h4 h1 n) fun e a2 w2 hq2 => ?_
      have hq : UpI (mods x) a.tmps.toList w (fun _ _ _ => True) a1 w1 := ⟨ds1, h1, h2, h3, trivial⟩
      cases e with
      | normal => exact UpI.after hq hq2 hmx hmy
      | exit id => exact UpI.after hq hq2 hmx hmy
      | ret => exact UpI.after hq hq2 hmx hmy
      | _ => exact hq2.elim
    | exit id => exact UpI.mono hq hmx fun _ _ _ h => h
    | ret => exact UpI.mono hq hmx fun _ _ _ h => h
    | _ => exact hq.elim
  | cond c x y ihx ihy =>
    intro Q a w ds hh hd n
    simp only [vcI] at hh
    unfold bcase at hh
    split at hh
    · rename_i b hb
      refine wpIn_cond (t := b) (by rw [eval_eq]; exact hb) ?_
      have hmx : ∀ i ∈ mods x, i ∈ mods (.cond c x y) := fun i hi => by simp only [mods, List.mem_append]; exact .inl hi
      have hmy : ∀ i ∈ mods y, i ∈ mods (.cond c x y) := fun i hi => by simp only [mods, List.mem_append]; exact .inr hi
      cases b
      · exact wpIn_mono (ihy Q a w ds hh hd n) fun e a' w' hq => by
          cases e <;> first | exact UpI.mono hq hmy fun _ _ _ h => h | exact hq.elim
      · exact wpIn_mono (ihx Q a w ds hh hd n) fun e a' w' hq => by
          cases e <;> first | exact UpI.mono hq hmx fun _ _ _ h => h | exact hq.elim
    · exact hh.elim
  | block id c ih =>
    intro Q a w ds hh hd n
    simp only [vcI] at hh
    refine wpIn_block (wpIn_mono (ih _ a w ds hh hd n) fun e a' w' hq => ?_)
    cases e with
    | normal => exact hq
    | exit j =>
      simp only [Exit.inBlock]
      by_cases hj : j = id
      · rw [if_pos hj]
        exact UpI.mono hq (fun _ h => h) fun t ds h hk => by simpa [blockI, hj] using hk
      · rw [if_neg hj]
        have hb : Nat.beq j id = false := by
          cases h : Nat.beq j id with
          | false => rfl
          | true => exact absurd (Nat.eq_of_beq_eq_true h) hj
        exact UpI.mono hq (fun _ h => h) fun t ds h hk => by simpa [blockI, hb] using hk
    | ret => exact hq
    | _ => exact hq.elim
  | loop c ih =>
    intro Q a w ds hh hd n
    simp only [vcI] at hh
    obtain ⟨I, m, h0, hr⟩ := hh
    refine wpIn_loop (fun a' w' => UpI (mods c) a.tmps.toList w (fun t ds' h => ds' = ds ∧ app _ I (vals t (hintOf H.hs (firstRegion c))) h) a' w')
      (fun a' w' => appM _ m (vals a'.tmps.toList (hintOf H.hs (firstRegion c))) w'.heap) ⟨ds, hd, .refl w, .refl _ _, rfl, h0⟩ fun a1 w1 hU => ?_
    obtain ⟨ds1, u1, u2, u3, rfl, u4⟩ := hU
    have h1 := allI_spec _ I _ _ (hr (lget a1.tmps.toList) w1.heap) _ u4
    rw [frameAt_self u3] at h1
    have hU : UpI (mods c) a.tmps.toList w (fun _ _ _ => True) a1 w1 := ⟨ds1, u1, u2, u3, trivial⟩
    refine wpIn_mono (ih _ a1 w1 ds1 h1 u1 n) fun e a2 w2 hq => ?_
    cases e with
    | normal =>
      refine ⟨UpI.after hU (hq.mono (fun _ h => h) fun _ _ _ h => ⟨h.1, h.2.1⟩) (fun _ h => h) fun _ h => h, ?_⟩
      obtain ⟨_, _, _, _, h⟩ := hq
      exact h.2.2
    | exit id => exact UpI.after hU hq (fun _ h => h) fun _ h => h
    | ret => exact UpI.after hU hq (fun _ h => h) fun _ h => h
    | _ => exact hq.elim
  | exit id => intro Q a w ds hh hd n; simp only [vcI] at hh; exact wpIn_exit ⟨ds, hd, .refl w, .refl _ _, hh⟩
  | ret => intro Q a w ds hh hd n; simp only [vcI] at hh; exact wpIn_ret ⟨ds, hd, .refl w, .refl _ _, hh⟩
  | scope c ih =>
    intro Q a w ds hh hd n
    simp only [vcI] at hh
    refine wpIn_scope (wpIn_mono (ih Q a w ds hh hd n) fun e a' w' hq => ?_)
    cases e <;> first | exact hq | exact hq.elim
  | label l => intro Q a w ds hh hd n; simp only [vcI] at hh; exact wpIn_label ⟨ds, hd, .refl w, .refl _ _, hh⟩
  | rangeFunc g ps assign body _ _ => intro Q a w ds hh hd n; exact hrange g ps assign body Q a w ds hh hd n
  | _ => intro Q a w ds hh hd n; simp only [vcI] at hh

/- ## The statement -/
theorem vcI_round (hmix : P.follows .mixedOrders = true) {H : Hn} {l : Nat} (c : Code) (Q : PostI) (a : Act) (w : World) (ds : List Nat) (hh : vcI P H true c Q a.tmps.toList ds w.heap) (hd : a.defers = ds.map mark) (n : Nat) :
    c.wpIn (FW (some l)) n P (LiftI Q (mods c) a.tmps.toList w) a w :=
  vcI_sound hmix (r := some l) (fun g ps assign body Q a w ds h => by simp only [Option.isSome_some, vcI] at h) c Q a w ds hh hd n
theorem All_of {z : Sh} {f : Value → Prop} (h : ∀ v, f v) : z.All f := by
  cases z <;> simp only [Sh.All] <;> intros <;> exact h _
theorem alL_of : ∀ {l : List Value} {f : List Value → Prop}, (∀ vs, f vs) → alL l f
  | [], _, h => h _
  | _ :: _, _, h => All_of fun _ => alL_of fun _ => h _
theorem alE_of {z : Value} {f : Value → Prop} (h : ∀ v, f v) : alE z f := by
  unfold alE
  split
  · exact alL_of fun _ => h _
  · exact All_of h
theorem alArgs_of {rs : List (Nat × TypeId)} : ∀ {ps : List Tmp} {f : List Value → Prop}, (∀ vs, vs.length = ps.length → f vs) → alArgs P rs ps f
  | [], _, h => h _ rfl
  | p :: ps, _, h => alE_of fun v => alArgs_of fun vs hv => h _ (by simp [hv])
theorem lset_set : ∀ (l : List Value) (n : Nat) (v : Value), lset l n v = l.set n v
  | [], _, _ => rfl
  | _ :: _, 0, _ => rfl
  | x :: l, n + 1, v => by simp only [lset, List.set_cons_succ, lset_set l n v]
theorem setAll_fold : ∀ (ps : List Tmp) (as : List Value) (t : Array Value), ((ps.zip as).foldl (fun (tmps : Array Value) (x : Tmp × Value) => tmps.setIfInBounds x.1 x.2) t).toList = setAll t.toList ps as
  | [], as, t => by cases as <;> rfl
  | p :: ps, [], t => by simp [setAll]
  | p :: ps, v :: as, t => by
    rw [List.zip_cons_cons, List.foldl_cons, setAll_fold ps as]
    simp only [setAll, lset_set, Array.toList_setIfInBounds]
def codeEx : Ex → Code
  | .ret => .ret
  | .ext i => .exit i
  | .nrm => .skip
theorem anyOf_spec {f : Ex → Prop} : ∀ {l : List Ex}, anyOf f l → ∃ e ∈ l, f e
  | e :: l, h => by
    rcases h with h | h
    · exact ⟨e, by simp, h⟩
    · obtain ⟨e', h1, h2⟩ := anyOf_spec h; exact ⟨e', by simp [h1], h2⟩
theorem exitsOf_not (c : Code) : Ex.nrm ∉ exitsOf c := by
  induction c <;> simp_all [exitsOf]
theorem Same.put (w : World) (r : Nat) (o : Obj) : Same w (w.putObj r o) := ⟨rfl, rfl, rfl, Nat.le_refl _⟩
theorem Same.alloc (w : World) (o : Obj) : Same w (w.alloc o) := ⟨rfl, rfl, rfl, Nat.le_refl _⟩
theorem range_sound (hmix : P.follows .mixedOrders = true) {H : Hn} (g : Operand) (ps : Array Tmp) (assign body : Code) (Q : PostI) (a : Act) (w : World) (ds : List Nat)
    (hh : vcI P H false (.rangeFunc g ps assign body) Q a.tmps.toList ds w.heap) (hd : a.defers = ds.map mark) (n : Nat) :
    (Code.rangeFunc g ps assign body).wpIn (FW none) n P (LiftI Q [] a.tmps.toList w) a w := by
  simp only [vcI] at hh
  refine wpIn_rangeFunc ?_
  intro fn _
  obtain ⟨rc, hrc⟩ : ∃ rc : LoopState → Option Code → Loop, rc = fun st pe => { state := st, pending := pe, fn, tmps := a.tmps, params := ps, assign, body, defers := w.heap.size } := ⟨_, rfl⟩
  have h1 := hh (.loop (rc .ready none)) (.loop (rc .busy none)) (fun e => .loop (rc .done (some (codeEx e))))
  let h2 : Heap := (w.heap.push (.deferred (some []))).push (.loop (rc .ready none))
  have hl : (w.heap.push (Obj.deferred (some []))).size = w.heap.size + 1 := by simp
  have hcall := h1 (by
    rw [hl]
    refine alArgs_of fun as has h3 R hat hb => ?_
    intro w' hw'
    subst hw'
    have has' : as.toArray.size = ps.size := by simpa using has
    refine ⟨fn, _, assign, body, by rw [hrc] at hat; exact run_yield hat has', ?_⟩
    refine roundIn_of_wpIn (F := FW none) trivial ?_
    show assign.wpIn (FW (some (w.heap.size + 1))) 0 P _ _ _
    generalize htm : ((ps.zip as.toArray).foldl (fun tmps (x : Tmp × Value) => tmps.setIfInBounds x.1 x.2) a.tmps) = tm
    have htl : tm.toList = setAll a.tmps.toList ps.toList as := by
      rw [← htm, ← setAll_fold, ← Array.foldl_toList, Array.toList_zip]
    refine wpIn_mono (vcI_round hmix assign _ { tmps := tm, defers := [] } w' [] (by rw [htl]; exact hb) rfl 0) fun e a1 w1 hq => ?_
    cases e with
    | normal =>
      obtain ⟨ds1, k1, k2, k3, rfl, k4, k5⟩ := hq
      refine ⟨w1.putObj (w.heap.size + 1) (.loop (rc .busy none)), by rw [hrc] at k4 ⊢; exact run_beginRound k4 rfl, ?_⟩
      show body.wpIn (FW (some (w.heap.size + 1))) 0 P _ _ _
      refine wpIn_mono (vcI_round hmix body _ a1 (w1.putObj (w.heap.size + 1) (.loop (rc .busy none))) [] k5 k1 0) fun e a2 w2 hq2 => ?_
      have sm : ∀ o, Same w1 w2 → Same w' (w2.putObj (w.heap.size + 1) o) := fun o h => (k2.trans h).trans (Same.put _ _ _)
      cases e with
      | normal =>
        obtain ⟨ds2, -, m2, -, m4, m5⟩ := hq2
        exact ⟨_, _, run_endRound none m4, _, rfl, by rw [hrc] at m5 ⊢; exact m5, sm _ ((Same.put _ _ _).trans m2)⟩
      | exit i =>
        obtain ⟨ds2, -, m2, -, m4, m5⟩ := hq2
        exact ⟨_, _, run_endRound (some (.exit i)) m4, _, rfl, by rw [hrc] at m5 ⊢; exact m5, sm _ ((Same.put _ _ _).trans m2)⟩
      | ret =>
        obtain ⟨ds2, -, m2, -, m4, m5⟩ := hq2
        exact ⟨_, _, run_endRound (some .ret) m4, _, rfl, by rw [hrc] at m5 ⊢; exact m5, sm _ ((Same.put _ _ _).trans m2)⟩
      | _ => exact hq2.elim
    | exit i => obtain ⟨_, _, _, _, h⟩ := hq; exact h.elim
    | ret => obtain ⟨_, _, _, _, h⟩ := hq; exact h.elim
    | _ => exact hq.elim)
  rw [hl] at hcall
  unfold CallV at hcall
  split at hcall
  · rename_i gf first captured hg
    let W1 : World := (w.alloc (.deferred (some []))).alloc (.loop (rc .ready none))
    have hW1 : W1.heap = h2 := rfl
    have hevg : a.eval g = .func (.func gf) first captured := by rw [eval_eq]; exact hg
    refine ⟨w.heap.size + 1, [{ target := .collected w.heap.size, args := #[] }], W1, { target := .fn (.func gf) captured, args := first ++ #[.func (.yield (w.heap.size + 1)) #[] #[]] }, W1, gf,
      (first ++ #[.func (.yield (w.heap.size + 1)) #[] #[]]) ++ captured, W1, ?_, ?_, fun _ _ => trivial, ?_, fun hx => (by cases hx), ?_⟩
    · show (Instr.enterLoop fn a.tmps ps assign body none).run P w = _
      rw [run_enterLoop_outer]; subst hrc; rfl
    · simp only [resolve, hevg, Deferred.ofValue]
      simp [Act.eval]
    · show (callFunc gf _).run P W1 = _
      exact run_callFunc hcall.1 _ _
    · have hc := hcall.2 W1 hW1
      have ha : (first.toList ++ [Value.func (.yield (w.heap.size + 1)) #[] #[]] ++ captured.toList).toArray = (first ++ #[.func (.yield (w.heap.size + 1)) #[] #[]]) ++ captured := by apply Array.ext'; simp
      rw [ha] at hc
      refine (callsIn_of hc).mono ?_
      rintro e w3 ⟨v, rfl, hK, hS⟩
      have sW : Same w w3 := ((Same.alloc _ _).trans (Same.alloc _ _)).trans hS
      rcases hK with ⟨k1, k2⟩ | hK
      · rw [hrc] at k1
        refine ⟨_, _, run_endLoop k1 (by simp), ?_⟩
        exact ⟨w.heap.size :: ds, by show [_] ++ a.defers = _; rw [hd]; rfl, sW.trans (Same.put _ _ _), .refl _ _, k2 _⟩
      · obtain ⟨e, he, k1, k2⟩ := anyOf_spec hK
        rw [hrc] at k1
        refine ⟨_, _, run_endLoop k1 (by simp), ?_⟩
        have hfin : ∀ (K : List Value → List Nat → Heap → Prop), K a.tmps.toList (w.heap.size :: ds) (w3.putObj (w.heap.size + 1) (.loop { (rc .done (some (codeEx e))) with state := .exhausted })).heap →
            UpI [] a.tmps.toList w K { a with defers := [{ target := .collected w.heap.size, args := #[] }] ++ a.defers } (w3.putObj (w.heap.size + 1) (.loop { (rc .done (some (codeEx e))) with state := .exhausted })) := fun K hK =>
          ⟨w.heap.size :: ds, by show [_] ++ a.defers = _; rw [hd]; rfl, sW.trans (Same.put _ _ _), .refl _ _, hK⟩
        have k3 := k2 (.loop { (rc .done (some (codeEx e))) with state := .exhausted })
        rw [hrc] at hfin k3
        cases e with
        | nrm => exact absurd he (exitsOf_not body)
        | ret => exact wpIn_ret (hfin _ k3)
        | ext i => exact wpIn_exit (hfin _ k3)
  · exact hcall.elim

/- ## Functions -/
theorem leaves_of {fn : Func} {tmps : Array Value} {R : Ending → World → Prop} {n : Nat} {K : Heap → Prop} : ∀ (ds : List Nat) (w : World), takeDs ds w.heap K → (∀ w', K w'.heap → Same w w' → ∃ v, (results fn tmps).run P w' = .ok v w' ∧ R (.returned v) w') →
    LeavesInM (FW none) n P fn tmps R (ds.map mark) .returning w
  | [], w, h, hK => hK w h (.refl w)
  | D :: ds, w, h, hK => by
    refine ⟨by simp, .inl ⟨D, w.putObj D (.deferred none), rfl, run_takeDeferred h.1, ?_⟩⟩
    exact leaves_of ds _ h.2 fun w' h1 h2 => hK w' h1 ((Same.put _ _ _).trans h2)
theorem funI_sound {f : FuncId} {fn : Func} (hmix : P.follows .mixedOrders = true) (hf : P.funcs[f]? = some fn) (hn : (fn.name == "runtime.NumGoroutine") = false) {H : Hn} {args : List Value} {h : Heap} {R : Value → Heap → Prop}
    (hh : vcFunI P H fn args h R) : Run P f args h R := by
  unfold vcFunI at hh
  split at hh
  · exact hh.elim
  · rename_i c hc
    refine ⟨⟨fn, hf, hn, by simp [hc]⟩, fun w hw => ?_⟩
    subst hw
    refine (callsIn_wide (n := 0)).1 (callsIn_of_wp_marks (F := FW none) hf hc trivial ?_)
    have hl : (args.toArray ++ Array.replicate (fn.ntmps - args.toArray.size) undef : Array Value).toList = args ++ List.replicate (fn.ntmps - args.length) undef := by simp
    refine wpIn_mono (vcI_sound hmix (r := none) (fun g ps as b Q a w ds h hd n => range_sound hmix g ps as b Q a w ds h hd n) c _ { tmps := args.toArray ++ Array.replicate (fn.ntmps - args.toArray.size) undef, defers := [] } w [] (by rw [hl]; exact hh) rfl 0) fun e a' w' hq => ?_
    have fin : ∀ ds, a'.defers = ds.map mark → Same w w' → (takeDs ds w'.heap fun h => resS P fn.results.toList a'.tmps.toList h fun vs => R (one vs) h) →
        LeavesInM (FW none) 0 P fn a'.tmps (fun e w' => ∃ v, e = .returned v ∧ R v w'.heap ∧ Same w w') a'.defers .returning w' := fun ds h1 h2 h3 => by
      rw [h1]
      refine leaves_of ds w' h3 fun w2 h4 h5 => ?_
      obtain ⟨v, hR, hr⟩ := results_run rfl h4
      exact ⟨v, hr w2 rfl, v, rfl, hR, h2.trans h5⟩
    cases e with
    | normal => obtain ⟨ds, h1, h2, -, h4⟩ := hq; exact fin ds h1 h2 h4
    | ret => obtain ⟨ds, h1, h2, -, h4⟩ := hq; exact fin ds h1 h2 h4
    | exit id => obtain ⟨ds, -, -, -, h4⟩ := hq; exact h4.elim
    | _ => exact hq.elim
theorem funI_sound2 {V : Prop} {f : FuncId} {fn : Func} (hmix : P.follows .mixedOrders = true) (hf : P.funcs[f]? = some fn) (hn : (fn.name == "runtime.NumGoroutine") = false) {H : Hn} {args : List Value} {h : Heap} {R : Value → Heap → Prop}
    (hV : V = vcFunI P H fn args h R) (hh : V) : Run P f args h R :=
  funI_sound hmix hf hn (hV ▸ hh)
end
end Go.Proofs.Ytjcjlhpabjjflaa
