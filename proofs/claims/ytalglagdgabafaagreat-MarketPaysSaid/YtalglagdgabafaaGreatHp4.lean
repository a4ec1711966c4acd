/- A run, piece by piece: printed by program (ez2.py). -/
import Derived.Test.YtalglagdgabafaaGreatHp3
import Derived.Test.YtalglagdgabafaaGreatProg
import Derived.RecoverIn
/- A call of vault.whole, which defers, told by what it does. -/
set_option linter.unusedVariables false
namespace Go.Proofs.YtalglagdgabafaaGreat
open Go Go.Proofs
variable {P : Program} {D D' : Fz} {ρ ρ' : List Loc} {m m' : Mem} {chs C : List Chunk} {h h' : Heap} {ro hr : List Nat}
theorem wl_cons {ops : Array Oper} {Q : Exit → Act → World → Prop} {o : Oper} {rest : List Oper} {a : Act} {w : World} {r : Option Nat} {n : Nat} (hg : o.guard = none) (hh : o.wpIn (FW r) n P a w (wpListIn (FW r) n P ops Q rest) Q) : wpListIn (FW r) n P ops Q (o :: rest) a w := by
  unfold wpListIn
  rw [if_pos (by simp [Region.wanted, hg])]
  exact hh
theorem put_frame {a : Act} {l : List Value} {d : Option Tmp} {v : Value} (h : a.tmps.toList = l) : (a.put d v).tmps.toList = lput l d v := by rw [put_list, h]
theorem wl_nil {ops : Array Oper} {Q : Exit → Act → World → Prop} {a : Act} {w : World} {r : Option Nat} {n : Nat} (hh : Q .normal a w) : wpListIn (FW r) n P ops Q [] a w := hh
theorem SAt.cget (M : SAt D ρ m chs C h) {b : Nat} {o : Obj} (hm : [(b, o)] ∈ C) : h[b]? = some o :=
  M.st.own (b, o) (List.mem_flatten.2 ⟨_, List.mem_append.2 (.inr hm), List.mem_singleton_self _⟩)
theorem w_run {o : Oper} {a : Act} {w : World} {next : Act → World → Prop} {Q : Exit → Act → World → Prop} {r : Option Nat} {n : Nat} {v : Value} (hd : isDefer o = false) (h : (execOp (ev a.tmps.toList) o).run P w = .ok (.value v) w) (hn : next (a.put o.dst v) w) : o.wpIn (FW r) n P a w next Q :=
  op_in0 hd (by unfold Oper.wp; rw [eval_eq, h]; exact hn)
theorem w_eff {o : Oper} {a : Act} {w : World} {next : Act → World → Prop} {Q : Exit → Act → World → Prop} {r : Option Nat} {n : Nat} {K : Value → Heap → Prop} (hd : isDefer o = false) (h : effK P ⟨[], [], []⟩ a.tmps.toList o w.heap K) (hn : ∀ v w', K v w'.heap → Same w w' → next (a.put o.dst v) w') : o.wpIn (FW r) n P a w next Q :=
  op_in0 hd (gen_soundR (SWp.r (eff_sound h)) (eval_eq a) rfl hn)
theorem w_load {T : TypeId} {z : Value} (hl : layOf P T = some (.one z)) {t : List Value} {x : Operand} {b : Nat} {v : Value} {E : TypeId} {w : World} {dst : Option Tmp} {ty : TypeId} {pos : String} {after : Array Edge} {guard : Option (Nat × Bool)} (hx : ev t x = .pointer (some ⟨b, 0, none⟩)) (hb : w.heap[b]? = some (.cells #[v] E (0, 0))) :
    (execOp (ev t) ⟨dst, .load T x, ty, pos, after, guard⟩).run P w = .ok (.value v) w := by
  have := run_ld1 (P := P) hl (b := b) (o := 0) (v := v) (w := w) (by rw [hcell_of hb]; rfl)
  simp [execOp, Instr.loadAt, Instr.sureAddr, hx, this]
theorem w_store {T : TypeId} {z : Value} (hl : layOf P T = some (.one z)) {a : Act} {w : World} {x y : Operand} {b : Nat} {u v : Value} {E : TypeId} {dst : Option Tmp} {ty : TypeId} {pos : String} {after : Array Edge} {guard : Option (Nat × Bool)} {C1 C2 : List Chunk} (hx : ev a.tmps.toList x = .pointer (some ⟨b, 0, none⟩)) (hy : ev a.tmps.toList y = v) (hs : single v = true)
    (M : SAt D ρ m chs (C1 ++ [(b, .cells #[u] E (0, 0))] :: C2) w.heap) {next : Act → World → Prop} {Q : Exit → Act → World → Prop} {r : Option Nat} {n : Nat} (hn : ∀ w', SAt D ρ m chs (C1 ++ [(b, .cells #[v] E (0, 0))] :: C2) w'.heap → Same w w' → next (a.put dst undef) w') :
    (⟨dst, .store T x y, ty, pos, after, guard⟩ : Oper).wpIn (FW r) n P a w next Q := by
  refine w_eff (K := fun v' h' => v' = undef ∧ SAt D ρ m chs (C1 ++ [(b, .cells #[v] E (0, 0))] :: C2) h') rfl ?_ ?_
  · simp only [effK, hx, hy, storeK, hl]
    have hq : ∀ v : Value, (([(b, Obj.cells #[v] E (0, 0))] :: (chs ++ (C1 ++ C2))).flatten).Perm (chs ++ (C1 ++ [(b, .cells #[v] E (0, 0))] :: C2)).flatten := fun v => by
      simp only [List.flatten_append, List.flatten_cons]
      exact (List.perm_append_comm_assoc _ _ _).trans ((List.perm_append_comm_assoc _ _ _).append_left _)
    have S := M.st.perm (hq u).symm
    have S' : St D ([(b, .cells ⟨[u]⟩ E (0, 0))] :: (chs ++ (C1 ++ C2))) w.heap := S
    exact onPtr_s (S'.sk0 (v := v) (o := 0) rfl hs fun h' S2 => ⟨trivial, M.mono (.refl D) (St.perm S2 (hq v))⟩)
  · rintro v' w' ⟨rfl, M'⟩ s
    exact hn w' M' s
theorem w_call {g : FuncId} {a : Act} {w : World} {x : Operand} {args : Array Operand} {tys : Array TypeId} {f c : Array Value} {vs : List Value} {dst : Option Tmp} {ty : TypeId} {pos : String} {after : Array Edge} {guard : Option (Nat × Bool)} {K : Value → Heap → Prop} {next : Act → World → Prop} {Q : Exit → Act → World → Prop} {r : Option Nat} {n : Nat}
    (hx : ev a.tmps.toList x = .func (.func g) f c) (hv : (f ++ args.map (ev a.tmps.toList) ++ c).toList = vs) (hrun : Run P g vs w.heap K) (hn : ∀ v w', K v w'.heap → Same w w' → next (a.put dst v) w') : (⟨dst, .call ⟨.value x, args, tys⟩, ty, pos, after, guard⟩ : Oper).wpIn (FW r) n P a w next Q := by
  subst hv
  refine op_in0 rfl (gen_soundR (K := K) (SWp.r ?_) (eval_eq a) rfl hn)
  simp only [execOp, resolve, hx, Deferred.ofValue]
  exact call_gen hrun.1 hrun
theorem w_defer {a : Act} {w : World} {x : Operand} {f : Fn} {p c : Array Value} {tys : Array TypeId} {d : Deferred} {dst : Option Tmp} {ty : TypeId} {pos : String} {after : Array Edge} {guard : Option (Nat × Bool)} {next : Act → World → Prop} {Q : Exit → Act → World → Prop} {n : Nat}
    (hx : ev a.tmps.toList x = .func f p c) (hd : ({ target := .fn f c, args := p } : Deferred) = d) (hn : next (({ a with defers := d :: a.defers } : Act).put dst undef) w) : (⟨dst, .defer ⟨.value x, #[], tys⟩, ty, pos, after, guard⟩ : Oper).wpIn (FW none) n P a w next Q := by
  refine ⟨fun _ _ => trivial, ?_⟩
  rw [show (FW none).round = none from rfl, Oper.semAt_none, eval_eq]
  simp only [execOp, resolve, hx, Deferred.ofValue]
  subst hd
  simp
  exact hn
def okE (e : V) (A : Prop) : Prop :=
  match e with
  | .u (.i .i64 (.ofNat 0)) => A
  | _ => False
def wholeF (ro : List Nat) (call : CallH) (G : FuncId) (args : List V) (m : Mem) (K : V → Mem → Prop) : Option Prop :=
  cond (Nat.beq G 95) (match args with
    | [.r b o, .f g a c] => some (call 109 [.r b o] m fun x m1 => cond (isPtr x) (call g (a ++ c) m1 (gcQ (some m.length) fun e m2 => okE e (K e m2))) False)
    | _ => some False) none
theorem okE_S {e : V} {A : Prop} (h : okE e A) : e = .u (.i .i64 0) ∧ A := by
  unfold okE at h
  split at h
  · exact ⟨rfl, h⟩
  · exact h.elim
structure WhP (P : Program) : Prop where
  fw : P.funcs[95]? = some Tryz.f95
  fc : P.funcs[142]? = some Tryz.f142
  nw : ((Tryz.f95).name == "runtime.NumGoroutine") = false
  nc : ((Tryz.f142).name == "runtime.NumGoroutine") = false
  tp : layOf P 24 = some (.one (.pointer none))
  te : layOf P 35 = some (.one (.int .i64 0))
  ze : (P.info? 35).bind (·.zero) = some (.int .i64 0)
  zp : (P.info? 24).bind (·.zero) = some (.pointer none)
  un : P.underlying 24 = some (.pointer 78)
theorem whp : WhP Tryz.prog := ⟨Tryz.func95, Tryz.func142, by kernel_rfl, by kernel_rfl, by kernel_rfl, by kernel_rfl, by kernel_rfl, by kernel_rfl, by kernel_rfl⟩
theorem whole_S (hP : WhP P) {X : Fz → List Loc → Prop} {call : CallH} (hX : Stab X) (hcall : CallOk P X ro hr call) {b o : Nat} {g : FuncId} {a c : List V} {KS : V → Mem → Prop} {vs : List Value}
    (M0 : m.length = ρ.length) (hs : call 109 [.r b o] m fun x m1 => cond (isPtr x) (call g (a ++ c) m1 (gcQ (some m.length) fun e m2 => okE e (KS e m2))) False) (xx : X D ρ) (M : SAt D ρ m chs C h) (ha : RpL D ρ vs [.r b o, .f g a c]) : Run P 95 vs h (PostE ro hr D ρ m chs C KS) := by
  cases ha with
  | cons h1 ha2 =>
  cases ha2 with
  | cons h2 ha3 =>
  cases ha3
  obtain ⟨L, hL, rfl⟩ := h1.r_inv
  obtain ⟨xs, ys, rfl, hxs, hys⟩ := h2.f_inv
  refine ⟨⟨Tryz.f95, hP.fw, hP.nw, rfl⟩, fun w hw => ?_⟩
  subst hw
  refine (callsIn_wide (n := 0)).1 (callsIn_of_wp_marks (F := FW none) hP.fw rfl trivial ?_)
  generalize hB : Value.pointer (some ⟨L.b, o, none⟩) = vB at *
  generalize hF : Value.func (.func g) xs.toArray ys.toArray = vF at *
  -- the frame
  have e0 : ((#[vB, vF] : Array Value) ++ Array.replicate ((Tryz.f95).ntmps - #[vB, vF].size) undef).toList = [vB, vF, undef, undef, undef, undef, undef, undef, undef, undef, undef, undef, undef] := rfl
  generalize h0 : ({ tmps := [vB, vF].toArray ++ Array.replicate ((Tryz.f95).ntmps - [vB, vF].toArray.size) undef, defers := [] } : Act) = a0
  have f0 : a0.tmps.toList = [vB, vF, undef, undef, undef, undef, undef, undef, undef, undef, undef, undef, undef] := by rw [← h0]; exact e0
  have d0 : a0.defers = [] := by rw [← h0]
  clear h0 e0
  have cB : vB.cells = #[vB] := by rw [← hB]; rfl
  -- region 0
  refine wpIn_seq (wpIn_region_list ?_)
  refine wl_cons rfl ?_
  refine w_eff (K := fun v h' => ∃ b2, v = .pointer (some ⟨b2, 0, none⟩) ∧ SAt D ρ m chs ([(b2, .cells #[vB] 24 (0, 0))] :: C) h') rfl ?_ ?_
  · simp only [effK, f0]
    exact ⟨_, rfl, by rw [show (ev [vB, vF, undef, undef, undef, undef, undef, undef, undef, undef, undef, undef, undef] (.tmp 0)).cells = #[vB] from cB]; exact M.cpush _⟩
  rintro _ w1 ⟨b2, rfl, M1⟩ s1
  have f1 := put_frame (d := some 2) (v := (.pointer (some ⟨b2, 0, none⟩))) f0
  have d1 : (a0.put (some 2) (.pointer (some ⟨b2, 0, none⟩))).defers = [] := by rw [put_defers', d0]
  generalize a0.put (some 2) (.pointer (some ⟨b2, 0, none⟩)) = a1 at f1 d1 ⊢
  refine wl_cons rfl ?_
  refine w_eff (K := fun v h' => ∃ b4, v = .pointer (some ⟨b4, 0, none⟩) ∧ SAt D ρ m chs ([(b4, .cells #[.int .i64 0] 35 (0, 0))] :: [(b2, .cells #[vB] 24 (0, 0))] :: C) h') rfl ?_ ?_
  · simp only [effK]
    rw [hP.ze]
    exact ⟨_, rfl, M1.cpush _⟩
  rintro _ w2 ⟨b4, rfl, M2⟩ s2
  have f2 := put_frame (d := some 4) (v := (.pointer (some ⟨b4, 0, none⟩))) f1
  have d2 : (a1.put (some 4) (.pointer (some ⟨b4, 0, none⟩))).defers = [] := by rw [put_defers', d1]
  generalize a1.put (some 4) (.pointer (some ⟨b4, 0, none⟩)) = a2 at f2 d2 ⊢
  refine wl_nil ?_
  -- region 1, the test
  refine wpIn_seq (wpIn_seq (wpIn_region_list (wl_cons rfl ?_)))
  refine w_run rfl (w_load hP.tp (b := b2) (v := vB) (E := 24) (by rw [f2]; rfl) (M2.cget (by simp))) ?_
  have f3 := put_frame (d := some 6) (v := vB) f2
  have d3 : (a2.put (some 6) vB).defers = [] := by rw [put_defers', d2]
  generalize a2.put (some 6) vB = a3 at f3 d3 ⊢
  refine wl_cons rfl ?_
  obtain ⟨vc, hvc, hrc⟩ := bin_run (P := P) (op := .eql) (T := 24) (x := .tmp 6) (y := .const (.pointer none)) (a := vB) (b := .pointer none) (K := fun v => v = .bool false) (by rw [← hB]; simp only [binK, hP.un]; rfl)
  subst hvc
  refine w_run (v := .bool false) rfl ?_ ?_
  · have e1 : ev a3.tmps.toList (.tmp 6) = vB := by rw [f3]; rfl
    have e2 : ev a3.tmps.toList (.const (.pointer none)) = .pointer none := rfl
    simp only [execOp, e1, e2]
    rw [Sem.run_bind, hrc]
    rfl
  have f4 := put_frame (d := some 7) (v := (.bool false)) f3
  have d4 : (a3.put (some 7) (.bool false)).defers = [] := by rw [put_defers', d3]
  generalize a3.put (some 7) (.bool false) = a4 at f4 d4 ⊢
  refine wl_nil ?_
  refine wpIn_cond_false (by rw [eval_eq, f4]; rfl) (wpIn_skip ?_)
  -- region 3: the clone
  refine wpIn_seq (wpIn_region_list (wl_cons rfl ?_))
  refine w_run rfl (w_load hP.tp (b := b2) (v := vB) (E := 24) (by rw [f4]; rfl) (M2.cget (by simp))) ?_
  have f5 := put_frame (d := some 8) (v := vB) f4
  have d5 : (a4.put (some 8) vB).defers = [] := by rw [put_defers', d4]
  generalize a4.put (some 8) vB = a5 at f5 d5 ⊢
  refine wl_cons rfl ?_
  have hrun1 := hcall (vs := [vB]) xx hs M2 (by rw [← hB]; exact .cons (.r hL) .nil)
  refine w_call (g := 109) (f := #[]) (c := #[]) (vs := [vB]) rfl (by rw [f5]; simp; rfl) hrun1 ?_
  rintro v9 w3 ⟨D1, ρ1, m1, c1, x1, n1, M3, hx1, hk1⟩ s3
  obtain ⟨hp1, hk1⟩ := cond_spec hk1
  obtain ⟨p9, rfl⟩ := hx1.ptr hp1
  have f6 := put_frame (d := some 9) (v := .pointer (some p9)) f5
  have d6 : (a5.put (some 9) (.pointer (some p9))).defers = [] := by rw [put_defers', d5]
  generalize a5.put (some 9) (.pointer (some p9)) = a6 at f6 d6 ⊢
  refine wl_cons rfl ?_
  refine w_eff (K := fun v h' => ∃ b5, v = .pointer (some ⟨b5, 0, none⟩) ∧ SAt D1 ρ1 m1 c1 ([(b5, .cells #[.pointer none] 24 (0, 0))] :: [(b4, .cells #[.int .i64 0] 35 (0, 0))] :: [(b2, .cells #[vB] 24 (0, 0))] :: C) h') rfl ?_ ?_
  · simp only [effK]
    rw [hP.zp]
    exact ⟨_, rfl, M3.cpush _⟩
  rintro _ w4 ⟨b5, rfl, M4⟩ s4
  have f7 := put_frame (d := some 5) (v := .pointer (some ⟨b5, 0, none⟩)) f6
  have d7 : (a6.put (some 5) (.pointer (some ⟨b5, 0, none⟩))).defers = [] := by rw [put_defers', d6]
  generalize a6.put (some 5) (.pointer (some ⟨b5, 0, none⟩)) = a7 at f7 d7 ⊢
  refine wl_cons rfl ?_
  refine w_store hP.tp (C1 := []) (b := b5) (u := .pointer none) (v := .pointer (some p9)) (by rw [f7]; rfl) (by rw [f7]; rfl) rfl M4 ?_
  intro w5 M5 s5
  have f8 := put_frame (d := none) (v := undef) f7
  have d8 : (a7.put none undef).defers = [] := by rw [put_defers', d7]
  generalize a7.put none undef = a8 at f8 d8 ⊢
  refine wl_nil ?_
  -- region 4: what is deferred
  refine wpIn_seq (wpIn_region_list (wl_cons rfl ?_))
  refine w_run (v := .func (.func 142) #[] #[.pointer (some ⟨b4, 0, none⟩), .pointer (some ⟨b5, 0, none⟩), .pointer (some ⟨b2, 0, none⟩)]) rfl ?_ ?_
  · simp only [execOp, Instr.makeFunc, f8, List.map_toArray, List.map_cons, List.map_nil]; rfl
  have f9 := put_frame (d := some 10) (v := .func (.func 142) #[] #[.pointer (some ⟨b4, 0, none⟩), .pointer (some ⟨b5, 0, none⟩), .pointer (some ⟨b2, 0, none⟩)]) f8
  have d9 : (a8.put (some 10) (.func (.func 142) #[] #[.pointer (some ⟨b4, 0, none⟩), .pointer (some ⟨b5, 0, none⟩), .pointer (some ⟨b2, 0, none⟩)])).defers = [] := by rw [put_defers', d8]
  generalize a8.put (some 10) (.func (.func 142) #[] #[.pointer (some ⟨b4, 0, none⟩), .pointer (some ⟨b5, 0, none⟩), .pointer (some ⟨b2, 0, none⟩)]) = a9 at f9 d9 ⊢
  refine wl_cons rfl ?_
  generalize hd : ({ target := .fn (.func 142) #[.pointer (some ⟨b4, 0, none⟩), .pointer (some ⟨b5, 0, none⟩), .pointer (some ⟨b2, 0, none⟩)], args := #[] } : Deferred) = dd
  refine w_defer (f := .func 142) (p := #[]) (c := #[.pointer (some ⟨b4, 0, none⟩), .pointer (some ⟨b5, 0, none⟩), .pointer (some ⟨b2, 0, none⟩)]) (d := dd) (by rw [f9]; rfl) hd ?_
  have f10 := put_frame (a := { a9 with defers := dd :: a9.defers }) (d := none) (v := undef) f9
  have d10 : (({ a9 with defers := dd :: a9.defers } : Act).put none undef).defers = [dd] := by rw [put_defers', d9]
  generalize ({ a9 with defers := dd :: a9.defers } : Act).put none undef = a10 at f10 d10 ⊢
  refine wl_nil ?_
  -- region 5: the call
  refine wpIn_seq (wpIn_region_list (wl_cons rfl ?_))
  refine w_run (v := vF) rfl ?_ ?_
  · simp only [execOp, f10]; rfl
  have f11 := put_frame (d := some 11) (v := vF) f10
  have d11 : (a10.put (some 11) vF).defers = [dd] := by rw [put_defers', d10]
  generalize a10.put (some 11) vF = a11 at f11 d11 ⊢
  refine wl_cons rfl ?_
  have hrun2 := hcall (hX.nx n1 xx) hk1 M5 (n1.rpL (hxs.app hys))
  refine w_call (g := g) (f := xs.toArray) (c := ys.toArray) (vs := xs ++ ys) (by rw [f11, ← hF]; rfl) (by simp) hrun2 ?_
  rintro v12 w6 ⟨D2, ρ2, m2, c2, x2, n2, M6, hx2, hk2⟩ s6
  obtain ⟨ρ3, m3, c3, t3, n3, M7, F7, hk3⟩ := canon_S M (K := fun t m2 => okE (vget t 0) (KS (vget t 0) m2) ∨ okE (wkV (vget t 0)) (KS (wkV (vget t 0)) m2)) hk2 (n1.trans n2) M6 (.cons hx2 .nil)
  have hk4 : vget t3 0 = .u (.i .i64 0) ∧ KS (.u (.i .i64 0)) m3 := by
    rcases hk3 with hk3 | hk3
    · obtain ⟨e, k⟩ := okE_S hk3; rw [e] at k; exact ⟨e, k⟩
    · obtain ⟨e, k⟩ := okE_S hk3
      rw [e] at k
      refine ⟨?_, k⟩
      revert e
      cases vget t3 0 <;> intro e <;> first | exact e | cases e
  have e12 : v12 = .int .i64 0 := by
    have hv : Rp D2 ρ3 v12 (vget t3 0) := by cases F7 with | cons h1 _ => exact h1
    rw [hk4.1] at hv
    cases hv with
    | u hr => cases hr; rfl
  subst e12
  have f12 := put_frame (d := some 12) (v := .int .i64 0) f11
  have d12 : (a11.put (some 12) (.int .i64 0)).defers = [dd] := by rw [put_defers', d11]
  generalize a11.put (some 12) (.int .i64 0) = a12 at f12 d12 ⊢
  refine wl_cons rfl ?_
  refine w_store hP.te (C1 := [_]) (b := b4) (u := .int .i64 0) (v := .int .i64 0) (by rw [f12]; rfl) (by rw [f12]; rfl) rfl M7 ?_
  intro w7 M8 s7
  have f13 := put_frame (d := none) (v := undef) f12
  have d13 : (a12.put none undef).defers = [dd] := by rw [put_defers', d12]
  generalize a12.put none undef = a13 at f13 d13 ⊢
  refine wl_nil (wpIn_ret ?_)
  -- the door
  show LeavesInM _ _ P _ a13.tmps _ a13.defers .returning w7
  rw [d13, ← hd]
  have ss := s1.trans (s2.trans (s3.trans (s4.trans (s5.trans (s6.trans s7)))))
  refine ⟨by simp, .inr ⟨(by intro h; cases h), _, _, _, _, rfl, run_callFunc ⟨_, hP.fc, hP.nc, rfl⟩ _ _, fun _ _ => trivial, (callsDIn_of_wp (R := fun e w' => e = .returned (.tuple #[]) ∧ w' = w7) hP.fc rfl trivial ?_).mono ?_⟩⟩
  · generalize h0 : ({ tmps := #[] ++ #[Value.pointer (some ⟨b4, 0, none⟩), .pointer (some ⟨b5, 0, none⟩), .pointer (some ⟨b2, 0, none⟩)] ++ Array.replicate ((Tryz.f142).ntmps - (#[] ++ #[Value.pointer (some ⟨b4, 0, none⟩), .pointer (some ⟨b5, 0, none⟩), .pointer (some ⟨b2, 0, none⟩)]).size) undef, defers := [] } : Act) = q0
    have g0 : q0.tmps.toList = [Value.pointer (some ⟨b4, 0, none⟩), .pointer (some ⟨b5, 0, none⟩), .pointer (some ⟨b2, 0, none⟩), undef, undef, undef, undef, undef, undef, undef] := by rw [← h0]; rfl
    have k0 : q0.defers = [] := by rw [← h0]
    clear h0
    refine wpIn_seq (wpIn_region_list (wl_cons rfl ?_))
    refine w_run rfl (w_load hP.te (b := b4) (v := .int .i64 0) (E := 35) (by rw [g0]; rfl) (M8.cget (by simp))) ?_
    have g1 := put_frame (d := some 3) (v := .int .i64 0) g0
    have k1 : (q0.put (some 3) (.int .i64 0)).defers = [] := by rw [put_defers', k0]
    generalize q0.put (some 3) (.int .i64 0) = q1 at g1 k1 ⊢
    refine wl_cons rfl ?_
    obtain ⟨vd, hvd, hrd⟩ := bin_run (P := P) (op := .neq) (T := 35) (x := .tmp 3) (y := .const (.int .i64 0)) (a := .int .i64 0) (b := .int .i64 0) (K := fun v => v = .bool false) rfl
    subst hvd
    refine w_run (v := .bool false) rfl ?_ ?_
    · have e1 : ev q1.tmps.toList (.tmp 3) = .int .i64 0 := by rw [g1]; rfl
      have e2 : ev q1.tmps.toList (.const (.int .i64 0)) = .int .i64 0 := rfl
      simp only [execOp, e1, e2]
      rw [Sem.run_bind, hrd]
      rfl
    have g2 := put_frame (d := some 4) (v := .bool false) g1
    have k2 : (q1.put (some 4) (.bool false)).defers = [] := by rw [put_defers', k1]
    generalize q1.put (some 4) (.bool false) = q2 at g2 k2 ⊢
    refine wl_nil ?_
    refine wpIn_cond_false (by rw [eval_eq, g2]; rfl) (wpIn_skip ?_)
    exact ⟨k2, .tuple #[], by simp [results], rfl, rfl⟩
  · rintro e u' w' ⟨rfl, rfl, rfl⟩
    have hb4 := M8.cget (b := b4) (o := .cells #[.int .i64 0] 35 (0, 0)) (by simp)
    obtain ⟨v, hv, hr⟩ := results_run (P := P) (fn := Tryz.f95) (tmps := a13.tmps) rfl (h := w'.heap) (R := fun v _ => v = .int .i64 0) (by
      rw [f13]
      show loadK P 35 (some ⟨b4, 0, none⟩) w'.heap _
      unfold loadK
      rw [hP.te]
      exact ⟨_, by rw [hcell_of hb4]; rfl, rfl⟩)
    subst hv
    refine ⟨_, hr w' rfl, _, rfl, ⟨D2, ρ3, m3, c3, .u (.i .i64 0), n3, M8.cdrop.cdrop.cdrop, .u (by constructor), hk4.2⟩, ss⟩
theorem wholeF_S (hP : WhP P) {X : Fz → List Loc → Prop} {call : CallH} (hX : Stab X) (hcall : CallOk P X ro hr call) {G : FuncId} {args : List V} {KS : V → Mem → Prop} {p : Prop} (hs : wholeF (hr ++ ro) call G args m KS = some p) (hp : p) {vs : List Value} (xx : X D ρ) (M : SAt D ρ m chs C h) (ha : RpL D ρ vs args) : Run P G vs h (PostE ro hr D ρ m chs C KS) := by
  unfold wholeF at hs
  cases hb : Nat.beq G 95 with
  | false => rw [hb] at hs; cases hs
  | true =>
    rw [hb] at hs
    have := Nat.eq_of_beq_eq_true hb
    subst this
    simp only [cond_true] at hs
    split at hs
    · simp only [Option.some.injEq] at hs
      subst hs
      exact whole_S hP hX hcall M.len.symm hp xx M ha
    · simp only [Option.some.injEq] at hs
      subst hs
      exact hp.elim
def spWhole (hP : WhP P) : SP P where
  f := wholeF
  ok := by
    intro ro hr X call hX hcall g args m KS p hs hp D ρ chs C h vs xx M ha
    exact wholeF_S hP hX hcall hs hp xx M ha
def okEE (r : V × Mem) : Option Out :=
  match r.1 with
  | .u (.i .i64 (.ofNat 0)) => some [(.u (.i .i64 (.ofNat 0)), r.2)]
  | _ => none
theorem okEE_ok {r : V × Mem} {l : Out} {K : V → Mem → Prop} (h : okEE r = some l) (hK : ∀ x ∈ l, K x.1 x.2) : okE r.1 (K r.1 r.2) := by
  obtain ⟨x, m⟩ := r
  unfold okEE at h
  dsimp only at h
  split at h
  · cases h
    exact hK (.u (.i .i64 (.ofNat 0)), m) (by simp)
  · cases h
noncomputable def wholeE (ro : List Nat) (callE : CallE) (G : FuncId) (args : List V) (m : Mem) : Option (Option Out) :=
  cond (Nat.beq G 95) (match args with
    | [.r b o, .f g a c] => some (bindS (callE 109 [.r b o] m) fun r1 => cond (isPtr r1.1) (bindS (callE g (rapp a c) r1.2) fun r2 => match gcVF (rlen m) r2 with
      | some r3 => okEE r3
      | none => none) none)
    | _ => some none) none
theorem wholeE_ok {callE : CallE} {call : CallH} (hc : CallEOk callE call) {g : FuncId} {args : List V} {rs : Out} {K : V → Mem → Prop} (h : wholeE ro callE g args m = some (some rs)) (hK : ∀ r ∈ rs, K r.1 r.2) : ∃ p, wholeF ro call g args m K = some p ∧ p := by
  unfold wholeE at h
  unfold wholeF
  cases hb : Nat.beq g 95 with
  | false => rw [hb] at h; cases h
  | true =>
    rw [hb] at h
    simp only [cond_true] at h ⊢
    split at h
    · rename_i b o g' a c
      refine ⟨_, rfl, ?_⟩
      simp only [Option.some.injEq] at h
      obtain ⟨l1, h1, h2⟩ := bindS_ok h
      refine hc h1 fun r1 hr1 => ?_
      obtain ⟨l2, h3, h4⟩ := h2 r1 hr1
      obtain ⟨h5, h6⟩ := condO h3
      rw [h5]
      simp only [cond_true]
      obtain ⟨l3, h7, h8⟩ := bindS_ok h6
      rw [rapp_eq] at h7
      refine hc h7 fun r2 hr2 => ?_
      obtain ⟨l4, h9, h10⟩ := h8 r2 hr2
      split at h9
      · rename_i r3 h11
        rw [rlen_eq] at h11
        exact gcVF_ok (K := fun e m2 => okE e (K e m2)) h11 (.inl (okEE_ok h9 fun x hx => hK x (h4 x (h10 x hx))))
      · cases h9
    · cases h
theorem wholeE_no {callE : CallE} {call : CallH} {g : FuncId} {args : List V} {K : V → Mem → Prop} (h : wholeE ro callE g args m = none) : wholeF ro call g args m K = none := by
  unfold wholeE at h
  unfold wholeF
  cases hb : Nat.beq g 95 with
  | false => rfl
  | true =>
    rw [hb] at h
    simp only [cond_true] at h
    split at h <;> cases h
noncomputable def speWhole (hP : WhP P) : SPE P where
  sp := spWhole hP
  e := wholeE
  ok := by
    intro ro callE call hc g args m rs K h hK
    exact wholeE_ok hc h hK
  no := by
    intro ro callE call g args m K h
    exact wholeE_no h
end Go.Proofs.YtalglagdgabafaaGreat

/- Calls that are known (what they come to is shown elsewhere), within closed runs; runs piece by piece, with such calls. -/
set_option linter.unusedVariables false
namespace Go.Proofs.YtalglagdgabafaaGreat
open Go Go.Proofs
variable {P : Program} {D D' : Fz} {ρ ρ' : List Loc} {m m' : Mem} {chs C : List Chunk} {h h' : Heap} {ro hr : List Nat}
def overL : Mem → List Nat → List AB → Mem
  | m, j :: js, a :: al => overL (ms m j a) js al
  | m, _, _ => m
theorem overL_len : ∀ (js : List Nat) (al : List AB) (m : Mem), (overL m js al).length = m.length
  | [], al, m => by cases al <;> rfl
  | j :: js, [], m => rfl
  | j :: js, a :: al, m => by simp only [overL]; rw [overL_len js al, ms_len]
theorem overL_S : ∀ {js : List Nat} {al : List AB} {cs : List Chunk} {m : Mem} {c : List Chunk}, js.length = al.length → cs.length = al.length → SAt D ρ m c (cs ++ C) h → js.Nodup →
    (∀ (i j : Nat) (a : AB) (ch : Chunk), js[i]? = some j → al[i]? = some a → cs[i]? = some ch → j < m.length ∧ ∃ L, ρ[j]? = some L ∧ Ent D ρ L a ch) →
    ∃ c', SAt D ρ (overL m js al) c' C h ∧ ∀ b, b ∉ js → c'[b]? = c[b]? ∧ mg (overL m js al) b = mg m b
  | [], [], cs, m, c, h1, h2, M, hn, he => by
    have : cs = [] := List.eq_nil_of_length_eq_zero (by simpa using h2)
    subst this
    exact ⟨c, M, fun b _ => ⟨rfl, rfl⟩⟩
  | j :: js, a :: al, ch :: cs, m, c, h1, h2, M, hn, he => by
    obtain ⟨hj, L, hL, hE⟩ := he 0 j a ch rfl rfl rfl
    have M2 : SAt D ρ (ms m j a) (c.set j ch) (cs ++ C) h := M.over hj hL hE
    have hn2 := List.nodup_cons.1 hn
    obtain ⟨c', M3, g⟩ := overL_S (js := js) (al := al) (cs := cs) (by simpa using h1) (by simpa using h2) M2 hn2.2 fun i j' a' ch' q1 q2 q3 => by
      obtain ⟨w1, w2⟩ := he (i + 1) j' a' ch' (by simpa using q1) (by simpa using q2) (by simpa using q3)
      exact ⟨by rw [ms_len]; exact w1, w2⟩
    refine ⟨c', M3, fun b hb => ?_⟩
    simp only [List.mem_cons, not_or] at hb
    obtain ⟨g1, g2⟩ := g b hb.2
    refine ⟨by rw [g1, List.getElem?_set_ne (Ne.symm hb.1)], ?_⟩
    simp only [overL]
    rw [g2, mg_ms_ne (Ne.symm hb.1)]
  | [], _ :: _, _, _, _, h1, _, _, _, _ => by simp at h1
  | _ :: _, [], _, _, _, h1, _, _, _, _ => by simp at h1
  | _ :: _, _ :: _, [], _, _, _, h2, _, _, _ => by simp at h2
def fK (ix : List Nat) (n i : Nat) : Nat := cond (Nat.ble (i + 1) ix.length) (nthN ix i) (n + (i - ix.length))
def backM (m : Mem) (ix : List Nat) (M' : Mem) : Mem :=
  overL (killM m ix ++ List.replicate (M'.length - ix.length) .x) (ix ++ List.range' m.length (M'.length - ix.length)) (M'.map (renA (fK ix m.length)))
theorem fK_lt {ix : List Nat} {n i b : Nat} (h : ix[i]? = some b) : fK ix n i = b := by
  have : i < ix.length := by
    rcases Nat.lt_or_ge i ix.length with h1 | h1
    · exact h1
    · rw [List.getElem?_eq_none h1] at h; cases h
  unfold fK
  rw [Nat.ble_eq_true_of_le this, cond_true]
  exact nthN_eq h
theorem fK_ge {ix : List Nat} {n k : Nat} : fK ix n (ix.length + k) = n + k := by
  unfold fK
  have : Nat.ble (ix.length + k + 1) ix.length = false := by
    cases e : Nat.ble (ix.length + k + 1) ix.length with
    | false => rfl
    | true => have := Nat.le_of_ble_eq_true e; omega
  rw [this, cond_false]; omega
def KnP (P : Program) (ro : List Nat) (g : FuncId) (args : List V) (m : Mem) (K : V → Mem → Prop) : Prop :=
  ∃ (ix : List Nat) (R : V) (M' : Mem), ix.Nodup ∧ (∀ b ∈ ix, b < m.length ∧ b ∉ ro) ∧ (∀ b ∈ ix, ∀ c ∈ refsA (mg m b), c ∈ ix) ∧ (∀ b ∈ refsL args, b ∈ ix) ∧
    PRun P g (subM m ix) (renL (fun b => posL ix b 0) args) (fun x m' => x = R ∧ m' = M') ∧ K (renV (fK ix m.length) R) (backM m ix M')
theorem xs_S : ∀ (k : Nat) {ρ : List Loc} {m : Mem} {chs C : List Chunk} {s : List Loc}, SAt D ρ m chs C h → s.length = k → SAt D (ρ ++ s) (m ++ List.replicate k .x) (chs ++ List.replicate k []) C h
  | 0, ρ, m, chs, C, s, M, hs => by
    have : s = [] := List.eq_nil_of_length_eq_zero hs
    subst this
    simpa using M
  | k + 1, ρ, m, chs, C, [], M, hs => by simp at hs
  | k + 1, ρ, m, chs, C, L :: s, M, hs => by
    have M1 : SAt D (ρ ++ [L]) (m ++ [.x]) (chs ++ [[]]) C h := SAt.push (ch := []) ⟨M.len, M.lch, M.ent, by
      have := M.st
      refine this.perm ?_
      simp⟩ .x
    have := xs_S k (s := s) M1 (by simpa using hs)
    simpa [List.append_assoc, List.replicate_succ] using this
theorem known_S {X : Fz → List Loc → Prop} {g : FuncId} {args : List V} {KS : V → Mem → Prop} (hs : KnP P (hr ++ ro) g args m KS) {vs : List Value} (M : SAt D ρ m chs C h) (ha : RpL D ρ vs args) : Run P g vs h (PostE ro hr D ρ m chs C KS) := by
  obtain ⟨ix, R, M', hnd, hb, hcl, har, hrun, hK⟩ := hs
  obtain ⟨c', cs, hcs, Mk, gk, Ms⟩ := M.sub2 hnd (fun b h => (hb b h).1) hcl
  have ra' := (ren_all (D := D) (ρ := ρ) (f := fun b => posL ix b 0) (ρ' := ix.map fun b => (ρ[b]?).getD ⟨0, none, 0, 0, none⟩)).2.1 ha fun b hb L hL => by
    obtain ⟨k, h4, h5⟩ := posL_get (k := 0) (har b hb)
    rw [h4, Nat.zero_add, List.getElem?_map, h5, Option.map_some, hL]; rfl
  refine (hrun D _ cs (c' ++ C) h vs Ms ra').mono ?_
  rintro v h' ⟨D2, s, cs2, x, m', le, Ms2, hv, rfl, rfl⟩
  -- al many blocks al places
  have l1 := Ms2.len
  have l2 := Ms2.lch
  simp only [List.length_append, List.length_map] at l1
  have hk : m'.length - ix.length = s.length := by omega
  have Mk2 : SAt D2 ρ (killM m ix) c' (cs2 ++ C) h' := ⟨Mk.len, Mk.lch, fun i L ab ch q1 q2 q3 => by have := (Mk.ent i L ab ch q1 q2 q3).mono le (s := []); rwa [List.append_nil] at this, Ms2.st.perm (by
    simp only [List.flatten_append]
    exact List.perm_append_comm_assoc _ _ _)⟩
  have Mx := xs_S (m'.length - ix.length) (s := s) Mk2 hk.symm
  have lm : (killM m ix).length = m.length := killM_len _ _
  have fin : ∀ {i : Nat} {L : Loc}, ((ix.map fun b => (ρ[b]?).getD ⟨0, none, 0, 0, none⟩) ++ s)[i]? = some L → (ρ ++ s)[fK ix m.length i]? = some L := by
    intro i L hL
    rcases Nat.lt_or_ge i ix.length with hi | hi
    · have e := List.getElem?_eq_getElem hi
      rw [List.getElem?_append_left (by simpa using hi), List.getElem?_map, e, Option.map_some] at hL
      rw [fK_lt e]
      have hlt : ix[i] < ρ.length := by rw [M.len]; exact (hb _ (List.getElem_mem hi)).1
      rw [List.getElem?_append_left hlt, List.getElem?_eq_getElem hlt]
      rw [List.getElem?_eq_getElem hlt, Option.getD_some] at hL
      exact hL
    · obtain ⟨k, rfl⟩ := Nat.exists_eq_add_of_le hi
      rw [List.getElem?_append_right (by simp)] at hL
      rw [fK_ge, List.getElem?_append_right (by rw [M.len]; omega)]
      have e1 : m.length + k - ρ.length = k := by rw [M.len]; omega
      have e2 : ix.length + k - (ix.map fun b => (ρ[b]?).getD ⟨0, none, 0, 0, none⟩).length = k := by simp
      rw [e2] at hL
      rw [e1]; exact hL
  have hjs : ∀ (i j : Nat), (ix ++ List.range' m.length (m'.length - ix.length))[i]? = some j → i < m'.length ∧ j = fK ix m.length i ∧ j < m.length + (m'.length - ix.length) := by
    intro i j hj
    rcases Nat.lt_or_ge i ix.length with hi | hi
    · rw [List.getElem?_append_left hi] at hj
      exact ⟨by omega, (fK_lt hj).symm, by have := (hb j (List.mem_of_getElem? hj)).1; omega⟩
    · obtain ⟨k, rfl⟩ := Nat.exists_eq_add_of_le hi
      rw [List.getElem?_append_right (by omega)] at hj
      have hk2 : ix.length + k - ix.length < m'.length - ix.length := by
        rcases Nat.lt_or_ge (ix.length + k - ix.length) (m'.length - ix.length) with q | q
        · exact q
        · rw [List.getElem?_eq_none (by simpa using q)] at hj; cases hj
      rw [List.getElem?_range' hk2] at hj
      simp only [Option.some.injEq] at hj
      rw [fK_ge]
      omega
  obtain ⟨c2, M3, g3⟩ := overL_S (js := ix ++ List.range' m.length (m'.length - ix.length)) (al := m'.map (renA (fK ix m.length))) (cs := cs2) (by simp; omega) (by simp [l2]) Mx (by
      refine List.nodup_append.2 ⟨hnd, List.nodup_range', ?_⟩
      intro a ha b hb2 e
      subst e
      have := (hb a ha).1
      have := List.mem_range'_1.1 hb2
      omega) fun i j a ch q1 q2 q3 => by
    obtain ⟨hi, rfl, hlt⟩ := hjs i j q1
    refine ⟨by simp only [List.length_append, List.length_replicate, lm]; exact hlt, ?_⟩
    simp only [List.getElem?_map] at q2
    obtain ⟨a0, ha0, rfl⟩ := Option.map_eq_some_iff.1 q2
    have hiL : i < ((ix.map fun b => (ρ[b]?).getD ⟨0, none, 0, 0, none⟩) ++ s).length := by simp; omega
    have e := List.getElem?_eq_getElem hiL
    exact ⟨_, fin e, (Ms2.ent i _ a0 ch e ha0 q3).ren fun b _ L hL => fin hL⟩
  have hv3 := (ren_all (D := D2) (f := fK ix m.length) (ρ' := ρ ++ s)).1 hv fun b _ L hL => fin hL
  refine ⟨D2, ρ ++ s, _, c2, _, ⟨le, ⟨s, rfl⟩, fun b h1 h2 => ?_, fun b h1 h2 => ?_, ?_⟩, M3, hv3, hK⟩
  · have hni : b ∉ ix := fun hbi => (hb b hbi).2 (List.mem_append.2 (.inl (inL_iff.1 h1)))
    have hnj : b ∉ ix ++ List.range' m.length (m'.length - ix.length) := by
      intro hh
      rcases List.mem_append.1 hh with q | q
      · exact hni q
      · have := List.mem_range'_1.1 q; omega
    rw [(g3 b hnj).1, List.getElem?_append_left (by rw [Mk.lch, lm]; exact h2), (gk b hni).1]
  · have hni : b ∉ ix := fun hbi => (hb b hbi).2 (inL_iff.1 h1)
    have hnj : b ∉ ix ++ List.range' m.length (m'.length - ix.length) := by
      intro hh
      rcases List.mem_append.1 hh with q | q
      · exact hni q
      · have := List.mem_range'_1.1 q; omega
    have := (g3 b hnj).2
    show mg (overL _ _ _) b = _
    rw [this, mg_app (by rw [lm]; exact h2), (gk b hni).2]
  · rw [overL_len]
    simp only [List.length_append, lm]; omega
def spKn (S : SP P) (Gs : List Nat) : SP P where
  f ro call g args m K := cond (inL Gs g) (some (KnP P ro g args m K)) (S.f ro call g args m K)
  ok := by
    intro ro hr X call hX hcall g args m KS p hs hp D ρ chs C h vs xx M ha
    cases hg : inL Gs g with
    | true =>
      rw [hg] at hs
      simp only [cond_true, Option.some.injEq] at hs
      subst hs
      exact known_S (X := X) hp M ha
    | false => rw [hg] at hs; exact S.ok hX hcall hs hp xx M ha
noncomputable def speKn (E : SPE P) (Gs : List Nat) : SPE P where
  sp := spKn E.sp Gs
  e ro callE g args m := cond (inL Gs g) (some none) (E.e ro callE g args m)
  ok := by
    intro ro callE call hc g args m rs K h hK
    cases hg : inL Gs g with
    | true => rw [hg] at h; cases h
    | false =>
      rw [hg] at h
      obtain ⟨p, h3, h4⟩ := E.ok hc h hK
      exact ⟨p, by show cond (inL Gs g) _ _ = _; rw [hg]; exact h3, h4⟩
  no := by
    intro ro callE call g args m K h
    cases hg : inL Gs g with
    | true => rw [hg] at h; cases h
    | false => rw [hg] at h; show cond (inL Gs g) _ _ = _; rw [hg]; exact E.no h
variable {E : SPE P} {inl : List Nat} {nl n fi : Nat}
structure Ev (P : Program) (E : SPE P) (inl : List Nat) (nl n fi : Nat) (c : Code) (t : Fr) (m : Mem) (rs : Ress) : Prop where
  go : ∀ {Q : PostS}, (∀ r ∈ rs, Q r.1 r.2.1.l r.2.2) → vcC P (HE E inl nl) (runS P (HE E inl nl) n) fi c .out [] [] Q t.l m
theorem Ev.code {c : Code} {t : Fr} {m : Mem} {rs : Ress} (h : CodeE P E inl nl n c t m = some rs) : Ev P E inl nl n fi c t m rs :=
  ⟨fun hQ => cCode_ok (selfE := runF P E inl nl n) (self := runS P (HE E inl nl) n) (runF_ok n) c (Y := .out) (Z := .out) trivial h hQ⟩
theorem Ev.seq {x y : Code} {t t1 : Fr} {m m1 : Mem} {rs : Ress} (hx : Ev P E inl nl n fi x t m [(.nrm, t1, m1)]) (hy : Ev P E inl nl n fi y t1 m1 rs) : Ev P E inl nl n fi (.seq x y) t m rs := by
  refine ⟨fun {Q} hQ => ?_⟩
  have fj : ∀ a b c, findH (HE E inl nl).jo a b c = none := fun a b c => rfl
  simp only [vcC, fj]
  exact hx.go fun r hr => by rw [List.mem_singleton.1 hr]; exact hy.go hQ
theorem Ev.pieces : ∀ {k : Nat} {c : Code} {t t1 : Fr} {m m1 : Mem} {rs : Ress}, evK P E inl nl n k c t m = some (t1, m1) → Ev P E inl nl n fi (dropK k c) t1 m1 rs → Ev P E inl nl n fi c t m rs
  | 0, c, t, t1, m, m1, rs, h, hy => by cases h; exact hy
  | k + 1, .seq x y, t, t1, m, m1, rs, h, hy => by
    simp only [evK] at h
    split at h
    · rename_i t2 m2 h2
      exact Ev.seq (Ev.code h2) (Ev.pieces h hy)
    · cases h
  | _ + 1, .skip, _, _, _, _, _, h, _ => by simp [evK] at h
  | _ + 1, .region .., _, _, _, _, _, h, _ => by simp [evK] at h
  | _ + 1, .cond .., _, _, _, _, _, h, _ => by simp [evK] at h
  | _ + 1, .block .., _, _, _, _, _, h, _ => by simp [evK] at h
  | _ + 1, .loop .., _, _, _, _, _, h, _ => by simp [evK] at h
  | _ + 1, .exit .., _, _, _, _, _, h, _ => by simp [evK] at h
  | _ + 1, .ret, _, _, _, _, _, h, _ => by simp [evK] at h
  | _ + 1, .scope .., _, _, _, _, _, h, _ => by simp [evK] at h
  | _ + 1, .label .., _, _, _, _, _, h, _ => by simp [evK] at h
  | _ + 1, .rangeFunc .., _, _, _, _, _, h, _ => by simp [evK] at h
  | _ + 1, .goto .., _, _, _, _, _, h, _ => by simp [evK] at h
theorem opsSY_app {vw : Bool} {call : CallH} {yh : Nat → List V → Mem → (V → Mem → Prop) → Prop} {ops : List Oper} {K : List V → Mem → Prop} : ∀ (l1 l2 : List Oper) (t : List V) (m : Mem),
    opsSY P vw ro call yh ops K (l1 ++ l2) t m = opsSY P vw ro call yh ops (fun t m => opsSY P vw ro call yh ops K l2 t m) l1 t m
  | [], l2, t, m => rfl
  | o :: l1, l2, t, m => by
    simp only [List.cons_append, opsSY, opsSY_app l1 l2]
theorem cond_brk {b : Bool} {x y : Code} {c : Operand} {t : Fr} {m : Mem} {rs : Ress} (hc : (cOpd c).e t = .u (.b b)) (h : Ev P E inl nl n fi (cond b x y) t m rs) : Ev P E inl nl n fi (.cond c x y) t m rs := by
  refine ⟨fun {Q} hQ => ?_⟩
  rw [cOpd_e] at hc
  simp only [vcC]
  rw [hc]
  have := h.go hQ
  cases b <;> exact this
end Go.Proofs.YtalglagdgabafaaGreat

/- Runs piece by piece: rules that a program prints the use of. -/
set_option linter.unusedVariables false
namespace Go.Proofs.YtalglagdgabafaaGreat
open Go Go.Proofs
variable {P : Program} {E S : SPE P} {inl Gs : List Nat} {nl n fi : Nat}
def cSeq : Code → Bool
  | .seq .. => true
  | _ => false
def cL : Code → Code
  | .seq x _ => x
  | c => c
def cR : Code → Code
  | .seq _ y => y
  | c => c
theorem cSeq_eq {c : Code} (h : cSeq c = true) : c = .seq (cL c) (cR c) := by cases c <;> first | rfl | cases h
theorem Ev.seqP {c : Code} {t t1 : Fr} {m m1 : Mem} {rs : Ress} (hs : cSeq c = true) (hx : Ev P E inl nl n fi (cL c) t m [(.nrm, t1, m1)]) (hy : Ev P E inl nl n fi (cR c) t1 m1 rs) : Ev P E inl nl n fi c t m rs := by
  rw [cSeq_eq hs]; exact Ev.seq hx hy
theorem Ev.seqE {c : Code} {t t1 : Fr} {m m1 : Mem} {e : Ex} (he : e ≠ .nrm) (hs : cSeq c = true) (hx : Ev P E inl nl n fi (cL c) t m [(e, t1, m1)]) : Ev P E inl nl n fi c t m [(e, t1, m1)] := by
  rw [cSeq_eq hs]
  refine ⟨fun {Q} hQ => ?_⟩
  have fj : ∀ a b c, findH (HE E inl nl).jo a b c = none := fun a b c => rfl
  simp only [vcC, fj]
  refine hx.go fun r hr => ?_
  rw [List.mem_singleton.1 hr]
  have := hQ _ (List.mem_singleton_self _)
  cases e with
  | nrm => exact absurd rfl he
  | ret => exact this
  | ext j => exact this
def cCond : Code → Bool
  | .cond .. => true
  | _ => false
def cO : Code → Operand
  | .cond c _ _ => c
  | _ => .tmp 0
def cT : Code → Code
  | .cond _ x _ => x
  | c => c
def cF : Code → Code
  | .cond _ _ y => y
  | c => c
theorem cCond_eq {c : Code} (h : cCond c = true) : c = .cond (cO c) (cT c) (cF c) := by cases c <;> first | rfl | cases h
theorem Ev.condT {c : Code} {t : Fr} {m : Mem} {rs : Ress} (hs : cCond c = true) (hc : (cOpd (cO c)).e t = .u (.b true)) (h : Ev P E inl nl n fi (cT c) t m rs) : Ev P E inl nl n fi c t m rs := by
  rw [cCond_eq hs]; exact cond_brk hc h
theorem Ev.condF {c : Code} {t : Fr} {m : Mem} {rs : Ress} (hs : cCond c = true) (hc : (cOpd (cO c)).e t = .u (.b false)) (h : Ev P E inl nl n fi (cF c) t m rs) : Ev P E inl nl n fi c t m rs := by
  rw [cCond_eq hs]; exact cond_brk hc h
def cBlk : Code → Bool
  | .block .. => true
  | _ => false
def cBd : Code → Code
  | .block _ c => c
  | c => c
def cId : Code → Nat
  | .block i _ => i
  | _ => 0
theorem cBlk_eq {c : Code} (h : cBlk c = true) : c = .block (cId c) (cBd c) := by cases c <;> first | rfl | cases h
def blkE (id : Nat) : Ex → Ex
  | .ext j => cond (Nat.beq j id) .nrm (.ext j)
  | e => e
theorem Ev.blockP {c : Code} {t t1 : Fr} {m m1 : Mem} {e e2 : Ex} (hs : cBlk c = true) (he : blkE (cId c) e = e2) (h : Ev P E inl nl n fi (cBd c) t m [(e, t1, m1)]) : Ev P E inl nl n fi c t m [(e2, t1, m1)] := by
  rw [cBlk_eq hs]
  refine ⟨fun {Q} hQ => ?_⟩
  simp only [vcC]
  refine h.go fun r hr => ?_
  rw [List.mem_singleton.1 hr]
  have := hQ _ (List.mem_singleton_self _)
  subst he
  cases e with
  | nrm => exact this
  | ret => exact this
  | ext j =>
    simp only [blockS]
    simp only [blkE] at this
    cases hb : Nat.beq j (cId c) with
    | true => rw [hb] at this; exact this
    | false => rw [hb] at this; exact this
def cReg : Code → Bool
  | .region _ _ false => true
  | _ => false
def cOp : Code → List Oper
  | .region _ ops _ => ops.toList
  | _ => []
def opAt : List Oper → Nat → Oper
  | o :: _, 0 => o
  | _ :: l, n + 1 => opAt l n
  | [], _ => ⟨none, .move (.tmp 0), 0, "", #[], none⟩
def opCall (o : Oper) : Bool :=
  match o.op with
  | .call ⟨.value _, _, _⟩ => true
  | _ => false
def opF (o : Oper) : Operand :=
  match o.op with
  | .call ⟨.value f, _, _⟩ => f
  | _ => .tmp 0
def opArgs (o : Oper) : List Operand :=
  match o.op with
  | .call ⟨.value _, l, _⟩ => l.toList
  | _ => []
theorem op_split : ∀ {l : List Oper} {k : Nat}, k < l.length → l = l.take k ++ opAt l k :: l.drop (k + 1)
  | [], k, h => by simp at h
  | o :: l, 0, h => rfl
  | o :: l, k + 1, h => by
    show o :: l = o :: (l.take k ++ opAt l k :: l.drop (k + 1))
    rw [← op_split (by simpa using h)]
def okIx (ix : List Nat) (args : List V) (m : Mem) : Bool := below m.length ix && allIn ix (refsL args) && allIn ix (ix.flatMap fun b => refsA (mg m b))
noncomputable abbrev regE (P : Program) (E : SPE P) (inl : List Nat) (nl n : Nat) (L l : List Oper) (t : Fr) (m : Mem) : Option OutsF := (cOps P L l).r [] (callF P E inl (runF P E inl nl n .out) [] []) ((YE.out).h [] []) t m
structure EvO (P : Program) (E : SPE P) (inl : List Nat) (nl n : Nat) (L l : List Oper) (t : Fr) (m : Mem) (outs : OutsF) : Prop where
  go : ∀ {K : List V → Mem → Prop}, (∀ x ∈ outs, K x.1.l x.2) → opsSY P true [] (callH P (HE E inl nl) (runS P (HE E inl nl) n .out) [] []) (YC.out.h [] []) L K l t.l m
theorem callOk0 : CallEOk (callF P E inl (runF P E inl nl n .out) [] []) (callH P (HE E inl nl) (runS P (HE E inl nl) n .out) [] []) :=
  callF_ok (n := nl) (selfE := runF P E inl nl n .out) (self := runS P (HE E inl nl) n .out) (runF_ok n (Y := .out) (Z := .out) trivial)
theorem yhOk0 : YhOk ((YE.out).h [] []) (YC.out.h [] []) := YE.Ok.yh (Y := .out) (Z := .out) trivial
theorem EvO.ops {L l : List Oper} {t : Fr} {m : Mem} {outs : OutsF} (h : regE P E inl nl n L l t m = some outs) : EvO P E inl nl n L l t m outs :=
  ⟨fun hK => cOps_ok callOk0 yhOk0 h hK⟩
theorem Ev.reg {c : Code} {t : Fr} {m : Mem} {outs : OutsF} (hr : cReg c = true) (hd : ((cOp c).all fun o => !isDefer o) = true) (h : EvO P E inl nl n (cOp c) (cOp c) t m outs) : Ev P E inl nl n fi c t m (nrmR outs) := by
  obtain ⟨id, ops, rfl⟩ : ∃ id ops, c = .region id ops false := by cases c <;> first | (rename_i d; cases d <;> first | exact ⟨_, _, rfl⟩ | cases hr) | cases hr
  refine ⟨fun {Q} hQ => ?_⟩
  simp only [cOp] at *
  simp only [vcC]
  rw [hd]
  simp only [cond_true, cond_false]
  exact h.go (K := Q .nrm) fun x hx => hQ (.nrm, x.1, x.2) (List.mem_map.2 ⟨x, hx, rfl⟩)
theorem EvO.op {L l : List Oper} {k : Nat} {t t1 t2 : Fr} {m m1 : Mem} {outs : OutsF} {v : V} (hk : Nat.ble (k + 1) l.length = true)
    (h1 : regE P E inl nl n L (l.take k) t m = some [(t1, m1)]) (hg : (cG L (opAt l k)).g t1 = some (true, t2))
    (hy : yieldOf t2.l (opAt l k) = none) (hq : quietB (opAt l k) = true) (hv : (cQ P (opAt l k)).q t2 m1 = some v)
    (h2 : EvO P E inl nl n L (l.drop (k + 1)) ((cPut (opAt l k).dst).p t2 v) m1 outs) : EvO P E inl nl n L l t m outs := by
  refine ⟨fun {K} hK => ?_⟩
  have hl := op_split (Nat.le_of_ble_eq_true hk)
  suffices hs : opsSY P true [] (callH P (HE E inl nl) (runS P (HE E inl nl) n .out) [] []) (YC.out.h [] []) L K (l.take k ++ opAt l k :: l.drop (k + 1)) t.l m by rw [← hl] at hs; exact hs
  rw [opsSY_app]
  refine cOps_ok callOk0 yhOk0 h1 fun x hx => ?_
  rw [List.mem_singleton.1 hx]
  dsimp only
  simp only [opsSY]
  refine guardE_ok (cG_some hg) ?_
  simp only [cond_true]
  rw [hy]
  dsimp only
  unfold opS
  simp only [cond_true, hq]
  rw [cQ_eq] at hv
  have := h2.go hK
  rw [cPut_eq] at this
  exact quietE_ok (K := fun v => opsSY P true [] (callH P (HE E inl nl) (runS P (HE E inl nl) n .out) [] []) (YC.out.h [] []) L K (l.drop (k + 1)) (vput t2.l (opAt l k).dst v) m1) hv this
theorem EvO.not {L l : List Oper} {k : Nat} {t t1 t2 : Fr} {m m1 : Mem} {outs : OutsF} (hk : Nat.ble (k + 1) l.length = true)
    (h1 : regE P E inl nl n L (l.take k) t m = some [(t1, m1)]) (hg : (cG L (opAt l k)).g t1 = some (false, t2))
    (h2 : EvO P E inl nl n L (l.drop (k + 1)) ((cPut (opAt l k).dst).p t2 (.t [])) m1 outs) : EvO P E inl nl n L l t m outs := by
  refine ⟨fun {K} hK => ?_⟩
  have hl := op_split (Nat.le_of_ble_eq_true hk)
  suffices hs : opsSY P true [] (callH P (HE E inl nl) (runS P (HE E inl nl) n .out) [] []) (YC.out.h [] []) L K (l.take k ++ opAt l k :: l.drop (k + 1)) t.l m by rw [← hl] at hs; exact hs
  rw [opsSY_app]
  refine cOps_ok callOk0 yhOk0 h1 fun x hx => ?_
  rw [List.mem_singleton.1 hx]
  dsimp only
  simp only [opsSY]
  refine guardE_ok (cG_some hg) ?_
  simp only [cond_false]
  have := h2.go hK
  rw [cPut_eq] at this
  exact this
theorem EvO.call {L l : List Oper} {k : Nat} {t t1 t2 : Fr} {m m1 M' ms : Mem} {outs : OutsF} {args al a cc : List V} {g : FuncId} {R : V} (ix : List Nat) (hk : Nat.ble (k + 1) l.length = true)
    (h1 : regE P (speKn S Gs) inl nl n L (l.take k) t m = some [(t1, m1)]) (hg : (cG L (opAt l k)).g t1 = some (true, t2))
    (hc : opCall (opAt l k) = true) (hf : (cOpd (opF (opAt l k))).e t2 = .f g a cc) (hin : inL Gs g = true) (hargs : a ++ evA t2 (cOpds (opArgs (opAt l k))) ++ cc = args)
    (hn : ix.Nodup) (hix : okIx ix args m1 = true) (hm : subM m1 ix = ms) (ha : renL (fun b => posL ix b 0) args = al) (hp : PRun P g ms al fun x m' => x = R ∧ m' = M')
    (h2 : EvO P (speKn S Gs) inl nl n L (l.drop (k + 1)) ((cPut (opAt l k).dst).p t2 (renV (fK ix m1.length) R)) (backM m1 ix M') outs) : EvO P (speKn S Gs) inl nl n L l t m outs := by
  refine ⟨fun {K} hK => ?_⟩
  have hl := op_split (Nat.le_of_ble_eq_true hk)
  suffices hs : opsSY P true [] (callH P (HE (speKn S Gs) inl nl) (runS P (HE (speKn S Gs) inl nl) n .out) [] []) (YC.out.h [] []) L K (l.take k ++ opAt l k :: l.drop (k + 1)) t.l m by rw [← hl] at hs; exact hs
  rw [opsSY_app]
  refine cOps_ok callOk0 yhOk0 h1 fun x hx => ?_
  rw [List.mem_singleton.1 hx]
  dsimp only
  simp only [opsSY]
  refine guardE_ok (cG_some hg) ?_
  simp only [cond_true]
  generalize hoo : opAt l k = o at *
  obtain ⟨dst, op, ty, pos, after, guard⟩ := o
  obtain ⟨f, al', tys, rfl⟩ : ∃ f al' tys, op = .call ⟨.value f, al', tys⟩ := by
    unfold opCall at hc
    split at hc
    · rename_i f l tys he; exact ⟨f, l, tys, he⟩
    · cases hc
  have hf : evS t2.l f = .f g a cc := by rw [← cOpd_e]; exact hf
  have hargs : a ++ al'.toList.map (evS t2.l) ++ cc = args := by rw [← evA_eq]; exact hargs
  have hy : yieldOf t2.l (⟨dst, .call ⟨.value f, al', tys⟩, ty, pos, after, guard⟩ : Oper) = none := by unfold yieldOf; simp only [hf]
  rw [hy]
  dsimp only
  unfold opS
  have hq : quietB (⟨dst, .call ⟨.value f, al', tys⟩, ty, pos, after, guard⟩ : Oper) = false := rfl
  simp only [cond_true, hq, cond_false]
  unfold effS
  simp only [hf]
  rw [hargs]
  unfold callH
  have e : (HE (speKn S Gs) inl nl).sp.f ([] ++ []) (callH0 P (HE (speKn S Gs) inl nl) (runS P (HE (speKn S Gs) inl nl) n .out) [] []) g args m1 = fun K => some (KnP P [] g args m1 K) := by
    funext K
    show cond (inL Gs g) _ _ = _
    rw [hin]; rfl
  rw [e]
  subst hm ha
  simp only [okIx, Bool.and_eq_true] at hix
  refine ⟨ix, R, M', hn, fun b hb => ⟨below_iff hix.1.1 b hb, by simp⟩, fun b hb c hc => allIn_iff hix.2 c (List.mem_flatMap.2 ⟨b, hb, hc⟩), allIn_iff hix.1.2, hp, ?_⟩
  have := h2.go hK
  rw [cPut_eq] at this
  exact this
noncomputable def endKT (P : Program) (fn : Func) (m : Mem) (r : Res) : Option (V × Mem) :=
  match retF P fn r with
  | some x => endE false m.length x
  | none => none
theorem Ev.runT (hmix : P.follows .mixedOrders = true) {f : FuncId} {fn : Func} (hf : P.funcs[f]? = some fn) (hn : (fn.name == "runtime.NumGoroutine") = false) {c : Code} (hc : fn.body = some c) {m : Mem} {args : List V} {r : Res} (h : Ev P E inl nl n f c (frameF P fn args) m [r]) {y : V × Mem} (he : endKT P fn m r = some y) : PRun P f m args fun x m' => x = y.1 ∧ m' = y.2 := by
  refine funSG hmix (H := HE E inl nl) (n := n + 1) (gc := true) hf hn hc ?_
  show vcC P (HE E inl nl) (runS P (HE E inl nl) n) f c .out [] [] _ _ m
  rw [← frameF_l]
  refine h.go fun x hx => ?_
  rw [List.mem_singleton.1 hx]
  unfold endKT at he
  split at he
  · rename_i z hz
    exact retF_ok hz (endE_ok he ⟨rfl, rfl⟩)
  · cases he
end Go.Proofs.YtalglagdgabafaaGreat

/- Runs piece by piece: regions that draw their order, with calls that are known. -/
set_option linter.unusedVariables false
namespace Go.Proofs.YtalglagdgabafaaGreat
open Go Go.Proofs
variable {P : Program} {E S : SPE P} {inl Gs : List Nat} {nl n fi : Nat}
abbrev DSt := Nat × List Nat × List (Nat × List Nat) × Fr × Mem
noncomputable def dr1 (P : Program) (E : SPE P) (inl : List Nat) (nl n : Nat) (ops : List Oper) (s : DSt) : Option DSt :=
  match s with
  | (0, _) => none
  | (k + 1, done, held, t, m) => match nextQ ops done with
    | some i => (match ops[i]? with
      | none => none
      | some o => match (cG ops o).g t with
        | some (true, t') => (match qsF P o t' m with
          | some [v] => some (k, i :: done, cond (pureOp o) held ((i, srcF t' o) :: held), (cPut o.dst).p t' v, m)
          | _ => none)
        | some (false, t') => some (k, i :: done, held, (cPut o.dst).p t' (.t []), m)
        | none => none)
    | none => (match readies ops done with
      | [i] => (match ops[i]? with
        | none => none
        | some o => match (cG ops o).g t with
          | some (true, t') => (match esF P o (heldB ops i held ++ [] ++ []) (callF P E inl (runF P E inl nl n .out) [] (heldB ops i held ++ [])) t' m with
            | some [r] => some (k, i :: done, held, (cPut o.dst).p t' r.1, r.2)
            | _ => none)
          | some (false, t') => some (k, i :: done, held, (cPut o.dst).p t' (.t []), m)
          | none => none)
      | _ => none)
noncomputable def drK (P : Program) (E : SPE P) (inl : List Nat) (nl n : Nat) (ops : List Oper) : Nat → DSt → Option DSt
  | 0, s => some s
  | j + 1, s => match dr1 P E inl nl n ops s with
    | some s' => drK P E inl nl n ops j s'
    | none => none
structure EvD (P : Program) (E : SPE P) (inl : List Nat) (nl n : Nat) (ops : List Oper) (s : DSt) (outs : OutsF) : Prop where
  go : ∀ {K : List V → Mem → Prop}, (∀ x ∈ outs, K x.1.l x.2) → drawS P [] [] (callH P (HE E inl nl) (runS P (HE E inl nl) n .out) []) ops K s.1 s.2.1 s.2.2.1 s.2.2.2.1.l s.2.2.2.2
theorem callOkH {hr : List Nat} : CallEOk (callF P E inl (runF P E inl nl n .out) [] hr) (callH P (HE E inl nl) (runS P (HE E inl nl) n .out) [] hr) :=
  callF_ok (n := nl) (selfE := runF P E inl nl n .out) (self := runS P (HE E inl nl) n .out) (runF_ok n (Y := .out) (Z := .out) trivial)
theorem EvD.code {ops : List Oper} {k : Nat} {done : List Nat} {held : List (Nat × List Nat)} {t : Fr} {m : Mem} {outs : OutsF} (h : (cDraw P ops k done).r [] [] (callF P E inl (runF P E inl nl n .out) []) held t m = some outs) : EvD P E inl nl n ops (k, done, held, t, m) outs :=
  ⟨fun hK => cDraw_ok (callE := callF P E inl (runF P E inl nl n .out) []) (fun h => callOkH (hr := h)) h hK⟩
theorem EvD.step {ops : List Oper} {s s' : DSt} {outs : OutsF} (h : dr1 P E inl nl n ops s = some s') (h2 : EvD P E inl nl n ops s' outs) : EvD P E inl nl n ops s outs := by
  obtain ⟨k, done, held, t, m⟩ := s
  cases k with
  | zero => cases h
  | succ k =>
    refine ⟨fun {K} hK => ?_⟩
    unfold dr1 at h
    dsimp only at h ⊢
    simp only [drawS]
    split at h
    · rename_i i hq
      rw [hq]
      dsimp only
      split at h
      · cases h
      · rename_i o ho
        rw [ho]
        dsimp only
        split at h
        · rename_i t' hg
          split at h
          · rename_i v hv
            cases h
            refine guardE_ok (cG_some hg) ?_
            simp only [cond_true]
            rw [qsF_eq] at hv
            refine quietsE_ok hv fun v' hv' => ?_
            rw [List.mem_singleton.1 hv']
            have := h2.go hK
            dsimp only at this
            rw [cPut_eq, srcF_eq] at this
            exact this
          · cases h
        · rename_i t' hg
          cases h
          have := h2.go hK
          dsimp only at this
          rw [cPut_eq] at this
          exact guardE_ok (cG_some hg) this
        · cases h
    · rename_i hq
      rw [hq]
      dsimp only
      split at h
      · rename_i i hr
        rw [hr]
        dsimp only [conjL]
        split at h
        · cases h
        · rename_i o ho
          rw [ho]
          dsimp only
          split at h
          · rename_i t' hg
            split at h
            · rename_i r hv
              cases h
              refine guardE_ok (cG_some hg) ?_
              simp only [cond_true]
              rw [esF_eq] at hv
              refine effE_ok callOkH hv fun r' hr' => ?_
              rw [List.mem_singleton.1 hr']
              have := h2.go hK
              dsimp only at this
              rw [cPut_eq] at this
              exact this
            · cases h
          · rename_i t' hg
            cases h
            have := h2.go hK
            dsimp only at this
            rw [cPut_eq] at this
            exact guardE_ok (cG_some hg) this
          · cases h
      · cases h
theorem EvD.steps {ops : List Oper} {outs : OutsF} : ∀ {j : Nat} {s s' : DSt}, drK P E inl nl n ops j s = some s' → EvD P E inl nl n ops s' outs → EvD P E inl nl n ops s outs
  | 0, s, s', h, h2 => by cases h; exact h2
  | j + 1, s, s', h, h2 => by
    simp only [drK] at h
    split at h
    · rename_i s1 h1
      exact EvD.step h1 (EvD.steps h h2)
    · cases h
noncomputable def drE (P : Program) (E : SPE P) (inl : List Nat) (nl n : Nat) (ops : List Oper) (i : Nat) (s : DSt) : Option DSt :=
  match s with
  | (0, _) => none
  | (k + 1, done, held, t, m) => (match ops[i]? with
    | none => none
    | some o => match (cG ops o).g t with
      | some (true, t') => (match esF P o (heldB ops i held ++ [] ++ []) (callF P E inl (runF P E inl nl n .out) [] (heldB ops i held ++ [])) t' m with
        | some [r] => some (k, i :: done, held, (cPut o.dst).p t' r.1, r.2)
        | _ => none)
      | some (false, t') => some (k, i :: done, held, (cPut o.dst).p t' (.t []), m)
      | none => none)
theorem drE_ok {ops : List Oper} {i k : Nat} {done : List Nat} {held : List (Nat × List Nat)} {t : Fr} {m : Mem} {s' : DSt} {outs : OutsF} (h : drE P E inl nl n ops i (k + 1, done, held, t, m) = some s') (h2 : EvD P E inl nl n ops s' outs) {K : List V → Mem → Prop} (hK : ∀ x ∈ outs, K x.1.l x.2) :
    (match ops[i]? with
      | none => False
      | some o => guardS ops o t.l
          (fun t => effS P (heldB ops i held ++ [] ++ []) (callH P (HE E inl nl) (runS P (HE E inl nl) n .out) [] (heldB ops i held ++ [])) t m o fun v m' => drawS P [] [] (callH P (HE E inl nl) (runS P (HE E inl nl) n .out) []) ops K k (i :: done) held (vput t o.dst v) m')
          (fun t => drawS P [] [] (callH P (HE E inl nl) (runS P (HE E inl nl) n .out) []) ops K k (i :: done) held (vput t o.dst (.t [])) m)) := by
  unfold drE at h
  dsimp only at h
  split at h
  · cases h
  · rename_i o ho
    split at h
    · rename_i t' hg
      split at h
      · rename_i r hv
        cases h
        refine guardE_ok (cG_some hg) ?_
        simp only [cond_true]
        rw [esF_eq] at hv
        refine effE_ok callOkH hv fun r' hr' => ?_
        rw [List.mem_singleton.1 hr']
        have := h2.go hK
        dsimp only at this
        rw [cPut_eq] at this
        exact this
      · cases h
    · rename_i t' hg
      cases h
      have := h2.go hK
      dsimp only at this
      rw [cPut_eq] at this
      exact guardE_ok (cG_some hg) this
    · cases h
structure EvE (P : Program) (E : SPE P) (inl : List Nat) (nl n : Nat) (ops : List Oper) (i k : Nat) (done : List Nat) (held : List (Nat × List Nat)) (t : Fr) (m : Mem) (outs : OutsF) : Prop where
  go : ∀ {K : List V → Mem → Prop}, (∀ x ∈ outs, K x.1.l x.2) →
    (match ops[i]? with
      | none => False
      | some o => guardS ops o t.l
          (fun t => effS P (heldB ops i held ++ [] ++ []) (callH P (HE E inl nl) (runS P (HE E inl nl) n .out) [] (heldB ops i held ++ [])) t m o fun v m' => drawS P [] [] (callH P (HE E inl nl) (runS P (HE E inl nl) n .out) []) ops K k (i :: done) held (vput t o.dst v) m')
          (fun t => drawS P [] [] (callH P (HE E inl nl) (runS P (HE E inl nl) n .out) []) ops K k (i :: done) held (vput t o.dst (.t [])) m))
def oneR1 (l : List Nat) (i : Nat) : Bool :=
  match l with
  | [j] => Nat.beq j i
  | _ => false
theorem EvD.one {ops : List Oper} {k : Nat} {done : List Nat} {held : List (Nat × List Nat)} {t : Fr} {m : Mem} {outs : OutsF} (i : Nat) (hq : nextQ ops done = none) (hr : oneR1 (readies ops done) i = true) (e : EvE P E inl nl n ops i k done held t m outs) : EvD P E inl nl n ops (k + 1, done, held, t, m) outs := by
  refine ⟨fun {K} hK => ?_⟩
  have hr1 : readies ops done = [i] := by
    revert hr
    cases readies ops done with
    | nil => intro hr; cases hr
    | cons x l => cases l with
      | nil => intro hr; rw [Nat.eq_of_beq_eq_true hr]
      | cons y l => intro hr; cases hr
  dsimp only
  simp only [drawS]
  rw [hq]
  dsimp only
  rw [hr1]
  dsimp only [conjL]
  exact e.go hK
theorem EvE.call {ops : List Oper} {k : Nat} {done : List Nat} {held : List (Nat × List Nat)} {t t2 : Fr} {m M' ms : Mem} {outs : OutsF} {args al a cc : List V} {g : FuncId} {R : V} (i : Nat) (ix : List Nat) (hk : Nat.ble (i + 1) ops.length = true)
    (hg : (cG ops (opAt ops i)).g t = some (true, t2))
    (hc : opCall (opAt ops i) = true) (hf : (cOpd (opF (opAt ops i))).e t2 = .f g a cc) (hin : inL Gs g = true) (hargs : a ++ evA t2 (cOpds (opArgs (opAt ops i))) ++ cc = args)
    (hn : ix.Nodup) (hix : okIx ix args m = true) (hd : disj (heldB ops i held) ix = true) (hm : subM m ix = ms) (ha : renL (fun b => posL ix b 0) args = al) (hp : PRun P g ms al fun x m' => x = R ∧ m' = M')
    (h2 : EvD P (speKn S Gs) inl nl n ops (k, i :: done, held, (cPut (opAt ops i).dst).p t2 (renV (fK ix m.length) R), backM m ix M') outs) : EvE P (speKn S Gs) inl nl n ops i k done held t m outs := by
  refine ⟨fun {K} hK => ?_⟩
  have ho : ops[i]? = some (opAt ops i) := by
    have e := op_split (Nat.le_of_ble_eq_true hk)
    have hl : (ops.take i).length = i := by rw [List.length_take]; have := Nat.le_of_ble_eq_true hk; omega
    rw [e, List.getElem?_append_right (by omega), hl, Nat.sub_self, ← e]
    simp
  rw [ho]
  dsimp only
  refine guardE_ok (cG_some hg) ?_
  simp only [cond_true]
  generalize hoo : opAt ops i = o at *
  obtain ⟨dst, op, ty, pos, after, guard⟩ := o
  obtain ⟨f, al', tys, rfl⟩ : ∃ f al' tys, op = .call ⟨.value f, al', tys⟩ := by
    unfold opCall at hc
    split at hc
    · rename_i f l tys he; exact ⟨f, l, tys, he⟩
    · cases hc
  have hf : evS t2.l f = .f g a cc := by rw [← cOpd_e]; exact hf
  have hargs : a ++ al'.toList.map (evS t2.l) ++ cc = args := by rw [← evA_eq]; exact hargs
  unfold effS
  simp only [hf]
  rw [hargs]
  unfold callH
  have e : (HE (speKn S Gs) inl nl).sp.f ((heldB ops i held ++ []) ++ []) (callH0 P (HE (speKn S Gs) inl nl) (runS P (HE (speKn S Gs) inl nl) n .out) [] (heldB ops i held ++ [])) g args m = fun K => some (KnP P ((heldB ops i held ++ []) ++ []) g args m K) := by
    funext K
    show cond (inL Gs g) _ _ = _
    rw [hin]; rfl
  rw [e]
  subst hm ha
  simp only [okIx, Bool.and_eq_true] at hix
  refine ⟨ix, R, M', hn, fun b hb => ⟨below_iff hix.1.1 b hb, by simpa using disj_iff hd b hb⟩, fun b hb c hc => allIn_iff hix.2 c (List.mem_flatMap.2 ⟨b, hb, hc⟩), allIn_iff hix.1.2, hp, ?_⟩
  have := h2.go hK
  dsimp only at this
  rw [cPut_eq] at this
  exact this
def cRegD : Code → Bool
  | .region _ _ true => true
  | _ => false
theorem Ev.regD {c : Code} {t : Fr} {m : Mem} {outs outs2 : OutsF} (hr : cRegD c = true) (hd : ((cOp c).all fun o => !isDefer o) = true) (hb : (drawB (cOp c) (cOp c).length [] && Region.noSelect (cOp c).toArray) = true)
    (h : EvD P E inl nl n (cOp c) ((cOp c).length, [], [], t, m) outs) (hcn : agreeF (rlen m) outs = some outs2) : Ev P E inl nl n fi c t m (nrmR outs2) := by
  obtain ⟨id, ops, rfl⟩ : ∃ id ops, c = .region id ops true := by cases c <;> first | (rename_i d; cases d <;> first | exact ⟨_, _, rfl⟩ | cases hr) | cases hr
  refine ⟨fun {Q} hQ => ?_⟩
  simp only [cOp] at *
  simp only [vcC]
  rw [hd]
  simp only [cond_true]
  rw [hb]
  simp only [cond_true]
  rw [rlen_eq] at hcn
  exact h.go (K := canonS m.length (Q .nrm)) (agreeF_ok hcn fun y hy => hQ (.nrm, y.1, y.2) (List.mem_map.2 ⟨y, hy, rfl⟩))
def canonAll (n : Nat) (r : Fr × Mem) : OutsF → Prop
  | [] => True
  | x :: l => canonH n x.1 x.2 = some r ∧ canonAll n r l
theorem canonAll_ok {n : Nat} {r : Fr × Mem} : ∀ {l : OutsF}, canonAll n r l → ∀ x ∈ l, canonH n x.1 x.2 = some r
  | [], _, x, hx => by cases hx
  | y :: l, h, x, hx => by
    rcases List.mem_cons.1 hx with rfl | hx
    · exact h.1
    · exact canonAll_ok h.2 x hx
theorem Ev.regD2 {c : Code} {t t3 : Fr} {m m3 : Mem} {outs : OutsF} (hr : cRegD c = true) (hd : ((cOp c).all fun o => !isDefer o) = true) (hb : (drawB (cOp c) (cOp c).length [] && Region.noSelect (cOp c).toArray) = true)
    (h : EvD P E inl nl n (cOp c) ((cOp c).length, [], [], t, m) outs) (hcn : canonAll (rlen m) (t3, m3) outs) : Ev P E inl nl n fi c t m [(.nrm, t3, m3)] := by
  obtain ⟨id, ops, rfl⟩ : ∃ id ops, c = .region id ops true := by cases c <;> first | (rename_i d; cases d <;> first | exact ⟨_, _, rfl⟩ | cases hr) | cases hr
  refine ⟨fun {Q} hQ => ?_⟩
  simp only [cOp] at *
  simp only [vcC]
  rw [hd]
  simp only [cond_true]
  rw [hb]
  simp only [cond_true]
  rw [rlen_eq] at hcn
  exact h.go (K := canonS m.length (Q .nrm)) fun x hx => canonH_ok (canonAll_ok hcn x hx) (hQ _ (List.mem_singleton_self _))
structure EvL (P : Program) (E : SPE P) (inl : List Nat) (nl n fi : Nat) (n0 : Nat) (c : Code) (k : Nat) (t : Fr) (m : Mem) (rs : Ress) : Prop where
  go : ∀ {Q : PostS}, (∀ r ∈ rs, Q r.1 r.2.1.l r.2.2) → rnds (some n0) (fun Q => vcC P (HE E inl nl) (runS P (HE E inl nl) n) fi c .out [] [] Q) Q k t.l m
theorem EvL.round {n0 k : Nat} {c : Code} {t t1 t2 : Fr} {m m1 m2 : Mem} {rs : Ress} (h : Ev P E inl nl n fi c t m [(.nrm, t1, m1)]) (hc : canonH n0 t1 m1 = some (t2, m2)) (h2 : EvL P E inl nl n fi n0 c k t2 m2 rs) : EvL P E inl nl n fi n0 c (k + 1) t m rs := by
  refine ⟨fun {Q} hQ => ?_⟩
  unfold rnds
  refine h.go fun r hr => ?_
  rw [List.mem_singleton.1 hr]
  exact canonH_ok (K := rnds (some n0) (fun Q => vcC P (HE E inl nl) (runS P (HE E inl nl) n) fi c .out [] [] Q) Q k) hc (h2.go hQ)
theorem EvL.last {n0 k : Nat} {c : Code} {t t1 : Fr} {m m1 : Mem} {e : Ex} (he : e ≠ .nrm) (h : Ev P E inl nl n fi c t m [(e, t1, m1)]) : EvL P E inl nl n fi n0 c (k + 1) t m [(e, t1, m1)] := by
  refine ⟨fun {Q} hQ => ?_⟩
  unfold rnds
  refine h.go fun r hr => ?_
  rw [List.mem_singleton.1 hr]
  have := hQ _ (List.mem_singleton_self _)
  cases e with
  | nrm => exact absurd rfl he
  | ret => exact this
  | ext j => exact this
def cLoop : Code → Bool
  | .loop _ => true
  | _ => false
def cLp : Code → Code
  | .loop c => c
  | c => c
theorem Ev.loopP {n0 : Nat} {c : Code} {t : Fr} {m : Mem} {rs : Ress} (hs : cLoop c = true) (hn : rlen m = n0) (h : EvL P E inl nl n fi n0 (cLp c) nl t m rs) : Ev P E inl nl n fi c t m rs := by
  obtain ⟨b, rfl⟩ : ∃ b, c = .loop b := by cases c <;> first | exact ⟨_, rfl⟩ | cases hs
  refine ⟨fun {Q} hQ => ?_⟩
  have fl : ∀ a b c, findH (HE E inl nl).lo a b c = none := fun a b c => rfl
  simp only [vcC, fl]
  rw [rlen_eq] at hn
  subst hn
  exact h.go hQ
end Go.Proofs.YtalglagdgabafaaGreat

/- Runs piece by piece: frames and memories told by what is new in them; operations known under a hypothesis. -/
set_option linter.unusedVariables false
namespace Go.Proofs.YtalglagdgabafaaGreat
open Go Go.Proofs
variable {P : Program} {E S : SPE P} {inl Gs : List Nat} {nl n fi : Nat}
noncomputable def puF : Fr → List (Nat × V) → Fr
  | t, [] => t
  | t, (i, v) :: l => puF ((acc i).s t v) l
def paM : Mem → List (Nat × AB) → Mem → Mem
  | m, [], e => m ++ e
  | m, (i, a) :: l, e => paM (ms m i a) l e
theorem symE {x : Option V} {b c : Bool} (h : x = some (.u (.b b))) (hb : b = c) : x = some (.u (.b c)) := by rw [h, hb]
theorem symN {x : Option V} {b c d : Bool} (h : x = some (.u (.b (not b)))) (hb : b = c) (hd : (not c) = d) : x = some (.u (.b d)) := by rw [h, hb, hd]
theorem symE1 {x : Option (List V)} {b c : Bool} (h : x = some [.u (.b b)]) (hb : b = c) : x = some [.u (.b c)] := by rw [h, hb]
theorem eqF_self (x : Int) : eqF x x = true := by rw [eqF_eq]; simp
theorem EvD.op {ops : List Oper} {k : Nat} {done : List Nat} {held : List (Nat × List Nat)} {t t2 : Fr} {m : Mem} {v : V} {outs : OutsF} (i : Nat) (hk : Nat.ble (i + 1) ops.length = true) (hq : nextQ ops done = some i)
    (hg : (cG ops (opAt ops i)).g t = some (true, t2)) (hv : qsF P (opAt ops i) t2 m = some [v])
    (h2 : EvD P E inl nl n ops (k, i :: done, cond (pureOp (opAt ops i)) held ((i, srcF t2 (opAt ops i)) :: held), (cPut (opAt ops i).dst).p t2 v, m) outs) : EvD P E inl nl n ops (k + 1, done, held, t, m) outs := by
  have ho : ops[i]? = some (opAt ops i) := by
    have e := op_split (Nat.le_of_ble_eq_true hk)
    have hl : (ops.take i).length = i := by rw [List.length_take]; have := Nat.le_of_ble_eq_true hk; omega
    rw [e, List.getElem?_append_right (by omega), hl, Nat.sub_self, ← e]
    simp
  refine EvD.step (s' := (k, i :: done, cond (pureOp (opAt ops i)) held ((i, srcF t2 (opAt ops i)) :: held), (cPut (opAt ops i).dst).p t2 v, m)) ?_ h2
  simp only [dr1, hq, ho, hg, hv]
theorem Ev.codeA {c : Code} {t : Fr} {m : Mem} {rs : Ress} (h : CodeE P E inl nl n c t m = some rs := by kernel_rfl) : Ev P E inl nl n fi c t m rs := Ev.code h
theorem Ev.piecesA {k : Nat} {c : Code} {t t1 : Fr} {m m1 : Mem} {rs : Ress} (h2 : Ev P E inl nl n fi (dropK k c) t1 m1 rs) (h : evK P E inl nl n k c t m = some (t1, m1) := by kernel_rfl) : Ev P E inl nl n fi c t m rs := Ev.pieces h h2
theorem Ev.seqPA {c : Code} {t t1 : Fr} {m m1 : Mem} {rs : Ress} (hx : Ev P E inl nl n fi (cL c) t m [(.nrm, t1, m1)]) (hy : Ev P E inl nl n fi (cR c) t1 m1 rs) (hs : cSeq c = true := by kernel_rfl) : Ev P E inl nl n fi c t m rs := Ev.seqP hs hx hy
theorem Ev.regA {c : Code} {t t3 : Fr} {m m3 : Mem} (h : EvO P E inl nl n (cOp c) (cOp c) t m [(t3, m3)]) (hr : cReg c = true := by kernel_rfl) (hd : ((cOp c).all fun o => !isDefer o) = true := by kernel_rfl) : Ev P E inl nl n fi c t m [(.nrm, t3, m3)] := Ev.reg hr hd h
theorem EvO.opsA {L l : List Oper} {t : Fr} {m : Mem} {outs : OutsF} (h : regE P E inl nl n L l t m = some outs := by kernel_rfl) : EvO P E inl nl n L l t m outs := EvO.ops h
theorem EvD.codeA {ops : List Oper} {k : Nat} {done : List Nat} {held : List (Nat × List Nat)} {t : Fr} {m : Mem} {outs : OutsF} (h : (cDraw P ops k done).r [] [] (callF P E inl (runF P E inl nl n .out) []) held t m = some outs := by kernel_rfl) : EvD P E inl nl n ops (k, done, held, t, m) outs := EvD.code h
theorem EvD.stepsA {ops : List Oper} {outs : OutsF} {j : Nat} {s s' : DSt} (h2 : EvD P E inl nl n ops s' outs) (h : drK P E inl nl n ops j s = some s' := by kernel_rfl) : EvD P E inl nl n ops s outs := EvD.steps h h2
theorem EvD.oneA {ops : List Oper} {k : Nat} {done : List Nat} {held : List (Nat × List Nat)} {t : Fr} {m : Mem} {outs : OutsF} (i : Nat) (e : EvE P E inl nl n ops i k done held t m outs) (hq : nextQ ops done = none := by kernel_rfl) (hr : oneR1 (readies ops done) i = true := by kernel_rfl) : EvD P E inl nl n ops (k + 1, done, held, t, m) outs := EvD.one i hq hr e
theorem EvO.opA {L l : List Oper} {k : Nat} {t t1 t2 : Fr} {m m1 : Mem} {outs : OutsF} {v : V} (hv : (cQ P (opAt l k)).q t2 m1 = some v)
    (h2 : EvO P E inl nl n L (l.drop (k + 1)) ((cPut (opAt l k).dst).p t2 v) m1 outs) (hk : Nat.ble (k + 1) l.length = true := by kernel_rfl)
    (h1 : regE P E inl nl n L (l.take k) t m = some [(t1, m1)] := by kernel_rfl) (hg : (cG L (opAt l k)).g t1 = some (true, t2) := by kernel_rfl)
    (hy : yieldOf t2.l (opAt l k) = none := by kernel_rfl) (hq : quietB (opAt l k) = true := by kernel_rfl) : EvO P E inl nl n L l t m outs := EvO.op hk h1 hg hy hq hv h2
theorem EvO.callA {L l : List Oper} {k : Nat} {t t1 t2 : Fr} {m m1 M' ms : Mem} {outs : OutsF} {args al a cc : List V} {g : FuncId} {R : V} {ix : List Nat} (hp : PRun P g ms al fun x m' => x = R ∧ m' = M')
    (h2 : EvO P (speKn S Gs) inl nl n L (l.drop (k + 1)) ((cPut (opAt l k).dst).p t2 (renV (fK ix m1.length) R)) (backM m1 ix M') outs) (hk : Nat.ble (k + 1) l.length = true := by kernel_rfl)
    (h1 : regE P (speKn S Gs) inl nl n L (l.take k) t m = some [(t1, m1)] := by kernel_rfl) (hg : (cG L (opAt l k)).g t1 = some (true, t2) := by kernel_rfl)
    (hc : opCall (opAt l k) = true := by kernel_rfl) (hf : (cOpd (opF (opAt l k))).e t2 = .f g a cc := by kernel_rfl) (hin : inL Gs g = true := by kernel_rfl) (hargs : a ++ evA t2 (cOpds (opArgs (opAt l k))) ++ cc = args := by kernel_rfl)
    (hn : ix.Nodup := by decide) (hix : okIx ix args m1 = true := by kernel_rfl) (hm : subM m1 ix = ms := by kernel_rfl) (ha : renL (fun b => posL ix b 0) args = al := by kernel_rfl) : EvO P (speKn S Gs) inl nl n L l t m outs :=
  EvO.call ix hk h1 hg hc hf hin hargs hn hix hm ha hp h2
theorem EvE.callA {ops : List Oper} {k : Nat} {done : List Nat} {held : List (Nat × List Nat)} {t t2 : Fr} {m M' ms : Mem} {outs : OutsF} {args al a cc : List V} {g : FuncId} {R : V} {ix : List Nat} (i : Nat) (hp : PRun P g ms al fun x m' => x = R ∧ m' = M')
    (h2 : EvD P (speKn S Gs) inl nl n ops (k, i :: done, held, (cPut (opAt ops i).dst).p t2 (renV (fK ix m.length) R), backM m ix M') outs) (hk : Nat.ble (i + 1) ops.length = true := by kernel_rfl)
    (hg : (cG ops (opAt ops i)).g t = some (true, t2) := by kernel_rfl)
    (hc : opCall (opAt ops i) = true := by kernel_rfl) (hf : (cOpd (opF (opAt ops i))).e t2 = .f g a cc := by kernel_rfl) (hin : inL Gs g = true := by kernel_rfl) (hargs : a ++ evA t2 (cOpds (opArgs (opAt ops i))) ++ cc = args := by kernel_rfl)
    (hn : ix.Nodup := by decide) (hix : okIx ix args m = true := by kernel_rfl) (hd : disj (heldB ops i held) ix = true := by kernel_rfl) (hm : subM m ix = ms := by kernel_rfl) (ha : renL (fun b => posL ix b 0) args = al := by kernel_rfl) : EvE P (speKn S Gs) inl nl n ops i k done held t m outs :=
  EvE.call i ix hk hg hc hf hin hargs hn hix hd hm ha hp h2
theorem Ev.runA (E : SPE P) {f : FuncId} {fn : Func} (hf : P.funcs[f]? = some fn) {c : Code} {m m1 : Mem} {args : List V} {r : Res} {x : V} (h : Ev P E (List.range 600) 300 60 f c (frameF P fn args) m [r]) (he : endKT P fn m r = some (x, m1) := by kernel_rfl)
    (hmix : P.follows .mixedOrders = true := by kernel_rfl) (hn : (fn.name == "runtime.NumGoroutine") = false := by kernel_rfl) (hc : fn.body = some c := by kernel_rfl) : PRun P f m args fun y m' => y = x ∧ m' = m1 := Ev.runT hmix hf hn hc h he
end Go.Proofs.YtalglagdgabafaaGreat

/- Runs piece by piece: numbers that are not known but for bounds. -/
set_option linter.unusedVariables false
namespace Go.Proofs.YtalglagdgabafaaGreat
open Go Go.Proofs
theorem symI {k : IntKind} {x : Option V} {a z : Int} (h : x = some (.u (.i k a))) (e : a = z) : x = some (.u (.i k z)) := by rw [h, e]
theorem symI1 {k : IntKind} {x : Option (List V)} {a z : Int} (h : x = some [.u (.i k a)]) (e : a = z) : x = some [.u (.i k z)] := by rw [h, e]
theorem wrap_in {x : Int} (h : -9223372036854775808 ≤ x ∧ x ≤ 9223372036854775807) : IntKind.wrap .i64 x = x := by
  unfold IntKind.wrap
  simp only [IntKind.signed, IntKind.bits]
  simp
  omega
theorem sAdd {x y z : Int} (h : x + y = z ∧ -9223372036854775808 ≤ z ∧ z ≤ 9223372036854775807) : wrapF .i64 (addF x y) = z := by rw [wrapF_eq, addF_eq, h.1, wrap_in h.2]
theorem sSub {x y z : Int} (h : x - y = z ∧ -9223372036854775808 ≤ z ∧ z ≤ 9223372036854775807) : wrapF .i64 (subF x y) = z := by rw [wrapF_eq, subF_eq, h.1, wrap_in h.2]
theorem sNeg {x z : Int} (h : 0 - x = z ∧ -9223372036854775808 ≤ z ∧ z ≤ 9223372036854775807) : IntKind.wrap .i64 (0 - x) = z := by rw [h.1, wrap_in h.2]
theorem sCv {x : Int} (h : -9223372036854775808 ≤ x ∧ x ≤ 9223372036854775807) : IntKind.wrap .i64 x = x := wrap_in h
theorem sLtT {x y : Int} (h : x < y) : ltF x y = true := by rw [ltF_eq]; exact decide_eq_true h
theorem sLtF {x y : Int} (h : ¬ x < y) : ltF x y = false := by rw [ltF_eq]; exact decide_eq_false h
theorem sLeT {x y : Int} (h : x ≤ y) : leF x y = true := by rw [leF_eq]; exact decide_eq_true h
theorem sEqT {x y : Int} (h : x = y) : eqF x y = true := by rw [eqF_eq]; exact beq_iff_eq.2 h
theorem sEqF {x y : Int} (h : ¬ x = y) : eqF x y = false := by rw [eqF_eq]; exact beq_eq_false_iff_ne.2 h
variable {P : Program} {E : SPE P} {inl : List Nat} {nl n : Nat}
theorem PRun.wk {f : FuncId} {m : Mem} {args : List V} {K : V → Mem → Prop} (h : PRun P f m args fun x m' => K x m' ∨ K (wkV x) m') : PRun P f m args K :=
  fun D ρ chs C hp vs M F => (h D ρ chs C hp vs M F).mono fun _ _ ⟨D', ρ', chs', x, m', a, b, c, d⟩ => by
    rcases d with d | d
    · exact ⟨D', ρ', chs', x, m', a, b, c, d⟩
    · exact ⟨D', ρ', chs', _, m', a, b, wkV_S c, d⟩
noncomputable def endL (P : Program) (fn : Func) (m : Mem) : Ress → Option Out
  | [] => some []
  | r :: rs => match endKT P fn m r with
    | some y => (match endL P fn m rs with
      | some l => some (y :: l)
      | none => none)
    | none => none
theorem endL_mem {fn : Func} {m : Mem} : ∀ {rs : Ress} {l : Out}, endL P fn m rs = some l → ∀ r ∈ rs, ∃ y ∈ l, endKT P fn m r = some y
  | [], _, _, _, hr => by cases hr
  | r0 :: rs, l, h, r, hr => by
    simp only [endL] at h
    split at h
    · rename_i y hy
      split at h
      · rename_i l2 h2
        cases h
        rcases List.mem_cons.1 hr with rfl | hr
        · exact ⟨y, by simp, hy⟩
        · obtain ⟨z, hz, e⟩ := endL_mem h2 r hr
          exact ⟨z, by simp [hz], e⟩
      · cases h
    · cases h
theorem Ev.runM (hmix : P.follows .mixedOrders = true) {f : FuncId} {fn : Func} (hf : P.funcs[f]? = some fn) (hn : (fn.name == "runtime.NumGoroutine") = false) {c : Code} (hc : fn.body = some c) {m : Mem} {args : List V} {rs : Ress} (h : Ev P E inl nl n f c (frameF P fn args) m rs) {l : Out} (hl : endL P fn m rs = some l) {y : V × Mem} (hm : mergeR l = [y]) : PRun P f m args fun x m' => x = y.1 ∧ m' = y.2 := by
  refine PRun.wk (funSG hmix (H := HE E inl nl) (n := n + 1) (gc := true) hf hn hc ?_)
  show vcC P (HE E inl nl) (runS P (HE E inl nl) n) f c .out [] [] _ _ m
  rw [← frameF_l]
  refine h.go fun x hx => ?_
  obtain ⟨z, hz, he⟩ := endL_mem hl x hx
  have hk := mergeR_ok (K := fun a b => a = y.1 ∧ b = y.2) (l := l) (fun w hw => by rw [hm] at hw; rw [List.mem_singleton.1 hw]; exact ⟨rfl, rfl⟩) z hz
  unfold endKT at he
  split at he
  · rename_i q hq
    exact retF_ok hq (endE_ok he hk)
  · cases he
end Go.Proofs.YtalglagdgabafaaGreat

/- What is taken as a fee of up to 304: shown number by number. -/
set_option linter.unusedVariables false
set_option maxRecDepth 1000000
namespace Go.Proofs.YtalglagdgabafaaGreat
open Go Go.Proofs
def upN (n : Int) : Int := (n * 200 + 9999) / 10000
def feeN (n : Int) : Int := if 1 > upN n then 1 else upN n
theorem feeN_bd {n : Int} (h0 : 0 ≤ n) (h1 : n ≤ 304) : 1 ≤ feeN n ∧ feeN n ≤ 50 := by
  unfold feeN upN
  split <;> omega
noncomputable abbrev evB (n : Int) : Option Ress := CodeE Tryz.prog (speWhole whp) (List.range 600) 300 60 (bodyOf Tryz.f89) (frameF Tryz.prog Tryz.f89 [.a [.i 200, .i 1, .i 500], .i n]) []
noncomputable def isF (n : Int) (l : Out) : Bool :=
  match mergeR l with
  | [(.t [.u (.i .i64 a), .u (.i .i64 b)], [])] => eqF a (feeN n) && eqF b 0
  | _ => false
noncomputable def okB (n : Int) : Bool :=
  match evB n with
  | some rs => (match endL Tryz.prog Tryz.f89 [] rs with
    | some l => isF n l
    | none => false)
  | none => false
theorem okB_S {n : Int} (h : okB n = true) : PRun Tryz.prog 89 [] [.a [.i 200, .i 1, .i 500], .i n] fun x m => x = .t [.i (feeN n), .i 0] ∧ m = [] := by
  unfold okB at h
  split at h
  · rename_i rs hrs
    split at h
    · rename_i l hl
      unfold isF at h
      split at h
      · rename_i a b hm
        simp only [Bool.and_eq_true, eqF_eq, beq_iff_eq] at h
        rw [h.1, h.2] at hm
        exact Ev.runM (by kernel_rfl) Tryz.func89 (by kernel_rfl) (c := bodyOf Tryz.f89) (by kernel_rfl) (Ev.code hrs) hl (y := (.t [.i (feeN n), .i 0], [])) hm
      · cases h
    · cases h
  · cases h
noncomputable def allB : Nat → Nat → Bool
  | _, 0 => true
  | lo, k + 1 => okB (Int.ofNat lo) && allB (lo + 1) k
theorem allB_mem : ∀ {k lo : Nat}, allB lo k = true → ∀ n : Nat, lo ≤ n → n < lo + k → okB n = true
  | 0, lo, _, n, h1, h2 => by omega
  | k + 1, lo, h, n, h1, h2 => by
    simp only [allB, Bool.and_eq_true] at h
    rcases Nat.eq_or_lt_of_le h1 with rfl | h3
    · exact h.1
    · exact allB_mem h.2 n h3 (by omega)
theorem allB0 : allB 0 61 = true := by kernel_rfl
theorem allB1 : allB 61 61 = true := by kernel_rfl
theorem allB2 : allB 122 61 = true := by kernel_rfl
theorem allB3 : allB 183 61 = true := by kernel_rfl
theorem allB4 : allB 244 61 = true := by kernel_rfl
theorem broker_S {n : Int} (h0 : 0 ≤ n) (h1 : n ≤ 304) : PRun Tryz.prog 89 [] [.a [.i 200, .i 1, .i 500], .i n] fun x m => x = .t [.i (feeN n), .i 0] ∧ m = [] := by
  obtain ⟨k, rfl⟩ := Int.eq_ofNat_of_zero_le h0
  refine okB_S ?_
  by_cases g1 : k < 61
  · exact allB_mem allB0 k (by omega) (by omega)
  by_cases g2 : k < 122
  · exact allB_mem allB1 k (by omega) (by omega)
  by_cases g3 : k < 183
  · exact allB_mem allB2 k (by omega) (by omega)
  by_cases g4 : k < 244
  · exact allB_mem allB3 k (by omega) (by omega)
  · exact allB_mem allB4 k (by omega) (by omega)
end Go.Proofs.YtalglagdgabafaaGreat

/- A closed run, piece by piece. -/
set_option linter.unusedVariables false
set_option maxRecDepth 1000000
namespace Go.Proofs.YtalglagdgabafaaGreat
open Go Go.Proofs
noncomputable def aw15_t0 : Fr := Fr.of [.u (.b false), .r 10 0, .u (.b true), .z, .z, .z, .z, .z, .z, .z, .z, .z, .z, .z, .t [.a [.r 0 0, .r 3 0, .r 5 0, .r 7 0, .r 9 0], .u (.b true)], .t [.a [.r 0 0, .r 3 0, .r 5 0, .r 7 0, .r 9 0], .u (.b true)], .a [.r 0 0, .r 3 0, .r 5 0, .r 7 0, .r 9 0], .u (.b true), .z, .z, .z, .z, .z, .z, .z, .z, .z, .z, .z, .z, .z, .z, .z, .z, .z, .z, .z, .z, .z, .z, .z, .z, .z, .z, .z, .z, .z, .z, .z, .z, .z, .z, .z, .z, .z, .z, .z, .z, .z, .z, .z, .z, .z, .z, .z, .z, .z, .z, .z, .z, .z, .z, .z, .z, .z, .z, .z, .z, .z, .z, .z, .z, .z, .z, .z, .z, .z, .z, .z, .z, .z, .z, .z, .z, .z, .z, .z, .z, .z, .z, .z, .z, .z, .z, .z, .z, .z, .z, .z, .z, .z, .z, .z, .z, .z, .z, .z, .z, .z]
def aw15_m0 : Mem := [.c [.i 4, .w 1, .i 2, .w 2, .i 3, .i 200, .i 1, .i 500, .r 3 0, .r 5 0, .r 7 0, .r 9 0, .nl 19],
  .w 146 7 [[.n 3, .n 2, .n 10, .l 2 [[.n 1, .n 3], [.n 2, .n 1]], .n 2, .n 3, .n 5], [.n 4, .n 1, .n 7, .l 2 [[.n 3, .n 2]], .n 0, .n 0, .n 3]],
  .w 152 4 [[.n 1, .n 1, .n 1, .n 1000], [.n 1, .n 1, .n 0, .n 0]],
  .c [.w 4, .i 562],
  .w 191 5 [[.n 0, .n 0, .n 0, .n 0, .n 0], [.n 1, .n 0, .n 0, .n 0, .n 60], [.n 2, .n 0, .n 0, .n 0, .n 500], [.n 3, .n 0, .n 0, .n 0, .n 2]],
  .c [.w 6, .n .i64 33 [0, 120, 80, 40, 0, 0, 0, 0, 0, 0, 0, 0, 0, 0, 0, 0, 0, 0, 0, 0, 0, 0, 0, 0, 0, 0, 0, 0, 0, 0, 0, 0, 0]],
  .w 191 5 [[.n 1, .n 0, .n 1, .n 1, .n 60], [.n 1, .n 0, .n 1, .n 2, .n 40], [.n 1, .n 0, .n 1, .n 3, .n 20], [.n 2, .n 0, .n 1, .n 1, .n 60], [.n 2, .n 0, .n 1, .n 2, .n 40], [.n 2, .n 0, .n 1, .n 3, .n 20]],
  .c [.nl 3, .m 8, .i 256, .i 1],
  .p .n 1 false [],
  .c [.nl 4, .nm],
  .c [.r 0 0, .r 3 0, .r 5 0, .r 7 0, .r 9 0]]
theorem aw15_0 : evK Tryz.prog (speWhole whp) (List.range 600) 300 60 2 (dropK 0 (bodyOf Tryz.f15)) (frame0F Tryz.prog Tryz.f15 []) (([] : Mem)) = some (aw15_t0, aw15_m0) := by kernel_rfl
noncomputable def aw15_t1 : Fr := Fr.of [.u (.b false), .r 10 0, .u (.b true), .i 1, .i 0, .z, .z, .z, .z, .z, .z, .z, .z, .z, .t [.a [.r 0 0, .r 3 0, .r 5 0, .r 7 0, .r 9 0], .u (.b true)], .t [.a [.r 0 0, .r 3 0, .r 5 0, .r 7 0, .r 9 0], .u (.b true)], .a [.r 0 0, .r 3 0, .r 5 0, .r 7 0, .r 9 0], .u (.b true), .u (.b true), .u (.b false), .t [.i 1, .i 0], .r 10 0, .r 0 0, .a [.i 0, .i 1, .i 2, .i 0, .i 2, .i 0, .i 1, .i 2, .i 100, .i 50, .i 10, .i 20, .i 0, .w 11, .nl 2, .i 0, .i 0, .i 0, .i 0], .t [.i 1, .i 0], .i 1, .i 0, .z, .z, .z, .z, .z, .z, .z, .z, .z, .z, .z, .z, .z, .z, .z, .z, .z, .z, .z, .z, .z, .z, .z, .z, .z, .z, .z, .z, .z, .z, .z, .z, .z, .z, .z, .z, .z, .z, .z, .z, .z, .z, .z, .z, .z, .z, .z, .z, .z, .z, .z, .z, .z, .z, .z, .z, .z, .z, .z, .z, .z, .z, .z, .z, .z, .z, .z, .z, .z, .z, .z, .z, .z, .z, .z, .z, .z, .z, .z, .z, .z, .z, .z, .z, .z, .z, .z, .z, .z, .z, .z, .z]
def aw15_m1 : Mem := [.c [.i 4, .w 1, .i 2, .w 2, .i 3, .i 200, .i 1, .i 500, .r 3 0, .r 5 0, .r 7 0, .r 9 0, .w 12],
  .w 146 7 [[.n 3, .n 2, .n 10, .l 2 [[.n 1, .n 3], [.n 2, .n 1]], .n 2, .n 3, .n 5], [.n 4, .n 1, .n 7, .l 2 [[.n 3, .n 2]], .n 0, .n 0, .n 3]],
  .w 152 4 [[.n 1, .n 1, .n 1, .n 1000], [.n 1, .n 1, .n 0, .n 0]],
  .c [.w 13, .i 562],
  .w 191 5 [[.n 0, .n 0, .n 0, .n 0, .n 0], [.n 1, .n 0, .n 0, .n 0, .n 60], [.n 2, .n 0, .n 0, .n 0, .n 500], [.n 3, .n 0, .n 0, .n 0, .n 2]],
  .c [.w 14, .n .i64 33 [0, 120, 80, 40, 0, 0, 0, 0, 0, 0, 0, 0, 0, 0, 0, 0, 0, 0, 0, 0, 0, 0, 0, 0, 0, 0, 0, 0, 0, 0, 0, 0, 0]],
  .w 191 5 [[.n 1, .n 0, .n 1, .n 1, .n 60], [.n 1, .n 0, .n 1, .n 2, .n 40], [.n 1, .n 0, .n 1, .n 3, .n 20], [.n 2, .n 0, .n 1, .n 1, .n 60], [.n 2, .n 0, .n 1, .n 2, .n 40], [.n 2, .n 0, .n 1, .n 3, .n 20]],
  .c [.w 15, .m 8, .i 256, .i 2],
  .p .n 1 false [(.n 1, [.n 0])],
  .c [.nl 4, .nm],
  .c [.r 0 0, .r 3 0, .r 5 0, .r 7 0, .r 9 0],
  .w 106 2 [[.n 1, .n 5]],
  .w 33 19 [[.n 1, .n 1, .n 2, .n 0, .n 2, .n 0, .n 1, .n 2, .n 100, .n 50, .n 10, .n 20, .n 3, .l 2 [[.n 1, .n 5]], .l 2 [], .n 1, .n 10, .n 0, .n 0]],
  .w 191 5 [[.n 0, .n 0, .n 0, .n 0, .n 3], [.n 1, .n 0, .n 0, .n 0, .n 60], [.n 2, .n 0, .n 0, .n 0, .n 397], [.n 3, .n 0, .n 0, .n 0, .n 2], [.n 2097153, .n 0, .n 0, .n 0, .n 100]],
  .w 191 5 [[.n 1, .n 0, .n 1, .n 1, .n 60], [.n 1, .n 0, .n 1, .n 2, .n 40], [.n 1, .n 0, .n 1, .n 3, .n 20], [.n 2, .n 0, .n 1, .n 1, .n 55], [.n 2, .n 0, .n 1, .n 2, .n 40], [.n 2, .n 0, .n 1, .n 3, .n 20], [.n 2097153, .n 0, .n 1, .n 1, .n 5]],
  .w 136 3 [[.n 10, .n 1, .n 3]]]
theorem aw15_1 : evK Tryz.prog (speWhole whp) (List.range 600) 300 60 2 (dropK 2 (bodyOf Tryz.f15)) (aw15_t0) (aw15_m0) = some (aw15_t1, aw15_m1) := by kernel_rfl
noncomputable def aw15_t2 : Fr := Fr.of [.u (.b false), .r 10 0, .u (.b true), .i 1, .i 0, .i 0, .i 10, .i 0, .z, .z, .z, .z, .z, .z, .t [.a [.r 0 0, .r 3 0, .r 5 0, .r 7 0, .r 9 0], .u (.b true)], .t [.a [.r 0 0, .r 3 0, .r 5 0, .r 7 0, .r 9 0], .u (.b true)], .a [.r 0 0, .r 3 0, .r 5 0, .r 7 0, .r 9 0], .u (.b true), .u (.b true), .u (.b false), .t [.i 1, .i 0], .r 10 0, .r 0 0, .a [.i 0, .i 1, .i 2, .i 0, .i 2, .i 0, .i 1, .i 2, .i 100, .i 50, .i 10, .i 20, .i 0, .w 11, .nl 2, .i 0, .i 0, .i 0, .i 0], .t [.i 1, .i 0], .i 1, .i 0, .r 10 0, .r 0 0, .i 0, .t [.i 10, .i 0], .r 10 1, .r 3 0, .t [.i 10, .i 0], .i 10, .i 0, .z, .z, .z, .z, .z, .z, .z, .z, .z, .z, .z, .z, .z, .z, .z, .z, .z, .z, .z, .z, .z, .z, .z, .z, .z, .z, .z, .z, .z, .z, .z, .z, .z, .z, .z, .z, .z, .z, .z, .z, .z, .z, .z, .z, .z, .z, .z, .z, .z, .z, .z, .z, .z, .z, .z, .z, .z, .z, .z, .z, .z, .z, .z, .z, .z, .z, .z, .z, .z, .z, .z, .z, .z, .z, .z, .z, .z, .z, .z, .z, .z, .z, .z]
def aw15_m2 : Mem := [.c [.i 4, .w 1, .i 2, .w 2, .i 3, .i 200, .i 1, .i 500, .r 3 0, .r 5 0, .r 7 0, .r 9 0, .w 12],
  .w 146 7 [[.n 3, .n 2, .n 10, .l 2 [[.n 1, .n 3], [.n 2, .n 1]], .n 2, .n 3, .n 5], [.n 4, .n 1, .n 7, .l 2 [[.n 3, .n 2]], .n 0, .n 0, .n 3]],
  .w 152 4 [[.n 1, .n 1, .n 1, .n 1000], [.n 1, .n 1, .n 0, .n 0]],
  .c [.w 16, .i 562],
  .w 191 5 [[.n 0, .n 0, .n 0, .n 0, .n 0], [.n 1, .n 0, .n 0, .n 0, .n 60], [.n 2, .n 0, .n 0, .n 0, .n 500], [.n 3, .n 0, .n 0, .n 0, .n 2]],
  .c [.w 14, .n .i64 33 [0, 120, 80, 40, 0, 0, 0, 0, 0, 0, 0, 0, 0, 0, 0, 0, 0, 0, 0, 0, 0, 0, 0, 0, 0, 0, 0, 0, 0, 0, 0, 0, 0]],
  .w 191 5 [[.n 1, .n 0, .n 1, .n 1, .n 60], [.n 1, .n 0, .n 1, .n 2, .n 40], [.n 1, .n 0, .n 1, .n 3, .n 20], [.n 2, .n 0, .n 1, .n 1, .n 60], [.n 2, .n 0, .n 1, .n 2, .n 40], [.n 2, .n 0, .n 1, .n 3, .n 20]],
  .c [.w 17, .m 8, .i 256, .i 3],
  .p .n 1 false [(.n 2, [.n 0])],
  .c [.nl 4, .nm],
  .c [.r 0 0, .r 3 0, .r 5 0, .r 7 0, .r 9 0],
  .w 106 2 [[.n 1, .n 5]],
  .w 33 19 [[.n 1, .n 1, .n 2, .n 0, .n 2, .n 0, .n 1, .n 2, .n 100, .n 50, .n 10, .n 20, .n 3, .l 2 [[.n 1, .n 5]], .l 2 [], .n 2, .n 23, .n 1, .n 0]],
  .w 191 5 [[.n 0, .n 0, .n 0, .n 0, .n 3], [.n 1, .n 0, .n 0, .n 0, .n 60], [.n 2, .n 0, .n 0, .n 0, .n 397], [.n 3, .n 0, .n 0, .n 0, .n 2], [.n 2097153, .n 0, .n 0, .n 0, .n 100]],
  .w 191 5 [[.n 1, .n 0, .n 1, .n 1, .n 60], [.n 1, .n 0, .n 1, .n 2, .n 40], [.n 1, .n 0, .n 1, .n 3, .n 20], [.n 2, .n 0, .n 1, .n 1, .n 55], [.n 2, .n 0, .n 1, .n 2, .n 40], [.n 2, .n 0, .n 1, .n 3, .n 20], [.n 2097153, .n 0, .n 1, .n 1, .n 5]],
  .x,
  .w 191 5 [[.n 0, .n 0, .n 0, .n 0, .n 3], [.n 1, .n 0, .n 0, .n 0, .n 10], [.n 2, .n 0, .n 0, .n 0, .n 397], [.n 3, .n 0, .n 0, .n 0, .n 2], [.n 2097153, .n 0, .n 0, .n 0, .n 150]],
  .w 136 3 [[.n 23, .n 2, .n 3]]]
theorem aw15_2 : evK Tryz.prog (speWhole whp) (List.range 600) 300 60 2 (dropK 4 (bodyOf Tryz.f15)) (aw15_t1) (aw15_m1) = some (aw15_t2, aw15_m2) := by kernel_rfl
noncomputable def aw15_t3 : Fr := Fr.of [.u (.b false), .r 10 0, .u (.b true), .i 1, .i 0, .i 0, .i 10, .i 0, .i 0, .i 160, .i 0, .z, .z, .z, .t [.a [.r 0 0, .r 3 0, .r 5 0, .r 7 0, .r 9 0], .u (.b true)], .t [.a [.r 0 0, .r 3 0, .r 5 0, .r 7 0, .r 9 0], .u (.b true)], .a [.r 0 0, .r 3 0, .r 5 0, .r 7 0, .r 9 0], .u (.b true), .u (.b true), .u (.b false), .t [.i 1, .i 0], .r 10 0, .r 0 0, .a [.i 0, .i 1, .i 2, .i 0, .i 2, .i 0, .i 1, .i 2, .i 100, .i 50, .i 10, .i 20, .i 0, .w 11, .nl 2, .i 0, .i 0, .i 0, .i 0], .t [.i 1, .i 0], .i 1, .i 0, .r 10 0, .r 0 0, .i 0, .t [.i 10, .i 0], .r 10 1, .r 3 0, .t [.i 10, .i 0], .i 10, .i 0, .r 10 0, .r 0 0, .i 0, .t [.i 160, .i 0], .r 10 1, .r 3 0, .t [.i 160, .i 0], .i 160, .i 0, .z, .z, .z, .z, .z, .z, .z, .z, .z, .z, .z, .z, .z, .z, .z, .z, .z, .z, .z, .z, .z, .z, .z, .z, .z, .z, .z, .z, .z, .z, .z, .z, .z, .z, .z, .z, .z, .z, .z, .z, .z, .z, .z, .z, .z, .z, .z, .z, .z, .z, .z, .z, .z, .z, .z, .z, .z, .z, .z, .z, .z, .z, .z, .z, .z, .z, .z, .z, .z, .z, .z, .z, .z, .z]
def aw15_m3 : Mem := [.c [.i 4, .w 1, .i 2, .w 2, .i 3, .i 200, .i 1, .i 500, .r 3 0, .r 5 0, .r 7 0, .r 9 0, .w 12],
  .w 146 7 [[.n 3, .n 2, .n 10, .l 2 [[.n 1, .n 3], [.n 2, .n 1]], .n 2, .n 3, .n 5], [.n 4, .n 1, .n 7, .l 2 [[.n 3, .n 2]], .n 0, .n 0, .n 3]],
  .w 152 4 [[.n 1, .n 1, .n 1, .n 1000], [.n 1, .n 1, .n 0, .n 0]],
  .c [.w 18, .i 562],
  .w 191 5 [[.n 0, .n 0, .n 0, .n 0, .n 0], [.n 1, .n 0, .n 0, .n 0, .n 60], [.n 2, .n 0, .n 0, .n 0, .n 500], [.n 3, .n 0, .n 0, .n 0, .n 2]],
  .c [.w 19, .n .i64 33 [0, 120, 80, 40, 0, 0, 0, 0, 0, 0, 0, 0, 0, 0, 0, 0, 0, 0, 0, 0, 0, 0, 0, 0, 0, 0, 0, 0, 0, 0, 0, 0, 0]],
  .w 191 5 [[.n 1, .n 0, .n 1, .n 1, .n 60], [.n 1, .n 0, .n 1, .n 2, .n 40], [.n 1, .n 0, .n 1, .n 3, .n 20], [.n 2, .n 0, .n 1, .n 1, .n 60], [.n 2, .n 0, .n 1, .n 2, .n 40], [.n 2, .n 0, .n 1, .n 3, .n 20]],
  .c [.v 17 3 0 0 false, .m 8, .i 256, .i 3],
  .p .n 1 false [],
  .c [.w 20, .m 21],
  .c [.r 0 0, .r 3 0, .r 5 0, .r 7 0, .r 9 0],
  .w 106 2 [[.n 1, .n 5]],
  .w 33 19 [[.n 1, .n 1, .n 2, .n 0, .n 2, .n 0, .n 1, .n 2, .n 100, .n 50, .n 10, .n 20, .n 3, .l 2 [[.n 1, .n 5]], .l 2 [], .n 3, .n 0, .n 1, .n 0]],
  .w 191 5 [[.n 0, .n 0, .n 0, .n 0, .n 3], [.n 1, .n 0, .n 0, .n 0, .n 60], [.n 2, .n 0, .n 0, .n 0, .n 397], [.n 3, .n 0, .n 0, .n 0, .n 2], [.n 2097153, .n 0, .n 0, .n 0, .n 100]],
  .w 191 5 [[.n 1, .n 0, .n 1, .n 1, .n 60], [.n 1, .n 0, .n 1, .n 2, .n 40], [.n 1, .n 0, .n 1, .n 3, .n 20], [.n 2, .n 0, .n 1, .n 1, .n 55], [.n 2, .n 0, .n 1, .n 2, .n 40], [.n 2, .n 0, .n 1, .n 3, .n 20], [.n 2097153, .n 0, .n 1, .n 1, .n 5]],
  .x,
  .w 191 5 [[.n 0, .n 0, .n 0, .n 0, .n 3], [.n 1, .n 0, .n 0, .n 0, .n 10], [.n 2, .n 0, .n 0, .n 0, .n 397], [.n 3, .n 0, .n 0, .n 0, .n 2], [.n 2097153, .n 0, .n 0, .n 0, .n 150]],
  .w 136 3 [[.n 23, .n 2, .n 3]],
  .w 191 5 [[.n 0, .n 0, .n 0, .n 0, .n 3], [.n 1, .n 0, .n 0, .n 0, .n 160], [.n 2, .n 0, .n 0, .n 0, .n 397], [.n 3, .n 0, .n 0, .n 0, .n 2], [.n 2097153, .n 0, .n 0, .n 0, .n 0]],
  .w 191 5 [[.n 1, .n 0, .n 1, .n 1, .n 60], [.n 1, .n 0, .n 1, .n 2, .n 40], [.n 1, .n 0, .n 1, .n 3, .n 20], [.n 2, .n 0, .n 1, .n 1, .n 55], [.n 2, .n 0, .n 1, .n 2, .n 40], [.n 2, .n 0, .n 1, .n 3, .n 20], [.n 2, .n 0, .n 2, .n 1, .n 5]],
  .w 54 4 [[.n 9, .n 2, .n 1, .n 3]],
  .p (.a 2) 1 false [(.a [2, 1], [.n 0])]]
theorem aw15_3 : evK Tryz.prog (speWhole whp) (List.range 600) 300 60 2 (dropK 6 (bodyOf Tryz.f15)) (aw15_t2) (aw15_m2) = some (aw15_t3, aw15_m3) := by kernel_rfl
noncomputable def aw15_t4 : Fr := Fr.of [.u (.b false), .r 10 0, .u (.b true), .i 1, .i 0, .i 0, .i 10, .i 0, .i 0, .i 160, .i 0, .i 2, .i 0, .z, .t [.a [.r 0 0, .r 3 0, .r 5 0, .r 7 0, .r 9 0], .u (.b true)], .t [.a [.r 0 0, .r 3 0, .r 5 0, .r 7 0, .r 9 0], .u (.b true)], .a [.r 0 0, .r 3 0, .r 5 0, .r 7 0, .r 9 0], .u (.b true), .u (.b true), .u (.b false), .t [.i 1, .i 0], .r 10 0, .r 0 0, .a [.i 0, .i 1, .i 2, .i 0, .i 2, .i 0, .i 1, .i 2, .i 100, .i 50, .i 10, .i 20, .i 0, .w 11, .nl 2, .i 0, .i 0, .i 0, .i 0], .t [.i 1, .i 0], .i 1, .i 0, .r 10 0, .r 0 0, .i 0, .t [.i 10, .i 0], .r 10 1, .r 3 0, .t [.i 10, .i 0], .i 10, .i 0, .r 10 0, .r 0 0, .i 0, .t [.i 160, .i 0], .r 10 1, .r 3 0, .t [.i 160, .i 0], .i 160, .i 0, .t [.i 2, .i 0], .r 10 0, .r 0 0, .a [.i 0, .i 1, .i 2, .i 0, .i 2, .i 0, .i 1, .i 2, .i 100, .i 50, .i 10, .i 20, .i 0, .w 22, .nl 2, .i 0, .i 0, .i 0, .i 0], .t [.i 2, .i 0], .i 2, .i 0, .z, .z, .z, .z, .z, .z, .z, .z, .z, .z, .z, .z, .z, .z, .z, .z, .z, .z, .z, .z, .z, .z, .z, .z, .z, .z, .z, .z, .z, .z, .z, .z, .z, .z, .z, .z, .z, .z, .z, .z, .z, .z, .z, .z, .z, .z, .z, .z, .z, .z, .z, .z, .z, .z, .z, .z, .z, .z, .z, .z, .z, .z, .z, .z, .z, .z, .z]
def aw15_m4 : Mem := [.c [.i 4, .w 1, .i 2, .w 2, .i 3, .i 200, .i 1, .i 500, .r 3 0, .r 5 0, .r 7 0, .r 9 0, .w 23],
  .w 146 7 [[.n 3, .n 2, .n 10, .l 2 [[.n 1, .n 3], [.n 2, .n 1]], .n 2, .n 3, .n 5], [.n 4, .n 1, .n 7, .l 2 [[.n 3, .n 2]], .n 0, .n 0, .n 3]],
  .w 152 4 [[.n 1, .n 1, .n 1, .n 1000], [.n 1, .n 1, .n 0, .n 0]],
  .c [.w 24, .i 562],
  .w 191 5 [[.n 0, .n 0, .n 0, .n 0, .n 0], [.n 1, .n 0, .n 0, .n 0, .n 60], [.n 2, .n 0, .n 0, .n 0, .n 500], [.n 3, .n 0, .n 0, .n 0, .n 2]],
  .c [.w 25, .n .i64 33 [0, 120, 80, 40, 0, 0, 0, 0, 0, 0, 0, 0, 0, 0, 0, 0, 0, 0, 0, 0, 0, 0, 0, 0, 0, 0, 0, 0, 0, 0, 0, 0, 0]],
  .w 191 5 [[.n 1, .n 0, .n 1, .n 1, .n 60], [.n 1, .n 0, .n 1, .n 2, .n 40], [.n 1, .n 0, .n 1, .n 3, .n 20], [.n 2, .n 0, .n 1, .n 1, .n 60], [.n 2, .n 0, .n 1, .n 2, .n 40], [.n 2, .n 0, .n 1, .n 3, .n 20]],
  .c [.w 26, .m 8, .i 256, .i 4],
  .p .n 1 false [(.n 3, [.n 0])],
  .c [.w 20, .m 21],
  .c [.r 0 0, .r 3 0, .r 5 0, .r 7 0, .r 9 0],
  .w 106 2 [[.n 1, .n 5]],
  .x,
  .w 191 5 [[.n 0, .n 0, .n 0, .n 0, .n 3], [.n 1, .n 0, .n 0, .n 0, .n 60], [.n 2, .n 0, .n 0, .n 0, .n 397], [.n 3, .n 0, .n 0, .n 0, .n 2], [.n 2097153, .n 0, .n 0, .n 0, .n 100]],
  .w 191 5 [[.n 1, .n 0, .n 1, .n 1, .n 60], [.n 1, .n 0, .n 1, .n 2, .n 40], [.n 1, .n 0, .n 1, .n 3, .n 20], [.n 2, .n 0, .n 1, .n 1, .n 55], [.n 2, .n 0, .n 1, .n 2, .n 40], [.n 2, .n 0, .n 1, .n 3, .n 20], [.n 2097153, .n 0, .n 1, .n 1, .n 5]],
  .x,
  .w 191 5 [[.n 0, .n 0, .n 0, .n 0, .n 3], [.n 1, .n 0, .n 0, .n 0, .n 10], [.n 2, .n 0, .n 0, .n 0, .n 397], [.n 3, .n 0, .n 0, .n 0, .n 2], [.n 2097153, .n 0, .n 0, .n 0, .n 150]],
  .x,
  .w 191 5 [[.n 0, .n 0, .n 0, .n 0, .n 3], [.n 1, .n 0, .n 0, .n 0, .n 160], [.n 2, .n 0, .n 0, .n 0, .n 397], [.n 3, .n 0, .n 0, .n 0, .n 2], [.n 2097153, .n 0, .n 0, .n 0, .n 0]],
  .w 191 5 [[.n 1, .n 0, .n 1, .n 1, .n 60], [.n 1, .n 0, .n 1, .n 2, .n 40], [.n 1, .n 0, .n 1, .n 3, .n 20], [.n 2, .n 0, .n 1, .n 1, .n 55], [.n 2, .n 0, .n 1, .n 2, .n 40], [.n 2, .n 0, .n 1, .n 3, .n 20], [.n 2, .n 0, .n 2, .n 1, .n 5]],
  .w 54 4 [[.n 9, .n 2, .n 1, .n 3]],
  .p (.a 2) 1 false [(.a [2, 1], [.n 0])],
  .w 106 2 [[.n 1, .n 5]],
  .w 33 19 [[.n 1, .n 1, .n 2, .n 0, .n 2, .n 0, .n 1, .n 2, .n 100, .n 50, .n 10, .n 20, .n 3, .l 2 [[.n 1, .n 5]], .l 2 [], .n 3, .n 0, .n 1, .n 0], [.n 2, .n 1, .n 2, .n 0, .n 2, .n 0, .n 1, .n 2, .n 100, .n 50, .n 10, .n 20, .n 3, .l 2 [[.n 1, .n 5]], .l 2 [], .n 1, .n 19, .n 0, .n 0]],
  .w 191 5 [[.n 0, .n 0, .n 0, .n 0, .n 6], [.n 1, .n 0, .n 0, .n 0, .n 160], [.n 2, .n 0, .n 0, .n 0, .n 294], [.n 3, .n 0, .n 0, .n 0, .n 2], [.n 2097153, .n 0, .n 0, .n 0, .n 0], [.n 2097154, .n 0, .n 0, .n 0, .n 100]],
  .w 191 5 [[.n 1, .n 0, .n 1, .n 1, .n 60], [.n 1, .n 0, .n 1, .n 2, .n 40], [.n 1, .n 0, .n 1, .n 3, .n 20], [.n 2, .n 0, .n 1, .n 1, .n 50], [.n 2, .n 0, .n 1, .n 2, .n 40], [.n 2, .n 0, .n 1, .n 3, .n 20], [.n 2, .n 0, .n 2, .n 1, .n 5], [.n 2097154, .n 0, .n 1, .n 1, .n 5]],
  .w 136 3 [[.n 19, .n 3, .n 5]]]
theorem aw15_4 : evK Tryz.prog (speWhole whp) (List.range 600) 300 60 1 (dropK 8 (bodyOf Tryz.f15)) (aw15_t3) (aw15_m3) = some (aw15_t4, aw15_m4) := by kernel_rfl
noncomputable def aw15_t5 : Fr := Fr.of [.u (.b false), .r 10 0, .u (.b true), .i 1, .i 0, .i 0, .i 10, .i 0, .i 0, .i 160, .i 0, .i 2, .i 0, .z, .t [.a [.r 0 0, .r 3 0, .r 5 0, .r 7 0, .r 9 0], .u (.b true)], .t [.a [.r 0 0, .r 3 0, .r 5 0, .r 7 0, .r 9 0], .u (.b true)], .a [.r 0 0, .r 3 0, .r 5 0, .r 7 0, .r 9 0], .u (.b true), .u (.b true), .u (.b false), .t [.i 1, .i 0], .r 10 0, .r 0 0, .a [.i 0, .i 1, .i 2, .i 0, .i 2, .i 0, .i 1, .i 2, .i 100, .i 50, .i 10, .i 20, .i 0, .w 11, .nl 2, .i 0, .i 0, .i 0, .i 0], .t [.i 1, .i 0], .i 1, .i 0, .r 10 0, .r 0 0, .i 0, .t [.i 10, .i 0], .r 10 1, .r 3 0, .t [.i 10, .i 0], .i 10, .i 0, .r 10 0, .r 0 0, .i 0, .t [.i 160, .i 0], .r 10 1, .r 3 0, .t [.i 160, .i 0], .i 160, .i 0, .t [.i 2, .i 0], .r 10 0, .r 0 0, .a [.i 0, .i 1, .i 2, .i 0, .i 2, .i 0, .i 1, .i 2, .i 100, .i 50, .i 10, .i 20, .i 0, .w 22, .nl 2, .i 0, .i 0, .i 0, .i 0], .t [.i 2, .i 0], .i 2, .i 0, .a [.r 0 0, .r 3 0, .r 5 0, .r 7 0, .r 9 0], .a [.i 0, .i 0, .i 10, .i 0, .i 0, .i 0, .i 0, .i 0, .i 0, .i 0, .i 0, .i 0, .i 0, .i 0, .i 0, .i 0, .i 0, .nl 2, .nl 2, .i 0, .i 0, .i 0, .i 0], .t [.i 19, .i 0, .i 0], .z, .z, .z, .z, .z, .z, .z, .z, .z, .z, .z, .z, .z, .z, .z, .z, .z, .z, .z, .z, .z, .z, .z, .z, .z, .z, .z, .z, .z, .z, .z, .z, .z, .z, .z, .z, .z, .z, .z, .z, .z, .z, .z, .z, .z, .z, .z, .z, .z, .z, .z, .z, .z, .z, .z, .z, .z, .z, .z, .z, .z, .z, .z, .z]
def aw15_m5 : Mem := [.c [.i 4, .w 1, .i 2, .w 2, .i 3, .i 200, .i 1, .i 500, .r 3 0, .r 5 0, .r 7 0, .r 9 0, .w 23],
  .w 146 7 [[.n 3, .n 2, .n 10, .l 2 [[.n 1, .n 3], [.n 2, .n 1]], .n 2, .n 3, .n 5], [.n 4, .n 1, .n 7, .l 2 [[.n 3, .n 2]], .n 0, .n 0, .n 3]],
  .w 152 4 [[.n 1, .n 1, .n 1, .n 1000], [.n 1, .n 1, .n 0, .n 0]],
  .c [.w 27, .i 562],
  .w 191 5 [[.n 0, .n 0, .n 0, .n 0, .n 0], [.n 1, .n 0, .n 0, .n 0, .n 60], [.n 2, .n 0, .n 0, .n 0, .n 500], [.n 3, .n 0, .n 0, .n 0, .n 2]],
  .c [.w 28, .n .i64 33 [0, 120, 80, 40, 0, 0, 0, 0, 0, 0, 0, 0, 0, 0, 0, 0, 0, 0, 0, 0, 0, 0, 0, 0, 0, 0, 0, 0, 0, 0, 0, 0, 0]],
  .w 191 5 [[.n 1, .n 0, .n 1, .n 1, .n 60], [.n 1, .n 0, .n 1, .n 2, .n 40], [.n 1, .n 0, .n 1, .n 3, .n 20], [.n 2, .n 0, .n 1, .n 1, .n 60], [.n 2, .n 0, .n 1, .n 2, .n 40], [.n 2, .n 0, .n 1, .n 3, .n 20]],
  .c [.v 26 3 0 0 false, .m 8, .i 256, .i 4],
  .p .n 1 false [],
  .c [.w 29, .m 21],
  .c [.r 0 0, .r 3 0, .r 5 0, .r 7 0, .r 9 0],
  .w 106 2 [[.n 1, .n 5]],
  .x,
  .w 191 5 [[.n 0, .n 0, .n 0, .n 0, .n 3], [.n 1, .n 0, .n 0, .n 0, .n 60], [.n 2, .n 0, .n 0, .n 0, .n 397], [.n 3, .n 0, .n 0, .n 0, .n 2], [.n 2097153, .n 0, .n 0, .n 0, .n 100]],
  .w 191 5 [[.n 1, .n 0, .n 1, .n 1, .n 60], [.n 1, .n 0, .n 1, .n 2, .n 40], [.n 1, .n 0, .n 1, .n 3, .n 20], [.n 2, .n 0, .n 1, .n 1, .n 55], [.n 2, .n 0, .n 1, .n 2, .n 40], [.n 2, .n 0, .n 1, .n 3, .n 20], [.n 2097153, .n 0, .n 1, .n 1, .n 5]],
  .x,
  .w 191 5 [[.n 0, .n 0, .n 0, .n 0, .n 3], [.n 1, .n 0, .n 0, .n 0, .n 10], [.n 2, .n 0, .n 0, .n 0, .n 397], [.n 3, .n 0, .n 0, .n 0, .n 2], [.n 2097153, .n 0, .n 0, .n 0, .n 150]],
  .x,
  .w 191 5 [[.n 0, .n 0, .n 0, .n 0, .n 3], [.n 1, .n 0, .n 0, .n 0, .n 160], [.n 2, .n 0, .n 0, .n 0, .n 397], [.n 3, .n 0, .n 0, .n 0, .n 2], [.n 2097153, .n 0, .n 0, .n 0, .n 0]],
  .w 191 5 [[.n 1, .n 0, .n 1, .n 1, .n 60], [.n 1, .n 0, .n 1, .n 2, .n 40], [.n 1, .n 0, .n 1, .n 3, .n 20], [.n 2, .n 0, .n 1, .n 1, .n 55], [.n 2, .n 0, .n 1, .n 2, .n 40], [.n 2, .n 0, .n 1, .n 3, .n 20], [.n 2, .n 0, .n 2, .n 1, .n 5]],
  .x,
  .p (.a 2) 1 false [(.a [2, 1], [.n 0]), (.a [2, 2], [.n 1])],
  .w 106 2 [[.n 1, .n 5]],
  .w 33 19 [[.n 1, .n 1, .n 2, .n 0, .n 2, .n 0, .n 1, .n 2, .n 100, .n 50, .n 10, .n 20, .n 3, .l 2 [[.n 1, .n 5]], .l 2 [], .n 3, .n 0, .n 1, .n 0], [.n 2, .n 1, .n 2, .n 0, .n 2, .n 0, .n 1, .n 2, .n 100, .n 50, .n 10, .n 20, .n 3, .l 2 [[.n 1, .n 5]], .l 2 [], .n 7, .n 0, .n 0, .n 0]],
  .w 191 5 [[.n 0, .n 0, .n 0, .n 0, .n 6], [.n 1, .n 0, .n 0, .n 0, .n 160], [.n 2, .n 0, .n 0, .n 0, .n 294], [.n 3, .n 0, .n 0, .n 0, .n 2], [.n 2097153, .n 0, .n 0, .n 0, .n 0], [.n 2097154, .n 0, .n 0, .n 0, .n 100]],
  .w 191 5 [[.n 1, .n 0, .n 1, .n 1, .n 60], [.n 1, .n 0, .n 1, .n 2, .n 40], [.n 1, .n 0, .n 1, .n 3, .n 20], [.n 2, .n 0, .n 1, .n 1, .n 50], [.n 2, .n 0, .n 1, .n 2, .n 40], [.n 2, .n 0, .n 1, .n 3, .n 20], [.n 2, .n 0, .n 2, .n 1, .n 5], [.n 2097154, .n 0, .n 1, .n 1, .n 5]],
  .w 136 3 [[.n 19, .n 3, .n 5]],
  .w 191 5 [[.n 0, .n 0, .n 0, .n 0, .n 6], [.n 1, .n 0, .n 0, .n 0, .n 160], [.n 2, .n 0, .n 0, .n 0, .n 394], [.n 3, .n 0, .n 0, .n 0, .n 2], [.n 2097153, .n 0, .n 0, .n 0, .n 0], [.n 2097154, .n 0, .n 0, .n 0, .n 0]],
  .w 191 5 [[.n 1, .n 0, .n 1, .n 1, .n 60], [.n 1, .n 0, .n 1, .n 2, .n 40], [.n 1, .n 0, .n 1, .n 3, .n 20], [.n 2, .n 0, .n 1, .n 1, .n 55], [.n 2, .n 0, .n 1, .n 2, .n 40], [.n 2, .n 0, .n 1, .n 3, .n 20], [.n 2, .n 0, .n 2, .n 1, .n 5]],
  .w 54 4 [[.n 9, .n 2, .n 1, .n 3], [.n 19, .n 2, .n 2, .n 7]]]
theorem aw15_5 : evK Tryz.prog (speWhole whp) (List.range 600) 300 60 1 (dropK 9 (bodyOf Tryz.f15)) (aw15_t4) (aw15_m4) = some (aw15_t5, aw15_m5) := by kernel_rfl
theorem aw15_6 : endK Tryz.prog Tryz.f15 [] (CodeE Tryz.prog (speWhole whp) (List.range 600) 300 60 (dropK 10 (bodyOf Tryz.f15)) (aw15_t5) (aw15_m5)) = some (.u (.b true), []) := by kernel_rfl
theorem aw15_c0 : CodeE Tryz.prog (speWhole whp) (List.range 600) 300 60 (dropK 0 (bodyOf Tryz.f15)) (frame0F Tryz.prog Tryz.f15 []) (([] : Mem)) = CodeE Tryz.prog (speWhole whp) (List.range 600) 300 60 (dropK 2 (bodyOf Tryz.f15)) aw15_t0 aw15_m0 := evK_chain aw15_0
theorem aw15_c1 : CodeE Tryz.prog (speWhole whp) (List.range 600) 300 60 (dropK 2 (bodyOf Tryz.f15)) (aw15_t0) (aw15_m0) = CodeE Tryz.prog (speWhole whp) (List.range 600) 300 60 (dropK 4 (bodyOf Tryz.f15)) aw15_t1 aw15_m1 := evK_chain aw15_1
theorem aw15_c2 : CodeE Tryz.prog (speWhole whp) (List.range 600) 300 60 (dropK 4 (bodyOf Tryz.f15)) (aw15_t1) (aw15_m1) = CodeE Tryz.prog (speWhole whp) (List.range 600) 300 60 (dropK 6 (bodyOf Tryz.f15)) aw15_t2 aw15_m2 := evK_chain aw15_2
theorem aw15_c3 : CodeE Tryz.prog (speWhole whp) (List.range 600) 300 60 (dropK 6 (bodyOf Tryz.f15)) (aw15_t2) (aw15_m2) = CodeE Tryz.prog (speWhole whp) (List.range 600) 300 60 (dropK 8 (bodyOf Tryz.f15)) aw15_t3 aw15_m3 := evK_chain aw15_3
theorem aw15_c4 : CodeE Tryz.prog (speWhole whp) (List.range 600) 300 60 (dropK 8 (bodyOf Tryz.f15)) (aw15_t3) (aw15_m3) = CodeE Tryz.prog (speWhole whp) (List.range 600) 300 60 (dropK 9 (bodyOf Tryz.f15)) aw15_t4 aw15_m4 := evK_chain aw15_4
theorem aw15_c5 : CodeE Tryz.prog (speWhole whp) (List.range 600) 300 60 (dropK 9 (bodyOf Tryz.f15)) (aw15_t4) (aw15_m4) = CodeE Tryz.prog (speWhole whp) (List.range 600) 300 60 (dropK 10 (bodyOf Tryz.f15)) aw15_t5 aw15_m5 := evK_chain aw15_5
theorem aw15_run : PRun Tryz.prog 15 [] [] fun x m => x = .u (.b true) ∧ m = [] :=
  evalF (P := Tryz.prog) (by kernel_rfl) (speWhole whp) (r := (.u (.b true), [])) (inl := List.range 600) (nl := 300) (n := 61) Tryz.func15 (by kernel_rfl) (funF_of (c := (bodyOf Tryz.f15)) (by kernel_rfl) ((congrArg (endK Tryz.prog Tryz.f15 []) (aw15_c0.trans (aw15_c1.trans (aw15_c2.trans (aw15_c3.trans (aw15_c4.trans aw15_c5)))))).trans aw15_6))
end Go.Proofs.YtalglagdgabafaaGreat

/- Copies of lists of stacks: one of which it is not known whether it is nil, and one of one stack. -/
set_option maxRecDepth 1000000
namespace Go.Proofs.YtalglagdgabafaaGreat
open Go Go.Proofs
noncomputable abbrev evCl (l : List (List U)) : Option Ress := CodeE Tryz.prog (speWhole whp) (List.range 600) 300 60 (bodyOf Tryz.f56) (frameF Tryz.prog Tryz.f56 [.u (.l 2 l)]) []
theorem clone0 : PRun Tryz.prog 56 [] [.u (.l 2 [])] fun x m => x = .c 2 [] ∧ m = [] :=
  Ev.runM (by kernel_rfl) Tryz.func56 (by kernel_rfl) (c := bodyOf Tryz.f56) (by kernel_rfl) (rs := (evCl []).getD []) (Ev.code (E := speWhole whp) (inl := List.range 600) (nl := 300) (n := 60) (by kernel_rfl)) (l := (endL Tryz.prog Tryz.f56 [] ((evCl []).getD [])).getD []) (by kernel_rfl) (y := (.c 2 [], [])) (by kernel_rfl)
theorem clone1 : PRun Tryz.prog 56 [] [.u (.l 2 [[.n 1, .n 5]])] fun x m => x = .u (.l 2 [[.n 1, .n 5]]) ∧ m = [] :=
  Ev.runM (by kernel_rfl) Tryz.func56 (by kernel_rfl) (c := bodyOf Tryz.f56) (by kernel_rfl) (rs := (evCl [[.n 1, .n 5]]).getD []) (Ev.code (E := speWhole whp) (inl := List.range 600) (nl := 300) (n := 60) (by kernel_rfl)) (l := (endL Tryz.prog Tryz.f56 [] ((evCl [[.n 1, .n 5]]).getD [])).getD []) (by kernel_rfl) (y := (.u (.l 2 [[.n 1, .n 5]]), [])) (by kernel_rfl)
end Go.Proofs.YtalglagdgabafaaGreat

/- A run, piece by piece: printed by program (ez2.py). -/
set_option linter.unusedVariables false
set_option maxRecDepth 1000000
namespace Go.Proofs.YtalglagdgabafaaGreat
open Go Go.Proofs
noncomputable section
structure PyV where
  p : Int
  q : Int
  f : Int
  r : Int
  e : Int
  w : Int
structure PyB (v : PyV) : Prop where
  b : 0 ≤ v.p ∧ v.p ≤ 255 ∧ 0 ≤ v.q ∧ v.q ≤ 49 ∧ 1 ≤ v.f ∧ v.f ≤ 50 ∧ 0 < v.p + v.q ∧ 0 ≤ v.r ∧ v.r ≤ 255
  hB : PRun Tryz.prog 89 [] [.a [.i 200, .i 1, .i 500], .i (v.p + v.q)] fun x m => x = .t [.i v.f, .i 0] ∧ m = []
structure PyH (v : PyV) (W : Int) (d : Bool) : Prop where
  toB : PyB v
  hr : Int.tmod v.r 50 = v.q
  he : IntKind.wrap .i64 ((BitVec.ofInt 64 v.e &&& BitVec.ofInt 64 3).toNat : Int) = W
  hw0 : bif d then eqF v.w 0 = false else True
  hw1 : bif d then eqF v.w 1 = false else True
structure PyZ (v : PyV) (W : Int) (d : Bool) : Prop where
  b : 0 ≤ v.r ∧ v.r ≤ 255
  hr : Int.tmod v.r 50 = 0
  he : IntKind.wrap .i64 ((BitVec.ofInt 64 v.e &&& BitVec.ofInt 64 3).toNat : Int) = W
  hw0 : bif d then eqF v.w 0 = false else True
  hw1 : bif d then eqF v.w 1 = false else True
abbrev czy10  : AB := .w 191 5 [[.n 1, .n 0, .n 1, .n 1, .n 60], [.n 1, .n 0, .n 1, .n 2, .n 40], [.n 1, .n 0, .n 1, .n 3, .n 20], [.n 2, .n 0, .n 1, .n 1, .n 55], [.n 2, .n 0, .n 1, .n 2, .n 40], [.n 2, .n 0, .n 1, .n 3, .n 20], [.n 2097153, .n 0, .n 1, .n 1, .n 5]]
abbrev czy11 (v : PyV) : AB := .w 191 5 [[.n 0, .n 0, .n 0, .n 0, .n v.f], [.n 1, .n 0, .n 0, .n 0, .n (60 - v.q)], [.n 2, .n 0, .n 0, .n 0, .n (500 - v.p - v.f)], [.n 3, .n 0, .n 0, .n 0, .n 2], [.n 2097153, .n 0, .n 0, .n 0, .n (v.p + v.q)]]
abbrev czy12  : AB := .w 191 5 [[.n 1, .n 0, .n 1, .n 1, .n 60], [.n 1, .n 0, .n 1, .n 2, .n 40], [.n 1, .n 0, .n 1, .n 3, .n 20], [.n 2, .n 0, .n 1, .n 1, .n 60], [.n 2, .n 0, .n 1, .n 2, .n 40], [.n 2, .n 0, .n 1, .n 3, .n 20]]
abbrev czy13 (v : PyV) : AB := .w 191 5 [[.n 0, .n 0, .n 0, .n 0, .n v.f], [.n 1, .n 0, .n 0, .n 0, .n (60 - v.q)], [.n 2, .n 0, .n 0, .n 0, .n (500 - v.p - v.f)], [.n 3, .n 0, .n 0, .n 0, .n 2], [.n 2097153, .n 0, .n 0, .n 0, .n v.p]]
abbrev czy14 (v : PyV) : AB := .w 191 5 [[.n 0, .n 0, .n 0, .n 0, .n v.f], [.n 1, .n 0, .n 0, .n 0, .n 60], [.n 2, .n 0, .n 0, .n 0, .n (500 - v.p - v.f)], [.n 3, .n 0, .n 0, .n 0, .n 2], [.n 2097153, .n 0, .n 0, .n 0, .n v.p]]
abbrev czy15 (v : PyV) : AB := .w 191 5 [[.n 0, .n 0, .n 0, .n 0, .n v.f], [.n 1, .n 0, .n 0, .n 0, .n 60], [.n 2, .n 0, .n 0, .n 0, .n (500 - v.p - v.f)], [.n 3, .n 0, .n 0, .n 0, .n 2], [.n 2097153, .n 0, .n 0, .n 0, .n 0]]
abbrev czy16 (v : PyV) : AB := .w 191 5 [[.n 0, .n 0, .n 0, .n 0, .n v.f], [.n 1, .n 0, .n 0, .n 0, .n 60], [.n 2, .n 0, .n 0, .n 0, .n (500 - v.f)], [.n 3, .n 0, .n 0, .n 0, .n 2], [.n 2097153, .n 0, .n 0, .n 0, .n 0]]
abbrev czy17 (v : PyV) : AB := .w 33 19 [[.n 1, .n 1, .n 2, .n 0, .n 2, .n 0, .n 1, .n 2, .n v.p, .n v.q, .n 10, .n 20, .n v.f, .l 2 [[.n 1, .n 5]], .l 2 [], .n 1, .n 10, .n 0, .n 0]]
abbrev czy18 (v : PyV) : AB := .w 33 19 [[.n 1, .n 1, .n 2, .n 0, .n 2, .n 0, .n 1, .n 2, .n v.p, .n v.q, .n 10, .n 20, .n v.f, .l 2 [[.n 1, .n 5]], .l 2 [], .n 2, .n 20, .n 1, .n 0]]
abbrev czy19 (v : PyV) : AB := .w 191 5 [[.n 0, .n 0, .n 0, .n 0, .n v.f], [.n 1, .n 0, .n 0, .n 0, .n 60], [.n 2, .n 0, .n 0, .n 0, .n (500 - v.f)], [.n 3, .n 0, .n 0, .n 0, .n 2]]
abbrev czy110 (v : PyV) : V := .a [.i 1, .i 1, .i 2, .i 0, .i 2, .i 0, .i 1, .i 2, .i v.p, .i v.q, .i 10, .i 20, .i v.f, .u (.l 2 [[.n 1, .n 5]]), .c 2 [], .i 1, .i 10, .i 0, .i 0]
abbrev czy111 (v : PyV) : V := .a [.i 1, .i 1, .i 2, .i 0, .i 2, .i 0, .i 1, .i 2, .i v.p, .i v.q, .i 10, .i 20, .i v.f, .u (.l 2 [[.n 1, .n 5]]), .c 2 [], .i 2, .i 20, .i 1, .i 0]
abbrev czy112 (v : PyV) : AB := .w 191 5 [[.n 0, .n 0, .n 0, .n 0, .n 0], [.n 1, .n 0, .n 0, .n 0, .n 60], [.n 2, .n 0, .n 0, .n 0, .n (500 - v.f)], [.n 3, .n 0, .n 0, .n 0, .n 2]]
abbrev czy113 (v : PyV) : V := .a [.i 1, .i 1, .i 2, .i 0, .i 2, .i 0, .i 1, .i 2, .i v.p, .i v.q, .i 10, .i 20, .i v.f, .u (.l 2 [[.n 1, .n 5]]), .c 2 [], .i 3, .i 0, .i 1, .i 0]
abbrev czy114 (v : PyV) : V := .a [.i 1, .i 1, .i 2, .i 0, .i 2, .i 0, .i 1, .i 2, .i v.p, .i v.q, .i 10, .i 20, .i v.f, .u (.l 2 [[.n 1, .n 5]]), .nl 2, .i 1, .i 10, .i 0, .i 0]
abbrev czy115 (v : PyV) : V := .a [.i 1, .i 1, .i 2, .i 0, .i 2, .i 0, .i 1, .i 2, .i v.p, .i v.q, .i 10, .i 20, .i 0, .u (.l 2 [[.n 1, .n 5]]), .nl 2, .i 1, .i 10, .i 0, .i 0]
abbrev czy116  : AB := .w 146 7 [[.n 3, .n 2, .n 10, .l 2 [[.n 1, .n 3], [.n 2, .n 1]], .n 2, .n 3, .n 5], [.n 4, .n 1, .n 7, .l 2 [[.n 3, .n 2]], .n 0, .n 0, .n 3]]
abbrev czy117  : AB := .w 191 5 [[.n 0, .n 0, .n 0, .n 0, .n 0], [.n 1, .n 0, .n 0, .n 0, .n 60], [.n 2, .n 0, .n 0, .n 0, .n 500], [.n 3, .n 0, .n 0, .n 0, .n 2]]
abbrev czy118 (v : PyV) : V := .a [.i 0, .i 1, .i 2, .i 0, .i 2, .i 0, .i 1, .i 2, .i v.p, .i v.q, .i 10, .i 20, .i 0, .w 11, .nl 2, .i 0, .i 0, .i 0, .i 0]
abbrev czy119 (v : PyV) : V := .a [.i 1, .i 1, .i 2, .i 0, .i 2, .i 0, .i 1, .i 2, .i v.p, .i v.q, .i 10, .i 20, .i 0, .w 13, .nl 2, .i 0, .i 0, .i 0, .i 0]
abbrev czy120 (v : PyV) : V := .a [.i 1, .i 1, .i 2, .i 0, .i 2, .i 0, .i 1, .i 2, .i v.p, .i v.q, .i 10, .i 20, .i 0, .w 0, .nl 2, .i 1, .i 10, .i 0, .i 0]
abbrev czy121 (v : PyV) : V := .a [.i 0, .i 1, .i 2, .i 0, .i 2, .i 0, .i 1, .i 2, .i v.p, .i v.q, .i 10, .i 20, .i 0, .w 1, .nl 2, .i 0, .i 0, .i 0, .i 0]
abbrev czy122 (v : PyV) : V := .a [.i 1, .i 1, .i 2, .i 0, .i 2, .i 0, .i 1, .i 2, .i v.p, .i v.q, .i 10, .i 20, .i 0, .w 0, .nl 2, .i 0, .i 0, .i 0, .i 0]
abbrev czy123  : V := .n .i64 33 [0, 120, 80, 40, 0, 0, 0, 0, 0, 0, 0, 0, 0, 0, 0, 0, 0, 0, 0, 0, 0, 0, 0, 0, 0, 0, 0, 0, 0, 0, 0, 0, 0]
abbrev czy124  : AB := .w 152 4 [[.n 1, .n 1, .n 1, .n 1000], [.n 1, .n 1, .n 0, .n 0]]
noncomputable abbrev eK1 := (speKn (speWhole whp) [4, 5, 6, 7, 9, 11, 12, 13, 14, 15, 23, 25, 27, 33, 36, 40, 41, 47, 55, 57, 72, 74, 83, 87, 89, 92, 93, 101, 110, 111, 130, 154, 155, 182])
noncomputable abbrev pyA0ev := Ev Tryz.prog eK1 (List.range 600) 300 60 3
def pyA0T0 (v : PyV) : Fr := frameF Tryz.prog Tryz.f3 [.u (.i .u8 v.p), .u (.i .u8 v.r), .i v.e]
def pyA0M0 (v : PyV) : Mem := []
noncomputable abbrev pyA0C1 : Code := bodyOf Tryz.f3
def pyA0T1 (v : PyV) : Fr := puF (pyA0T0 v) [(6, .u (.b false))]
noncomputable abbrev pyA0C2 : Code := dropK 1 pyA0C1
def y1M0 (v : PyV) : Mem := []
def y1T1 (v : PyV) : Fr := Fr.mk [.i 0, .z, .r 0 0, .u (.b true), .r 6 0, .w 3, .w 4, .w 5, .r 7 0, .i 0, .r 9 0, .i 0, .r 11 0, .i 0, .r 14 0, .r 15 0, .i 0, .t [.a [.i 4, .w 1, .i 2, .w 2, .i 3, .i 200, .i 1, .i 500], .w 3, .w 4, .w 5], .i 0, .t [.a [.i 4, .w 1, .i 2, .w 2, .i 3, .i 200, .i 1, .i 500], .w 3, .w 4, .w 5], .a [.i 4, .w 1, .i 2, .w 2, .i 3, .i 200, .i 1, .i 500], .w 3, .w 4, .w 5, .t [.r 7 0, .i 0], .w 3, .t [.r 7 0, .i 0], .r 7 0, .i 0, .t [.r 9 0, .i 0], .w 4, .t [.r 9 0, .i 0], .r 9 0, .i 0, .t [.r 11 0, .i 0], .t [.r 11 0, .i 0], .r 11 0, .i 0, .r 7 0, .r 9 0, .r 11 0, .a [.nl 4, .nm], .r 13 0, .a [.u (.p none), .r 7 0, .r 9 0, .r 11 0, .r 13 0], .i 0, .u (.b false), .u (.b false), .i 0, .u (.b false), .u (.b false), .u (.b false), .i 0, .u (.b false), .u (.b false), .u (.b false), .r 7 0, .u (.b false), .u (.b false), .u (.b false), .r 9 0, .u (.b false), .u (.b false), .u (.b false), .r 11 0, .u (.b false), .u (.b false), .z, .t [.r 15 0, .i 0], .a [.i 4, .w 1, .i 2, .w 2, .i 3, .i 200, .i 1, .i 500], .r 7 0, .r 9 0, .r 11 0, .r 14 4, .r 13 0, .t [.r 15 0, .i 0], .r 15 0, .i 0, .r 15 0, .r 14 0, .a [.r 15 0, .r 7 0, .r 9 0, .r 11 0, .r 13 0], .i 0, .u (.b true), .u (.b true), .r 15 0, .u (.b true), .u (.b true)] 0 86
def y1M2 (v : PyV) : Mem := [.c [.r 15 0, .r 7 0, .r 9 0, .r 11 0, .r 13 0],
  czy116,
  czy124,
  .w 161 2 [[.n 0, .n 0], [.n 1, .n 60], [.n 2, .n 500], [.n 3, .n 2]],
  .w 163 5 [[.n 1, .n 0, .n 1, .n 1, .n 60], [.n 1, .n 0, .n 1, .n 2, .n 40], [.n 1, .n 0, .n 1, .n 3, .n 20], [.n 2, .n 0, .n 1, .n 1, .n 60], [.n 2, .n 0, .n 1, .n 2, .n 40], [.n 2, .n 0, .n 1, .n 3, .n 20]],
  .w 165 9 [[.n 0, .n 1, .n 0, .n 1, .n 1, .n 0, .n 0, .n (-1), .n 0], [.n 0, .n 2, .n 0, .n 1, .n 2, .n 0, .n 0, .n (-1), .n 0], [.n 0, .n 1, .n 0, .n 1, .n 2, .n 3, .n 0, .n 4, .n 0], [.n 0, .n 2, .n 0, .n 1, .n 1, .n 0, .n 8, .n (-1), .n 0], [.n 0, .n 1, .n 0, .n 2, .n 1, .n 0, .n 0, .n (-1), .n 0]],
  .c [.i 4, .w 1, .i 2, .w 2, .i 3, .i 200, .i 1, .i 500],
  .c [.w 8, .i 562],
  czy117,
  .c [.w 10, czy123],
  czy12,
  .c [.nl 3, .m 12, .i 256, .i 1],
  .p .n 1 false [],
  .c [.nl 4, .nm],
  .c [.r 15 0, .r 7 0, .r 9 0, .r 11 0, .r 13 0],
  .c [.i 4, .w 1, .i 2, .w 2, .i 3, .i 200, .i 1, .i 500, .r 7 0, .r 9 0, .r 11 0, .r 13 0, .nl 19]]
def y1M3 (v : PyV) : Mem := [.c [.i 4, .w 1, .i 2, .w 2, .i 3, .i 200, .i 1, .i 500, .r 3 0, .r 5 0, .r 7 0, .r 9 0, .nl 19],
  czy116,
  czy124,
  .c [.w 4, .i 562],
  czy117,
  .c [.w 6, czy123],
  czy12,
  .c [.nl 3, .m 8, .i 256, .i 1],
  .p .n 1 false [],
  .c [.nl 4, .nm]]
abbrev y1Mm (v : PyV) : Mem := (y1M3 v)
theorem y1_run (v : PyV) : PRun Tryz.prog 7 (y1M0 v) [.i 0] fun x m => x = .t [.a [.r 0 0, .r 3 0, .r 5 0, .r 7 0, .r 9 0], .u (.b true)] ∧ m = (y1Mm v) := Ev.runA (speWhole whp) Tryz.func7 (c := (bodyOf Tryz.f7)) (r := (.ret, (y1T1 v), (y1M2 v))) Ev.codeA
def pyA0T3 (v : PyV) : Fr := Fr.mk [.u (.i .u8 v.p), .u (.i .u8 v.r), .i v.e, .z, .z, .z, .u (.b false), .r 10 0, .u (.b true), .z, .z, .z, .z, .z, .z, .z, .z, .z, .z, .z, .z, .z, .z, .t [.a [.r 0 0, .r 3 0, .r 5 0, .r 7 0, .r 9 0], .u (.b true)], .t [.a [.r 0 0, .r 3 0, .r 5 0, .r 7 0, .r 9 0], .u (.b true)], .a [.r 0 0, .r 3 0, .r 5 0, .r 7 0, .r 9 0], .u (.b true)] 149 176
def pyA0M4 (v : PyV) : Mem := [.c [.i 4, .w 1, .i 2, .w 2, .i 3, .i 200, .i 1, .i 500, .r 3 0, .r 5 0, .r 7 0, .r 9 0, .nl 19],
  czy116,
  czy124,
  .c [.w 4, .i 562],
  czy117,
  .c [.w 6, czy123],
  czy12,
  .c [.nl 3, .m 8, .i 256, .i 1],
  .p .n 1 false [],
  .c [.nl 4, .nm],
  .c [.r 0 0, .r 3 0, .r 5 0, .r 7 0, .r 9 0]]
theorem pyA0n3 (v : PyV) (H : PyH v 0 false) : pyA0ev (cL pyA0C2) (pyA0T1 v) (pyA0M0 v) [(.nrm, (pyA0T3 v), (pyA0M4 v))] := Ev.regA (EvO.callA (t2 := pyA0T1 v) (m1 := pyA0M0 v) (ix := []) (k := 0) (t1 := (pyA0T1 v)) (args := [.i 0]) (a := []) (cc := []) (y1_run v) EvO.opsA)
def pyA0T5 (v : PyV) : Fr := puF (pyA0T3 v) [(9, .r 12 0), (27, .u (.b true)), (28, .u (.b false)), (29, .a [.i 0, .i 1, .i 2, .i 0, .i 2, .i 0, .i 1, .i 2, .i 100, .i 50, .i 10, .i 20, .i 0, .w 11, .nl 2, .i 0, .i 0, .i 0, .i 0])]
def pyA0M6 (v : PyV) : Mem := paM (pyA0M4 v) [] [.w 106 2 [[.n 1, .n 5]],
  .c [.i 0, .i 1, .i 2, .i 0, .i 2, .i 0, .i 1, .i 2, .i 100, .i 50, .i 10, .i 20, .i 0, .w 11, .nl 2, .i 0, .i 0, .i 0, .i 0]]
noncomputable abbrev pyA0C5 : Code := dropK 2 (cR pyA0C2)
def pyA0T7 (v : PyV) : Fr := puF (pyA0T5 v) [(30, .u (.i .u8 v.p))]
def pyA0T8 (v : PyV) : Fr := puF (pyA0T7 v) [(31, .i v.p), (32, .r 12 8)]
def pyA0M9 (v : PyV) : Mem := paM (pyA0M6 v) [(12, .c [.i 0, .i 1, .i 2, .i 0, .i 2, .i 0, .i 1, .i 2, .i v.p, .i 50, .i 10, .i 20, .i 0, .w 11, .nl 2, .i 0, .i 0, .i 0, .i 0])] []
theorem pyA0n6 (v : PyV) (H : PyH v 0 false) : pyA0ev (cL pyA0C5) (pyA0T5 v) (pyA0M6 v) [(.nrm, (pyA0T8 v), (pyA0M9 v))] := Ev.regA (EvO.opA (t2 := pyA0T7 v) (m1 := pyA0M6 v) (v := .i v.p) (k := 1) (t1 := (pyA0T7 v)) (symI (a := IntKind.wrap .i64 v.p) (z := v.p) (by kernel_rfl) (sCv (by have := H.toB.b; omega))) EvO.opsA)
noncomputable abbrev pyA0C7 : Code := cR pyA0C5
def pyA0T10 (v : PyV) : Fr := puF (pyA0T8 v) [(33, .u (.i .u8 v.r))]
def pyA0T11 (v : PyV) : Fr := puF (pyA0T10 v) [(34, .i v.r)]
def pyA0T12 (v : PyV) : Fr := puF (pyA0T11 v) [(35, .i v.q), (36, .r 12 9)]
def pyA0M13 (v : PyV) : Mem := paM (pyA0M6 v) [(12, .c [.i 0, .i 1, .i 2, .i 0, .i 2, .i 0, .i 1, .i 2, .i v.p, .i v.q, .i 10, .i 20, .i 0, .w 11, .nl 2, .i 0, .i 0, .i 0, .i 0])] []
theorem pyA0n10 (v : PyV) (H : PyH v 0 false) : pyA0ev (cL pyA0C7) (pyA0T8 v) (pyA0M9 v) [(.nrm, (pyA0T12 v), (pyA0M13 v))] := Ev.regA (EvO.opA (t2 := pyA0T10 v) (m1 := pyA0M9 v) (v := .i v.r) (k := 1) (t1 := (pyA0T10 v)) (symI (a := IntKind.wrap .i64 v.r) (z := v.r) (by kernel_rfl) (sCv (by have := H.toB.b; omega))) (EvO.opA (t2 := pyA0T11 v) (m1 := pyA0M9 v) (v := .i v.q) (k := 0) (t1 := (pyA0T11 v)) (symI (a := Int.tmod v.r 50) (z := v.q) (by kernel_rfl) H.hr) EvO.opsA))
noncomputable abbrev pyA0C9 : Code := cR pyA0C7
def pyA0T14 (v : PyV) : Fr := puF (pyA0T11 v) [(35, .i v.q), (36, .r 12 9), (38, .r 10 0), (39, .r 0 0), (40, (czy118 v))]
noncomputable abbrev eK2 := (speKn (speWhole whp) [4, 5, 6, 7, 9, 11, 12, 13, 14, 23, 25, 27, 33, 36, 40, 41, 47, 55, 57, 72, 74, 83, 87, 89, 92, 93, 101, 110, 111, 130, 154, 155, 182])
noncomputable abbrev y2evD := EvD Tryz.prog eK2 (List.range 600) 300 60
def y2T0 (v : PyV) : Fr := frameF Tryz.prog Tryz.f9 [.r 0 0, .i 0, (czy121 v)]
def y2M0 (v : PyV) : Mem := [.c [.i 4, .w 2, .i 2, .w 3, .i 3, .i 200, .i 1, .i 500, .r 4 0, .r 5 0, .r 6 0, .r 7 0, .nl 19],
  .w 106 2 [[.n 1, .n 5]],
  czy116,
  czy124,
  .c [.w 8, .i 562],
  .c [.w 9, czy123],
  .c [.nl 3, .m 10, .i 256, .i 1],
  .c [.nl 4, .nm],
  czy117,
  czy12,
  .p .n 1 false []]
noncomputable abbrev y2C1 : Code := bodyOf Tryz.f9
def y2T1 (v : PyV) : Fr := puF (y2T0 v) [(5, .r 11 0), (6, .i 0), (7, .i 0), (12, .r 0 0), (13, .u (.b true)), (14, .u (.b false))]
def y2M2 (v : PyV) : Mem := paM (y2M0 v) [] [.c [.i 0, .i 1, .i 2, .i 0, .i 2, .i 0, .i 1, .i 2, .i v.p, .i v.q, .i 10, .i 20, .i 0, .w 1, .nl 2, .i 0, .i 0, .i 0, .i 0]]
def y2T3 (v : PyV) : Fr := puF (y2T1 v) [(16, .r 0 0), (17, .i 0), (18, (czy121 v))]
noncomputable abbrev y3evD := EvD Tryz.prog eK2 (List.range 600) 300 60
def y3M0 (v : PyV) : Mem := [.c [.i 4, .w 2, .i 2, .w 3, .i 3, .i 200, .i 1, .i 500, .r 4 0, .r 5 0, .r 6 0, .r 7 0, .nl 19],
  .w 106 2 [[.n 1, .n 5]],
  czy116,
  czy124,
  .c [.w 8, .i 562],
  .c [.w 9, czy123],
  .c [.nl 3, .m 10, .i 256, .i 1],
  .c [.nl 4, .nm],
  czy117,
  czy12,
  .p .n 1 false []]
noncomputable abbrev y3C1 : Code := bodyOf Tryz.f36
def y3T1 (v : PyV) : Fr := Fr.mk [.r 0 0, .i 0, (czy121 v), .z, .z, .r 11 0, .r 12 0, .i 0, .z, .z, .z, .z, .z, .r 0 0, .r 0 0, .r 0 12, .nl 19, .i 0, .i 1, .r 11 0, .r 11 12, .r 11 13, .w 1, .w 13, .r 11 14, .nl 2, .nl 2, .r 11 13, .r 11 14] 94 123
def y3M2 (v : PyV) : Mem := paM (y3M0 v) [] [.c [.i 1, .i 1, .i 2, .i 0, .i 2, .i 0, .i 1, .i 2, .i v.p, .i v.q, .i 10, .i 20, .i 0, .w 13, .nl 2, .i 0, .i 0, .i 0, .i 0],
  .c [.i 0, .i 0, .i 0, .i 0, .i 0, .i 0, .i 0, .i 0, .i 0, .i 0, .i 0, .i 0, .i 0, .nl 2, .nl 2, .i 0, .i 0, .i 0, .i 0],
  .w 106 2 [[.n 1, .n 5]]]
def y3T3 (v : PyV) : Fr := puF (y3T1 v) [(30, (czy119 v)), (31, .i 0)]
def y4M0 (v : PyV) : Mem := [.w 106 2 [[.n 1, .n 5]]]
def y4T1 (v : PyV) : Fr := Fr.mk [(czy122 v), .i 0, .r 1 0, .z, .r 2 0, .i 0, .r 1 15, .r 1 17, .r 1 18] 17 26
def y4M2 (v : PyV) : Mem := [.w 106 2 [[.n 1, .n 5]],
  .c [.i 1, .i 1, .i 2, .i 0, .i 2, .i 0, .i 1, .i 2, .i v.p, .i v.q, .i 10, .i 20, .i 0, .w 0, .nl 2, .i 1, .i 0, .i 0, .i 0],
  .c [.i 0, .i 0, .i 0, .i 0, .i 0, .i 0, .i 0, .i 0, .i 0, .i 0, .i 0, .i 0, .i 0, .nl 2, .nl 2, .i 0, .i 0, .i 0, .i 0]]
def y4T3 (v : PyV) : Fr := puF (y4T1 v) [(9, .i 0)]
def y5M0 (v : PyV) : Mem := []
def y5T1 (v : PyV) : Fr := Fr.mk [.i 0, .i 0, .i 1099511627776, .z, .z, .z, .u (.b true), .i 0, .i 0, .u (.b true), .u (.b true), .i 0, .i 1099511627776, .u (.b true), .u (.b true)] 0 15
abbrev y5Mm (v : PyV) : Mem := (y5M0 v)
theorem y5_run (v : PyV) : PRun Tryz.prog 101 (y5M0 v) [.i 0, .i 0, .i 1099511627776] fun x m => x = .u (.b true) ∧ m = (y5Mm v) := Ev.runA (speWhole whp) Tryz.func101 (c := (bodyOf Tryz.f101)) (r := (.ret, (y5T1 v), (y5M0 v))) Ev.codeA
def y4T4 (v : PyV) : Fr := puF (y4T3 v) [(10, .u (.b true)), (11, .u (.b true)), (12, .r 1 10), (13, .i 10)]
def y6M0 (v : PyV) : Mem := []
def y6T1 (v : PyV) : Fr := Fr.mk [.i 10, .i 1, .i 1048576, .z, .z, .z, .u (.b true), .i 10, .i 1, .u (.b true), .u (.b true), .i 10, .i 1048576, .u (.b true), .u (.b true)] 0 15
abbrev y6Mm (v : PyV) : Mem := (y6M0 v)
theorem y6_run (v : PyV) : PRun Tryz.prog 101 (y6M0 v) [.i 10, .i 1, .i 1048576] fun x m => x = .u (.b true) ∧ m = (y6Mm v) := Ev.runA (speWhole whp) Tryz.func101 (c := (bodyOf Tryz.f101)) (r := (.ret, (y6T1 v), (y6M0 v))) Ev.codeA
def y4T5 (v : PyV) : Fr := puF (y4T4 v) [(14, .u (.b true)), (15, .u (.b true))]
def y4T6 (v : PyV) : Fr := puF (y4T5 v) [(16, .i 0), (17, .r 1 10), (18, .i 10), (19, .i 10), (20, .r 1 16)]
def y4M7 (v : PyV) : Mem := [.w 106 2 [[.n 1, .n 5]],
  .c [.i 1, .i 1, .i 2, .i 0, .i 2, .i 0, .i 1, .i 2, .i v.p, .i v.q, .i 10, .i 20, .i 0, .w 0, .nl 2, .i 1, .i 10, .i 0, .i 0],
  .c [.i 0, .i 0, .i 0, .i 0, .i 0, .i 0, .i 0, .i 0, .i 0, .i 0, .i 0, .i 0, .i 0, .nl 2, .nl 2, .i 0, .i 0, .i 0, .i 0]]
def y4T8 (v : PyV) : Fr := puF (y4T6 v) [(21, (czy120 v))]
noncomputable abbrev y7ev := Ev Tryz.prog eK2 (List.range 600) 300 60 74
def y7T0 (v : PyV) : Fr := frameF Tryz.prog Tryz.f74 [(czy120 v)]
def y7M0 (v : PyV) : Mem := [.w 106 2 [[.n 1, .n 5]]]
noncomputable abbrev y7C1 : Code := bodyOf Tryz.f74
def y7T1 (v : PyV) : Fr := puF (y7T0 v) [(1, .r 1 0), (2, .i 0)]
def y7M2 (v : PyV) : Mem := [.w 106 2 [[.n 1, .n 5]],
  .c [.i 1, .i 1, .i 2, .i 0, .i 2, .i 0, .i 1, .i 2, .i v.p, .i v.q, .i 10, .i 20, .i 0, .w 0, .nl 2, .i 1, .i 10, .i 0, .i 0]]
noncomputable abbrev y7C2 : Code := dropK 1 y7C1
def y7T3 (v : PyV) : Fr := puF (y7T1 v) [(7, .r 1 0), (8, .i 1)]
def y8M0 (v : PyV) : Mem := []
def y8T1 (v : PyV) : Fr := puF (y5T1 v) [(0, .i 1), (1, .i 1), (7, .i 1), (8, .i 1), (11, .i 1)]
abbrev y8Mm (v : PyV) : Mem := (y8M0 v)
theorem y8_run (v : PyV) : PRun Tryz.prog 101 (y8M0 v) [.i 1, .i 1, .i 1099511627776] fun x m => x = .u (.b true) ∧ m = (y8Mm v) := Ev.runA (speWhole whp) Tryz.func101 (c := (bodyOf Tryz.f101)) (r := (.ret, (y8T1 v), (y8M0 v))) Ev.codeA
def y7T4 (v : PyV) : Fr := puF (y7T3 v) [(9, .u (.b true)), (10, .u (.b true)), (11, .r 1 2), (12, .i 2)]
def y9M0 (v : PyV) : Mem := []
def y9T1 (v : PyV) : Fr := puF (y8T1 v) [(0, .i 2), (7, .i 2), (11, .i 2)]
abbrev y9Mm (v : PyV) : Mem := (y9M0 v)
theorem y9_run (v : PyV) : PRun Tryz.prog 101 (y9M0 v) [.i 2, .i 1, .i 1099511627776] fun x m => x = .u (.b true) ∧ m = (y9Mm v) := Ev.runA (speWhole whp) Tryz.func101 (c := (bodyOf Tryz.f101)) (r := (.ret, (y9T1 v), (y9M0 v))) Ev.codeA
def y7T5 (v : PyV) : Fr := puF (y7T4 v) [(13, .u (.b true)), (14, .u (.b true)), (15, .u (.b true)), (16, .r 1 4), (17, .i 2)]
def y7T6 (v : PyV) : Fr := puF (y7T5 v) [(18, .u (.b true)), (19, .u (.b true)), (20, .u (.b true)), (21, .r 1 3), (22, .i 0)]
def y10M0 (v : PyV) : Mem := []
def y10T1 (v : PyV) : Fr := puF (y5T1 v) [(2, .i 4), (12, .i 4)]
abbrev y10Mm (v : PyV) : Mem := (y10M0 v)
theorem y10_run (v : PyV) : PRun Tryz.prog 101 (y10M0 v) [.i 0, .i 0, .i 4] fun x m => x = .u (.b true) ∧ m = (y10Mm v) := Ev.runA (speWhole whp) Tryz.func101 (c := (bodyOf Tryz.f101)) (r := (.ret, (y10T1 v), (y10M0 v))) Ev.codeA
def y7T7 (v : PyV) : Fr := puF (y7T6 v) [(23, .u (.b true)), (24, .u (.b true)), (25, .u (.b true)), (26, .r 1 5), (27, .i 0)]
def y7T8 (v : PyV) : Fr := Fr.mk [(czy120 v), .r 1 0, .i 0, .u (.b true), .z, .z, .z, .r 1 0, .i 1, .u (.b true), .u (.b true), .r 1 2, .i 2, .u (.b true), .u (.b true), .u (.b true), .r 1 4, .i 2, .u (.b true), .u (.b true), .u (.b true), .r 1 3, .i 0, .u (.b true), .u (.b true), .u (.b true), .r 1 5, .i 0, .u (.b true), .u (.b true), .u (.b true), .r 1 5, .i 0, .r 1 2, .i 2, .u (.b true), .u (.b true)] 92 129
theorem y7n7 (v : PyV) (H : PyB v) : y7ev (cL y7C2) (y7T1 v) (y7M2 v) [(.nrm, (y7T8 v), (y7M2 v))] := Ev.regA (EvO.callA (t2 := y7T3 v) (m1 := y7M2 v) (ix := []) (k := 2) (t1 := (y7T3 v)) (args := [.i 1, .i 1, .i 1099511627776]) (a := []) (cc := []) (y8_run v) (EvO.callA (t2 := y7T4 v) (m1 := y7M2 v) (ix := []) (k := 3) (t1 := (y7T4 v)) (args := [.i 2, .i 1, .i 1099511627776]) (a := []) (cc := []) (y9_run v) (EvO.callA (t2 := y7T5 v) (m1 := y7M2 v) (ix := []) (k := 4) (t1 := (y7T5 v)) (args := [.i 2, .i 1, .i 1099511627776]) (a := []) (cc := []) (y9_run v) (EvO.callA (t2 := y7T6 v) (m1 := y7M2 v) (ix := []) (k := 4) (t1 := (y7T6 v)) (args := [.i 0, .i 0, .i 4]) (a := []) (cc := []) (y10_run v) (EvO.callA (t2 := y7T7 v) (m1 := y7M2 v) (ix := []) (k := 4) (t1 := (y7T7 v)) (args := [.i 0, .i 0, .i 1099511627776]) (a := []) (cc := []) (y5_run v) EvO.opsA)))))
def y7T9 (v : PyV) : Fr := puF (y7T8 v) [(37, .r 1 6), (38, .i 1)]
def y11M0 (v : PyV) : Mem := []
def y11T1 (v : PyV) : Fr := puF (y8T1 v) [(2, .i 8), (12, .i 8)]
abbrev y11Mm (v : PyV) : Mem := (y11M0 v)
theorem y11_run (v : PyV) : PRun Tryz.prog 101 (y11M0 v) [.i 1, .i 1, .i 8] fun x m => x = .u (.b true) ∧ m = (y11Mm v) := Ev.runA (speWhole whp) Tryz.func101 (c := (bodyOf Tryz.f101)) (r := (.ret, (y11T1 v), (y11M0 v))) Ev.codeA
def y7T10 (v : PyV) : Fr := puF (y7T9 v) [(39, .u (.b true)), (40, .u (.b true)), (41, .r 1 8), (42, .i v.p)]
def y12M0 (v : PyV) : Mem := []
def y12T1 (v : PyV) : Fr := Fr.mk [.i v.p, .i 0, .i 1152921504606846976, .z, .z, .z, .u (.b false)] 8 15
def y12T2 (v : PyV) : Fr := Fr.mk [.i v.p, .i 0, .i 1152921504606846976, .z, .z, .z, .u (.b false), .i v.p, .i 0] 6 15
def y12T3 (v : PyV) : Fr := Fr.mk [.i v.p, .i 0, .i 1152921504606846976, .z, .z, .z, .u (.b false), .i v.p, .i 0, .u (.b true), .u (.b true), .i v.p, .i 1152921504606846976] 2 15
def y12T4 (v : PyV) : Fr := puF (y12T3 v) [(6, .u (.b true)), (13, .u (.b true)), (14, .u (.b true))]
abbrev y12Mm (v : PyV) : Mem := (y12M0 v)
theorem y12_run (v : PyV) (H : PyB v) : PRun Tryz.prog 101 (y12M0 v) [.i v.p, .i 0, .i 1152921504606846976] fun x m => x = .u (.b true) ∧ m = (y12Mm v) := Ev.runA eK2 Tryz.func101 (c := (bodyOf Tryz.f101)) (r := (.ret, (y12T4 v), (y12M0 v))) (Ev.piecesA (k := 1) (t1 := y12T1 v) (m1 := y12M0 v) (Ev.seqPA (t1 := y12T4 v) (m1 := y12M0 v) (Ev.regA (EvO.opA (t2 := y12T2 v) (m1 := y12M0 v) (v := .u (.b true)) (k := 2) (t1 := (y12T2 v)) (symE (b := leF 0 v.p) (by kernel_rfl) (sLeT (by have := H.b; omega))) (EvO.opA (t2 := y12T3 v) (m1 := y12M0 v) (v := .u (.b true)) (k := 3) (t1 := (y12T3 v)) (symE (b := leF v.p 1152921504606846976) (by kernel_rfl) (sLeT (by have := H.b; omega))) EvO.opsA))) Ev.codeA))
def y7T11 (v : PyV) : Fr := puF (y7T10 v) [(43, .u (.b true)), (44, .u (.b true)), (45, .u (.b true)), (46, .r 1 12), (47, .i 0)]
def y13M0 (v : PyV) : Mem := []
def y13T1 (v : PyV) : Fr := puF (y12T4 v) [(0, .i 0), (7, .i 0), (11, .i 0)]
abbrev y13Mm (v : PyV) : Mem := (y13M0 v)
theorem y13_run (v : PyV) : PRun Tryz.prog 101 (y13M0 v) [.i 0, .i 0, .i 1152921504606846976] fun x m => x = .u (.b true) ∧ m = (y13Mm v) := Ev.runA (speWhole whp) Tryz.func101 (c := (bodyOf Tryz.f101)) (r := (.ret, (y13T1 v), (y13M0 v))) Ev.codeA
def y7T12 (v : PyV) : Fr := puF (y7T11 v) [(48, .u (.b true)), (49, .u (.b true)), (50, .u (.b true)), (51, .r 1 10), (52, .i 10)]
def y7T13 (v : PyV) : Fr := puF (y7T12 v) [(4, .u (.b true)), (53, .u (.b true)), (54, .u (.b true))]
def y7T14 (v : PyV) : Fr := puF (y7T13 v) [(5, .u (.b true)), (6, .u (.b false)), (55, .r 1 13), (56, .w 0), (57, .i 0), (58, .u (.b true)), (59, .u (.b true)), (60, .r 1 14), (61, .nl 2), (62, .i 0), (63, .u (.b true)), (64, .u (.b true))]
def y7M15 (v : PyV) : Mem := paM (y7M2 v) [] [.c [.i 1, .i 5]]
def y7T16 (v : PyV) : Fr := puF (y7T13 v) [(5, .u (.b true)), (6, .u (.b false)), (55, .r 1 13), (56, .w 0), (57, .i 0), (58, .u (.b true)), (59, .u (.b true)), (60, .r 1 14), (61, .nl 2), (62, .i 0), (63, .u (.b true)), (64, .u (.b true)), (65, .r 1 1), (66, .i 1)]
def y7T17 (v : PyV) : Fr := puF (y7T13 v) [(5, .u (.b true)), (6, .u (.b false)), (55, .r 1 13), (56, .w 0), (57, .i 0), (58, .u (.b true)), (59, .u (.b true)), (60, .r 1 14), (61, .nl 2), (62, .i 0), (63, .u (.b true)), (64, .u (.b true)), (65, .r 1 1), (66, .i 1), (67, .u (.b true)), (68, .u (.b true))]
def y7T18 (v : PyV) : Fr := puF (y7T13 v) [(5, .u (.b true)), (6, .u (.b false)), (55, .r 1 13), (56, .w 0), (57, .i 0), (58, .u (.b true)), (59, .u (.b true)), (60, .r 1 14), (61, .nl 2), (62, .i 0), (63, .u (.b true)), (64, .u (.b true)), (65, .r 1 1), (66, .i 1), (67, .u (.b true)), (68, .u (.b true)), (69, .r 1 7), (70, .i 2)]
def y14M0 (v : PyV) : Mem := []
def y14T1 (v : PyV) : Fr := puF (y9T1 v) [(2, .i 8), (12, .i 8)]
abbrev y14Mm (v : PyV) : Mem := (y14M0 v)
theorem y14_run (v : PyV) : PRun Tryz.prog 101 (y14M0 v) [.i 2, .i 1, .i 8] fun x m => x = .u (.b true) ∧ m = (y14Mm v) := Ev.runA (speWhole whp) Tryz.func101 (c := (bodyOf Tryz.f101)) (r := (.ret, (y14T1 v), (y14M0 v))) Ev.codeA
def y7T19 (v : PyV) : Fr := puF (y7T13 v) [(5, .u (.b true)), (6, .u (.b false)), (55, .r 1 13), (56, .w 0), (57, .i 0), (58, .u (.b true)), (59, .u (.b true)), (60, .r 1 14), (61, .nl 2), (62, .i 0), (63, .u (.b true)), (64, .u (.b true)), (65, .r 1 1), (66, .i 1), (67, .u (.b true)), (68, .u (.b true)), (69, .r 1 7), (70, .i 2), (71, .u (.b true)), (72, .u (.b true)), (73, .r 1 11), (74, .i 20)]
def y15M0 (v : PyV) : Mem := []
def y15T1 (v : PyV) : Fr := puF (y6T1 v) [(0, .i 20), (7, .i 20), (11, .i 20)]
abbrev y15Mm (v : PyV) : Mem := (y15M0 v)
theorem y15_run (v : PyV) : PRun Tryz.prog 101 (y15M0 v) [.i 20, .i 1, .i 1048576] fun x m => x = .u (.b true) ∧ m = (y15Mm v) := Ev.runA (speWhole whp) Tryz.func101 (c := (bodyOf Tryz.f101)) (r := (.ret, (y15T1 v), (y15M0 v))) Ev.codeA
def y7T20 (v : PyV) : Fr := puF (y7T13 v) [(5, .u (.b true)), (6, .u (.b false)), (55, .r 1 13), (56, .w 0), (57, .i 0), (58, .u (.b true)), (59, .u (.b true)), (60, .r 1 14), (61, .nl 2), (62, .i 0), (63, .u (.b true)), (64, .u (.b true)), (65, .r 1 1), (66, .i 1), (67, .u (.b true)), (68, .u (.b true)), (69, .r 1 7), (70, .i 2), (71, .u (.b true)), (72, .u (.b true)), (73, .r 1 11), (74, .i 20), (75, .u (.b true)), (76, .u (.b true)), (77, .u (.b true)), (78, .r 1 9), (79, .i v.q)]
def y16M0 (v : PyV) : Mem := []
def y16T1 (v : PyV) : Fr := Fr.mk [.i v.q, .i 0, .i 1152921504606846976, .z, .z, .z, .u (.b false)] 8 15
def y16T2 (v : PyV) : Fr := Fr.mk [.i v.q, .i 0, .i 1152921504606846976, .z, .z, .z, .u (.b false), .i v.q, .i 0] 6 15
def y16T3 (v : PyV) : Fr := puF (y12T3 v) [(0, .i v.q), (7, .i v.q), (11, .i v.q)]
def y16T4 (v : PyV) : Fr := puF (y12T4 v) [(0, .i v.q), (7, .i v.q), (11, .i v.q)]
abbrev y16Mm (v : PyV) : Mem := (y16M0 v)
theorem y16_run (v : PyV) (H : PyB v) : PRun Tryz.prog 101 (y16M0 v) [.i v.q, .i 0, .i 1152921504606846976] fun x m => x = .u (.b true) ∧ m = (y16Mm v) := Ev.runA eK2 Tryz.func101 (c := (bodyOf Tryz.f101)) (r := (.ret, (y16T4 v), (y16M0 v))) (Ev.piecesA (k := 1) (t1 := y16T1 v) (m1 := y16M0 v) (Ev.seqPA (t1 := y16T4 v) (m1 := y16M0 v) (Ev.regA (EvO.opA (t2 := y16T2 v) (m1 := y16M0 v) (v := .u (.b true)) (k := 2) (t1 := (y16T2 v)) (symE (b := leF 0 v.q) (by kernel_rfl) (sLeT (by have := H.b; omega))) (EvO.opA (t2 := y16T3 v) (m1 := y16M0 v) (v := .u (.b true)) (k := 3) (t1 := (y16T3 v)) (symE (b := leF v.q 1152921504606846976) (by kernel_rfl) (sLeT (by have := H.b; omega))) EvO.opsA))) Ev.codeA))
def y7T21 (v : PyV) : Fr := Fr.mk [(czy120 v), .r 1 0, .i 0, .u (.b true), .u (.b true), .u (.b true), .u (.b true), .r 1 0, .i 1, .u (.b true), .u (.b true), .r 1 2, .i 2, .u (.b true), .u (.b true), .u (.b true), .r 1 4, .i 2, .u (.b true), .u (.b true), .u (.b true), .r 1 3, .i 0, .u (.b true), .u (.b true), .u (.b true), .r 1 5, .i 0, .u (.b true), .u (.b true), .u (.b true), .r 1 5, .i 0, .r 1 2, .i 2, .u (.b true), .u (.b true), .r 1 6, .i 1, .u (.b true), .u (.b true), .r 1 8, .i v.p, .u (.b true), .u (.b true), .u (.b true), .r 1 12, .i 0, .u (.b true), .u (.b true), .u (.b true), .r 1 10, .i 10, .u (.b true), .u (.b true), .r 1 13, .w 0, .i 0, .u (.b true), .u (.b true), .r 1 14, .nl 2, .i 0, .u (.b true), .u (.b true), .r 1 1, .i 1, .u (.b true), .u (.b true), .r 1 7, .i 2, .u (.b true), .u (.b true), .r 1 11, .i 20, .u (.b true), .u (.b true), .u (.b true), .r 1 9, .i v.q, .u (.b true), .u (.b true), .u (.b true), .r 1 13, .w 0, .i 1, .u (.b true), .u (.b true), .u (.b true), .r 1 14, .nl 2, .i 0, .u (.b true), .u (.b true)] 35 129
def y7T22 (v : PyV) : Fr := puF (y7T21 v) [(115, .u (.b true)), (116, .u (.b true)), (117, .u (.b true)), (118, .u (.b true)), (119, .u (.b true)), (120, .u (.b true)), (121, .u (.b true)), (122, .u (.b true)), (123, .u (.b true)), (124, .u (.b true)), (125, .u (.b true)), (126, (czy120 v))]
def y17M0 (v : PyV) : Mem := [.w 106 2 [[.n 1, .n 5]]]
def y17T1 (v : PyV) : Fr := Fr.mk [(czy120 v), .r 1 0, .u (.b false), .u (.b true), .u (.b true), .z, .z, .z, .r 1 1, .i 1, .u (.b true), .r 1 17, .i 0, .u (.b true), .u (.b true), .r 1 18, .i 0, .u (.b true), .u (.b true)] 71 90
def y17M2 (v : PyV) : Mem := [.w 106 2 [[.n 1, .n 5]],
  .c [.i 1, .i 1, .i 2, .i 0, .i 2, .i 0, .i 1, .i 2, .i v.p, .i v.q, .i 10, .i 20, .i 0, .w 0, .nl 2, .i 1, .i 10, .i 0, .i 0]]
def y17T3 (v : PyV) : Fr := puF (y17T1 v) [(19, .r 1 17), (20, .i 0)]
def y18M0 (v : PyV) : Mem := []
def y18T1 (v : PyV) : Fr := Fr.mk [.i 0, .i 1, .i 1099511627776, .z, .z, .z, .u (.b false), .i 0, .i 1, .u (.b false), .u (.b false), .t [], .t [], .t [], .u (.b false)] 0 15
abbrev y18Mm (v : PyV) : Mem := (y18M0 v)
theorem y18_run (v : PyV) : PRun Tryz.prog 101 (y18M0 v) [.i 0, .i 1, .i 1099511627776] fun x m => x = .u (.b false) ∧ m = (y18Mm v) := Ev.runA (speWhole whp) Tryz.func101 (c := (bodyOf Tryz.f101)) (r := (.ret, (y18T1 v), (y18M0 v))) Ev.codeA
def y17T4 (v : PyV) : Fr := puF (y17T3 v) [(21, .u (.b false)), (22, .u (.b false)), (23, .t []), (24, .t []), (25, .t []), (26, .t []), (27, .t []), (28, .u (.b false)), (29, .u (.b false)), (30, .t []), (31, .t [])]
def y17T5 (v : PyV) : Fr := puF (y17T4 v) [(5, .u (.b false)), (32, .t []), (33, .u (.b false))]
def y17T6 (v : PyV) : Fr := puF (y17T5 v) [(34, .r 1 16), (35, .i 10)]
def y19M0 (v : PyV) : Mem := []
def y19T1 (v : PyV) : Fr := puF (y6T1 v) [(2, .i 2199023255552), (12, .i 2199023255552)]
abbrev y19Mm (v : PyV) : Mem := (y19M0 v)
theorem y19_run (v : PyV) : PRun Tryz.prog 101 (y19M0 v) [.i 10, .i 1, .i 2199023255552] fun x m => x = .u (.b true) ∧ m = (y19Mm v) := Ev.runA (speWhole whp) Tryz.func101 (c := (bodyOf Tryz.f101)) (r := (.ret, (y19T1 v), (y19M0 v))) Ev.codeA
def y17T7 (v : PyV) : Fr := puF (y17T6 v) [(6, .u (.b true)), (36, .u (.b true))]
def y17T8 (v : PyV) : Fr := puF (y17T7 v) [(2, .u (.b true)), (7, .u (.b false)), (37, .r 1 16), (38, .i 10), (39, .u (.b false)), (40, .r 1 15), (41, .i 1), (42, .u (.b true)), (43, .u (.b true)), (44, .u (.b true)), (45, .u (.b true)), (46, .u (.b true)), (47, .u (.b true))]
abbrev y17Mm (v : PyV) : Mem := (y17M0 v)
theorem y17_run (v : PyV) (H : PyB v) : PRun Tryz.prog 130 (y17M0 v) [(czy120 v)] fun x m => x = .u (.b true) ∧ m = (y17Mm v) := Ev.runA eK2 Tryz.func130 (c := (bodyOf Tryz.f130)) (r := (.ret, (y17T8 v), (y17M2 v))) (Ev.piecesA (k := 3) (t1 := y17T1 v) (m1 := y17M2 v) (Ev.seqPA (t1 := y17T5 v) (m1 := y17M2 v) (Ev.regA (EvO.callA (t2 := y17T3 v) (m1 := y17M2 v) (ix := []) (k := 2) (t1 := (y17T3 v)) (args := [.i 0, .i 1, .i 1099511627776]) (a := []) (cc := []) (y18_run v) (EvO.not (k := 10) (t1 := (y17T4 v)) (t2 := (y17T4 v)) (m1 := (y17M2 v)) (by kernel_rfl) (by kernel_rfl) (by kernel_rfl) EvO.opsA))) (Ev.seqPA (t1 := y17T7 v) (m1 := y17M2 v) (Ev.regA (EvO.callA (t2 := y17T6 v) (m1 := y17M2 v) (ix := []) (k := 2) (t1 := (y17T6 v)) (args := [.i 10, .i 1, .i 2199023255552]) (a := []) (cc := []) (y19_run v) EvO.opsA)) Ev.codeA)))
def y7T23 (v : PyV) : Fr := puF (y7T22 v) [(127, .u (.b true)), (128, .u (.b true))]
theorem y7n32 (v : PyV) (H : PyB v) : y7ev y7C2 (y7T1 v) (y7M2 v) [(.ret, (y7T23 v), (y7M15 v))] := Ev.seqPA (y7n7 v H) (Ev.seqPA (t1 := y7T13 v) (m1 := y7M2 v) (Ev.regA (EvO.callA (t2 := y7T9 v) (m1 := y7M2 v) (ix := []) (k := 2) (t1 := (y7T9 v)) (args := [.i 1, .i 1, .i 8]) (a := []) (cc := []) (y11_run v) (EvO.callA (t2 := y7T10 v) (m1 := y7M2 v) (ix := []) (k := 3) (t1 := (y7T10 v)) (args := [.i v.p, .i 0, .i 1152921504606846976]) (a := []) (cc := []) (y12_run v H) (EvO.callA (t2 := y7T11 v) (m1 := y7M2 v) (ix := []) (k := 4) (t1 := (y7T11 v)) (args := [.i 0, .i 0, .i 1152921504606846976]) (a := []) (cc := []) (y13_run v) (EvO.callA (t2 := y7T12 v) (m1 := y7M2 v) (ix := []) (k := 4) (t1 := (y7T12 v)) (args := [.i 10, .i 1, .i 1048576]) (a := []) (cc := []) (y6_run v) EvO.opsA))))) (Ev.piecesA (k := 2) (t1 := y7T14 v) (m1 := y7M15 v) (Ev.seqPA (t1 := y7T21 v) (m1 := y7M15 v) (Ev.piecesA (k := 1) (t1 := y7T16 v) (m1 := y7M15 v) (Ev.blockP (e := .nrm) (by kernel_rfl) (by kernel_rfl) (Ev.piecesA (k := 1) (t1 := y7T17 v) (m1 := y7M15 v) (Ev.condT (by kernel_rfl) (by kernel_rfl) (Ev.regA (EvO.callA (t2 := y7T18 v) (m1 := y7M15 v) (ix := []) (k := 2) (t1 := (y7T18 v)) (args := [.i 2, .i 1, .i 8]) (a := []) (cc := []) (y14_run v) (EvO.callA (t2 := y7T19 v) (m1 := y7M15 v) (ix := []) (k := 3) (t1 := (y7T19 v)) (args := [.i 20, .i 1, .i 1048576]) (a := []) (cc := []) (y15_run v) (EvO.callA (t2 := y7T20 v) (m1 := y7M15 v) (ix := []) (k := 4) (t1 := (y7T20 v)) (args := [.i v.q, .i 0, .i 1152921504606846976]) (a := []) (cc := []) (y16_run v H) EvO.opsA)))))))) (Ev.seqE (by intro h; cases h) (by kernel_rfl) (Ev.seqPA (t1 := y7T23 v) (m1 := y7M15 v) (Ev.regA (EvO.callA (t2 := y7T22 v) (m1 := y7M15 v) (ix := [0]) (k := 12) (t1 := (y7T22 v)) (args := [(czy120 v)]) (a := []) (cc := []) (y17_run v H) EvO.opsA)) Ev.codeA)))))
abbrev y7Mm (v : PyV) : Mem := (y7M0 v)
theorem y7_run (v : PyV) (H : PyB v) : PRun Tryz.prog 74 (y7M0 v) [(czy120 v)] fun x m => x = .i 0 ∧ m = (y7Mm v) := Ev.runA eK2 Tryz.func74 (c := y7C1) (r := (.ret, (y7T23 v), (y7M15 v))) (Ev.piecesA (k := 1) (y7n32 v H))
def y4T9 (v : PyV) : Fr := puF (y4T8 v) [(22, .i 0), (23, .u (.b true))]
def y4T10 (v : PyV) : Fr := puF (y4T8 v) [(22, .i 0), (23, .u (.b true)), (24, (czy120 v))]
def y4M11 (v : PyV) : Mem := [.w 106 2 [[.n 1, .n 5]],
  .c [.i 1, .i 1, .i 2, .i 0, .i 2, .i 0, .i 1, .i 2, .i v.p, .i v.q, .i 10, .i 20, .i 0, .w 0, .nl 2, .i 1, .i 10, .i 0, .i 0],
  .c [.i 1, .i 1, .i 2, .i 0, .i 2, .i 0, .i 1, .i 2, .i v.p, .i v.q, .i 10, .i 20, .i 0, .w 0, .nl 2, .i 1, .i 10, .i 0, .i 0]]
def y4M12 (v : PyV) : Mem := [.x]
abbrev y4Mm (v : PyV) : Mem := (y4M12 v)
theorem y4_run (v : PyV) (H : PyB v) : PRun Tryz.prog 87 (y4M0 v) [(czy122 v), .i 0] fun x m => x = .t [(czy115 v), .i 0] ∧ m = (y4Mm v) := Ev.runA eK2 Tryz.func87 (c := (bodyOf Tryz.f87)) (r := (.ret, (y4T10 v), (y4M11 v))) (Ev.piecesA (k := 2) (t1 := y4T1 v) (m1 := y4M2 v) (Ev.seqE (by intro h; cases h) (by kernel_rfl) (Ev.seqPA (t1 := y4T5 v) (m1 := y4M2 v) (Ev.regA (EvO.callA (t2 := y4T3 v) (m1 := y4M2 v) (ix := []) (k := 1) (t1 := (y4T3 v)) (args := [.i 0, .i 0, .i 1099511627776]) (a := []) (cc := []) (y5_run v) (EvO.callA (t2 := y4T4 v) (m1 := y4M2 v) (ix := []) (k := 3) (t1 := (y4T4 v)) (args := [.i 10, .i 1, .i 1048576]) (a := []) (cc := []) (y6_run v) EvO.opsA))) (Ev.condT (by kernel_rfl) (by kernel_rfl) (Ev.piecesA (k := 1) (t1 := y4T6 v) (m1 := y4M7 v) (Ev.seqPA (t1 := y4T9 v) (m1 := y4M7 v) (Ev.regA (EvO.callA (t2 := y4T8 v) (m1 := y4M7 v) (ix := [0]) (k := 1) (t1 := (y4T8 v)) (args := [(czy120 v)]) (a := []) (cc := []) (y7_run v H) EvO.opsA)) Ev.codeA))))))
def y3T4 (v : PyV) : Fr := Fr.mk [.r 0 0, .i 0, (czy121 v), .z, .z, .r 11 0, .r 12 0, .i 0, .i 0, .z, .z, .z, .z, .r 0 0, .r 0 0, .r 0 12, .nl 19, .i 0, .i 1, .r 11 0, .r 11 12, .r 11 13, .w 1, .w 13, .r 11 14, .nl 2, .nl 2, .r 11 13, .r 11 14, .t [(czy115 v), .i 0], (czy119 v), .i 0, .t [(czy115 v), .i 0], (czy115 v), .i 0] 88 123
def y3M5 (v : PyV) : Mem := paM (y3M2 v) [(11, .c [.i 1, .i 1, .i 2, .i 0, .i 2, .i 0, .i 1, .i 2, .i v.p, .i v.q, .i 10, .i 20, .i 0, .u (.l 2 [[.n 1, .n 5]]), .nl 2, .i 1, .i 10, .i 0, .i 0]), (13, .x)] []
def y3T6 (v : PyV) : Fr := Fr.mk [.r 0 0, .i 0, (czy121 v), .z, .z, .r 11 0, .r 12 0, .i 0, .i 0, .z, .i 0, .i 0, .i 0, .r 0 0, .r 0 0, .r 0 12, .nl 19, .i 0, .i 1, .r 11 0, .r 11 12, .r 11 13, .w 1, .w 13, .r 11 14, .nl 2, .nl 2, .r 11 13, .r 11 14, .t [(czy115 v), .i 0], (czy119 v), .i 0, .t [(czy115 v), .i 0], (czy115 v), .i 0, .i 0, .u (.b false), .u (.b false), .r 11 6, .i 1, .r 11 7, .i 2, .i 2, .r 0 0, .r 0 0, .r 0 0, .r 0 2, .i 2, .u (.b false), .u (.b false), .u (.b false), .r 11 13, .u (.l 2 [[.n 1, .n 5]]), .r 0 0, .r 0 0, .r 0 0, .r 0 0, .i 4, .i 0, .u (.b false), .u (.b false), .u (.b false), .r 11 14, .nl 2, .r 0 0, .r 0 0, .r 0 0, .r 0 0, .i 4, .i 0, .u (.b false), .u (.b false), .z, .r 11 2, .i 2, .r 11 5, .i 0, .w 15, .i 2, .i 2, .u (.b false), .e 15 1 1 0, .i 0, .t [.i 0, .i 0], .r 0 0, .r 0 0, .r 0 8, .r 4 0, .i 0, .t [.i 0, .i 0], .i 0, .i 0, .i 0, .u (.b false), .u (.b false), .t [], .t [], .u (.b false), .z, .i 2, .r 11 0, .i 1, .u (.b false)] 20 123
def y3M7 (v : PyV) : Mem := paM (y3M5 v) [] [.c [.i 1, .i 5],
  .w 3 1 [[.n 2], [.n 0]]]
noncomputable abbrev y3C7 : Code := cL (cL (dropK 3 (cR (dropK 3 y3C1))))
def y3T8 (v : PyV) : Fr := puF (y3T6 v) [(105, .r 0 0), (106, .r 0 0), (107, .r 0 0), (108, .r 0 5), (109, .a [.i 200, .i 1, .i 500]), (110, .r 11 8), (111, .i v.p), (112, .r 11 9), (113, .i v.q)]
def y3T9 (v : PyV) : Fr := puF (y3T8 v) [(114, .i (v.p + v.q))]
def y3T10 (v : PyV) : Fr := puF (y3T9 v) [(104, .t [.i v.f, .i 0]), (115, .t [.i v.f, .i 0]), (116, .i v.f), (117, .i 0), (118, .r 11 12)]
def y3M11 (v : PyV) : Mem := paM (y3M7 v) [(11, .c [.i 1, .i 1, .i 2, .i 0, .i 2, .i 0, .i 1, .i 2, .i v.p, .i v.q, .i 10, .i 20, .i v.f, .u (.l 2 [[.n 1, .n 5]]), .nl 2, .i 1, .i 10, .i 0, .i 0])] []
theorem y3n4 (v : PyV) (H : PyB v) : y3evD (cOp y3C7) (0, [16, 15, 14, 13, 12, 11, 10, 9, 8, 7, 6, 5, 4, 3, 2, 1, 0], [(8, [11]), (6, [11]), (4, [0])], (y3T10 v), (y3M11 v)) [((y3T10 v), (y3M11 v))] := EvD.codeA
theorem y3n5 (v : PyV) (H : PyB v) : y3evD (cOp y3C7) (6, [10, 9, 8, 7, 6, 5, 4, 3, 2, 1, 0], [(8, [11]), (6, [11]), (4, [0])], (cPut (opAt (cOp y3C7) 10).dst).p (y3T9 v) (renV (fK [] ((y3M7 v)).length) (.t [.i v.f, .i 0])), backM (y3M7 v) [] ([])) [((y3T10 v), (y3M11 v))] := EvD.stepsA (j := 6) (y3n4 v H)
theorem y3n6 (v : PyV) (H : PyB v) : y3evD (cOp y3C7) (7, [9, 8, 7, 6, 5, 4, 3, 2, 1, 0], [(8, [11]), (6, [11]), (4, [0])], (y3T9 v), (y3M7 v)) [((y3T10 v), (y3M11 v))] := EvD.oneA 10 (EvE.callA (args := [.a [.i 200, .i 1, .i 500], .i (v.p + v.q)]) (a := []) (cc := []) 10 H.hB (y3n5 v H))
theorem y3n7 (v : PyV) (H : PyB v) : y3evD (cOp y3C7) (7, [9, 8, 7, 6, 5, 4, 3, 2, 1, 0], cond (pureOp (opAt (cOp y3C7) 9)) [(8, [11]), (6, [11]), (4, [0])] ((9, srcF (y3T8 v) (opAt (cOp y3C7) 9)) :: [(8, [11]), (6, [11]), (4, [0])]), (cPut (opAt (cOp y3C7) 9).dst).p (y3T8 v) (.i (v.p + v.q)), (y3M7 v)) [((y3T10 v), (y3M11 v))] := EvD.stepsA (j := 0) (y3n6 v H)
theorem y3n8 (v : PyV) (H : PyB v) : y3evD (cOp y3C7) (8, [8, 7, 6, 5, 4, 3, 2, 1, 0], [(8, [11]), (6, [11]), (4, [0])], (y3T8 v), (y3M7 v)) [((y3T10 v), (y3M11 v))] := EvD.op (t2 := (y3T8 v)) (v := .i (v.p + v.q)) 9 (by kernel_rfl) (by kernel_rfl) (by kernel_rfl) (symI1 (a := wrapF .i64 (addF v.p v.q)) (z := (v.p + v.q)) (by kernel_rfl) (sAdd (by have := H.b; omega))) (y3n7 v H)
def y3T13 (v : PyV) : Fr := puF (y3T10 v) [(119, .i 0), (120, .u (.b false))]
def y3T14 (v : PyV) : Fr := puF (y3T13 v) [(122, (czy114 v))]
def y3M15 (v : PyV) : Mem := paM (y3M11 v) [(12, .c [.i 1, .i 1, .i 2, .i 0, .i 2, .i 0, .i 1, .i 2, .i v.p, .i v.q, .i 10, .i 20, .i v.f, .u (.l 2 [[.n 1, .n 5]]), .nl 2, .i 1, .i 10, .i 0, .i 0])] []
abbrev y3Mm (v : PyV) : Mem := (y3M0 v)
theorem y3_run (v : PyV) (H : PyB v) : PRun Tryz.prog 36 (y3M0 v) [.r 0 0, .i 0, (czy121 v)] fun x m => x = .t [(czy114 v), .i 0] ∧ m = (y3Mm v) := Ev.runA eK2 Tryz.func36 (c := y3C1) (r := (.ret, (y3T14 v), (y3M15 v))) (Ev.piecesA (k := 3) (t1 := y3T1 v) (m1 := y3M2 v) (Ev.seqPA (t1 := y3T4 v) (m1 := y3M5 v) (Ev.regA (EvO.callA (t2 := y3T3 v) (m1 := y3M2 v) (ix := [13]) (k := 2) (t1 := (y3T3 v)) (args := [(czy119 v), .i 0]) (a := []) (cc := []) (y4_run v H) EvO.opsA)) (Ev.piecesA (k := 3) (t1 := y3T6 v) (m1 := y3M7 v) (Ev.seqPA (t1 := y3T13 v) (m1 := y3M11 v) (Ev.seqPA (t1 := y3T10 v) (m1 := y3M11 v) (Ev.regD2 (outs := [((y3T10 v), (y3M11 v))]) (by kernel_rfl) (by kernel_rfl) (by kernel_rfl) (EvD.stepsA (j := 9) (y3n8 v H)) ⟨by kernel_rfl, trivial⟩) Ev.codeA) Ev.codeA))))
def y2T4 (v : PyV) : Fr := Fr.mk [.r 0 0, .i 0, (czy121 v), .z, .z, .r 11 0, .i 0, .i 0, .i 0, .z, .z, .z, .r 0 0, .u (.b true), .u (.b false), .t [(czy114 v), .i 0], .r 0 0, .i 0, (czy121 v), .t [(czy114 v), .i 0], (czy114 v), .i 0] 87 109
def y2M5 (v : PyV) : Mem := paM (y2M0 v) [] [.c [.i 1, .i 1, .i 2, .i 0, .i 2, .i 0, .i 1, .i 2, .i v.p, .i v.q, .i 10, .i 20, .i v.f, .u (.l 2 [[.n 1, .n 5]]), .nl 2, .i 1, .i 10, .i 0, .i 0]]
def y2T6 (v : PyV) : Fr := puF (y2T4 v) [(9, .r 13 0), (10, .i 500), (11, .i 0), (22, .i 0), (23, .u (.b false)), (25, .r 11 2), (26, .i 2), (27, .r 11 3), (28, .i 0), (29, .r 11 6), (30, .i 1), (31, .a [.i 2, .i 0, .i 1, .i 1]), (32, .t [.i 500, .i 0]), (33, .r 0 0), (34, .r 0 0), (35, .r 0 8), (36, .r 4 0), (37, .r 11 2), (38, .i 2), (39, .t [.i 500, .i 0]), (40, .i 500), (41, .i 0)]
def y2M7 (v : PyV) : Mem := paM (y2M5 v) [] [.c [.i 2, .i 0, .i 1, .i 1],
  .c [.i 2, .i 0, .i 1, .i 1]]
noncomputable abbrev y2C5 : Code := dropK 3 (cR (dropK 2 y2C1))
noncomputable abbrev y2C8 : Code := cL (cBd (cL y2C5))
def y2T8 (v : PyV) : Fr := puF (y2T6 v) [(43, .i 500), (44, .r 11 12), (45, .i v.f), (46, (czy114 v)), (47, .i v.p)]
def y2M9 (v : PyV) : Mem := paM (y2M7 v) [] [.c [.i 1, .i 1, .i 2, .i 0, .i 2, .i 0, .i 1, .i 2, .i v.p, .i v.q, .i 10, .i 20, .i v.f, .u (.l 2 [[.n 1, .n 5]]), .nl 2, .i 1, .i 10, .i 0, .i 0]]
def y2T10 (v : PyV) : Fr := puF (y2T8 v) [(48, .i (v.p + v.f))]
def y2T11 (v : PyV) : Fr := puF (y2T10 v) [(42, .u (.b false)), (49, .u (.b false))]
theorem y2n4 (v : PyV) (H : PyB v) : y2evD (cOp y2C8) (0, [7, 6, 5, 4, 3, 2, 1, 0], [(3, [11]), (2, [11])], (y2T11 v), (y2M9 v)) [((y2T11 v), (y2M9 v))] := EvD.codeA
theorem y2n5 (v : PyV) (H : PyB v) : y2evD (cOp y2C8) (1, [6, 5, 4, 3, 2, 1, 0], cond (pureOp (opAt (cOp y2C8) 6)) [(3, [11]), (2, [11])] ((6, srcF (y2T10 v) (opAt (cOp y2C8) 6)) :: [(3, [11]), (2, [11])]), (cPut (opAt (cOp y2C8) 6).dst).p (y2T10 v) (.u (.b false)), (y2M9 v)) [((y2T11 v), (y2M9 v))] := EvD.stepsA (j := 1) (y2n4 v H)
theorem y2n6 (v : PyV) (H : PyB v) : y2evD (cOp y2C8) (2, [5, 4, 3, 2, 1, 0], [(3, [11]), (2, [11])], (y2T10 v), (y2M9 v)) [((y2T11 v), (y2M9 v))] := EvD.op (t2 := (y2T10 v)) (v := .u (.b false)) 6 (by kernel_rfl) (by kernel_rfl) (by kernel_rfl) (symE1 (b := ltF 500 (v.p + v.f)) (by kernel_rfl) (sLtF (by have := H.b; omega))) (y2n5 v H)
theorem y2n7 (v : PyV) (H : PyB v) : y2evD (cOp y2C8) (2, [5, 4, 3, 2, 1, 0], cond (pureOp (opAt (cOp y2C8) 5)) [(3, [11]), (2, [11])] ((5, srcF (y2T8 v) (opAt (cOp y2C8) 5)) :: [(3, [11]), (2, [11])]), (cPut (opAt (cOp y2C8) 5).dst).p (y2T8 v) (.i (v.p + v.f)), (y2M9 v)) [((y2T11 v), (y2M9 v))] := EvD.stepsA (j := 0) (y2n6 v H)
theorem y2n8 (v : PyV) (H : PyB v) : y2evD (cOp y2C8) (3, [4, 3, 2, 1, 0], [(3, [11]), (2, [11])], (y2T8 v), (y2M9 v)) [((y2T11 v), (y2M9 v))] := EvD.op (t2 := (y2T8 v)) (v := .i (v.p + v.f)) 5 (by kernel_rfl) (by kernel_rfl) (by kernel_rfl) (symI1 (a := wrapF .i64 (addF v.f v.p)) (z := (v.p + v.f)) (by kernel_rfl) (sAdd (by have := H.b; omega))) (y2n7 v H)
def y2T13 (v : PyV) : Fr := puF (y2T11 v) [(50, .u (.b false)), (51, .r 0 0), (52, .a [.i 2, .i 0, .i 1, .i 1]), (53, .r 11 13), (54, .u (.l 2 [[.n 1, .n 5]])), (55, .u (.b true)), (56, .u (.b false))]
noncomputable abbrev y2C10 : Code := cR y2C5
noncomputable abbrev y2C11 : Code := cL y2C10
def y2T14 (v : PyV) : Fr := puF (y2T13 v) [(57, .r 0 0), (58, .r 0 0), (59, .r 0 8), (60, .r 4 0), (61, .r 11 2), (62, .i 2), (63, .r 11 12), (64, .i v.f)]
def y20M0 (v : PyV) : Mem := [.c [.w 1, .i 562],
  czy117]
def y20T1 (v : PyV) : Fr := Fr.mk [.r 0 0, .i 2, .i 0, .i v.f, .z, .z, .z, .z, .i 0, .z, .i 0, .i 0, .i 0, .z, .i 2, .i 0, .w 2, .i 2, .i 2, .u (.b false), .e 2 1 1 0, .i 0, .t [.i 0, .i 0], .r 0 0, .i 0, .t [.i 0, .i 0], .i 0, .i 0, .i 0, .u (.b false), .z, .i 2] 16 48
def y20M2 (v : PyV) : Mem := paM (y20M0 v) [] [.w 3 1 [[.n 2], [.n 0]]]
def y20T3 (v : PyV) : Fr := puF (y20T1 v) [(32, .r 0 0), (33, .i 2), (34, .i v.f)]
def y21M0 (v : PyV) : Mem := [.c [.w 1, .i 562],
  czy117]
def y21T1 (v : PyV) : Fr := Fr.mk [.r 0 0, .i 2, .i v.f, .z, .z, .z, .i 0, .i 500, .i 0, .t [.i 500, .i 0], .r 0 0, .i 2, .t [.i 500, .i 0], .i 500, .i 0] 11 26
def y21T2 (v : PyV) : Fr := puF (y21T1 v) [(15, .u (.b false)), (16, .i 0), (17, .u (.b false))]
def y21T3 (v : PyV) : Fr := puF (y21T2 v) [(20, .i v.f)]
def y21T4 (v : PyV) : Fr := puF (y21T3 v) [(19, .u (.b false)), (21, .u (.b false))]
def y21T5 (v : PyV) : Fr := puF (y21T4 v) [(23, .i v.f), (24, .i 500)]
def y21T6 (v : PyV) : Fr := puF (y21T5 v) [(22, .u (.b false)), (25, .u (.b false))]
abbrev y21Mm (v : PyV) : Mem := (y21M0 v)
theorem y21_run (v : PyV) (H : PyB v) : PRun Tryz.prog 92 (y21M0 v) [.r 0 0, .i 2, .i v.f] fun x m => x = .i 0 ∧ m = (y21Mm v) := Ev.runA eK2 Tryz.func92 (c := (bodyOf Tryz.f92)) (r := (.ret, (y21T6 v), (y21M0 v))) (Ev.piecesA (k := 2) (t1 := y21T1 v) (m1 := y21M0 v) (Ev.seqPA (t1 := y21T6 v) (m1 := y21M0 v) (Ev.blockP (e := .nrm) (by kernel_rfl) (by kernel_rfl) (Ev.piecesA (k := 1) (t1 := y21T2 v) (m1 := y21M0 v) (Ev.condF (by kernel_rfl) (by kernel_rfl) (Ev.seqPA (t1 := y21T4 v) (m1 := y21M0 v) (Ev.regA (EvO.opA (t2 := y21T3 v) (m1 := y21M0 v) (v := .u (.b false)) (k := 1) (t1 := (y21T3 v)) (symE (b := ltF v.f 0) (by kernel_rfl) (sLtF (by have := H.b; omega))) EvO.opsA)) (Ev.condF (by kernel_rfl) (by kernel_rfl) (Ev.seqPA (t1 := y21T6 v) (m1 := y21M0 v) (Ev.regA (EvO.opA (t2 := y21T5 v) (m1 := y21M0 v) (v := .u (.b false)) (k := 2) (t1 := (y21T5 v)) (symE (b := ltF 500 v.f) (by kernel_rfl) (sLtF (by have := H.b; omega))) EvO.opsA)) Ev.codeA)))))) Ev.codeA))
def y20T4 (v : PyV) : Fr := puF (y20T3 v) [(13, .i 0), (35, .i 0)]
def y20T5 (v : PyV) : Fr := puF (y20T4 v) [(36, .i 0), (37, .u (.b true))]
def y20T6 (v : PyV) : Fr := puF (y20T5 v) [(38, .r 0 0), (39, .i 2), (40, .i v.f)]
def y20T7 (v : PyV) : Fr := puF (y20T6 v) [(41, .i (0 - v.f))]
noncomputable abbrev y22evD := EvD Tryz.prog eK2 (List.range 600) 300 60
def y22M0 (v : PyV) : Mem := [.c [.w 1, .i 562],
  czy117]
noncomputable abbrev y22C1 : Code := bodyOf Tryz.f93
def y22T1 (v : PyV) : Fr := Fr.mk [.r 0 0, .i 2, .i (0 - v.f), .z, .z, .z, .i 500, .u (.b true), .t [.i 500, .u (.b true)], .r 0 0, .r 0 0, .r 0 0, .i 2, .a [.i 2, .i 0, .i 0, .i 0], .t [.i 500, .u (.b true)], .i 500, .u (.b true)] 17 34
noncomputable abbrev y22C3 : Code := cL (dropK 1 y22C1)
def y22T2 (v : PyV) : Fr := puF (y22T1 v) [(17, .r 0 0), (18, .r 0 0), (19, .r 0 0), (20, .i 2), (22, .i 500), (23, .i (0 - v.f))]
def y22T3 (v : PyV) : Fr := puF (y22T2 v) [(21, .a [.i 2, .i 0, .i 0, .i 0]), (24, .i (500 - v.f)), (25, .u (.b false))]
def y22M4 (v : PyV) : Mem := [.c [.w 3, .i 562],
  czy117,
  .c [.i 2, .i 0, .i 0, .i 0],
  (czy112 v)]
theorem y22n1 (v : PyV) (H : PyB v) : y22evD (cOp y22C3) (0, [8, 4, 7, 6, 5, 3, 2, 1, 0], [], (y22T3 v), (y22M4 v)) [((y22T3 v), (y22M4 v))] := EvD.codeA
theorem y22n2 (v : PyV) (H : PyB v) : y22evD (cOp y22C3) (2, [7, 6, 5, 3, 2, 1, 0], cond (pureOp (opAt (cOp y22C3) 7)) [] ((7, srcF (y22T2 v) (opAt (cOp y22C3) 7)) :: []), (cPut (opAt (cOp y22C3) 7).dst).p (y22T2 v) (.i (500 - v.f)), (y22M0 v)) [((y22T3 v), (y22M4 v))] := EvD.stepsA (j := 2) (y22n1 v H)
theorem y22n3 (v : PyV) (H : PyB v) : y22evD (cOp y22C3) (3, [6, 5, 3, 2, 1, 0], [], (y22T2 v), (y22M0 v)) [((y22T3 v), (y22M4 v))] := EvD.op (t2 := (y22T2 v)) (v := .i (500 - v.f)) 7 (by kernel_rfl) (by kernel_rfl) (by kernel_rfl) (symI1 (a := wrapF .i64 (addF 500 (0 - v.f))) (z := (500 - v.f)) (by kernel_rfl) (sAdd (by have := H.b; omega))) (y22n2 v H)
def y22M6 (v : PyV) : Mem := [.c [.w 2, .i 562],
  czy117,
  (czy112 v)]
def y22T7 (v : PyV) : Fr := puF (y22T3 v) [(26, .r 0 0), (27, .r 0 0), (28, .r 0 1), (29, .i 562), (30, .i (0 - v.f))]
def y22T8 (v : PyV) : Fr := puF (y22T7 v) [(31, .i (562 - v.f)), (32, .r 0 0), (33, .r 0 1)]
def y22M9 (v : PyV) : Mem := paM (y22M6 v) [(0, .c [.w 2, .i (562 - v.f)])] []
abbrev y22Mm (v : PyV) : Mem := (y22M9 v)
theorem y22_run (v : PyV) (H : PyB v) : PRun Tryz.prog 93 (y22M0 v) [.r 0 0, .i 2, .i (0 - v.f)] fun x m => x = .t [] ∧ m = (y22Mm v) := Ev.runA eK2 Tryz.func93 (c := y22C1) (r := (.nrm, (y22T8 v), (y22M9 v))) (Ev.piecesA (k := 1) (t1 := y22T1 v) (m1 := y22M0 v) (Ev.seqPA (t1 := y22T3 v) (m1 := y22M6 v) (Ev.regD2 (outs := [((y22T3 v), (y22M4 v))]) (by kernel_rfl) (by kernel_rfl) (by kernel_rfl) (EvD.stepsA (j := 6) (y22n3 v H)) ⟨by kernel_rfl, trivial⟩) (Ev.regA (EvO.opA (t2 := y22T7 v) (m1 := y22M6 v) (v := .i (562 - v.f)) (k := 5) (t1 := (y22T7 v)) (symI (a := wrapF .i64 (addF 562 (0 - v.f))) (z := (562 - v.f)) (by kernel_rfl) (sAdd (by have := H.b; omega))) EvO.opsA))))
def y20T8 (v : PyV) : Fr := puF (y20T7 v) [(42, .t [])]
def y20M9 (v : PyV) : Mem := [.c [.w 3, .i (562 - v.f)],
  czy117,
  .w 3 1 [[.n 2], [.n 0]],
  (czy112 v)]
def y20T10 (v : PyV) : Fr := puF (y20T7 v) [(42, .t []), (43, .r 0 0), (44, .i 0), (45, .i v.f)]
noncomputable abbrev y23evD := EvD Tryz.prog eK2 (List.range 600) 300 60
def y23M0 (v : PyV) : Mem := [.c [.w 1, .i (562 - v.f)],
  (czy112 v)]
noncomputable abbrev y23C1 : Code := bodyOf Tryz.f93
def y23T1 (v : PyV) : Fr := Fr.mk [.r 0 0, .i 0, .i v.f, .z, .z, .z, .i 0, .u (.b true), .t [.i 0, .u (.b true)], .r 0 0, .r 0 0, .r 0 0, .i 0, .a [.i 0, .i 0, .i 0, .i 0], .t [.i 0, .u (.b true)], .i 0, .u (.b true)] 17 34
noncomputable abbrev y23C3 : Code := cL (dropK 1 y23C1)
def y23T2 (v : PyV) : Fr := puF (y23T1 v) [(17, .r 0 0), (18, .r 0 0), (19, .r 0 0), (20, .i 0), (22, .i 0), (23, .i v.f)]
def y23T3 (v : PyV) : Fr := puF (y23T2 v) [(21, .a [.i 0, .i 0, .i 0, .i 0]), (24, .i v.f), (25, .u (.b false))]
def y23M4 (v : PyV) : Mem := [.c [.w 3, .i (562 - v.f)],
  (czy112 v),
  .c [.i 0, .i 0, .i 0, .i 0],
  (czy19 v)]
theorem y23n1 (v : PyV) (H : PyB v) : y23evD (cOp y23C3) (0, [8, 4, 7, 6, 5, 3, 2, 1, 0], [], (y23T3 v), (y23M4 v)) [((y23T3 v), (y23M4 v))] := EvD.codeA
theorem y23n2 (v : PyV) (H : PyB v) : y23evD (cOp y23C3) (2, [7, 6, 5, 3, 2, 1, 0], cond (pureOp (opAt (cOp y23C3) 7)) [] ((7, srcF (y23T2 v) (opAt (cOp y23C3) 7)) :: []), (cPut (opAt (cOp y23C3) 7).dst).p (y23T2 v) (.i v.f), (y23M0 v)) [((y23T3 v), (y23M4 v))] := EvD.stepsA (j := 2) (y23n1 v H)
theorem y23n3 (v : PyV) (H : PyB v) : y23evD (cOp y23C3) (3, [6, 5, 3, 2, 1, 0], [], (y23T2 v), (y23M0 v)) [((y23T3 v), (y23M4 v))] := EvD.op (t2 := (y23T2 v)) (v := .i v.f) 7 (by kernel_rfl) (by kernel_rfl) (by kernel_rfl) (symI1 (a := wrapF .i64 (addF 0 v.f)) (z := v.f) (by kernel_rfl) (sAdd (by have := H.b; omega))) (y23n2 v H)
def y23M6 (v : PyV) : Mem := [.c [.w 2, .i (562 - v.f)],
  (czy112 v),
  (czy19 v)]
def y23T7 (v : PyV) : Fr := puF (y23T3 v) [(26, .r 0 0), (27, .r 0 0), (28, .r 0 1), (29, .i (562 - v.f)), (30, .i v.f)]
def y23T8 (v : PyV) : Fr := puF (y23T7 v) [(31, .i 562), (32, .r 0 0), (33, .r 0 1)]
def y23M9 (v : PyV) : Mem := paM (y23M6 v) [(0, .c [.w 2, .i 562])] []
abbrev y23Mm (v : PyV) : Mem := (y23M9 v)
theorem y23_run (v : PyV) (H : PyB v) : PRun Tryz.prog 93 (y23M0 v) [.r 0 0, .i 0, .i v.f] fun x m => x = .t [] ∧ m = (y23Mm v) := Ev.runA eK2 Tryz.func93 (c := y23C1) (r := (.nrm, (y23T8 v), (y23M9 v))) (Ev.piecesA (k := 1) (t1 := y23T1 v) (m1 := y23M0 v) (Ev.seqPA (t1 := y23T3 v) (m1 := y23M6 v) (Ev.regD2 (outs := [((y23T3 v), (y23M4 v))]) (by kernel_rfl) (by kernel_rfl) (by kernel_rfl) (EvD.stepsA (j := 6) (y23n3 v H)) ⟨by kernel_rfl, trivial⟩) (Ev.regA (EvO.opA (t2 := y23T7 v) (m1 := y23M6 v) (v := .i 562) (k := 5) (t1 := (y23T7 v)) (symI (a := wrapF .i64 (addF (562 - v.f) v.f)) (z := 562) (by kernel_rfl) (sAdd (by have := H.b; omega))) EvO.opsA))))
def y20T11 (v : PyV) : Fr := puF (y20T7 v) [(42, .t []), (43, .r 0 0), (44, .i 0), (45, .i v.f), (46, .t [])]
def y20M12 (v : PyV) : Mem := paM (y20M9 v) [(0, .c [.w 4, .i 562])] [(czy19 v)]
def y20T13 (v : PyV) : Fr := puF (y20T7 v) [(42, .t []), (43, .r 0 0), (44, .i 0), (45, .i v.f), (46, .t []), (47, .i 0)]
def y20M14 (v : PyV) : Mem := [.c [.w 2, .i 562],
  czy117,
  (czy19 v)]
abbrev y20Mm (v : PyV) : Mem := (y20M14 v)
theorem y20_run (v : PyV) (H : PyB v) : PRun Tryz.prog 40 (y20M0 v) [.r 0 0, .i 2, .i 0, .i v.f] fun x m => x = .i 0 ∧ m = (y20Mm v) := Ev.runA eK2 Tryz.func40 (c := (bodyOf Tryz.f40)) (r := (.ret, (y20T13 v), (y20M12 v))) (Ev.piecesA (k := 2) (t1 := y20T1 v) (m1 := y20M2 v) (Ev.seqPA (t1 := y20T4 v) (m1 := y20M2 v) (Ev.regA (EvO.callA (t2 := y20T3 v) (m1 := y20M2 v) (ix := [0, 1]) (k := 3) (t1 := (y20T3 v)) (args := [.r 0 0, .i 2, .i v.f]) (a := []) (cc := []) (y21_run v H) EvO.opsA)) (Ev.seqPA (t1 := y20T11 v) (m1 := y20M12 v) (Ev.piecesA (k := 1) (t1 := y20T5 v) (m1 := y20M2 v) (Ev.condT (by kernel_rfl) (by kernel_rfl) (Ev.seqPA (t1 := y20T8 v) (m1 := y20M9 v) (Ev.regA (EvO.opA (t2 := y20T6 v) (m1 := y20M2 v) (v := .i (0 - v.f)) (k := 3) (t1 := (y20T6 v)) (symI (a := IntKind.wrap .i64 (0 - v.f)) (z := (0 - v.f)) (by kernel_rfl) (sNeg (by have := H.b; omega))) (EvO.callA (t2 := y20T7 v) (m1 := y20M2 v) (ix := [0, 1]) (k := 0) (t1 := (y20T7 v)) (args := [.r 0 0, .i 2, .i (0 - v.f)]) (a := []) (cc := []) (y22_run v H) EvO.opsA))) (Ev.regA (EvO.callA (t2 := y20T10 v) (m1 := y20M9 v) (ix := [0, 3]) (k := 3) (t1 := (y20T10 v)) (args := [.r 0 0, .i 0, .i v.f]) (a := []) (cc := []) (y23_run v H) EvO.opsA))))) Ev.codeA)))
def y2T15 (v : PyV) : Fr := puF (y2T13 v) [(57, .r 0 0), (58, .r 0 0), (59, .r 0 8), (60, .r 4 0), (61, .r 11 2), (62, .i 2), (63, .r 11 12), (64, .i v.f), (65, .i 0)]
def y2M16 (v : PyV) : Mem := paM (y2M9 v) [(4, .c [.w 15, .i 562])] [(czy19 v)]
theorem y2n14 (v : PyV) (H : PyB v) : y2evD (cOp y2C11) (0, [8, 7, 6, 5, 4, 3, 2, 1, 0], [(7, [11]), (5, [11]), (3, [0])], (y2T15 v), (y2M16 v)) [((y2T15 v), (y2M16 v))] := EvD.codeA
theorem y2n15 (v : PyV) (H : PyB v) : y2evD (cOp y2C11) (0, [8, 7, 6, 5, 4, 3, 2, 1, 0], [(7, [11]), (5, [11]), (3, [0])], (cPut (opAt (cOp y2C11) 8).dst).p (y2T14 v) (renV (fK [4, 8] ((y2M9 v)).length) (.i 0)), backM (y2M9 v) [4, 8] ((y20Mm v))) [((y2T15 v), (y2M16 v))] := EvD.stepsA (j := 0) (y2n14 v H)
theorem y2n16 (v : PyV) (H : PyB v) : y2evD (cOp y2C11) (1, [7, 6, 5, 4, 3, 2, 1, 0], [(7, [11]), (5, [11]), (3, [0])], (y2T14 v), (y2M9 v)) [((y2T15 v), (y2M16 v))] := EvD.oneA 8 (EvE.callA (args := [.r 4 0, .i 2, .i 0, .i v.f]) (a := []) (cc := []) 8 (y20_run v H) (y2n15 v H))
def y2T17 (v : PyV) : Fr := puF (y2T13 v) [(57, .r 0 0), (58, .r 0 0), (59, .r 0 8), (60, .r 4 0), (61, .r 11 2), (62, .i 2), (63, .r 11 12), (64, .i v.f), (65, .i 0)]
noncomputable abbrev y2C13 : Code := cL (cR y2C10)
def y2T18 (v : PyV) : Fr := puF (y2T13 v) [(57, .r 0 0), (58, .r 0 0), (59, .r 0 8), (60, .r 4 0), (61, .r 11 2), (62, .i 2), (63, .r 11 12), (64, .i v.f), (65, .i 0), (66, .r 0 0), (67, .r 0 0), (68, .r 0 8), (69, .r 4 0), (70, .r 11 2), (71, .i 2), (72, .r 11 0), (73, .i 1), (74, (czy114 v)), (75, .i v.p)]
def y2M19 (v : PyV) : Mem := paM (y2M16 v) [] [.c [.i 1, .i 1, .i 2, .i 0, .i 2, .i 0, .i 1, .i 2, .i v.p, .i v.q, .i 10, .i 20, .i v.f, .u (.l 2 [[.n 1, .n 5]]), .nl 2, .i 1, .i 10, .i 0, .i 0]]
def y24M0 (v : PyV) : Mem := [.c [.w 1, .i 562],
  (czy19 v)]
def y24T1 (v : PyV) : Fr := Fr.mk [.r 0 0, .i 2, .i 1, .i v.p, .z, .z, .z, .z, .i 0, .i 2097153, .i 0, .i (500 - v.f), .t [.i 2097153, .i 0], .i 1, .t [.i 2097153, .i 0], .i 2097153, .i 0, .i 0, .u (.b false), .z, .t [.i (500 - v.f), .i 0], .r 0 0, .i 2, .t [.i (500 - v.f), .i 0], .i (500 - v.f), .i 0] 19 45
def y24T2 (v : PyV) : Fr := puF (y24T1 v) [(26, .u (.b false)), (27, .i 0), (28, .u (.b false))]
def y24T3 (v : PyV) : Fr := puF (y24T2 v) [(31, .i v.p)]
def y24T4 (v : PyV) : Fr := puF (y24T3 v) [(30, .u (.b false)), (32, .u (.b false))]
def y24T5 (v : PyV) : Fr := puF (y24T4 v) [(34, .i (500 - v.f)), (35, .i v.p)]
def y24T6 (v : PyV) : Fr := puF (y24T5 v) [(33, .u (.b false)), (36, .u (.b false))]
def y24T8 (v : PyV) : Fr := puF (y24T6 v) [(37, .r 0 0), (38, .i 2097153), (39, .i 0)]
def y24M9 (v : PyV) : Mem := [.c [.w 2, .i 562],
  (czy19 v),
  (czy16 v)]
def y24T10 (v : PyV) : Fr := puF (y24T6 v) [(37, .r 0 0), (38, .i 2097153), (39, .i 0), (40, .r 0 0), (41, .i 2), (42, .i 2097153), (43, .i v.p)]
def y25M0 (v : PyV) : Mem := [.c [.w 1, .i 562],
  (czy16 v)]
def y25T1 (v : PyV) : Fr := puF (y20T1 v) [(2, .i 2097153), (3, .i v.p), (10, .i 2097153), (15, .i 2097153), (21, .i 2097153), (24, .i 2097153)]
def y25M2 (v : PyV) : Mem := paM (y25M0 v) [] [.w 3 1 [[.n 2], [.n 2097153]]]
def y25T3 (v : PyV) : Fr := puF (y25T1 v) [(32, .r 0 0), (33, .i 2), (34, .i v.p)]
def y26M0 (v : PyV) : Mem := [.c [.w 1, .i 562],
  (czy16 v)]
def y26T1 (v : PyV) : Fr := Fr.mk [.r 0 0, .i 2, .i v.p, .z, .z, .z, .i 0, .i (500 - v.f), .i 0, .t [.i (500 - v.f), .i 0], .r 0 0, .i 2, .t [.i (500 - v.f), .i 0], .i (500 - v.f), .i 0] 11 26
def y26T2 (v : PyV) : Fr := puF (y26T1 v) [(15, .u (.b false)), (16, .i 0), (17, .u (.b false))]
def y26T3 (v : PyV) : Fr := puF (y26T2 v) [(20, .i v.p)]
def y26T4 (v : PyV) : Fr := puF (y26T3 v) [(19, .u (.b false)), (21, .u (.b false))]
def y26T5 (v : PyV) : Fr := puF (y26T4 v) [(23, .i v.p), (24, .i (500 - v.f))]
def y26T6 (v : PyV) : Fr := puF (y26T5 v) [(22, .u (.b false)), (25, .u (.b false))]
abbrev y26Mm (v : PyV) : Mem := (y26M0 v)
theorem y26_run (v : PyV) (H : PyB v) : PRun Tryz.prog 92 (y26M0 v) [.r 0 0, .i 2, .i v.p] fun x m => x = .i 0 ∧ m = (y26Mm v) := Ev.runA eK2 Tryz.func92 (c := (bodyOf Tryz.f92)) (r := (.ret, (y26T6 v), (y26M0 v))) (Ev.piecesA (k := 2) (t1 := y26T1 v) (m1 := y26M0 v) (Ev.seqPA (t1 := y26T6 v) (m1 := y26M0 v) (Ev.blockP (e := .nrm) (by kernel_rfl) (by kernel_rfl) (Ev.piecesA (k := 1) (t1 := y26T2 v) (m1 := y26M0 v) (Ev.condF (by kernel_rfl) (by kernel_rfl) (Ev.seqPA (t1 := y26T4 v) (m1 := y26M0 v) (Ev.regA (EvO.opA (t2 := y26T3 v) (m1 := y26M0 v) (v := .u (.b false)) (k := 1) (t1 := (y26T3 v)) (symE (b := ltF v.p 0) (by kernel_rfl) (sLtF (by have := H.b; omega))) EvO.opsA)) (Ev.condF (by kernel_rfl) (by kernel_rfl) (Ev.seqPA (t1 := y26T6 v) (m1 := y26M0 v) (Ev.regA (EvO.opA (t2 := y26T5 v) (m1 := y26M0 v) (v := .u (.b false)) (k := 2) (t1 := (y26T5 v)) (symE (b := ltF (500 - v.f) v.p) (by kernel_rfl) (sLtF (by have := H.b; omega))) EvO.opsA)) Ev.codeA)))))) Ev.codeA))
def y25T4 (v : PyV) : Fr := puF (y25T3 v) [(13, .i 0), (35, .i 0)]
def y25T5 (v : PyV) : Fr := puF (y25T4 v) [(36, .i 0), (37, .u (.b true))]
def y25T6 (v : PyV) : Fr := puF (y25T5 v) [(38, .r 0 0), (39, .i 2), (40, .i v.p)]
def y25T7 (v : PyV) : Fr := puF (y25T6 v) [(41, .i (0 - v.p))]
noncomputable abbrev y27evD := EvD Tryz.prog eK2 (List.range 600) 300 60
def y27M0 (v : PyV) : Mem := [.c [.w 1, .i 562],
  (czy16 v)]
noncomputable abbrev y27C1 : Code := bodyOf Tryz.f93
def y27T1 (v : PyV) : Fr := Fr.mk [.r 0 0, .i 2, .i (0 - v.p), .z, .z, .z, .i (500 - v.f), .u (.b true), .t [.i (500 - v.f), .u (.b true)], .r 0 0, .r 0 0, .r 0 0, .i 2, .a [.i 2, .i 0, .i 0, .i 0], .t [.i (500 - v.f), .u (.b true)], .i (500 - v.f), .u (.b true)] 17 34
noncomputable abbrev y27C3 : Code := cL (dropK 1 y27C1)
def y27T2 (v : PyV) : Fr := puF (y27T1 v) [(17, .r 0 0), (18, .r 0 0), (19, .r 0 0), (20, .i 2), (22, .i (500 - v.f)), (23, .i (0 - v.p))]
def y27T3 (v : PyV) : Fr := puF (y27T2 v) [(21, .a [.i 2, .i 0, .i 0, .i 0]), (24, .i (500 - v.p - v.f)), (25, .u (.b false))]
def y27M4 (v : PyV) : Mem := [.c [.w 3, .i 562],
  (czy16 v),
  .c [.i 2, .i 0, .i 0, .i 0],
  (czy15 v)]
theorem y27n1 (v : PyV) (H : PyB v) : y27evD (cOp y27C3) (0, [8, 4, 7, 6, 5, 3, 2, 1, 0], [], (y27T3 v), (y27M4 v)) [((y27T3 v), (y27M4 v))] := EvD.codeA
theorem y27n2 (v : PyV) (H : PyB v) : y27evD (cOp y27C3) (2, [7, 6, 5, 3, 2, 1, 0], cond (pureOp (opAt (cOp y27C3) 7)) [] ((7, srcF (y27T2 v) (opAt (cOp y27C3) 7)) :: []), (cPut (opAt (cOp y27C3) 7).dst).p (y27T2 v) (.i (500 - v.p - v.f)), (y27M0 v)) [((y27T3 v), (y27M4 v))] := EvD.stepsA (j := 2) (y27n1 v H)
theorem y27n3 (v : PyV) (H : PyB v) : y27evD (cOp y27C3) (3, [6, 5, 3, 2, 1, 0], [], (y27T2 v), (y27M0 v)) [((y27T3 v), (y27M4 v))] := EvD.op (t2 := (y27T2 v)) (v := .i (500 - v.p - v.f)) 7 (by kernel_rfl) (by kernel_rfl) (by kernel_rfl) (symI1 (a := wrapF .i64 (addF (500 - v.f) (0 - v.p))) (z := (500 - v.p - v.f)) (by kernel_rfl) (sAdd (by have := H.b; omega))) (y27n2 v H)
def y27M6 (v : PyV) : Mem := [.c [.w 2, .i 562],
  (czy16 v),
  (czy15 v)]
def y27T7 (v : PyV) : Fr := puF (y27T3 v) [(26, .r 0 0), (27, .r 0 0), (28, .r 0 1), (29, .i 562), (30, .i (0 - v.p))]
def y27T8 (v : PyV) : Fr := puF (y27T7 v) [(31, .i (562 - v.p)), (32, .r 0 0), (33, .r 0 1)]
def y27M9 (v : PyV) : Mem := paM (y27M6 v) [(0, .c [.w 2, .i (562 - v.p)])] []
abbrev y27Mm (v : PyV) : Mem := (y27M9 v)
theorem y27_run (v : PyV) (H : PyB v) : PRun Tryz.prog 93 (y27M0 v) [.r 0 0, .i 2, .i (0 - v.p)] fun x m => x = .t [] ∧ m = (y27Mm v) := Ev.runA eK2 Tryz.func93 (c := y27C1) (r := (.nrm, (y27T8 v), (y27M9 v))) (Ev.piecesA (k := 1) (t1 := y27T1 v) (m1 := y27M0 v) (Ev.seqPA (t1 := y27T3 v) (m1 := y27M6 v) (Ev.regD2 (outs := [((y27T3 v), (y27M4 v))]) (by kernel_rfl) (by kernel_rfl) (by kernel_rfl) (EvD.stepsA (j := 6) (y27n3 v H)) ⟨by kernel_rfl, trivial⟩) (Ev.regA (EvO.opA (t2 := y27T7 v) (m1 := y27M6 v) (v := .i (562 - v.p)) (k := 5) (t1 := (y27T7 v)) (symI (a := wrapF .i64 (addF 562 (0 - v.p))) (z := (562 - v.p)) (by kernel_rfl) (sAdd (by have := H.b; omega))) EvO.opsA))))
def y25T8 (v : PyV) : Fr := puF (y25T6 v) [(41, .i (0 - v.p)), (42, .t [])]
def y25M9 (v : PyV) : Mem := [.c [.w 3, .i (562 - v.p)],
  (czy16 v),
  .w 3 1 [[.n 2], [.n 2097153]],
  (czy15 v)]
def y25T10 (v : PyV) : Fr := puF (y25T6 v) [(41, .i (0 - v.p)), (42, .t []), (43, .r 0 0), (44, .i 2097153), (45, .i v.p)]
noncomputable abbrev y28evD := EvD Tryz.prog eK2 (List.range 600) 300 60
def y28M0 (v : PyV) : Mem := [.c [.w 1, .i (562 - v.p)],
  (czy15 v)]
noncomputable abbrev y28C1 : Code := bodyOf Tryz.f93
def y28T1 (v : PyV) : Fr := Fr.mk [.r 0 0, .i 2097153, .i v.p, .z, .z, .z, .i 0, .u (.b true), .t [.i 0, .u (.b true)], .r 0 0, .r 0 0, .r 0 0, .i 2097153, .a [.i 2097153, .i 0, .i 0, .i 0], .t [.i 0, .u (.b true)], .i 0, .u (.b true)] 17 34
noncomputable abbrev y28C3 : Code := cL (dropK 1 y28C1)
def y28T2 (v : PyV) : Fr := puF (y28T1 v) [(17, .r 0 0), (18, .r 0 0), (19, .r 0 0), (20, .i 2097153), (22, .i 0), (23, .i v.p)]
def y28T3 (v : PyV) : Fr := puF (y28T2 v) [(21, .a [.i 2097153, .i 0, .i 0, .i 0]), (24, .i v.p), (25, .u (.b false))]
def y28M4 (v : PyV) : Mem := [.c [.w 3, .i (562 - v.p)],
  (czy15 v),
  .c [.i 2097153, .i 0, .i 0, .i 0],
  (czy14 v)]
theorem y28n1 (v : PyV) (H : PyB v) : y28evD (cOp y28C3) (0, [8, 4, 7, 6, 5, 3, 2, 1, 0], [], (y28T3 v), (y28M4 v)) [((y28T3 v), (y28M4 v))] := EvD.codeA
theorem y28n2 (v : PyV) (H : PyB v) : y28evD (cOp y28C3) (2, [7, 6, 5, 3, 2, 1, 0], cond (pureOp (opAt (cOp y28C3) 7)) [] ((7, srcF (y28T2 v) (opAt (cOp y28C3) 7)) :: []), (cPut (opAt (cOp y28C3) 7).dst).p (y28T2 v) (.i v.p), (y28M0 v)) [((y28T3 v), (y28M4 v))] := EvD.stepsA (j := 2) (y28n1 v H)
theorem y28n3 (v : PyV) (H : PyB v) : y28evD (cOp y28C3) (3, [6, 5, 3, 2, 1, 0], [], (y28T2 v), (y28M0 v)) [((y28T3 v), (y28M4 v))] := EvD.op (t2 := (y28T2 v)) (v := .i v.p) 7 (by kernel_rfl) (by kernel_rfl) (by kernel_rfl) (symI1 (a := wrapF .i64 (addF 0 v.p)) (z := v.p) (by kernel_rfl) (sAdd (by have := H.b; omega))) (y28n2 v H)
def y28M6 (v : PyV) : Mem := [.c [.w 2, .i (562 - v.p)],
  (czy15 v),
  (czy14 v)]
def y28T7 (v : PyV) : Fr := puF (y28T3 v) [(26, .r 0 0), (27, .r 0 0), (28, .r 0 1), (29, .i (562 - v.p)), (30, .i v.p)]
def y28T8 (v : PyV) : Fr := puF (y28T7 v) [(31, .i 562), (32, .r 0 0), (33, .r 0 1)]
def y28M9 (v : PyV) : Mem := paM (y28M6 v) [(0, .c [.w 2, .i 562])] []
abbrev y28Mm (v : PyV) : Mem := (y28M9 v)
theorem y28_run (v : PyV) (H : PyB v) : PRun Tryz.prog 93 (y28M0 v) [.r 0 0, .i 2097153, .i v.p] fun x m => x = .t [] ∧ m = (y28Mm v) := Ev.runA eK2 Tryz.func93 (c := y28C1) (r := (.nrm, (y28T8 v), (y28M9 v))) (Ev.piecesA (k := 1) (t1 := y28T1 v) (m1 := y28M0 v) (Ev.seqPA (t1 := y28T3 v) (m1 := y28M6 v) (Ev.regD2 (outs := [((y28T3 v), (y28M4 v))]) (by kernel_rfl) (by kernel_rfl) (by kernel_rfl) (EvD.stepsA (j := 6) (y28n3 v H)) ⟨by kernel_rfl, trivial⟩) (Ev.regA (EvO.opA (t2 := y28T7 v) (m1 := y28M6 v) (v := .i 562) (k := 5) (t1 := (y28T7 v)) (symI (a := wrapF .i64 (addF (562 - v.p) v.p)) (z := 562) (by kernel_rfl) (sAdd (by have := H.b; omega))) EvO.opsA))))
def y25T11 (v : PyV) : Fr := puF (y25T6 v) [(41, .i (0 - v.p)), (42, .t []), (43, .r 0 0), (44, .i 2097153), (45, .i v.p), (46, .t [])]
def y25M12 (v : PyV) : Mem := paM (y25M9 v) [(0, .c [.w 4, .i 562])] [(czy14 v)]
def y25T13 (v : PyV) : Fr := puF (y25T6 v) [(41, .i (0 - v.p)), (42, .t []), (43, .r 0 0), (44, .i 2097153), (45, .i v.p), (46, .t []), (47, .i 0)]
def y25M14 (v : PyV) : Mem := [.c [.w 2, .i 562],
  (czy16 v),
  (czy14 v)]
abbrev y25Mm (v : PyV) : Mem := (y25M14 v)
theorem y25_run (v : PyV) (H : PyB v) : PRun Tryz.prog 40 (y25M0 v) [.r 0 0, .i 2, .i 2097153, .i v.p] fun x m => x = .i 0 ∧ m = (y25Mm v) := Ev.runA eK2 Tryz.func40 (c := (bodyOf Tryz.f40)) (r := (.ret, (y25T13 v), (y25M12 v))) (Ev.piecesA (k := 2) (t1 := y25T1 v) (m1 := y25M2 v) (Ev.seqPA (t1 := y25T4 v) (m1 := y25M2 v) (Ev.regA (EvO.callA (t2 := y25T3 v) (m1 := y25M2 v) (ix := [0, 1]) (k := 3) (t1 := (y25T3 v)) (args := [.r 0 0, .i 2, .i v.p]) (a := []) (cc := []) (y26_run v H) EvO.opsA)) (Ev.seqPA (t1 := y25T11 v) (m1 := y25M12 v) (Ev.piecesA (k := 1) (t1 := y25T5 v) (m1 := y25M2 v) (Ev.condT (by kernel_rfl) (by kernel_rfl) (Ev.seqPA (t1 := y25T8 v) (m1 := y25M9 v) (Ev.regA (EvO.opA (t2 := y25T6 v) (m1 := y25M2 v) (v := .i (0 - v.p)) (k := 3) (t1 := (y25T6 v)) (symI (a := IntKind.wrap .i64 (0 - v.p)) (z := (0 - v.p)) (by kernel_rfl) (sNeg (by have := H.b; omega))) (EvO.callA (t2 := y25T7 v) (m1 := y25M2 v) (ix := [0, 1]) (k := 0) (t1 := (y25T7 v)) (args := [.r 0 0, .i 2, .i (0 - v.p)]) (a := []) (cc := []) (y27_run v H) EvO.opsA))) (Ev.regA (EvO.callA (t2 := y25T10 v) (m1 := y25M9 v) (ix := [0, 3]) (k := 3) (t1 := (y25T10 v)) (args := [.r 0 0, .i 2097153, .i v.p]) (a := []) (cc := []) (y28_run v H) EvO.opsA))))) Ev.codeA)))
def y24T11 (v : PyV) : Fr := puF (y24T6 v) [(37, .r 0 0), (38, .i 2097153), (39, .i 0), (40, .r 0 0), (41, .i 2), (42, .i 2097153), (43, .i v.p), (44, .i 0)]
def y24M12 (v : PyV) : Mem := paM (y24M9 v) [(0, .c [.w 3, .i 562])] [(czy14 v)]
def y24T13 (v : PyV) : Fr := puF (y24T6 v) [(37, .r 0 0), (38, .i 2097153), (39, .i 0), (40, .r 0 0), (41, .i 2), (42, .i 2097153), (43, .i v.p), (44, .i 0)]
def y24M14 (v : PyV) : Mem := [.c [.w 2, .i 562],
  (czy19 v),
  (czy14 v)]
abbrev y24Mm (v : PyV) : Mem := (y24M14 v)
theorem y24_run (v : PyV) (H : PyB v) : PRun Tryz.prog 41 (y24M0 v) [.r 0 0, .i 2, .i 1, .i v.p] fun x m => x = .i 0 ∧ m = (y24Mm v) := Ev.runA eK2 Tryz.func41 (c := (bodyOf Tryz.f41)) (r := (.ret, (y24T13 v), (y24M12 v))) (Ev.piecesA (k := 4) (t1 := y24T1 v) (m1 := y24M0 v) (Ev.seqPA (t1 := y24T6 v) (m1 := y24M0 v) (Ev.blockP (e := .nrm) (by kernel_rfl) (by kernel_rfl) (Ev.piecesA (k := 1) (t1 := y24T2 v) (m1 := y24M0 v) (Ev.condF (by kernel_rfl) (by kernel_rfl) (Ev.seqPA (t1 := y24T4 v) (m1 := y24M0 v) (Ev.regA (EvO.opA (t2 := y24T3 v) (m1 := y24M0 v) (v := .u (.b false)) (k := 1) (t1 := (y24T3 v)) (symE (b := ltF v.p 0) (by kernel_rfl) (sLtF (by have := H.b; omega))) EvO.opsA)) (Ev.condF (by kernel_rfl) (by kernel_rfl) (Ev.seqPA (t1 := y24T6 v) (m1 := y24M0 v) (Ev.regA (EvO.opA (t2 := y24T5 v) (m1 := y24M0 v) (v := .u (.b false)) (k := 2) (t1 := (y24T5 v)) (symE (b := ltF (500 - v.f) v.p) (by kernel_rfl) (sLtF (by have := H.b; omega))) EvO.opsA)) Ev.codeA)))))) (Ev.piecesA (k := 1) (t1 := y24T8 v) (m1 := y24M9 v) (Ev.seqPA (t1 := y24T11 v) (m1 := y24M12 v) (Ev.regA (EvO.callA (t2 := y24T10 v) (m1 := y24M9 v) (ix := [0, 2]) (k := 4) (t1 := (y24T10 v)) (args := [.r 0 0, .i 2, .i 2097153, .i v.p]) (a := []) (cc := []) (y25_run v H) EvO.opsA)) Ev.codeA))))
def y2T20 (v : PyV) : Fr := puF (y2T13 v) [(57, .r 0 0), (58, .r 0 0), (59, .r 0 8), (60, .r 4 0), (61, .r 11 2), (62, .i 2), (63, .r 11 12), (64, .i v.f), (65, .i 0), (66, .r 0 0), (67, .r 0 0), (68, .r 0 8), (69, .r 4 0), (70, .r 11 2), (71, .i 2), (72, .r 11 0), (73, .i 1), (74, (czy114 v)), (75, .i v.p), (76, .i 0)]
def y2M21 (v : PyV) : Mem := paM (y2M19 v) [(4, .c [.w 17, .i 562])] [(czy14 v)]
theorem y2n19 (v : PyV) (H : PyB v) : y2evD (cOp y2C13) (0, [10, 9, 8, 7, 6, 5, 4, 3, 2, 1, 0], [(8, [11]), (7, [11]), (5, [11]), (3, [0])], (y2T20 v), (y2M21 v)) [((y2T20 v), (y2M21 v))] := EvD.codeA
theorem y2n20 (v : PyV) (H : PyB v) : y2evD (cOp y2C13) (0, [10, 9, 8, 7, 6, 5, 4, 3, 2, 1, 0], [(8, [11]), (7, [11]), (5, [11]), (3, [0])], (cPut (opAt (cOp y2C13) 10).dst).p (y2T18 v) (renV (fK [4, 15] ((y2M19 v)).length) (.i 0)), backM (y2M19 v) [4, 15] ((y24Mm v))) [((y2T20 v), (y2M21 v))] := EvD.stepsA (j := 0) (y2n19 v H)
theorem y2n21 (v : PyV) (H : PyB v) : y2evD (cOp y2C13) (1, [9, 8, 7, 6, 5, 4, 3, 2, 1, 0], [(8, [11]), (7, [11]), (5, [11]), (3, [0])], (y2T18 v), (y2M19 v)) [((y2T20 v), (y2M21 v))] := EvD.oneA 10 (EvE.callA (args := [.r 4 0, .i 2, .i 1, .i v.p]) (a := []) (cc := []) 10 (y24_run v H) (y2n20 v H))
def y2T22 (v : PyV) : Fr := puF (y2T13 v) [(57, .r 0 0), (58, .r 0 0), (59, .r 0 8), (60, .r 4 0), (61, .r 11 2), (62, .i 2), (63, .r 11 12), (64, .i v.f), (65, .i 0), (66, .r 0 0), (67, .r 0 0), (68, .r 0 8), (69, .r 4 0), (70, .r 11 2), (71, .i 2), (72, .r 11 0), (73, .i 1), (74, (czy114 v)), (75, .i v.p), (76, .i 0)]
def y2M23 (v : PyV) : Mem := paM (y2M16 v) [(4, .c [.w 16, .i 562])] [(czy14 v)]
def y2T24 (v : PyV) : Fr := Fr.mk [.r 0 0, .i 0, (czy121 v), .z, .z, .r 11 0, .i 1, .i 0, .i 0, .r 13 0, .i 500, .i 0, .r 0 0, .u (.b true), .u (.b false), .t [(czy114 v), .i 0], .r 0 0, .i 0, (czy121 v), .t [(czy114 v), .i 0], (czy114 v), .i 0, .i 0, .u (.b false), .z, .r 11 2, .i 2, .r 11 3, .i 0, .r 11 6, .i 1, .a [.i 2, .i 0, .i 1, .i 1], .t [.i 500, .i 0], .r 0 0, .r 0 0, .r 0 8, .r 4 0, .r 11 2, .i 2, .t [.i 500, .i 0], .i 500, .i 0, .u (.b false), .i 500, .r 11 12, .i v.f, (czy114 v), .i v.p, .i (v.p + v.f), .u (.b false), .u (.b false), .r 0 0, .a [.i 2, .i 0, .i 1, .i 1], .r 11 13, .u (.l 2 [[.n 1, .n 5]]), .u (.b true), .u (.b false), .r 0 0, .r 0 0, .r 0 8, .r 4 0, .r 11 2, .i 2, .r 11 12, .i v.f, .i 0, .r 0 0, .r 0 0, .r 0 8, .r 4 0, .r 11 2, .i 2, .r 11 0, .i 1, (czy114 v), .i v.p, .i 0, .r 0 0, .r 0 0, .r 0 9, .r 5 0, .a [.i 2, .i 0, .i 1, .i 1], .r 11 0, .i 1, .r 11 13, .u (.l 2 [[.n 1, .n 5]]), .i 0, .r 0 0, .r 0 0, .r 0 10, .r 6 0, .r 11 16, .i 10, .r 11 0, .i 1, .i 3, .t [.i 1, .i 0], .r 0 0, .r 0 0, .r 0 0, .r 0 12, .nl 19, (czy114 v), .w 19, .w 20, .r 0 0, .r 0 12, .r 11 0, .i 1] 0 109
def y2M25 (v : PyV) : Mem := paM (y2M23 v) [(0, .c [.i 4, .w 2, .i 2, .w 3, .i 3, .i 200, .i 1, .i 500, .r 4 0, .r 5 0, .r 6 0, .r 7 0, .w 20]), (5, .c [.w 17, czy123]), (6, .c [.w 18, .m 10, .i 256, .i 2]), (10, .p .n 1 false [(.n 1, [.n 0])])] [czy10,
  .w 136 3 [[.n 10, .n 1, .n 3]],
  (czy17 v),
  (czy17 v)]
def y2M26 (v : PyV) : Mem := [.c [.i 4, .w 2, .i 2, .w 3, .i 3, .i 200, .i 1, .i 500, .r 4 0, .r 5 0, .r 6 0, .r 7 0, .w 11],
  .w 106 2 [[.n 1, .n 5]],
  czy116,
  czy124,
  .c [.w 12, .i 562],
  .c [.w 13, czy123],
  .c [.w 14, .m 10, .i 256, .i 2],
  .c [.nl 4, .nm],
  czy117,
  czy12,
  .p .n 1 false [(.n 1, [.n 0])],
  (czy17 v),
  (czy14 v),
  czy10,
  .w 136 3 [[.n 10, .n 1, .n 3]]]
abbrev y2Mm (v : PyV) : Mem := (y2M26 v)
theorem y2_run (v : PyV) (H : PyB v) : PRun Tryz.prog 9 (y2M0 v) [.r 0 0, .i 0, (czy121 v)] fun x m => x = .t [.i 1, .i 0] ∧ m = (y2Mm v) := Ev.runA eK2 Tryz.func9 (c := y2C1) (r := (.ret, (y2T24 v), (y2M25 v))) (Ev.piecesA (k := 2) (t1 := y2T1 v) (m1 := y2M2 v) (Ev.seqPA (t1 := y2T4 v) (m1 := y2M5 v) (Ev.regA (EvO.callA (t2 := y2T3 v) (m1 := y2M2 v) (ix := [0, 1, 2, 3, 4, 5, 6, 7, 8, 9, 10]) (k := 3) (t1 := (y2T3 v)) (args := [.r 0 0, .i 0, (czy121 v)]) (a := []) (cc := []) (y3_run v H) EvO.opsA)) (Ev.piecesA (k := 3) (t1 := y2T6 v) (m1 := y2M7 v) (Ev.seqPA (t1 := y2T13 v) (m1 := y2M9 v) (Ev.blockP (e := .nrm) (by kernel_rfl) (by kernel_rfl) (Ev.seqPA (t1 := y2T11 v) (m1 := y2M9 v) (Ev.regD2 (outs := [((y2T11 v), (y2M9 v))]) (by kernel_rfl) (by kernel_rfl) (by kernel_rfl) (EvD.stepsA (j := 5) (y2n8 v H)) ⟨by kernel_rfl, trivial⟩) Ev.codeA)) (Ev.seqPA (t1 := y2T17 v) (m1 := y2M16 v) (Ev.regD2 (outs := [((y2T15 v), (y2M16 v))]) (by kernel_rfl) (by kernel_rfl) (by kernel_rfl) (EvD.stepsA (j := 8) (y2n16 v H)) ⟨by kernel_rfl, trivial⟩) (Ev.seqPA (t1 := y2T22 v) (m1 := y2M23 v) (Ev.regD2 (outs := [((y2T20 v), (y2M21 v))]) (by kernel_rfl) (by kernel_rfl) (by kernel_rfl) (EvD.stepsA (j := 10) (y2n21 v H)) ⟨by kernel_rfl, trivial⟩) Ev.codeA))))))
def pyA0T15 (v : PyV) : Fr := puF (pyA0T11 v) [(10, .i 1), (11, .i 0), (35, .i v.q), (36, .r 12 9), (37, .t [.i 1, .i 0]), (38, .r 10 0), (39, .r 0 0), (40, (czy118 v)), (41, .t [.i 1, .i 0]), (42, .i 1), (43, .i 0)]
def pyA0M16 (v : PyV) : Mem := [.c [.i 4, .w 1, .i 2, .w 2, .i 3, .i 200, .i 1, .i 500, .r 3 0, .r 5 0, .r 7 0, .r 9 0, .w 13],
  czy116,
  czy124,
  .c [.w 14, .i 562],
  czy117,
  .c [.w 15, czy123],
  czy12,
  .c [.w 16, .m 8, .i 256, .i 2],
  .p .n 1 false [(.n 1, [.n 0])],
  .c [.nl 4, .nm],
  .c [.r 0 0, .r 3 0, .r 5 0, .r 7 0, .r 9 0],
  .w 106 2 [[.n 1, .n 5]],
  .c [.i 0, .i 1, .i 2, .i 0, .i 2, .i 0, .i 1, .i 2, .i v.p, .i v.q, .i 10, .i 20, .i 0, .w 11, .nl 2, .i 0, .i 0, .i 0, .i 0],
  (czy17 v),
  (czy14 v),
  czy10,
  .w 136 3 [[.n 10, .n 1, .n 3]]]
theorem pyA0n13 (v : PyV) (H : PyH v 0 false) : pyA0ev (cL pyA0C9) (pyA0T12 v) (pyA0M13 v) [(.nrm, (pyA0T15 v), (pyA0M16 v))] := Ev.regA (EvO.callA (t2 := pyA0T14 v) (m1 := pyA0M13 v) (ix := [0, 11, 1, 2, 3, 5, 7, 9, 4, 6, 8]) (k := 3) (t1 := (pyA0T14 v)) (args := [.r 0 0, .i 0, (czy118 v)]) (a := []) (cc := []) (y2_run v H.toB) EvO.opsA)
def pyA0T17 (v : PyV) : Fr := Fr.mk [.u (.i .u8 v.p), .u (.i .u8 v.r), .i v.e, .z, .z, .z, .u (.b false), .r 10 0, .u (.b true), .r 12 0, .i 1, .i 0, .i (500 - v.p - v.f), .i 0, .i 60, .i 0, .z, .z, .z, .z, .z, .z, .z, .t [.a [.r 0 0, .r 3 0, .r 5 0, .r 7 0, .r 9 0], .u (.b true)], .t [.a [.r 0 0, .r 3 0, .r 5 0, .r 7 0, .r 9 0], .u (.b true)], .a [.r 0 0, .r 3 0, .r 5 0, .r 7 0, .r 9 0], .u (.b true), .u (.b true), .u (.b false), .a [.i 0, .i 1, .i 2, .i 0, .i 2, .i 0, .i 1, .i 2, .i 100, .i 50, .i 10, .i 20, .i 0, .w 11, .nl 2, .i 0, .i 0, .i 0, .i 0], .u (.i .u8 v.p), .i v.p, .r 12 8, .u (.i .u8 v.r), .i v.r, .i v.q, .r 12 9, .t [.i 1, .i 0], .r 10 0, .r 0 0, (czy118 v), .t [.i 1, .i 0], .i 1, .i 0, .t [.i (500 - v.p - v.f), .i 0], .r 10 1, .r 3 0, .t [.i (500 - v.p - v.f), .i 0], .i (500 - v.p - v.f), .i 0, .t [.i 60, .i 0], .r 10 1, .r 3 0, .t [.i 60, .i 0], .i 60, .i 0] 120 176
noncomputable abbrev pyA0C12 : Code := dropK 2 (cR pyA0C9)
def pyA0T18 (v : PyV) : Fr := puF (pyA0T17 v) [(56, .i 0), (57, .u (.b false)), (58, .u (.b false)), (59, .i 0), (60, .u (.b false)), (61, .u (.b false)), (62, .u (.b false)), (63, .i 0), (64, .u (.b false)), (65, .u (.b false)), (66, .u (.b false)), (67, .r 10 0), (68, .r 0 0), (69, .i 1)]
noncomputable abbrev y29ev := Ev Tryz.prog eK2 (List.range 600) 300 60 11
def y29M0 (v : PyV) : Mem := [.c [.i 4, .w 1, .i 2, .w 2, .i 3, .i 200, .i 1, .i 500, .r 3 0, .r 4 0, .r 5 0, .r 6 0, .w 7],
  czy116,
  czy124,
  .c [.w 8, .i 562],
  .c [.w 9, czy123],
  .c [.w 10, .m 11, .i 256, .i 2],
  .c [.nl 4, .nm],
  (czy17 v),
  (czy14 v),
  czy10,
  .w 136 3 [[.n 10, .n 1, .n 3]],
  .p .n 1 false [(.n 1, [.n 0])]]
noncomputable abbrev y29C1 : Code := bodyOf Tryz.f11
def y29T1 (v : PyV) : Fr := Fr.mk [.r 0 0, .i 0, .i 1, .i 1, .i 0, .r 12 0, .z, .z, .z, .z, .i 0] 137 148
def y29M2 (v : PyV) : Mem := paM (y29M0 v) [] [.c [.r 0 0]]
def y29T3 (v : PyV) : Fr := puF (y29T1 v) [(21, .r 0 0), (22, .i 1)]
noncomputable abbrev eK3 := (speKn (speWhole whp) [56])
noncomputable abbrev y30evD := EvD Tryz.prog eK3 (List.range 600) 300 60
def y30M0 (v : PyV) : Mem := [.c [.i 4, .w 1, .i 2, .w 2, .i 3, .i 200, .i 1, .i 500, .r 3 0, .r 4 0, .r 5 0, .r 6 0, .w 7],
  czy116,
  czy124,
  .c [.w 8, .i 562],
  .c [.w 9, czy123],
  .c [.w 10, .m 11, .i 256, .i 2],
  .c [.nl 4, .nm],
  (czy17 v),
  (czy14 v),
  czy10,
  .w 136 3 [[.n 10, .n 1, .n 3]],
  .p .n 1 false [(.n 1, [.n 0])]]
noncomputable abbrev y30C1 : Code := bodyOf Tryz.f12
def y30T1 (v : PyV) : Fr := Fr.mk [.r 0 0, .i 1, .z, .z, .r 12 0, .i 0, .r 13 0, .u (.b false), .r 0 0, .u (.b true), .u (.b false), .z, .u (.b false), .i 1, .u (.b false), .u (.b false), .i 1, .r 0 0, .r 0 0, .r 0 12, .w 7, .i 1, .u (.b false), .u (.b false), .z, .r 0 0, .r 0 0, .r 0 12, .w 7, .i 1, .i 0, .e 7 19 0 0, .a [.i 1, .i 1, .i 2, .i 0, .i 2, .i 0, .i 1, .i 2, .i v.p, .i v.q, .i 10, .i 20, .i v.f, .u (.l 2 [[.n 1, .n 5]]), .u (.l 2 []), .i 1, .i 10, .i 0, .i 0]] 9 42
def y30M2 (v : PyV) : Mem := paM (y30M0 v) [] [.c [.i 0, .i 0, .i 0, .i 0, .i 0, .i 0, .i 0, .i 0, .i 0, .i 0, .i 0, .i 0, .i 0, .nl 2, .nl 2, .i 0, .i 0, .i 0, .i 0],
  .c [.i 1, .i 1, .i 2, .i 0, .i 2, .i 0, .i 1, .i 2, .i v.p, .i v.q, .i 10, .i 20, .i v.f, .u (.l 2 [[.n 1, .n 5]]), .u (.l 2 []), .i 1, .i 10, .i 0, .i 0]]
noncomputable abbrev y30C3 : Code := cL (dropK 3 y30C1)
def y30T3 (v : PyV) : Fr := puF (y30T1 v) [(33, .r 13 13), (34, .u (.l 2 [[.n 1, .n 5]])), (36, .r 13 14), (37, .u (.l 2 []))]
def y30T4 (v : PyV) : Fr := puF (y30T3 v) [(35, .u (.l 2 [[.n 1, .n 5]])), (39, .r 13 13)]
def y30T5 (v : PyV) : Fr := puF (y30T4 v) [(38, .c 2 []), (40, .r 13 14)]
def y30M6 (v : PyV) : Mem := paM (y30M2 v) [(13, .c [.i 1, .i 1, .i 2, .i 0, .i 2, .i 0, .i 1, .i 2, .i v.p, .i v.q, .i 10, .i 20, .i v.f, .u (.l 2 [[.n 1, .n 5]]), .c 2 [], .i 1, .i 10, .i 0, .i 0])] []
theorem y30n1 (v : PyV) (H : PyB v) : y30evD (cOp y30C3) (0, [9, 8, 7, 5, 6, 2, 4, 3, 1, 0], [(4, [13]), (1, [13])], (y30T5 v), (y30M6 v)) [((y30T5 v), (y30M6 v))] := EvD.codeA
theorem y30n2 (v : PyV) (H : PyB v) : y30evD (cOp y30C3) (3, [5, 6, 2, 4, 3, 1, 0], [(4, [13]), (1, [13])], (cPut (opAt (cOp y30C3) 5).dst).p (y30T4 v) (renV (fK [] ((y30M2 v)).length) (.c 2 [])), backM (y30M2 v) [] ([])) [((y30T5 v), (y30M6 v))] := EvD.stepsA (j := 3) (y30n1 v H)
theorem y30n3 (v : PyV) (H : PyB v) : y30evD (cOp y30C3) (4, [6, 2, 4, 3, 1, 0], [(4, [13]), (1, [13])], (y30T4 v), (y30M2 v)) [((y30T5 v), (y30M6 v))] := EvD.oneA 5 (EvE.callA (args := [.u (.l 2 [])]) (a := []) (cc := []) 5 clone0 (y30n2 v H))
theorem y30n4 (v : PyV) (H : PyB v) : y30evD (cOp y30C3) (5, [2, 4, 3, 1, 0], [(4, [13]), (1, [13])], (cPut (opAt (cOp y30C3) 2).dst).p (y30T3 v) (renV (fK [] ((y30M2 v)).length) (.u (.l 2 [[.n 1, .n 5]]))), backM (y30M2 v) [] ([])) [((y30T5 v), (y30M6 v))] := EvD.stepsA (j := 1) (y30n3 v H)
theorem y30n5 (v : PyV) (H : PyB v) : y30evD (cOp y30C3) (6, [4, 3, 1, 0], [(4, [13]), (1, [13])], (y30T3 v), (y30M2 v)) [((y30T5 v), (y30M6 v))] := EvD.oneA 2 (EvE.callA (args := [.u (.l 2 [[.n 1, .n 5]])]) (a := []) (cc := []) 2 clone1 (y30n4 v H))
def y30T8 (v : PyV) : Fr := puF (y30T5 v) [(41, (czy110 v))]
def y30M9 (v : PyV) : Mem := paM (y30M6 v) [(12, .c [.i 1, .i 1, .i 2, .i 0, .i 2, .i 0, .i 1, .i 2, .i v.p, .i v.q, .i 10, .i 20, .i v.f, .u (.l 2 [[.n 1, .n 5]]), .c 2 [], .i 1, .i 10, .i 0, .i 0])] []
abbrev y30Mm (v : PyV) : Mem := (y30M0 v)
theorem y30_run (v : PyV) (H : PyB v) : PRun Tryz.prog 12 (y30M0 v) [.r 0 0, .i 1] fun x m => x = .t [(czy110 v), .i 0] ∧ m = (y30Mm v) := Ev.runA eK3 Tryz.func12 (c := y30C1) (r := (.ret, (y30T8 v), (y30M9 v))) (Ev.piecesA (k := 3) (t1 := y30T1 v) (m1 := y30M2 v) (Ev.seqPA (t1 := y30T5 v) (m1 := y30M6 v) (Ev.regD2 (outs := [((y30T5 v), (y30M6 v))]) (by kernel_rfl) (by kernel_rfl) (by kernel_rfl) (EvD.stepsA (j := 4) (y30n5 v H)) ⟨by kernel_rfl, trivial⟩) Ev.codeA))
def y29T4 (v : PyV) : Fr := Fr.mk [.r 0 0, .i 0, .i 1, .i 1, .i 0, .r 12 0, .z, .z, .z, .z, .i 0, .r 13 0, .i 0, .z, .z, .z, .z, .z, .z, .z, .t [(czy110 v), .i 0], .r 0 0, .i 1, .t [(czy110 v), .i 0], (czy110 v), .i 0] 122 148
def y29M5 (v : PyV) : Mem := paM (y29M2 v) [] [.c [.i 1, .i 1, .i 2, .i 0, .i 2, .i 0, .i 1, .i 2, .i v.p, .i v.q, .i 10, .i 20, .i v.f, .u (.l 2 [[.n 1, .n 5]]), .c 2 [], .i 1, .i 10, .i 0, .i 0]]
def y29T6 (v : PyV) : Fr := puF (y29T4 v) [(26, .i 0), (27, .u (.b false))]
def y29T7 (v : PyV) : Fr := puF (y29T6 v) [(30, (czy110 v)), (31, .i 0), (32, .i 1), (33, .i 0)]
def y31T0 (v : PyV) : Fr := frameF Tryz.prog Tryz.f47 [(czy110 v), .i 0, .i 1, .i 0]
def y31M0 (v : PyV) : Mem := []
def y31T1 (v : PyV) : Fr := puF (y31T0 v) [(4, .r 0 0), (8, .r 1 0), (9, .i 0)]
def y31M2 (v : PyV) : Mem := [.c [.i 1, .i 1, .i 2, .i 0, .i 2, .i 0, .i 1, .i 2, .i v.p, .i v.q, .i 10, .i 20, .i v.f, .u (.l 2 [[.n 1, .n 5]]), .c 2 [], .i 1, .i 10, .i 0, .i 0],
  .c [.i 0, .i 0, .i 0, .i 0, .i 0, .i 0, .i 0, .i 0, .i 0, .i 0, .i 0, .i 0, .i 0, .nl 2, .nl 2, .i 0, .i 0, .i 0, .i 0]]
def y31T3 (v : PyV) : Fr := puF (y31T1 v) [(11, (czy110 v))]
noncomputable abbrev y32ev := Ev Tryz.prog eK2 (List.range 600) 300 60 74
def y32T0 (v : PyV) : Fr := frameF Tryz.prog Tryz.f74 [(czy110 v)]
def y32M0 (v : PyV) : Mem := []
noncomputable abbrev y32C1 : Code := bodyOf Tryz.f74
def y32T1 (v : PyV) : Fr := puF (y32T0 v) [(1, .r 0 0), (2, .i 0)]
def y32M2 (v : PyV) : Mem := [.c [.i 1, .i 1, .i 2, .i 0, .i 2, .i 0, .i 1, .i 2, .i v.p, .i v.q, .i 10, .i 20, .i v.f, .u (.l 2 [[.n 1, .n 5]]), .c 2 [], .i 1, .i 10, .i 0, .i 0]]
noncomputable abbrev y32C2 : Code := dropK 1 y32C1
def y32T3 (v : PyV) : Fr := puF (y32T1 v) [(7, .r 0 0), (8, .i 1)]
def y32T4 (v : PyV) : Fr := puF (y32T3 v) [(9, .u (.b true)), (10, .u (.b true)), (11, .r 0 2), (12, .i 2)]
def y32T5 (v : PyV) : Fr := puF (y32T4 v) [(13, .u (.b true)), (14, .u (.b true)), (15, .u (.b true)), (16, .r 0 4), (17, .i 2)]
def y32T6 (v : PyV) : Fr := puF (y32T5 v) [(18, .u (.b true)), (19, .u (.b true)), (20, .u (.b true)), (21, .r 0 3), (22, .i 0)]
def y32T7 (v : PyV) : Fr := puF (y32T6 v) [(23, .u (.b true)), (24, .u (.b true)), (25, .u (.b true)), (26, .r 0 5), (27, .i 0)]
def y32T8 (v : PyV) : Fr := Fr.mk [(czy110 v), .r 0 0, .i 0, .u (.b true), .z, .z, .z, .r 0 0, .i 1, .u (.b true), .u (.b true), .r 0 2, .i 2, .u (.b true), .u (.b true), .u (.b true), .r 0 4, .i 2, .u (.b true), .u (.b true), .u (.b true), .r 0 3, .i 0, .u (.b true), .u (.b true), .u (.b true), .r 0 5, .i 0, .u (.b true), .u (.b true), .u (.b true), .r 0 5, .i 0, .r 0 2, .i 2, .u (.b true), .u (.b true)] 92 129
theorem y32n7 (v : PyV) (H : PyB v) : y32ev (cL y32C2) (y32T1 v) (y32M2 v) [(.nrm, (y32T8 v), (y32M2 v))] := Ev.regA (EvO.callA (t2 := y32T3 v) (m1 := y32M2 v) (ix := []) (k := 2) (t1 := (y32T3 v)) (args := [.i 1, .i 1, .i 1099511627776]) (a := []) (cc := []) (y8_run v) (EvO.callA (t2 := y32T4 v) (m1 := y32M2 v) (ix := []) (k := 3) (t1 := (y32T4 v)) (args := [.i 2, .i 1, .i 1099511627776]) (a := []) (cc := []) (y9_run v) (EvO.callA (t2 := y32T5 v) (m1 := y32M2 v) (ix := []) (k := 4) (t1 := (y32T5 v)) (args := [.i 2, .i 1, .i 1099511627776]) (a := []) (cc := []) (y9_run v) (EvO.callA (t2 := y32T6 v) (m1 := y32M2 v) (ix := []) (k := 4) (t1 := (y32T6 v)) (args := [.i 0, .i 0, .i 4]) (a := []) (cc := []) (y10_run v) (EvO.callA (t2 := y32T7 v) (m1 := y32M2 v) (ix := []) (k := 4) (t1 := (y32T7 v)) (args := [.i 0, .i 0, .i 1099511627776]) (a := []) (cc := []) (y5_run v) EvO.opsA)))))
def y32T9 (v : PyV) : Fr := puF (y32T8 v) [(37, .r 0 6), (38, .i 1)]
def y32T10 (v : PyV) : Fr := puF (y32T9 v) [(39, .u (.b true)), (40, .u (.b true)), (41, .r 0 8), (42, .i v.p)]
def y32T11 (v : PyV) : Fr := puF (y32T10 v) [(43, .u (.b true)), (44, .u (.b true)), (45, .u (.b true)), (46, .r 0 12), (47, .i v.f)]
def y33M0 (v : PyV) : Mem := []
def y33T1 (v : PyV) : Fr := Fr.mk [.i v.f, .i 0, .i 1152921504606846976, .z, .z, .z, .u (.b false)] 8 15
def y33T2 (v : PyV) : Fr := Fr.mk [.i v.f, .i 0, .i 1152921504606846976, .z, .z, .z, .u (.b false), .i v.f, .i 0] 6 15
def y33T3 (v : PyV) : Fr := puF (y12T3 v) [(0, .i v.f), (7, .i v.f), (11, .i v.f)]
def y33T4 (v : PyV) : Fr := puF (y12T4 v) [(0, .i v.f), (7, .i v.f), (11, .i v.f)]
abbrev y33Mm (v : PyV) : Mem := (y33M0 v)
theorem y33_run (v : PyV) (H : PyB v) : PRun Tryz.prog 101 (y33M0 v) [.i v.f, .i 0, .i 1152921504606846976] fun x m => x = .u (.b true) ∧ m = (y33Mm v) := Ev.runA eK2 Tryz.func101 (c := (bodyOf Tryz.f101)) (r := (.ret, (y33T4 v), (y33M0 v))) (Ev.piecesA (k := 1) (t1 := y33T1 v) (m1 := y33M0 v) (Ev.seqPA (t1 := y33T4 v) (m1 := y33M0 v) (Ev.regA (EvO.opA (t2 := y33T2 v) (m1 := y33M0 v) (v := .u (.b true)) (k := 2) (t1 := (y33T2 v)) (symE (b := leF 0 v.f) (by kernel_rfl) (sLeT (by have := H.b; omega))) (EvO.opA (t2 := y33T3 v) (m1 := y33M0 v) (v := .u (.b true)) (k := 3) (t1 := (y33T3 v)) (symE (b := leF v.f 1152921504606846976) (by kernel_rfl) (sLeT (by have := H.b; omega))) EvO.opsA))) Ev.codeA))
def y32T12 (v : PyV) : Fr := puF (y32T11 v) [(48, .u (.b true)), (49, .u (.b true)), (50, .u (.b true)), (51, .r 0 10), (52, .i 10)]
def y32T13 (v : PyV) : Fr := puF (y32T12 v) [(4, .u (.b true)), (53, .u (.b true)), (54, .u (.b true))]
def y32T14 (v : PyV) : Fr := puF (y32T13 v) [(5, .u (.b true)), (6, .u (.b false)), (55, .r 0 13), (56, .u (.l 2 [[.n 1, .n 5]])), (57, .i 0), (58, .u (.b true)), (59, .u (.b true)), (60, .r 0 14), (61, .c 2 []), (62, .i 0), (63, .u (.b true)), (64, .u (.b true))]
def y32M15 (v : PyV) : Mem := paM (y32M2 v) [] [.c [.i 1, .i 5]]
def y32T16 (v : PyV) : Fr := puF (y32T13 v) [(5, .u (.b true)), (6, .u (.b false)), (55, .r 0 13), (56, .u (.l 2 [[.n 1, .n 5]])), (57, .i 0), (58, .u (.b true)), (59, .u (.b true)), (60, .r 0 14), (61, .c 2 []), (62, .i 0), (63, .u (.b true)), (64, .u (.b true)), (65, .r 0 1), (66, .i 1)]
def y32T17 (v : PyV) : Fr := puF (y32T13 v) [(5, .u (.b true)), (6, .u (.b false)), (55, .r 0 13), (56, .u (.l 2 [[.n 1, .n 5]])), (57, .i 0), (58, .u (.b true)), (59, .u (.b true)), (60, .r 0 14), (61, .c 2 []), (62, .i 0), (63, .u (.b true)), (64, .u (.b true)), (65, .r 0 1), (66, .i 1), (67, .u (.b true)), (68, .u (.b true))]
def y32T18 (v : PyV) : Fr := puF (y32T13 v) [(5, .u (.b true)), (6, .u (.b false)), (55, .r 0 13), (56, .u (.l 2 [[.n 1, .n 5]])), (57, .i 0), (58, .u (.b true)), (59, .u (.b true)), (60, .r 0 14), (61, .c 2 []), (62, .i 0), (63, .u (.b true)), (64, .u (.b true)), (65, .r 0 1), (66, .i 1), (67, .u (.b true)), (68, .u (.b true)), (69, .r 0 7), (70, .i 2)]
def y32T19 (v : PyV) : Fr := puF (y32T13 v) [(5, .u (.b true)), (6, .u (.b false)), (55, .r 0 13), (56, .u (.l 2 [[.n 1, .n 5]])), (57, .i 0), (58, .u (.b true)), (59, .u (.b true)), (60, .r 0 14), (61, .c 2 []), (62, .i 0), (63, .u (.b true)), (64, .u (.b true)), (65, .r 0 1), (66, .i 1), (67, .u (.b true)), (68, .u (.b true)), (69, .r 0 7), (70, .i 2), (71, .u (.b true)), (72, .u (.b true)), (73, .r 0 11), (74, .i 20)]
def y32T20 (v : PyV) : Fr := puF (y32T13 v) [(5, .u (.b true)), (6, .u (.b false)), (55, .r 0 13), (56, .u (.l 2 [[.n 1, .n 5]])), (57, .i 0), (58, .u (.b true)), (59, .u (.b true)), (60, .r 0 14), (61, .c 2 []), (62, .i 0), (63, .u (.b true)), (64, .u (.b true)), (65, .r 0 1), (66, .i 1), (67, .u (.b true)), (68, .u (.b true)), (69, .r 0 7), (70, .i 2), (71, .u (.b true)), (72, .u (.b true)), (73, .r 0 11), (74, .i 20), (75, .u (.b true)), (76, .u (.b true)), (77, .u (.b true)), (78, .r 0 9), (79, .i v.q)]
def y32T21 (v : PyV) : Fr := puF (y7T21 v) [(0, (czy110 v)), (1, .r 0 0), (7, .r 0 0), (11, .r 0 2), (16, .r 0 4), (21, .r 0 3), (26, .r 0 5), (31, .r 0 5), (33, .r 0 2), (37, .r 0 6), (41, .r 0 8), (46, .r 0 12), (47, .i v.f), (51, .r 0 10), (55, .r 0 13), (56, .u (.l 2 [[.n 1, .n 5]])), (60, .r 0 14), (61, .c 2 []), (65, .r 0 1), (69, .r 0 7), (73, .r 0 11), (78, .r 0 9), (83, .r 0 13), (84, .u (.l 2 [[.n 1, .n 5]])), (89, .r 0 14), (90, .c 2 [])]
def y32T22 (v : PyV) : Fr := puF (y32T21 v) [(115, .u (.b true)), (116, .u (.b true)), (117, .u (.b true)), (118, .u (.b true)), (119, .u (.b true)), (120, .u (.b true)), (121, .u (.b true)), (122, .u (.b true)), (123, .u (.b true)), (124, .u (.b true)), (125, .u (.b true)), (126, (czy110 v))]
def y34M0 (v : PyV) : Mem := []
def y34T1 (v : PyV) : Fr := Fr.mk [(czy110 v), .r 0 0, .u (.b false), .u (.b true), .u (.b true), .z, .z, .z, .r 0 1, .i 1, .u (.b true), .r 0 17, .i 0, .u (.b true), .u (.b true), .r 0 18, .i 0, .u (.b true), .u (.b true)] 71 90
def y34M2 (v : PyV) : Mem := [.c [.i 1, .i 1, .i 2, .i 0, .i 2, .i 0, .i 1, .i 2, .i v.p, .i v.q, .i 10, .i 20, .i v.f, .u (.l 2 [[.n 1, .n 5]]), .c 2 [], .i 1, .i 10, .i 0, .i 0]]
def y34T3 (v : PyV) : Fr := puF (y34T1 v) [(19, .r 0 17), (20, .i 0)]
def y34T4 (v : PyV) : Fr := puF (y34T3 v) [(21, .u (.b false)), (22, .u (.b false)), (23, .t []), (24, .t []), (25, .t []), (26, .t []), (27, .t []), (28, .u (.b false)), (29, .u (.b false)), (30, .t []), (31, .t [])]
def y34T5 (v : PyV) : Fr := puF (y34T4 v) [(5, .u (.b false)), (32, .t []), (33, .u (.b false))]
def y34T6 (v : PyV) : Fr := puF (y34T5 v) [(34, .r 0 16), (35, .i 10)]
def y34T7 (v : PyV) : Fr := puF (y34T6 v) [(6, .u (.b true)), (36, .u (.b true))]
def y34T8 (v : PyV) : Fr := puF (y34T7 v) [(2, .u (.b true)), (7, .u (.b false)), (37, .r 0 16), (38, .i 10), (39, .u (.b false)), (40, .r 0 15), (41, .i 1), (42, .u (.b true)), (43, .u (.b true)), (44, .u (.b true)), (45, .u (.b true)), (46, .u (.b true)), (47, .u (.b true))]
abbrev y34Mm (v : PyV) : Mem := (y34M0 v)
theorem y34_run (v : PyV) (H : PyB v) : PRun Tryz.prog 130 (y34M0 v) [(czy110 v)] fun x m => x = .u (.b true) ∧ m = (y34Mm v) := Ev.runA eK2 Tryz.func130 (c := (bodyOf Tryz.f130)) (r := (.ret, (y34T8 v), (y34M2 v))) (Ev.piecesA (k := 3) (t1 := y34T1 v) (m1 := y34M2 v) (Ev.seqPA (t1 := y34T5 v) (m1 := y34M2 v) (Ev.regA (EvO.callA (t2 := y34T3 v) (m1 := y34M2 v) (ix := []) (k := 2) (t1 := (y34T3 v)) (args := [.i 0, .i 1, .i 1099511627776]) (a := []) (cc := []) (y18_run v) (EvO.not (k := 10) (t1 := (y34T4 v)) (t2 := (y34T4 v)) (m1 := (y34M2 v)) (by kernel_rfl) (by kernel_rfl) (by kernel_rfl) EvO.opsA))) (Ev.seqPA (t1 := y34T7 v) (m1 := y34M2 v) (Ev.regA (EvO.callA (t2 := y34T6 v) (m1 := y34M2 v) (ix := []) (k := 2) (t1 := (y34T6 v)) (args := [.i 10, .i 1, .i 2199023255552]) (a := []) (cc := []) (y19_run v) EvO.opsA)) Ev.codeA)))
def y32T23 (v : PyV) : Fr := puF (y32T22 v) [(127, .u (.b true)), (128, .u (.b true))]
theorem y32n32 (v : PyV) (H : PyB v) : y32ev y32C2 (y32T1 v) (y32M2 v) [(.ret, (y32T23 v), (y32M15 v))] := Ev.seqPA (y32n7 v H) (Ev.seqPA (t1 := y32T13 v) (m1 := y32M2 v) (Ev.regA (EvO.callA (t2 := y32T9 v) (m1 := y32M2 v) (ix := []) (k := 2) (t1 := (y32T9 v)) (args := [.i 1, .i 1, .i 8]) (a := []) (cc := []) (y11_run v) (EvO.callA (t2 := y32T10 v) (m1 := y32M2 v) (ix := []) (k := 3) (t1 := (y32T10 v)) (args := [.i v.p, .i 0, .i 1152921504606846976]) (a := []) (cc := []) (y12_run v H) (EvO.callA (t2 := y32T11 v) (m1 := y32M2 v) (ix := []) (k := 4) (t1 := (y32T11 v)) (args := [.i v.f, .i 0, .i 1152921504606846976]) (a := []) (cc := []) (y33_run v H) (EvO.callA (t2 := y32T12 v) (m1 := y32M2 v) (ix := []) (k := 4) (t1 := (y32T12 v)) (args := [.i 10, .i 1, .i 1048576]) (a := []) (cc := []) (y6_run v) EvO.opsA))))) (Ev.piecesA (k := 2) (t1 := y32T14 v) (m1 := y32M15 v) (Ev.seqPA (t1 := y32T21 v) (m1 := y32M15 v) (Ev.piecesA (k := 1) (t1 := y32T16 v) (m1 := y32M15 v) (Ev.blockP (e := .nrm) (by kernel_rfl) (by kernel_rfl) (Ev.piecesA (k := 1) (t1 := y32T17 v) (m1 := y32M15 v) (Ev.condT (by kernel_rfl) (by kernel_rfl) (Ev.regA (EvO.callA (t2 := y32T18 v) (m1 := y32M15 v) (ix := []) (k := 2) (t1 := (y32T18 v)) (args := [.i 2, .i 1, .i 8]) (a := []) (cc := []) (y14_run v) (EvO.callA (t2 := y32T19 v) (m1 := y32M15 v) (ix := []) (k := 3) (t1 := (y32T19 v)) (args := [.i 20, .i 1, .i 1048576]) (a := []) (cc := []) (y15_run v) (EvO.callA (t2 := y32T20 v) (m1 := y32M15 v) (ix := []) (k := 4) (t1 := (y32T20 v)) (args := [.i v.q, .i 0, .i 1152921504606846976]) (a := []) (cc := []) (y16_run v H) EvO.opsA)))))))) (Ev.seqE (by intro h; cases h) (by kernel_rfl) (Ev.seqPA (t1 := y32T23 v) (m1 := y32M15 v) (Ev.regA (EvO.callA (t2 := y32T22 v) (m1 := y32M15 v) (ix := []) (k := 12) (t1 := (y32T22 v)) (args := [(czy110 v)]) (a := []) (cc := []) (y34_run v H) EvO.opsA)) Ev.codeA)))))
abbrev y32Mm (v : PyV) : Mem := (y32M0 v)
theorem y32_run (v : PyV) (H : PyB v) : PRun Tryz.prog 74 (y32M0 v) [(czy110 v)] fun x m => x = .i 0 ∧ m = (y32Mm v) := Ev.runA eK2 Tryz.func74 (c := y32C1) (r := (.ret, (y32T23 v), (y32M15 v))) (Ev.piecesA (k := 1) (y32n32 v H))
def y31T4 (v : PyV) : Fr := puF (y31T3 v) [(12, .i 0), (13, .u (.b false)), (14, .u (.b false)), (15, .i 0)]
def y31T5 (v : PyV) : Fr := puF (y31T4 v) [(16, .u (.b true)), (17, .u (.b false)), (18, .u (.b false)), (19, .u (.b false)), (20, .i 1)]
def y31T6 (v : PyV) : Fr := puF (y31T5 v) [(21, .u (.b true)), (22, .u (.b false)), (23, .u (.b false)), (24, .u (.b false)), (25, .i 1), (26, .r 0 2), (27, .i 2), (28, .u (.b false)), (29, .u (.b false)), (30, .u (.b false)), (31, .i 0)]
def y31T7 (v : PyV) : Fr := puF (y31T6 v) [(10, .u (.b false)), (32, .u (.b true)), (33, .u (.b false)), (34, .u (.b false))]
def y31T8 (v : PyV) : Fr := puF (y31T6 v) [(10, .u (.b false)), (32, .u (.b true)), (33, .u (.b false)), (34, .u (.b false)), (36, .u (.b false)), (37, .r 0 15), (38, .i 1), (39, .u (.b false)), (40, .u (.b false)), (41, .r 0 5), (42, .i 0), (43, .u (.b false)), (44, .u (.b false)), (45, .t []), (46, .t []), (47, .t []), (48, .t []), (49, .u (.b false)), (50, .u (.b false))]
def y31T9 (v : PyV) : Fr := Fr.mk [(czy110 v), .i 0, .i 1, .i 0, .r 0 0, .z, .z, .z, .r 1 0, .i 0, .u (.b false), (czy110 v), .i 0, .u (.b false), .u (.b false), .i 0, .u (.b true), .u (.b false), .u (.b false), .u (.b false), .i 1, .u (.b true), .u (.b false), .u (.b false), .u (.b false), .i 1, .r 0 2, .i 2, .u (.b false), .u (.b false), .u (.b false), .i 0, .u (.b true), .u (.b false), .u (.b false), .z, .u (.b false), .r 0 15, .i 1, .u (.b false), .u (.b false), .r 0 5, .i 0, .u (.b false), .u (.b false), .t [], .t [], .t [], .t [], .u (.b false), .u (.b false), .z, .i 1, .i 0, .r 0 17, .r 0 18, .i 0, .r 0 11, .i 20, .i 20, .r 0 15, .r 0 16, .r 0 1, .i 1, .u (.b false), .z, .z, (czy111 v)] 0 68
def y31M10 (v : PyV) : Mem := [.c [.i 1, .i 1, .i 2, .i 0, .i 2, .i 0, .i 1, .i 2, .i v.p, .i v.q, .i 10, .i 20, .i v.f, .u (.l 2 [[.n 1, .n 5]]), .c 2 [], .i 2, .i 20, .i 1, .i 0],
  .c [.i 1, .i 1, .i 2, .i 0, .i 2, .i 0, .i 1, .i 2, .i v.p, .i v.q, .i 10, .i 20, .i v.f, .u (.l 2 [[.n 1, .n 5]]), .c 2 [], .i 2, .i 20, .i 1, .i 0]]
abbrev y31Mm (v : PyV) : Mem := (y31M0 v)
theorem y31_run (v : PyV) (H : PyB v) : PRun Tryz.prog 47 (y31M0 v) [(czy110 v), .i 0, .i 1, .i 0] fun x m => x = .t [(czy111 v), .i 0] ∧ m = (y31Mm v) := Ev.runA eK2 Tryz.func47 (c := (bodyOf Tryz.f47)) (r := (.ret, (y31T9 v), (y31M10 v))) (Ev.piecesA (k := 1) (t1 := y31T1 v) (m1 := y31M2 v) (Ev.seqPA (t1 := y31T8 v) (m1 := y31M2 v) (Ev.blockP (e := .nrm) (by kernel_rfl) (by kernel_rfl) (Ev.seqPA (t1 := y31T7 v) (m1 := y31M2 v) (Ev.regA (EvO.callA (t2 := y31T3 v) (m1 := y31M2 v) (ix := []) (k := 1) (t1 := (y31T3 v)) (args := [(czy110 v)]) (a := []) (cc := []) (y32_run v H) (EvO.callA (t2 := y31T4 v) (m1 := y31M2 v) (ix := []) (k := 3) (t1 := (y31T4 v)) (args := [.i 0, .i 0, .i 1099511627776]) (a := []) (cc := []) (y5_run v) (EvO.callA (t2 := y31T5 v) (m1 := y31M2 v) (ix := []) (k := 4) (t1 := (y31T5 v)) (args := [.i 1, .i 1, .i 1099511627776]) (a := []) (cc := []) (y8_run v) (EvO.callA (t2 := y31T6 v) (m1 := y31M2 v) (ix := []) (k := 10) (t1 := (y31T6 v)) (args := [.i 0, .i 0, .i 4]) (a := []) (cc := []) (y10_run v) EvO.opsA))))) Ev.codeA)) Ev.codeA))
def y29T8 (v : PyV) : Fr := puF (y29T7 v) [(13, .r 14 0), (29, .t [(czy111 v), .i 0]), (34, .t [(czy111 v), .i 0]), (35, (czy111 v)), (36, .i 0)]
def y29M9 (v : PyV) : Mem := paM (y29M5 v) [] [.c [.i 1, .i 1, .i 2, .i 0, .i 2, .i 0, .i 1, .i 2, .i v.p, .i v.q, .i 10, .i 20, .i v.f, .u (.l 2 [[.n 1, .n 5]]), .c 2 [], .i 2, .i 20, .i 1, .i 0]]
def y29T10 (v : PyV) : Fr := puF (y29T8 v) [(14, .i v.q), (37, .i 0), (38, .u (.b false)), (40, .r 13 9), (41, .i v.q), (42, .r 13 1), (43, .i 1), (44, .u (.b false))]
def y29T11 (v : PyV) : Fr := puF (y29T10 v) [(15, .r 17 0), (16, .r 18 0), (47, .i 1), (48, .i 0), (49, .r 13 6), (50, .i 1), (51, .a [.i 1, .i 0, .i 1, .i 1]), (52, .r 13 2), (53, .i 2), (54, .r 13 3), (55, .i 0), (56, .r 13 6), (57, .i 1), (58, .a [.i 2, .i 0, .i 1, .i 1])]
def y29M12 (v : PyV) : Mem := paM (y29M9 v) [] [.c [.i 1, .i 0, .i 1, .i 1],
  .c [.i 2, .i 0, .i 1, .i 1],
  .c [.i 1, .i 0, .i 1, .i 1],
  .c [.i 2, .i 0, .i 1, .i 1]]
def y29T13 (v : PyV) : Fr := puF (y29T11 v) [(15, .r 18 0), (16, .r 17 0)]
def y29M14 (v : PyV) : Mem := paM (y29M12 v) [(17, .c [.i 2, .i 0, .i 1, .i 1]), (18, .c [.i 1, .i 0, .i 1, .i 1])] []
def y29T15 (v : PyV) : Fr := puF (y29T11 v) [(15, .r 16 0)]
def y29M16 (v : PyV) : Mem := paM (y29M12 v) [(16, .c [.i 1, .i 0, .i 1, .i 1]), (17, .c [.i 2, .i 0, .i 1, .i 1])] []
def y29T17 (v : PyV) : Fr := puF (y29T11 v) [(15, .r 16 0), (16, .r 17 0)]
def y29T18 (v : PyV) : Fr := puF (y29T11 v) [(15, .r 18 0), (16, .r 16 0)]
def y29T19 (v : PyV) : Fr := puF (y29T11 v) [(16, .r 16 0)]
def y29T20 (v : PyV) : Fr := puF (y29T11 v) [(15, .r 15 0)]
def y29T21 (v : PyV) : Fr := puF (y29T11 v) [(15, .r 15 0), (16, .r 17 0)]
def y29T22 (v : PyV) : Fr := puF (y29T11 v) [(15, .r 15 0), (16, .r 16 0)]
def y29T23 (v : PyV) : Fr := puF (y29T11 v) [(15, .r 18 0), (16, .r 15 0)]
def y29M24 (v : PyV) : Mem := paM (y29M14 v) [(15, .c [.i 2, .i 0, .i 1, .i 1]), (16, .c [.i 1, .i 0, .i 1, .i 1])] []
def y29T25 (v : PyV) : Fr := puF (y29T11 v) [(16, .r 15 0)]
def y29M26 (v : PyV) : Mem := paM (y29M12 v) [(15, .c [.i 2, .i 0, .i 1, .i 1]), (16, .c [.i 1, .i 0, .i 1, .i 1])] []
def y29T27 (v : PyV) : Fr := puF (y29T11 v) [(15, .r 16 0), (16, .r 15 0)]
def y29T28 (v : PyV) : Fr := puF (y29T11 v) [(15, .r 15 0), (16, .r 16 0)]
def y29M29 (v : PyV) : Mem := paM (y29M9 v) [] [.c [.i 1, .i 0, .i 1, .i 1],
  .c [.i 2, .i 0, .i 1, .i 1]]
def y29T30 (v : PyV) : Fr := puF (y29T11 v) [(15, .r 15 0), (16, .r 16 0), (17, .i 60), (59, .t [.i 60, .i 0]), (60, .r 0 0), (61, .r 0 0), (62, .r 0 8), (63, .r 3 0), (64, .i 1), (65, .t [.i 60, .i 0]), (66, .i 60), (67, .i 0)]
def y29T31 (v : PyV) : Fr := puF (y29T11 v) [(15, .r 15 0), (16, .r 16 0), (17, .i 60), (59, .t [.i 60, .i 0]), (60, .r 0 0), (61, .r 0 0), (62, .r 0 8), (63, .r 3 0), (64, .i 1), (65, .t [.i 60, .i 0]), (66, .i 60), (67, .i 0), (68, .u (.b false)), (69, .i 0), (70, .u (.b false))]
def y29T32 (v : PyV) : Fr := Fr.mk [.r 0 0, .i 0, .i 1, .i 1, .i 0, .r 12 0, .z, .z, .z, .z, .i 0, .r 13 0, .i 0, .r 14 0, .i v.q, .r 15 0, .r 16 0, .i 60, .z, .z, .t [(czy110 v), .i 0], .r 0 0, .i 1, .t [(czy110 v), .i 0], (czy110 v), .i 0, .i 0, .u (.b false), .z, .t [(czy111 v), .i 0], (czy110 v), .i 0, .i 1, .i 0, .t [(czy111 v), .i 0], (czy111 v), .i 0, .i 0, .u (.b false), .z, .r 13 9, .i v.q, .r 13 1, .i 1, .u (.b false), .z, .z, .i 1, .i 0, .r 13 6, .i 1, .a [.i 1, .i 0, .i 1, .i 1], .r 13 2, .i 2, .r 13 3, .i 0, .r 13 6, .i 1, .a [.i 2, .i 0, .i 1, .i 1], .t [.i 60, .i 0], .r 0 0, .r 0 0, .r 0 8, .r 3 0, .i 1, .t [.i 60, .i 0], .i 60, .i 0, .u (.b false), .i 0, .u (.b false), .z, .i 60, .i v.q] 74 148
def y29T33 (v : PyV) : Fr := puF (y29T32 v) [(71, .u (.b false)), (74, .u (.b false))]
def y29T34 (v : PyV) : Fr := puF (y29T33 v) [(75, .u (.b false)), (76, .r 0 0), (77, .a [.i 1, .i 0, .i 1, .i 1]), (78, .r 13 14), (79, .c 2 []), (80, .u (.b true)), (81, .u (.b false))]
def y29T35 (v : PyV) : Fr := puF (y29T34 v) [(82, .r 0 0), (83, .r 0 0), (84, .r 0 8), (85, .r 3 0), (86, .i 1), (87, .i 1), (88, .i v.q)]
def y35M0 (v : PyV) : Mem := [.c [.w 1, .i 562],
  (czy14 v)]
def y35T1 (v : PyV) : Fr := Fr.mk [.r 0 0, .i 1, .i 1, .i v.q, .z, .z, .z, .z, .i 0, .i 2097153, .i 0, .i 60, .t [.i 2097153, .i 0], .i 1, .t [.i 2097153, .i 0], .i 2097153, .i 0, .i 0, .u (.b false), .z, .t [.i 60, .i 0], .r 0 0, .i 1, .t [.i 60, .i 0], .i 60, .i 0] 19 45
def y35T2 (v : PyV) : Fr := puF (y35T1 v) [(26, .u (.b false)), (27, .i 0), (28, .u (.b false))]
def y35T3 (v : PyV) : Fr := puF (y35T2 v) [(31, .i v.q)]
def y35T4 (v : PyV) : Fr := puF (y35T3 v) [(30, .u (.b false)), (32, .u (.b false))]
def y35T5 (v : PyV) : Fr := puF (y35T4 v) [(34, .i 60), (35, .i v.q)]
def y35T6 (v : PyV) : Fr := puF (y35T5 v) [(33, .u (.b false)), (36, .u (.b false))]
def y35T8 (v : PyV) : Fr := puF (y35T6 v) [(37, .r 0 0), (38, .i 2097153), (39, .i 9)]
def y35T9 (v : PyV) : Fr := puF (y35T6 v) [(37, .r 0 0), (38, .i 2097153), (39, .i 9), (40, .r 0 0), (41, .i 1), (42, .i 2097153), (43, .i v.q)]
def y36M0 (v : PyV) : Mem := [.c [.w 1, .i 562],
  (czy14 v)]
def y36T1 (v : PyV) : Fr := puF (y25T1 v) [(1, .i 1), (3, .i v.q), (11, .i v.p), (14, .i 1), (22, .t [.i v.p, .i 0]), (25, .t [.i v.p, .i 0]), (26, .i v.p)]
def y36M2 (v : PyV) : Mem := paM (y36M0 v) [] [.w 3 1 [[.n 1], [.n 2097153]]]
def y36T3 (v : PyV) : Fr := puF (y36T1 v) [(32, .r 0 0), (33, .i 1), (34, .i v.q)]
def y37M0 (v : PyV) : Mem := [.c [.w 1, .i 562],
  (czy14 v)]
def y37T1 (v : PyV) : Fr := Fr.mk [.r 0 0, .i 1, .i v.q, .z, .z, .z, .i 0, .i 60, .i 0, .t [.i 60, .i 0], .r 0 0, .i 1, .t [.i 60, .i 0], .i 60, .i 0] 11 26
def y37T2 (v : PyV) : Fr := puF (y37T1 v) [(15, .u (.b false)), (16, .i 0), (17, .u (.b false))]
def y37T3 (v : PyV) : Fr := puF (y37T2 v) [(20, .i v.q)]
def y37T4 (v : PyV) : Fr := puF (y37T3 v) [(19, .u (.b false)), (21, .u (.b false))]
def y37T5 (v : PyV) : Fr := puF (y37T4 v) [(23, .i v.q), (24, .i 60)]
def y37T6 (v : PyV) : Fr := puF (y37T5 v) [(22, .u (.b false)), (25, .u (.b false))]
abbrev y37Mm (v : PyV) : Mem := (y37M0 v)
theorem y37_run (v : PyV) (H : PyB v) : PRun Tryz.prog 92 (y37M0 v) [.r 0 0, .i 1, .i v.q] fun x m => x = .i 0 ∧ m = (y37Mm v) := Ev.runA eK2 Tryz.func92 (c := (bodyOf Tryz.f92)) (r := (.ret, (y37T6 v), (y37M0 v))) (Ev.piecesA (k := 2) (t1 := y37T1 v) (m1 := y37M0 v) (Ev.seqPA (t1 := y37T6 v) (m1 := y37M0 v) (Ev.blockP (e := .nrm) (by kernel_rfl) (by kernel_rfl) (Ev.piecesA (k := 1) (t1 := y37T2 v) (m1 := y37M0 v) (Ev.condF (by kernel_rfl) (by kernel_rfl) (Ev.seqPA (t1 := y37T4 v) (m1 := y37M0 v) (Ev.regA (EvO.opA (t2 := y37T3 v) (m1 := y37M0 v) (v := .u (.b false)) (k := 1) (t1 := (y37T3 v)) (symE (b := ltF v.q 0) (by kernel_rfl) (sLtF (by have := H.b; omega))) EvO.opsA)) (Ev.condF (by kernel_rfl) (by kernel_rfl) (Ev.seqPA (t1 := y37T6 v) (m1 := y37M0 v) (Ev.regA (EvO.opA (t2 := y37T5 v) (m1 := y37M0 v) (v := .u (.b false)) (k := 2) (t1 := (y37T5 v)) (symE (b := ltF 60 v.q) (by kernel_rfl) (sLtF (by have := H.b; omega))) EvO.opsA)) Ev.codeA)))))) Ev.codeA))
def y36T4 (v : PyV) : Fr := puF (y36T3 v) [(13, .i 0), (35, .i 0)]
def y36T5 (v : PyV) : Fr := puF (y36T4 v) [(36, .i 0), (37, .u (.b true))]
def y36T6 (v : PyV) : Fr := puF (y36T5 v) [(38, .r 0 0), (39, .i 1), (40, .i v.q)]
def y36T7 (v : PyV) : Fr := puF (y36T5 v) [(38, .r 0 0), (39, .i 1), (40, .i v.q), (41, .i (0 - v.q))]
noncomputable abbrev y38evD := EvD Tryz.prog eK2 (List.range 600) 300 60
def y38M0 (v : PyV) : Mem := [.c [.w 1, .i 562],
  (czy14 v)]
noncomputable abbrev y38C1 : Code := bodyOf Tryz.f93
def y38T1 (v : PyV) : Fr := Fr.mk [.r 0 0, .i 1, .i (0 - v.q), .z, .z, .z, .i 60, .u (.b true), .t [.i 60, .u (.b true)], .r 0 0, .r 0 0, .r 0 0, .i 1, .a [.i 1, .i 0, .i 0, .i 0], .t [.i 60, .u (.b true)], .i 60, .u (.b true)] 17 34
noncomputable abbrev y38C3 : Code := cL (dropK 1 y38C1)
def y38T2 (v : PyV) : Fr := puF (y38T1 v) [(17, .r 0 0), (18, .r 0 0), (19, .r 0 0), (20, .i 1), (22, .i 60), (23, .i (0 - v.q))]
def y38T3 (v : PyV) : Fr := puF (y38T2 v) [(21, .a [.i 1, .i 0, .i 0, .i 0]), (24, .i (60 - v.q)), (25, .u (.b false))]
def y38M4 (v : PyV) : Mem := [.c [.w 3, .i 562],
  (czy14 v),
  .c [.i 1, .i 0, .i 0, .i 0],
  (czy13 v)]
theorem y38n1 (v : PyV) (H : PyB v) : y38evD (cOp y38C3) (0, [8, 4, 7, 6, 5, 3, 2, 1, 0], [], (y38T3 v), (y38M4 v)) [((y38T3 v), (y38M4 v))] := EvD.codeA
theorem y38n2 (v : PyV) (H : PyB v) : y38evD (cOp y38C3) (2, [7, 6, 5, 3, 2, 1, 0], cond (pureOp (opAt (cOp y38C3) 7)) [] ((7, srcF (y38T2 v) (opAt (cOp y38C3) 7)) :: []), (cPut (opAt (cOp y38C3) 7).dst).p (y38T2 v) (.i (60 - v.q)), (y38M0 v)) [((y38T3 v), (y38M4 v))] := EvD.stepsA (j := 2) (y38n1 v H)
theorem y38n3 (v : PyV) (H : PyB v) : y38evD (cOp y38C3) (3, [6, 5, 3, 2, 1, 0], [], (y38T2 v), (y38M0 v)) [((y38T3 v), (y38M4 v))] := EvD.op (t2 := (y38T2 v)) (v := .i (60 - v.q)) 7 (by kernel_rfl) (by kernel_rfl) (by kernel_rfl) (symI1 (a := wrapF .i64 (addF 60 (0 - v.q))) (z := (60 - v.q)) (by kernel_rfl) (sAdd (by have := H.b; omega))) (y38n2 v H)
def y38M6 (v : PyV) : Mem := [.c [.w 2, .i 562],
  (czy14 v),
  (czy13 v)]
def y38T7 (v : PyV) : Fr := puF (y38T3 v) [(26, .r 0 0), (27, .r 0 0), (28, .r 0 1), (29, .i 562), (30, .i (0 - v.q))]
def y38T8 (v : PyV) : Fr := puF (y38T7 v) [(31, .i (562 - v.q)), (32, .r 0 0), (33, .r 0 1)]
def y38M9 (v : PyV) : Mem := paM (y38M6 v) [(0, .c [.w 2, .i (562 - v.q)])] []
abbrev y38Mm (v : PyV) : Mem := (y38M9 v)
theorem y38_run (v : PyV) (H : PyB v) : PRun Tryz.prog 93 (y38M0 v) [.r 0 0, .i 1, .i (0 - v.q)] fun x m => x = .t [] ∧ m = (y38Mm v) := Ev.runA eK2 Tryz.func93 (c := y38C1) (r := (.nrm, (y38T8 v), (y38M9 v))) (Ev.piecesA (k := 1) (t1 := y38T1 v) (m1 := y38M0 v) (Ev.seqPA (t1 := y38T3 v) (m1 := y38M6 v) (Ev.regD2 (outs := [((y38T3 v), (y38M4 v))]) (by kernel_rfl) (by kernel_rfl) (by kernel_rfl) (EvD.stepsA (j := 6) (y38n3 v H)) ⟨by kernel_rfl, trivial⟩) (Ev.regA (EvO.opA (t2 := y38T7 v) (m1 := y38M6 v) (v := .i (562 - v.q)) (k := 5) (t1 := (y38T7 v)) (symI (a := wrapF .i64 (addF 562 (0 - v.q))) (z := (562 - v.q)) (by kernel_rfl) (sAdd (by have := H.b; omega))) EvO.opsA))))
def y36T8 (v : PyV) : Fr := puF (y36T5 v) [(38, .r 0 0), (39, .i 1), (40, .i v.q), (41, .i (0 - v.q)), (42, .t [])]
def y36M9 (v : PyV) : Mem := [.c [.w 3, .i (562 - v.q)],
  (czy14 v),
  .w 3 1 [[.n 1], [.n 2097153]],
  (czy13 v)]
def y36T10 (v : PyV) : Fr := puF (y36T5 v) [(38, .r 0 0), (39, .i 1), (40, .i v.q), (41, .i (0 - v.q)), (42, .t []), (43, .r 0 0), (44, .i 2097153), (45, .i v.q)]
noncomputable abbrev y39evD := EvD Tryz.prog eK2 (List.range 600) 300 60
def y39M0 (v : PyV) : Mem := [.c [.w 1, .i (562 - v.q)],
  (czy13 v)]
noncomputable abbrev y39C1 : Code := bodyOf Tryz.f93
def y39T1 (v : PyV) : Fr := Fr.mk [.r 0 0, .i 2097153, .i v.q, .z, .z, .z, .i v.p, .u (.b true), .t [.i v.p, .u (.b true)], .r 0 0, .r 0 0, .r 0 0, .i 2097153, .a [.i 2097153, .i 0, .i 0, .i 0], .t [.i v.p, .u (.b true)], .i v.p, .u (.b true)] 17 34
noncomputable abbrev y39C3 : Code := cL (dropK 1 y39C1)
def y39T2 (v : PyV) : Fr := puF (y39T1 v) [(17, .r 0 0), (18, .r 0 0), (19, .r 0 0), (20, .i 2097153), (22, .i v.p), (23, .i v.q)]
def y39T3 (v : PyV) : Fr := puF (y39T2 v) [(21, .a [.i 2097153, .i 0, .i 0, .i 0]), (24, .i (v.p + v.q)), (25, .u (.b false))]
def y39M4 (v : PyV) : Mem := [.c [.w 3, .i (562 - v.q)],
  (czy13 v),
  .c [.i 2097153, .i 0, .i 0, .i 0],
  (czy11 v)]
theorem y39n1 (v : PyV) (H : PyB v) : y39evD (cOp y39C3) (0, [8, 4, 7, 6, 5, 3, 2, 1, 0], [], (y39T3 v), (y39M4 v)) [((y39T3 v), (y39M4 v))] := EvD.codeA
theorem y39n2 (v : PyV) (H : PyB v) : y39evD (cOp y39C3) (2, [7, 6, 5, 3, 2, 1, 0], cond (pureOp (opAt (cOp y39C3) 7)) [] ((7, srcF (y39T2 v) (opAt (cOp y39C3) 7)) :: []), (cPut (opAt (cOp y39C3) 7).dst).p (y39T2 v) (.i (v.p + v.q)), (y39M0 v)) [((y39T3 v), (y39M4 v))] := EvD.stepsA (j := 2) (y39n1 v H)
theorem y39n3 (v : PyV) (H : PyB v) : y39evD (cOp y39C3) (3, [6, 5, 3, 2, 1, 0], [], (y39T2 v), (y39M0 v)) [((y39T3 v), (y39M4 v))] := EvD.op (t2 := (y39T2 v)) (v := .i (v.p + v.q)) 7 (by kernel_rfl) (by kernel_rfl) (by kernel_rfl) (symI1 (a := wrapF .i64 (addF v.p v.q)) (z := (v.p + v.q)) (by kernel_rfl) (sAdd (by have := H.b; omega))) (y39n2 v H)
def y39M6 (v : PyV) : Mem := [.c [.w 2, .i (562 - v.q)],
  (czy13 v),
  (czy11 v)]
def y39T7 (v : PyV) : Fr := puF (y39T3 v) [(26, .r 0 0), (27, .r 0 0), (28, .r 0 1), (29, .i (562 - v.q)), (30, .i v.q)]
def y39T8 (v : PyV) : Fr := puF (y39T7 v) [(31, .i 562), (32, .r 0 0), (33, .r 0 1)]
def y39M9 (v : PyV) : Mem := paM (y39M6 v) [(0, .c [.w 2, .i 562])] []
abbrev y39Mm (v : PyV) : Mem := (y39M9 v)
theorem y39_run (v : PyV) (H : PyB v) : PRun Tryz.prog 93 (y39M0 v) [.r 0 0, .i 2097153, .i v.q] fun x m => x = .t [] ∧ m = (y39Mm v) := Ev.runA eK2 Tryz.func93 (c := y39C1) (r := (.nrm, (y39T8 v), (y39M9 v))) (Ev.piecesA (k := 1) (t1 := y39T1 v) (m1 := y39M0 v) (Ev.seqPA (t1 := y39T3 v) (m1 := y39M6 v) (Ev.regD2 (outs := [((y39T3 v), (y39M4 v))]) (by kernel_rfl) (by kernel_rfl) (by kernel_rfl) (EvD.stepsA (j := 6) (y39n3 v H)) ⟨by kernel_rfl, trivial⟩) (Ev.regA (EvO.opA (t2 := y39T7 v) (m1 := y39M6 v) (v := .i 562) (k := 5) (t1 := (y39T7 v)) (symI (a := wrapF .i64 (addF (562 - v.q) v.q)) (z := 562) (by kernel_rfl) (sAdd (by have := H.b; omega))) EvO.opsA))))
def y36T11 (v : PyV) : Fr := puF (y36T5 v) [(38, .r 0 0), (39, .i 1), (40, .i v.q), (41, .i (0 - v.q)), (42, .t []), (43, .r 0 0), (44, .i 2097153), (45, .i v.q), (46, .t [])]
def y36M12 (v : PyV) : Mem := paM (y36M9 v) [(0, .c [.w 4, .i 562])] [(czy11 v)]
def y36T13 (v : PyV) : Fr := puF (y36T5 v) [(38, .r 0 0), (39, .i 1), (40, .i v.q), (41, .i (0 - v.q)), (42, .t []), (43, .r 0 0), (44, .i 2097153), (45, .i v.q), (46, .t []), (47, .i 0)]
def y36M14 (v : PyV) : Mem := [.c [.w 2, .i 562],
  (czy14 v),
  (czy11 v)]
abbrev y36Mm (v : PyV) : Mem := (y36M14 v)
theorem y36_run (v : PyV) (H : PyB v) : PRun Tryz.prog 40 (y36M0 v) [.r 0 0, .i 1, .i 2097153, .i v.q] fun x m => x = .i 0 ∧ m = (y36Mm v) := Ev.runA eK2 Tryz.func40 (c := (bodyOf Tryz.f40)) (r := (.ret, (y36T13 v), (y36M12 v))) (Ev.piecesA (k := 2) (t1 := y36T1 v) (m1 := y36M2 v) (Ev.seqPA (t1 := y36T4 v) (m1 := y36M2 v) (Ev.regA (EvO.callA (t2 := y36T3 v) (m1 := y36M2 v) (ix := [0, 1]) (k := 3) (t1 := (y36T3 v)) (args := [.r 0 0, .i 1, .i v.q]) (a := []) (cc := []) (y37_run v H) EvO.opsA)) (Ev.seqPA (t1 := y36T11 v) (m1 := y36M12 v) (Ev.piecesA (k := 1) (t1 := y36T5 v) (m1 := y36M2 v) (Ev.condT (by kernel_rfl) (by kernel_rfl) (Ev.seqPA (t1 := y36T8 v) (m1 := y36M9 v) (Ev.regA (EvO.opA (t2 := y36T6 v) (m1 := y36M2 v) (v := .i (0 - v.q)) (k := 3) (t1 := (y36T6 v)) (symI (a := IntKind.wrap .i64 (0 - v.q)) (z := (0 - v.q)) (by kernel_rfl) (sNeg (by have := H.b; omega))) (EvO.callA (t2 := y36T7 v) (m1 := y36M2 v) (ix := [0, 1]) (k := 0) (t1 := (y36T7 v)) (args := [.r 0 0, .i 1, .i (0 - v.q)]) (a := []) (cc := []) (y38_run v H) EvO.opsA))) (Ev.regA (EvO.callA (t2 := y36T10 v) (m1 := y36M9 v) (ix := [0, 3]) (k := 3) (t1 := (y36T10 v)) (args := [.r 0 0, .i 2097153, .i v.q]) (a := []) (cc := []) (y39_run v H) EvO.opsA))))) Ev.codeA)))
def y35T10 (v : PyV) : Fr := puF (y35T6 v) [(37, .r 0 0), (38, .i 2097153), (39, .i 9), (40, .r 0 0), (41, .i 1), (42, .i 2097153), (43, .i v.q), (44, .i 0)]
def y35M11 (v : PyV) : Mem := [.c [.w 2, .i 562],
  (czy14 v),
  (czy11 v)]
def y35T12 (v : PyV) : Fr := puF (y35T6 v) [(37, .r 0 0), (38, .i 2097153), (39, .i 9), (40, .r 0 0), (41, .i 1), (42, .i 2097153), (43, .i v.q), (44, .i 0)]
abbrev y35Mm (v : PyV) : Mem := (y35M11 v)
theorem y35_run (v : PyV) (H : PyB v) : PRun Tryz.prog 41 (y35M0 v) [.r 0 0, .i 1, .i 1, .i v.q] fun x m => x = .i 0 ∧ m = (y35Mm v) := Ev.runA eK2 Tryz.func41 (c := (bodyOf Tryz.f41)) (r := (.ret, (y35T12 v), (y35M11 v))) (Ev.piecesA (k := 4) (t1 := y35T1 v) (m1 := y35M0 v) (Ev.seqPA (t1 := y35T6 v) (m1 := y35M0 v) (Ev.blockP (e := .nrm) (by kernel_rfl) (by kernel_rfl) (Ev.piecesA (k := 1) (t1 := y35T2 v) (m1 := y35M0 v) (Ev.condF (by kernel_rfl) (by kernel_rfl) (Ev.seqPA (t1 := y35T4 v) (m1 := y35M0 v) (Ev.regA (EvO.opA (t2 := y35T3 v) (m1 := y35M0 v) (v := .u (.b false)) (k := 1) (t1 := (y35T3 v)) (symE (b := ltF v.q 0) (by kernel_rfl) (sLtF (by have := H.b; omega))) EvO.opsA)) (Ev.condF (by kernel_rfl) (by kernel_rfl) (Ev.seqPA (t1 := y35T6 v) (m1 := y35M0 v) (Ev.regA (EvO.opA (t2 := y35T5 v) (m1 := y35M0 v) (v := .u (.b false)) (k := 2) (t1 := (y35T5 v)) (symE (b := ltF 60 v.q) (by kernel_rfl) (sLtF (by have := H.b; omega))) EvO.opsA)) Ev.codeA)))))) (Ev.piecesA (k := 1) (t1 := y35T8 v) (m1 := y35M0 v) (Ev.seqPA (t1 := y35T10 v) (m1 := y35M11 v) (Ev.regA (EvO.callA (t2 := y35T9 v) (m1 := y35M0 v) (ix := [0, 1]) (k := 4) (t1 := (y35T9 v)) (args := [.r 0 0, .i 1, .i 2097153, .i v.q]) (a := []) (cc := []) (y36_run v H) EvO.opsA)) Ev.codeA))))
def y29T36 (v : PyV) : Fr := puF (y29T35 v) [(89, .i 0)]
def y29M37 (v : PyV) : Mem := paM (y29M29 v) [(3, .c [.w 17, .i 562])] [(czy11 v)]
def y29T38 (v : PyV) : Fr := puF (y29T36 v) [(90, .r 13 1), (91, .i 1), (92, .u (.b true)), (93, .r 0 0), (94, .r 0 0), (95, .r 0 12), (96, .w 7), (97, .i 1), (98, .i 0), (99, (czy111 v)), (100, .e 7 19 0 0), (101, .r 0 0), (102, .i 1), (103, .f 49 [] [.r 12 0, .r 14 0]), (104, .t [])]
def y29M39 (v : PyV) : Mem := paM (y29M37 v) [(5, .c [.w 18, .m 11, .i 256, .i 3]), (7, (czy18 v)), (10, .x), (11, .p .n 1 false [(.n 2, [.n 0])])] [.w 136 3 [[.n 20, .n 2, .n 3]]]
theorem y29n28 (v : PyV) (H : PyB v) : y29ev (cR (dropK 1 y29C1)) (y29T4 v) (y29M5 v) [(.ret, (y29T38 v), (y29M39 v))] := Ev.piecesA (k := 1) (t1 := y29T6 v) (m1 := y29M5 v) (Ev.seqPA (t1 := y29T8 v) (m1 := y29M9 v) (Ev.regA (EvO.callA (t2 := y29T7 v) (m1 := y29M5 v) (ix := []) (k := 4) (t1 := (y29T7 v)) (args := [(czy110 v), .i 0, .i 1, .i 0]) (a := []) (cc := []) (y31_run v H) EvO.opsA)) (Ev.piecesA (k := 3) (t1 := y29T10 v) (m1 := y29M9 v) (Ev.seqPA (t1 := y29T28 v) (m1 := y29M29 v) (Ev.regD2 (outs := [((y29T11 v), (y29M12 v)), ((y29T13 v), (y29M14 v)), ((y29T15 v), (y29M16 v)), ((y29T17 v), (y29M16 v)), ((y29T18 v), (y29M14 v)), ((y29T19 v), (y29M12 v)), ((y29T20 v), (y29M16 v)), ((y29T21 v), (y29M16 v)), ((y29T22 v), (y29M12 v)), ((y29T23 v), (y29M24 v)), ((y29T25 v), (y29M26 v)), ((y29T27 v), (y29M26 v))]) (by kernel_rfl) (by kernel_rfl) (by kernel_rfl) EvD.codeA ⟨by kernel_rfl, by kernel_rfl, by kernel_rfl, by kernel_rfl, by kernel_rfl, by kernel_rfl, by kernel_rfl, by kernel_rfl, by kernel_rfl, by kernel_rfl, by kernel_rfl, by kernel_rfl, trivial⟩) (Ev.piecesA (k := 1) (t1 := y29T30 v) (m1 := y29M29 v) (Ev.seqPA (t1 := y29T34 v) (m1 := y29M29 v) (Ev.blockP (e := .nrm) (by kernel_rfl) (by kernel_rfl) (Ev.piecesA (k := 1) (t1 := y29T31 v) (m1 := y29M29 v) (Ev.condF (by kernel_rfl) (by kernel_rfl) (Ev.seqPA (t1 := y29T33 v) (m1 := y29M29 v) (Ev.regA (EvO.opA (t2 := y29T32 v) (m1 := y29M29 v) (v := .u (.b false)) (k := 2) (t1 := (y29T32 v)) (symE (b := ltF 60 v.q) (by kernel_rfl) (sLtF (by have := H.b; omega))) EvO.opsA)) Ev.codeA)))) (Ev.seqPA (t1 := y29T36 v) (m1 := y29M37 v) (Ev.regA (EvO.callA (t2 := y29T35 v) (m1 := y29M29 v) (ix := [3, 8]) (k := 7) (t1 := (y29T35 v)) (args := [.r 3 0, .i 1, .i 1, .i v.q]) (a := []) (cc := []) (y35_run v H) EvO.opsA)) (Ev.seqE (by intro h; cases h) (by kernel_rfl) Ev.codeA)))))))
def y29M40 (v : PyV) : Mem := paM (y29M0 v) [(3, .c [.w 12, .i 562]), (5, .c [.w 13, .m 11, .i 256, .i 3]), (7, (czy18 v)), (10, .x), (11, .p .n 1 false [(.n 2, [.n 0])])] [(czy11 v),
  .w 136 3 [[.n 20, .n 2, .n 3]]]
abbrev y29Mm (v : PyV) : Mem := (y29M40 v)
theorem y29_run (v : PyV) (H : PyB v) : PRun Tryz.prog 11 (y29M0 v) [.r 0 0, .i 0, .i 1, .i 1, .i 0] fun x m => x = .i 0 ∧ m = (y29Mm v) := Ev.runA eK2 Tryz.func11 (c := y29C1) (r := (.ret, (y29T38 v), (y29M39 v))) (Ev.piecesA (k := 1) (t1 := y29T1 v) (m1 := y29M2 v) (Ev.seqPA (t1 := y29T4 v) (m1 := y29M5 v) (Ev.regA (EvO.callA (t2 := y29T3 v) (m1 := y29M2 v) (ix := [0, 1, 2, 3, 4, 5, 6, 7, 8, 9, 10, 11]) (k := 2) (t1 := (y29T3 v)) (args := [.r 0 0, .i 1]) (a := []) (cc := []) (y30_run v H) EvO.opsA)) (y29n28 v H)))
def pyA0T19 (v : PyV) : Fr := puF (pyA0T18 v) [(70, .i 0), (71, .u (.b false)), (72, .u (.b false))]
def pyA0M20 (v : PyV) : Mem := paM (pyA0M16 v) [(3, .c [.w 17, .i 562]), (7, .c [.w 18, .m 8, .i 256, .i 3]), (8, .p .n 1 false [(.n 2, [.n 0])]), (13, (czy18 v)), (16, .x)] [(czy11 v),
  .w 136 3 [[.n 20, .n 2, .n 3]]]
theorem pyA0n18 (v : PyV) (H : PyH v 0 false) : pyA0ev (cL pyA0C12) (pyA0T17 v) (pyA0M16 v) [(.nrm, (pyA0T19 v), (pyA0M20 v))] := Ev.seqPA (t1 := pyA0T19 v) (m1 := pyA0M20 v) (Ev.regA (EvO.callA (t2 := pyA0T18 v) (m1 := pyA0M16 v) (ix := [0, 1, 2, 3, 5, 7, 9, 13, 14, 15, 16, 8]) (k := 14) (t1 := (pyA0T18 v)) (args := [.r 0 0, .i 0, .i 1, .i 1, .i 0]) (a := []) (cc := []) (y29_run v H.toB) EvO.opsA)) Ev.codeA
noncomputable abbrev pyA0C16 : Code := cR pyA0C12
def pyA0T22 (v : PyV) : Fr := puF (pyA0T19 v) [(74, .r 10 0), (75, .r 0 0), (76, .i 1)]
noncomputable abbrev y40evD := EvD Tryz.prog eK3 (List.range 600) 300 60
def y40M0 (v : PyV) : Mem := [.c [.i 4, .w 1, .i 2, .w 2, .i 3, .i 200, .i 1, .i 500, .r 3 0, .r 4 0, .r 5 0, .r 6 0, .w 7],
  czy116,
  czy124,
  .c [.w 8, .i 562],
  .c [.w 9, czy123],
  .c [.w 10, .m 11, .i 256, .i 3],
  .c [.nl 4, .nm],
  (czy18 v),
  (czy11 v),
  czy10,
  .w 136 3 [[.n 20, .n 2, .n 3]],
  .p .n 1 false [(.n 2, [.n 0])]]
noncomputable abbrev y40C1 : Code := bodyOf Tryz.f12
def y40T1 (v : PyV) : Fr := puF (y30T1 v) [(32, .a [.i 1, .i 1, .i 2, .i 0, .i 2, .i 0, .i 1, .i 2, .i v.p, .i v.q, .i 10, .i 20, .i v.f, .u (.l 2 [[.n 1, .n 5]]), .u (.l 2 []), .i 2, .i 20, .i 1, .i 0])]
def y40M2 (v : PyV) : Mem := paM (y40M0 v) [] [.c [.i 0, .i 0, .i 0, .i 0, .i 0, .i 0, .i 0, .i 0, .i 0, .i 0, .i 0, .i 0, .i 0, .nl 2, .nl 2, .i 0, .i 0, .i 0, .i 0],
  .c [.i 1, .i 1, .i 2, .i 0, .i 2, .i 0, .i 1, .i 2, .i v.p, .i v.q, .i 10, .i 20, .i v.f, .u (.l 2 [[.n 1, .n 5]]), .u (.l 2 []), .i 2, .i 20, .i 1, .i 0]]
noncomputable abbrev y40C3 : Code := cL (dropK 3 y40C1)
def y40T3 (v : PyV) : Fr := puF (y40T1 v) [(33, .r 13 13), (34, .u (.l 2 [[.n 1, .n 5]])), (36, .r 13 14), (37, .u (.l 2 []))]
def y40T4 (v : PyV) : Fr := puF (y40T3 v) [(35, .u (.l 2 [[.n 1, .n 5]])), (39, .r 13 13)]
def y40T5 (v : PyV) : Fr := puF (y40T4 v) [(38, .c 2 []), (40, .r 13 14)]
def y40M6 (v : PyV) : Mem := paM (y40M2 v) [(13, .c [.i 1, .i 1, .i 2, .i 0, .i 2, .i 0, .i 1, .i 2, .i v.p, .i v.q, .i 10, .i 20, .i v.f, .u (.l 2 [[.n 1, .n 5]]), .c 2 [], .i 2, .i 20, .i 1, .i 0])] []
theorem y40n1 (v : PyV) (H : PyB v) : y40evD (cOp y40C3) (0, [9, 8, 7, 5, 6, 2, 4, 3, 1, 0], [(4, [13]), (1, [13])], (y40T5 v), (y40M6 v)) [((y40T5 v), (y40M6 v))] := EvD.codeA
theorem y40n2 (v : PyV) (H : PyB v) : y40evD (cOp y40C3) (3, [5, 6, 2, 4, 3, 1, 0], [(4, [13]), (1, [13])], (cPut (opAt (cOp y40C3) 5).dst).p (y40T4 v) (renV (fK [] ((y40M2 v)).length) (.c 2 [])), backM (y40M2 v) [] ([])) [((y40T5 v), (y40M6 v))] := EvD.stepsA (j := 3) (y40n1 v H)
theorem y40n3 (v : PyV) (H : PyB v) : y40evD (cOp y40C3) (4, [6, 2, 4, 3, 1, 0], [(4, [13]), (1, [13])], (y40T4 v), (y40M2 v)) [((y40T5 v), (y40M6 v))] := EvD.oneA 5 (EvE.callA (args := [.u (.l 2 [])]) (a := []) (cc := []) 5 clone0 (y40n2 v H))
theorem y40n4 (v : PyV) (H : PyB v) : y40evD (cOp y40C3) (5, [2, 4, 3, 1, 0], [(4, [13]), (1, [13])], (cPut (opAt (cOp y40C3) 2).dst).p (y40T3 v) (renV (fK [] ((y40M2 v)).length) (.u (.l 2 [[.n 1, .n 5]]))), backM (y40M2 v) [] ([])) [((y40T5 v), (y40M6 v))] := EvD.stepsA (j := 1) (y40n3 v H)
theorem y40n5 (v : PyV) (H : PyB v) : y40evD (cOp y40C3) (6, [4, 3, 1, 0], [(4, [13]), (1, [13])], (y40T3 v), (y40M2 v)) [((y40T5 v), (y40M6 v))] := EvD.oneA 2 (EvE.callA (args := [.u (.l 2 [[.n 1, .n 5]])]) (a := []) (cc := []) 2 clone1 (y40n4 v H))
def y40T8 (v : PyV) : Fr := puF (y40T5 v) [(41, (czy111 v))]
def y40M9 (v : PyV) : Mem := paM (y40M6 v) [(12, .c [.i 1, .i 1, .i 2, .i 0, .i 2, .i 0, .i 1, .i 2, .i v.p, .i v.q, .i 10, .i 20, .i v.f, .u (.l 2 [[.n 1, .n 5]]), .c 2 [], .i 2, .i 20, .i 1, .i 0])] []
abbrev y40Mm (v : PyV) : Mem := (y40M0 v)
theorem y40_run (v : PyV) (H : PyB v) : PRun Tryz.prog 12 (y40M0 v) [.r 0 0, .i 1] fun x m => x = .t [(czy111 v), .i 0] ∧ m = (y40Mm v) := Ev.runA eK3 Tryz.func12 (c := y40C1) (r := (.ret, (y40T8 v), (y40M9 v))) (Ev.piecesA (k := 3) (t1 := y40T1 v) (m1 := y40M2 v) (Ev.seqPA (t1 := y40T5 v) (m1 := y40M6 v) (Ev.regD2 (outs := [((y40T5 v), (y40M6 v))]) (by kernel_rfl) (by kernel_rfl) (by kernel_rfl) (EvD.stepsA (j := 4) (y40n5 v H)) ⟨by kernel_rfl, trivial⟩) Ev.codeA))
def pyA0T23 (v : PyV) : Fr := puF (pyA0T22 v) [(16, .r 19 0), (17, .i 0), (73, .t [(czy111 v), .i 0]), (77, .t [(czy111 v), .i 0]), (78, (czy111 v)), (79, .i 0)]
def pyA0M24 (v : PyV) : Mem := paM (pyA0M20 v) [] [.c [.i 1, .i 1, .i 2, .i 0, .i 2, .i 0, .i 1, .i 2, .i v.p, .i v.q, .i 10, .i 20, .i v.f, .u (.l 2 [[.n 1, .n 5]]), .c 2 [], .i 2, .i 20, .i 1, .i 0]]
theorem pyA0n21 (v : PyV) (H : PyH v 0 false) : pyA0ev (cL pyA0C16) (pyA0T19 v) (pyA0M20 v) [(.nrm, (pyA0T23 v), (pyA0M24 v))] := Ev.regA (EvO.callA (t2 := pyA0T22 v) (m1 := pyA0M20 v) (ix := [0, 1, 2, 3, 5, 7, 9, 13, 17, 15, 18, 8]) (k := 3) (t1 := (pyA0T22 v)) (args := [.r 0 0, .i 1]) (a := []) (cc := []) (y40_run v H.toB) EvO.opsA)
noncomputable abbrev pyA0C18 : Code := cR pyA0C16
def pyA0T25 (v : PyV) : Fr := puF (pyA0T23 v) [(80, .i (500 - v.p - v.f)), (81, .r 12 8), (82, .i v.p)]
def pyA0T26 (v : PyV) : Fr := puF (pyA0T25 v) [(83, .i (500 - v.p)), (84, .r 19 12), (85, .i v.f)]
def pyA0T27 (v : PyV) : Fr := puF (pyA0T25 v) [(83, .i (500 - v.p)), (84, .r 19 12), (85, .i v.f), (86, .i (500 - v.p - v.f))]
def pyA0T28 (v : PyV) : Fr := puF (pyA0T25 v) [(83, .i (500 - v.p)), (84, .r 19 12), (85, .i v.f), (86, .i (500 - v.p - v.f)), (87, .u (.b false)), (88, .u (.b false)), (89, .i 60), (90, .u (.b false)), (91, .u (.b false))]
def pyA0T29 (v : PyV) : Fr := puF (pyA0T25 v) [(83, .i (500 - v.p)), (84, .r 19 12), (85, .i v.f), (86, .i (500 - v.p - v.f)), (87, .u (.b false)), (88, .u (.b false)), (89, .i 60), (90, .u (.b false)), (91, .u (.b false))]
theorem pyA0n28 (v : PyV) (H : PyH v 0 false) : pyA0ev (cL pyA0C18) (pyA0T23 v) (pyA0M24 v) [(.nrm, (pyA0T29 v), (pyA0M24 v))] := Ev.seqPA (t1 := pyA0T28 v) (m1 := pyA0M24 v) (Ev.regA (EvO.opA (t2 := pyA0T25 v) (m1 := pyA0M24 v) (v := .i (500 - v.p)) (k := 3) (t1 := (pyA0T25 v)) (symI (a := wrapF .i64 (subF 500 v.p)) (z := (500 - v.p)) (by kernel_rfl) (sSub (by have := H.toB.b; omega))) (EvO.opA (t2 := pyA0T26 v) (m1 := pyA0M24 v) (v := .i (500 - v.p - v.f)) (k := 2) (t1 := (pyA0T26 v)) (symI (a := wrapF .i64 (subF (500 - v.p) v.f)) (z := (500 - v.p - v.f)) (by kernel_rfl) (sSub (by have := H.toB.b; omega))) (EvO.opA (t2 := pyA0T27 v) (m1 := pyA0M24 v) (v := .u (.b false)) (k := 0) (t1 := (pyA0T27 v)) (symN (b := eqF (500 - v.p - v.f) (500 - v.p - v.f)) (by kernel_rfl) (sEqT (by have := H.toB.b; omega)) rfl) EvO.opsA)))) Ev.codeA
noncomputable abbrev pyA0C23 : Code := cL (cR pyA0C18)
def pyA0T30 (v : PyV) : Fr := puF (pyA0T25 v) [(83, .i (500 - v.p)), (84, .r 19 12), (85, .i v.f), (86, .i (500 - v.p - v.f)), (87, .u (.b false)), (88, .u (.b false)), (89, .i 60), (90, .u (.b false)), (91, .u (.b false)), (92, .i v.e)]
def pyA0T31 (v : PyV) : Fr := puF (pyA0T25 v) [(83, .i (500 - v.p)), (84, .r 19 12), (85, .i v.f), (86, .i (500 - v.p - v.f)), (87, .u (.b false)), (88, .u (.b false)), (89, .i 60), (90, .u (.b false)), (91, .u (.b false)), (92, .i v.e), (93, .i 0)]
theorem pyA0n31 (v : PyV) (H : PyH v 0 false) : pyA0ev (cL pyA0C23) (pyA0T29 v) (pyA0M24 v) [(.nrm, (pyA0T31 v), (pyA0M24 v))] := Ev.regA (EvO.opA (t2 := pyA0T30 v) (m1 := pyA0M24 v) (v := .i 0) (k := 1) (t1 := (pyA0T30 v)) (symI (a := IntKind.wrap .i64 ((BitVec.ofInt 64 v.e &&& BitVec.ofInt 64 3).toNat : Int)) (z := 0) (by kernel_rfl) H.he) EvO.opsA)
def pyA0T33 (v : PyV) : Fr := puF (pyA0T25 v) [(83, .i (500 - v.p)), (84, .r 19 12), (85, .i v.f), (86, .i (500 - v.p - v.f)), (87, .u (.b false)), (88, .u (.b false)), (89, .i 60), (90, .u (.b false)), (91, .u (.b false)), (92, .i v.e), (93, .i 0), (108, .u (.b true)), (109, .u (.b true))]
theorem pyA0n33 (v : PyV) (H : PyH v 0 false) : pyA0ev (cL (cBd (cR pyA0C23))) (pyA0T31 v) (pyA0M24 v) [(.nrm, (pyA0T33 v), (pyA0M24 v))] := Ev.regA EvO.opsA
def pyA0T34 (v : PyV) : Fr := puF (pyA0T25 v) [(83, .i (500 - v.p)), (84, .r 19 12), (85, .i v.f), (86, .i (500 - v.p - v.f)), (87, .u (.b false)), (88, .u (.b false)), (89, .i 60), (90, .u (.b false)), (91, .u (.b false)), (92, .i v.e), (93, .i 0), (108, .u (.b true)), (109, .u (.b true)), (110, .r 10 0), (111, .r 0 0), (112, .i 1)]
noncomputable abbrev y41ev := Ev Tryz.prog eK2 (List.range 600) 300 60 13
def y41T0 (v : PyV) : Fr := frameF Tryz.prog Tryz.f13 [.r 0 0, .i 1, .i 1, .i 3]
def y41M0 (v : PyV) : Mem := [.c [.i 4, .w 1, .i 2, .w 2, .i 3, .i 200, .i 1, .i 500, .r 3 0, .r 4 0, .r 5 0, .r 6 0, .w 7],
  czy116,
  czy124,
  .c [.w 8, .i 562],
  .c [.w 9, czy123],
  .c [.w 10, .m 11, .i 256, .i 3],
  .c [.nl 4, .nm],
  (czy18 v),
  (czy11 v),
  czy10,
  .w 136 3 [[.n 20, .n 2, .n 3]],
  .p .n 1 false [(.n 2, [.n 0])]]
noncomputable abbrev y41C1 : Code := bodyOf Tryz.f13
def y41T1 (v : PyV) : Fr := puF (y41T0 v) [(8, .i 0)]
noncomputable abbrev y41C2 : Code := dropK 1 y41C1
def y41T2 (v : PyV) : Fr := puF (y41T1 v) [(18, .r 0 0), (19, .i 1)]
def y41T3 (v : PyV) : Fr := Fr.mk [.r 0 0, .i 1, .i 1, .i 3, .z, .z, .z, .z, .i 0, .r 12 0, .i 0, .z, .z, .z, .z, .z, .z, .t [(czy111 v), .i 0], .r 0 0, .i 1, .t [(czy111 v), .i 0], (czy111 v), .i 0] 78 101
def y41M4 (v : PyV) : Mem := paM (y41M0 v) [] [.c [.i 1, .i 1, .i 2, .i 0, .i 2, .i 0, .i 1, .i 2, .i v.p, .i v.q, .i 10, .i 20, .i v.f, .u (.l 2 [[.n 1, .n 5]]), .c 2 [], .i 2, .i 20, .i 1, .i 0]]
theorem y41n3 (v : PyV) (H : PyB v) : y41ev (cL y41C2) (y41T1 v) (y41M0 v) [(.nrm, (y41T3 v), (y41M4 v))] := Ev.regA (EvO.callA (t2 := y41T2 v) (m1 := y41M0 v) (ix := [0, 1, 2, 3, 4, 5, 6, 7, 8, 9, 10, 11]) (k := 2) (t1 := (y41T2 v)) (args := [.r 0 0, .i 1]) (a := []) (cc := []) (y40_run v H) EvO.opsA)
def y41T5 (v : PyV) : Fr := puF (y41T3 v) [(23, .u (.b false)), (24, .i 0), (25, .u (.b false)), (27, .u (.b false)), (28, .i 1), (29, .u (.b false)), (30, .u (.b false)), (31, .i 1), (32, .u (.b false)), (33, .u (.b false))]
def y41T6 (v : PyV) : Fr := puF (y41T5 v) [(35, (czy111 v)), (36, .i 3)]
def y42T0 (v : PyV) : Fr := frameF Tryz.prog Tryz.f57 [(czy111 v), .i 3]
def y42M0 (v : PyV) : Mem := []
def y42T1 (v : PyV) : Fr := puF (y42T0 v) [(2, .r 0 0), (4, .r 1 0), (5, .i 0)]
def y42M2 (v : PyV) : Mem := [.c [.i 1, .i 1, .i 2, .i 0, .i 2, .i 0, .i 1, .i 2, .i v.p, .i v.q, .i 10, .i 20, .i v.f, .u (.l 2 [[.n 1, .n 5]]), .c 2 [], .i 2, .i 20, .i 1, .i 0],
  .c [.i 0, .i 0, .i 0, .i 0, .i 0, .i 0, .i 0, .i 0, .i 0, .i 0, .i 0, .i 0, .i 0, .nl 2, .nl 2, .i 0, .i 0, .i 0, .i 0]]
def y42T3 (v : PyV) : Fr := Fr.mk [(czy111 v), .i 3, .r 0 0, .z, .r 1 0, .i 0, .z, (czy111 v)] 13 21
noncomputable abbrev y43ev := Ev Tryz.prog eK2 (List.range 600) 300 60 74
def y43T0 (v : PyV) : Fr := frameF Tryz.prog Tryz.f74 [(czy111 v)]
def y43M0 (v : PyV) : Mem := []
noncomputable abbrev y43C1 : Code := bodyOf Tryz.f74
def y43T1 (v : PyV) : Fr := puF (y43T0 v) [(1, .r 0 0), (2, .i 0)]
def y43M2 (v : PyV) : Mem := [.c [.i 1, .i 1, .i 2, .i 0, .i 2, .i 0, .i 1, .i 2, .i v.p, .i v.q, .i 10, .i 20, .i v.f, .u (.l 2 [[.n 1, .n 5]]), .c 2 [], .i 2, .i 20, .i 1, .i 0]]
noncomputable abbrev y43C2 : Code := dropK 1 y43C1
def y43T3 (v : PyV) : Fr := puF (y43T1 v) [(7, .r 0 0), (8, .i 1)]
def y43T4 (v : PyV) : Fr := puF (y43T3 v) [(9, .u (.b true)), (10, .u (.b true)), (11, .r 0 2), (12, .i 2)]
def y43T5 (v : PyV) : Fr := puF (y43T4 v) [(13, .u (.b true)), (14, .u (.b true)), (15, .u (.b true)), (16, .r 0 4), (17, .i 2)]
def y43T6 (v : PyV) : Fr := puF (y43T5 v) [(18, .u (.b true)), (19, .u (.b true)), (20, .u (.b true)), (21, .r 0 3), (22, .i 0)]
def y43T7 (v : PyV) : Fr := puF (y43T6 v) [(23, .u (.b true)), (24, .u (.b true)), (25, .u (.b true)), (26, .r 0 5), (27, .i 0)]
def y43T8 (v : PyV) : Fr := puF (y32T8 v) [(0, (czy111 v))]
theorem y43n7 (v : PyV) (H : PyB v) : y43ev (cL y43C2) (y43T1 v) (y43M2 v) [(.nrm, (y43T8 v), (y43M2 v))] := Ev.regA (EvO.callA (t2 := y43T3 v) (m1 := y43M2 v) (ix := []) (k := 2) (t1 := (y43T3 v)) (args := [.i 1, .i 1, .i 1099511627776]) (a := []) (cc := []) (y8_run v) (EvO.callA (t2 := y43T4 v) (m1 := y43M2 v) (ix := []) (k := 3) (t1 := (y43T4 v)) (args := [.i 2, .i 1, .i 1099511627776]) (a := []) (cc := []) (y9_run v) (EvO.callA (t2 := y43T5 v) (m1 := y43M2 v) (ix := []) (k := 4) (t1 := (y43T5 v)) (args := [.i 2, .i 1, .i 1099511627776]) (a := []) (cc := []) (y9_run v) (EvO.callA (t2 := y43T6 v) (m1 := y43M2 v) (ix := []) (k := 4) (t1 := (y43T6 v)) (args := [.i 0, .i 0, .i 4]) (a := []) (cc := []) (y10_run v) (EvO.callA (t2 := y43T7 v) (m1 := y43M2 v) (ix := []) (k := 4) (t1 := (y43T7 v)) (args := [.i 0, .i 0, .i 1099511627776]) (a := []) (cc := []) (y5_run v) EvO.opsA)))))
def y43T9 (v : PyV) : Fr := puF (y43T8 v) [(37, .r 0 6), (38, .i 1)]
def y43T10 (v : PyV) : Fr := puF (y43T9 v) [(39, .u (.b true)), (40, .u (.b true)), (41, .r 0 8), (42, .i v.p)]
def y43T11 (v : PyV) : Fr := puF (y43T10 v) [(43, .u (.b true)), (44, .u (.b true)), (45, .u (.b true)), (46, .r 0 12), (47, .i v.f)]
def y43T12 (v : PyV) : Fr := puF (y43T11 v) [(48, .u (.b true)), (49, .u (.b true)), (50, .u (.b true)), (51, .r 0 10), (52, .i 10)]
def y43T13 (v : PyV) : Fr := puF (y43T12 v) [(4, .u (.b true)), (53, .u (.b true)), (54, .u (.b true))]
def y43T14 (v : PyV) : Fr := puF (y43T12 v) [(4, .u (.b true)), (5, .u (.b true)), (6, .u (.b false)), (53, .u (.b true)), (54, .u (.b true)), (55, .r 0 13), (56, .u (.l 2 [[.n 1, .n 5]])), (57, .i 0), (58, .u (.b true)), (59, .u (.b true)), (60, .r 0 14), (61, .c 2 []), (62, .i 0), (63, .u (.b true)), (64, .u (.b true))]
def y43M15 (v : PyV) : Mem := paM (y43M2 v) [] [.c [.i 1, .i 5]]
def y43T16 (v : PyV) : Fr := puF (y43T12 v) [(4, .u (.b true)), (5, .u (.b true)), (6, .u (.b false)), (53, .u (.b true)), (54, .u (.b true)), (55, .r 0 13), (56, .u (.l 2 [[.n 1, .n 5]])), (57, .i 0), (58, .u (.b true)), (59, .u (.b true)), (60, .r 0 14), (61, .c 2 []), (62, .i 0), (63, .u (.b true)), (64, .u (.b true)), (65, .r 0 1), (66, .i 1)]
def y43T17 (v : PyV) : Fr := puF (y43T12 v) [(4, .u (.b true)), (5, .u (.b true)), (6, .u (.b false)), (53, .u (.b true)), (54, .u (.b true)), (55, .r 0 13), (56, .u (.l 2 [[.n 1, .n 5]])), (57, .i 0), (58, .u (.b true)), (59, .u (.b true)), (60, .r 0 14), (61, .c 2 []), (62, .i 0), (63, .u (.b true)), (64, .u (.b true)), (65, .r 0 1), (66, .i 1), (67, .u (.b true)), (68, .u (.b true))]
def y43T18 (v : PyV) : Fr := puF (y43T12 v) [(4, .u (.b true)), (5, .u (.b true)), (6, .u (.b false)), (53, .u (.b true)), (54, .u (.b true)), (55, .r 0 13), (56, .u (.l 2 [[.n 1, .n 5]])), (57, .i 0), (58, .u (.b true)), (59, .u (.b true)), (60, .r 0 14), (61, .c 2 []), (62, .i 0), (63, .u (.b true)), (64, .u (.b true)), (65, .r 0 1), (66, .i 1), (67, .u (.b true)), (68, .u (.b true)), (69, .r 0 7), (70, .i 2)]
def y43T19 (v : PyV) : Fr := puF (y32T21 v) [(0, (czy111 v)), (6, .u (.b false)), (75, .z), (76, .z), (77, .z), (78, .z), (79, .z), (80, .z), (81, .z), (82, .z), (83, .z), (84, .z), (85, .z), (86, .z), (87, .z), (88, .z), (89, .z), (90, .z), (91, .z), (92, .z), (93, .z)]
def y43T20 (v : PyV) : Fr := puF (y43T19 v) [(75, .u (.b true)), (76, .u (.b true)), (77, .u (.b true)), (78, .r 0 9), (79, .i v.q)]
def y43T21 (v : PyV) : Fr := puF (y32T21 v) [(0, (czy111 v))]
def y43T22 (v : PyV) : Fr := puF (y32T22 v) [(0, (czy111 v)), (126, (czy111 v))]
def y44M0 (v : PyV) : Mem := []
def y44T1 (v : PyV) : Fr := Fr.mk [(czy111 v), .r 0 0, .u (.b false), .u (.b true), .u (.b false), .z, .z, .z, .r 0 1, .i 1, .u (.b true), .r 0 17, .i 1, .u (.b false), .u (.b false), .t [], .t [], .t [], .u (.b false)] 71 90
def y44M2 (v : PyV) : Mem := [.c [.i 1, .i 1, .i 2, .i 0, .i 2, .i 0, .i 1, .i 2, .i v.p, .i v.q, .i 10, .i 20, .i v.f, .u (.l 2 [[.n 1, .n 5]]), .c 2 [], .i 2, .i 20, .i 1, .i 0]]
def y44T3 (v : PyV) : Fr := puF (y44T1 v) [(19, .r 0 17), (20, .i 1)]
def y44T4 (v : PyV) : Fr := puF (y44T3 v) [(21, .u (.b true)), (22, .u (.b true)), (23, .r 0 17), (24, .i 1), (25, .r 0 2), (26, .i 2), (27, .u (.b true)), (28, .u (.b true)), (29, .u (.b true)), (30, .r 0 18), (31, .i 0)]
def y44T5 (v : PyV) : Fr := puF (y44T4 v) [(5, .u (.b true)), (32, .u (.b true)), (33, .u (.b true))]
def y44T6 (v : PyV) : Fr := puF (y44T5 v) [(34, .r 0 16), (35, .i 20)]
def y45M0 (v : PyV) : Mem := []
def y45T1 (v : PyV) : Fr := puF (y19T1 v) [(0, .i 20), (7, .i 20), (11, .i 20)]
abbrev y45Mm (v : PyV) : Mem := (y45M0 v)
theorem y45_run (v : PyV) : PRun Tryz.prog 101 (y45M0 v) [.i 20, .i 1, .i 2199023255552] fun x m => x = .u (.b true) ∧ m = (y45Mm v) := Ev.runA (speWhole whp) Tryz.func101 (c := (bodyOf Tryz.f101)) (r := (.ret, (y45T1 v), (y45M0 v))) Ev.codeA
def y44T7 (v : PyV) : Fr := puF (y44T6 v) [(6, .u (.b true)), (36, .u (.b true))]
def y44T8 (v : PyV) : Fr := puF (y44T7 v) [(2, .u (.b true)), (7, .u (.b false)), (37, .r 0 16), (38, .i 20), (39, .u (.b false)), (40, .r 0 15), (41, .i 2), (42, .u (.b false)), (43, .u (.b false)), (48, .u (.b true)), (49, .u (.b true)), (50, .u (.b true)), (51, .u (.b true)), (52, .u (.b true)), (53, .u (.b true)), (54, .u (.b true)), (55, .u (.b true)), (56, .u (.b true))]
abbrev y44Mm (v : PyV) : Mem := (y44M0 v)
theorem y44_run (v : PyV) (H : PyB v) : PRun Tryz.prog 130 (y44M0 v) [(czy111 v)] fun x m => x = .u (.b true) ∧ m = (y44Mm v) := Ev.runA eK2 Tryz.func130 (c := (bodyOf Tryz.f130)) (r := (.ret, (y44T8 v), (y44M2 v))) (Ev.piecesA (k := 3) (t1 := y44T1 v) (m1 := y44M2 v) (Ev.seqPA (t1 := y44T5 v) (m1 := y44M2 v) (Ev.regA (EvO.callA (t2 := y44T3 v) (m1 := y44M2 v) (ix := []) (k := 2) (t1 := (y44T3 v)) (args := [.i 1, .i 1, .i 1099511627776]) (a := []) (cc := []) (y8_run v) (EvO.callA (t2 := y44T4 v) (m1 := y44M2 v) (ix := []) (k := 10) (t1 := (y44T4 v)) (args := [.i 0, .i 0, .i 4]) (a := []) (cc := []) (y10_run v) EvO.opsA))) (Ev.seqPA (t1 := y44T7 v) (m1 := y44M2 v) (Ev.regA (EvO.callA (t2 := y44T6 v) (m1 := y44M2 v) (ix := []) (k := 2) (t1 := (y44T6 v)) (args := [.i 20, .i 1, .i 2199023255552]) (a := []) (cc := []) (y45_run v) EvO.opsA)) Ev.codeA)))
def y43T23 (v : PyV) : Fr := puF (y43T22 v) [(127, .u (.b true)), (128, .u (.b true))]
theorem y43n32 (v : PyV) (H : PyB v) : y43ev y43C2 (y43T1 v) (y43M2 v) [(.ret, (y43T23 v), (y43M15 v))] := Ev.seqPA (y43n7 v H) (Ev.seqPA (t1 := y43T13 v) (m1 := y43M2 v) (Ev.regA (EvO.callA (t2 := y43T9 v) (m1 := y43M2 v) (ix := []) (k := 2) (t1 := (y43T9 v)) (args := [.i 1, .i 1, .i 8]) (a := []) (cc := []) (y11_run v) (EvO.callA (t2 := y43T10 v) (m1 := y43M2 v) (ix := []) (k := 3) (t1 := (y43T10 v)) (args := [.i v.p, .i 0, .i 1152921504606846976]) (a := []) (cc := []) (y12_run v H) (EvO.callA (t2 := y43T11 v) (m1 := y43M2 v) (ix := []) (k := 4) (t1 := (y43T11 v)) (args := [.i v.f, .i 0, .i 1152921504606846976]) (a := []) (cc := []) (y33_run v H) (EvO.callA (t2 := y43T12 v) (m1 := y43M2 v) (ix := []) (k := 4) (t1 := (y43T12 v)) (args := [.i 10, .i 1, .i 1048576]) (a := []) (cc := []) (y6_run v) EvO.opsA))))) (Ev.piecesA (k := 2) (t1 := y43T14 v) (m1 := y43M15 v) (Ev.seqPA (t1 := y43T21 v) (m1 := y43M15 v) (Ev.piecesA (k := 1) (t1 := y43T16 v) (m1 := y43M15 v) (Ev.blockP (e := .nrm) (by kernel_rfl) (by kernel_rfl) (Ev.piecesA (k := 1) (t1 := y43T17 v) (m1 := y43M15 v) (Ev.condT (by kernel_rfl) (by kernel_rfl) (Ev.regA (EvO.callA (t2 := y43T18 v) (m1 := y43M15 v) (ix := []) (k := 2) (t1 := (y43T18 v)) (args := [.i 2, .i 1, .i 8]) (a := []) (cc := []) (y14_run v) (EvO.callA (t2 := y43T19 v) (m1 := y43M15 v) (ix := []) (k := 3) (t1 := (y43T19 v)) (args := [.i 20, .i 1, .i 1048576]) (a := []) (cc := []) (y15_run v) (EvO.callA (t2 := y43T20 v) (m1 := y43M15 v) (ix := []) (k := 4) (t1 := (y43T20 v)) (args := [.i v.q, .i 0, .i 1152921504606846976]) (a := []) (cc := []) (y16_run v H) EvO.opsA)))))))) (Ev.seqE (by intro h; cases h) (by kernel_rfl) (Ev.seqPA (t1 := y43T23 v) (m1 := y43M15 v) (Ev.regA (EvO.callA (t2 := y43T22 v) (m1 := y43M15 v) (ix := []) (k := 12) (t1 := (y43T22 v)) (args := [(czy111 v)]) (a := []) (cc := []) (y44_run v H) EvO.opsA)) Ev.codeA)))))
abbrev y43Mm (v : PyV) : Mem := (y43M0 v)
theorem y43_run (v : PyV) (H : PyB v) : PRun Tryz.prog 74 (y43M0 v) [(czy111 v)] fun x m => x = .i 0 ∧ m = (y43Mm v) := Ev.runA eK2 Tryz.func74 (c := y43C1) (r := (.ret, (y43T23 v), (y43M15 v))) (Ev.piecesA (k := 1) (y43n32 v H))
def y42T4 (v : PyV) : Fr := puF (y42T3 v) [(6, .u (.b false)), (8, .i 0), (9, .u (.b false))]
def y42T5 (v : PyV) : Fr := puF (y42T4 v) [(11, .u (.b false)), (12, (czy111 v)), (13, .i 3), (14, .u (.b true)), (15, .u (.b false))]
def y42M6 (v : PyV) : Mem := paM (y42M2 v) [] [.c [.i 1, .i 1, .i 2, .i 0, .i 2, .i 0, .i 1, .i 2, .i v.p, .i v.q, .i 10, .i 20, .i v.f, .u (.l 2 [[.n 1, .n 5]]), .c 2 [], .i 2, .i 20, .i 1, .i 0]]
def y42T7 (v : PyV) : Fr := puF (y42T5 v) [(17, .i 3), (18, .r 0 15), (19, .r 0 16), (20, (czy113 v))]
def y42M8 (v : PyV) : Mem := [.c [.i 1, .i 1, .i 2, .i 0, .i 2, .i 0, .i 1, .i 2, .i v.p, .i v.q, .i 10, .i 20, .i v.f, .u (.l 2 [[.n 1, .n 5]]), .c 2 [], .i 3, .i 0, .i 1, .i 0],
  .c [.i 1, .i 1, .i 2, .i 0, .i 2, .i 0, .i 1, .i 2, .i v.p, .i v.q, .i 10, .i 20, .i v.f, .u (.l 2 [[.n 1, .n 5]]), .c 2 [], .i 3, .i 0, .i 1, .i 0],
  .c [.i 1, .i 1, .i 2, .i 0, .i 2, .i 0, .i 1, .i 2, .i v.p, .i v.q, .i 10, .i 20, .i v.f, .u (.l 2 [[.n 1, .n 5]]), .c 2 [], .i 2, .i 20, .i 1, .i 0]]
abbrev y42Mm (v : PyV) : Mem := (y42M0 v)
theorem y42_run (v : PyV) (H : PyB v) : PRun Tryz.prog 57 (y42M0 v) [(czy111 v), .i 3] fun x m => x = .t [(czy113 v), .i 0] ∧ m = (y42Mm v) := Ev.runA eK2 Tryz.func57 (c := (bodyOf Tryz.f57)) (r := (.ret, (y42T7 v), (y42M8 v))) (Ev.piecesA (k := 1) (t1 := y42T1 v) (m1 := y42M2 v) (Ev.seqPA (t1 := y42T5 v) (m1 := y42M6 v) (Ev.blockP (e := .nrm) (by kernel_rfl) (by kernel_rfl) (Ev.seqPA (t1 := y42T4 v) (m1 := y42M2 v) (Ev.regA (EvO.callA (t2 := y42T3 v) (m1 := y42M2 v) (ix := []) (k := 1) (t1 := (y42T3 v)) (args := [(czy111 v)]) (a := []) (cc := []) (y43_run v H) EvO.opsA)) Ev.codeA)) Ev.codeA))
def y41T7 (v : PyV) : Fr := puF (y41T6 v) [(11, .r 13 0), (34, .t [(czy113 v), .i 0]), (37, .t [(czy113 v), .i 0]), (38, (czy113 v)), (39, .i 0)]
def y41M8 (v : PyV) : Mem := paM (y41M4 v) [] [.c [.i 1, .i 1, .i 2, .i 0, .i 2, .i 0, .i 1, .i 2, .i v.p, .i v.q, .i 10, .i 20, .i v.f, .u (.l 2 [[.n 1, .n 5]]), .c 2 [], .i 3, .i 0, .i 1, .i 0]]
theorem y41n6 (v : PyV) (H : PyB v) : y41ev (cL (dropK 1 (cR y41C2))) (y41T5 v) (y41M4 v) [(.nrm, (y41T7 v), (y41M8 v))] := Ev.regA (EvO.callA (t2 := y41T6 v) (m1 := y41M4 v) (ix := []) (k := 2) (t1 := (y41T6 v)) (args := [(czy111 v), .i 3]) (a := []) (cc := []) (y42_run v H) EvO.opsA)
end
end Go.Proofs.YtalglagdgabafaaGreat
