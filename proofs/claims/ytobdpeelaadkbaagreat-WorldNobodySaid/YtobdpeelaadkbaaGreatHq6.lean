/- A world in which nothing has happened, of any catalogue that may be: made, told, compared. -/
import Derived.Test.YtobdpeelaadkbaaGreatHq5
import Derived.Test.YtobdpeelaadkbaaGreatProg
import Derived.Test.YtobdpeelaadkbaaGreatRows
import Derived.ProofKit
import Derived.Deep.SlicePairs
set_option linter.unusedVariables false
namespace Go.Proofs.YtobdpeelaadkbaaGreat
section
variable {P : Program} {E S : SPE P} {inl Gs : List Nat} {nl n fi : Nat}
noncomputable def puF : Fr → List (Nat × V) → Fr
 | t, [] => t
 | t, (i, v) :: l => puF ((acc i).s t v) l
def paM : Mem → List (Nat × AB) → Mem → Mem
 | m, [], e => m ++ e
 | m, (i, a) :: l, e => paM (ms m i a) l e
theorem symE1 {x : Option (List V)} {b c : Bool} (h : x = some [.u (.b b)]) (hb : b = c) : x = some [.u (.b c)] := by rw [h, hb]
theorem symN1 {x : Option (List V)} {b c d : Bool} (h : x = some [.u (.b (not b))]) (hb : b = c) (hd : (not c) = d) : x = some [.u (.b d)] := by rw [h, hb, hd]
theorem eqF_self (x : Int) : eqF x x = true := by rw [eqF_eq]; simp
theorem EvD.op {ops : List Oper} {k : Nat} {done : List Nat} {held : List (Nat × List Nat)} {t t2 : Fr} {m : Mem} {v : V} {outs : zbb} (i : Nat) (hk : Nat.ble (i + 1) ops.length = true) (hq : zjp ops done = some i)
 (hg : (cG ops (zb6 ops i)).g t = some (true, t2)) (hv : qsF P (zb6 ops i) t2 m = some [v])
 (h2 : EvD P E inl nl n ops (k, i :: done, cond (zjo (zb6 ops i)) held ((i, srcF t2 (zb6 ops i)) :: held), (zfx (zb6 ops i).dst).p t2 v, m) outs) : EvD P E inl nl n ops (k + 1, done, held, t, m) outs := by
 have ho : ops[i]? = some (zb6 ops i) := by
  have e := zgd (Nat.le_of_ble_eq_true hk)
  have hl : (ops.take i).length = i := by rw [List.length_take]; have := Nat.le_of_ble_eq_true hk; omega
  rw [e, List.getElem?_append_right (by omega), hl, Nat.sub_self, ← e]
  simp
 refine EvD.step (s' := (k, i :: done, cond (zjo (zb6 ops i)) held ((i, srcF t2 (zb6 ops i)) :: held), (zfx (zb6 ops i).dst).p t2 v, m)) ?_ h2
 simp only [dr1, hq, ho, hg, hv]
theorem Ev.codeA {c : Code} {t : Fr} {m : Mem} {rs : zg7} (h : CodeE P E inl nl n c t m = some rs := by kernel_rfl) : Ev P E inl nl n fi c t m rs := Ev.code h
theorem Ev.piecesA {k : Nat} {c : Code} {t t1 : Fr} {m m1 : Mem} {rs : zg7} (h2 : Ev P E inl nl n fi (zjv k c) t1 m1 rs) (h : evK P E inl nl n k c t m = some (t1, m1) := by kernel_rfl) : Ev P E inl nl n fi c t m rs := Ev.pieces h h2
theorem Ev.seqPA {c : Code} {t t1 : Fr} {m m1 : Mem} {rs : zg7} (hx : Ev P E inl nl n fi (cL c) t m [(.nrm, t1, m1)]) (hy : Ev P E inl nl n fi (cR c) t1 m1 rs) (hs : cSeq c = true := by kernel_rfl) : Ev P E inl nl n fi c t m rs := Ev.seqP hs hx hy
theorem Ev.regA {c : Code} {t t3 : Fr} {m m3 : Mem} (h : EvO P E inl nl n (cOp c) (cOp c) t m [(t3, m3)]) (hr : cReg c = true := by kernel_rfl) (hd : ((cOp c).all fun o => !zce o) = true := by kernel_rfl) : Ev P E inl nl n fi c t m [(.nrm, t3, m3)] := Ev.reg hr hd h
theorem EvO.opsA {L l : List Oper} {t : Fr} {m : Mem} {outs : zbb} (h : regE P E inl nl n L l t m = some outs := by kernel_rfl) : EvO P E inl nl n L l t m outs := EvO.ops h
theorem EvD.codeA {ops : List Oper} {k : Nat} {done : List Nat} {held : List (Nat × List Nat)} {t : Fr} {m : Mem} {outs : zbb} (h : (cDraw P ops k done).r [] [] (zjy P E inl (runF P E inl nl n .out) []) held t m = some outs := by kernel_rfl) : EvD P E inl nl n ops (k, done, held, t, m) outs := EvD.code h
theorem EvD.stepsA {ops : List Oper} {outs : zbb} {j : Nat} {s s' : DSt} (h2 : EvD P E inl nl n ops s' outs) (h : drK P E inl nl n ops j s = some s' := by kernel_rfl) : EvD P E inl nl n ops s outs := EvD.steps h h2
theorem EvD.oneA {ops : List Oper} {k : Nat} {done : List Nat} {held : List (Nat × List Nat)} {t : Fr} {m : Mem} {outs : zbb} (i : Nat) (e : EvE P E inl nl n ops i k done held t m outs) (hq : zjp ops done = none := by kernel_rfl) (hr : oneR1 (zbi ops done) i = true := by kernel_rfl) : EvD P E inl nl n ops (k + 1, done, held, t, m) outs := EvD.one i hq hr e
theorem EvO.callA {L l : List Oper} {k : Nat} {t t1 t2 : Fr} {m m1 M' ms : Mem} {outs : zbb} {args al a cc : List V} {g : FuncId} {R : V} {ix : List Nat} (hp : PRun P g ms al fun x m' => x = R ∧ m' = M')
 (h2 : EvO P (zcz S Gs) inl nl n L (l.drop (k + 1)) ((zfx (zb6 l k).dst).p t2 (zch (fK ix m1.length) R)) (znq m1 ix M') outs) (hk : Nat.ble (k + 1) l.length = true := by kernel_rfl)
 (h1 : regE P (zcz S Gs) inl nl n L (l.take k) t m = some [(t1, m1)] := by kernel_rfl) (hg : (cG L (zb6 l k)).g t1 = some (true, t2) := by kernel_rfl)
 (hc : zn6 (zb6 l k) = true := by kernel_rfl) (hf : (zeg (opF (zb6 l k))).e t2 = .f g a cc := by kernel_rfl) (hin : inL Gs g = true := by kernel_rfl) (hargs : a ++ evA t2 (znp (opArgs (zb6 l k))) ++ cc = args := by kernel_rfl)
 (hn : ix.Nodup := by decide) (hix : okIx ix args m1 = true := by kernel_rfl) (hm : znv m1 ix = ms := by kernel_rfl) (ha : zes (fun b => zjd ix b 0) args = al := by kernel_rfl) : EvO P (zcz S Gs) inl nl n L l t m outs :=
 EvO.call ix hk h1 hg hc hf hin hargs hn hix hm ha hp h2
theorem EvE.callA {ops : List Oper} {k : Nat} {done : List Nat} {held : List (Nat × List Nat)} {t t2 : Fr} {m M' ms : Mem} {outs : zbb} {args al a cc : List V} {g : FuncId} {R : V} {ix : List Nat} (i : Nat) (hp : PRun P g ms al fun x m' => x = R ∧ m' = M')
 (h2 : EvD P (zcz S Gs) inl nl n ops (k, i :: done, held, (zfx (zb6 ops i).dst).p t2 (zch (fK ix m.length) R), znq m ix M') outs) (hk : Nat.ble (i + 1) ops.length = true := by kernel_rfl)
 (hg : (cG ops (zb6 ops i)).g t = some (true, t2) := by kernel_rfl)
 (hc : zn6 (zb6 ops i) = true := by kernel_rfl) (hf : (zeg (opF (zb6 ops i))).e t2 = .f g a cc := by kernel_rfl) (hin : inL Gs g = true := by kernel_rfl) (hargs : a ++ evA t2 (znp (opArgs (zb6 ops i))) ++ cc = args := by kernel_rfl)
 (hn : ix.Nodup := by decide) (hix : okIx ix args m = true := by kernel_rfl) (hd : disj (zed ops i held) ix = true := by kernel_rfl) (hm : znv m ix = ms := by kernel_rfl) (ha : zes (fun b => zjd ix b 0) args = al := by kernel_rfl) : EvE P (zcz S Gs) inl nl n ops i k done held t m outs :=
 EvE.call i ix hk hg hc hf hin hargs hn hix hd hm ha hp h2
theorem Ev.runA (E : SPE P) {f : FuncId} {fn : Func} (hf : P.funcs[f]? = some fn) {c : Code} {m m1 : Mem} {args : List V} {r : Res} {x : V} (h : Ev P E (List.range 600) 300 60 f c (zd5 P fn args) m [r]) (he : endKT P fn m r = some (x, m1) := by kernel_rfl)
 (hmix : P.follows .mixedOrders = true := by kernel_rfl) (hn : (fn.name == "runtime.NumGoroutine") = false := by kernel_rfl) (hc : fn.body = some c := by kernel_rfl) : PRun P f m args fun y m' => y = x ∧ m' = m1 := Ev.runT hmix hf hn hc h he
end
def orO {α : Type} (x y : Option α) : Option α :=
 match x with
 | some p => some p
 | none => y
def orP (x y : Option Prop) : Option Prop :=
 match x with
 | some p => some p
 | none => y
def SP.or {P : Program} (A B : SP P) : SP P where
 f ro call g args m K := orP (A.f ro call g args m K) (B.f ro call g args m K)
 ok := by
  intro ro hr X call hX hcall g args m KS p hs hp D ρ chs C h vs xx M ha
  unfold orP at hs
  split at hs
  · rename_i q hq
    cases hs
    exact A.ok hX hcall hq hp xx M ha
  · exact B.ok hX hcall hs hp xx M ha
noncomputable def SPE.or {P : Program} (A B : SPE P) : SPE P where
 sp := A.sp.or B.sp
 e ro callE g args m := orO (A.e ro callE g args m) (B.e ro callE g args m)
 ok := by
  intro ro callE call hc g args m rs K h hK
  show ∃ p, orP (A.sp.f ro call g args m K) (B.sp.f ro call g args m K) = some p ∧ p
  unfold orO at h
  split at h
  · rename_i q hq
    cases h
    obtain ⟨p, h1, h2⟩ := A.ok hc hq hK
    rw [h1]
    exact ⟨p, rfl, h2⟩
  · rename_i hq
    rw [A.no hq]
    exact B.ok hc h hK
 no := by
  intro ro callE call g args m K h
  show orP (A.sp.f ro call g args m K) (B.sp.f ro call g args m K) = .none
  unfold orO at h
  split at h
  · cases h
  · rename_i hq
    rw [A.no hq]
    exact B.no h
section
variable {P : Program} {E : SPE P} {inl : List Nat} {nl n : Nat}
theorem PRun.wk {f : FuncId} {m : Mem} {args : List V} {K : V → Mem → Prop} (h : PRun P f m args fun x m' => K x m' ∨ K (wkV x) m') : PRun P f m args K :=
 fun D ρ chs C hp vs M F => (h D ρ chs C hp vs M F).mono fun _ _ ⟨D', ρ', chs', x, m', a, b, c, d⟩ => by
  rcases d with d | d
  · exact ⟨D', ρ', chs', x, m', a, b, c, d⟩
  · exact ⟨D', ρ', chs', _, m', a, b, wkV_S c, d⟩
noncomputable def endL (P : Program) (fn : Func) (m : Mem) : zg7 → Option Out
 | [] => some []
 | r :: rs => match endKT P fn m r with
   | some y => (match endL P fn m rs with
     | some l => some (y :: l)
     | none => none)
   | none => none
theorem endL_mem {fn : Func} {m : Mem} : ∀ {rs : zg7} {l : Out}, endL P fn m rs = some l → ∀ r ∈ rs, ∃ y ∈ l, endKT P fn m r = some y
 | [], _, _, _, hr => by cases hr
 | r0 :: rs, l, h, r, hr => by
   simp only [endL] at h
   split at h
   · rename_i y hy
     split at h
     · rename_i l2 h2
       cases h
       rcases List.mem_cons.1 hr with rfl | hr
       · exact ⟨y, by simp, hy⟩
       · obtain ⟨z, hz, e⟩ := endL_mem h2 r hr
         exact ⟨z, by simp [hz], e⟩
     · cases h
   · cases h
theorem Ev.runM (hmix : P.follows .mixedOrders = true) {f : FuncId} {fn : Func} (hf : P.funcs[f]? = some fn) (hn : (fn.name == "runtime.NumGoroutine") = false) {c : Code} (hc : fn.body = some c) {m : Mem} {args : List V} {rs : zg7} (h : Ev P E inl nl n f c (zd5 P fn args) m rs) {l : Out} (hl : endL P fn m rs = some l) {y : V × Mem} (hm : mergeR l = [y]) : PRun P f m args fun x m' => x = y.1 ∧ m' = y.2 := by
 refine PRun.wk (funSG hmix (H := HE E inl nl) (n := n + 1) (gc := true) hf hn hc ?_)
 show vcC P (HE E inl nl) (zg9 P (HE E inl nl) n) f c .out [] [] _ _ m
 rw [← zka]
 refine h.go fun x hx => ?_
 obtain ⟨z, hz, he⟩ := endL_mem hl x hx
 have hk := mergeR_ok (K := fun a b => a = y.1 ∧ b = y.2) (l := l) (fun w hw => by rw [hm] at hw; rw [List.mem_singleton.1 hw]; exact ⟨rfl, rfl⟩) z hz
 unfold endKT at he
 split at he
 · rename_i q hq
   exact zo5 hq (endE_ok he hk)
 · cases he
end
section
set_option maxRecDepth 1000000
noncomputable abbrev evC1 : Option zg7 := CodeE Tryz.prog (za1 whp) (List.range 600) 300 60 (zbr Tryz.f210) (zd5 Tryz.prog Tryz.f210 [.u (.l 1 [])]) []
theorem cl0_S : PRun Tryz.prog 210 [] [.u (.l 1 [])] fun x m => x = .c 1 [] ∧ m = [] :=
 Ev.runM (by kernel_rfl) Tryz.func210 (by kernel_rfl) (c := zbr Tryz.f210) (by kernel_rfl) (rs := evC1.getD []) (Ev.code (E := za1 whp) (inl := List.range 600) (nl := 300) (n := 60) (by kernel_rfl)) (l := (endL Tryz.prog Tryz.f210 [] (evC1.getD [])).getD []) (by kernel_rfl) (y := (.c 1 [], [])) (by kernel_rfl)
noncomputable abbrev evS1 : Option zg7 := CodeE Tryz.prog (za1 whp) (List.range 600) 300 60 (zbr Tryz.f270) (zd5 Tryz.prog Tryz.f270 [.u (.l 1 [])]) []
theorem so0_S : PRun Tryz.prog 270 [] [.u (.l 1 [])] fun x m => x = .u (.b true) ∧ m = [] :=
 Ev.runM (by kernel_rfl) Tryz.func270 (by kernel_rfl) (c := zbr Tryz.f270) (by kernel_rfl) (rs := evS1.getD []) (Ev.code (E := za1 whp) (inl := List.range 600) (nl := 300) (n := 60) (by kernel_rfl)) (l := (endL Tryz.prog Tryz.f270 [] (evS1.getD [])).getD []) (by kernel_rfl) (y := (.u (.b true), [])) (by kernel_rfl)
def spCl0 {P : Program} {cl : FuncId} (h : PRun P cl [] [.u (.l 1 [])] fun x m => x = .c 1 [] ∧ m = []) : SP P where
 f _ _ g args m K := match args with
   | [.u (.l 1 r)] => cond (Nat.beq g cl) (some (r = [] ∧ K (.c 1 []) m)) none
   | _ => none
 ok := by
  intro ro hr X call hX hc g args m KS p hf hp D ρ chs C h' vs x M F
  split at hf
  · rename_i r
    cases hg : Nat.beq g cl with
    | false => rw [hg] at hf; cases hf
    | true =>
      rw [hg] at hf; cases hf
      obtain ⟨rfl, hK⟩ := hp
      have := Nat.eq_of_beq_eq_true hg
      subst this
      have M0 : SAt D [] [] [] (chs ++ C) h' := ⟨rfl, rfl, fun i L ab ch h1 => by simp at h1, by simpa using M.st⟩
      have F0 : RpL D [] vs [.u (.l 1 [])] := by
       have := (ren_all (f := id) (ρ' := ([] : List Loc))).2.1 F fun b hb => by simp [zak, zae] at hb
       rwa [zd9] at this
      refine (h D [] [] (chs ++ C) h' vs M0 F0).mono ?_
      rintro v h2 ⟨D', ρ', chs', x', m', l, M', r, rfl, rfl⟩
      have hc0 : chs' = [] := List.eq_nil_of_length_eq_zero M'.lch
      subst hc0
      refine ⟨D', ρ, m, chs, _, ⟨l, ⟨[], by simp⟩, fun _ _ _ => rfl, fun _ _ _ => rfl, Nat.le_refl _⟩, M.mono l (by simpa using M'.st), ?_, hK⟩
      cases r with
      | c hr => exact .c hr
  · cases hf
end
section
variable {D D' : Fz} {ρ ρ' : List Loc} {m m' : Mem} {chs C : List zac} {h h' : zab} {ro hr : List Nat}
def isNilL (l : List Nat) : Bool := match l with | [] => true | _ => false
def newP (P : Program) (G : Nat) (as' : List V) (m : Mem) (K : V → Mem → Prop) : Prop :=
 ∃ I : Ob, PRun P G [] as' (fun x m' => x = .t [.r 0 0, .i 0] ∧ m' = [.o I]) ∧ K (.t [.r m.length 0, .i 0]) (m ++ [.o I])
theorem newP_S {P : Program} {g : FuncId} {as' : List V} {KS : V → Mem → Prop} {D1 : Fz} {m1 : Mem} {c1 : List zac} (hp : newP P g as' m1 KS) (hn : zak as' = []) {vs : List Value} (n1 : Nx ro hr D ρ m chs D1 ρ m1 c1) (M1 : SAt D1 ρ m1 c1 C h) (ra : RpL D1 ρ vs as') : Run P g vs h (zcy ro hr D ρ m chs C KS) := by
 obtain ⟨I, hrun, hK⟩ := hp
 have M0 : SAt D1 [] [] [] (c1 ++ C) h := ⟨rfl, rfl, fun i L ab ch q => by simp at q, by simpa using M1.st⟩
 refine (hrun D1 [] [] (c1 ++ C) h vs M0 (zo2 ra hn)).mono ?_
 rintro v h2 ⟨D2, s, cs2, x, T', le, M2, hv, rfl, rfl⟩
 obtain ⟨L, rfl⟩ : ∃ L, s = [L] := by
  have := M2.len
  match s, this with
  | [L], _ => exact ⟨L, rfl⟩
 obtain ⟨ch, rfl⟩ : ∃ c, cs2 = [c] := by
  have := M2.lch
  match cs2, this with
  | [c], _ => exact ⟨c, rfl⟩
 have he := M2.ent 0 L _ ch rfl rfl rfl
 have hl1 : ρ.length = m1.length := M1.len
 have hlc : c1.length = m1.length := M1.lch
 have fin : ∀ (b : Nat) (K : Loc), ([] ++ [L])[b]? = some K → (ρ ++ [L])[b + m1.length]? = some K := fun b K hK => by
  rw [List.getElem?_append_right (by omega), show b + m1.length - ρ.length = b by omega]
  simpa using hK
 have M3 : SAt D2 (ρ ++ [L]) (m1 ++ [.o I]) (c1 ++ [ch]) C h2 := by
  refine SAt.push ⟨hl1, hlc, fun i L ab ch q1 q2 q3 => by have := (M1.ent i L ab ch q1 q2 q3).mono le (s := []); rwa [List.append_nil] at this, M2.st.perm (by
   simp only [List.flatten_append, List.flatten_cons, List.flatten_nil, List.append_nil]
   exact List.perm_append_comm_assoc _ _ _)⟩ ?_
  cases he with
  | o hf => exact .o hf
 refine ⟨D2, ρ ++ [L], _, c1 ++ [ch], _, n1.trans (Nx.push M1 le), M3, ?_, hK⟩
 have h0 : Rp D2 (ρ ++ [L]) v (zch (fun b => b + m1.length) (.t [.r 0 0, .i 0])) := ren_all.1 hv fun b _ L hL => fin b L hL
 have e : zch (fun b => b + m1.length) (.t [.r 0 0, .i 0]) = .t [.r m1.length 0, .i 0] := by
  show V.t [.r (0 + m1.length) 0, .i 0] = _
  rw [Nat.zero_add]
 rwa [e] at h0
def spNew (P : Program) (G : Nat) (Ts : List TypeId) : SP P where
 f ro _ g args m K := cond (Nat.beq g G) (match frzL ro m (zni P Ts args) with
   | some (as', m1) => cond (isNilL (zak as')) (some (newP P G as' m1 K)) (some False)
   | none => some False) none
 ok := by
  intro ro hr X call hX hcall g args m KS p hs hp D ρ chs C h vs xx M ha
  cases hg : Nat.beq g G with
  | false => rw [hg] at hs; cases hs
  | true =>
    rw [hg] at hs
    have := Nat.eq_of_beq_eq_true hg
    subst this
    simp only [cond_true] at hs
    split at hs
    · rename_i as' m1 hf
      have ha := normL_S (P := P) (Ts := Ts) ha
      obtain ⟨D1, c1, n1, M1, ra⟩ := frzL_S hf M ha
      cases hn : isNilL (zak as') with
      | false => rw [hn] at hs; cases hs; exact hp.elim
      | true =>
        rw [hn] at hs; cases hs
        have : zak as' = [] := by
         unfold isNilL at hn
         split at hn
         · assumption
         · cases hn
        exact newP_S hp this n1 M1 ra
    · cases hs; exact hp.elim
theorem PRun.packR {P : Program} {g : FuncId} {args : List V} {T : Mem} (hh : PRun P g [] args fun x m' => x = .t [.r 0 0, .i 0] ∧ m' = T) : PRun P g [] args fun x m' => x = .t [.r 0 0, .i 0] ∧ m' = [.o (Ob.of fun q => q = T)] := by
 intro D ρ chs C hp vs M F
 have hρ : ρ = [] := List.eq_nil_of_length_eq_zero M.len
 subst hρ
 refine (hh D [] chs C hp vs M F).mono ?_
 rintro v h2 ⟨D2, s, cs, x, m', le, M2, hv, rfl, rfl⟩
 cases hv with
 | t hv =>
   cases hv with
   | cons h1 h3 =>
     obtain ⟨L, hL, rfl⟩ := h1.r_inv
     refine ⟨D2, [L], [cs.flatten], _, _, le, ⟨rfl, rfl, ?_, M2.st.perm (by simp)⟩, .t (.cons (.r rfl) (zo2 h3 rfl)), rfl, rfl⟩
     rintro i K ab c q1 q2 q3
     cases i with
     | zero =>
       simp at q1 q2 q3
       subst q1 q2 q3
       exact .o ⟨m', s, cs, rfl, by simpa using M2.len, M2.lch, ⟨L, by simpa using hL, rfl⟩, rfl, by simpa using M2.ent⟩
     | succ i => simp at q2
end
section
set_option maxRecDepth 100000
theorem mixIa2 : Tryz.prog.follows .mixedOrders = true := by kernel_rfl
theorem S190 {l : List (List U)} {lines : List (List U)} {Q : V → Mem → Prop} (hh : bif decide ((List.length l : Int) > 8) then Q (.t [.u (.p none), .i 1]) [] else ∃ (I1 : Int → List (List U) → Prop) (f1 : Int → List (List U) → Nat), I1 0 [] ∧ (∀ x1 : Int, ∀ l1 : List (List U), I1 x1 l1 → (bif decide (x1 < (List.length l : Int)) then elL l x1 (fun r1 => dI .i64 (ug r1 0) (fun x2 => dI .i64 (ug r1 1) (fun x3 => dI .i64 (ug r1 2) (fun x4 => dI .i64 (ug r1 3) (fun x5 => (bif decide (x3 < 0) then Q (.t [.u (.p none), .i 1]) [] else (bif decide (x3 > 8) then Q (.t [.u (.p none), .i 1]) [] else zet l1 [[.n x3, .l 1 [], .l 1 []]] ∧ (bif decide (x4 < 0) then Q (.t [.u (.p none), .i 1]) [] else (bif decide (x4 > 8) then Q (.t [.u (.p none), .i 1]) [] else zet (l1 ++ [[.n x3, .l 1 [], .l 1 []]]) [[.n x4, .l 1 [], .l 1 []]] ∧ (I1 (IntKind.wrap .i64 (x1 + 1)) (l1 ++ [[.n x3, .l 1 [], .l 1 []]] ++ [[.n x4, .l 1 [], .l 1 []]]) ∧ f1 (IntKind.wrap .i64 (x1 + 1)) (l1 ++ [[.n x3, .l 1 [], .l 1 []]] ++ [[.n x4, .l 1 [], .l 1 []]]) < f1 x1 l1)))))))))) else (bif (List.length lines : Int) != (List.length l1 : Int) then Q (.t [.u (.p none), .i 1]) [] else ∃ (I2 : Int → List (MK × List U) → List (List U) → Prop) (f2 : Int → List (MK × List U) → List (List U) → Nat), I2 0 [] l1 ∧ (∀ x6 : Int, ∀ m1 : List (MK × List U), ∀ l2 : List (List U), I2 x6 m1 l2 → (bif decide (x6 < (List.length lines : Int)) then elL lines x6 (fun r2 => dL 1 (ug r2 0) (fun l3 => dL 1 (ug r2 1) (fun l4 => 0 ≤ x6 ∧ x6 < (List.length l2 : Int) ∧ (elL l2 x6 (fun r3 => dI .i64 (ug r3 0) (fun x7 => (bif (List.length l3 : Int) == x7 then elL l2 x6 (fun r4 => dI .i64 (ug r4 0) (fun x8 => elL l2 x6 (fun r5 => dI .i64 (ug r5 0) (fun x9 => (bif decide ((List.length l3 : Int) > x9) then Q (.t [.u (.p none), .i 1]) [] else (bif decide ((List.length l4 : Int) > 8) then Q (.t [.u (.p none), .i 1]) [] else (bif decide ((List.length l4 : Int) > 0) then (bif !(decide (x8 > 0)) then Q (.t [.u (.p none), .i 1]) [] else PRun Tryz.prog 270 [] [.l 1 l3] (post [.B] [] (fun b1 => (bif !b1 then Q (.t [.u (.p none), .i 1]) [] else l3 = [] ∧ (zet [] l4 ∧ (match l4 with | _ :: _ => (∃ (I3 : Int → List (MK × List U) → Prop) (f3 : Int → List (MK × List U) → Nat), I3 0 m1 ∧ (∀ x10 : Int, ∀ m2 : List (MK × List U), I3 x10 m2 → (bif decide (x10 < (List.length ([] ++ l4) : Int)) then 0 ≤ x10 ∧ x10 < (List.length ([] ++ l4) : Int) ∧ (elL ([] ++ l4) x10 (fun r6 => dI .i64 (ug r6 0) (fun x11 => mO (rGet m2 (.n x11)) (fun r7 => (dI .i64 (ug r7 0) (fun x12 => Q (.t [.u (.p none), .i 1]) []) : Prop)) (PRun Tryz.prog 250 [] [.i x11] (post [.B] [] (fun b2 => (bif !b2 then Q (.t [.u (.p none), .i 1]) [] else I3 (IntKind.wrap .i64 (x10 + 1)) (rSet m2 (.n x11) [.n x6]) ∧ f3 (IntKind.wrap .i64 (x10 + 1)) (rSet m2 (.n x11) [.n x6]) < f3 x10 m2 : Prop))))))) else l3 = [] ∧ (l4 = [] ∧ (elL l2 x6 (fun r8 => elL (List.set l2 (Int.toNat x6) (usp r8 1 [.l 1 []])) x6 (fun r9 => I2 (IntKind.wrap .i64 (x6 + 1)) m2 (List.set (List.set l2 (Int.toNat x6) (usp r8 1 [.l 1 []])) (Int.toNat x6) (usp r9 2 [.l 1 []])) ∧ f2 (IntKind.wrap .i64 (x6 + 1)) m2 (List.set (List.set l2 (Int.toNat x6) (usp r8 1 [.l 1 []])) (Int.toNat x6) (usp r9 2 [.l 1 []])) < f2 x6 m1 l2))))))) | [] => (l3 = [] ∧ (l4 = [] ∧ (elL l2 x6 (fun r10 => elL (List.set l2 (Int.toNat x6) (usp r10 1 [.l 1 []])) x6 (fun r11 => I2 (IntKind.wrap .i64 (x6 + 1)) m1 (List.set (List.set l2 (Int.toNat x6) (usp r10 1 [.l 1 []])) (Int.toNat x6) (usp r11 2 [.l 1 []])) ∧ f2 (IntKind.wrap .i64 (x6 + 1)) m1 (List.set (List.set l2 (Int.toNat x6) (usp r10 1 [.l 1 []])) (Int.toNat x6) (usp r11 2 [.l 1 []])) < f2 x6 m1 l2))))) : Prop)) : Prop)))) else PRun Tryz.prog 270 [] [.l 1 l3] (post [.B] [] (fun b3 => (bif !b3 then Q (.t [.u (.p none), .i 1]) [] else l3 = [] ∧ (zet [] l4 ∧ (match l4 with | _ :: _ => (∃ (I4 : Int → List (MK × List U) → Prop) (f4 : Int → List (MK × List U) → Nat), I4 0 m1 ∧ (∀ x13 : Int, ∀ m3 : List (MK × List U), I4 x13 m3 → (bif decide (x13 < (List.length ([] ++ l4) : Int)) then 0 ≤ x13 ∧ x13 < (List.length ([] ++ l4) : Int) ∧ (elL ([] ++ l4) x13 (fun r12 => dI .i64 (ug r12 0) (fun x14 => mO (rGet m3 (.n x14)) (fun r13 => (dI .i64 (ug r13 0) (fun x15 => Q (.t [.u (.p none), .i 1]) []) : Prop)) (PRun Tryz.prog 250 [] [.i x14] (post [.B] [] (fun b4 => (bif !b4 then Q (.t [.u (.p none), .i 1]) [] else I4 (IntKind.wrap .i64 (x13 + 1)) (rSet m3 (.n x14) [.n x6]) ∧ f4 (IntKind.wrap .i64 (x13 + 1)) (rSet m3 (.n x14) [.n x6]) < f4 x13 m3 : Prop))))))) else l3 = [] ∧ (l4 = [] ∧ (elL l2 x6 (fun r14 => elL (List.set l2 (Int.toNat x6) (usp r14 1 [.l 1 []])) x6 (fun r15 => I2 (IntKind.wrap .i64 (x6 + 1)) m3 (List.set (List.set l2 (Int.toNat x6) (usp r14 1 [.l 1 []])) (Int.toNat x6) (usp r15 2 [.l 1 []])) ∧ f2 (IntKind.wrap .i64 (x6 + 1)) m3 (List.set (List.set l2 (Int.toNat x6) (usp r14 1 [.l 1 []])) (Int.toNat x6) (usp r15 2 [.l 1 []])) < f2 x6 m1 l2))))))) | [] => (l3 = [] ∧ (l4 = [] ∧ (elL l2 x6 (fun r16 => elL (List.set l2 (Int.toNat x6) (usp r16 1 [.l 1 []])) x6 (fun r17 => I2 (IntKind.wrap .i64 (x6 + 1)) m1 (List.set (List.set l2 (Int.toNat x6) (usp r16 1 [.l 1 []])) (Int.toNat x6) (usp r17 2 [.l 1 []])) ∧ f2 (IntKind.wrap .i64 (x6 + 1)) m1 (List.set (List.set l2 (Int.toNat x6) (usp r16 1 [.l 1 []])) (Int.toNat x6) (usp r17 2 [.l 1 []])) < f2 x6 m1 l2))))) : Prop)) : Prop)))))))))) else elL l2 x6 (fun r18 => dI .i64 (ug r18 0) (fun x16 => (bif decide ((List.length l3 : Int) > x16) then Q (.t [.u (.p none), .i 1]) [] else (bif decide ((List.length l4 : Int) > 8) then Q (.t [.u (.p none), .i 1]) [] else (bif decide ((List.length l4 : Int) > 0) then Q (.t [.u (.p none), .i 1]) [] else PRun Tryz.prog 270 [] [.l 1 l3] (post [.B] [] (fun b5 => (bif !b5 then Q (.t [.u (.p none), .i 1]) [] else l3 = [] ∧ (zet [] l4 ∧ (match l4 with | _ :: _ => (∃ (I5 : Int → List (MK × List U) → Prop) (f5 : Int → List (MK × List U) → Nat), I5 0 m1 ∧ (∀ x17 : Int, ∀ m4 : List (MK × List U), I5 x17 m4 → (bif decide (x17 < (List.length ([] ++ l4) : Int)) then 0 ≤ x17 ∧ x17 < (List.length ([] ++ l4) : Int) ∧ (elL ([] ++ l4) x17 (fun r19 => dI .i64 (ug r19 0) (fun x18 => mO (rGet m4 (.n x18)) (fun r20 => (dI .i64 (ug r20 0) (fun x19 => Q (.t [.u (.p none), .i 1]) []) : Prop)) (PRun Tryz.prog 250 [] [.i x18] (post [.B] [] (fun b6 => (bif !b6 then Q (.t [.u (.p none), .i 1]) [] else I5 (IntKind.wrap .i64 (x17 + 1)) (rSet m4 (.n x18) [.n x6]) ∧ f5 (IntKind.wrap .i64 (x17 + 1)) (rSet m4 (.n x18) [.n x6]) < f5 x17 m4 : Prop))))))) else l3 = [] ∧ (l4 = [] ∧ (elL l2 x6 (fun r21 => elL (List.set l2 (Int.toNat x6) (usp r21 1 [.l 1 []])) x6 (fun r22 => I2 (IntKind.wrap .i64 (x6 + 1)) m4 (List.set (List.set l2 (Int.toNat x6) (usp r21 1 [.l 1 []])) (Int.toNat x6) (usp r22 2 [.l 1 []])) ∧ f2 (IntKind.wrap .i64 (x6 + 1)) m4 (List.set (List.set l2 (Int.toNat x6) (usp r21 1 [.l 1 []])) (Int.toNat x6) (usp r22 2 [.l 1 []])) < f2 x6 m1 l2))))))) | [] => (l3 = [] ∧ (l4 = [] ∧ (elL l2 x6 (fun r23 => elL (List.set l2 (Int.toNat x6) (usp r23 1 [.l 1 []])) x6 (fun r24 => I2 (IntKind.wrap .i64 (x6 + 1)) m1 (List.set (List.set l2 (Int.toNat x6) (usp r23 1 [.l 1 []])) (Int.toNat x6) (usp r24 2 [.l 1 []])) ∧ f2 (IntKind.wrap .i64 (x6 + 1)) m1 (List.set (List.set l2 (Int.toNat x6) (usp r23 1 [.l 1 []])) (Int.toNat x6) (usp r24 2 [.l 1 []])) < f2 x6 m1 l2))))) : Prop)) : Prop))))))))))))))) else Q (.t [.r 0 0, .i 0]) [.c [.w 1, .m 2], .w 331 3 l2, .p .n 1 false m1])))))) : PRun Tryz.prog 190 [] [.l 4 l, .l 2 lines] Q :=
 zav mixIa2 Tryz.func190 (by kernel_rfl) (H := ⟨[((190, 5, 3), ⟨[(35, .I)], [(0, .mp .n 1 false), (2, .row 331 3)]⟩), ((190, 12, 5), ⟨[(98, .I)], [(0, .mp .n 1 false)]⟩), ((269, 5, 2), ⟨[(17, .I)], [(1, .c [.ow 331 3, .m 0])]⟩)], [], [269], [], [], true, 64, KN.no, false, (spCl0 cl0_S)⟩) (n := 3) (by kernel_rfl) hh
theorem S114 {b_0 : List (List U)} {b_1 : List (MK × List U)} {Q : V → Mem → Prop} (hh : ∃ (I1 : List (List U) → Int → Prop) (f1 : List (List U) → Int → Nat), I1 [] 0 ∧ (∀ l1 : List (List U), ∀ x1 : Int, I1 l1 x1 → (bif decide (x1 < (List.length b_0 : Int)) then 0 ≤ x1 ∧ x1 < (List.length b_0 : Int) ∧ (elL b_0 x1 (fun r1 => dI .i64 (ug r1 0) (fun x2 => dL 1 (ug r1 1) (fun l2 => dL 1 (ug r1 2) (fun l3 => l2 = [] ∧ (l3 = [] ∧ (zet l1 [[.l 1 [], .l 1 []]] ∧ (I1 (l1 ++ [[.l 1 [], .l 1 []]]) (IntKind.wrap .i64 (x1 + 1)) ∧ f1 (l1 ++ [[.l 1 [], .l 1 []]]) (IntKind.wrap .i64 (x1 + 1)) < f1 l1 x1)))))))) else Q (.l 2 l1) [.c [.w 1, .m 2], .w 331 3 b_0, .p .n 1 false b_1]))) : PRun Tryz.prog 114 [.c [.w 1, .m 2], .w 331 3 b_0, .p .n 1 false b_1] [.r 0 0] Q :=
 zav mixIa2 Tryz.func114 (by kernel_rfl) (H := ⟨[((114, 5, 3), ⟨[(3, .one (.ow 197 2)), (14, .I)], []⟩)], [], [209], [], [], false, 64, KN.no, false, (spCl0 cl0_S)⟩) (n := 3) (by kernel_rfl) hh
end
section
set_option maxRecDepth 100000
theorem mixIa1 : Tryz.prog.follows .mixedOrders = true := by kernel_rfl
theorem S7 {c_0 : Int} {c_1 : List (List U)} {c_2 : Int} {c_3 : List (List U)} {c_4 : Int} {c_5 : Int} {c_6 : Int} {c_7 : Int} {Q : V → Mem → Prop} (hh : PRun Tryz.prog 29 [] [.a [.i c_0, .l 7 c_1, .i c_2, .l 4 c_3, .i c_4, .i c_5, .i c_6, .i c_7]] (post [.I] [] (fun x1 => (bif x1 != 0 then Q (.t [.u (.p none), .i x1]) [] else 0 ≤ IntKind.wrap .i64 (2 * (List.length c_3 : Int)) ∧ IntKind.wrap .i64 (2 * (List.length c_3 : Int)) ≤ 1000000 ∧ IntKind.wrap .i64 (2 * (List.length c_3 : Int)) = IntKind.wrap .i64 (2 * (List.length c_3 : Int)) ∧ (∃ (I1 : Int → Int → Int → List (List U) → List (List U) → List (List U) → List (List U) → List (List U) → List (List U) → Int → List (List U) → List (List U) → List (List U) → List (List U) → List (List U) → Int → List (List U) → Prop) (f1 : Int → Int → Int → List (List U) → List (List U) → List (List U) → List (List U) → List (List U) → List (List U) → Int → List (List U) → List (List U) → List (List U) → List (List U) → List (List U) → Int → List (List U) → Nat), I1 0 0 0 [] [] [] [] [] [] 1 (List.replicate (Int.toNat (IntKind.wrap .i64 (2 * (List.length c_3 : Int)))) ([.l 1 [], .l 1 []] : List U)) [] [] [] [] 1 [] ∧ (∀ x2 : Int, ∀ x3 : Int, ∀ x4 : Int, ∀ l1 : List (List U), ∀ l2 : List (List U), ∀ l3 : List (List U), ∀ l4 : List (List U), ∀ l5 : List (List U), ∀ l6 : List (List U), ∀ x5 : Int, ∀ l7 : List (List U), ∀ l8 : List (List U), ∀ l9 : List (List U), ∀ l10 : List (List U), ∀ l11 : List (List U), ∀ x6 : Int, ∀ l12 : List (List U), I1 x2 x3 x4 l1 l2 l3 l4 l5 l6 x5 l7 l8 l9 l10 l11 x6 l12 → (bif decide (x2 < IntKind.wrap .i64 (c_4 + 1)) then zet l4 [[.n x2, .n 0]] ∧ (I1 (IntKind.wrap .i64 (x2 + 1)) x3 x4 l1 l2 l3 (l4 ++ [[.n x2, .n 0]]) l5 l6 x5 l7 l8 l9 l10 l11 x6 l12 ∧ f1 (IntKind.wrap .i64 (x2 + 1)) x3 x4 l1 l2 l3 (l4 ++ [[.n x2, .n 0]]) l5 l6 x5 l7 l8 l9 l10 l11 x6 l12 < f1 x2 x3 x4 l1 l2 l3 l4 l5 l6 x5 l7 l8 l9 l10 l11 x6 l12) else ∃ X1 : Ob, PRun Tryz.prog 30 [] [.a [.i c_0, .l 7 c_1, .i c_2, .l 4 c_3, .i c_4, .i c_5, .i c_6, .i c_7], .a [.i x3, .i x4, .l 2 l1, .l 2 l2, .l 2 l3, .l 2 l4, .l 5 l5, .l 9 l6, .i x5, .l 2 l7, .l 16 l8, .l 19 l9, .l 2 l10, .l 3 l11, .i x6, .l 4 l12]] (fun x m => x = .t [.r 0 0, .i 0] ∧ m = [.o X1]) ∧ (Q (.t [.r 0 0, .i 0]) [.o X1])))) : Prop)))) : PRun Tryz.prog 7 [] [.a [.i c_0, .l 7 c_1, .i c_2, .l 4 c_3, .i c_4, .i c_5, .i c_6, .i c_7]] Q :=
 zav mixIa1 Tryz.func7 (by kernel_rfl) (H := ⟨[((7, 6, 3), ⟨[(21, .I)], [(2, .c [.i .i64, .i .i64, .ow 102 2, .ow 102 2, .ow 102 2, .ow 104 2, .ow 160 5, .ow 31 9, .i .i64, .ow 197 2, .ow 147 16, .ow 38 19, .ow 202 2, .ow 139 3, .i .i64, .ow 205 4])]⟩)], [], [], [], [], true, 64, KN.no, false, (spNew Tryz.prog 30 [27, 63])⟩) (n := 2) (by kernel_rfl) hh
theorem S11 {c_0 : Int} {c_1 : List (List U)} {c_2 : Int} {c_3 : List (List U)} {c_4 : Int} {c_5 : Int} {c_6 : Int} {c_7 : Int} {Q : V → Mem → Prop} (hh : 0 ≤ IntKind.wrap .i64 (2 * (List.length c_3 : Int)) ∧ IntKind.wrap .i64 (2 * (List.length c_3 : Int)) ≤ 1000000 ∧ IntKind.wrap .i64 (2 * (List.length c_3 : Int)) = IntKind.wrap .i64 (2 * (List.length c_3 : Int)) ∧ (∃ (I1 : Int → Int → Int → List (List U) → List (List U) → List (List U) → List (List U) → List (List U) → List (List U) → Int → List (List U) → List (List U) → List (List U) → List (List U) → List (List U) → Int → List (List U) → Prop) (f1 : Int → Int → Int → List (List U) → List (List U) → List (List U) → List (List U) → List (List U) → List (List U) → Int → List (List U) → List (List U) → List (List U) → List (List U) → List (List U) → Int → List (List U) → Nat), I1 0 0 0 [] [] [] [] [] [] 1 (List.replicate (Int.toNat (IntKind.wrap .i64 (2 * (List.length c_3 : Int)))) ([.l 1 [], .l 1 []] : List U)) [] [] [] [] 1 [] ∧ (∀ x1 : Int, ∀ x2 : Int, ∀ x3 : Int, ∀ l1 : List (List U), ∀ l2 : List (List U), ∀ l3 : List (List U), ∀ l4 : List (List U), ∀ l5 : List (List U), ∀ l6 : List (List U), ∀ x4 : Int, ∀ l7 : List (List U), ∀ l8 : List (List U), ∀ l9 : List (List U), ∀ l10 : List (List U), ∀ l11 : List (List U), ∀ x5 : Int, ∀ l12 : List (List U), I1 x1 x2 x3 l1 l2 l3 l4 l5 l6 x4 l7 l8 l9 l10 l11 x5 l12 → (bif decide (x1 ≤ c_4) then zet l4 [[.n x1, .n 0]] ∧ (I1 (IntKind.wrap .i64 (x1 + 1)) x2 x3 l1 l2 l3 (l4 ++ [[.n x1, .n 0]]) l5 l6 x4 l7 l8 l9 l10 l11 x5 l12 ∧ f1 (IntKind.wrap .i64 (x1 + 1)) x2 x3 l1 l2 l3 (l4 ++ [[.n x1, .n 0]]) l5 l6 x4 l7 l8 l9 l10 l11 x5 l12 < f1 x1 x2 x3 l1 l2 l3 l4 l5 l6 x4 l7 l8 l9 l10 l11 x5 l12) else Q (.a [.i x2, .i x3, .l 2 l1, .l 2 l2, .l 2 l3, .l 2 l4, .l 5 l5, .l 9 l6, .i x4, .l 2 l7, .l 16 l8, .l 19 l9, .l 2 l10, .l 3 l11, .i x5, .l 4 l12]) [])))) : PRun Tryz.prog 11 [] [.a [.i c_0, .l 7 c_1, .i c_2, .l 4 c_3, .i c_4, .i c_5, .i c_6, .i c_7]] Q :=
 zav mixIa1 Tryz.func11 (by kernel_rfl) (H := ⟨[((11, 3, 4), ⟨[(4, .I)], [(3, .c [.i .i64, .i .i64, .ow 102 2, .ow 102 2, .ow 102 2, .ow 104 2, .ow 160 5, .ow 31 9, .i .i64, .ow 197 2, .ow 147 16, .ow 38 19, .ow 202 2, .ow 139 3, .i .i64, .ow 205 4])]⟩)], [], [], [], [], false, 64, KN.no, false, SP.no⟩) (n := 2) (by kernel_rfl) hh
end
section
set_option maxRecDepth 100000
theorem mixIa3 : Tryz.prog.follows .mixedOrders = true := by kernel_rfl
theorem S261 {c_0 : Int} {c_1 : List (List U)} {c_2 : Int} {c_3 : List (List U)} {c_4 : Int} {c_5 : Int} {c_6 : Int} {c_7 : Int} {w_5 : List (List U)} {w_9 : List (List U)} {Q : V → Mem → Prop} (hh : ∃ X1 : Ob, PRun Tryz.prog 93 [] [.l 2 w_5] (fun x m => x = .t [.r 0 0, .i 0] ∧ m = [.o X1]) ∧ (PRun Tryz.prog 50 [.o X1] [.r 0 0] (post [.L 2] [.A] (fun l1 X2 => (PRun Tryz.prog 307 [] [.l 2 l1, .l 2 w_5] (post [.B] [] (fun b1 => (bif !b1 then Q (.u (.b false)) [] else ∃ (I1 : Int → Ob → Prop) (f1 : Int → Ob → Nat), I1 0 X2 ∧ (∀ x1 : Int, ∀ X3 : Ob, I1 x1 X3 → (bif decide (x1 < IntKind.wrap .i64 (c_4 + 1)) then PRun Tryz.prog 136 [.o X3] [.r 0 0, .i x1] (post [.I, .I] [.A] (fun x2 x3 X4 => (bif x3 != 0 then Q (.u (.b false)) [] else I1 (IntKind.wrap .i64 (x1 + 1)) X4 ∧ f1 (IntKind.wrap .i64 (x1 + 1)) X4 < f1 x1 X3 : Prop))) else Q (.u (.b true)) [])) : Prop))) : Prop))))) : PRun Tryz.prog 261 [] [.a [.i c_0, .l 7 c_1, .i c_2, .l 4 c_3, .i c_4, .i c_5, .i c_6, .i c_7], .a [.i 0, .i 0, .l 2 [], .l 2 [], .l 2 [], .l 2 w_5, .l 5 [], .l 9 [], .i 1, .l 2 w_9, .l 16 [], .l 19 [], .l 2 [], .l 3 [], .i 1, .l 4 []]] Q :=
 zav mixIa3 Tryz.func261 (by kernel_rfl) (H := ⟨[((261, 5, 3), ⟨[(33, .I)], [(2, .A)]⟩)], [], [51, 52, 94, 98, 112, 113, 189, 204, 205, 207, 208, 277, 278, 308, 309, 310, 311, 350, 351], [], [], false, 64, KN.no, false, (spNew Tryz.prog 93 [53])⟩) (n := 7) (by kernel_rfl) hh
theorem S262 {c_0 : Int} {c_1 : List (List U)} {c_2 : Int} {c_3 : List (List U)} {c_4 : Int} {c_5 : Int} {c_6 : Int} {c_7 : Int} {w_5 : List (List U)} {w_9 : List (List U)} {Q : V → Mem → Prop} (hh : ∃ X1 : Ob, PRun Tryz.prog 190 [] [.l 4 c_3, .l 2 w_9] (fun x m => x = .t [.r 0 0, .i 0] ∧ m = [.o X1]) ∧ (PRun Tryz.prog 314 [.c [.i 0, .i 0, .l 2 [], .l 2 [], .l 2 [], .l 2 w_5, .l 5 [], .l 9 [], .i 1, .l 2 w_9, .l 16 [], .l 19 [], .l 2 [], .l 3 [], .i 1, .l 4 []]] [.l 3 [], .f 315 [] [.r 0 0]] (post [.B] [.c [.i .i64, .i .i64, .l 2, .l 2, .l 2, .l 2, .l 5, .l 9, .i .i64, .l 2, .l 16, .l 19, .l 2, .l 3, .i .i64, .l 4]] (fun b1 x1 x2 l1 l2 l3 l4 l5 l6 x3 l7 l8 l9 l10 l11 x4 l12 => (Q (.u (.b b1)) [] : Prop))))) : PRun Tryz.prog 262 [] [.a [.i c_0, .l 7 c_1, .i c_2, .l 4 c_3, .i c_4, .i c_5, .i c_6, .i c_7], .a [.i 0, .i 0, .l 2 [], .l 2 [], .l 2 [], .l 2 w_5, .l 5 [], .l 9 [], .i 1, .l 2 w_9, .l 16 [], .l 19 [], .l 2 [], .l 3 [], .i 1, .l 4 []]] Q :=
 zav mixIa3 Tryz.func262 (by kernel_rfl) (H := ⟨[], [], [96, 97, 312, 352], [], [], false, 64, KN.no, false, (spNew Tryz.prog 190 [23, 56])⟩) (n := 4) (by kernel_rfl) hh
theorem S182 {c_0 : Int} {c_1 : List (List U)} {c_2 : Int} {c_3 : List (List U)} {c_4 : Int} {c_5 : Int} {c_6 : Int} {c_7 : Int} {w_5 : List (List U)} {w_9 : List (List U)} {Q : V → Mem → Prop} (hh : PRun Tryz.prog 260 [] [.l 2 [], .i c_0] (post [.B] [] (fun b1 => (bif b1 then PRun Tryz.prog 260 [] [.l 2 [], .i c_0] (post [.B] [] (fun b2 => (bif b2 then PRun Tryz.prog 260 [] [.l 2 [], .i c_0] (post [.B] [] (fun b3 => (bif b3 then PRun Tryz.prog 261 [] [.a [.i c_0, .l 7 c_1, .i c_2, .l 4 c_3, .i c_4, .i c_5, .i c_6, .i c_7], .a [.i 0, .i 0, .l 2 [], .l 2 [], .l 2 [], .l 2 w_5, .l 5 [], .l 9 [], .i 1, .l 2 w_9, .l 16 [], .l 19 [], .l 2 [], .l 3 [], .i 1, .l 4 []]] (post [.B] [] (fun b4 => (bif b4 then PRun Tryz.prog 262 [] [.a [.i c_0, .l 7 c_1, .i c_2, .l 4 c_3, .i c_4, .i c_5, .i c_6, .i c_7], .a [.i 0, .i 0, .l 2 [], .l 2 [], .l 2 [], .l 2 w_5, .l 5 [], .l 9 [], .i 1, .l 2 w_9, .l 16 [], .l 19 [], .l 2 [], .l 3 [], .i 1, .l 4 []]] (post [.B] [] (fun b5 => (Q (.u (.b b5)) [] : Prop))) else Q (.u (.b false)) [] : Prop))) else Q (.u (.b false)) [] : Prop))) else Q (.u (.b false)) [] : Prop))) else Q (.u (.b false)) [] : Prop)))) : PRun Tryz.prog 182 [] [.a [.i c_0, .l 7 c_1, .i c_2, .l 4 c_3, .i c_4, .i c_5, .i c_6, .i c_7], .a [.i 0, .i 0, .l 2 [], .l 2 [], .l 2 [], .l 2 w_5, .l 5 [], .l 9 [], .i 1, .l 2 w_9, .l 16 [], .l 19 [], .l 2 [], .l 3 [], .i 1, .l 4 []]] Q :=
 zav mixIa3 Tryz.func182 (by kernel_rfl) (H := ⟨[], [], [], [], [], false, 64, KN.no, false, SP.no⟩) (n := 2) (by kernel_rfl) hh
theorem S92 {c_0 : Int} {c_1 : List (List U)} {c_2 : Int} {c_3 : List (List U)} {c_4 : Int} {c_5 : Int} {c_6 : Int} {c_7 : Int} {w_5 : List (List U)} {w_9 : List (List U)} {Q : V → Mem → Prop} (hh : PRun Tryz.prog 29 [] [.a [.i c_0, .l 7 c_1, .i c_2, .l 4 c_3, .i c_4, .i c_5, .i c_6, .i c_7]] (post [.I] [] (fun x1 => (bif x1 == 0 then PRun Tryz.prog 182 [] [.a [.i c_0, .l 7 c_1, .i c_2, .l 4 c_3, .i c_4, .i c_5, .i c_6, .i c_7], .a [.i 0, .i 0, .l 2 [], .l 2 [], .l 2 [], .l 2 w_5, .l 5 [], .l 9 [], .i 1, .l 2 w_9, .l 16 [], .l 19 [], .l 2 [], .l 3 [], .i 1, .l 4 []]] (post [.B] [] (fun b1 => (bif !b1 then Q (.i 1) [] else Q (.i x1) [] : Prop))) else Q (.i x1) [] : Prop)))) : PRun Tryz.prog 92 [] [.a [.i c_0, .l 7 c_1, .i c_2, .l 4 c_3, .i c_4, .i c_5, .i c_6, .i c_7], .a [.i 0, .i 0, .l 2 [], .l 2 [], .l 2 [], .l 2 w_5, .l 5 [], .l 9 [], .i 1, .l 2 w_9, .l 16 [], .l 19 [], .l 2 [], .l 3 [], .i 1, .l 4 []]] Q :=
 zav mixIa3 Tryz.func92 (by kernel_rfl) (H := ⟨[], [], [], [], [], false, 64, KN.no, false, SP.no⟩) (n := 2) (by kernel_rfl) hh
theorem S30 {c_0 : Int} {c_1 : List (List U)} {c_2 : Int} {c_3 : List (List U)} {c_4 : Int} {c_5 : Int} {c_6 : Int} {c_7 : Int} {x_5 : List (List U)} {x_9 : List (List U)} {Q : V → Mem → Prop} (hh : PRun Tryz.prog 92 [] [.a [.i c_0, .l 7 c_1, .i c_2, .l 4 c_3, .i c_4, .i c_5, .i c_6, .i c_7], .a [.i 0, .i 0, .l 2 [], .l 2 [], .l 2 [], .l 2 x_5, .l 5 [], .l 9 [], .i 1, .l 2 x_9, .l 16 [], .l 19 [], .l 2 [], .l 3 [], .i 1, .l 4 []]] (post [.I] [] (fun x1 => (bif x1 != 0 then Q (.t [.u (.p none), .i x1]) [] else ∃ X1 : Ob, PRun Tryz.prog 93 [] [.l 2 x_5] (fun x m => x = .t [.r 0 0, .i 0] ∧ m = [.o X1]) ∧ (PRun Tryz.prog 29 [] [.a [.i c_0, .l 7 c_1, .i c_2, .l 4 c_3, .i c_4, .i c_5, .i c_6, .i c_7]] (post [.I] [] (fun x2 => (bif x2 != 0 then PRun Tryz.prog 29 [] [.a [.i c_0, .l 7 c_1, .i c_2, .l 4 c_3, .i c_4, .i c_5, .i c_6, .i c_7]] (post [.I] [] (fun x3 => (bif x3 != 0 then (bif x2 != 0 then Q (.t [.u (.p none), .i 1]) [] else (bif x3 != 0 then Q (.t [.u (.p none), .i 1]) [] else Q (.t [.r 0 0, .i 0]) [.c [.r 1 0, .r 2 0, .r 3 0, .r 5 0, .r 6 0, .u (.p none), .u (.p none), .i 0, .l 2 [], .l 2 [], .l 2 [], .i c_0, .l 7 c_1, .i c_2, .l 4 c_3, .i c_4, .i c_5, .i c_6, .i c_7, .i 0], .o X1, .c [.nl 5, .n .i64 33 (List.replicate 33 0)], .c [.nl 3, .m 4, .i 256, .i 1], .p .n 1 false [], .c [.nl 4, .nm], .c [.nl 1]])) else PRun Tryz.prog 194 [] [.l 19 []] (post [.L 19] [] (fun l1 => (bif x2 != 0 then Q (.t [.u (.p none), .i 1]) [] else Q (.t [.r 0 0, .i 0]) [.c [.r 1 0, .r 2 0, .r 3 0, .r 5 0, .r 6 0, .u (.p none), .r 7 0, .i 0, .l 2 [], .l 2 [], .l 2 [], .i c_0, .l 7 c_1, .i c_2, .l 4 c_3, .i c_4, .i c_5, .i c_6, .i c_7, .i 0], .o X1, .c [.nl 5, .n .i64 33 (List.replicate 33 0)], .c [.nl 3, .m 4, .i 256, .i 1], .p .n 1 false [], .c [.nl 4, .nm], .c [.nl 1], .c [.i c_0, .l 7 c_1, .i c_2, .l 4 c_3, .i c_4, .i c_5, .i c_6, .i c_7, .r 1 0, .r 2 0, .r 3 0, .r 5 0, .l 19 l1]] : Prop))) : Prop))) else ∃ X2 : Ob, PRun Tryz.prog 190 [] [.l 4 c_3, .l 2 x_9] (fun x m => x = .t [.r 0 0, .i 0] ∧ m = [.o X2]) ∧ (PRun Tryz.prog 192 [] [.l 16 []] (post [.L 16] [] (fun l2 => (PRun Tryz.prog 29 [] [.a [.i c_0, .l 7 c_1, .i c_2, .l 4 c_3, .i c_4, .i c_5, .i c_6, .i c_7]] (post [.I] [] (fun x4 => (bif x4 != 0 then (bif x4 != 0 then Q (.t [.u (.p none), .i 1]) [] else Q (.t [.r 0 0, .i 0]) [.c [.r 1 0, .r 2 0, .r 3 0, .r 5 0, .r 6 0, .r 7 0, .u (.p none), .i 0, .l 2 [], .l 2 [], .l 2 [], .i c_0, .l 7 c_1, .i c_2, .l 4 c_3, .i c_4, .i c_5, .i c_6, .i c_7, .i 0], .o X1, .c [.nl 5, .n .i64 33 (List.replicate 33 0)], .c [.nl 3, .m 4, .i 256, .i 1], .p .n 1 false [], .c [.nl 4, .nm], .c [.nl 1], .c [.i c_0, .l 7 c_1, .i c_2, .l 4 c_3, .i c_4, .i c_5, .i c_6, .i c_7, .r 1 0, .r 2 0, .r 3 0, .r 5 0, .r 8 0, .r 9 0, .l 16 l2], .c [.nl 13, .i 0], .o X2]) else PRun Tryz.prog 194 [] [.l 19 []] (post [.L 19] [] (fun l3 => (Q (.t [.r 0 0, .i 0]) [.c [.r 1 0, .r 2 0, .r 3 0, .r 5 0, .r 6 0, .r 7 0, .r 10 0, .i 0, .l 2 [], .l 2 [], .l 2 [], .i c_0, .l 7 c_1, .i c_2, .l 4 c_3, .i c_4, .i c_5, .i c_6, .i c_7, .i 0], .o X1, .c [.nl 5, .n .i64 33 (List.replicate 33 0)], .c [.nl 3, .m 4, .i 256, .i 1], .p .n 1 false [], .c [.nl 4, .nm], .c [.nl 1], .c [.i c_0, .l 7 c_1, .i c_2, .l 4 c_3, .i c_4, .i c_5, .i c_6, .i c_7, .r 1 0, .r 2 0, .r 3 0, .r 5 0, .r 8 0, .r 9 0, .l 16 l2], .c [.nl 13, .i 0], .o X2, .c [.i c_0, .l 7 c_1, .i c_2, .l 4 c_3, .i c_4, .i c_5, .i c_6, .i c_7, .r 1 0, .r 2 0, .r 3 0, .r 5 0, .l 19 l3]] : Prop))) : Prop))) : Prop)))) : Prop)))) : Prop)))) : PRun Tryz.prog 30 [] [.a [.i c_0, .l 7 c_1, .i c_2, .l 4 c_3, .i c_4, .i c_5, .i c_6, .i c_7], .a [.i 0, .i 0, .l 2 [], .l 2 [], .l 2 [], .l 2 x_5, .l 5 [], .l 9 [], .i 1, .l 2 x_9, .l 16 [], .l 19 [], .l 2 [], .l 3 [], .i 1, .l 4 []]] Q :=
 zav mixIa3 Tryz.func30 (by kernel_rfl) (H := ⟨[], [], [94, 95, 96, 97, 98, 99, 100, 189], [], [], true, 64, KN.no, false, ((spNew Tryz.prog 93 [53]).or (spNew Tryz.prog 190 [23, 56]))⟩) (n := 4) (by kernel_rfl) hh
end
section
open Go.Shelf
variable {Q : V → Mem → Prop}
structure Bl where
 makes : Int
 per : Int
 time : Int
 needs : List Stk
 copy : Int
 study : Int
 most : Int
def eB (b : Bl) : List U := [.n b.makes, .n b.per, .n b.time, .l 2 (b.needs.map eS), .n b.copy, .n b.study, .n b.most]
abbrev aB (b : Bl) : V := .a [.i b.makes, .i b.per, .i b.time, .l 2 (b.needs.map eS), .i b.copy, .i b.study, .i b.most]
structure Bl.Rg (b : Bl) : Prop where
 r : rng b.needs
 n : b.needs.length ≤ 1000
def zi0 (b : Bl) (types : Int) : List Bnd := [(types, 0, 32), (b.makes, 1, types), (b.per, 1, 1048576), (b.time, 1, 1048576), (b.copy, 0, 1048576), (b.study, 0, 1048576), (b.most, 1, 1000)]
noncomputable def zjz (b : Bl) (types : Int) : Int := if inAll (zi0 b types) = true ∧ chkE b.needs types = 0 ∧ ¬ 0 < cntN b.needs b.makes then 0 else 1
structure BlueOK (b : Bl) (types : Int) : Prop where
 ty : 0 ≤ types ∧ types ≤ 32
 makes : 1 ≤ b.makes ∧ b.makes ≤ types
 per : 1 ≤ b.per ∧ b.per ≤ 1048576
 time : 1 ≤ b.time ∧ b.time ≤ 1048576
 copy : 0 ≤ b.copy ∧ b.copy ≤ 1048576
 study : 0 ≤ b.study ∧ b.study ≤ 1048576
 most : 1 ≤ b.most ∧ b.most ≤ 1000
 needs : CheckOK b.needs types
 self : ¬ 0 < cntN b.needs b.makes
theorem inAll_B {b : Bl} {types : Int} : inAll (zi0 b types) = true ↔ (0 ≤ types ∧ types ≤ 32) ∧ (1 ≤ b.makes ∧ b.makes ≤ types) ∧ (1 ≤ b.per ∧ b.per ≤ 1048576) ∧ (1 ≤ b.time ∧ b.time ≤ 1048576) ∧ (0 ≤ b.copy ∧ b.copy ≤ 1048576) ∧ (0 ≤ b.study ∧ b.study ≤ 1048576) ∧ 1 ≤ b.most ∧ b.most ≤ 1000 := by
 simp only [inAll, zi0, List.all_cons, List.all_nil, Bool.and_true, Bool.and_eq_true, inn_iff]
theorem blueE_ok {b : Bl} {types : Int} : zjz b types = 0 ↔ BlueOK b types := by
 unfold zjz
 constructor
 · intro h
   split at h
   · rename_i hh
     obtain ⟨h1, h2, h3⟩ := hh
     obtain ⟨a1, a2, a3, a4, a5, a6, a7⟩ := inAll_B.1 h1
     exact ⟨a1, a2, a3, a4, a5, a6, a7, chkE_iff.1 h2, h3⟩
   · cases h
 · intro ⟨a1, a2, a3, a4, a5, a6, a7, h2, h3⟩
   rw [if_pos ⟨inAll_B.2 ⟨a1, a2, a3, a4, a5, a6, a7⟩, chkE_iff.2 h2, h3⟩]
theorem blueE_01 (b : Bl) (types : Int) : zjz b types = 0 ∨ zjz b types = 1 := by unfold zjz; split <;> simp
section
variable {b : Bl} {types : Int}
theorem pBlue_S (hb : b.Rg) (k : Q (.i (zjz b types)) []) : PRun Tryz.prog 176 [] [aB b, .i types] Q := by
 have bad : ¬ (inAll (zi0 b types) = true ∧ chkE b.needs types = 0 ∧ ¬ 0 < cntN b.needs b.makes) → Q (.i 1) [] := fun h => by unfold zjz at k; rwa [if_neg h] at k
 refine S176 (fits_S (L := zi0 b types) (by simp [zi0]) ?_)
 rw [zau]
 refine zjm (cB (fun h1 => pCheck_S (by have := hb.n; omega) ?_) fun h1 => bad (by simp [h1]))
 rw [zcj]
 refine cNe (fun h2 => bad (by simp [h2])) fun h2 => pCount_S hb.r hb.n ?_
 rw [zcj]
 refine cIf (fun h3 => bad fun h => h.2.2 h3) fun h3 => ?_
 unfold zjz at k; rwa [if_pos ⟨h1, h2, h3⟩] at k
theorem rBlue_S (hb : b.Rg) (k : Q (.i (zjz b types)) []) : PRun Tryz.prog 33 [] [aB b, .i types] Q := by
 have bad : ¬ BlueOK b types → Q (.i 1) [] := fun h => by rwa [(blueE_01 b types).resolve_left fun h0 => h (blueE_ok.1 h0)] at k
 refine S33 (in3_S ?_)
 rw [zau]
 refine zjm (cB (fun a1 => in3_S ?_) fun h => bad fun o => by simp [inn, o.ty] at h)
 rw [zau]
 refine zjm (cB (fun a2 => in3_S ?_) fun h => bad fun o => by simp [inn, o.makes] at h)
 rw [zau]
 refine zjm (cB (fun a3 => in3_S ?_) fun h => bad fun o => by simp [inn, o.per] at h)
 rw [zau]
 refine zjm (cB (fun a4 => in3_S ?_) fun h => bad fun o => by simp [inn, o.time] at h)
 rw [zau]
 refine zjm (cB (fun a5 => in3_S ?_) fun h => bad fun o => by simp [inn, o.copy] at h)
 rw [zau]
 refine zjm (cB (fun a6 => in3_S ?_) fun h => bad fun o => by simp [inn, o.study] at h)
 rw [zau]
 refine zjm (cB (fun a7 => rCheck_S hb.r hb.n ?_) fun h => bad fun o => by simp [inn, o.most] at h)
 rw [zcj]
 refine cNe (fun h2 => bad fun o => h2 (chkE_iff.2 o.needs)) fun h2 => rCount_S hb.r hb.n ?_
 rw [zcj]
 refine cIf (fun h3 => bad fun o => o.self h3) fun h3 => ?_
 rwa [blueE_ok.2 ⟨inn_iff.1 a1, inn_iff.1 a2, inn_iff.1 a3, inn_iff.1 a4, inn_iff.1 a5, inn_iff.1 a6, inn_iff.1 a7, chkE_iff.1 h2, h3⟩] at k
end
end
section
variable {Q : V → Mem → Prop}
open Classical in
noncomputable def ordG (n : Int) (L : List Stk) : List Int := if h : ∃ out, Greedy L n out ∧ ∀ k, ¬ Nx1 L n out k then h.choose else []
theorem zin {n : Int} {L : List Stk} {out : List Int} (hG : Greedy L n out) (hN : ∀ k, ¬ Nx1 L n out k) : ordG n L = out := by
 have h : ∃ out, Greedy L n out ∧ ∀ k, ¬ Nx1 L n out k := ⟨out, hG, hN⟩
 unfold ordG
 rw [dif_pos h]
 obtain ⟨g2, n2⟩ := h.choose_spec
 exact g2.same hG (Nat.le_antisymm (hG.max hN g2) (g2.max n2 hG))
open Classical in
noncomputable def zht (n : Int) (L : List Stk) : List Int × Int := if gOK n L then (if ((ordG n L).length : Int) < n then ([], 9) else (ordG n L, 0)) else ([], 1)
abbrev vIE (r : List Int × Int) : V := .t [.l 1 (r.1.map eI), .i r.2]
open Classical in
theorem rMay_S {n : Int} {L : List Stk} (hL : L.length ≤ 1000000) (k : Q (.u (.b (decide (gOK n L)))) []) : PRun Tryz.prog 196 [] [.i n, .l 2 (L.map eS)] Q := by
 have bad : ¬ gOK n L → Q (.u (.b false)) [] := fun h => by rwa [decide_eq_false h] at k
 refine S196 (cIf (fun h => bad fun g => by have := g.n0; omega) fun h1 => cIf (fun h => bad fun g => by have := g.n64; omega) fun h2 => cIf (fun h => bad fun g => by have := g.len; simp at h; omega) fun h3 => ?_)
 simp only [List.length_map] at h3
 refine ⟨AtI L fun t _ => ∀ p ∈ t, inn p.1 1 n = true ∧ inn p.2 1 n = true, zfa L, .zero (by omega) (by simp), ?_⟩
 rintro x ⟨t, _ | ⟨a, l⟩, s, ht⟩
 · rw [s.all] at ht
   rw [s.d0]
   rwa [decide_eq_true ⟨by omega, by omega, by omega, ht⟩] at k
 · have ha : a ∈ L := by rw [s.e]; simp
   have hb : ¬ (inn a.1 1 n = true ∧ inn a.2 1 n = true) → Q (.u (.b false)) [] := fun h => bad fun g => h (g.ok a ha)
   simp only [inn_iff] at hb
   simp only [s.d1, s.el, eS, ug0, ugs, ze6, cond_true]
   refine cIf (fun h => hb (by omega)) fun h1 => cIf (fun h => hb (by omega)) fun h2 => cIf (fun h => hb (by omega)) fun h3 => cIf (fun h => hb (by omega)) fun h4 => s.step fun p hp => ?_
   rcases List.mem_append.1 hp with hp | hp
   · exact ht p hp
   · simp at hp; subst hp; exact ⟨inn_iff.2 (by omega), inn_iff.2 (by omega)⟩
theorem rIn_S {n : Int} {l : List Int} (hl : l.length ≤ 1000000) (k : Q (.u (.b (decide (n ∈ l)))) [.w 3 1 (l.map eI)]) : PRun Tryz.prog 197 [.w 3 1 (l.map eI)] [.w 0, .i n] Q := by
 refine S197w ⟨AtI l fun t _ => n ∉ t, zfa l, .zero (by omega) (by simp), ?_⟩
 rintro x ⟨t, _ | ⟨a, l'⟩, s, ht⟩
 · rw [s.all] at ht
   rw [s.d0]
   rwa [decide_eq_false ht] at k
 · have hlt := s.suf.lt
   rw [s.d1, cond_true]
   refine ⟨hlt.1, by rw [List.length_map]; exact hlt.2, ?_⟩
   simp only [s.el, eI, ug0, ze6]
   refine cEq (fun h => ?_) fun h => s.step (by simp; exact ⟨ht, fun e => h e.symm⟩)
   rwa [decide_eq_true (show n ∈ l by rw [s.e, ← h]; simp)] at k
theorem rOrder_S {n : Int} {L : List Stk} (hL : L.length ≤ 1000000) (k : Q (vIE (zht n L)) []) : PRun Tryz.prog 104 [] [.i n, .l 2 (L.map eS)] Q := by
 classical
 refine S104 (rMay_S hL ?_)
 rw [zau]
 unfold zht at k
 refine zjm (cIf (fun hg => ?_) fun hg => by rwa [if_neg hg] at k)
 rw [if_pos hg] at k
 obtain ⟨g0, g1, g2, g3⟩ := hg
 refine ⟨fun l => ∃ out : List Int, l = out.map eI ∧ Greedy L n out, fun l => 65 - l.length, ⟨[], rfl, .nil⟩, ?_⟩
 rintro _ ⟨out, rfl, hG⟩
 have hol := zcc hG.nodup hG.mem g0
 rw [List.length_map]
 refine cIf (fun hlt => ?_) fun hge => ?_
 rotate_left
 · have hN : ∀ k, ¬ Nx1 L n out k := fun k hk => by
    have h1 : Greedy L n out := hG
    have h2 : (out ++ [k]).Nodup := List.nodup_append.2 ⟨hG.nodup, by simp, fun a ha b hb e => by simp at hb; subst hb; subst e; exact hk.2.2.1 ha⟩
    have := zcc h2 (fun x hx => by
     rcases List.mem_append.1 hx with hx | hx
     · exact hG.mem x hx
     · simp at hx; subst hx; exact ⟨hk.1, hk.2.1⟩) g0
    simp at this
    omega
   rwa [zin hG hN, if_neg hge] at k
 refine ⟨fun y j => 0 ≤ j ∧ j ≤ n ∧ (∀ i, j < i → Nx1 L n out i → y ≠ 0 ∧ y ≤ i) ∧ (y = 0 ∨ Nx1 L n out y), fun _ j => j.toNat, ⟨g0, Int.le_refl _, fun i h1 h2 => by have := h2.2.1; omega, .inl rfl⟩, ?_⟩
 rintro y j ⟨hj0, hj1, hy1, hy2⟩
 refine cIf (fun hj => ?_) fun hj => ?_
 · refine rIn_S (by omega) ?_
   rw [post_Brow]
   refine ⟨rfl, ⟨fun b x => AtI L (fun t _ => b = decide (j ∉ out ∧ ∀ p ∈ t, p.1 = j → p.2 ∈ out)) x, fun _ => zfa L, .zero (by omega) (by simp), ?_⟩⟩
   rintro b x ⟨t, _ | ⟨a, l⟩, s, rfl⟩
   · rw [s.all, s.d0, w64 (x := j - 1) (by omega) (by omega)]
     have hme : (j - 1).toNat < j.toNat := by omega
     rw [cond_false]
     have hnx : (j ∉ out ∧ ∀ p ∈ L, p.1 = j → p.2 ∈ out) ↔ Nx1 L n out j := ⟨fun h => ⟨hj, hj1, h.1, h.2⟩, fun h => h.2.2⟩
     refine cIf (fun h => ?_) fun h => ?_
     · rw [hnx] at h
       refine ⟨⟨by omega, by omega, fun i h1 h2 => ?_, .inr h⟩, hme⟩
       omega
     · rw [hnx] at h
       refine ⟨⟨by omega, by omega, fun i h1 h2 => ?_, hy2⟩, hme⟩
       by_cases hij : i = j
       · subst hij; exact absurd h2 h
       · exact hy1 i (by omega) h2
   · simp only [s.d1, s.el, eS, ug0, ugs, ze6, cond_true]
     refine cIf (fun hb => ?_) fun hb => ?_
     · refine cNe (fun h => s.step ?_) fun h => ?_
       · refine (decide_eq_true ⟨hb.1, fun p hp e => ?_⟩).symm
         rcases List.mem_append.1 hp with hp | hp
         · exact hb.2 p hp e
         · simp at hp; subst hp; exact absurd e h
       · refine rIn_S (by omega) ?_
         rw [post_Brow]
         refine ⟨rfl, s.step ?_⟩
         rw [decide_eq_decide]
         constructor
         · intro hm
           refine ⟨hb.1, fun p hp e => ?_⟩
           rcases List.mem_append.1 hp with hp | hp
           · exact hb.2 p hp e
           · simp at hp; subst hp; exact hm
         · intro hm
           exact hm.2 a (by simp) h
     · refine s.step ?_
       symm
       rw [decide_eq_false_iff_not]
       exact fun hm => hb ⟨hm.1, fun p hp => hm.2 p (by simp [hp])⟩
 · have hj : j = 0 := by omega
   subst hj
   refine cEq (fun h => ?_) fun h => ?_
   · subst h
     have hN : ∀ k, ¬ Nx1 L n out k := fun i hi => (hy1 i (by have := hi.1; omega) hi).1 rfl
     rwa [zin hG hN, if_pos hlt] at k
   · have hy := hy2.resolve_left h
     refine ⟨apOk_l (by simp; omega), ⟨out ++ [y], by simp [eI], .snoc hG hy fun i hi => (hy1 i (by have := hi.1; omega) hi).2⟩, by simp; omega⟩
end
section
variable {Q : V → Mem → Prop}
def zp2 (node : Int) (o : List Int) (x : Int) : List Int := o.set (node - 1).toNat (max (o.getD (node - 1).toNat 0) (o.getD (x - 1).toNat 0 + 1))
def dnode (L : List Stk) (o : List Int) (node : Int) : List Int := (zag L node.toNat).foldl (zp2 node) o
noncomputable def zjw (n : Int) (L : List Stk) : List Int := (ordG n L).foldl (dnode L) (List.replicate n.toNat 0)
noncomputable def zmm (n : Int) (L : List Stk) : List Int × Int := if (zht n L).2 = 0 then (zjw n L, 0) else ([], (zht n L).2)
structure DB (n : Int) (m : Nat) (o : List Int) : Prop where
 len : (o.length : Int) = n
 b : ∀ y ∈ o, 0 ≤ y ∧ y ≤ m
theorem DB.getD {n : Int} {m : Nat} {o : List Int} (d : DB n m o) (k : Nat) : 0 ≤ o.getD k 0 ∧ o.getD k 0 ≤ m := by
 rw [List.getD_eq_getElem?_getD]
 cases h : o[k]? with
 | none => simp
 | some y => exact d.b y (List.mem_of_getElem? h)
theorem DB.step {n : Int} {m : Nat} {o : List Int} (d : DB n m o) (node x : Int) : DB n (m + 1) (zp2 node o x) := by
 refine ⟨by unfold zp2; rw [List.length_set]; exact d.len, fun y hy => ?_⟩
 rcases List.mem_or_eq_of_mem_set hy with h | h
 · have := d.b y h; omega
 · have h1 := d.getD (node - 1).toNat
   have h2 := d.getD (x - 1).toNat
   omega
theorem DB.mono {n : Int} {m m' : Nat} {o : List Int} (d : DB n m o) (h : m ≤ m') : DB n m' o := ⟨d.len, fun y hy => by have := d.b y hy; omega⟩
theorem elI {o : List Int} {i y : Int} {K : Int → Prop} (h0 : 0 ≤ i) (h : o[i.toNat]? = some y) : elL (o.map eI) i (fun r => dI .i64 (ug r 0) K) = K y := by
 rw [zbf (r := eI y) h0 (by rw [List.getElem?_map, h]; rfl)]; rfl
theorem set_eI {o : List Int} {k : Nat} {y : Int} : List.set (o.map eI) k [.n y] = (o.set k y).map eI := by rw [List.map_set]; rfl
theorem get_getD {o : List Int} {k : Nat} (h : k < o.length) : o[k]? = some (o.getD k 0) := by
 rw [List.getElem?_eq_getElem h, List.getD_eq_getElem?_getD, List.getElem?_eq_getElem h]; rfl
theorem step_c {n node x : Int} {m : Nat} {o : List Int} (d : DB n m o) (hm : m ≤ 1000000) (h1 : 1 ≤ node ∧ node ≤ n) (h2 : 1 ≤ x ∧ x ≤ n) (hn : n ≤ 64) {K : List (List U) → Prop} (k : K ((zp2 node o x).map eI)) :
 0 ≤ IntKind.wrap .i64 (node - 1) ∧ IntKind.wrap .i64 (node - 1) < (List.length (o.map eI) : Int) ∧ (elL (o.map eI) (IntKind.wrap .i64 (node - 1)) (fun r3 => dI .i64 (ug r3 0) (fun x6 => 0 ≤ IntKind.wrap .i64 (x - 1) ∧ IntKind.wrap .i64 (x - 1) < (List.length (o.map eI) : Int) ∧ (elL (o.map eI) (IntKind.wrap .i64 (x - 1)) (fun r4 => dI .i64 (ug r4 0) (fun x7 => 0 ≤ IntKind.wrap .i64 (node - 1) ∧ IntKind.wrap .i64 (node - 1) < (List.length (o.map eI) : Int) ∧
   K (List.set (o.map eI) (Int.toNat (IntKind.wrap .i64 (node - 1))) [.n (if IntKind.wrap .i64 (x7 + 1) > x6 then IntKind.wrap .i64 (x7 + 1) else x6)]))))))) := by
 have hl := d.len
 rw [w64 (x := node - 1) (by omega) (by omega), w64 (x := x - 1) (by omega) (by omega), List.length_map]
 have e1 := get_getD (o := o) (k := (node - 1).toNat) (by omega)
 have e2 := get_getD (o := o) (k := (x - 1).toNat) (by omega)
 have b2 := d.getD (x - 1).toNat
 refine ⟨by omega, by omega, ?_⟩
 rw [elI (by omega) e1]
 refine ⟨by omega, by omega, ?_⟩
 rw [elI (by omega) e2]
 refine ⟨by omega, by omega, ?_⟩
 rw [w64 (x := o.getD (x - 1).toNat 0 + 1) (by omega) (by omega), set_eI]
 have : (if o.getD (x - 1).toNat 0 + 1 > o.getD (node - 1).toNat 0 then o.getD (x - 1).toNat 0 + 1 else o.getD (node - 1).toNat 0) = max (o.getD (node - 1).toNat 0) (o.getD (x - 1).toNat 0 + 1) := by split <;> omega
 rw [this]
 exact k
theorem rep_eI (n : Nat) : List.replicate n ([.n 0] : List U) = (List.replicate n (0 : Int)).map eI := by simp [eI]
theorem DB.zero {n : Int} (h : 0 ≤ n) : DB n 0 (List.replicate n.toNat 0) := ⟨by simp; omega, fun y hy => by have := List.eq_of_mem_replicate hy; omega⟩
theorem needs_mem {L : List Stk} {k : Nat} {x : Int} (h : x ∈ zag L k) : ∃ p ∈ L, p.1 = k ∧ p.2 = x := by
 obtain ⟨p, hp, e⟩ := List.mem_map.1 h
 obtain ⟨h1, h2⟩ := List.mem_filter.1 hp
 exact ⟨p, h1, by simpa using h2, e⟩
theorem pDeep_S {n : Int} {L : List Stk} (k : Q (vIE (zmm n L)) []) : PRun Tryz.prog 89 [] [.i n, .l 2 (L.map eS)] Q := by
 unfold zmm zht at k
 refine S89 (ordered_S (fun hg => ?_) (fun hg out G N hl => ?_) fun hg out O G N hl => ?_)
 all_goals rw [post_PLI]
 · rw [if_neg hg] at k; exact cNe (fun _ => k) fun h => by cases h
 · rw [if_pos hg, zin G N, if_pos hl] at k; exact cNe (fun _ => k) fun h => by cases h
 rw [if_pos hg, zin G N, if_neg hl] at k
 refine cNe (fun h => absurd rfl h) fun _ => ⟨hg.n0, by have := hg.n64; omega, rfl, ?_⟩
 have k : Q (.t [.l 1 ((zjw n L).map eI), .i 0]) [] := k
 have hon := zcc G.nodup G.mem hg.n0
 have hn := hg.n64
 have hLl := hg.len
 refine ⟨fun x l => AtI out (fun t _ => ∃ o, l = o.map eI ∧ o = t.foldl (dnode L) (List.replicate n.toNat 0) ∧ DB n (256 * t.length) o) x, fun x _ => zfa out x, .zero (by omega) ⟨_, rep_eI _, rfl, .zero hg.n0⟩, ?_⟩
 rintro x _ ⟨t, _ | ⟨a, l⟩, s, o, rfl, ho, d⟩
 · have e : o = zjw n L := by rw [ho, s.all, zjw, zin G N]
   rw [s.d0, e]; exact k
 have ha := G.mem a (by rw [s.e]; simp)
 have htl := congrArg List.length s.e
 simp at htl
 simp only [s.d1, s.el, cond_true]
 simp only [eI, ug0, ze6, oP_s]
 refine idxK_of a.toNat (by omega) (by omega) ?_
 rw [Nat.mul_one, web_needs (by omega), dL_l]
 have hnl := zlx L a.toNat
 let Inv : Int → List (List U) → Prop := fun z l => AtI (zag L a.toNat) (fun t2 _ => ∃ o2, l = o2.map eI ∧ o2 = t2.foldl (zp2 a) o ∧ DB n (256 * t.length + t2.length) o2) z
 refine ⟨Inv, fun z _ => zfa (zag L a.toNat) z, .zero (by omega) ⟨o, rfl, rfl, d⟩, ?_⟩
 rintro z _ ⟨t2, _ | ⟨b, l2⟩, s2, o2, rfl, ho2, d2⟩
 · rw [s2.d0]
   rw [s2.all] at ho2 d2
   refine s.step ⟨o2, rfl, ?_, d2.mono (by simp; omega)⟩
   rw [List.foldl_append, ← ho]; exact ho2
 have hb : 1 ≤ b ∧ b ≤ n := by
  obtain ⟨p, hp, -, rfl⟩ := needs_mem (show b ∈ zag L a.toNat by rw [s2.e]; simp)
  exact inn_iff.1 (hg.ok p hp).2
 have htl2 := congrArg List.length s2.e
 simp at htl2
 simp only [s2.d1, s2.el, cond_true, eI, ug0, ze6]
 refine step_c d2 (by omega) ha hb hn (K := fun l => Inv (IntKind.wrap .i64 (z + 1)) l ∧ zfa (zag L a.toNat) (IntKind.wrap .i64 (z + 1)) < zfa (zag L a.toNat) z) (s2.step ⟨_, rfl, ?_, ?_⟩)
 · rw [List.foldl_append, ← ho2]; rfl
 · have := d2.step a b; simpa [Nat.add_assoc] using this
theorem needs_fold {n : Int} {L : List Stk} {a : Int} (t : List Stk) (ha : 0 ≤ a) (o : List Int) : (t.foldl (fun o p => if p.1 = a then zp2 a o p.2 else o) o) = (zag t a.toNat).foldl (zp2 a) o := by
 induction t generalizing o with
 | nil => rfl
 | cons p t ih =>
   rw [List.foldl_cons, ih]
   unfold zag
   by_cases h : p.1 = a
   · rw [if_pos h, List.filter_cons_of_pos (by simp; omega)]; rfl
   · rw [if_neg h, List.filter_cons_of_neg (by simp; omega)]
theorem rDeep_S {n : Int} {L : List Stk} (hL : L.length ≤ 1000000) (k : Q (vIE (zmm n L)) []) : PRun Tryz.prog 34 [] [.i n, .l 2 (L.map eS)] Q := by
 unfold zmm at k
 refine S34 (rOrder_S hL ?_)
 rw [zlp]
 refine cNe (fun h => by rwa [if_neg h] at k) fun h => ?_
 rw [if_pos h] at k
 unfold zht at h ⊢
 split at h
 rotate_left
 · cases h
 rename_i hg
 split at h
 · cases h
 rename_i hl
 rw [if_pos hg, if_neg hl]
 have hn := hg.n64
 have hLl := hg.len
 by_cases hex : ∃ out, Greedy L n out ∧ ∀ k, ¬ Nx1 L n out k
 rotate_left
 · have h0 : ordG n L = [] := by unfold ordG; rw [dif_neg hex]
   have : n = 0 := by have := hg.n0; rw [h0] at hl; simp at hl; omega
   exact absurd ⟨[], .nil, fun k hk => by have := hk.1; have := hk.2.1; omega⟩ hex
 obtain ⟨out, G, N⟩ := hex
 have eG := zin G N
 have hon := zcc G.nodup G.mem hg.n0
 refine ⟨hg.n0, by omega, rfl, ?_⟩
 show ∃ _, _
 simp only [eG]
 refine ⟨fun x l => AtI out (fun t _ => ∃ o, l = o.map eI ∧ o = t.foldl (dnode L) (List.replicate n.toNat 0) ∧ DB n (256 * t.length) o) x, fun x _ => zfa out x, .zero (by omega) ⟨_, rep_eI _, rfl, .zero hg.n0⟩, ?_⟩
 rintro x _ ⟨t, _ | ⟨a, l⟩, s, o, rfl, ho, d⟩
 · have e : o = zjw n L := by rw [ho, s.all, zjw, eG]
   rw [s.d0, e]; exact k
 have ha := G.mem a (by rw [s.e]; simp)
 have htl := congrArg List.length s.e
 simp at htl
 rw [s.d1, cond_true]
 let Inv : Int → List (List U) → Prop := fun z l => AtI L (fun t2 _ => ∃ o2, l = o2.map eI ∧ o2 = t2.foldl (fun o p => if p.1 = a then zp2 a o p.2 else o) o ∧ DB n (256 * t.length + t2.length) o2) z
 refine ⟨Inv, fun z _ => zfa L z, .zero (by omega) ⟨o, rfl, rfl, d⟩, ?_⟩
 rintro z _ ⟨t2, _ | ⟨b, l2⟩, s2, o2, rfl, ho2, d2⟩
 · rw [s2.d0]
   rw [s2.all] at ho2 d2
   refine s.step ⟨o2, rfl, ?_, d2.mono (by simp; omega)⟩
   rw [List.foldl_append, ← ho, ho2, needs_fold (n := n) (L := L) L (by omega)]; rfl
 have hb := inn_iff.1 (hg.ok b (by rw [s2.e]; simp)).2
 have htl2 := congrArg List.length s2.e
 simp at htl2
 simp only [s2.d1, s2.el, s.el, cond_true, eI, eS, ug0, ugs, ze6]
 refine cEq (fun h => ?_) fun h => s2.step ⟨o2, rfl, ?_, d2.mono (by rw [List.length_append]; omega)⟩
 · refine step_c d2 (by omega) ha hb hn (K := fun l => Inv (IntKind.wrap .i64 (z + 1)) l ∧ zfa L (IntKind.wrap .i64 (z + 1)) < zfa L z) (s2.step ⟨_, rfl, ?_, ?_⟩)
   · rw [List.foldl_append, ← ho2]; simp [h]
   · have := d2.step a b.2; simpa [Nat.add_assoc] using this
 · rw [List.foldl_append, ← ho2]; simp [h]
end
section
variable {Q : V → Mem → Prop}
structure Bay where
 place : Int
 make : Int
 lab : Int
 rate : Int
def eY (b : Bay) : List U := [.n b.place, .n b.make, .n b.lab, .n b.rate]
structure Cat where
 types : Int
 blues : List Bl
 places : Int
 bays : List Bay
 chars : Int
 broker : Int
 least : Int
 sales : Int
abbrev aC (c : Cat) : V := .a [.i c.types, .l 7 (c.blues.map eB), .i c.places, .l 4 (c.bays.map eY), .i c.chars, .i c.broker, .i c.least, .i c.sales]
structure Cat.Rg (c : Cat) : Prop where
 b : ∀ b ∈ c.blues, b.Rg
 nb : c.blues.length ≤ 500
 ny : c.bays.length ≤ 100000
def zct (l : List Bl) : List Stk := l.flatMap fun b => b.needs.map fun s => (b.makes, s.1)
theorem zlr (t : List Bl) (b : Bl) : zct (t ++ [b]) = zct t ++ b.needs.map fun s => (b.makes, s.1) := by simp [zct]
theorem zgc : ∀ (l : List Bl), (∀ b ∈ l, b.Rg) → (zct l).length ≤ 1000 * l.length
 | [], _ => by simp [zct]
 | b :: l, h => by
   have h1 := zgc l fun x hx => h x (by simp [hx])
   have h2 := (h b (by simp)).n
   simp only [zct, List.flatMap_cons, List.length_append, List.length_map, List.length_cons] at h1 ⊢
   omega
section
variable {c : Cat}
theorem pPairs_S (hc : c.Rg) (k : Q (.l 2 ((zct c.blues).map eS)) []) : PRun Tryz.prog 90 [] [aC c] Q := by
 refine S90 ⟨fun l x => AtI c.blues (fun t _ => l = (zct t).map eS) x, fun _ => zfa c.blues, .zero (by have := hc.nb; omega) rfl, ?_⟩
 rintro _ x ⟨t, _ | ⟨b, l⟩, s, rfl⟩
 · rw [s.d0, s.all]; exact k
 have hb := hc.b b (by rw [s.e]; simp)
 have hbn := hb.n
 have hnb := hc.nb
 have htl := congrArg List.length s.e
 simp at htl
 have htp := zgc t fun x hx => hc.b x (by rw [s.e]; simp [hx])
 simp only [s.d1, s.el, eB, ug0, ugs, ze6, dL_l, cond_true]
 refine ⟨fun l x => AtI b.needs (fun t2 _ => l = (zct t ++ t2.map fun s => (b.makes, s.1)).map eS) x, fun _ => zfa b.needs, .zero (by omega) (by simp), ?_⟩
 rintro _ y ⟨t2, _ | ⟨a, l2⟩, s2, rfl⟩
 · rw [s2.d0, s2.all]; exact s.step (by rw [zlr])
 have htl2 := congrArg List.length s2.e
 simp at htl2
 simp only [s2.d1, s2.el, eS, ug0, ugs, ze6, cond_true]
 exact ⟨apOk_l (by simp; omega), s2.step (by simp [eS])⟩
theorem rPairs_S (hc : c.Rg) (k : Q (.l 2 ((zct c.blues).map eS)) []) : PRun Tryz.prog 35 [] [aC c] Q := by
 refine S35 ⟨fun l x => AtI c.blues (fun t _ => l = (zct t).map eS) x, fun _ => zfa c.blues, .zero (by have := hc.nb; omega) rfl, ?_⟩
 rintro _ x ⟨t, _ | ⟨b, l⟩, s, rfl⟩
 · rw [s.d0, s.all]; exact k
 have hb := hc.b b (by rw [s.e]; simp)
 have hbn := hb.n
 have hnb := hc.nb
 have htl := congrArg List.length s.e
 simp at htl
 have htp := zgc t fun x hx => hc.b x (by rw [s.e]; simp [hx])
 rw [s.d1, cond_true]
 refine ⟨fun l x => AtI b.needs (fun t2 _ => l = (zct t ++ t2.map fun s => (b.makes, s.1)).map eS) x, fun _ => zfa b.needs, .zero (by omega) (by simp), ?_⟩
 rintro _ y ⟨t2, _ | ⟨a, l2⟩, s2, rfl⟩
 · simp only [s.el, eB, ug0, ugs, dL_l]
   rw [s2.d0, s2.all]; exact s.step (by rw [zlr])
 have htl2 := congrArg List.length s2.e
 simp at htl2
 simp only [s.el, eB, ug0, ugs, dL_l, ze6, s2.d1, s2.el, eS, cond_true]
 exact ⟨apOk_l (by simp; omega), s2.step (by simp [eS])⟩
def feeOK (c : Cat) : Bool := inn c.broker 0 10000 && (inn c.sales 0 10000 && inn c.least 0 1152921504606846976)
theorem pFee_S (k : Q (.i (if feeOK c = true then 0 else 1)) []) : PRun Tryz.prog 180 [] [.a [.i c.broker, .i c.least, .i c.sales]] Q := by
 unfold feeOK at k
 refine S180 (S243 (inn_c ?_))
 rw [zau]
 refine cB (fun h1 => S243 (inn_c ?_)) fun h => by simpa [h] using k
 rw [zau]
 refine cB (fun h2 => S257 (inn_c ?_)) fun h => by simpa [h] using k
 rw [zau]
 exact cB (fun h3 => by simpa [h1, h2, h3] using k) fun h => by simpa [h] using k
theorem rFee_S (k : Q (.i (if feeOK c = true then 0 else 1)) []) : PRun Tryz.prog 32 [] [.a [.i c.broker, .i c.least, .i c.sales]] Q := by
 have bad : ¬ feeOK c = true → Q (.i 1) [] := fun h => by rwa [if_neg h] at k
 simp only [feeOK, Bool.and_eq_true, inn_iff] at bad k
 refine S32 (cIf (fun h => bad (by omega)) fun h1 => cIf (fun h => bad (by omega)) fun h2 => cIf (fun h => bad (by omega)) fun h3 => cIf (fun h => bad (by omega)) fun h4 => cIf (fun h => bad (by omega)) fun h5 => cIf (fun h => bad (by omega)) fun h6 => ?_)
 rwa [if_pos (by omega)] at k
end
end
section
variable {Q : V → Mem → Prop} {c : Cat}
def bayOK (c : Cat) (y : Bay) : Prop := inn y.place 1 c.places = true ∧ inn y.make 0 8 = true ∧ inn y.lab 0 8 = true ∧ inn y.rate 0 10000 = true
structure Cat.Sz (c : Cat) : Prop where
 types : inn c.types 1 32 = true
 places : inn c.places 1 8 = true
 chars : inn c.chars 1 16 = true
 nb : c.blues.length ≤ 16
 ny : c.bays.length ≤ 8
 bl : ∀ b ∈ c.blues, zjz b c.types = 0
 by' : ∀ y ∈ c.bays, bayOK c y
 fee : feeOK c = true
open Classical in
noncomputable def catE (c : Cat) : Int := if c.Sz then (if (zmm c.types (zct c.blues)).2 ≠ 0 then (zmm c.types (zct c.blues)).2 else if ∃ d ∈ zjw c.types (zct c.blues), 8 < d then 5 else 0) else 1
theorem deep_len {n : Int} {L : List Stk} (h : (zmm n L).2 = 0) : gOK n L ∧ ((zjw n L).length : Int) = n ∧ (zmm n L).1 = zjw n L := by
 have h1 : (zht n L).2 = 0 := by
  unfold zmm at h
  by_cases h2 : (zht n L).2 = 0
  · exact h2
  · rw [if_neg h2] at h; exact h
 unfold zmm zht at h
 by_cases hg : gOK n L
 · refine ⟨hg, ?_, ?_⟩
   · unfold zjw
     have : ∀ (l : List Int) (o : List Int), (l.foldl (dnode L) o).length = o.length := by
      intro l
      induction l with
      | nil => intro o; rfl
      | cons a l ih =>
        intro o
        rw [List.foldl_cons, ih]
        unfold dnode
        generalize zag L a.toNat = xs
        induction xs generalizing o with
        | nil => rfl
        | cons x xs ih2 => rw [List.foldl_cons, ih2]; simp [zp2]
     rw [this]
     have := hg.n0
     simp; omega
   · unfold zmm
     rw [if_pos h1]
 · rw [if_neg hg] at h
   simp at h
theorem sizes_S (hc : c.Rg) (k : ∀ b : Bool, (b = true ↔ c.Sz) → Q (.u (.b b)) []) : PRun Tryz.prog 88 [] [aC c] Q := by
 refine S88 fun k1 hk1 => ?_
 have hnb := hc.nb
 have hny := hc.ny
 have H : ∀ b1 : Bool, (b1 = true ↔ inn c.types 1 32 = true ∧ inn c.places 1 8 = true ∧ inn c.chars 1 16 = true ∧ c.blues.length ≤ 16 ∧ c.bays.length ≤ 8) → k1 b1 := by
  intro b1 hb1
  refine hk1 b1 fun k2 hk2 => ?_
  have bad : ¬ c.Sz → k2 false := fun h => hk2 false (k false (by simp [h]))
  refine cB (fun h1 => ?_) fun h1 => bad fun z => by rw [hb1.2 ⟨z.types, z.places, z.chars, z.nb, z.ny⟩] at h1; cases h1
  obtain ⟨n1, n2, n3, n4, n5⟩ := hb1.1 h1
  refine ⟨AtI c.blues fun t _ => ∀ b ∈ t, zjz b c.types = 0, zfa c.blues, .zero (by omega) (by simp), ?_⟩
  rintro x ⟨t, _ | ⟨b, l⟩, s, ht⟩
  case cons =>
   have hm : b ∈ c.blues := by rw [s.e]; simp
   simp only [s.d1, s.el, eB, ug0, ugs, ze6, dL_l, cond_true]
   refine pBlue_S (hc.b b hm) ?_
   rw [zcj, decide_eq_true (show x ≥ 0 from s.suf.lt.1), Bool.not_true, cond_false]
   refine cNe (fun h => bad fun z => h (z.bl b hm)) fun h => s.step fun u hu => ?_
   rcases List.mem_append.1 hu with hu | hu
   · exact ht u hu
   · simp at hu; subst hu; exact h
  rw [s.all] at ht
  rw [s.d0, cond_false]
  refine ⟨AtI c.bays fun t _ => ∀ y ∈ t, bayOK c y, zfa c.bays, .zero (by omega) (by simp), ?_⟩
  rintro x ⟨t2, _ | ⟨y, l⟩, s, ht2⟩
  case cons =>
   have hm : y ∈ c.bays := by rw [s.e]; simp
   simp only [s.d1, s.el, eY, ug0, ugs, ze6, dL_l, cond_true, decide_eq_true (show x ≥ 0 from s.suf.lt.1), Bool.not_true, cond_false]
   refine in2_S ?_
   rw [zau]
   refine zjm (cB (fun o1 => in2_S ?_) fun h => bad fun z => by rw [(z.by' y hm).1] at h; cases h)
   rw [zau]
   refine zjm (cB (fun o2 => in2_S ?_) fun h => bad fun z => by rw [(z.by' y hm).2.1] at h; cases h)
   rw [zau]
   refine zjm (cB (fun o3 => in2_S ?_) fun h => bad fun z => by rw [(z.by' y hm).2.2.1] at h; cases h)
   rw [zau]
   refine zjm (cB (fun o4 => s.step fun u hu => ?_) fun h => bad fun z => by rw [(z.by' y hm).2.2.2] at h; cases h)
   rcases List.mem_append.1 hu with hu | hu
   · exact ht2 u hu
   · simp at hu; subst hu; exact ⟨o1, o2, o3, o4⟩
  rw [s.all] at ht2
  rw [s.d0, cond_false]
  refine pFee_S ?_
  rw [zcj]
  by_cases hf : feeOK c = true
  · rw [if_pos hf]; exact hk2 true (k true (by simp; exact ⟨n1, n2, n3, n4, n5, ht, ht2, hf⟩))
  · rw [if_neg hf]; exact bad fun z => hf z.fee
 refine in2_S ?_
 rw [zau]
 refine cB (fun h1 => in2_S ?_) fun h => H false (by simp [h])
 rw [zau]
 refine cB (fun h2 => in2_S ?_) fun h => H false (by simp [h])
 rw [zau]
 refine cB (fun h3 => cIf (fun h4 => H _ ?_) fun h4 => H false ?_) fun h => H false (by simp [h])
 · simp only [List.length_map] at h4 ⊢
   simp [h1, h2, h3]; omega
 · simp only [List.length_map] at h4
   simp; omega
theorem max_S {l : List Int} (h0 : l ≠ []) (hl : l.length ≤ 1000000) (k : ∀ m ∈ l, (∀ y ∈ l, y ≤ m) → Q (.i m) []) : PRun Tryz.prog 91 [] [.l 1 (l.map eI)] Q := by
 rcases l with _ | ⟨a, l⟩
 · exact absurd rfl h0
 refine S91 (cIf (fun h => by simp at h; omega) fun _ => ?_)
 rw [elI (y := a) (by decide) rfl]
 refine ⟨fun m x => AtI (a :: l) (fun t _ => t ≠ [] ∧ m ∈ t ∧ ∀ y ∈ t, y ≤ m) x, fun _ => zfa (a :: l), ⟨[a], l, ⟨rfl, rfl, by simp at hl ⊢; omega⟩, by simp, by simp, by simp⟩, ?_⟩
 rintro m x ⟨t, _ | ⟨b, l2⟩, s, hne, hm, hle⟩
 · rw [s.d0]; rw [s.all] at hm hle
   exact k m hm hle
 · simp only [s.d1, s.el, eI, ug0, ze6, cond_true]
   refine s.step ⟨by simp, ?_, fun y hy => ?_⟩
   · split <;> simp [hm]
   · rcases List.mem_append.1 hy with hy | hy
     · have := hle y hy; split <;> omega
     · simp at hy; subst hy; split <;> omega
theorem zn5 (hc : c.Rg) (k : Q (.i (catE c)) []) : PRun Tryz.prog 29 [] [aC c] Q := by
 refine S29 (sizes_S hc fun b hb => ?_)
 rw [zau]
 unfold catE at k
 refine zjm (cB (fun h => pPairs_S hc ?_) fun h => ?_)
 rotate_left
 · rwa [if_neg (fun z => by rw [hb.2 z] at h; cases h)] at k
 have z := hb.1 h
 rw [if_pos z] at k
 rw [post_L]
 refine pDeep_S ?_
 rw [zlp]
 refine cNe (fun h => by rwa [if_pos h] at k) fun h => ?_
 rw [if_neg (by simpa using h)] at k
 obtain ⟨hg, hl, e⟩ := deep_len h
 have ht := inn_iff.1 z.types
 rw [e]
 refine max_S (fun h0 => by rw [h0] at hl; simp at hl; omega) (by omega) fun m hm hle => ?_
 rw [zcj]
 refine cIf (fun h => ?_) fun h => ?_
 · rwa [if_pos ⟨m, hm, h⟩] at k
 · rwa [if_neg (fun ⟨d, hd, h8⟩ => by have := hle d hd; omega)] at k
theorem rCat_S (hc : c.Rg) (k : Q (.i (catE c)) []) : PRun Tryz.prog 8 [] [aC c] Q := by
 have hnb := hc.nb
 have hny := hc.ny
 unfold catE at k
 have bad : ¬ c.Sz → Q (.i 1) [] := fun h => by rwa [if_neg h] at k
 refine S8 (in4_S ?_)
 rw [zau]
 refine zjm (cB (fun n1 => in4_S ?_) fun h => bad fun z => by rw [z.types] at h; cases h)
 rw [zau]
 refine zjm (cB (fun n2 => in4_S ?_) fun h => bad fun z => by rw [z.places] at h; cases h)
 rw [zau]
 refine zjm (cB (fun n3 => ?_) fun h => bad fun z => by rw [z.chars] at h; cases h)
 simp only [List.length_map]
 refine cIf (fun h => bad fun z => by have := z.nb; omega) fun n4 => cIf (fun h => bad fun z => by have := z.ny; omega) fun n5 => rFee_S ?_
 rw [zcj]
 refine cNe (fun h => bad fun z => h (by rw [if_pos z.fee])) fun hf => ?_
 refine ⟨AtI c.blues fun t _ => ∀ b ∈ t, zjz b c.types = 0, zfa c.blues, .zero (by omega) (by simp), ?_⟩
 rintro x ⟨t, _ | ⟨b, l⟩, s, ht⟩
 case cons =>
  have hm : b ∈ c.blues := by rw [s.e]; simp
  rw [show (c.blues.length : Int) = ((c.blues.map eB).length : Int) by simp]
  simp only [s.d1, s.el, eB, ug0, ugs, ze6, dL_l, cond_true]
  refine rBlue_S (hc.b b hm) ?_
  rw [zcj]
  refine cNe (fun h => bad fun z => h (z.bl b hm)) fun h => s.step fun u hu => ?_
  rcases List.mem_append.1 hu with hu | hu
  · exact ht u hu
  · simp at hu; subst hu; exact h
 rw [s.all] at ht
 rw [show (c.blues.length : Int) = ((c.blues.map eB).length : Int) by simp, s.d0, cond_false]
 refine ⟨AtI c.bays fun t _ => ∀ y ∈ t, bayOK c y, zfa c.bays, .zero (by omega) (by simp), ?_⟩
 rintro x ⟨t2, _ | ⟨y, l⟩, s, ht2⟩
 case cons =>
  have hm : y ∈ c.bays := by rw [s.e]; simp
  rw [show (c.bays.length : Int) = ((c.bays.map eY).length : Int) by simp]
  simp only [s.d1, s.el, eY, ug0, ugs, ze6, dL_l, cond_true]
  refine in4_S ?_
  rw [zau]
  refine zjm (cB (fun o1 => in4_S ?_) fun h => bad fun z => by rw [(z.by' y hm).1] at h; cases h)
  rw [zau]
  refine zjm (cB (fun o2 => in4_S ?_) fun h => bad fun z => by rw [(z.by' y hm).2.1] at h; cases h)
  rw [zau]
  refine zjm (cB (fun o3 => in4_S ?_) fun h => bad fun z => by rw [(z.by' y hm).2.2.1] at h; cases h)
  rw [zau]
  refine zjm (cB (fun o4 => s.step fun u hu => ?_) fun h => bad fun z => by rw [(z.by' y hm).2.2.2] at h; cases h)
  rcases List.mem_append.1 hu with hu | hu
  · exact ht2 u hu
  · simp at hu; subst hu; exact ⟨o1, o2, o3, o4⟩
 rw [s.all] at ht2
 rw [show (c.bays.length : Int) = ((c.bays.map eY).length : Int) by simp, s.d0, cond_false]
 have z : c.Sz := ⟨n1, n2, n3, by omega, by omega, ht, ht2, by split at hf <;> first | assumption | cases hf⟩
 rw [if_pos z] at k
 refine rPairs_S hc ?_
 rw [post_L]
 refine rDeep_S (by have := zgc c.blues hc.b; omega) ?_
 rw [zlp]
 refine cNe (fun h => by rwa [if_pos h] at k) fun h => ?_
 rw [if_neg (by simpa using h)] at k
 obtain ⟨hg, hl, e⟩ := deep_len h
 have ht := inn_iff.1 z.types
 rw [e]
 refine ⟨AtI (zjw c.types (zct c.blues)) fun t _ => ∀ d ∈ t, ¬ 8 < d, zfa (zjw c.types (zct c.blues)), .zero (by omega) (by simp), ?_⟩
 rintro x ⟨t3, _ | ⟨d, l⟩, s, ht3⟩
 · rw [s.all] at ht3
   rw [s.d0]
   rwa [if_neg (fun ⟨d, hd, h8⟩ => ht3 d hd h8)] at k
 · simp only [s.d1, s.el, eI, ug0, ze6, cond_true]
   refine cIf (fun h => ?_) fun h => s.step fun u hu => ?_
   · rwa [if_pos ⟨d, by rw [s.e]; simp, h⟩] at k
   · rcases List.mem_append.1 hu with hu | hu
     · exact ht3 u hu
     · simp at hu; subst hu; exact h
end
section
open Go.ChangeShapes Go.WideShapes Go.ChangeAt Go.RowKit
theorem Tryz.own : ownKnob Tryz.prog.godebug = none := by kernel_rfl
theorem Tryz.laidOut : laidOutB Tryz.prog = true := by kernel_rfl
theorem belowOf {W W' : World} (k : zg8 W.heap W'.heap) (s : Same W W') : RowKit.Below W.heap.size W W' :=
 ⟨s.os, s.tape, s.output, k.size, fun b hb => k.blk b hb (by simp)⟩
theorem rp_agg {D : Fz} {cs : Array Value} {us : List U} (h : RdL D (Value.agg cs).cells.toList us) : Rp D [] (.agg cs) (.a (us.map .u)) := by
 obtain ⟨cs⟩ := cs
 exact .a (RpC.ofU h)
theorem SAt.all (h : zab) : SAt (allD h) [] [] [] [] h := ⟨rfl, rfl, fun i L ab ch h => by simp at h, by simpa using St.all h⟩
end
section
def insT (k n : Int) : List Stk → List Stk
 | [] => [(k, n)]
 | (a, b) :: l => if k < a then (k, n) :: (a, b) :: l else if k = a then (a, b + n) :: l else (a, b) :: insT k n l
def normR : List Stk → List Stk
 | [] => []
 | (k, n) :: l => if n = 0 then normR l else insT k n (normR l)
def zfl (l : List Stk) : Int × List Stk :=
 if (l.all fun s => decide (1 ≤ s.1) && decide (0 ≤ s.2)) = true then (if ((normR l).any fun s => decide (zha < s.2)) = true then (5, []) else (0, normR l)) else (1, [])
theorem zpt {k n : Int} : ∀ {r : List Stk}, r.Pairwise (fun a b => a.1 < b.1) → ∀ j q, (j, q) ∈ insT k n r ↔ (j ≠ k ∧ (j, q) ∈ r) ∨ (j = k ∧ ((∃ b, (k, b) ∈ r ∧ q = b + n) ∨ ((∀ b, (k, b) ∉ r) ∧ q = n)))
 | [], _, j, q => by simp [insT]
 | (a, b) :: l, h, j, q => by
   obtain ⟨h1, h2⟩ := List.pairwise_cons.1 h
   simp only [insT]
   by_cases c1 : k < a
   · rw [if_pos c1]
     have hno : ∀ b', (k, b') ∉ (a, b) :: l := by
      intro b' hb
      rcases List.mem_cons.1 hb with e | e
      · cases e; omega
      · have := h1 _ e; simp only at this; omega
     constructor
     · intro hm
       rcases List.mem_cons.1 hm with e | e
       · cases e; exact .inr ⟨rfl, .inr ⟨hno, rfl⟩⟩
       · exact .inl ⟨fun e2 => hno q (e2 ▸ e), e⟩
     · rintro (⟨-, e⟩ | ⟨rfl, ⟨b', e, -⟩ | ⟨-, rfl⟩⟩)
       · exact List.mem_cons_of_mem _ e
       · exact absurd e (hno b')
       · exact List.mem_cons_self
   · rw [if_neg c1]
     by_cases c2 : k = a
     · subst c2
       rw [if_pos rfl]
       have hno : ∀ q, (k, q) ∉ l := fun q e => by have := h1 _ e; simp only at this; omega
       constructor
       · intro hm
         rcases List.mem_cons.1 hm with e | e
         · cases e; exact .inr ⟨rfl, .inl ⟨b, List.mem_cons_self, rfl⟩⟩
         · exact .inl ⟨fun e2 => hno q (e2 ▸ e), List.mem_cons_of_mem _ e⟩
       · rintro (⟨e1, e⟩ | ⟨rfl, ⟨b', e, rfl⟩ | ⟨e, -⟩⟩)
         · rcases List.mem_cons.1 e with e2 | e2
           · cases e2; exact absurd rfl e1
           · exact List.mem_cons_of_mem _ e2
         · rcases List.mem_cons.1 e with e2 | e2
           · cases e2; exact List.mem_cons_self
           · exact absurd e2 (hno b')
         · exact absurd List.mem_cons_self (e b)
     · rw [if_neg c2, List.mem_cons, zpt h2 j q]
       have hk : ∀ b', (k, b') ∈ (a, b) :: l ↔ (k, b') ∈ l := fun b' => by
        rw [List.mem_cons]
        constructor
        · rintro (e | e)
          · cases e; exact absurd rfl c2
          · exact e
        · exact .inr
       simp only [hk, List.mem_cons]
       constructor
       · rintro (e | ⟨e1, e⟩ | e)
         · cases e; exact .inl ⟨fun e => c2 e.symm, .inl rfl⟩
         · exact .inl ⟨e1, .inr e⟩
         · exact .inr e
       · rintro (⟨e1, e | e⟩ | e)
         · exact .inl e
         · exact .inr (.inl ⟨e1, e⟩)
         · exact .inr (.inr e)
theorem insT_rise {k n : Int} : ∀ {r : List Stk}, r.Pairwise (fun a b => a.1 < b.1) → (insT k n r).Pairwise (fun a b => a.1 < b.1)
 | [], _ => by simp [insT]
 | (a, b) :: l, h => by
   obtain ⟨h1, h2⟩ := List.pairwise_cons.1 h
   simp only [insT]
   by_cases c1 : k < a
   · rw [if_pos c1]
     refine List.pairwise_cons.2 ⟨fun p hp => ?_, h⟩
     rcases List.mem_cons.1 hp with rfl | e
     · exact c1
     · have := h1 _ e; simp only at this ⊢; omega
   · rw [if_neg c1]
     by_cases c2 : k = a
     · rw [if_pos c2]
       exact List.pairwise_cons.2 ⟨fun p hp => h1 p hp, h2⟩
     · rw [if_neg c2]
       refine List.pairwise_cons.2 ⟨?_, insT_rise h2⟩
       rintro ⟨j, q⟩ hp
       rcases (zpt h2 j q).1 hp with ⟨-, e⟩ | ⟨rfl, -⟩
       · exact h1 _ e
       · simp only; omega
theorem normR_SN : ∀ {l : List Stk}, good l → SN l (normR l)
 | [], _ => ⟨.nil, fun k n => by simp [normR, tot]; omega⟩
 | (k, n) :: l, h => by
   have hg : good l := fun s hs => h s (List.mem_cons_of_mem _ hs)
   have h0 := h (k, n) List.mem_cons_self
   simp only at h0
   obtain ⟨i1, i2⟩ := normR_SN hg
   have ht : ∀ j, tot ((k, n) :: l) j = tot l j + if k = j then n else 0 := fun j => by
    simp only [tot]
    split <;> omega
   simp only [normR]
   by_cases hn : n = 0
   · rw [if_pos hn]
     refine ⟨i1, fun j q => ?_⟩
     rw [i2, ht]
     subst hn
     simp
   · rw [if_neg hn]
     refine ⟨insT_rise i1, fun j q => ?_⟩
     rw [zpt i1, ht]
     by_cases hj : k = j
     · subst hj
       rw [if_pos rfl]
       have hp := zbt hg k
       constructor
       · rintro (⟨e, -⟩ | ⟨-, ⟨b, e, rfl⟩ | ⟨e, rfl⟩⟩)
         · exact absurd rfl e
         · obtain ⟨e1, e2⟩ := (i2 k b).1 e
           exact ⟨by omega, by omega⟩
         · have : tot l k = 0 := by
            by_cases hz : tot l k = 0
            · exact hz
            · exact absurd ((i2 k (tot l k)).2 ⟨rfl, by omega⟩) (e _)
           exact ⟨by omega, by omega⟩
       · rintro ⟨rfl, hq⟩
         refine .inr ⟨rfl, ?_⟩
         by_cases hz : tot l k = 0
         · refine .inr ⟨fun b hb => ?_, by omega⟩
           obtain ⟨e1, e2⟩ := (i2 k b).1 hb
           omega
         · exact .inl ⟨tot l k, (i2 k _).2 ⟨rfl, by omega⟩, by omega⟩
     · rw [if_neg hj, Int.add_zero, i2]
       constructor
       · rintro (⟨-, e⟩ | ⟨e, -⟩)
         · exact e
         · exact absurd e.symm hj
       · exact fun e => .inl ⟨fun e2 => hj e2.symm, e⟩
theorem zj6 (l : List Stk) : NormP l (zfl l).1 (zfl l).2 := by
 have hgood : ((l.all fun s => decide (1 ≤ s.1) && decide (0 ≤ s.2)) = true) ↔ good l := by
  simp [good, List.all_eq_true]
 unfold zfl
 by_cases h : good l
 · rw [if_pos (hgood.2 h)]
   have hs := normR_SN h
   have ho : (((normR l).any fun s => decide (zha < s.2)) = true) ↔ over l := by
    rw [List.any_eq_true]
    constructor
    · rintro ⟨⟨k, n⟩, hm, hd⟩
      simp only [decide_eq_true_eq] at hd
      obtain ⟨e1, e2⟩ := (hs.2 k n).1 hm
      obtain ⟨s, hs1, hs2⟩ := zb9 (l := l) (k := k) (by omega)
      exact ⟨s, hs1, by rw [hs2]; omega⟩
    · rintro ⟨s, hs1, hs2⟩
      have hM : zha = 1125899906842624 := rfl
      exact ⟨(s.1, tot l s.1), (hs.2 _ _).2 ⟨rfl, by omega⟩, by simpa using hs2⟩
   by_cases hov : over l
   · rw [if_pos (ho.2 hov)]
     exact ⟨(zft h hov).symm, fun e => by simp at e, fun _ => rfl⟩
   · rw [if_neg fun e => hov (ho.1 e)]
     exact ⟨(zix h hov).symm, fun _ => hs, fun e => absurd rfl e⟩
 · rw [if_neg fun e => h (hgood.1 e)]
   exact ⟨(zpz h).symm, fun e => by simp at e, fun _ => rfl⟩
abbrev eStk (x : Stk) : List U := [.n x.1, .n x.2]
def stkL : List (List U) → Option (List Stk)
 | [] => some []
 | [.i .i64 a, .i .i64 b] :: l => (match stkL l with
   | some r => some ((a, b) :: r)
   | none => none)
 | _ => none
theorem stkL_ok : ∀ {rows : List (List U)} {L : List Stk}, stkL rows = some L → rows = L.map eStk
 | [], L, h => by cases h; rfl
 | r :: l, L, h => by
   unfold stkL at h
   split at h
   · rename_i h0; cases h0
   · rename_i a b l' h0
     cases h0
     split at h
     · rename_i q hq
       cases h
       rw [stkL_ok hq]; rfl
     · cases h
   · cases h
def rngB (L : List Stk) : Bool := L.all fun s => decide (-9223372036854775808 ≤ s.1) && decide (s.1 ≤ 9223372036854775807) && decide (-9223372036854775808 ≤ s.2) && decide (s.2 ≤ 9223372036854775807)
theorem rngB_ok {L : List Stk} (h : rngB L = true) : rng L := fun s hs => by
 have := List.all_eq_true.1 h s hs
 simp only [Bool.and_eq_true, decide_eq_true_eq] at this
 exact ⟨⟨this.1.1.1, this.1.1.2⟩, this.1.2, this.2⟩
variable {D D' : Fz} {ρ ρ' : List Loc} {m m' : Mem} {chs C : List zac} {h h' : zab} {ro hr : List Nat}
theorem ownStk {B : Nat} {T : TypeId} {a : Option Addr} {n c : Nat} {r : List Stk} (s : OwnS B T 2 h a n c (r.flatMap zh7)) (hs : Sl h a n c r) : ∃ ch, Own D T 2 a c (r.map eStk) ch ∧ (∀ p ∈ ch, h[p.1]? = some p.2) ∧ (∀ p ∈ ch, B ≤ p.1) ∧ (ch.map (·.1)).Nodup := by
 rcases s with ⟨rfl, rfl, rfl, h0⟩ | ⟨b, l, rfl, h1, h2, h3, h4, h5, h6⟩
 · have : r = [] := List.eq_nil_of_length_eq_zero hs.1
   subst this
   exact ⟨[], .nil, by simp, by simp, by simp⟩
 · refine ⟨_, .row b c l (r.map eStk) (fun i j => match r[i]? with | some s => (zh7 s).getD j undef | none => undef) h3 (by rw [List.length_map, hs.1]; exact h4) ?_ ?_ ?_, by simpa using h2, by simpa using h1, by simp⟩
   · intro q hq
     obtain ⟨s, -, rfl⟩ := List.mem_map.1 hq
     rfl
   · intro i j q u hi hj
     rw [List.getElem?_map] at hi
     cases hr : r[i]? with
     | none => rw [hr] at hi; cases hi
     | some s =>
       rw [hr] at hi
       cases hi
       obtain ⟨b', o', e, hc⟩ := hs.2.2 i s hr
       cases e
       match j, hj with
       | 0, hj => have := hc 0 _ rfl; rw [zao h2, Nat.zero_add] at this; exact this
       | 1, hj => have := hc 1 _ rfl; rw [zao h2, Nat.zero_add] at this; exact this
   · intro i j q u hi hj
     rw [List.getElem?_map] at hi
     cases hr : r[i]? with
     | none => rw [hr] at hi; cases hi
     | some s =>
       rw [hr] at hi
       cases hi
       match j, hj with
       | 0, hj => cases hj; exact .int .i64 _
       | 1, hj => cases hj; exact .int .i64 _
theorem src_sl {a : Option Addr} {n c : Nat} {L : List Stk} (hx : Src D h 2 a (L.map eStk)) (hn : n = L.length) (hc : n ≤ c) : Sl h a n c L := by
 refine ⟨hn.symm, hc, fun i x hi => ?_⟩
 have hr : (L.map eStk)[i]? = some (eStk x) := by simp [hi]
 rcases hx.2 with h0 | ⟨b, o, w, rfl, hc⟩
 · rw [h0] at hr; simp at hr
 refine ⟨b, o, rfl, fun j v hv => ?_⟩
 match j, hv with
 | 0, hv => simp [zh7] at hv; subst hv; obtain ⟨h1, h2⟩ := hc i 0 _ _ hr rfl; rw [Rd.int_iff.1 h2] at h1; exact h1
 | 1, hv => simp [zh7] at hv; subst hv; obtain ⟨h1, h2⟩ := hc i 1 _ _ hr rfl; rw [Rd.int_iff.1 h2] at h1; exact h1
theorem Own.cap {T sz : Nat} {a : Option Addr} {c : Nat} {rows : List (List U)} {ch : zac} (o : Own D T sz a c rows ch) : rows.length ≤ c := by
 cases o with
 | nil => exact Nat.le_refl _
 | row _ _ _ _ _ _ h2 _ _ _ => exact h2
theorem src_cap {x : V} {s : Nat} {rows : List (List U)} {a : Option Addr} {n c : Nat} (hs : srcS m x = some (s, rows)) (M : SAt D ρ m chs C h) (hv : Rp D ρ (.slice a n c) x) : n ≤ c := by
 cases hv with
 | u hr =>
   rename_i y
   cases y <;> simp only [srcS, Option.some.injEq, Prod.mk.injEq, reduceCtorEq] at hs
   exact hr.len.2
 | c => exact Nat.le_refl _
 | w hL =>
   rename_i b L
   unfold srcS at hs
   dsimp only at hs
   split at hs
   · rename_i E s' r hm
     obtain ⟨L', ch, g1, g2, g3⟩ := M.get (b := b) (by rw [hm]; simp)
     rw [hm] at g3
     rw [hL] at g1
     cases g1
     cases g3 with
     | w o hn =>
       rw [hn]
       exact o.cap
   · cases hs
 | v _ _ _ _ h5 => exact h5
 | nl => exact Nat.le_refl _
 | z => simp [srcS] at hs
 | sl _ _ h => exact h
def stkA (m : Mem) : V → Option (List Stk)
 | .nl _ => some []
 | x => (match srcS m x with
   | some (2, rows) => stkL rows
   | _ => none)
theorem stkA_S {x : V} {v : Value} {L : List Stk} (hs : stkA m x = some L) (M : SAt D ρ m chs C h) (hv : Rp D ρ v x) : ∃ a n c, v = .slice a n c ∧ Sl h a n c L := by
 unfold stkA at hs
 split at hs
 · cases hs
   cases hv
   exact ⟨_, _, _, rfl, rfl, Nat.le_refl _, fun i x hi => by simp at hi⟩
 · split at hs
   · rename_i rows hr
     have := stkL_ok hs
     subst this
     obtain ⟨a, c, rfl, hS⟩ := srcS_S hr M hv
     exact ⟨a, _, c, rfl, src_sl hS (by simp) (src_cap hr M hv)⟩
   · cases hs
def nrmV (L : List Stk) : V := .t [.u (.l 2 ((zfl L).2.map eStk)), .i (zfl L).1]
def nrmP (g : FuncId) (args : List V) (m : Mem) (K : V → Mem → Prop) : Option Prop :=
 cond (Nat.beq g 49) (match args with
  | [x] => (match stkA m x with
    | some L => some (cond (rngB L && Nat.ble L.length 1000) (K (nrmV L) m) False)
    | none => some False)
  | _ => some False) none
theorem nrmP_S {g : FuncId} {args : List V} {KS : V → Mem → Prop} {p : Prop} (hs : nrmP g args m KS = some p) (hp : p) {vs : List Value} (M : SAt D ρ m chs C h) (ha : RpL D ρ vs args) : Run Tryz.prog g vs h (zcy ro hr D ρ m chs C KS) := by
 unfold nrmP at hs
 cases hb : Nat.beq g 49 with
 | false => rw [hb] at hs; cases hs
 | true =>
   rw [hb] at hs
   have := Nat.eq_of_beq_eq_true hb
   subst this
   simp only [cond_true] at hs
   split at hs
   · rename_i x
     split at hs
     · rename_i L hL
       cases hs
       obtain ⟨hc, hk⟩ := zaa hp
       simp only [Bool.and_eq_true] at hc
       cases ha with
       | cons h1 h2 =>
         cases h2
         obtain ⟨a, n, c, rfl, sl⟩ := stkA_S hL M h1
         refine (norm_spec sl (rngB_ok hc.1) (by rw [← sl.1]; exact Nat.le_of_ble_eq_true hc.2)).mono ?_
         rintro v h' ⟨a', n', c', r, e, rfl, own, sl', k, hN⟩
         obtain ⟨he, hr⟩ := hN.unique (zj6 L)
         subst he hr
         obtain ⟨ch, o, g1, g2, g3⟩ := ownStk (D := D) own sl'
         have S2 : St D (ch :: (chs ++ C)) h' := M.st.nil.upd (k.mono fun x hx => by simp at hx) g1 g3 fun p hp => .inr (g2 p hp)
         obtain ⟨D', le, S3, hR⟩ := o.freeze S2
         have hn' : n' = (zfl L).2.length := sl'.1.symm
         rw [List.length_map, ← hn'] at hR
         exact ⟨D', ρ, m, chs, _, ⟨le, ⟨[], by simp⟩, fun _ _ _ => rfl, fun _ _ _ => rfl, Nat.le_refl _⟩, M.mono le S3, .t (.cons (.u hR) (.cons (.u (.int .i64 _)) .nil)), hk⟩
     · cases hs; exact hp.elim
   · cases hs; exact hp.elim
def spNrm : SP Tryz.prog where
 f ro call g args m K := nrmP g args m K
 ok := by
  intro ro hr X call hX hcall g args m KS p hs hp D ρ chs C h vs xx M ha
  exact nrmP_S hs hp M ha
def nrmE (g : FuncId) (args : List V) (m : Mem) : Option (Option Out) :=
 cond (Nat.beq g 49) (match args with
  | [x] => (match stkA m x with
    | some L => some (cond (rngB L && Nat.ble L.length 1000) (some [(nrmV L, m)]) none)
    | none => some none)
  | _ => some none) none
noncomputable def speNrm : SPE Tryz.prog where
 sp := spNrm
 e ro callE g args m := nrmE g args m
 ok := by
  intro ro callE call hc g args m rs K h hK
  show ∃ p, nrmP g args m K = some p ∧ p
  unfold nrmE at h
  unfold nrmP
  cases hb : Nat.beq g 49 with
  | false => rw [hb] at h; cases h
  | true =>
    rw [hb] at h
    simp only [cond_true] at h ⊢
    split at h
    · split at h
      · rename_i L hL
        simp only [Option.some.injEq] at h
        obtain ⟨h1, h2⟩ := zaf h
        cases h2
        refine ⟨_, rfl, ?_⟩
        rw [h1]
        exact hK _ (List.mem_singleton_self _)
      · cases h
    · cases h
 no := by
  intro ro callE call g args m K h
  show nrmP g args m K = none
  unfold nrmE at h
  unfold nrmP
  cases hb : Nat.beq g 49 with
  | false => rfl
  | true =>
    rw [hb] at h
    simp only [cond_true] at h
    split at h
    · split at h <;> cases h
    · cases h
end
section
open Go.Sort Go.Shelf
attribute [local irreducible] zjx delK zov zfp zjq zdj zgx zcw zbe zb0 zcp
noncomputable def zim (a b : List Stk) : Int := if errN a = 0 then errN b else errN a
theorem pairE_zero {a b : List Stk} : zim a b = 0 ↔ errN a = 0 ∧ errN b = 0 := by
 unfold zim
 by_cases h : errN a = 0
 · rw [if_pos h]; exact ⟨fun h2 => ⟨h, h2⟩, fun h2 => h2.2⟩
 · rw [if_neg h]; exact ⟨fun h2 => absurd h2 h, fun h2 => absurd h2.1 h⟩
def PairR (h : zab) (a b : List Stk) (v : Value) (h' : zab) : Prop :=
 ∃ (r1 r2 : Option Nat) (c1 c2 : List Stk) (e : Int), v = .tuple #[.map r1, .map r2, .int .i64 e] ∧ zg8 h h' ∧ e = zim a b ∧
   (e = 0 → MapO h' r1 (MVo c1) ∧ MapO h' r2 (MVo c2) ∧ CM a c1 ∧ CM b c2 ∧ ∃ b1, r1 = some b1 ∧ h.size ≤ b1 ∧ r2 ≠ some b1)
theorem pair_spec {h : zab} {a b : Option Addr} {n c n' c' : Nat} {x y : List Stk} (s : Sl h a n c x) (t : Sl h b n' c' y) (hx : rng x) (hy : rng y) (hn : n ≤ 1000) (hn' : n' ≤ 1000) :
 Run Tryz.prog 229 [.slice a n c, .slice b n' c'] h (PairR h x y) := by
 refine V229 _ _ _ _ _ _ _ _ ?_
 unfold VC229
 refine (ze4 s hx hn).mono ?_
 rintro v h1 ⟨r1, c1, e1, rfl, hm1, k1, hf1, he1, h0, h0'⟩
 refine ⟨_, _, rfl, ?_⟩
 refine cNe (fun hz => ⟨none, none, [], [], e1, rfl, k1, by unfold zim; rw [if_neg (he1 ▸ hz)]; exact he1, fun h => absurd h hz⟩) fun hz => ?_
 refine (ze4 (t.keep k1) hy hn').mono ?_
 rintro v h2 ⟨r2, c2, e2, rfl, hm2, k2, hf2, he2, g0, g0'⟩
 refine ⟨_, _, rfl, r1, r2, c1, c2, e2, rfl, k1.trans k2, by unfold zim; rw [if_pos (he1 ▸ hz)]; exact he2, fun hz2 => ?_⟩
 obtain ⟨hc1, b1, rfl⟩ := h0 hz
 obtain ⟨hc2, b2, rfl⟩ := g0 hz2
 refine ⟨MapO.keep hm1 k2, hm2, hc1, hc2, b1, rfl, hf1 b1 rfl, fun he => ?_⟩
 cases he
 have h1 := MapI.lt hm1
 have h2 := hf2 b1 rfl
 omega
theorem SN.bd {l r : List Stk} (h : SN l r) (hg : errN l = 0) : ∀ p ∈ r, 0 ≤ p.2 ∧ p.2 ≤ zha := by
 rintro ⟨k, n⟩ hp
 obtain ⟨h1, h2⟩ := (h.2 k n).1 hp
 obtain ⟨h3, h4⟩ := errN_zero.1 hg
 have := not_over h3 h4 k
 exact ⟨by show 0 ≤ n; omega, by show n ≤ zha; omega⟩
theorem rise_keys {r : List Stk} (h : r.Pairwise (fun a b => a.1 < b.1)) : (r.map (·.1)).Nodup := by
 rw [List.Nodup, List.pairwise_map]
 exact h.imp fun h => by omega
theorem app_zero {P : Program} {T E : TypeId} {i : TypeInfo} {h : zab} {B n c cx : Nat} {a a2 : Option Addr} {e : TypeId} {sz : Nat} {cs : List Value} {K : Value → zab → Prop}
 (hu : P.underlying T = some (.slice E)) (hi : P.info? E = some i) (hown : OwnS B e sz h a n c cs) (hK : K (.slice a n c) h) : ze5 P #[T, T] T (.slice a n c) (.slice a2 0 cx) h K := by
 unfold ze5
 have hn : n ≤ c := by
  rcases hown with ⟨rfl, rfl, rfl, rfl⟩ | ⟨b, l, rfl, h1, h2, h3, h4, h5, h6⟩
  · exact Nat.le_refl _
  · exact h4
 have hfc : ∀ {K' : Array Value → zab → Prop}, K' #[] h → SWp P (Builtin.firstCells i.size 0 (.slice a2 0 cx)) h K' := by
  intro K' hK'
  cases a2 with
  | none => exact hK'
  | some x =>
    show SWp P (loadCells x (0 * i.size)) h K'
    rw [Nat.zero_mul]
    exact hK'
 show SWp P (underlying T >>= _) h K
 refine zad (zal hu ?_)
 refine zad (zdi hi ?_)
 refine zad (zad (zal hu ?_))
 refine zad ?_
 show SWp P (Builtin.lenOf (.slice a2 0 cx) >>= _) h K
 refine zad ?_
 show SWp P (if n + 0 ≤ c then _ else _) h K
 rw [if_pos (by omega)]
 refine zad (hfc ?_)
 rcases hown with ⟨rfl, rfl, rfl, rfl⟩ | ⟨b, l, rfl, h1, h2, h3, h4, h5, h6⟩
 · exact hK
 · exact hK
attribute [local irreducible] ze5
theorem encS_single (r : List Stk) : ∀ v ∈ r.flatMap zh7, single v = true := by
 intro v hv
 obtain ⟨x, -, h⟩ := List.mem_flatMap.1 hv
 simp [zh7] at h; rcases h with rfl | rfl <;> rfl
theorem appStk {B : Nat} {h : zab} {a : Option Addr} {n c : Nat} {r : List Stk} {a2 : Option Addr} {m cx : Nat} {ys : List Stk} {K : Value → zab → Prop} (hown : OwnS B 102 2 h a n c (r.flatMap zh7)) (hB : B ≤ h.size) (hn : n ≤ 1000000) (hm : m ≤ 1000000)
 (hy : Sl h a2 m cx ys)
 (hK : ∀ (a' : Option Addr) (c' : Nat) (h' : zab), OwnS B 102 2 h' a' (n + m) c' ((r ++ ys).flatMap zh7) → KB (ownB a) h h' → K (.slice a' (n + m) c') h') :
 ze5 Tryz.prog #[36, 36] 36 (.slice a n c) (.slice a2 m cx) h K := by
 obtain ⟨i, hi, hsz, hby, hz⟩ := inS
 have hyl : ys.length = m := hy.1
 by_cases h0 : m = 0
 · subst h0
   have hy0 : ys = [] := List.eq_nil_of_length_eq_zero hyl
   subst hy0
   exact app_zero tyS hi hown (hK a c h (by simpa using hown) (.refl _ _))
 · obtain ⟨b2, o2, rfl, -⟩ := hy.2.2 0 ys[0] (by simp)
   refine zqm (P := Tryz.prog) (T := 36) (E := 102) (b2 := b2) (o2 := o2) (new := ys.flatMap zh7) (m := m) (K := K) tyS hi hz (by rw [hsz]; rfl) (by rw [hby]; decide) (by rw [hsz]; exact hown) hB (fun j v hv => ?_) (by rw [hsz, flatS_len ze2, hyl]) (encS_single ys) (by rw [hby]; omega) ?_
   · obtain ⟨i, t, x, h1, h2, rfl⟩ := zmg ze2 ys j v hv
     obtain ⟨b', o', e, hc⟩ := hy.2.2 i x h1
     cases e
     rw [← Nat.add_assoc]
     exact hc t v h2
   · intro a' c' h' h1 h2 _
     rw [hsz] at h1
     exact hK a' c' h' (by simpa using h1) h2
theorem SN.tot {l r : List Stk} (h : SN l r) (hl : ∀ k, 0 ≤ tot l k) (k : Int) : tot r k = tot l k := by
 by_cases h0 : YtobdpeelaadkbaaGreat.tot l k = 0
 · rw [h0]
   by_cases hr : YtobdpeelaadkbaaGreat.tot r k = 0
   · exact hr
   · obtain ⟨⟨k', n⟩, hp, rfl⟩ := zb9 hr
     have := (h.2 k' n).1 hp
     simp only at h0; omega
 · have hm : (k, YtobdpeelaadkbaaGreat.tot l k) ∈ r := (h.2 k _).2 ⟨rfl, by have := hl k; omega⟩
   exact zd7 (rise_keys h.1) hm
theorem over_iff {l : List Stk} : over l ↔ ∃ k, zha < tot l k := by
 constructor
 · rintro ⟨s, -, h⟩; exact ⟨_, h⟩
 · rintro ⟨k, h⟩
   have : 0 ≤ zha := by decide
   obtain ⟨s, hs, rfl⟩ := zb9 (l := l) (k := k) (by omega)
   exact ⟨s, hs, h⟩
theorem errN_tots {l m : List Stk} (hl : good l) (hm : good m) (ht : ∀ k, tot l k = tot m k) : errN l = errN m := by
 by_cases h : over l
 · rw [zft hl h, zft hm]
   rw [over_iff] at *
   obtain ⟨k, hk⟩ := h; exact ⟨k, by rw [← ht]; exact hk⟩
 · rw [zix hl h, zix hm]
   rw [over_iff] at *
   rintro ⟨k, hk⟩; exact h ⟨k, by rw [ht]; exact hk⟩
theorem SN.good {l r : List Stk} (h : SN l r) (hl : ∀ s ∈ l, 1 ≤ s.1) : good r := by
 rintro ⟨k, n⟩ hp
 obtain ⟨h1, h2⟩ := (h.2 k n).1 hp
 obtain ⟨s, hs, rfl⟩ := zb9 (l := l) (k := k) (by omega)
 exact ⟨hl s hs, by show 0 ≤ n; omega⟩
theorem SN.rng {l r : List Stk} (h : SN l r) (he : YtobdpeelaadkbaaGreat.errN l = 0) (hr : rng l) : rng r := by
 rintro ⟨k, n⟩ hp
 obtain ⟨h1, h2⟩ := (h.2 k n).1 hp
 obtain ⟨s, hs, rfl⟩ := zb9 (l := l) (k := k) (by omega)
 have := h.bd he _ hp
 have hM : zha = 1125899906842624 := rfl
 simp only at this
 exact ⟨(hr s hs).1, by show _ ≤ n; omega, by show n ≤ _; omega⟩
theorem rng_append {a b : List Stk} (ha : rng a) (hb : rng b) : rng (a ++ b) := fun s hs => (List.mem_append.1 hs).elim (ha s) (hb s)
noncomputable def addE (a b : List Stk) : Int := if zim a b = 0 then errN (a ++ b) else zim a b
def AddP (a b : List Stk) (e : Int) (r : List Stk) : Prop := e = addE a b ∧ (e ≠ 0 → r = []) ∧ (e = 0 → SN (a ++ b) r)
theorem AddP.unique {a b r q : List Stk} {e f : Int} (h1 : AddP a b e r) (h2 : AddP a b f q) : e = f ∧ r = q := by
 have he : e = f := h1.1.trans h2.1.symm
 subst he
 by_cases h : e = 0
 · exact ⟨rfl, (h1.2.2 h).unique (h2.2.2 h)⟩
 · exact ⟨rfl, (h1.2.1 h).trans (h2.2.1 h).symm⟩
def AddR (h : zab) (x y : List Stk) (v : Value) (h' : zab) : Prop :=
 ∃ (a : Option Addr) (n c : Nat) (r : List Stk) (e : Int), v = .tuple #[.slice a n c, .int .i64 e] ∧ OwnS h.size 102 2 h' a n c (r.flatMap zh7) ∧ Sl h' a n c r ∧ zg8 h h' ∧ AddP x y e r
theorem add_norm {x y la lb r : List Stk} {e : Int} (hp : zim x y = 0) (h1 : SN x la) (h2 : SN y lb) (hN : NormP (la ++ lb) e r) : AddP x y e r := by
 obtain ⟨hx, hy⟩ := pairE_zero.1 hp
 obtain ⟨gx, -⟩ := errN_zero.1 hx
 obtain ⟨gy, -⟩ := errN_zero.1 hy
 have ht : ∀ k, tot (la ++ lb) k = tot (x ++ y) k := fun k => by rw [zdd, zdd, h1.tot (zbt gx), h2.tot (zbt gy)]
 have hg : good (la ++ lb) := good_append.2 ⟨h1.good fun s hs => (gx s hs).1, h2.good fun s hs => (gy s hs).1⟩
 refine ⟨?_, hN.2.2, fun he => (hN.2.1 he).of_tots ht⟩
 unfold addE
 rw [if_pos hp, hN.1, errN_tots hg (good_append.2 ⟨gx, gy⟩) ht]
theorem add_spec {h : zab} {a b : Option Addr} {n c n' c' : Nat} {x y : List Stk} (s : Sl h a n c x) (t : Sl h b n' c' y) (hx : rng x) (hy : rng y) (hn : n ≤ 400) (hn' : n' ≤ 400) :
 Run Tryz.prog 141 [.slice a n c, .slice b n' c'] h (AddR h x y) := by
 have hxn : x.length = n := s.1
 have hyn : y.length = n' := t.1
 refine V141 _ _ _ _ _ _ _ _ ?_
 unfold VC141
 refine (pair_spec s t hx hy (by omega) (by omega)).mono ?_
 rintro v h1 ⟨r1, r2, c1, c2, e, rfl, k1, he, h0⟩
 refine ⟨_, _, _, rfl, ?_⟩
 refine cNe (fun hz => ⟨none, 0, 0, [], e, rfl, .nil _ _ _ _, .nil _ _ _ _ _, k1, ?_, fun _ => rfl, fun h => absurd h hz⟩) fun hz => ?_
 · unfold addE; rw [if_neg (he ▸ hz)]; exact he
 obtain ⟨hm1, hm2, hc1, hc2, -⟩ := h0 hz
 have hpe : zim x y = 0 := he ▸ hz
 obtain ⟨ex, ey⟩ := pairE_zero.1 hpe
 have hl1 := hc1.len
 have hl2 := hc2.len
 refine (zez hm1 hm1.nodup hc1.pos hc1.top (by omega)).mono ?_
 rintro v h2 ⟨a2, n2, p2, la, rfl, s2, k2, sn1, len1, own2⟩
 refine ⟨_, _, _, rfl, ?_⟩
 refine (zez (hm2.keep k2) hm2.nodup hc2.pos hc2.top (by omega)).mono ?_
 rintro v h3 ⟨a3, n3, p3, lb, rfl, s3, k3, sn2, len2, -⟩
 refine ⟨_, _, _, rfl, ?_⟩
 have hn2 : la.length = n2 := s2.1
 have hn3 : lb.length = n3 := s3.1
 have k13 := (k1.trans k2).trans k3
 refine appStk (r := la) (B := h.size) ?_ k13.size (by omega) (by omega) s3 fun a4 c4 h4 own4 k4 => ?_
 · rcases own2.keep k3 with hh | ⟨b, l, e, hb, r⟩
   · exact .inl hh
   · exact .inr ⟨b, l, e, by have := k1.size; omega, r⟩
 refine ⟨_, _, _, rfl, ?_⟩
 have x1 := sn1.of_tots hc1.tots
 have x2 := sn2.of_tots hc2.tots
 have hrng := rng_append (x1.rng ex hx) (x2.rng ey hy)
 have hs4 : Sl h4 a4 (n2 + n3) c4 (la ++ lb) := own4.slOf ze2 (by simp [hn2, hn3])
 have hge := own2.ge
 have k14 : zg8 h h4 := ((KB.of_keep k13).trans k4).keep fun b hb => by have := hge b hb; have := k1.size; omega
 refine (norm_spec hs4 hrng (by omega)).mono ?_
 rintro v h5 ⟨a5, n5, c5, r, e5, rfl, o5, s5, k5, hN⟩
 exact ⟨_, _, _, _, rfl, _, _, _, r, e5, rfl, o5.lower k14.size, s5, k14.trans k5, add_norm hpe x1 x2 hN⟩
def addK (a b : List Stk) : Int × List Stk :=
 if (zfl a).1 = 0 then (if (zfl b).1 = 0 then zfl ((zfl a).2 ++ (zfl b).2) else ((zfl b).1, [])) else ((zfl a).1, [])
theorem addK_ok (a b : List Stk) : AddP a b (addK a b).1 (addK a b).2 := by
 have ha := zj6 a
 have hb := zj6 b
 unfold addK
 by_cases h1 : (zfl a).1 = 0
 · rw [if_pos h1]
   by_cases h2 : (zfl b).1 = 0
   · rw [if_pos h2]
     exact add_norm (pairE_zero.2 ⟨ha.1 ▸ h1, hb.1 ▸ h2⟩) (ha.2.1 h1) (hb.2.1 h2) (zj6 _)
   · rw [if_neg h2]
     have hp : zim a b = (zfl b).1 := by unfold zim; rw [if_pos (ha.1 ▸ h1)]; exact hb.1.symm
     exact ⟨by unfold addE; rw [if_neg (by rw [hp]; exact h2), hp], fun _ => rfl, fun h => absurd h h2⟩
 · rw [if_neg h1]
   have hp : zim a b = (zfl a).1 := by unfold zim; rw [if_neg (by rw [← ha.1]; exact h1)]; exact ha.1.symm
   exact ⟨by unfold addE; rw [if_neg (by rw [hp]; exact h1), hp], fun _ => rfl, fun h => absurd h h1⟩
variable {D D' : Fz} {ρ ρ' : List Loc} {m m' : Mem} {chs C : List zac} {h h' : zab} {ro hr : List Nat}
def addV (a b : List Stk) : V := .t [.u (.l 2 ((addK a b).2.map eStk)), .i (addK a b).1]
def addFP (g : FuncId) (args : List V) (m : Mem) (K : V → Mem → Prop) : Option Prop :=
 cond (Nat.beq g 141) (match args with
  | [x, y] => (match stkA m x, stkA m y with
    | some L, some M => some (cond (rngB L && rngB M && Nat.ble L.length 400 && Nat.ble M.length 400) (K (addV L M) m) False)
    | _, _ => some False)
  | _ => some False) none
theorem addFP_S {g : FuncId} {args : List V} {KS : V → Mem → Prop} {p : Prop} (hs : addFP g args m KS = some p) (hp : p) {vs : List Value} (M : SAt D ρ m chs C h) (ha : RpL D ρ vs args) : Run Tryz.prog g vs h (zcy ro hr D ρ m chs C KS) := by
 unfold addFP at hs
 cases hb : Nat.beq g 141 with
 | false => rw [hb] at hs; cases hs
 | true =>
   rw [hb] at hs
   have := Nat.eq_of_beq_eq_true hb
   subst this
   simp only [cond_true] at hs
   split at hs
   · rename_i x y
     split at hs
     · rename_i L L2 hL hL2
       cases hs
       obtain ⟨hc, hk⟩ := zaa hp
       simp only [Bool.and_eq_true] at hc
       cases ha with
       | cons h1 h2 =>
         cases h2 with
         | cons h2 h3 =>
           cases h3
           obtain ⟨a, n, c, rfl, sl⟩ := stkA_S hL M h1
           obtain ⟨a2, n2, c2, rfl, sl2⟩ := stkA_S hL2 M h2
           refine (add_spec sl sl2 (rngB_ok hc.1.1.1) (rngB_ok hc.1.1.2) (by rw [← sl.1]; exact Nat.le_of_ble_eq_true hc.1.2) (by rw [← sl2.1]; exact Nat.le_of_ble_eq_true hc.2)).mono ?_
           rintro v h' ⟨a', n', c', r, e, rfl, own, sl', k, hN⟩
           obtain ⟨he, hr⟩ := hN.unique (addK_ok L L2)
           subst he hr
           obtain ⟨ch, o, g1, g2, g3⟩ := ownStk (D := D) own sl'
           have S2 : St D (ch :: (chs ++ C)) h' := M.st.nil.upd (k.mono fun x hx => by simp at hx) g1 g3 fun p hp => .inr (g2 p hp)
           obtain ⟨D', le, S3, hR⟩ := o.freeze S2
           have hn' : n' = (addK L L2).2.length := sl'.1.symm
           rw [List.length_map, ← hn'] at hR
           exact ⟨D', ρ, m, chs, _, ⟨le, ⟨[], by simp⟩, fun _ _ _ => rfl, fun _ _ _ => rfl, Nat.le_refl _⟩, M.mono le S3, .t (.cons (.u hR) (.cons (.u (.int .i64 _)) .nil)), hk⟩
     · cases hs; exact hp.elim
   · cases hs; exact hp.elim
def spAdd : SP Tryz.prog where
 f ro call g args m K := addFP g args m K
 ok := by
  intro ro hr X call hX hcall g args m KS p hs hp D ρ chs C h vs xx M ha
  exact addFP_S hs hp M ha
def addEv (g : FuncId) (args : List V) (m : Mem) : Option (Option Out) :=
 cond (Nat.beq g 141) (match args with
  | [x, y] => (match stkA m x, stkA m y with
    | some L, some M => some (cond (rngB L && rngB M && Nat.ble L.length 400 && Nat.ble M.length 400) (some [(addV L M, m)]) none)
    | _, _ => some none)
  | _ => some none) none
noncomputable def speAdd : SPE Tryz.prog where
 sp := spAdd
 e ro callE g args m := addEv g args m
 ok := by
  intro ro callE call hc g args m rs K h hK
  show ∃ p, addFP g args m K = some p ∧ p
  unfold addEv at h
  unfold addFP
  cases hb : Nat.beq g 141 with
  | false => rw [hb] at h; cases h
  | true =>
    rw [hb] at h
    simp only [cond_true] at h ⊢
    split at h
    · split at h
      · simp only [Option.some.injEq] at h
        obtain ⟨h1, h2⟩ := zaf h
        cases h2
        refine ⟨_, rfl, ?_⟩
        rw [h1]
        exact hK _ (List.mem_singleton_self _)
      · cases h
    · cases h
 no := by
  intro ro callE call g args m K h
  show addFP g args m K = none
  unfold addEv at h
  unfold addFP
  cases hb : Nat.beq g 141 with
  | false => rfl
  | true =>
    rw [hb] at h
    simp only [cond_true] at h
    split at h
    · split at h <;> cases h
    · cases h
end
section
set_option maxRecDepth 1000000
noncomputable section
structure NbV where
 c1 : Int
 c2 : List (List U)
 c3 : Int
 c4 : List (List U)
 c5 : Int
 c6 : Int
 c7 : Int
 c8 : Int
 a9 : Int
 a10 : Int
 a11 : Int
 a12 : Int
 a13 : Int
 a14 : Int
 a15 : Int
 a16 : Int
 a17 : Int
 a18 : Int
 a19 : Int
 a20 : Int
 a21 : Int
 a22 : Int
 a23 : Int
 a24 : Int
 a25 : Int
 a26 : Int
 a27 : Int
 a28 : Int
 a29 : Int
 a30 : Int
 a31 : Int
 a32 : Int
 a33 : Int
 a34 : Int
 a35 : Int
 a36 : Int
 a37 : Int
 a38 : Int
 a39 : Int
 a40 : Int
 a41 : Int
 a42 : Int
 a43 : Int
 a44 : Int
 a45 : Int
 a46 : Int
 a47 : Int
 a48 : Int
 a49 : Int
 a50 : Int
 a51 : Int
 a52 : Int
 a53 : List (List U)
 a54 : List (List U)
 a55 : Int
 a56 : Int
 a57 : Int
 a58 : Int
 accs : List (List U)
 lns : List (List U)
 W : Ob
 W2 : Ob
 e : Int
structure NbH (v : NbV) (b1 b2 : Bool) (e : Int) (z q : Bool) : Prop where
 hF : PRun Tryz.prog 4 [] [.a [.i v.c1, .u (.l 7 v.c2), .i v.c3, .u (.l 4 v.c4), .i v.c5, .i v.c6, .i v.c7, .i v.c8]] fun x m => x = .u (.b b1) ∧ m = []
 hG : bif b1 then PRun Tryz.prog 5 [.w 42 50 [[.n v.a9, .n v.a10, .n v.a11, .n v.a12, .n v.a13, .n v.a14, .n v.a15, .n v.a16, .n v.a17, .n v.a18, .n v.a19, .n v.a20, .n v.a21, .n v.a22, .n v.a23, .n v.a24, .n v.a25, .n v.a26, .n v.a27, .n v.a28, .n v.a29, .n v.a30, .n v.a31, .n v.a32, .n v.a33, .n v.a34, .n v.a35, .n v.a36, .n v.a37, .n v.a38, .n v.a39, .n v.a40, .n v.a41, .n v.a42, .n v.a43, .n v.a44, .n v.a45, .n v.a46, .n v.a47, .n v.a48, .n v.a49, .n v.a50, .n v.a51, .n v.a52, .l 2 v.a53, .l 2 v.a54, .n v.a55, .n v.a56, .n v.a57, .n v.a58]]] [.w 0, .i 1] fun x m => x = .u (.b b2) ∧ m = [.w 42 50 [[.n v.a9, .n v.a10, .n v.a11, .n v.a12, .n v.a13, .n v.a14, .n v.a15, .n v.a16, .n v.a17, .n v.a18, .n v.a19, .n v.a20, .n v.a21, .n v.a22, .n v.a23, .n v.a24, .n v.a25, .n v.a26, .n v.a27, .n v.a28, .n v.a29, .n v.a30, .n v.a31, .n v.a32, .n v.a33, .n v.a34, .n v.a35, .n v.a36, .n v.a37, .n v.a38, .n v.a39, .n v.a40, .n v.a41, .n v.a42, .n v.a43, .n v.a44, .n v.a45, .n v.a46, .n v.a47, .n v.a48, .n v.a49, .n v.a50, .n v.a51, .n v.a52, .l 2 v.a53, .l 2 v.a54, .n v.a55, .n v.a56, .n v.a57, .n v.a58]]] else True
 hC : bif b1 && b2 then PRun Tryz.prog 29 [] [.a [.i v.c1, .u (.l 7 v.c2), .i v.c3, .u (.l 4 v.c4), .i v.c5, .i v.c6, .i v.c7, .i v.c8]] fun x m => x = .i e ∧ m = [] else True
 hK : bif b1 && b2 then PRun Tryz.prog 8 [] [.a [.i v.c1, .u (.l 7 v.c2), .i v.c3, .u (.l 4 v.c4), .i v.c5, .i v.c6, .i v.c7, .i v.c8]] fun x m => x = .i e ∧ m = [] else True
 hN : bif (b1 && b2) && z then PRun Tryz.prog 7 [] [.a [.i v.c1, .u (.l 7 v.c2), .i v.c3, .u (.l 4 v.c4), .i v.c5, .i v.c6, .i v.c7, .i v.c8]] fun x m => x = .t [.r 0 0, .i 0] ∧ m = [.o v.W] else True
 hX : bif (b1 && b2) && !z then PRun Tryz.prog 7 [] [.a [.i v.c1, .u (.l 7 v.c2), .i v.c3, .u (.l 4 v.c4), .i v.c5, .i v.c6, .i v.c7, .i v.c8]] fun x m => x = .t [.u (.p none), .i e] ∧ m = [] else True
 hSt : bif (b1 && b2) && z then PRun Tryz.prog 10 [.o v.W] [.r 0 0] fun x m => x = .a [.i 0, .i 0, .u (.l 2 []), .u (.l 2 []), .u (.l 2 []), .u (.l 2 v.accs), .u (.l 5 []), .u (.l 9 []), .i 1, .u (.l 2 v.lns), .u (.l 16 []), .u (.l 19 []), .u (.l 2 []), .u (.l 3 []), .i 1, .u (.l 4 [])] ∧ m = [.o v.W2] else True
 hEm : bif (b1 && b2) && z then PRun Tryz.prog 11 [] [.a [.i v.c1, .u (.l 7 v.c2), .i v.c3, .u (.l 4 v.c4), .i v.c5, .i v.c6, .i v.c7, .i v.c8]] fun x m => x = .a [.i 0, .i 0, .u (.l 2 []), .u (.l 2 []), .u (.l 2 []), .u (.l 2 v.accs), .u (.l 5 []), .u (.l 9 []), .i 1, .u (.l 2 v.lns), .u (.l 16 []), .u (.l 19 []), .u (.l 2 []), .u (.l 3 []), .i 1, .u (.l 4 [])] ∧ m = [] else True
 hDf : bif (b1 && b2) && z then PRun Tryz.prog 9 [] [.a [.i 0, .i 0, .u (.l 2 []), .u (.l 2 []), .u (.l 2 []), .u (.l 2 v.accs), .u (.l 5 []), .u (.l 9 []), .i 1, .u (.l 2 v.lns), .u (.l 16 []), .u (.l 19 []), .u (.l 2 []), .u (.l 3 []), .i 1, .u (.l 4 [])], .a [.i 0, .i 0, .u (.l 2 []), .u (.l 2 []), .u (.l 2 []), .u (.l 2 v.accs), .u (.l 5 []), .u (.l 9 []), .i 1, .u (.l 2 v.lns), .u (.l 16 []), .u (.l 19 []), .u (.l 2 []), .u (.l 3 []), .i 1, .u (.l 4 [])]] fun x m => x = .u (.s ⟨#[]⟩) ∧ m = [] else True
 he : eqF e 0 = z
noncomputable abbrev eK1 := (zcz (speNrm.or (speAdd.or (za1 whp))) [12, 17, 26, 27])
def awM0 (v : NbV) : Mem := []
def awT1 (v : NbV) : Fr := Fr.mk [.u (.b false)] 103 104
def awT2 (v : NbV) : Fr := Fr.mk [.u (.b false)] 103 104
noncomputable abbrev eK2 := (zcz (speNrm.or (speAdd.or (za1 whp))) [7])
noncomputable abbrev awk1ev := Ev Tryz.prog eK2 (List.range 600) 300 60 26
noncomputable abbrev zmw := EvL Tryz.prog eK2 (List.range 600) 300 60 26
def awk1M0 (v : NbV) : Mem := []
noncomputable abbrev awk1C1 : Code := zbr Tryz.f26
def awk1T1 (v : NbV) : Fr := Fr.mk [.i 0, .z, .u (.p none), .u (.b false), .r 5 0, .w 2, .w 3, .w 4, .z, .z, .z, .z, .z, .z, .z, .t [.a [.i 4, .w 0, .i 2, .w 1, .i 3, .i 200, .i 1, .i 500], .w 2, .w 3, .w 4], .i 0, .t [.a [.i 4, .w 0, .i 2, .w 1, .i 3, .i 200, .i 1, .i 500], .w 2, .w 3, .w 4], .a [.i 4, .w 0, .i 2, .w 1, .i 3, .i 200, .i 1, .i 500], .w 2, .w 3, .w 4] 91 113
def awk1M2 (v : NbV) : Mem := [.w 96 7 [[.n 3, .n 2, .n 10, .l 2 [[.n 1, .n 3], [.n 2, .n 1]], .n 2, .n 3, .n 5], [.n 4, .n 1, .n 7, .l 2 [[.n 3, .n 2]], .n 0, .n 0, .n 3]],
 .w 110 4 [[.n 1, .n 1, .n 1, .n 1000], [.n 1, .n 1, .n 0, .n 0]],
 .w 104 2 [[.n 0, .n 0], [.n 1, .n 60], [.n 2, .n 500], [.n 3, .n 2]],
 .w 160 5 [[.n 1, .n 0, .n 1, .n 1, .n 60], [.n 1, .n 0, .n 1, .n 2, .n 40], [.n 1, .n 0, .n 1, .n 3, .n 20], [.n 2, .n 0, .n 1, .n 1, .n 60], [.n 2, .n 0, .n 1, .n 2, .n 40], [.n 2, .n 0, .n 1, .n 3, .n 20]],
 .w 31 9 [[.n 0, .n 1, .n 0, .n 1, .n 1, .n 0, .n 0, .n (-1), .n 0], [.n 0, .n 2, .n 0, .n 1, .n 2, .n 0, .n 0, .n (-1), .n 0], [.n 0, .n 1, .n 0, .n 1, .n 2, .n 3, .n 0, .n 4, .n 0], [.n 0, .n 2, .n 0, .n 1, .n 1, .n 0, .n 8, .n (-1), .n 0], [.n 0, .n 1, .n 0, .n 2, .n 1, .n 0, .n 0, .n (-1), .n 0]],
 .c [.i 4, .w 0, .i 2, .w 1, .i 3, .i 200, .i 1, .i 500]]
def awk1T3 (v : NbV) : Fr := puF (awk1T1 v) [(23, .a [.i 4, .w 0, .i 2, .w 1, .i 3, .i 200, .i 1, .i 500])]
noncomputable abbrev eK3 := (zcz (speNrm.or (speAdd.or (za1 whp))) [30])
def awk1k2M0 (v : NbV) : Mem := [.w 96 7 [[.n 3, .n 2, .n 10, .l 2 [[.n 1, .n 3], [.n 2, .n 1]], .n 2, .n 3, .n 5], [.n 4, .n 1, .n 7, .l 2 [[.n 3, .n 2]], .n 0, .n 0, .n 3]],
 .w 110 4 [[.n 1, .n 1, .n 1, .n 1000], [.n 1, .n 1, .n 0, .n 0]]]
def awk1k2T1 (v : NbV) : Fr := Fr.mk [.a [.i 4, .w 0, .i 2, .w 1, .i 3, .i 200, .i 1, .i 500], .r 2 0, .u (.p none), .i 0] 33 37
def zke (v : NbV) : Mem := paM (awk1k2M0 v) [] [.c [.i 4, .w 0, .i 2, .w 1, .i 3, .i 200, .i 1, .i 500]]
def awk1k2T3 (v : NbV) : Fr := Fr.mk [.a [.i 4, .w 0, .i 2, .w 1, .i 3, .i 200, .i 1, .i 500], .r 2 0, .u (.p none), .i 0, .i 0, .z, .z, .a [.i 4, .w 0, .i 2, .w 1, .i 3, .i 200, .i 1, .i 500], .i 0] 28 37
def awk1k2T4 (v : NbV) : Fr := puF (awk1k2T3 v) [(9, .i 0)]
def awk1k2T5 (v : NbV) : Fr := puF (awk1k2T4 v) [(10, .u (.b false))]
def awk1k2T7 (v : NbV) : Fr := Fr.mk [.a [.i 4, .w 0, .i 2, .w 1, .i 3, .i 200, .i 1, .i 500], .r 2 0, .u (.p none), .i 0, .i 0, .r 4 0, .i 3, .a [.i 4, .w 0, .i 2, .w 1, .i 3, .i 200, .i 1, .i 500], .i 0, .i 0, .u (.b false), .z, .r 2 3, .w 1, .i 2, .i 4, .w 3, .a [.i 0, .i 0, .nl 2, .nl 2, .nl 2, .nl 2, .nl 5, .nl 9, .i 1, .w 3, .nl 16, .nl 19, .nl 2, .nl 3, .i 1, .nl 4], .r 2 4, .i 3, .i 4, .i 4, .u (.b false), .i 3, .r 4 5, .w 5, .i 3, .a [.i 3, .i 0], .w 6, .w 7, .r 4 5, .i 4] 5 37
def awk1k2M8 (v : NbV) : Mem := [.w 96 7 [[.n 3, .n 2, .n 10, .l 2 [[.n 1, .n 3], [.n 2, .n 1]], .n 2, .n 3, .n 5], [.n 4, .n 1, .n 7, .l 2 [[.n 3, .n 2]], .n 0, .n 0, .n 3]],
 .w 110 4 [[.n 1, .n 1, .n 1, .n 1000], [.n 1, .n 1, .n 0, .n 0]],
 .c [.i 4, .w 0, .i 2, .w 1, .i 3, .i 200, .i 1, .i 500],
 .w 197 2 [[.l 1 [], .l 1 []], [.l 1 [], .l 1 []], [.l 1 [], .l 1 []], [.l 1 [], .l 1 []]],
 .c [.i 0, .i 0, .nl 2, .nl 2, .nl 2, .w 7, .nl 5, .nl 9, .i 1, .w 3, .nl 16, .nl 19, .nl 2, .nl 3, .i 1, .nl 4],
 .x,
 .w 104 2 [[.n 3, .n 0]],
 .w 104 2 [[.n 0, .n 0], [.n 1, .n 0], [.n 2, .n 0], [.n 3, .n 0]]]
def zqg (v : NbV) : Fr := puF (awk1k2T7 v) [(32, .a [.i 4, .w 0, .i 2, .w 1, .i 3, .i 200, .i 1, .i 500]), (33, .a [.i 0, .i 0, .nl 2, .nl 2, .nl 2, .w 7, .nl 5, .nl 9, .i 1, .w 3, .nl 16, .nl 19, .nl 2, .nl 3, .i 1, .nl 4])]
noncomputable abbrev eK4 := (zcz (speNrm.or (speAdd.or (za1 whp))) [92])
def awk1k2k3T0 (v : NbV) : Fr := zd5 Tryz.prog Tryz.f30 [.a [.i 4, .w 0, .i 2, .w 1, .i 3, .i 200, .i 1, .i 500], .a [.i 0, .i 0, .nl 2, .nl 2, .nl 2, .w 2, .nl 5, .nl 9, .i 1, .w 3, .nl 16, .nl 19, .nl 2, .nl 3, .i 1, .nl 4]]
def zos (v : NbV) : Mem := [.w 96 7 [[.n 3, .n 2, .n 10, .l 2 [[.n 1, .n 3], [.n 2, .n 1]], .n 2, .n 3, .n 5], [.n 4, .n 1, .n 7, .l 2 [[.n 3, .n 2]], .n 0, .n 0, .n 3]],
 .w 110 4 [[.n 1, .n 1, .n 1, .n 1000], [.n 1, .n 1, .n 0, .n 0]],
 .w 104 2 [[.n 0, .n 0], [.n 1, .n 0], [.n 2, .n 0], [.n 3, .n 0]],
 .w 197 2 [[.l 1 [], .l 1 []], [.l 1 [], .l 1 []], [.l 1 [], .l 1 []], [.l 1 [], .l 1 []]]]
def zor (v : NbV) : Fr := puF (awk1k2k3T0 v) [(2, .r 4 0), (3, .r 5 0), (4, .u (.p none)), (5, .i 0)]
def zgk (v : NbV) : Mem := paM (zos v) [] [.c [.i 4, .w 0, .i 2, .w 1, .i 3, .i 200, .i 1, .i 500],
 .c [.i 0, .i 0, .nl 2, .nl 2, .nl 2, .w 2, .nl 5, .nl 9, .i 1, .w 3, .nl 16, .nl 19, .nl 2, .nl 3, .i 1, .nl 4]]
def zi1 (v : NbV) : Fr := puF (zor v) [(12, .a [.i 4, .w 0, .i 2, .w 1, .i 3, .i 200, .i 1, .i 500]), (13, .a [.i 0, .i 0, .nl 2, .nl 2, .nl 2, .w 2, .nl 5, .nl 9, .i 1, .w 3, .nl 16, .nl 19, .nl 2, .nl 3, .i 1, .nl 4])]
def zfz (v : NbV) : Mem := [.w 96 7 [[.n 3, .n 2, .n 10, .l 2 [[.n 1, .n 3], [.n 2, .n 1]], .n 2, .n 3, .n 5], [.n 4, .n 1, .n 7, .l 2 [[.n 3, .n 2]], .n 0, .n 0, .n 3]],
 .w 110 4 [[.n 1, .n 1, .n 1, .n 1000], [.n 1, .n 1, .n 0, .n 0]],
 .w 104 2 [[.n 0, .n 0], [.n 1, .n 0], [.n 2, .n 0], [.n 3, .n 0]],
 .w 197 2 [[.l 1 [], .l 1 []], [.l 1 [], .l 1 []], [.l 1 [], .l 1 []], [.l 1 [], .l 1 []]]]
def awk1k2k3k4T1 (v : NbV) : Fr := Fr.mk [.a [.i 4, .w 0, .i 2, .w 1, .i 3, .i 200, .i 1, .i 500], .a [.i 0, .i 0, .nl 2, .nl 2, .nl 2, .w 2, .nl 5, .nl 9, .i 1, .w 3, .nl 16, .nl 19, .nl 2, .nl 3, .i 1, .nl 4], .r 4 0, .r 5 0, .i 0, .i 0, .a [.i 4, .w 0, .i 2, .w 1, .i 3, .i 200, .i 1, .i 500], .i 0, .i 0, .u (.b true), .u (.b true), .a [.i 4, .w 0, .i 2, .w 1, .i 3, .i 200, .i 1, .i 500], .a [.i 0, .i 0, .nl 2, .nl 2, .nl 2, .w 2, .nl 5, .nl 9, .i 1, .w 3, .nl 16, .nl 19, .nl 2, .nl 3, .i 1, .nl 4], .u (.b true), .u (.b false), .u (.b false), .i 0] 0 17
def awk1k2k3k4M2 (v : NbV) : Mem := paM (zfz v) [] [.c [.i 4, .w 0, .i 2, .w 1, .i 3, .i 200, .i 1, .i 500],
 .c [.i 0, .i 0, .nl 2, .nl 2, .nl 2, .w 2, .nl 5, .nl 9, .i 1, .w 3, .nl 16, .nl 19, .nl 2, .nl 3, .i 1, .nl 4]]
abbrev awk1k2k3k4Mm (v : NbV) : Mem := (zfz v)
theorem znr (v : NbV) : PRun Tryz.prog 92 (zfz v) [.a [.i 4, .w 0, .i 2, .w 1, .i 3, .i 200, .i 1, .i 500], .a [.i 0, .i 0, .nl 2, .nl 2, .nl 2, .w 2, .nl 5, .nl 9, .i 1, .w 3, .nl 16, .nl 19, .nl 2, .nl 3, .i 1, .nl 4]] fun x m => x = .i 0 ∧ m = (awk1k2k3k4Mm v) := Ev.runA (speNrm.or (speAdd.or (za1 whp))) Tryz.func92 (c := (zbr Tryz.f92)) (r := (.ret, (awk1k2k3k4T1 v), (awk1k2k3k4M2 v))) Ev.codeA
def zoq (v : NbV) : Fr := puF (zi1 v) [(6, .i 0), (14, .i 0)]
def awk1k2k3T5 (v : NbV) : Fr := puF (zoq v) [(15, .i 0), (16, .u (.b false))]
def awk1k2k3T6 (v : NbV) : Fr := Fr.mk [.a [.i 4, .w 0, .i 2, .w 1, .i 3, .i 200, .i 1, .i 500], .a [.i 0, .i 0, .nl 2, .nl 2, .nl 2, .w 2, .nl 5, .nl 9, .i 1, .w 3, .nl 16, .nl 19, .nl 2, .nl 3, .i 1, .nl 4], .r 4 0, .r 5 0, .r 20 0, .i 0, .i 0, .r 6 0, .r 14 0, .i 0, .i 0, .i 0, .a [.i 4, .w 0, .i 2, .w 1, .i 3, .i 200, .i 1, .i 500], .a [.i 0, .i 0, .nl 2, .nl 2, .nl 2, .w 2, .nl 5, .nl 9, .i 1, .w 3, .nl 16, .nl 19, .nl 2, .nl 3, .i 1, .nl 4], .i 0, .i 0, .u (.b false), .z, .t [.r 7 0, .i 0], .r 5 5, .w 2, .t [.r 7 0, .i 0], .r 7 0, .i 0, .r 6 0, .t [.r 9 0, .i 0], .r 5 6, .nl 5, .t [.r 9 0, .i 0], .r 9 0, .i 0, .r 6 1, .t [.r 10 0, .i 0], .r 5 13, .nl 3, .r 5 14, .i 1, .t [.r 10 0, .i 0], .r 10 0, .i 0, .r 6 2, .t [.r 12 0, .i 0], .r 5 15, .nl 4, .t [.r 12 0, .i 0], .r 12 0, .i 0, .r 6 3, .t [.r 13 0, .i 0], .r 5 12, .nl 2, .t [.r 13 0, .i 0], .r 13 0, .i 0, .r 6 4, .t [.r 14 0, .i 0], .r 5 7, .nl 9, .r 5 8, .i 1, .t [.r 14 0, .i 0], .r 14 0, .i 0, .t [.r 15 0, .i 0], .a [.i 4, .w 0, .i 2, .w 1, .i 3, .i 200, .i 1, .i 500], .r 6 0, .r 7 0, .r 6 1, .r 9 0, .r 6 2, .r 10 0, .r 6 3, .r 12 0, .r 14 0, .r 5 9, .w 3, .r 5 10, .nl 16, .t [.r 15 0, .i 0], .r 15 0, .i 0, .r 6 5, .t [.r 19 0, .i 0], .a [.i 4, .w 0, .i 2, .w 1, .i 3, .i 200, .i 1, .i 500], .r 6 0, .r 7 0, .r 6 1, .r 9 0, .r 6 2, .r 10 0, .r 6 3, .r 12 0, .r 5 11, .nl 19, .t [.r 19 0, .i 0], .r 19 0, .i 0, .r 6 6, .i 0, .u (.b false), .u (.b false), .i 0, .u (.b false), .u (.b false), .a [.r 7 0, .r 9 0, .r 10 0, .r 12 0, .r 13 0, .r 15 0, .r 19 0], .r 5 1, .i 0, .r 5 2, .nl 2, .r 5 3, .nl 2, .r 5 4, .nl 2, .a [.i 0, .nl 2, .nl 2, .nl 2], .a [.i 4, .w 0, .i 2, .w 1, .i 3, .i 200, .i 1, .i 500], .r 5 0, .i 0, .a [.r 7 0, .r 9 0, .r 10 0, .r 12 0, .r 13 0, .r 15 0, .r 19 0, .i 0, .nl 2, .nl 2, .nl 2, .i 4, .w 0, .i 2, .w 1, .i 3, .i 200, .i 1, .i 500, .i 0], .r 20 0] 0 119
def awk1k2k3M7 (v : NbV) : Mem := [.w 96 7 [[.n 3, .n 2, .n 10, .l 2 [[.n 1, .n 3], [.n 2, .n 1]], .n 2, .n 3, .n 5], [.n 4, .n 1, .n 7, .l 2 [[.n 3, .n 2]], .n 0, .n 0, .n 3]],
 .w 110 4 [[.n 1, .n 1, .n 1, .n 1000], [.n 1, .n 1, .n 0, .n 0]],
 .w 104 2 [[.n 0, .n 0], [.n 1, .n 0], [.n 2, .n 0], [.n 3, .n 0]],
 .w 197 2 [[.l 1 [], .l 1 []], [.l 1 [], .l 1 []], [.l 1 [], .l 1 []], [.l 1 [], .l 1 []]],
 .c [.i 4, .w 0, .i 2, .w 1, .i 3, .i 200, .i 1, .i 500],
 .c [.i 0, .i 0, .nl 2, .nl 2, .nl 2, .w 2, .nl 5, .nl 9, .i 1, .w 3, .nl 16, .nl 19, .nl 2, .nl 3, .i 1, .nl 4],
 .c [.r 7 0, .r 9 0, .r 10 0, .r 12 0, .r 13 0, .r 15 0, .r 19 0],
 .c [.w 8, .i 0],
 .w 345 5 [[.n 0, .n 0, .n 0, .n 0, .n 0], [.n 1, .n 0, .n 0, .n 0, .n 0], [.n 2, .n 0, .n 0, .n 0, .n 0], [.n 3, .n 0, .n 0, .n 0, .n 0]],
 .c [.nl 5, .n .i64 33 [0, 0, 0, 0, 0, 0, 0, 0, 0, 0, 0, 0, 0, 0, 0, 0, 0, 0, 0, 0, 0, 0, 0, 0, 0, 0, 0, 0, 0, 0, 0, 0, 0]],
 .c [.nl 3, .m 11, .i 256, .i 1],
 .p .n 1 false [],
 .c [.nl 4, .nm],
 .c [.nl 1],
 .c [.nl 13, .i 0],
 .c [.i 4, .w 0, .i 2, .w 1, .i 3, .i 200, .i 1, .i 500, .r 7 0, .r 9 0, .r 10 0, .r 12 0, .r 14 0, .r 16 0, .nl 16],
 .c [.w 17, .m 18],
 .cw 331 3 4 [.i 1, .c 1 [], .c 1 [], .i 1, .c 1 [], .c 1 [], .i 1, .c 1 [], .c 1 [], .i 0, .c 1 [], .c 1 []],
 .p .n 1 false [],
 .c [.i 4, .w 0, .i 2, .w 1, .i 3, .i 200, .i 1, .i 500, .r 7 0, .r 9 0, .r 10 0, .r 12 0, .nl 19],
 .c [.r 7 0, .r 9 0, .r 10 0, .r 12 0, .r 13 0, .r 15 0, .r 19 0, .i 0, .nl 2, .nl 2, .nl 2, .i 4, .w 0, .i 2, .w 1, .i 3, .i 200, .i 1, .i 500, .i 0]]
def awk1k2k3M8 (v : NbV) : Mem := [.w 96 7 [[.n 3, .n 2, .n 10, .l 2 [[.n 1, .n 3], [.n 2, .n 1]], .n 2, .n 3, .n 5], [.n 4, .n 1, .n 7, .l 2 [[.n 3, .n 2]], .n 0, .n 0, .n 3]],
 .w 110 4 [[.n 1, .n 1, .n 1, .n 1000], [.n 1, .n 1, .n 0, .n 0]],
 .w 104 2 [[.n 0, .n 0], [.n 1, .n 0], [.n 2, .n 0], [.n 3, .n 0]],
 .w 197 2 [[.l 1 [], .l 1 []], [.l 1 [], .l 1 []], [.l 1 [], .l 1 []], [.l 1 [], .l 1 []]],
 .c [.r 5 0, .r 7 0, .r 8 0, .r 10 0, .r 11 0, .r 12 0, .r 17 0, .i 0, .nl 2, .nl 2, .nl 2, .i 4, .w 0, .i 2, .w 1, .i 3, .i 200, .i 1, .i 500, .i 0],
 .c [.w 6, .i 0],
 .w 345 5 [[.n 0, .n 0, .n 0, .n 0, .n 0], [.n 1, .n 0, .n 0, .n 0, .n 0], [.n 2, .n 0, .n 0, .n 0, .n 0], [.n 3, .n 0, .n 0, .n 0, .n 0]],
 .c [.nl 5, .n .i64 33 [0, 0, 0, 0, 0, 0, 0, 0, 0, 0, 0, 0, 0, 0, 0, 0, 0, 0, 0, 0, 0, 0, 0, 0, 0, 0, 0, 0, 0, 0, 0, 0, 0]],
 .c [.nl 3, .m 9, .i 256, .i 1],
 .p .n 1 false [],
 .c [.nl 4, .nm],
 .c [.nl 1],
 .c [.i 4, .w 0, .i 2, .w 1, .i 3, .i 200, .i 1, .i 500, .r 5 0, .r 7 0, .r 8 0, .r 10 0, .r 13 0, .r 14 0, .nl 16],
 .c [.nl 13, .i 0],
 .c [.w 15, .m 16],
 .cw 331 3 4 [.i 1, .c 1 [], .c 1 [], .i 1, .c 1 [], .c 1 [], .i 1, .c 1 [], .c 1 [], .i 0, .c 1 [], .c 1 []],
 .p .n 1 false [],
 .c [.i 4, .w 0, .i 2, .w 1, .i 3, .i 200, .i 1, .i 500, .r 5 0, .r 7 0, .r 8 0, .r 10 0, .nl 19]]
abbrev awk1k2k3Mm (v : NbV) : Mem := (awk1k2k3M8 v)
theorem awk1k2k3_run (v : NbV) : PRun Tryz.prog 30 (zos v) [.a [.i 4, .w 0, .i 2, .w 1, .i 3, .i 200, .i 1, .i 500], .a [.i 0, .i 0, .nl 2, .nl 2, .nl 2, .w 2, .nl 5, .nl 9, .i 1, .w 3, .nl 16, .nl 19, .nl 2, .nl 3, .i 1, .nl 4]] fun x m => x = .t [.r 4 0, .i 0] ∧ m = (awk1k2k3Mm v) := Ev.runA eK4 Tryz.func30 (c := (zbr Tryz.f30)) (r := (.ret, (awk1k2k3T6 v), (awk1k2k3M7 v))) (Ev.piecesA (k := 1) (t1 := zor v) (m1 := zgk v) (Ev.seqPA (t1 := awk1k2k3T5 v) (m1 := zgk v) (Ev.seqPA (t1 := zoq v) (m1 := zgk v) (Ev.regA (EvO.callA (t2 := zi1 v) (m1 := zgk v) (ix := [0, 1, 2, 3]) (k := 2) (t1 := (zi1 v)) (args := [.a [.i 4, .w 0, .i 2, .w 1, .i 3, .i 200, .i 1, .i 500], .a [.i 0, .i 0, .nl 2, .nl 2, .nl 2, .w 2, .nl 5, .nl 9, .i 1, .w 3, .nl 16, .nl 19, .nl 2, .nl 3, .i 1, .nl 4]]) (a := []) (cc := []) (znr v) EvO.opsA)) Ev.codeA) Ev.codeA))
def awk1k2T10 (v : NbV) : Fr := puF (zqg v) [(2, .r 8 0), (34, .t [.r 8 0, .i 0]), (35, .r 8 0), (36, .i 0)]
def awk1k2M11 (v : NbV) : Mem := [.w 96 7 [[.n 3, .n 2, .n 10, .l 2 [[.n 1, .n 3], [.n 2, .n 1]], .n 2, .n 3, .n 5], [.n 4, .n 1, .n 7, .l 2 [[.n 3, .n 2]], .n 0, .n 0, .n 3]],
 .w 110 4 [[.n 1, .n 1, .n 1, .n 1000], [.n 1, .n 1, .n 0, .n 0]],
 .c [.i 4, .w 0, .i 2, .w 1, .i 3, .i 200, .i 1, .i 500],
 .w 197 2 [[.l 1 [], .l 1 []], [.l 1 [], .l 1 []], [.l 1 [], .l 1 []], [.l 1 [], .l 1 []]],
 .c [.i 0, .i 0, .nl 2, .nl 2, .nl 2, .w 7, .nl 5, .nl 9, .i 1, .w 3, .nl 16, .nl 19, .nl 2, .nl 3, .i 1, .nl 4],
 .x,
 .w 104 2 [[.n 3, .n 0]],
 .w 104 2 [[.n 0, .n 0], [.n 1, .n 0], [.n 2, .n 0], [.n 3, .n 0]],
 .c [.r 9 0, .r 11 0, .r 12 0, .r 14 0, .r 15 0, .r 16 0, .r 21 0, .i 0, .nl 2, .nl 2, .nl 2, .i 4, .w 0, .i 2, .w 1, .i 3, .i 200, .i 1, .i 500, .i 0],
 .c [.w 10, .i 0],
 .w 345 5 [[.n 0, .n 0, .n 0, .n 0, .n 0], [.n 1, .n 0, .n 0, .n 0, .n 0], [.n 2, .n 0, .n 0, .n 0, .n 0], [.n 3, .n 0, .n 0, .n 0, .n 0]],
 .c [.nl 5, .n .i64 33 [0, 0, 0, 0, 0, 0, 0, 0, 0, 0, 0, 0, 0, 0, 0, 0, 0, 0, 0, 0, 0, 0, 0, 0, 0, 0, 0, 0, 0, 0, 0, 0, 0]],
 .c [.nl 3, .m 13, .i 256, .i 1],
 .p .n 1 false [],
 .c [.nl 4, .nm],
 .c [.nl 1],
 .c [.i 4, .w 0, .i 2, .w 1, .i 3, .i 200, .i 1, .i 500, .r 9 0, .r 11 0, .r 12 0, .r 14 0, .r 17 0, .r 18 0, .nl 16],
 .c [.nl 13, .i 0],
 .c [.w 19, .m 20],
 .cw 331 3 4 [.i 1, .c 1 [], .c 1 [], .i 1, .c 1 [], .c 1 [], .i 1, .c 1 [], .c 1 [], .i 0, .c 1 [], .c 1 []],
 .p .n 1 false [],
 .c [.i 4, .w 0, .i 2, .w 1, .i 3, .i 200, .i 1, .i 500, .r 9 0, .r 11 0, .r 12 0, .r 14 0, .nl 19]]
def awk1k2M13 (v : NbV) : Mem := [.w 96 7 [[.n 3, .n 2, .n 10, .l 2 [[.n 1, .n 3], [.n 2, .n 1]], .n 2, .n 3, .n 5], [.n 4, .n 1, .n 7, .l 2 [[.n 3, .n 2]], .n 0, .n 0, .n 3]],
 .w 110 4 [[.n 1, .n 1, .n 1, .n 1000], [.n 1, .n 1, .n 0, .n 0]],
 .c [.r 3 0, .r 5 0, .r 6 0, .r 8 0, .r 9 0, .r 10 0, .r 15 0, .i 0, .nl 2, .nl 2, .nl 2, .i 4, .w 0, .i 2, .w 1, .i 3, .i 200, .i 1, .i 500, .i 0],
 .c [.w 4, .i 0],
 .w 345 5 [[.n 0, .n 0, .n 0, .n 0, .n 0], [.n 1, .n 0, .n 0, .n 0, .n 0], [.n 2, .n 0, .n 0, .n 0, .n 0], [.n 3, .n 0, .n 0, .n 0, .n 0]],
 .c [.nl 5, .n .i64 33 [0, 0, 0, 0, 0, 0, 0, 0, 0, 0, 0, 0, 0, 0, 0, 0, 0, 0, 0, 0, 0, 0, 0, 0, 0, 0, 0, 0, 0, 0, 0, 0, 0]],
 .c [.nl 3, .m 7, .i 256, .i 1],
 .p .n 1 false [],
 .c [.nl 4, .nm],
 .c [.nl 1],
 .c [.i 4, .w 0, .i 2, .w 1, .i 3, .i 200, .i 1, .i 500, .r 3 0, .r 5 0, .r 6 0, .r 8 0, .r 11 0, .r 12 0, .nl 16],
 .c [.nl 13, .i 0],
 .c [.w 13, .m 14],
 .cw 331 3 4 [.i 1, .c 1 [], .c 1 [], .i 1, .c 1 [], .c 1 [], .i 1, .c 1 [], .c 1 [], .i 0, .c 1 [], .c 1 []],
 .p .n 1 false [],
 .c [.i 4, .w 0, .i 2, .w 1, .i 3, .i 200, .i 1, .i 500, .r 3 0, .r 5 0, .r 6 0, .r 8 0, .nl 19]]
abbrev awk1k2Mm (v : NbV) : Mem := (awk1k2M13 v)
theorem awk1k2_run (v : NbV) : PRun Tryz.prog 7 (awk1k2M0 v) [.a [.i 4, .w 0, .i 2, .w 1, .i 3, .i 200, .i 1, .i 500]] fun x m => x = .t [.r 2 0, .i 0] ∧ m = (awk1k2Mm v) := Ev.runA eK3 Tryz.func7 (c := (zbr Tryz.f7)) (r := (.ret, (awk1k2T10 v), (awk1k2M11 v))) (Ev.piecesA (k := 1) (t1 := awk1k2T1 v) (m1 := zke v) (Ev.seqPA (t1 := awk1k2T5 v) (m1 := zke v) (Ev.piecesA (k := 1) (t1 := awk1k2T3 v) (m1 := zke v) (Ev.seqPA (t1 := awk1k2T5 v) (m1 := zke v) (Ev.regA EvO.opsA) Ev.codeA)) (Ev.piecesA (k := 2) (t1 := awk1k2T7 v) (m1 := awk1k2M8 v) (Ev.seqPA (t1 := awk1k2T10 v) (m1 := awk1k2M11 v) (Ev.regA (EvO.callA (t2 := zqg v) (m1 := awk1k2M8 v) (ix := [0, 1, 7, 3]) (k := 2) (t1 := (zqg v)) (args := [.a [.i 4, .w 0, .i 2, .w 1, .i 3, .i 200, .i 1, .i 500], .a [.i 0, .i 0, .nl 2, .nl 2, .nl 2, .w 7, .nl 5, .nl 9, .i 1, .w 3, .nl 16, .nl 19, .nl 2, .nl 3, .i 1, .nl 4]]) (a := []) (cc := []) (awk1k2k3_run v) EvO.opsA)) Ev.codeA))))
def awk1T4 (v : NbV) : Fr := puF (awk1T3 v) [(8, .r 6 0), (9, .i 0), (22, .t [.r 6 0, .i 0]), (24, .t [.r 6 0, .i 0]), (25, .r 6 0), (26, .i 0)]
def zc6 (v : NbV) : Mem := [.w 96 7 [[.n 3, .n 2, .n 10, .l 2 [[.n 1, .n 3], [.n 2, .n 1]], .n 2, .n 3, .n 5], [.n 4, .n 1, .n 7, .l 2 [[.n 3, .n 2]], .n 0, .n 0, .n 3]],
 .w 110 4 [[.n 1, .n 1, .n 1, .n 1000], [.n 1, .n 1, .n 0, .n 0]],
 .w 104 2 [[.n 0, .n 0], [.n 1, .n 60], [.n 2, .n 500], [.n 3, .n 2]],
 .w 160 5 [[.n 1, .n 0, .n 1, .n 1, .n 60], [.n 1, .n 0, .n 1, .n 2, .n 40], [.n 1, .n 0, .n 1, .n 3, .n 20], [.n 2, .n 0, .n 1, .n 1, .n 60], [.n 2, .n 0, .n 1, .n 2, .n 40], [.n 2, .n 0, .n 1, .n 3, .n 20]],
 .w 31 9 [[.n 0, .n 1, .n 0, .n 1, .n 1, .n 0, .n 0, .n (-1), .n 0], [.n 0, .n 2, .n 0, .n 1, .n 2, .n 0, .n 0, .n (-1), .n 0], [.n 0, .n 1, .n 0, .n 1, .n 2, .n 3, .n 0, .n 4, .n 0], [.n 0, .n 2, .n 0, .n 1, .n 1, .n 0, .n 8, .n (-1), .n 0], [.n 0, .n 1, .n 0, .n 2, .n 1, .n 0, .n 0, .n (-1), .n 0]],
 .c [.i 4, .w 0, .i 2, .w 1, .i 3, .i 200, .i 1, .i 500],
 .c [.r 7 0, .r 9 0, .r 10 0, .r 12 0, .r 13 0, .r 14 0, .r 19 0, .i 0, .nl 2, .nl 2, .nl 2, .i 4, .w 0, .i 2, .w 1, .i 3, .i 200, .i 1, .i 500, .i 0],
 .c [.w 8, .i 0],
 .w 345 5 [[.n 0, .n 0, .n 0, .n 0, .n 0], [.n 1, .n 0, .n 0, .n 0, .n 0], [.n 2, .n 0, .n 0, .n 0, .n 0], [.n 3, .n 0, .n 0, .n 0, .n 0]],
 .c [.nl 5, .n .i64 33 [0, 0, 0, 0, 0, 0, 0, 0, 0, 0, 0, 0, 0, 0, 0, 0, 0, 0, 0, 0, 0, 0, 0, 0, 0, 0, 0, 0, 0, 0, 0, 0, 0]],
 .c [.nl 3, .m 11, .i 256, .i 1],
 .p .n 1 false [],
 .c [.nl 4, .nm],
 .c [.nl 1],
 .c [.i 4, .w 0, .i 2, .w 1, .i 3, .i 200, .i 1, .i 500, .r 7 0, .r 9 0, .r 10 0, .r 12 0, .r 15 0, .r 16 0, .nl 16],
 .c [.nl 13, .i 0],
 .c [.w 17, .m 18],
 .cw 331 3 4 [.i 1, .c 1 [], .c 1 [], .i 1, .c 1 [], .c 1 [], .i 1, .c 1 [], .c 1 [], .i 0, .c 1 [], .c 1 []],
 .p .n 1 false [],
 .c [.i 4, .w 0, .i 2, .w 1, .i 3, .i 200, .i 1, .i 500, .r 7 0, .r 9 0, .r 10 0, .r 12 0, .nl 19]]
def awk1T6 (v : NbV) : Fr := puF (awk1T4 v) [(27, .i 0), (28, .u (.b false)), (29, .u (.b false)), (30, .r 6 0), (31, .u (.b false)), (32, .u (.b false)), (33, .u (.b false)), (34, .r 6 0), (35, .r 14 0), (36, .u (.b false)), (37, .u (.b false)), (38, .u (.b false)), (39, .r 6 0), (40, .r 19 0), (41, .u (.b false)), (42, .u (.b false))]
def awk1T7 (v : NbV) : Fr := puF (awk1T6 v) [(10, .i 0)]
noncomputable abbrev zgq : Code := cLp (cBd (zjv 1 (cL (zjv 1 (cR (zjv 2 awk1C1))))))
def zf0 (v : NbV) : Fr := puF (awk1T7 v) [(43, .i 0), (44, .w 2), (45, .i 4)]
def awk1T9 (v : NbV) : Fr := puF (zf0 v) [(46, .u (.b true))]
def awk1T10 (v : NbV) : Fr := puF (zf0 v) [(46, .u (.b true))]
def zqj (v : NbV) : Fr := puF (zf0 v) [(10, .i 1), (46, .u (.b true)), (47, .i 0), (48, .i 1), (49, .w 2), (50, .i 0), (51, .e 2 2 0 0), (52, .e 2 2 0 1), (53, .i 0), (54, .u (.b false)), (55, .u (.b false)), (56, .t []), (57, .t []), (58, .t []), (59, .t []), (60, .t []), (61, .t []), (62, .t []), (63, .t []), (64, .t []), (65, .t []), (66, .t []), (67, .t []), (68, .t []), (69, .u (.b false))]
theorem awk1n9 (v : NbV) : awk1ev zgq (awk1T7 v) (zc6 v) [(.nrm, (zqj v), (zc6 v))] := Ev.seqPA (t1 := awk1T10 v) (m1 := zc6 v) (Ev.seqPA (t1 := awk1T9 v) (m1 := zc6 v) (Ev.regA EvO.opsA) Ev.codeA) Ev.codeA
def awk1T13 (v : NbV) : Fr := puF (zf0 v) [(10, .i 1), (43, .i 1), (46, .u (.b true)), (47, .i 0), (48, .i 1), (49, .w 2), (50, .i 0), (51, .e 2 2 0 0), (52, .e 2 2 0 1), (53, .i 0), (54, .u (.b false)), (55, .u (.b false)), (56, .t []), (57, .t []), (58, .t []), (59, .t []), (60, .t []), (61, .t []), (62, .t []), (63, .t []), (64, .t []), (65, .t []), (66, .t []), (67, .t []), (68, .t []), (69, .u (.b false))]
def awk1T14 (v : NbV) : Fr := puF (zf0 v) [(10, .i 1), (43, .i 1), (46, .u (.b true)), (47, .i 0), (48, .i 1), (49, .w 2), (50, .i 0), (51, .e 2 2 0 0), (52, .e 2 2 0 1), (53, .i 0), (54, .u (.b false)), (55, .u (.b false)), (56, .t []), (57, .t []), (58, .t []), (59, .t []), (60, .t []), (61, .t []), (62, .t []), (63, .t []), (64, .t []), (65, .t []), (66, .t []), (67, .t []), (68, .t []), (69, .u (.b false))]
def zqi (v : NbV) : Fr := puF (zf0 v) [(10, .i 2), (43, .i 1), (46, .u (.b true)), (47, .i 1), (48, .i 2), (49, .w 2), (50, .i 1), (51, .e 2 2 1 0), (52, .e 2 2 1 1), (53, .i 60), (54, .u (.b true)), (55, .u (.b true)), (56, .r 6 0), (57, .w 2), (58, .i 1), (59, .e 2 2 1 0), (60, .e 2 2 1 0), (61, .i 1), (62, .w 2), (63, .i 1), (64, .e 2 2 1 0), (65, .e 2 2 1 1), (66, .i 60), (67, .i 0), (68, .u (.b false)), (69, .u (.b false))]
def zg4 (v : NbV) : Mem := paM (zc6 v) [(6, .c [.r 7 0, .r 9 0, .r 10 0, .r 12 0, .r 13 0, .r 14 0, .r 19 0, .i 60, .nl 2, .nl 2, .nl 2, .i 4, .w 0, .i 2, .w 1, .i 3, .i 200, .i 1, .i 500, .i 0]), (7, .c [.w 20, .i 60])] [.w 345 5 [[.n 0, .n 0, .n 0, .n 0, .n 0], [.n 1, .n 0, .n 0, .n 0, .n 60], [.n 2, .n 0, .n 0, .n 0, .n 0], [.n 3, .n 0, .n 0, .n 0, .n 0]]]
theorem awk1n15 (v : NbV) : awk1ev zgq (zqj v) (zc6 v) [(.nrm, (zqi v), (zg4 v))] := Ev.seqPA (t1 := awk1T14 v) (m1 := zc6 v) (Ev.seqPA (t1 := awk1T13 v) (m1 := zc6 v) (Ev.regA EvO.opsA) Ev.codeA) Ev.codeA
def awk1T18 (v : NbV) : Fr := puF (zf0 v) [(10, .i 2), (43, .i 2), (46, .u (.b true)), (47, .i 1), (48, .i 2), (49, .w 2), (50, .i 1), (51, .e 2 2 1 0), (52, .e 2 2 1 1), (53, .i 60), (54, .u (.b true)), (55, .u (.b true)), (56, .r 6 0), (57, .w 2), (58, .i 1), (59, .e 2 2 1 0), (60, .e 2 2 1 0), (61, .i 1), (62, .w 2), (63, .i 1), (64, .e 2 2 1 0), (65, .e 2 2 1 1), (66, .i 60), (67, .i 0), (68, .u (.b false)), (69, .u (.b false))]
def awk1T19 (v : NbV) : Fr := puF (zf0 v) [(10, .i 2), (43, .i 2), (46, .u (.b true)), (47, .i 1), (48, .i 2), (49, .w 2), (50, .i 1), (51, .e 2 2 1 0), (52, .e 2 2 1 1), (53, .i 60), (54, .u (.b true)), (55, .u (.b true)), (56, .r 6 0), (57, .w 2), (58, .i 1), (59, .e 2 2 1 0), (60, .e 2 2 1 0), (61, .i 1), (62, .w 2), (63, .i 1), (64, .e 2 2 1 0), (65, .e 2 2 1 1), (66, .i 60), (67, .i 0), (68, .u (.b false)), (69, .u (.b false))]
def zqh (v : NbV) : Fr := puF (zf0 v) [(10, .i 3), (43, .i 2), (46, .u (.b true)), (47, .i 2), (48, .i 3), (49, .w 2), (50, .i 2), (51, .e 2 2 2 0), (52, .e 2 2 2 1), (53, .i 500), (54, .u (.b true)), (55, .u (.b true)), (56, .r 6 0), (57, .w 2), (58, .i 2), (59, .e 2 2 2 0), (60, .e 2 2 2 0), (61, .i 2), (62, .w 2), (63, .i 2), (64, .e 2 2 2 0), (65, .e 2 2 2 1), (66, .i 500), (67, .i 0), (68, .u (.b false)), (69, .u (.b false))]
def awk1M21 (v : NbV) : Mem := paM (zg4 v) [(6, .c [.r 7 0, .r 9 0, .r 10 0, .r 12 0, .r 13 0, .r 14 0, .r 19 0, .i 560, .nl 2, .nl 2, .nl 2, .i 4, .w 0, .i 2, .w 1, .i 3, .i 200, .i 1, .i 500, .i 0]), (7, .c [.w 21, .i 560])] [.w 345 5 [[.n 0, .n 0, .n 0, .n 0, .n 0], [.n 1, .n 0, .n 0, .n 0, .n 60], [.n 2, .n 0, .n 0, .n 0, .n 500], [.n 3, .n 0, .n 0, .n 0, .n 0]]]
theorem awk1n21 (v : NbV) : awk1ev zgq (zqi v) (zg4 v) [(.nrm, (zqh v), (awk1M21 v))] := Ev.seqPA (t1 := awk1T19 v) (m1 := zg4 v) (Ev.seqPA (t1 := awk1T18 v) (m1 := zg4 v) (Ev.regA EvO.opsA) Ev.codeA) Ev.codeA
def zi2 (v : NbV) : Mem := paM (zc6 v) [(6, .c [.r 7 0, .r 9 0, .r 10 0, .r 12 0, .r 13 0, .r 14 0, .r 19 0, .i 560, .nl 2, .nl 2, .nl 2, .i 4, .w 0, .i 2, .w 1, .i 3, .i 200, .i 1, .i 500, .i 0]), (7, .c [.w 20, .i 560])] [.w 345 5 [[.n 0, .n 0, .n 0, .n 0, .n 0], [.n 1, .n 0, .n 0, .n 0, .n 60], [.n 2, .n 0, .n 0, .n 0, .n 500], [.n 3, .n 0, .n 0, .n 0, .n 0]]]
def awk1T24 (v : NbV) : Fr := puF (zf0 v) [(10, .i 3), (43, .i 3), (46, .u (.b true)), (47, .i 2), (48, .i 3), (49, .w 2), (50, .i 2), (51, .e 2 2 2 0), (52, .e 2 2 2 1), (53, .i 500), (54, .u (.b true)), (55, .u (.b true)), (56, .r 6 0), (57, .w 2), (58, .i 2), (59, .e 2 2 2 0), (60, .e 2 2 2 0), (61, .i 2), (62, .w 2), (63, .i 2), (64, .e 2 2 2 0), (65, .e 2 2 2 1), (66, .i 500), (67, .i 0), (68, .u (.b false)), (69, .u (.b false))]
def awk1T25 (v : NbV) : Fr := puF (zf0 v) [(10, .i 3), (43, .i 3), (46, .u (.b true)), (47, .i 2), (48, .i 3), (49, .w 2), (50, .i 2), (51, .e 2 2 2 0), (52, .e 2 2 2 1), (53, .i 500), (54, .u (.b true)), (55, .u (.b true)), (56, .r 6 0), (57, .w 2), (58, .i 2), (59, .e 2 2 2 0), (60, .e 2 2 2 0), (61, .i 2), (62, .w 2), (63, .i 2), (64, .e 2 2 2 0), (65, .e 2 2 2 1), (66, .i 500), (67, .i 0), (68, .u (.b false)), (69, .u (.b false))]
def zmx (v : NbV) : Fr := Fr.mk [.i 0, .z, .u (.p none), .u (.b false), .r 5 0, .w 2, .w 3, .w 4, .r 6 0, .i 0, .i 4, .z, .z, .z, .z, .t [.a [.i 4, .w 0, .i 2, .w 1, .i 3, .i 200, .i 1, .i 500], .w 2, .w 3, .w 4], .i 0, .t [.a [.i 4, .w 0, .i 2, .w 1, .i 3, .i 200, .i 1, .i 500], .w 2, .w 3, .w 4], .a [.i 4, .w 0, .i 2, .w 1, .i 3, .i 200, .i 1, .i 500], .w 2, .w 3, .w 4, .t [.r 6 0, .i 0], .a [.i 4, .w 0, .i 2, .w 1, .i 3, .i 200, .i 1, .i 500], .t [.r 6 0, .i 0], .r 6 0, .i 0, .i 0, .u (.b false), .u (.b false), .r 6 0, .u (.b false), .u (.b false), .u (.b false), .r 6 0, .r 14 0, .u (.b false), .u (.b false), .u (.b false), .r 6 0, .r 19 0, .u (.b false), .u (.b false), .i 3, .w 2, .i 4, .u (.b true), .i 3, .i 4, .w 2, .i 3, .e 2 2 3 0, .e 2 2 3 1, .i 2, .u (.b true), .u (.b true), .r 6 0, .w 2, .i 3, .e 2 2 3 0, .e 2 2 3 0, .i 3, .w 2, .i 3, .e 2 2 3 0, .e 2 2 3 1, .i 2, .i 0, .u (.b false), .u (.b false)] 43 113
def awk1M27 (v : NbV) : Mem := paM (zi2 v) [(6, .c [.r 7 0, .r 9 0, .r 10 0, .r 12 0, .r 13 0, .r 14 0, .r 19 0, .i 562, .nl 2, .nl 2, .nl 2, .i 4, .w 0, .i 2, .w 1, .i 3, .i 200, .i 1, .i 500, .i 0]), (7, .c [.w 21, .i 562])] [.w 345 5 [[.n 0, .n 0, .n 0, .n 0, .n 0], [.n 1, .n 0, .n 0, .n 0, .n 60], [.n 2, .n 0, .n 0, .n 0, .n 500], [.n 3, .n 0, .n 0, .n 0, .n 2]]]
theorem awk1n27 (v : NbV) : awk1ev zgq (zqh v) (zi2 v) [(.nrm, (zmx v), (awk1M27 v))] := Ev.seqPA (t1 := awk1T25 v) (m1 := zi2 v) (Ev.seqPA (t1 := awk1T24 v) (m1 := zi2 v) (Ev.regA EvO.opsA) Ev.codeA) Ev.codeA
def zc1 (v : NbV) : Mem := paM (zc6 v) [(6, .c [.r 7 0, .r 9 0, .r 10 0, .r 12 0, .r 13 0, .r 14 0, .r 19 0, .i 562, .nl 2, .nl 2, .nl 2, .i 4, .w 0, .i 2, .w 1, .i 3, .i 200, .i 1, .i 500, .i 0]), (7, .c [.w 20, .i 562])] [.w 345 5 [[.n 0, .n 0, .n 0, .n 0, .n 0], [.n 1, .n 0, .n 0, .n 0, .n 60], [.n 2, .n 0, .n 0, .n 0, .n 500], [.n 3, .n 0, .n 0, .n 0, .n 2]]]
def awk1T29 (v : NbV) : Fr := puF (zmx v) [(43, .i 4)]
def zf1 (v : NbV) : Fr := puF (awk1T29 v) [(46, .u (.b false))]
theorem awk1n32 (v : NbV) : awk1ev zgq (zmx v) (zc1 v) [((.ext 0), (zf1 v), (zc1 v))] := Ev.seqE (by intro h; cases h) (by kernel_rfl) (Ev.seqPA (t1 := zf1 v) (m1 := zc1 v) (Ev.regA EvO.opsA) Ev.codeA)
theorem awk1n33 (v : NbV) : zmw 20 zgq 296 (zmx v) (zc1 v) [((.ext 0), (zf1 v), (zc1 v))] := EvL.last (by intro h; cases h) (awk1n32 v)
theorem awk1n34 (v : NbV) : zmw 20 zgq 297 (zqh v) (zi2 v) [((.ext 0), (zf1 v), (zc1 v))] := EvL.round (t2 := (zmx v)) (m2 := (zc1 v)) (awk1n27 v) (by kernel_rfl) (awk1n33 v)
theorem awk1n35 (v : NbV) : zmw 20 zgq 298 (zqi v) (zg4 v) [((.ext 0), (zf1 v), (zc1 v))] := EvL.round (t2 := (zqh v)) (m2 := (zi2 v)) (awk1n21 v) (by kernel_rfl) (awk1n34 v)
theorem awk1n36 (v : NbV) : zmw 20 zgq 299 (zqj v) (zc6 v) [((.ext 0), (zf1 v), (zc1 v))] := EvL.round (t2 := (zqi v)) (m2 := (zg4 v)) (awk1n15 v) (by kernel_rfl) (awk1n35 v)
theorem awk1n37 (v : NbV) : zmw 20 zgq 300 (awk1T7 v) (zc6 v) [((.ext 0), (zf1 v), (zc1 v))] := EvL.round (t2 := (zqj v)) (m2 := (zc6 v)) (awk1n9 v) (by kernel_rfl) (awk1n36 v)
def awk1T32 (v : NbV) : Fr := Fr.mk [.i 0, .z, .r 6 0, .u (.b true), .r 5 0, .w 2, .w 3, .w 4, .r 6 0, .i 0, .i 4, .i 6, .i 5, .i 5, .i 0, .t [.a [.i 4, .w 0, .i 2, .w 1, .i 3, .i 200, .i 1, .i 500], .w 2, .w 3, .w 4], .i 0, .t [.a [.i 4, .w 0, .i 2, .w 1, .i 3, .i 200, .i 1, .i 500], .w 2, .w 3, .w 4], .a [.i 4, .w 0, .i 2, .w 1, .i 3, .i 200, .i 1, .i 500], .w 2, .w 3, .w 4, .t [.r 6 0, .i 0], .a [.i 4, .w 0, .i 2, .w 1, .i 3, .i 200, .i 1, .i 500], .t [.r 6 0, .i 0], .r 6 0, .i 0, .i 0, .u (.b false), .u (.b false), .r 6 0, .u (.b false), .u (.b false), .u (.b false), .r 6 0, .r 14 0, .u (.b false), .u (.b false), .u (.b false), .r 6 0, .r 19 0, .u (.b false), .u (.b false), .i 4, .w 2, .i 4, .u (.b false), .i 3, .i 4, .w 2, .i 3, .e 2 2 3 0, .e 2 2 3 1, .i 2, .u (.b true), .u (.b true), .r 6 0, .w 2, .i 3, .e 2 2 3 0, .e 2 2 3 0, .i 3, .w 2, .i 3, .e 2 2 3 0, .e 2 2 3 1, .i 2, .i 0, .u (.b false), .u (.b false), .i 6, .w 3, .i 6, .u (.b false), .i 5, .i 6, .r 6 0, .w 3, .i 5, .e 3 5 5 0, .e 3 5 5 0, .a [.i 2, .i 0, .i 1, .i 3], .w 3, .i 5, .e 3 5 5 0, .e 3 5 5 4, .i 20, .i 0, .u (.b false), .i 5, .w 4, .i 5, .u (.b false), .i 4, .i 5, .t [.i 5, .i 0], .r 6 0, .w 4, .i 4, .e 4 9 4 0, .a [.i 0, .i 1, .i 0, .i 2, .i 1, .i 0, .i 0, .i (-1), .i 0], .t [.i 5, .i 0], .i 5, .i 0, .i 5, .i 4, .i 5, .u (.b false), .u (.b false), .i 0, .u (.b false), .u (.b false), .r 6 0] 0 113
def awk1M33 (v : NbV) : Mem := paM (zc1 v) [(6, .c [.r 7 0, .r 9 0, .r 10 0, .r 12 0, .r 13 0, .r 14 0, .r 19 0, .i 562, .u (.l 2 [[.n 1, .n 120], [.n 2, .n 80], [.n 3, .n 40]]), .nl 2, .nl 2, .i 4, .w 0, .i 2, .w 1, .i 3, .i 200, .i 1, .i 500, .i 0]), (9, .c [.w 21, .n .i64 33 [0, 120, 80, 40, 0, 0, 0, 0, 0, 0, 0, 0, 0, 0, 0, 0, 0, 0, 0, 0, 0, 0, 0, 0, 0, 0, 0, 0, 0, 0, 0, 0, 0]]), (15, .c [.w 22, .i 5])] [.w 345 5 [[.n 1, .n 0, .n 1, .n 1, .n 60], [.n 1, .n 0, .n 1, .n 2, .n 40], [.n 1, .n 0, .n 1, .n 3, .n 20], [.n 2, .n 0, .n 1, .n 1, .n 60], [.n 2, .n 0, .n 1, .n 2, .n 40], [.n 2, .n 0, .n 1, .n 3, .n 20]],
 .w 343 13 [[.n 1, .n 0, .n 0, .n 0, .n 1, .n 1, .n 0, .n 1, .n 1, .n 0, .n 0, .n (-1), .n 0], [.n 2, .n 0, .n 0, .n 0, .n 2, .n 2, .n 0, .n 1, .n 2, .n 0, .n 0, .n (-1), .n 0], [.n 3, .n 0, .n 0, .n 0, .n 3, .n 1, .n 0, .n 1, .n 2, .n 3, .n 0, .n 4, .n 0], [.n 4, .n 0, .n 0, .n 0, .n 4, .n 2, .n 0, .n 1, .n 1, .n 0, .n 8, .n (-1), .n 0], [.n 5, .n 0, .n 0, .n 0, .n 5, .n 1, .n 0, .n 2, .n 1, .n 0, .n 0, .n (-1), .n 0]]]
def awk1M34 (v : NbV) : Mem := [.c [.r 1 0, .r 3 0, .r 5 0, .r 7 0, .r 8 0, .r 9 0, .r 17 0, .i 562, .u (.l 2 [[.n 1, .n 120], [.n 2, .n 80], [.n 3, .n 40]]), .nl 2, .nl 2, .i 4, .w 10, .i 2, .w 11, .i 3, .i 200, .i 1, .i 500, .i 0],
 .c [.w 2, .i 562],
 .w 345 5 [[.n 0, .n 0, .n 0, .n 0, .n 0], [.n 1, .n 0, .n 0, .n 0, .n 60], [.n 2, .n 0, .n 0, .n 0, .n 500], [.n 3, .n 0, .n 0, .n 0, .n 2]],
 .c [.w 4, .n .i64 33 [0, 120, 80, 40, 0, 0, 0, 0, 0, 0, 0, 0, 0, 0, 0, 0, 0, 0, 0, 0, 0, 0, 0, 0, 0, 0, 0, 0, 0, 0, 0, 0, 0]],
 .w 345 5 [[.n 1, .n 0, .n 1, .n 1, .n 60], [.n 1, .n 0, .n 1, .n 2, .n 40], [.n 1, .n 0, .n 1, .n 3, .n 20], [.n 2, .n 0, .n 1, .n 1, .n 60], [.n 2, .n 0, .n 1, .n 2, .n 40], [.n 2, .n 0, .n 1, .n 3, .n 20]],
 .c [.nl 3, .m 6, .i 256, .i 1],
 .p .n 1 false [],
 .c [.nl 4, .nm],
 .c [.nl 1],
 .c [.i 4, .w 10, .i 2, .w 11, .i 3, .i 200, .i 1, .i 500, .r 1 0, .r 3 0, .r 5 0, .r 7 0, .r 12 0, .r 14 0, .nl 16],
 .w 96 7 [[.n 3, .n 2, .n 10, .l 2 [[.n 1, .n 3], [.n 2, .n 1]], .n 2, .n 3, .n 5], [.n 4, .n 1, .n 7, .l 2 [[.n 3, .n 2]], .n 0, .n 0, .n 3]],
 .w 110 4 [[.n 1, .n 1, .n 1, .n 1000], [.n 1, .n 1, .n 0, .n 0]],
 .c [.w 13, .i 5],
 .w 343 13 [[.n 1, .n 0, .n 0, .n 0, .n 1, .n 1, .n 0, .n 1, .n 1, .n 0, .n 0, .n (-1), .n 0], [.n 2, .n 0, .n 0, .n 0, .n 2, .n 2, .n 0, .n 1, .n 2, .n 0, .n 0, .n (-1), .n 0], [.n 3, .n 0, .n 0, .n 0, .n 3, .n 1, .n 0, .n 1, .n 2, .n 3, .n 0, .n 4, .n 0], [.n 4, .n 0, .n 0, .n 0, .n 4, .n 2, .n 0, .n 1, .n 1, .n 0, .n 8, .n (-1), .n 0], [.n 5, .n 0, .n 0, .n 0, .n 5, .n 1, .n 0, .n 2, .n 1, .n 0, .n 0, .n (-1), .n 0]],
 .c [.w 15, .m 16],
 .cw 331 3 4 [.i 1, .c 1 [], .c 1 [], .i 1, .c 1 [], .c 1 [], .i 1, .c 1 [], .c 1 [], .i 0, .c 1 [], .c 1 []],
 .p .n 1 false [],
 .c [.i 4, .w 10, .i 2, .w 11, .i 3, .i 200, .i 1, .i 500, .r 1 0, .r 3 0, .r 5 0, .r 7 0, .nl 19]]
abbrev awk1Mm (v : NbV) : Mem := (awk1M34 v)
theorem awk1_run (v : NbV) : PRun Tryz.prog 26 (awk1M0 v) [.i 0] fun x m => x = .t [.r 0 0, .u (.b true)] ∧ m = (awk1Mm v) := Ev.runA eK2 Tryz.func26 (c := awk1C1) (r := (.ret, (awk1T32 v), (awk1M33 v))) (Ev.piecesA (k := 2) (t1 := awk1T1 v) (m1 := awk1M2 v) (Ev.seqPA (t1 := awk1T4 v) (m1 := zc6 v) (Ev.regA (EvO.callA (t2 := awk1T3 v) (m1 := awk1M2 v) (ix := [0, 1]) (k := 1) (t1 := (awk1T3 v)) (args := [.a [.i 4, .w 0, .i 2, .w 1, .i 3, .i 200, .i 1, .i 500]]) (a := []) (cc := []) (awk1k2_run v) EvO.opsA)) (Ev.piecesA (k := 1) (t1 := awk1T6 v) (m1 := zc6 v) (Ev.seqPA (t1 := zf1 v) (m1 := zc1 v) (Ev.piecesA (k := 1) (t1 := awk1T7 v) (m1 := zc6 v) (Ev.blockP (e := .ext 0) (by kernel_rfl) (by kernel_rfl) (Ev.loopP (n0 := 20) (by kernel_rfl) (by kernel_rfl) (awk1n37 v)))) Ev.codeA))))
def awT3 (v : NbV) : Fr := Fr.mk [.u (.b false), .r 0 0, .u (.b true), .z, .z, .z, .z, .z, .z, .z, .z, .t [.r 0 0, .u (.b true)], .t [.r 0 0, .u (.b true)], .r 0 0, .u (.b true)] 89 104
def awM4 (v : NbV) : Mem := [.c [.r 1 0, .r 3 0, .r 5 0, .r 7 0, .r 8 0, .r 9 0, .r 17 0, .i 562, .u (.l 2 [[.n 1, .n 120], [.n 2, .n 80], [.n 3, .n 40]]), .nl 2, .nl 2, .i 4, .w 10, .i 2, .w 11, .i 3, .i 200, .i 1, .i 500, .i 0],
 .c [.w 2, .i 562],
 .w 345 5 [[.n 0, .n 0, .n 0, .n 0, .n 0], [.n 1, .n 0, .n 0, .n 0, .n 60], [.n 2, .n 0, .n 0, .n 0, .n 500], [.n 3, .n 0, .n 0, .n 0, .n 2]],
 .c [.w 4, .n .i64 33 [0, 120, 80, 40, 0, 0, 0, 0, 0, 0, 0, 0, 0, 0, 0, 0, 0, 0, 0, 0, 0, 0, 0, 0, 0, 0, 0, 0, 0, 0, 0, 0, 0]],
 .w 345 5 [[.n 1, .n 0, .n 1, .n 1, .n 60], [.n 1, .n 0, .n 1, .n 2, .n 40], [.n 1, .n 0, .n 1, .n 3, .n 20], [.n 2, .n 0, .n 1, .n 1, .n 60], [.n 2, .n 0, .n 1, .n 2, .n 40], [.n 2, .n 0, .n 1, .n 3, .n 20]],
 .c [.nl 3, .m 6, .i 256, .i 1],
 .p .n 1 false [],
 .c [.nl 4, .nm],
 .c [.nl 1],
 .c [.i 4, .w 10, .i 2, .w 11, .i 3, .i 200, .i 1, .i 500, .r 1 0, .r 3 0, .r 5 0, .r 7 0, .r 12 0, .r 14 0, .nl 16],
 .w 96 7 [[.n 3, .n 2, .n 10, .l 2 [[.n 1, .n 3], [.n 2, .n 1]], .n 2, .n 3, .n 5], [.n 4, .n 1, .n 7, .l 2 [[.n 3, .n 2]], .n 0, .n 0, .n 3]],
 .w 110 4 [[.n 1, .n 1, .n 1, .n 1000], [.n 1, .n 1, .n 0, .n 0]],
 .c [.w 13, .i 5],
 .w 343 13 [[.n 1, .n 0, .n 0, .n 0, .n 1, .n 1, .n 0, .n 1, .n 1, .n 0, .n 0, .n (-1), .n 0], [.n 2, .n 0, .n 0, .n 0, .n 2, .n 2, .n 0, .n 1, .n 2, .n 0, .n 0, .n (-1), .n 0], [.n 3, .n 0, .n 0, .n 0, .n 3, .n 1, .n 0, .n 1, .n 2, .n 3, .n 0, .n 4, .n 0], [.n 4, .n 0, .n 0, .n 0, .n 4, .n 2, .n 0, .n 1, .n 1, .n 0, .n 8, .n (-1), .n 0], [.n 5, .n 0, .n 0, .n 0, .n 5, .n 1, .n 0, .n 2, .n 1, .n 0, .n 0, .n (-1), .n 0]],
 .c [.w 15, .m 16],
 .cw 331 3 4 [.i 1, .c 1 [], .c 1 [], .i 1, .c 1 [], .c 1 [], .i 1, .c 1 [], .c 1 [], .i 0, .c 1 [], .c 1 []],
 .p .n 1 false [],
 .c [.i 4, .w 10, .i 2, .w 11, .i 3, .i 200, .i 1, .i 500, .r 1 0, .r 3 0, .r 5 0, .r 7 0, .nl 19]]
def awT5 (v : NbV) : Fr := puF (awT3 v) [(15, .u (.b true)), (16, .u (.b false))]
def awT6 (v : NbV) : Fr := puF (awT5 v) [(18, .r 0 0), (19, .r 9 0), (20, .a [.i 1, .i 1, .i 0, .i 1, .i 1, .i 1, .i 2, .i 0])]
def awk5M0 (v : NbV) : Mem := [.c [.i 4, .w 1, .i 2, .w 2, .i 3, .i 200, .i 1, .i 500, .r 3 0, .r 4 0, .r 5 0, .r 6 0, .r 7 0, .r 8 0, .nl 16],
 .w 96 7 [[.n 3, .n 2, .n 10, .l 2 [[.n 1, .n 3], [.n 2, .n 1]], .n 2, .n 3, .n 5], [.n 4, .n 1, .n 7, .l 2 [[.n 3, .n 2]], .n 0, .n 0, .n 3]],
 .w 110 4 [[.n 1, .n 1, .n 1, .n 1000], [.n 1, .n 1, .n 0, .n 0]],
 .c [.w 9, .i 562],
 .c [.w 10, .n .i64 33 [0, 120, 80, 40, 0, 0, 0, 0, 0, 0, 0, 0, 0, 0, 0, 0, 0, 0, 0, 0, 0, 0, 0, 0, 0, 0, 0, 0, 0, 0, 0, 0, 0]],
 .c [.nl 3, .m 11, .i 256, .i 1],
 .c [.nl 4, .nm],
 .c [.w 12, .i 5],
 .c [.w 13, .m 14],
 .w 345 5 [[.n 0, .n 0, .n 0, .n 0, .n 0], [.n 1, .n 0, .n 0, .n 0, .n 60], [.n 2, .n 0, .n 0, .n 0, .n 500], [.n 3, .n 0, .n 0, .n 0, .n 2]],
 .w 345 5 [[.n 1, .n 0, .n 1, .n 1, .n 60], [.n 1, .n 0, .n 1, .n 2, .n 40], [.n 1, .n 0, .n 1, .n 3, .n 20], [.n 2, .n 0, .n 1, .n 1, .n 60], [.n 2, .n 0, .n 1, .n 2, .n 40], [.n 2, .n 0, .n 1, .n 3, .n 20]],
 .p .n 1 false [],
 .w 343 13 [[.n 1, .n 0, .n 0, .n 0, .n 1, .n 1, .n 0, .n 1, .n 1, .n 0, .n 0, .n (-1), .n 0], [.n 2, .n 0, .n 0, .n 0, .n 2, .n 2, .n 0, .n 1, .n 2, .n 0, .n 0, .n (-1), .n 0], [.n 3, .n 0, .n 0, .n 0, .n 3, .n 1, .n 0, .n 1, .n 2, .n 3, .n 0, .n 4, .n 0], [.n 4, .n 0, .n 0, .n 0, .n 4, .n 2, .n 0, .n 1, .n 1, .n 0, .n 8, .n (-1), .n 0], [.n 5, .n 0, .n 0, .n 0, .n 5, .n 1, .n 0, .n 2, .n 1, .n 0, .n 0, .n (-1), .n 0]],
 .cw 331 3 4 [.i 1, .c 1 [], .c 1 [], .i 1, .c 1 [], .c 1 [], .i 1, .c 1 [], .c 1 [], .i 0, .c 1 [], .c 1 []],
 .p .n 1 false []]
def awk5T1 (v : NbV) : Fr := Fr.mk [.r 0 0, .i 0, .a [.i 1, .i 1, .i 0, .i 1, .i 1, .i 1, .i 2, .i 0], .z, .z, .r 15 0, .i 1, .i 0, .i 1, .r 16 0, .i 0, .r 0 0, .u (.b true), .u (.b false), .r 0 0, .r 0 0, .r 0 14, .nl 16, .i 0, .i 1, .a [.i 1, .i 1, .i 0, .i 1, .i 1, .i 1, .i 2, .i 0], .a [.i 1, .i 1, .i 0, .i 1, .i 1, .i 1, .i 2, .i 0, .i 0, .i 0, .i 0, .i 0, .i 0, .i 0, .i 0, .i 0, .i 0, .i 0, .i 0, .i 0, .i 0, .i 0, .i 0, .i 0, .nl 2, .i 0, .i 0, .i 0, .i 0, .i 0, .i 0, .i 0, .i 0, .i 0, .i 0, .i 0, .i 0, .i 0, .i 0, .nl 2, .i 0, .i 0, .i 0, .i 0, .i 0], .r 16 0, .r 16 0, .i 1, .r 16 0, .r 16 0, .r 16 0, .r 16 5, .i 1, .r 16 0, .r 16 0, .r 16 0, .r 16 1, .i 1, .r 16 0, .r 16 0, .r 16 0, .r 16 2, .i 0, .r 16 0, .r 16 0, .r 16 0, .r 16 0, .i 1, .r 16 0, .r 16 0, .r 16 0, .r 16 3, .i 1, .r 16 0, .r 16 0, .r 16 0, .r 16 4, .i 1, .r 16 0, .r 16 0, .r 16 0, .r 16 6, .i 2, .r 16 0, .r 16 0, .r 16 0, .r 16 7, .i 0, .a [.i 1, .i 1, .i 1, .i 0, .i 1, .i 1, .i 1, .i 2, .i 0, .i 0, .i 0, .nl 2, .i 1, .i 0, .i 0, .i 0], .r 16 0, .r 16 28, .r 0 0, .i 0, .r 16 0, .i 0, .i 0, .u (.b true), .r 0 0, .r 16 0, .i 0, .i 0, .u (.b true), .r 16 0, .i 0, .i 0, .u (.b true), .u (.b true), .r 16 0, .r 16 0, .r 16 44, .i 60, .r 16 0, .r 16 0, .r 16 28, .r 16 38, .i 2, .u (.b false), .u (.b false), .i 0, .u (.b true), .r 0 0, .r 0 0, .r 0 9, .r 4 0, .r 0 0, .r 16 0, .r 16 0, .r 16 28, .a [.i 1, .i 1, .i 1, .i 0, .i 1, .i 1, .i 1, .i 2, .i 0, .i 20, .i 2, .w 17, .i 1, .i 0, .i 0, .i 20], .a [.i 1, .i 0, .i 1, .i 1], .i 1, .r 16 0, .r 16 0, .r 16 28, .r 16 39, .w 17, .i 0, .i 0, .u (.b false), .z, .r 0 0, .r 0 0, .r 0 8, .r 3 0, .r 16 0, .r 16 0, .r 16 0, .r 16 0, .i 1, .r 16 0, .r 16 0, .r 16 28, .r 16 38, .i 2, .i 0, .r 0 0, .r 0 0, .r 0 12, .r 7 0, .r 16 0, .r 16 0, .r 16 0, .r 16 4, .i 1, .i 1, .r 16 0, .r 16 0, .r 16 28, .a [.i 1, .i 1, .i 1, .i 0, .i 1, .i 1, .i 1, .i 2, .i 0, .i 20, .i 2, .w 17, .i 1, .i 0, .i 0, .i 20], .i 2, .i 0, .r 0 0, .r 0 0, .r 0 0, .r 0 14, .nl 16, .r 16 0, .r 16 0, .r 16 28, .a [.i 1, .i 1, .i 1, .i 0, .i 1, .i 1, .i 1, .i 2, .i 0, .i 20, .i 2, .w 17, .i 1, .i 0, .i 0, .i 20], .w 21, .w 22, .r 0 0, .r 0 14, .r 0 0, .r 16 0, .r 16 0, .r 16 28, .a [.i 1, .i 1, .i 1, .i 0, .i 1, .i 1, .i 1, .i 2, .i 0, .i 20, .i 2, .w 17, .i 1, .i 0, .i 0, .i 20], .i 0, .t [], .i 1] 0 169
def awk5M2 (v : NbV) : Mem := [.c [.i 4, .w 1, .i 2, .w 2, .i 3, .i 200, .i 1, .i 500, .r 3 0, .r 4 0, .r 5 0, .r 6 0, .r 7 0, .r 8 0, .w 22],
 .w 96 7 [[.n 3, .n 2, .n 10, .l 2 [[.n 1, .n 3], [.n 2, .n 1]], .n 2, .n 3, .n 5], [.n 4, .n 1, .n 7, .l 2 [[.n 3, .n 2]], .n 0, .n 0, .n 3]],
 .w 110 4 [[.n 1, .n 1, .n 1, .n 1000], [.n 1, .n 1, .n 0, .n 0]],
 .c [.w 19, .i 562],
 .c [.w 18, .n .i64 33 [0, 120, 80, 40, 0, 0, 0, 0, 0, 0, 0, 0, 0, 0, 0, 0, 0, 0, 0, 0, 0, 0, 0, 0, 0, 0, 0, 0, 0, 0, 0, 0, 0]],
 .c [.w 23, .m 11, .i 256, .i 2],
 .c [.nl 4, .nm],
 .c [.w 20, .i 5],
 .c [.w 13, .m 14],
 .w 345 5 [[.n 0, .n 0, .n 0, .n 0, .n 0], [.n 1, .n 0, .n 0, .n 0, .n 60], [.n 2, .n 0, .n 0, .n 0, .n 500], [.n 3, .n 0, .n 0, .n 0, .n 2]],
 .w 345 5 [[.n 1, .n 0, .n 1, .n 1, .n 60], [.n 1, .n 0, .n 1, .n 2, .n 40], [.n 1, .n 0, .n 1, .n 3, .n 20], [.n 2, .n 0, .n 1, .n 1, .n 60], [.n 2, .n 0, .n 1, .n 2, .n 40], [.n 2, .n 0, .n 1, .n 3, .n 20]],
 .p .n 1 false [(.n 1, [.n 0])],
 .w 343 13 [[.n 1, .n 0, .n 0, .n 0, .n 1, .n 1, .n 0, .n 1, .n 1, .n 0, .n 0, .n (-1), .n 0], [.n 2, .n 0, .n 0, .n 0, .n 2, .n 2, .n 0, .n 1, .n 2, .n 0, .n 0, .n (-1), .n 0], [.n 3, .n 0, .n 0, .n 0, .n 3, .n 1, .n 0, .n 1, .n 2, .n 3, .n 0, .n 4, .n 0], [.n 4, .n 0, .n 0, .n 0, .n 4, .n 2, .n 0, .n 1, .n 1, .n 0, .n 8, .n (-1), .n 0], [.n 5, .n 0, .n 0, .n 0, .n 5, .n 1, .n 0, .n 2, .n 1, .n 0, .n 0, .n (-1), .n 0]],
 .cw 331 3 4 [.i 1, .w 24, .c 1 [], .i 1, .c 1 [], .c 1 [], .i 1, .c 1 [], .c 1 [], .i 0, .c 1 [], .c 1 []],
 .p .n 1 false [(.n 1, [.n 0])],
 .c [.i 1, .i 1, .i 0, .i 1, .i 1, .i 1, .i 2, .i 0],
 .c [.i 1, .i 1, .i 0, .i 1, .i 1, .i 1, .i 2, .i 0, .i 1, .i 1, .i 1, .i 1000, .i 1, .i 1, .i 0, .i 1, .i 1, .i 0, .i 0, .i (-1), .i 0, .i 3, .i 2, .i 10, .u (.l 2 [[.n 1, .n 3], [.n 2, .n 1]]), .i 2, .i 3, .i 5, .i 1, .i 1, .i 1, .i 0, .i 1, .i 1, .i 1, .i 2, .i 0, .i 20, .i 2, .w 17, .i 1, .i 0, .i 0, .i 20, .i 60],
 .x,
 .w 345 5 [[.n 1, .n 0, .n 1, .n 1, .n 54], [.n 1, .n 0, .n 1, .n 2, .n 38], [.n 1, .n 0, .n 1, .n 3, .n 20], [.n 2, .n 0, .n 1, .n 1, .n 60], [.n 2, .n 0, .n 1, .n 2, .n 40], [.n 2, .n 0, .n 1, .n 3, .n 20], [.n 1048577, .n 0, .n 1, .n 1, .n 6], [.n 1048577, .n 0, .n 1, .n 2, .n 2]],
 .w 345 5 [[.n 0, .n 0, .n 0, .n 0, .n 2], [.n 1, .n 0, .n 0, .n 0, .n 58], [.n 2, .n 0, .n 0, .n 0, .n 500], [.n 3, .n 0, .n 0, .n 0, .n 2]],
 .w 343 13 [[.n 1, .n 0, .n 0, .n 0, .n 1, .n 1, .n 0, .n 1, .n 1, .n 0, .n 0, .n (-1), .n 1], [.n 2, .n 0, .n 0, .n 0, .n 2, .n 2, .n 0, .n 1, .n 2, .n 0, .n 0, .n (-1), .n 0], [.n 3, .n 0, .n 0, .n 0, .n 3, .n 1, .n 0, .n 1, .n 2, .n 3, .n 0, .n 4, .n 0], [.n 4, .n 0, .n 0, .n 0, .n 4, .n 2, .n 0, .n 1, .n 1, .n 0, .n 8, .n (-1), .n 0], [.n 5, .n 0, .n 0, .n 0, .n 5, .n 1, .n 0, .n 2, .n 1, .n 0, .n 0, .n (-1), .n 0]],
 .w 147 16 [[.n 1, .n 1, .n 1, .n 0, .n 1, .n 1, .n 1, .n 2, .n 0, .n 20, .n 2, .l 2 [[.n 1, .n 6], [.n 2, .n 2]], .n 1, .n 0, .n 0, .n 20]],
 .w 147 16 [[.n 1, .n 1, .n 1, .n 0, .n 1, .n 1, .n 1, .n 2, .n 0, .n 20, .n 2, .l 2 [[.n 1, .n 6], [.n 2, .n 2]], .n 2, .n 0, .n 20, .n 20]],
 .w 139 3 [[.n 20, .n 1, .n 2]],
 .w 3 1 [[.n 1]]]
def awk5M3 (v : NbV) : Mem := [.c [.i 4, .w 1, .i 2, .w 2, .i 3, .i 200, .i 1, .i 500, .r 3 0, .r 4 0, .r 5 0, .r 6 0, .r 7 0, .r 8 0, .w 15],
 .w 96 7 [[.n 3, .n 2, .n 10, .l 2 [[.n 1, .n 3], [.n 2, .n 1]], .n 2, .n 3, .n 5], [.n 4, .n 1, .n 7, .l 2 [[.n 3, .n 2]], .n 0, .n 0, .n 3]],
 .w 110 4 [[.n 1, .n 1, .n 1, .n 1000], [.n 1, .n 1, .n 0, .n 0]],
 .c [.w 16, .i 562],
 .c [.w 17, .n .i64 33 [0, 120, 80, 40, 0, 0, 0, 0, 0, 0, 0, 0, 0, 0, 0, 0, 0, 0, 0, 0, 0, 0, 0, 0, 0, 0, 0, 0, 0, 0, 0, 0, 0]],
 .c [.w 18, .m 11, .i 256, .i 2],
 .c [.nl 4, .nm],
 .c [.w 19, .i 5],
 .c [.w 13, .m 14],
 .w 345 5 [[.n 0, .n 0, .n 0, .n 0, .n 0], [.n 1, .n 0, .n 0, .n 0, .n 60], [.n 2, .n 0, .n 0, .n 0, .n 500], [.n 3, .n 0, .n 0, .n 0, .n 2]],
 .w 345 5 [[.n 1, .n 0, .n 1, .n 1, .n 60], [.n 1, .n 0, .n 1, .n 2, .n 40], [.n 1, .n 0, .n 1, .n 3, .n 20], [.n 2, .n 0, .n 1, .n 1, .n 60], [.n 2, .n 0, .n 1, .n 2, .n 40], [.n 2, .n 0, .n 1, .n 3, .n 20]],
 .p .n 1 false [(.n 1, [.n 0])],
 .w 343 13 [[.n 1, .n 0, .n 0, .n 0, .n 1, .n 1, .n 0, .n 1, .n 1, .n 0, .n 0, .n (-1), .n 0], [.n 2, .n 0, .n 0, .n 0, .n 2, .n 2, .n 0, .n 1, .n 2, .n 0, .n 0, .n (-1), .n 0], [.n 3, .n 0, .n 0, .n 0, .n 3, .n 1, .n 0, .n 1, .n 2, .n 3, .n 0, .n 4, .n 0], [.n 4, .n 0, .n 0, .n 0, .n 4, .n 2, .n 0, .n 1, .n 1, .n 0, .n 8, .n (-1), .n 0], [.n 5, .n 0, .n 0, .n 0, .n 5, .n 1, .n 0, .n 2, .n 1, .n 0, .n 0, .n (-1), .n 0]],
 .cw 331 3 4 [.i 1, .w 20, .c 1 [], .i 1, .c 1 [], .c 1 [], .i 1, .c 1 [], .c 1 [], .i 0, .c 1 [], .c 1 []],
 .p .n 1 false [(.n 1, [.n 0])],
 .w 147 16 [[.n 1, .n 1, .n 1, .n 0, .n 1, .n 1, .n 1, .n 2, .n 0, .n 20, .n 2, .l 2 [[.n 1, .n 6], [.n 2, .n 2]], .n 2, .n 0, .n 20, .n 20]],
 .w 345 5 [[.n 0, .n 0, .n 0, .n 0, .n 2], [.n 1, .n 0, .n 0, .n 0, .n 58], [.n 2, .n 0, .n 0, .n 0, .n 500], [.n 3, .n 0, .n 0, .n 0, .n 2]],
 .w 345 5 [[.n 1, .n 0, .n 1, .n 1, .n 54], [.n 1, .n 0, .n 1, .n 2, .n 38], [.n 1, .n 0, .n 1, .n 3, .n 20], [.n 2, .n 0, .n 1, .n 1, .n 60], [.n 2, .n 0, .n 1, .n 2, .n 40], [.n 2, .n 0, .n 1, .n 3, .n 20], [.n 1048577, .n 0, .n 1, .n 1, .n 6], [.n 1048577, .n 0, .n 1, .n 2, .n 2]],
 .w 139 3 [[.n 20, .n 1, .n 2]],
 .w 343 13 [[.n 1, .n 0, .n 0, .n 0, .n 1, .n 1, .n 0, .n 1, .n 1, .n 0, .n 0, .n (-1), .n 1], [.n 2, .n 0, .n 0, .n 0, .n 2, .n 2, .n 0, .n 1, .n 2, .n 0, .n 0, .n (-1), .n 0], [.n 3, .n 0, .n 0, .n 0, .n 3, .n 1, .n 0, .n 1, .n 2, .n 3, .n 0, .n 4, .n 0], [.n 4, .n 0, .n 0, .n 0, .n 4, .n 2, .n 0, .n 1, .n 1, .n 0, .n 8, .n (-1), .n 0], [.n 5, .n 0, .n 0, .n 0, .n 5, .n 1, .n 0, .n 2, .n 1, .n 0, .n 0, .n (-1), .n 0]],
 .w 3 1 [[.n 1]]]
abbrev awk5Mm (v : NbV) : Mem := (awk5M3 v)
theorem awk5_run (v : NbV) : PRun Tryz.prog 27 (awk5M0 v) [.r 0 0, .i 0, .a [.i 1, .i 1, .i 0, .i 1, .i 1, .i 1, .i 2, .i 0]] fun x m => x = .t [.i 1, .i 0] ∧ m = (awk5Mm v) := Ev.runA (speNrm.or (speAdd.or (za1 whp))) Tryz.func27 (c := (zbr Tryz.f27)) (r := (.ret, (awk5T1 v), (awk5M2 v))) Ev.codeA
def awT7 (v : NbV) : Fr := puF (awT6 v) [(3, .i 1), (4, .i 0), (17, .t [.i 1, .i 0]), (21, .t [.i 1, .i 0]), (22, .i 1), (23, .i 0)]
def awM8 (v : NbV) : Mem := [.c [.r 1 0, .r 3 0, .r 5 0, .r 7 0, .r 8 0, .r 9 0, .r 17 0, .i 562, .u (.l 2 [[.n 1, .n 120], [.n 2, .n 80], [.n 3, .n 40]]), .nl 2, .nl 2, .i 4, .w 10, .i 2, .w 11, .i 3, .i 200, .i 1, .i 500, .i 0],
 .c [.w 19, .i 562],
 .w 345 5 [[.n 0, .n 0, .n 0, .n 0, .n 0], [.n 1, .n 0, .n 0, .n 0, .n 60], [.n 2, .n 0, .n 0, .n 0, .n 500], [.n 3, .n 0, .n 0, .n 0, .n 2]],
 .c [.w 20, .n .i64 33 [0, 120, 80, 40, 0, 0, 0, 0, 0, 0, 0, 0, 0, 0, 0, 0, 0, 0, 0, 0, 0, 0, 0, 0, 0, 0, 0, 0, 0, 0, 0, 0, 0]],
 .w 345 5 [[.n 1, .n 0, .n 1, .n 1, .n 60], [.n 1, .n 0, .n 1, .n 2, .n 40], [.n 1, .n 0, .n 1, .n 3, .n 20], [.n 2, .n 0, .n 1, .n 1, .n 60], [.n 2, .n 0, .n 1, .n 2, .n 40], [.n 2, .n 0, .n 1, .n 3, .n 20]],
 .c [.w 21, .m 6, .i 256, .i 2],
 .p .n 1 false [(.n 1, [.n 0])],
 .c [.nl 4, .nm],
 .c [.nl 1],
 .c [.i 4, .w 10, .i 2, .w 11, .i 3, .i 200, .i 1, .i 500, .r 1 0, .r 3 0, .r 5 0, .r 7 0, .r 12 0, .r 14 0, .w 18],
 .w 96 7 [[.n 3, .n 2, .n 10, .l 2 [[.n 1, .n 3], [.n 2, .n 1]], .n 2, .n 3, .n 5], [.n 4, .n 1, .n 7, .l 2 [[.n 3, .n 2]], .n 0, .n 0, .n 3]],
 .w 110 4 [[.n 1, .n 1, .n 1, .n 1000], [.n 1, .n 1, .n 0, .n 0]],
 .c [.w 22, .i 5],
 .w 343 13 [[.n 1, .n 0, .n 0, .n 0, .n 1, .n 1, .n 0, .n 1, .n 1, .n 0, .n 0, .n (-1), .n 0], [.n 2, .n 0, .n 0, .n 0, .n 2, .n 2, .n 0, .n 1, .n 2, .n 0, .n 0, .n (-1), .n 0], [.n 3, .n 0, .n 0, .n 0, .n 3, .n 1, .n 0, .n 1, .n 2, .n 3, .n 0, .n 4, .n 0], [.n 4, .n 0, .n 0, .n 0, .n 4, .n 2, .n 0, .n 1, .n 1, .n 0, .n 8, .n (-1), .n 0], [.n 5, .n 0, .n 0, .n 0, .n 5, .n 1, .n 0, .n 2, .n 1, .n 0, .n 0, .n (-1), .n 0]],
 .c [.w 15, .m 16],
 .cw 331 3 4 [.i 1, .w 23, .c 1 [], .i 1, .c 1 [], .c 1 [], .i 1, .c 1 [], .c 1 [], .i 0, .c 1 [], .c 1 []],
 .p .n 1 false [(.n 1, [.n 0])],
 .c [.i 4, .w 10, .i 2, .w 11, .i 3, .i 200, .i 1, .i 500, .r 1 0, .r 3 0, .r 5 0, .r 7 0, .nl 19],
 .w 147 16 [[.n 1, .n 1, .n 1, .n 0, .n 1, .n 1, .n 1, .n 2, .n 0, .n 20, .n 2, .l 2 [[.n 1, .n 6], [.n 2, .n 2]], .n 2, .n 0, .n 20, .n 20]],
 .w 345 5 [[.n 0, .n 0, .n 0, .n 0, .n 2], [.n 1, .n 0, .n 0, .n 0, .n 58], [.n 2, .n 0, .n 0, .n 0, .n 500], [.n 3, .n 0, .n 0, .n 0, .n 2]],
 .w 345 5 [[.n 1, .n 0, .n 1, .n 1, .n 54], [.n 1, .n 0, .n 1, .n 2, .n 38], [.n 1, .n 0, .n 1, .n 3, .n 20], [.n 2, .n 0, .n 1, .n 1, .n 60], [.n 2, .n 0, .n 1, .n 2, .n 40], [.n 2, .n 0, .n 1, .n 3, .n 20], [.n 1048577, .n 0, .n 1, .n 1, .n 6], [.n 1048577, .n 0, .n 1, .n 2, .n 2]],
 .w 139 3 [[.n 20, .n 1, .n 2]],
 .w 343 13 [[.n 1, .n 0, .n 0, .n 0, .n 1, .n 1, .n 0, .n 1, .n 1, .n 0, .n 0, .n (-1), .n 1], [.n 2, .n 0, .n 0, .n 0, .n 2, .n 2, .n 0, .n 1, .n 2, .n 0, .n 0, .n (-1), .n 0], [.n 3, .n 0, .n 0, .n 0, .n 3, .n 1, .n 0, .n 1, .n 2, .n 3, .n 0, .n 4, .n 0], [.n 4, .n 0, .n 0, .n 0, .n 4, .n 2, .n 0, .n 1, .n 1, .n 0, .n 8, .n (-1), .n 0], [.n 5, .n 0, .n 0, .n 0, .n 5, .n 1, .n 0, .n 2, .n 1, .n 0, .n 0, .n (-1), .n 0]],
 .w 3 1 [[.n 1]]]
def awT9 (v : NbV) : Fr := puF (awT7 v) [(25, .r 0 0)]
def awk6M0 (v : NbV) : Mem := [.c [.r 1 0, .r 2 0, .r 3 0, .r 4 0, .r 5 0, .r 6 0, .r 7 0, .i 562, .u (.l 2 [[.n 1, .n 120], [.n 2, .n 80], [.n 3, .n 40]]), .nl 2, .nl 2, .i 4, .w 8, .i 2, .w 9, .i 3, .i 200, .i 1, .i 500, .i 0],
 .c [.w 10, .i 562],
 .c [.w 11, .n .i64 33 [0, 120, 80, 40, 0, 0, 0, 0, 0, 0, 0, 0, 0, 0, 0, 0, 0, 0, 0, 0, 0, 0, 0, 0, 0, 0, 0, 0, 0, 0, 0, 0, 0]],
 .c [.w 12, .m 13, .i 256, .i 2],
 .c [.nl 4, .nm],
 .c [.nl 1],
 .c [.i 4, .w 8, .i 2, .w 9, .i 3, .i 200, .i 1, .i 500, .r 1 0, .r 2 0, .r 3 0, .r 4 0, .r 14 0, .r 15 0, .w 16],
 .c [.i 4, .w 8, .i 2, .w 9, .i 3, .i 200, .i 1, .i 500, .r 1 0, .r 2 0, .r 3 0, .r 4 0, .nl 19],
 .w 96 7 [[.n 3, .n 2, .n 10, .l 2 [[.n 1, .n 3], [.n 2, .n 1]], .n 2, .n 3, .n 5], [.n 4, .n 1, .n 7, .l 2 [[.n 3, .n 2]], .n 0, .n 0, .n 3]],
 .w 110 4 [[.n 1, .n 1, .n 1, .n 1000], [.n 1, .n 1, .n 0, .n 0]],
 .w 345 5 [[.n 0, .n 0, .n 0, .n 0, .n 2], [.n 1, .n 0, .n 0, .n 0, .n 58], [.n 2, .n 0, .n 0, .n 0, .n 500], [.n 3, .n 0, .n 0, .n 0, .n 2]],
 .w 345 5 [[.n 1, .n 0, .n 1, .n 1, .n 54], [.n 1, .n 0, .n 1, .n 2, .n 38], [.n 1, .n 0, .n 1, .n 3, .n 20], [.n 2, .n 0, .n 1, .n 1, .n 60], [.n 2, .n 0, .n 1, .n 2, .n 40], [.n 2, .n 0, .n 1, .n 3, .n 20], [.n 1048577, .n 0, .n 1, .n 1, .n 6], [.n 1048577, .n 0, .n 1, .n 2, .n 2]],
 .w 139 3 [[.n 20, .n 1, .n 2]],
 .p .n 1 false [(.n 1, [.n 0])],
 .c [.w 17, .i 5],
 .c [.w 18, .m 19],
 .w 147 16 [[.n 1, .n 1, .n 1, .n 0, .n 1, .n 1, .n 1, .n 2, .n 0, .n 20, .n 2, .l 2 [[.n 1, .n 6], [.n 2, .n 2]], .n 2, .n 0, .n 20, .n 20]],
 .w 343 13 [[.n 1, .n 0, .n 0, .n 0, .n 1, .n 1, .n 0, .n 1, .n 1, .n 0, .n 0, .n (-1), .n 1], [.n 2, .n 0, .n 0, .n 0, .n 2, .n 2, .n 0, .n 1, .n 2, .n 0, .n 0, .n (-1), .n 0], [.n 3, .n 0, .n 0, .n 0, .n 3, .n 1, .n 0, .n 1, .n 2, .n 3, .n 0, .n 4, .n 0], [.n 4, .n 0, .n 0, .n 0, .n 4, .n 2, .n 0, .n 1, .n 1, .n 0, .n 8, .n (-1), .n 0], [.n 5, .n 0, .n 0, .n 0, .n 5, .n 1, .n 0, .n 2, .n 1, .n 0, .n 0, .n (-1), .n 0]],
 .cw 331 3 4 [.i 1, .w 20, .c 1 [], .i 1, .c 1 [], .c 1 [], .i 1, .c 1 [], .c 1 [], .i 0, .c 1 [], .c 1 []],
 .p .n 1 false [(.n 1, [.n 0])],
 .w 3 1 [[.n 1]]]
def awk6T1 (v : NbV) : Fr := Fr.mk [.r 0 0, .i 20, .z, .z, .i 1, .i 0, .i 20, .i 1, .r 24 0, .u (.b false), .u (.b false), .r 0 0, .u (.b true), .u (.b false), .u (.b false), .i 20, .u (.b false), .u (.b false), .u (.b false), .i 20, .r 0 0, .r 0 0, .r 0 19, .i 0, .i 1099511627776, .u (.b false), .r 0 0, .r 0 0, .r 0 19, .i 0, .i 20, .i 20, .i 0, .i 1, .t [.a [.i 0, .i 0, .i 0], .u (.b false)], .r 0 0, .r 0 0, .r 0 0, .r 0 2, .r 3 0, .i 20, .t [.a [.i 0, .i 0, .i 0], .u (.b false)], .a [.i 0, .i 0, .i 0], .u (.b false), .u (.b false), .u (.b true), .r 0 0, .i 20, .r 0 0, .r 0 19, .i 1, .r 0 0, .a [.i 20, .i 1, .i 2], .t []] 0 54
def awk6M2 (v : NbV) : Mem := paM (awk6M0 v) [(0, .c [.r 1 0, .r 2 0, .r 3 0, .r 4 0, .r 5 0, .r 6 0, .r 7 0, .i 562, .u (.l 2 [[.n 1, .n 120], [.n 2, .n 80], [.n 3, .n 40]]), .nl 2, .nl 2, .i 4, .w 8, .i 2, .w 9, .i 3, .i 200, .i 1, .i 500, .i 20]), (3, .c [.v 12 3 0 0 false, .m 13, .i 256, .i 2]), (4, .c [.w 22, .m 23]), (13, .p .n 1 false []), (16, .w 147 16 [[.n 1, .n 1, .n 1, .n 0, .n 1, .n 1, .n 1, .n 2, .n 0, .n 20, .n 2, .l 2 [[.n 1, .n 6], [.n 2, .n 2]], .n 4, .n 0, .n 20, .n 0]]), (18, .cw 331 3 4 [.i 1, .v 20 1 0 0 false, .c 1 [], .i 1, .c 1 [], .c 1 [], .i 1, .c 1 [], .c 1 [], .i 0, .c 1 [], .c 1 []]), (19, .p .n 1 false []), (20, .w 3 1 [[.n 0]])] [.c [.i 20, .i 1, .i 2],
 .w 205 4 [[.n 20, .n 1, .n 1, .n 4]],
 .p (.a 2) 1 false [(.a [1, 1], [.n 0])],
 .c [.i 0, .i 0, .i 0]]
def awk6M3 (v : NbV) : Mem := paM (awk6M0 v) [(0, .c [.r 1 0, .r 2 0, .r 3 0, .r 4 0, .r 5 0, .r 6 0, .r 7 0, .i 562, .u (.l 2 [[.n 1, .n 120], [.n 2, .n 80], [.n 3, .n 40]]), .nl 2, .nl 2, .i 4, .w 8, .i 2, .w 9, .i 3, .i 200, .i 1, .i 500, .i 20]), (3, .c [.v 12 3 0 0 false, .m 13, .i 256, .i 2]), (4, .c [.w 21, .m 22]), (13, .p .n 1 false []), (16, .w 147 16 [[.n 1, .n 1, .n 1, .n 0, .n 1, .n 1, .n 1, .n 2, .n 0, .n 20, .n 2, .l 2 [[.n 1, .n 6], [.n 2, .n 2]], .n 4, .n 0, .n 20, .n 0]]), (18, .cw 331 3 4 [.i 1, .v 20 1 0 0 false, .c 1 [], .i 1, .c 1 [], .c 1 [], .i 1, .c 1 [], .c 1 [], .i 0, .c 1 [], .c 1 []]), (19, .p .n 1 false []), (20, .w 3 1 [[.n 0]])] [.w 205 4 [[.n 20, .n 1, .n 1, .n 4]],
 .p (.a 2) 1 false [(.a [1, 1], [.n 0])]]
abbrev awk6Mm (v : NbV) : Mem := (awk6M3 v)
theorem awk6_run (v : NbV) : PRun Tryz.prog 12 (awk6M0 v) [.r 0 0, .i 20] fun x m => x = .t [.i 1, .i 0] ∧ m = (awk6Mm v) := Ev.runA (speNrm.or (speAdd.or (za1 whp))) Tryz.func12 (c := (zbr Tryz.f12)) (r := (.ret, (awk6T1 v), (awk6M2 v))) Ev.codeA
def awT10 (v : NbV) : Fr := puF (awT9 v) [(5, .i 1), (6, .i 0), (24, .t [.i 1, .i 0]), (26, .t [.i 1, .i 0]), (27, .i 1), (28, .i 0)]
def awM11 (v : NbV) : Mem := paM (awM8 v) [(0, .c [.r 1 0, .r 3 0, .r 5 0, .r 7 0, .r 8 0, .r 9 0, .r 17 0, .i 562, .u (.l 2 [[.n 1, .n 120], [.n 2, .n 80], [.n 3, .n 40]]), .nl 2, .nl 2, .i 4, .w 10, .i 2, .w 11, .i 3, .i 200, .i 1, .i 500, .i 20]), (5, .c [.v 21 3 0 0 false, .m 6, .i 256, .i 2]), (6, .p .n 1 false []), (7, .c [.w 24, .m 25]), (15, .cw 331 3 4 [.i 1, .v 23 1 0 0 false, .c 1 [], .i 1, .c 1 [], .c 1 [], .i 1, .c 1 [], .c 1 [], .i 0, .c 1 [], .c 1 []]), (16, .p .n 1 false []), (18, .w 147 16 [[.n 1, .n 1, .n 1, .n 0, .n 1, .n 1, .n 1, .n 2, .n 0, .n 20, .n 2, .l 2 [[.n 1, .n 6], [.n 2, .n 2]], .n 4, .n 0, .n 20, .n 0]]), (23, .w 3 1 [[.n 0]])] [.w 205 4 [[.n 20, .n 1, .n 1, .n 4]],
 .p (.a 2) 1 false [(.a [1, 1], [.n 0])]]
def awT12 (v : NbV) : Fr := puF (awT10 v) [(29, .r 0 0)]
def awk7M0 (v : NbV) : Mem := [.c [.r 1 0, .r 2 0, .r 3 0, .r 4 0, .r 5 0, .r 6 0, .r 7 0, .i 562, .u (.l 2 [[.n 1, .n 120], [.n 2, .n 80], [.n 3, .n 40]]), .nl 2, .nl 2, .i 4, .w 8, .i 2, .w 9, .i 3, .i 200, .i 1, .i 500, .i 20],
 .c [.w 10, .i 562],
 .c [.w 11, .n .i64 33 [0, 120, 80, 40, 0, 0, 0, 0, 0, 0, 0, 0, 0, 0, 0, 0, 0, 0, 0, 0, 0, 0, 0, 0, 0, 0, 0, 0, 0, 0, 0, 0, 0]],
 .c [.v 12 3 0 0 false, .m 13, .i 256, .i 2],
 .c [.w 14, .m 15],
 .c [.nl 1],
 .c [.i 4, .w 8, .i 2, .w 9, .i 3, .i 200, .i 1, .i 500, .r 1 0, .r 2 0, .r 3 0, .r 4 0, .r 16 0, .r 17 0, .w 18],
 .c [.i 4, .w 8, .i 2, .w 9, .i 3, .i 200, .i 1, .i 500, .r 1 0, .r 2 0, .r 3 0, .r 4 0, .nl 19],
 .w 96 7 [[.n 3, .n 2, .n 10, .l 2 [[.n 1, .n 3], [.n 2, .n 1]], .n 2, .n 3, .n 5], [.n 4, .n 1, .n 7, .l 2 [[.n 3, .n 2]], .n 0, .n 0, .n 3]],
 .w 110 4 [[.n 1, .n 1, .n 1, .n 1000], [.n 1, .n 1, .n 0, .n 0]],
 .w 345 5 [[.n 0, .n 0, .n 0, .n 0, .n 2], [.n 1, .n 0, .n 0, .n 0, .n 58], [.n 2, .n 0, .n 0, .n 0, .n 500], [.n 3, .n 0, .n 0, .n 0, .n 2]],
 .w 345 5 [[.n 1, .n 0, .n 1, .n 1, .n 54], [.n 1, .n 0, .n 1, .n 2, .n 38], [.n 1, .n 0, .n 1, .n 3, .n 20], [.n 2, .n 0, .n 1, .n 1, .n 60], [.n 2, .n 0, .n 1, .n 2, .n 40], [.n 2, .n 0, .n 1, .n 3, .n 20], [.n 1048577, .n 0, .n 1, .n 1, .n 6], [.n 1048577, .n 0, .n 1, .n 2, .n 2]],
 .w 139 3 [[.n 20, .n 1, .n 2]],
 .p .n 1 false [],
 .w 205 4 [[.n 20, .n 1, .n 1, .n 4]],
 .p (.a 2) 1 false [(.a [1, 1], [.n 0])],
 .c [.w 19, .i 5],
 .c [.w 20, .m 21],
 .w 147 16 [[.n 1, .n 1, .n 1, .n 0, .n 1, .n 1, .n 1, .n 2, .n 0, .n 20, .n 2, .l 2 [[.n 1, .n 6], [.n 2, .n 2]], .n 4, .n 0, .n 20, .n 0]],
 .w 343 13 [[.n 1, .n 0, .n 0, .n 0, .n 1, .n 1, .n 0, .n 1, .n 1, .n 0, .n 0, .n (-1), .n 1], [.n 2, .n 0, .n 0, .n 0, .n 2, .n 2, .n 0, .n 1, .n 2, .n 0, .n 0, .n (-1), .n 0], [.n 3, .n 0, .n 0, .n 0, .n 3, .n 1, .n 0, .n 1, .n 2, .n 3, .n 0, .n 4, .n 0], [.n 4, .n 0, .n 0, .n 0, .n 4, .n 2, .n 0, .n 1, .n 1, .n 0, .n 8, .n (-1), .n 0], [.n 5, .n 0, .n 0, .n 0, .n 5, .n 1, .n 0, .n 2, .n 1, .n 0, .n 0, .n (-1), .n 0]],
 .cw 331 3 4 [.i 1, .v 22 1 0 0 false, .c 1 [], .i 1, .c 1 [], .c 1 [], .i 1, .c 1 [], .c 1 [], .i 0, .c 1 [], .c 1 []],
 .p .n 1 false [],
 .w 3 1 [[.n 0]]]
def awk7T1 (v : NbV) : Fr := Fr.mk [.r 0 0, .i 1, .z, .z, .i 0, .r 24 0, .i 0, .i 0, .r 27 0, .i 0, .r 28 0, .i 0, .r 29 0, .i 0, .r 0 0, .u (.b true), .u (.b false), .t [.a [.i 1, .i 1, .i 1, .i 0, .i 1, .i 1, .i 1, .i 2, .i 0, .i 20, .i 2, .w 23, .i 4, .i 0, .i 20, .i 0], .i 0], .r 0 0, .r 0 0, .r 0 0, .r 0 5, .r 6 0, .i 1, .t [.a [.i 1, .i 1, .i 1, .i 0, .i 1, .i 1, .i 1, .i 2, .i 0, .i 20, .i 2, .w 23, .i 4, .i 0, .i 20, .i 0], .i 0], .a [.i 1, .i 1, .i 1, .i 0, .i 1, .i 1, .i 1, .i 2, .i 0, .i 20, .i 2, .w 23, .i 4, .i 0, .i 20, .i 0], .i 0, .r 0 0, .r 0 0, .r 0 0, .r 0 5, .r 6 0, .i 1, .i 0, .i 0, .u (.b false), .u (.b false), .r 24 1, .i 1, .u (.b false), .u (.b false), .z, .t [.a [.i 1, .i 1, .i 0, .i 1, .i 1, .i 0, .i 0, .i (-1), .i 0], .i 0], .r 0 0, .r 0 0, .r 0 0, .r 0 5, .r 6 0, .r 16 0, .r 24 6, .i 1, .t [.a [.i 1, .i 1, .i 0, .i 1, .i 1, .i 0, .i 0, .i (-1), .i 0], .i 0], .a [.i 1, .i 1, .i 0, .i 1, .i 1, .i 0, .i 0, .i (-1), .i 0], .i 0, .t [.a [.i 3, .i 2, .i 10, .u (.l 2 [[.n 1, .n 3], [.n 2, .n 1]]), .i 2, .i 3, .i 5], .i 0], .r 0 0, .r 0 0, .r 0 11, .a [.i 4, .w 8, .i 2, .w 9, .i 3, .i 200, .i 1, .i 500], .r 27 4, .i 1, .t [.a [.i 3, .i 2, .i 10, .u (.l 2 [[.n 1, .n 3], [.n 2, .n 1]]), .i 2, .i 3, .i 5], .i 0], .a [.i 3, .i 2, .i 10, .u (.l 2 [[.n 1, .n 3], [.n 2, .n 1]]), .i 2, .i 3, .i 5], .i 0, .t [.a [.i 3, .i 4], .i 0], .a [.i 3, .i 2, .i 10, .u (.l 2 [[.n 1, .n 3], [.n 2, .n 1]]), .i 2, .i 3, .i 5], .r 24 7, .i 2, .t [.a [.i 3, .i 4], .i 0], .a [.i 3, .i 4], .i 0, .i 0, .u (.b true), .r 0 0, .r 0 0, .r 0 0, .r 0 7, .r 0 9, .nl 2, .a [.i 3, .i 4], .w 30, .u (.l 2 [[.n 3, .n 4]]), .r 0 0, .r 0 7, .r 0 9, .r 0 0, .r 0 0, .r 0 0, .r 0 7, .r 0 10, .nl 2, .r 24 11, .w 23, .u (.l 2 [[.n 1, .n 6], [.n 2, .n 2]]), .r 0 0, .r 0 7, .r 0 10, .i 0] 0 98
def awk7M2 (v : NbV) : Mem := paM (awk7M0 v) [(0, .c [.r 1 0, .r 2 0, .r 3 0, .r 4 0, .r 5 0, .r 6 0, .r 7 0, .i 562, .u (.l 2 [[.n 1, .n 120], [.n 2, .n 80], [.n 3, .n 40]]), .u (.l 2 [[.n 3, .n 4]]), .u (.l 2 [[.n 1, .n 6], [.n 2, .n 2]]), .i 4, .w 8, .i 2, .w 9, .i 3, .i 200, .i 1, .i 500, .i 20]), (2, .c [.w 25, .n .i64 33 [0, 114, 78, 44, 0, 0, 0, 0, 0, 0, 0, 0, 0, 0, 0, 0, 0, 0, 0, 0, 0, 0, 0, 0, 0, 0, 0, 0, 0, 0, 0, 0, 0]]), (16, .c [.w 26, .i 5]), (18, .w 147 16 [[.n 1, .n 1, .n 1, .n 0, .n 1, .n 1, .n 1, .n 2, .n 0, .n 20, .n 2, .l 2 [[.n 1, .n 6], [.n 2, .n 2]], .n 5, .n 0, .n 20, .n 0]])] [.w 102 2 [[.n 1, .n 6], [.n 2, .n 2]],
 .c [.i 1, .i 1, .i 1, .i 0, .i 1, .i 1, .i 1, .i 2, .i 0, .i 20, .i 2, .w 23, .i 4, .i 0, .i 20, .i 0],
 .w 345 5 [[.n 1, .n 0, .n 1, .n 1, .n 54], [.n 1, .n 0, .n 1, .n 2, .n 38], [.n 1, .n 0, .n 1, .n 3, .n 24], [.n 2, .n 0, .n 1, .n 1, .n 60], [.n 2, .n 0, .n 1, .n 2, .n 40], [.n 2, .n 0, .n 1, .n 3, .n 20]],
 .w 343 13 [[.n 1, .n 0, .n 0, .n 0, .n 1, .n 1, .n 0, .n 1, .n 1, .n 0, .n 0, .n (-1), .n 0], [.n 2, .n 0, .n 0, .n 0, .n 2, .n 2, .n 0, .n 1, .n 2, .n 0, .n 0, .n (-1), .n 0], [.n 3, .n 0, .n 0, .n 0, .n 3, .n 1, .n 0, .n 1, .n 2, .n 3, .n 0, .n 4, .n 0], [.n 4, .n 0, .n 0, .n 0, .n 4, .n 2, .n 0, .n 1, .n 1, .n 0, .n 8, .n (-1), .n 0], [.n 5, .n 0, .n 0, .n 0, .n 5, .n 1, .n 0, .n 2, .n 1, .n 0, .n 0, .n (-1), .n 0]],
 .c [.i 1, .i 1, .i 0, .i 1, .i 1, .i 0, .i 0, .i (-1), .i 0],
 .c [.i 3, .i 2, .i 10, .u (.l 2 [[.n 1, .n 3], [.n 2, .n 1]]), .i 2, .i 3, .i 5],
 .c [.i 3, .i 4],
 .w 102 2 [[.n 3, .n 4]]]
def awk7M3 (v : NbV) : Mem := paM (awk7M0 v) [(0, .c [.r 1 0, .r 2 0, .r 3 0, .r 4 0, .r 5 0, .r 6 0, .r 7 0, .i 562, .u (.l 2 [[.n 1, .n 120], [.n 2, .n 80], [.n 3, .n 40]]), .u (.l 2 [[.n 3, .n 4]]), .u (.l 2 [[.n 1, .n 6], [.n 2, .n 2]]), .i 4, .w 8, .i 2, .w 9, .i 3, .i 200, .i 1, .i 500, .i 20]), (2, .c [.w 23, .n .i64 33 [0, 114, 78, 44, 0, 0, 0, 0, 0, 0, 0, 0, 0, 0, 0, 0, 0, 0, 0, 0, 0, 0, 0, 0, 0, 0, 0, 0, 0, 0, 0, 0, 0]]), (16, .c [.w 24, .i 5]), (18, .w 147 16 [[.n 1, .n 1, .n 1, .n 0, .n 1, .n 1, .n 1, .n 2, .n 0, .n 20, .n 2, .l 2 [[.n 1, .n 6], [.n 2, .n 2]], .n 5, .n 0, .n 20, .n 0]])] [.w 345 5 [[.n 1, .n 0, .n 1, .n 1, .n 54], [.n 1, .n 0, .n 1, .n 2, .n 38], [.n 1, .n 0, .n 1, .n 3, .n 24], [.n 2, .n 0, .n 1, .n 1, .n 60], [.n 2, .n 0, .n 1, .n 2, .n 40], [.n 2, .n 0, .n 1, .n 3, .n 20]],
 .w 343 13 [[.n 1, .n 0, .n 0, .n 0, .n 1, .n 1, .n 0, .n 1, .n 1, .n 0, .n 0, .n (-1), .n 0], [.n 2, .n 0, .n 0, .n 0, .n 2, .n 2, .n 0, .n 1, .n 2, .n 0, .n 0, .n (-1), .n 0], [.n 3, .n 0, .n 0, .n 0, .n 3, .n 1, .n 0, .n 1, .n 2, .n 3, .n 0, .n 4, .n 0], [.n 4, .n 0, .n 0, .n 0, .n 4, .n 2, .n 0, .n 1, .n 1, .n 0, .n 8, .n (-1), .n 0], [.n 5, .n 0, .n 0, .n 0, .n 5, .n 1, .n 0, .n 2, .n 1, .n 0, .n 0, .n (-1), .n 0]]]
abbrev awk7Mm (v : NbV) : Mem := (awk7M3 v)
theorem awk7_run (v : NbV) : PRun Tryz.prog 17 (awk7M0 v) [.r 0 0, .i 1] fun x m => x = .i 0 ∧ m = (awk7Mm v) := Ev.runA (speNrm.or (speAdd.or (za1 whp))) Tryz.func17 (c := (zbr Tryz.f17)) (r := (.ret, (awk7T1 v), (awk7M2 v))) Ev.codeA
def awT13 (v : NbV) : Fr := puF (awT10 v) [(7, .i 0), (29, .r 0 0), (30, .i 0)]
def awM14 (v : NbV) : Mem := paM (awM11 v) [(0, .c [.r 1 0, .r 3 0, .r 5 0, .r 7 0, .r 8 0, .r 9 0, .r 17 0, .i 562, .u (.l 2 [[.n 1, .n 120], [.n 2, .n 80], [.n 3, .n 40]]), .u (.l 2 [[.n 3, .n 4]]), .u (.l 2 [[.n 1, .n 6], [.n 2, .n 2]]), .i 4, .w 10, .i 2, .w 11, .i 3, .i 200, .i 1, .i 500, .i 20]), (3, .c [.w 26, .n .i64 33 [0, 114, 78, 44, 0, 0, 0, 0, 0, 0, 0, 0, 0, 0, 0, 0, 0, 0, 0, 0, 0, 0, 0, 0, 0, 0, 0, 0, 0, 0, 0, 0, 0]]), (12, .c [.w 27, .i 5]), (18, .w 147 16 [[.n 1, .n 1, .n 1, .n 0, .n 1, .n 1, .n 1, .n 2, .n 0, .n 20, .n 2, .l 2 [[.n 1, .n 6], [.n 2, .n 2]], .n 5, .n 0, .n 20, .n 0]])] [.w 345 5 [[.n 1, .n 0, .n 1, .n 1, .n 54], [.n 1, .n 0, .n 1, .n 2, .n 38], [.n 1, .n 0, .n 1, .n 3, .n 24], [.n 2, .n 0, .n 1, .n 1, .n 60], [.n 2, .n 0, .n 1, .n 2, .n 40], [.n 2, .n 0, .n 1, .n 3, .n 20]],
 .w 343 13 [[.n 1, .n 0, .n 0, .n 0, .n 1, .n 1, .n 0, .n 1, .n 1, .n 0, .n 0, .n (-1), .n 0], [.n 2, .n 0, .n 0, .n 0, .n 2, .n 2, .n 0, .n 1, .n 2, .n 0, .n 0, .n (-1), .n 0], [.n 3, .n 0, .n 0, .n 0, .n 3, .n 1, .n 0, .n 1, .n 2, .n 3, .n 0, .n 4, .n 0], [.n 4, .n 0, .n 0, .n 0, .n 4, .n 2, .n 0, .n 1, .n 1, .n 0, .n 8, .n (-1), .n 0], [.n 5, .n 0, .n 0, .n 0, .n 5, .n 1, .n 0, .n 2, .n 1, .n 0, .n 0, .n (-1), .n 0]]]
def awT15 (v : NbV) : Fr := Fr.mk [.u (.b true), .r 0 0, .u (.b true), .i 1, .i 0, .i 1, .i 0, .i 0, .i 101, .i 0, .r 37 0, .t [.r 0 0, .u (.b true)], .t [.r 0 0, .u (.b true)], .r 0 0, .u (.b true), .u (.b true), .u (.b false), .t [.i 1, .i 0], .r 0 0, .r 9 0, .a [.i 1, .i 1, .i 0, .i 1, .i 1, .i 1, .i 2, .i 0], .t [.i 1, .i 0], .i 1, .i 0, .t [.i 1, .i 0], .r 0 0, .t [.i 1, .i 0], .i 1, .i 0, .r 0 0, .i 0, .t [.i 101, .i 0], .r 0 0, .t [.i 101, .i 0], .i 101, .i 0, .r 0 0, .a [.i 20, .i 562, .u (.l 2 [[.n 1, .n 120], [.n 2, .n 80], [.n 3, .n 40]]), .u (.l 2 [[.n 3, .n 4]]), .u (.l 2 [[.n 1, .n 6], [.n 2, .n 2]]), .w 30, .w 31, .w 32, .i 6, .w 33, .w 34, .nl 19, .w 35, .nl 3, .i 2, .w 36], .i 1, .u (.b true), .u (.b true), .i 0, .u (.b true), .u (.b true), .u (.b true), .i 1, .u (.b true), .u (.b true), .u (.b true), .i 0, .u (.b true), .u (.b true), .u (.b true), .i 0, .u (.b true), .u (.b true), .u (.b true), .i 101, .u (.b true), .u (.b true), .u (.b true), .i 0, .u (.b true), .u (.b true), .u (.b true), .r 0 0, .u (.b true), .u (.b true), .u (.b true), .r 0 0, .u (.b false), .u (.b true), .u (.b true), .u (.b true), .r 37 0, .i 20, .u (.b true), .u (.b true), .u (.b true), .r 37 1, .i 562, .u (.b true), .u (.b true), .u (.b true), .r 37 3, .u (.l 2 [[.n 3, .n 4]]), .a [.i 3, .i 4], .w 39, .u (.b true), .u (.b true), .u (.b true), .r 37 4, .u (.l 2 [[.n 1, .n 6], [.n 2, .n 2]]), .a [.i 1, .i 6], .a [.i 2, .i 2], .w 40, .u (.b true), .u (.b true), .u (.b true), .r 37 15, .w 36, .i 1, .u (.b true), .u (.b true)] 0 104
def awM16 (v : NbV) : Mem := paM (awM14 v) [(1, .c [.w 28, .i 562]), (8, .c [.w 29])] [.w 345 5 [[.n 0, .n 0, .n 0, .n 0, .n 2], [.n 1, .n 0, .n 0, .n 0, .n 58], [.n 2, .n 0, .n 0, .n 0, .n 500], [.n 3, .n 0, .n 0, .n 0, .n 2], [.n 101, .n 0, .n 0, .n 0, .n 0]],
 .w 200 1 [[.l 2 [[.n 2, .n 1]]]],
 .w 104 2 [[.n 0, .n 2], [.n 1, .n 58], [.n 2, .n 500], [.n 3, .n 2], [.n 101, .n 0]],
 .w 160 5 [[.n 1, .n 0, .n 1, .n 1, .n 54], [.n 1, .n 0, .n 1, .n 2, .n 38], [.n 1, .n 0, .n 1, .n 3, .n 24], [.n 2, .n 0, .n 1, .n 1, .n 60], [.n 2, .n 0, .n 1, .n 2, .n 40], [.n 2, .n 0, .n 1, .n 3, .n 20]],
 .w 31 9 [[.n 1, .n 1, .n 0, .n 1, .n 1, .n 0, .n 0, .n (-1), .n 0], [.n 2, .n 2, .n 0, .n 1, .n 2, .n 0, .n 0, .n (-1), .n 0], [.n 3, .n 1, .n 0, .n 1, .n 2, .n 3, .n 0, .n 4, .n 0], [.n 4, .n 2, .n 0, .n 1, .n 1, .n 0, .n 8, .n (-1), .n 0], [.n 5, .n 1, .n 0, .n 2, .n 1, .n 0, .n 0, .n (-1), .n 0]],
 .w 197 2 [[.l 1 [], .l 1 []], [.l 1 [], .l 1 []], [.l 1 [], .l 1 []], [.l 1 [], .l 1 []]],
 .w 147 16 [[.n 1, .n 1, .n 1, .n 0, .n 1, .n 1, .n 1, .n 2, .n 0, .n 20, .n 2, .l 2 [[.n 1, .n 6], [.n 2, .n 2]], .n 5, .n 0, .n 20, .n 0]],
 .w 202 2 [[.n 101, .l 2 [[.n 2, .n 1]]]],
 .w 205 4 [[.n 20, .n 1, .n 1, .n 4]],
 .c [.i 20, .i 562, .u (.l 2 [[.n 1, .n 120], [.n 2, .n 80], [.n 3, .n 40]]), .u (.l 2 [[.n 3, .n 4]]), .u (.l 2 [[.n 1, .n 6], [.n 2, .n 2]]), .w 30, .w 31, .w 32, .i 6, .w 33, .w 34, .nl 19, .w 35, .nl 3, .i 2, .w 36],
 .w 242 2 [[.n 2, .n 1]],
 .w 102 2 [[.n 3, .n 4]],
 .w 102 2 [[.n 1, .n 6], [.n 2, .n 2]]]
abbrev aw6Mm (v : NbV) : Mem := (awM0 v)
theorem zqk (v : NbV) : PRun Tryz.prog 6 (awM0 v) [] fun x m => x = .u (.b true) ∧ m = (aw6Mm v) := Ev.runA eK1 Tryz.func6 (c := (zbr Tryz.f6)) (r := (.ret, (awT15 v), (awM16 v))) (Ev.piecesA (k := 1) (t1 := awT1 v) (m1 := awM0 v) (Ev.seqPA (t1 := awT3 v) (m1 := awM4 v) (Ev.regA (EvO.callA (t2 := awT2 v) (m1 := awM0 v) (ix := []) (k := 0) (t1 := (awT2 v)) (args := [.i 0]) (a := []) (cc := []) (awk1_run v) EvO.opsA)) (Ev.piecesA (k := 1) (t1 := awT5 v) (m1 := awM4 v) (Ev.seqPA (t1 := awT7 v) (m1 := awM8 v) (Ev.regA (EvO.callA (t2 := awT6 v) (m1 := awM4 v) (ix := [9, 10, 11, 1, 3, 5, 7, 12, 14, 2, 4, 6, 13, 15, 16]) (k := 3) (t1 := (awT6 v)) (args := [.r 9 0, .i 0, .a [.i 1, .i 1, .i 0, .i 1, .i 1, .i 1, .i 2, .i 0]]) (a := []) (cc := []) (awk5_run v) EvO.opsA)) (Ev.seqPA (t1 := awT10 v) (m1 := awM11 v) (Ev.regA (EvO.callA (t2 := awT9 v) (m1 := awM8 v) (ix := [0, 1, 3, 5, 7, 8, 9, 17, 10, 11, 19, 20, 21, 6, 12, 14, 18, 22, 15, 16, 23]) (k := 1) (t1 := (awT9 v)) (args := [.r 0 0, .i 20]) (a := []) (cc := []) (awk6_run v) EvO.opsA)) (Ev.seqPA (t1 := awT13 v) (m1 := awM14 v) (Ev.regA (EvO.callA (t2 := awT12 v) (m1 := awM11 v) (ix := [0, 1, 3, 5, 7, 8, 9, 17, 10, 11, 19, 20, 21, 6, 24, 25, 12, 14, 18, 22, 15, 16, 23]) (k := 1) (t1 := (awT12 v)) (args := [.r 0 0, .i 1]) (a := []) (cc := []) (awk7_run v) EvO.opsA)) Ev.codeA))))))
end
end
section
set_option maxRecDepth 1000000
noncomputable section
noncomputable abbrev eR1 := (zcz (speNrm.or (speAdd.or (za1 whp))) [4, 5, 6, 15])
def nbFT0 (v : NbV) : Fr := zd5 Tryz.prog Tryz.f3 [.a [.i v.c1, .u (.l 7 v.c2), .i v.c3, .u (.l 4 v.c4), .i v.c5, .i v.c6, .i v.c7, .i v.c8], .a [.i v.a9, .i v.a10, .i v.a11, .i v.a12, .i v.a13, .i v.a14, .i v.a15, .i v.a16, .i v.a17, .i v.a18, .i v.a19, .i v.a20, .i v.a21, .i v.a22, .i v.a23, .i v.a24, .i v.a25, .i v.a26, .i v.a27, .i v.a28, .i v.a29, .i v.a30, .i v.a31, .i v.a32, .i v.a33, .i v.a34, .i v.a35, .i v.a36, .i v.a37, .i v.a38, .i v.a39, .i v.a40, .i v.a41, .i v.a42, .i v.a43, .i v.a44, .i v.a45, .i v.a46, .i v.a47, .i v.a48, .i v.a49, .i v.a50, .i v.a51, .i v.a52, .u (.l 2 v.a53), .u (.l 2 v.a54), .i v.a55, .i v.a56, .i v.a57, .i v.a58]]
def nbFT1 (v : NbV) : Fr := puF (nbFT0 v) [(2, .r 0 0), (3, .r 1 0), (4, .u (.b false))]
def nbFM2 (v : NbV) : Mem := [.c [.i v.c1, .u (.l 7 v.c2), .i v.c3, .u (.l 4 v.c4), .i v.c5, .i v.c6, .i v.c7, .i v.c8],
 .c [.i v.a9, .i v.a10, .i v.a11, .i v.a12, .i v.a13, .i v.a14, .i v.a15, .i v.a16, .i v.a17, .i v.a18, .i v.a19, .i v.a20, .i v.a21, .i v.a22, .i v.a23, .i v.a24, .i v.a25, .i v.a26, .i v.a27, .i v.a28, .i v.a29, .i v.a30, .i v.a31, .i v.a32, .i v.a33, .i v.a34, .i v.a35, .i v.a36, .i v.a37, .i v.a38, .i v.a39, .i v.a40, .i v.a41, .i v.a42, .i v.a43, .i v.a44, .i v.a45, .i v.a46, .i v.a47, .i v.a48, .i v.a49, .i v.a50, .i v.a51, .i v.a52, .u (.l 2 v.a53), .u (.l 2 v.a54), .i v.a55, .i v.a56, .i v.a57, .i v.a58]]
def znj (v : NbV) : Fr := puF (nbFT1 v) [(16, .a [.i v.c1, .u (.l 7 v.c2), .i v.c3, .u (.l 4 v.c4), .i v.c5, .i v.c6, .i v.c7, .i v.c8])]
def nbFT4 (v : NbV) : Fr := puF (znj v) [(17, .u (.b false)), (18, .u (.b true)), (19, .u (.b true)), (20, .t []), (21, .t [])]
def nbFT5 (v : NbV) : Fr := puF (nbFT4 v) [(22, .t []), (23, .t []), (24, .u (.b true))]
def nbFT7 (v : NbV) : Fr := puF (nbFT5 v) [(4, .u (.b true)), (25, .u (.b true))]
theorem nb_F (v : NbV) (H : NbH v false false 0 true false) : PRun Tryz.prog 3 [] [.a [.i v.c1, .u (.l 7 v.c2), .i v.c3, .u (.l 4 v.c4), .i v.c5, .i v.c6, .i v.c7, .i v.c8], .a [.i v.a9, .i v.a10, .i v.a11, .i v.a12, .i v.a13, .i v.a14, .i v.a15, .i v.a16, .i v.a17, .i v.a18, .i v.a19, .i v.a20, .i v.a21, .i v.a22, .i v.a23, .i v.a24, .i v.a25, .i v.a26, .i v.a27, .i v.a28, .i v.a29, .i v.a30, .i v.a31, .i v.a32, .i v.a33, .i v.a34, .i v.a35, .i v.a36, .i v.a37, .i v.a38, .i v.a39, .i v.a40, .i v.a41, .i v.a42, .i v.a43, .i v.a44, .i v.a45, .i v.a46, .i v.a47, .i v.a48, .i v.a49, .i v.a50, .i v.a51, .i v.a52, .u (.l 2 v.a53), .u (.l 2 v.a54), .i v.a55, .i v.a56, .i v.a57, .i v.a58]] fun x m => x = .u (.b true) ∧ m = [] := Ev.runA eR1 Tryz.func3 (c := (zbr Tryz.f3)) (r := (.ret, (nbFT7 v), (nbFM2 v))) (Ev.piecesA (k := 1) (t1 := nbFT1 v) (m1 := nbFM2 v) (Ev.seqE (by intro h; cases h) (by kernel_rfl) (Ev.seqPA (t1 := nbFT5 v) (m1 := nbFM2 v) (Ev.regA (EvO.callA (t2 := znj v) (m1 := nbFM2 v) (ix := []) (k := 1) (t1 := (znj v)) (args := [.a [.i v.c1, .u (.l 7 v.c2), .i v.c3, .u (.l 4 v.c4), .i v.c5, .i v.c6, .i v.c7, .i v.c8]]) (a := []) (cc := []) H.hF (EvO.not (k := 4) (t1 := (nbFT4 v)) (t2 := (nbFT4 v)) (m1 := (nbFM2 v)) (by kernel_rfl) (by kernel_rfl) (by kernel_rfl) EvO.opsA))) (Ev.condT (by kernel_rfl) (by kernel_rfl) (Ev.seqPA (t1 := nbFT7 v) (m1 := nbFM2 v) (Ev.regA (EvO.callA (t2 := nbFT5 v) (m1 := nbFM2 v) (ix := []) (k := 0) (t1 := (nbFT5 v)) (args := []) (a := []) (cc := []) (zqk v) EvO.opsA)) Ev.codeA)))))
def nbGM2 (v : NbV) : Mem := [.c [.i v.c1, .u (.l 7 v.c2), .i v.c3, .u (.l 4 v.c4), .i v.c5, .i v.c6, .i v.c7, .i v.c8],
 .c [.i v.a9, .i v.a10, .i v.a11, .i v.a12, .i v.a13, .i v.a14, .i v.a15, .i v.a16, .i v.a17, .i v.a18, .i v.a19, .i v.a20, .i v.a21, .i v.a22, .i v.a23, .i v.a24, .i v.a25, .i v.a26, .i v.a27, .i v.a28, .i v.a29, .i v.a30, .i v.a31, .i v.a32, .i v.a33, .i v.a34, .i v.a35, .i v.a36, .i v.a37, .i v.a38, .i v.a39, .i v.a40, .i v.a41, .i v.a42, .i v.a43, .i v.a44, .i v.a45, .i v.a46, .i v.a47, .i v.a48, .i v.a49, .i v.a50, .i v.a51, .i v.a52, .u (.l 2 v.a53), .u (.l 2 v.a54), .i v.a55, .i v.a56, .i v.a57, .i v.a58]]
def zpf (v : NbV) : Fr := puF (znj v) [(17, .u (.b true)), (18, .u (.b false)), (19, .u (.b false)), (20, .a [.i v.a9, .i v.a10, .i v.a11, .i v.a12, .i v.a13, .i v.a14, .i v.a15, .i v.a16, .i v.a17, .i v.a18, .i v.a19, .i v.a20, .i v.a21, .i v.a22, .i v.a23, .i v.a24, .i v.a25, .i v.a26, .i v.a27, .i v.a28, .i v.a29, .i v.a30, .i v.a31, .i v.a32, .i v.a33, .i v.a34, .i v.a35, .i v.a36, .i v.a37, .i v.a38, .i v.a39, .i v.a40, .i v.a41, .i v.a42, .i v.a43, .i v.a44, .i v.a45, .i v.a46, .i v.a47, .i v.a48, .i v.a49, .i v.a50, .i v.a51, .i v.a52, .u (.l 2 v.a53), .u (.l 2 v.a54), .i v.a55, .i v.a56, .i v.a57, .i v.a58]), (21, .w 2)]
def nbGM5 (v : NbV) : Mem := paM (nbGM2 v) [] [.w 42 50 [[.n v.a9, .n v.a10, .n v.a11, .n v.a12, .n v.a13, .n v.a14, .n v.a15, .n v.a16, .n v.a17, .n v.a18, .n v.a19, .n v.a20, .n v.a21, .n v.a22, .n v.a23, .n v.a24, .n v.a25, .n v.a26, .n v.a27, .n v.a28, .n v.a29, .n v.a30, .n v.a31, .n v.a32, .n v.a33, .n v.a34, .n v.a35, .n v.a36, .n v.a37, .n v.a38, .n v.a39, .n v.a40, .n v.a41, .n v.a42, .n v.a43, .n v.a44, .n v.a45, .n v.a46, .n v.a47, .n v.a48, .n v.a49, .n v.a50, .n v.a51, .n v.a52, .l 2 v.a53, .l 2 v.a54, .n v.a55, .n v.a56, .n v.a57, .n v.a58]]]
def nbGT6 (v : NbV) : Fr := puF (zpf v) [(22, .u (.b false)), (23, .u (.b true)), (24, .u (.b true))]
def nbGT8 (v : NbV) : Fr := puF (nbGT6 v) [(4, .u (.b true)), (25, .u (.b true))]
def nbGT9 (v : NbV) : Fr := puF (nbGT6 v) [(4, .u (.b true)), (25, .u (.b true))]
theorem nb_G (v : NbV) (H : NbH v true false 0 true false) : PRun Tryz.prog 3 [] [.a [.i v.c1, .u (.l 7 v.c2), .i v.c3, .u (.l 4 v.c4), .i v.c5, .i v.c6, .i v.c7, .i v.c8], .a [.i v.a9, .i v.a10, .i v.a11, .i v.a12, .i v.a13, .i v.a14, .i v.a15, .i v.a16, .i v.a17, .i v.a18, .i v.a19, .i v.a20, .i v.a21, .i v.a22, .i v.a23, .i v.a24, .i v.a25, .i v.a26, .i v.a27, .i v.a28, .i v.a29, .i v.a30, .i v.a31, .i v.a32, .i v.a33, .i v.a34, .i v.a35, .i v.a36, .i v.a37, .i v.a38, .i v.a39, .i v.a40, .i v.a41, .i v.a42, .i v.a43, .i v.a44, .i v.a45, .i v.a46, .i v.a47, .i v.a48, .i v.a49, .i v.a50, .i v.a51, .i v.a52, .u (.l 2 v.a53), .u (.l 2 v.a54), .i v.a55, .i v.a56, .i v.a57, .i v.a58]] fun x m => x = .u (.b true) ∧ m = [] := Ev.runA eR1 Tryz.func3 (c := (zbr Tryz.f3)) (r := (.ret, (nbGT9 v), (nbGM5 v))) (Ev.piecesA (k := 1) (t1 := nbFT1 v) (m1 := nbGM2 v) (Ev.seqE (by intro h; cases h) (by kernel_rfl) (Ev.seqPA (t1 := nbGT6 v) (m1 := nbGM5 v) (Ev.regA (EvO.callA (t2 := znj v) (m1 := nbGM2 v) (ix := []) (k := 1) (t1 := (znj v)) (args := [.a [.i v.c1, .u (.l 7 v.c2), .i v.c3, .u (.l 4 v.c4), .i v.c5, .i v.c6, .i v.c7, .i v.c8]]) (a := []) (cc := []) H.hF (EvO.callA (t2 := zpf v) (m1 := nbGM5 v) (ix := [2]) (k := 4) (t1 := (zpf v)) (args := [.w 2, .i 1]) (a := []) (cc := []) H.hG EvO.opsA))) (Ev.condT (by kernel_rfl) (by kernel_rfl) (Ev.seqPA (t1 := nbGT8 v) (m1 := nbGM5 v) (Ev.regA (EvO.callA (t2 := nbGT6 v) (m1 := nbGM5 v) (ix := []) (k := 0) (t1 := (nbGT6 v)) (args := []) (a := []) (cc := []) (zqk v) EvO.opsA)) Ev.codeA)))))
noncomputable abbrev eR2 := (zcz (speNrm.or (speAdd.or (za1 whp))) [4, 5, 6, 7, 8, 15, 29])
noncomputable abbrev nbEXev := Ev Tryz.prog eR2 (List.range 600) 300 60 3
noncomputable abbrev zex := EvD Tryz.prog eR2 (List.range 600) 300 60
noncomputable abbrev nbEXevL := EvL Tryz.prog eR2 (List.range 600) 300 60 3
noncomputable abbrev nbEXC1 : Code := zbr Tryz.f3
def nbEXM2 (v : NbV) : Mem := [.c [.i v.c1, .u (.l 7 v.c2), .i v.c3, .u (.l 4 v.c4), .i v.c5, .i v.c6, .i v.c7, .i v.c8],
 .c [.i v.a9, .i v.a10, .i v.a11, .i v.a12, .i v.a13, .i v.a14, .i v.a15, .i v.a16, .i v.a17, .i v.a18, .i v.a19, .i v.a20, .i v.a21, .i v.a22, .i v.a23, .i v.a24, .i v.a25, .i v.a26, .i v.a27, .i v.a28, .i v.a29, .i v.a30, .i v.a31, .i v.a32, .i v.a33, .i v.a34, .i v.a35, .i v.a36, .i v.a37, .i v.a38, .i v.a39, .i v.a40, .i v.a41, .i v.a42, .i v.a43, .i v.a44, .i v.a45, .i v.a46, .i v.a47, .i v.a48, .i v.a49, .i v.a50, .i v.a51, .i v.a52, .u (.l 2 v.a53), .u (.l 2 v.a54), .i v.a55, .i v.a56, .i v.a57, .i v.a58]]
noncomputable abbrev nbEXC2 : Code := zjv 1 nbEXC1
def za8 (v : NbV) : Mem := paM (nbEXM2 v) [] [.w 42 50 [[.n v.a9, .n v.a10, .n v.a11, .n v.a12, .n v.a13, .n v.a14, .n v.a15, .n v.a16, .n v.a17, .n v.a18, .n v.a19, .n v.a20, .n v.a21, .n v.a22, .n v.a23, .n v.a24, .n v.a25, .n v.a26, .n v.a27, .n v.a28, .n v.a29, .n v.a30, .n v.a31, .n v.a32, .n v.a33, .n v.a34, .n v.a35, .n v.a36, .n v.a37, .n v.a38, .n v.a39, .n v.a40, .n v.a41, .n v.a42, .n v.a43, .n v.a44, .n v.a45, .n v.a46, .n v.a47, .n v.a48, .n v.a49, .n v.a50, .n v.a51, .n v.a52, .l 2 v.a53, .l 2 v.a54, .n v.a55, .n v.a56, .n v.a57, .n v.a58]]]
def zcu (v : NbV) : Fr := puF (zpf v) [(22, .u (.b true)), (23, .u (.b false)), (24, .u (.b false))]
theorem nbEXn7 (v : NbV) (H : NbH v true true v.e false false) : nbEXev (cL nbEXC2) (nbFT1 v) (nbEXM2 v) [(.nrm, (zcu v), (za8 v))] := Ev.seqPA (t1 := zcu v) (m1 := za8 v) (Ev.regA (EvO.callA (t2 := znj v) (m1 := nbEXM2 v) (ix := []) (k := 1) (t1 := (znj v)) (args := [.a [.i v.c1, .u (.l 7 v.c2), .i v.c3, .u (.l 4 v.c4), .i v.c5, .i v.c6, .i v.c7, .i v.c8]]) (a := []) (cc := []) H.hF (EvO.callA (t2 := zpf v) (m1 := za8 v) (ix := [2]) (k := 4) (t1 := (zpf v)) (args := [.w 2, .i 1]) (a := []) (cc := []) H.hG EvO.opsA))) (Ev.condF (by kernel_rfl) (by kernel_rfl) Ev.codeA)
def nbEXT8 (v : NbV) : Fr := puF (zcu v) [(27, .a [.i v.c1, .u (.l 7 v.c2), .i v.c3, .u (.l 4 v.c4), .i v.c5, .i v.c6, .i v.c7, .i v.c8])]
def nbEXT9 (v : NbV) : Fr := puF (zcu v) [(5, .u (.p none)), (6, .i v.e), (26, .t [.u (.p none), .i v.e]), (27, .a [.i v.c1, .u (.l 7 v.c2), .i v.c3, .u (.l 4 v.c4), .i v.c5, .i v.c6, .i v.c7, .i v.c8]), (28, .t [.u (.p none), .i v.e]), (29, .u (.p none)), (30, .i v.e)]
noncomputable abbrev nbEXC9 : Code := cR (cR nbEXC2)
noncomputable abbrev zbc : Code := cL (cL nbEXC9)
def nbEXT10 (v : NbV) : Fr := puF (zcu v) [(5, .u (.p none)), (6, .i v.e), (26, .t [.u (.p none), .i v.e]), (27, .a [.i v.c1, .u (.l 7 v.c2), .i v.c3, .u (.l 4 v.c4), .i v.c5, .i v.c6, .i v.c7, .i v.c8]), (28, .t [.u (.p none), .i v.e]), (29, .u (.p none)), (30, .i v.e), (31, .i v.e), (32, .a [.i v.c1, .u (.l 7 v.c2), .i v.c3, .u (.l 4 v.c4), .i v.c5, .i v.c6, .i v.c7, .i v.c8])]
def zpk (v : NbV) : Fr := puF (zcu v) [(5, .u (.p none)), (6, .i v.e), (26, .t [.u (.p none), .i v.e]), (27, .a [.i v.c1, .u (.l 7 v.c2), .i v.c3, .u (.l 4 v.c4), .i v.c5, .i v.c6, .i v.c7, .i v.c8]), (28, .t [.u (.p none), .i v.e]), (29, .u (.p none)), (30, .i v.e), (31, .i v.e), (32, .a [.i v.c1, .u (.l 7 v.c2), .i v.c3, .u (.l 4 v.c4), .i v.c5, .i v.c6, .i v.c7, .i v.c8]), (33, .i v.e)]
def zpj (v : NbV) : Fr := puF (zcu v) [(5, .u (.p none)), (6, .i v.e), (26, .t [.u (.p none), .i v.e]), (27, .a [.i v.c1, .u (.l 7 v.c2), .i v.c3, .u (.l 4 v.c4), .i v.c5, .i v.c6, .i v.c7, .i v.c8]), (28, .t [.u (.p none), .i v.e]), (29, .u (.p none)), (30, .i v.e), (31, .i v.e), (32, .a [.i v.c1, .u (.l 7 v.c2), .i v.c3, .u (.l 4 v.c4), .i v.c5, .i v.c6, .i v.c7, .i v.c8]), (33, .i v.e), (34, .u (.b false)), (35, .u (.b false)), (36, .u (.p none)), (37, .u (.b false)), (38, .i v.e)]
def zpi (v : NbV) : Fr := puF (zcu v) [(5, .u (.p none)), (6, .i v.e), (26, .t [.u (.p none), .i v.e]), (27, .a [.i v.c1, .u (.l 7 v.c2), .i v.c3, .u (.l 4 v.c4), .i v.c5, .i v.c6, .i v.c7, .i v.c8]), (28, .t [.u (.p none), .i v.e]), (29, .u (.p none)), (30, .i v.e), (31, .i v.e), (32, .a [.i v.c1, .u (.l 7 v.c2), .i v.c3, .u (.l 4 v.c4), .i v.c5, .i v.c6, .i v.c7, .i v.c8]), (33, .i v.e), (34, .u (.b false)), (35, .u (.b false)), (36, .u (.p none)), (37, .u (.b false)), (38, .i v.e), (39, .u (.b false)), (40, .u (.b false)), (41, .u (.b false)), (42, .u (.b false)), (43, .i v.e)]
def zdl (v : NbV) : Fr := puF (zcu v) [(5, .u (.p none)), (6, .i v.e), (26, .t [.u (.p none), .i v.e]), (27, .a [.i v.c1, .u (.l 7 v.c2), .i v.c3, .u (.l 4 v.c4), .i v.c5, .i v.c6, .i v.c7, .i v.c8]), (28, .t [.u (.p none), .i v.e]), (29, .u (.p none)), (30, .i v.e), (31, .i v.e), (32, .a [.i v.c1, .u (.l 7 v.c2), .i v.c3, .u (.l 4 v.c4), .i v.c5, .i v.c6, .i v.c7, .i v.c8]), (33, .i v.e), (34, .u (.b false)), (35, .u (.b false)), (36, .u (.p none)), (37, .u (.b false)), (38, .i v.e), (39, .u (.b false)), (40, .u (.b false)), (41, .u (.b false)), (42, .u (.b false)), (43, .i v.e), (44, .u (.b false)), (45, .u (.b false)), (46, .t []), (47, .t []), (48, .t []), (49, .t []), (50, .t []), (51, .t []), (52, .u (.b false)), (53, .u (.b false))]
theorem nbEXn11 (v : NbV) (H : NbH v true true v.e false false) : zex (cOp zbc) (0, [22, 21, 20, 19, 18, 16, 17, 15, 14, 13, 12, 11, 10, 9, 8, 7, 6, 5, 4, 3, 2, 1, 0], [(1, [0])], (zdl v), (za8 v)) [((zdl v), (za8 v))] := EvD.codeA
theorem nbEXn12 (v : NbV) (H : NbH v true true v.e false false) : zex (cOp zbc) (9, [13, 12, 11, 10, 9, 8, 7, 6, 5, 4, 3, 2, 1, 0], cond (zcs (zb6 (cOp zbc) 13)) [(1, [0])] ((13, srcF (zpi v) (zb6 (cOp zbc) 13)) :: [(1, [0])]), (zfx (zb6 (cOp zbc) 13).dst).p (zpi v) (.u (.b false)), (za8 v)) [((zdl v), (za8 v))] := EvD.stepsA (j := 9) (nbEXn11 v H)
theorem nbEXn13 (v : NbV) (H : NbH v true true v.e false false) : zex (cOp zbc) (10, [12, 11, 10, 9, 8, 7, 6, 5, 4, 3, 2, 1, 0], [(1, [0])], (zpi v), (za8 v)) [((zdl v), (za8 v))] := EvD.op (t2 := (zpi v)) (v := .u (.b false)) 13 (by kernel_rfl) (by kernel_rfl) (by kernel_rfl) (symE1 (b := eqF v.e 0) (by kernel_rfl) H.he) (nbEXn12 v H)
theorem nbEXn14 (v : NbV) (H : NbH v true true v.e false false) : zex (cOp zbc) (14, [8, 7, 6, 5, 4, 3, 2, 1, 0], cond (zcs (zb6 (cOp zbc) 8)) [(1, [0])] ((8, srcF (zpj v) (zb6 (cOp zbc) 8)) :: [(1, [0])]), (zfx (zb6 (cOp zbc) 8).dst).p (zpj v) (.u (.b false)), (za8 v)) [((zdl v), (za8 v))] := EvD.stepsA (j := 4) (nbEXn13 v H)
theorem nbEXn15 (v : NbV) (H : NbH v true true v.e false false) : zex (cOp zbc) (15, [7, 6, 5, 4, 3, 2, 1, 0], [(1, [0])], (zpj v), (za8 v)) [((zdl v), (za8 v))] := EvD.op (t2 := (zpj v)) (v := .u (.b false)) 8 (by kernel_rfl) (by kernel_rfl) (by kernel_rfl) (symE1 (b := eqF v.e 0) (by kernel_rfl) H.he) (nbEXn14 v H)
theorem nbEXn16 (v : NbV) (H : NbH v true true v.e false false) : zex (cOp zbc) (19, [3, 2, 1, 0], cond (zcs (zb6 (cOp zbc) 3)) [(1, [0])] ((3, srcF (zpk v) (zb6 (cOp zbc) 3)) :: [(1, [0])]), (zfx (zb6 (cOp zbc) 3).dst).p (zpk v) (.u (.b false)), (za8 v)) [((zdl v), (za8 v))] := EvD.stepsA (j := 4) (nbEXn15 v H)
theorem nbEXn17 (v : NbV) (H : NbH v true true v.e false false) : zex (cOp zbc) (20, [2, 1, 0], [(1, [0])], (zpk v), (za8 v)) [((zdl v), (za8 v))] := EvD.op (t2 := (zpk v)) (v := .u (.b false)) 3 (by kernel_rfl) (by kernel_rfl) (by kernel_rfl) (symN1 (b := eqF v.e v.e) (by kernel_rfl) (eqF_self _) rfl) (nbEXn16 v H)
theorem nbEXn18 (v : NbV) (H : NbH v true true v.e false false) : zex (cOp zbc) (20, [2, 1, 0], [(1, [0])], (zfx (zb6 (cOp zbc) 2).dst).p (nbEXT10 v) (zch (fK [] ((za8 v)).length) (.i v.e)), znq (za8 v) [] ([])) [((zdl v), (za8 v))] := EvD.stepsA (j := 0) (nbEXn17 v H)
theorem nbEXn19 (v : NbV) (H : NbH v true true v.e false false) : zex (cOp zbc) (21, [1, 0], [(1, [0])], (nbEXT10 v), (za8 v)) [((zdl v), (za8 v))] := EvD.oneA 2 (EvE.callA (args := [.a [.i v.c1, .u (.l 7 v.c2), .i v.c3, .u (.l 4 v.c4), .i v.c5, .i v.c6, .i v.c7, .i v.c8]]) (a := []) (cc := []) 2 H.hK (nbEXn18 v H))
def nbEXT18 (v : NbV) : Fr := puF (zcu v) [(5, .u (.p none)), (6, .i v.e), (26, .t [.u (.p none), .i v.e]), (27, .a [.i v.c1, .u (.l 7 v.c2), .i v.c3, .u (.l 4 v.c4), .i v.c5, .i v.c6, .i v.c7, .i v.c8]), (28, .t [.u (.p none), .i v.e]), (29, .u (.p none)), (30, .i v.e), (31, .i v.e), (32, .a [.i v.c1, .u (.l 7 v.c2), .i v.c3, .u (.l 4 v.c4), .i v.c5, .i v.c6, .i v.c7, .i v.c8]), (33, .i v.e), (34, .u (.b false)), (35, .u (.b false)), (36, .u (.p none)), (37, .u (.b false)), (38, .i v.e), (39, .u (.b false)), (40, .u (.b false)), (41, .u (.b false)), (42, .u (.b false)), (43, .i v.e), (44, .u (.b false)), (45, .u (.b false)), (46, .t []), (47, .t []), (48, .t []), (49, .t []), (50, .t []), (51, .t []), (52, .u (.b false)), (53, .u (.b false))]
def nbEXT19 (v : NbV) : Fr := puF (zcu v) [(5, .u (.p none)), (6, .i v.e), (26, .t [.u (.p none), .i v.e]), (27, .a [.i v.c1, .u (.l 7 v.c2), .i v.c3, .u (.l 4 v.c4), .i v.c5, .i v.c6, .i v.c7, .i v.c8]), (28, .t [.u (.p none), .i v.e]), (29, .u (.p none)), (30, .i v.e), (31, .i v.e), (32, .a [.i v.c1, .u (.l 7 v.c2), .i v.c3, .u (.l 4 v.c4), .i v.c5, .i v.c6, .i v.c7, .i v.c8]), (33, .i v.e), (34, .u (.b false)), (35, .u (.b false)), (36, .u (.p none)), (37, .u (.b false)), (38, .i v.e), (39, .u (.b false)), (40, .u (.b false)), (41, .u (.b false)), (42, .u (.b false)), (43, .i v.e), (44, .u (.b false)), (45, .u (.b false)), (46, .t []), (47, .t []), (48, .t []), (49, .t []), (50, .t []), (51, .t []), (52, .u (.b false)), (53, .u (.b false))]
def nbEXT20 (v : NbV) : Fr := puF (zcu v) [(5, .u (.p none)), (6, .i v.e), (7, .sl 4 0 2), (26, .t [.u (.p none), .i v.e]), (27, .a [.i v.c1, .u (.l 7 v.c2), .i v.c3, .u (.l 4 v.c4), .i v.c5, .i v.c6, .i v.c7, .i v.c8]), (28, .t [.u (.p none), .i v.e]), (29, .u (.p none)), (30, .i v.e), (31, .i v.e), (32, .a [.i v.c1, .u (.l 7 v.c2), .i v.c3, .u (.l 4 v.c4), .i v.c5, .i v.c6, .i v.c7, .i v.c8]), (33, .i v.e), (34, .u (.b false)), (35, .u (.b false)), (36, .u (.p none)), (37, .u (.b false)), (38, .i v.e), (39, .u (.b false)), (40, .u (.b false)), (41, .u (.b false)), (42, .u (.b false)), (43, .i v.e), (44, .u (.b false)), (45, .u (.b false)), (46, .t []), (47, .t []), (48, .t []), (49, .t []), (50, .t []), (51, .t []), (52, .u (.b false)), (53, .u (.b false)), (54, .a [.u (.p none), .u (.p none), .u (.p none), .u (.p none), .u (.p none), .u (.p none), .u (.p none), .i 0, .nl 2, .nl 2, .nl 2, .i 0, .nl 7, .i 0, .nl 4, .i 0, .i 0, .i 0, .i 0, .i 0]), (55, .r 3 0), (56, .sl 4 0 2)]
def za5 (v : NbV) : Mem := paM (za8 v) [] [.c [.u (.p none), .u (.p none), .u (.p none), .u (.p none), .u (.p none), .u (.p none), .u (.p none), .i 0, .nl 2, .nl 2, .nl 2, .i 0, .nl 7, .i 0, .nl 4, .i 0, .i 0, .i 0, .i 0, .i 0],
 .c [.u (.p none), .r 3 0]]
def zb4 (v : NbV) : Fr := puF (zpf v) [(5, .u (.p none)), (6, .i v.e), (7, .sl 4 0 2), (8, .i 0), (22, .u (.b true)), (23, .u (.b false)), (24, .u (.b false)), (26, .t [.u (.p none), .i v.e]), (27, .a [.i v.c1, .u (.l 7 v.c2), .i v.c3, .u (.l 4 v.c4), .i v.c5, .i v.c6, .i v.c7, .i v.c8]), (28, .t [.u (.p none), .i v.e]), (29, .u (.p none)), (30, .i v.e), (31, .i v.e), (32, .a [.i v.c1, .u (.l 7 v.c2), .i v.c3, .u (.l 4 v.c4), .i v.c5, .i v.c6, .i v.c7, .i v.c8]), (33, .i v.e), (34, .u (.b false)), (35, .u (.b false)), (36, .u (.p none)), (37, .u (.b false)), (38, .i v.e), (39, .u (.b false)), (40, .u (.b false)), (41, .u (.b false)), (42, .u (.b false)), (43, .i v.e), (44, .u (.b false)), (45, .u (.b false)), (46, .t []), (47, .t []), (48, .t []), (49, .t []), (50, .t []), (51, .t []), (52, .u (.b false)), (53, .u (.b false)), (54, .a [.u (.p none), .u (.p none), .u (.p none), .u (.p none), .u (.p none), .u (.p none), .u (.p none), .i 0, .nl 2, .nl 2, .nl 2, .i 0, .nl 7, .i 0, .nl 4, .i 0, .i 0, .i 0, .i 0, .i 0]), (55, .r 3 0), (56, .sl 4 0 2)]
noncomputable abbrev zit : Code := cLp (cBd (zjv 1 (cL (zjv 1 (cR nbEXC9)))))
def nbEXT23 (v : NbV) : Fr := puF (zb4 v) [(57, .i 0), (58, .sl 4 0 2), (59, .i 2), (60, .u (.b true))]
def nbEXT24 (v : NbV) : Fr := puF (zb4 v) [(9, .u (.p none)), (10, .i 0), (11, .i 1), (12, .i 0), (13, .i 1), (14, .i 0), (15, .i 1), (57, .i 0), (58, .sl 4 0 2), (59, .i 2), (60, .u (.b true)), (63, .sl 4 0 2), (64, .i 0), (65, .r 4 0), (66, .u (.p none)), (67, .t [.i 0, .i 1]), (68, .u (.p none)), (69, .r 1 2), (70, .i v.a11), (71, .t [.i 0, .i 1]), (72, .i 0), (73, .i 1), (74, .t [.i 0, .i 1]), (75, .u (.p none)), (76, .r 1 7), (77, .a [.i v.a16, .i v.a17, .i v.a18, .i v.a19, .i v.a20, .i v.a21, .i v.a22, .i v.a23, .i v.a24]), (78, .t [.i 0, .i 1]), (79, .i 0), (80, .i 1), (81, .t [.i 0, .i 1]), (82, .u (.p none)), (83, .r 1 1), (84, .i v.a10), (85, .t [.i 0, .i 1]), (86, .i 0), (87, .i 1)]
def zl0 (v : NbV) : Mem := paM (za5 v) [] [.c [.i v.a16, .i v.a17, .i v.a18, .i v.a19, .i v.a20, .i v.a21, .i v.a22, .i v.a23, .i v.a24]]
def nbEXT26 (v : NbV) : Fr := puF (zb4 v) [(9, .u (.p none)), (10, .i 0), (11, .i 1), (12, .i 0), (13, .i 1), (14, .i 0), (15, .i 1), (57, .i 0), (58, .sl 4 0 2), (59, .i 2), (60, .u (.b true)), (63, .sl 4 0 2), (64, .i 0), (65, .r 4 0), (66, .u (.p none)), (67, .t [.i 0, .i 1]), (68, .u (.p none)), (69, .r 1 2), (70, .i v.a11), (71, .t [.i 0, .i 1]), (72, .i 0), (73, .i 1), (74, .t [.i 0, .i 1]), (75, .u (.p none)), (76, .r 1 7), (77, .a [.i v.a16, .i v.a17, .i v.a18, .i v.a19, .i v.a20, .i v.a21, .i v.a22, .i v.a23, .i v.a24]), (78, .t [.i 0, .i 1]), (79, .i 0), (80, .i 1), (81, .t [.i 0, .i 1]), (82, .u (.p none)), (83, .r 1 1), (84, .i v.a10), (85, .t [.i 0, .i 1]), (86, .i 0), (87, .i 1), (88, .i 1), (89, .u (.b false)), (90, .u (.b false)), (91, .i 1), (92, .u (.b false)), (93, .u (.b false)), (94, .u (.b false)), (95, .i 1), (96, .u (.b false)), (97, .u (.b false)), (98, .u (.b false)), (99, .u (.p none)), (100, .r 1 1), (101, .i v.a10), (102, .r 1 2), (103, .i v.a11)]
def zph (v : NbV) : Fr := Fr.mk [.a [.i v.c1, .u (.l 7 v.c2), .i v.c3, .u (.l 4 v.c4), .i v.c5, .i v.c6, .i v.c7, .i v.c8], .a [.i v.a9, .i v.a10, .i v.a11, .i v.a12, .i v.a13, .i v.a14, .i v.a15, .i v.a16, .i v.a17, .i v.a18, .i v.a19, .i v.a20, .i v.a21, .i v.a22, .i v.a23, .i v.a24, .i v.a25, .i v.a26, .i v.a27, .i v.a28, .i v.a29, .i v.a30, .i v.a31, .i v.a32, .i v.a33, .i v.a34, .i v.a35, .i v.a36, .i v.a37, .i v.a38, .i v.a39, .i v.a40, .i v.a41, .i v.a42, .i v.a43, .i v.a44, .i v.a45, .i v.a46, .i v.a47, .i v.a48, .i v.a49, .i v.a50, .i v.a51, .i v.a52, .u (.l 2 v.a53), .u (.l 2 v.a54), .i v.a55, .i v.a56, .i v.a57, .i v.a58], .r 0 0, .r 1 0, .u (.b false), .u (.p none), .i v.e, .sl 4 0 2, .i 0, .u (.p none), .i 0, .i 1, .i 0, .i 1, .i 0, .i 1, .a [.i v.c1, .u (.l 7 v.c2), .i v.c3, .u (.l 4 v.c4), .i v.c5, .i v.c6, .i v.c7, .i v.c8], .u (.b true), .u (.b false), .u (.b false), .a [.i v.a9, .i v.a10, .i v.a11, .i v.a12, .i v.a13, .i v.a14, .i v.a15, .i v.a16, .i v.a17, .i v.a18, .i v.a19, .i v.a20, .i v.a21, .i v.a22, .i v.a23, .i v.a24, .i v.a25, .i v.a26, .i v.a27, .i v.a28, .i v.a29, .i v.a30, .i v.a31, .i v.a32, .i v.a33, .i v.a34, .i v.a35, .i v.a36, .i v.a37, .i v.a38, .i v.a39, .i v.a40, .i v.a41, .i v.a42, .i v.a43, .i v.a44, .i v.a45, .i v.a46, .i v.a47, .i v.a48, .i v.a49, .i v.a50, .i v.a51, .i v.a52, .u (.l 2 v.a53), .u (.l 2 v.a54), .i v.a55, .i v.a56, .i v.a57, .i v.a58], .w 2, .u (.b true), .u (.b false), .u (.b false), .z, .t [.u (.p none), .i v.e], .a [.i v.c1, .u (.l 7 v.c2), .i v.c3, .u (.l 4 v.c4), .i v.c5, .i v.c6, .i v.c7, .i v.c8], .t [.u (.p none), .i v.e], .u (.p none), .i v.e, .i v.e, .a [.i v.c1, .u (.l 7 v.c2), .i v.c3, .u (.l 4 v.c4), .i v.c5, .i v.c6, .i v.c7, .i v.c8], .i v.e, .u (.b false), .u (.b false), .u (.p none), .u (.b false), .i v.e, .u (.b false), .u (.b false), .u (.b false), .u (.b false), .i v.e, .u (.b false), .u (.b false), .t [], .t [], .t [], .t [], .t [], .t [], .u (.b false), .u (.b false), .a [.u (.p none), .u (.p none), .u (.p none), .u (.p none), .u (.p none), .u (.p none), .u (.p none), .i 0, .nl 2, .nl 2, .nl 2, .i 0, .nl 7, .i 0, .nl 4, .i 0, .i 0, .i 0, .i 0, .i 0], .r 3 0, .sl 4 0 2, .i 0, .sl 4 0 2, .i 2, .u (.b true), .z, .z, .sl 4 0 2, .i 0, .r 4 0, .u (.p none), .t [.i 0, .i 1], .u (.p none), .r 1 2, .i v.a11, .t [.i 0, .i 1], .i 0, .i 1, .t [.i 0, .i 1], .u (.p none), .r 1 7, .a [.i v.a16, .i v.a17, .i v.a18, .i v.a19, .i v.a20, .i v.a21, .i v.a22, .i v.a23, .i v.a24], .t [.i 0, .i 1], .i 0, .i 1, .t [.i 0, .i 1], .u (.p none), .r 1 1, .i v.a10, .t [.i 0, .i 1], .i 0, .i 1, .i 1, .u (.b false), .u (.b false), .i 1, .u (.b false), .u (.b false), .u (.b false), .i 1, .u (.b false), .u (.b false), .u (.b false), .u (.p none), .r 1 1, .i v.a10, .r 1 2, .i v.a11, .i 1, .u (.b false), .u (.b false), .u (.b false), .u (.p none), .r 1 3, .a [.i v.a12, .i v.a13, .i v.a14, .i v.a15], .r 1 2, .i v.a11, .i 1, .u (.b false), .u (.b false), .u (.b false), .u (.p none), .r 1 1, .i v.a10, .i 1, .u (.b false), .u (.b false), .u (.b false), .u (.p none), .i 0, .u (.b false), .u (.b false), .u (.b false), .u (.p none), .r 1 1, .i v.a10, .u (.b false), .u (.b false), .u (.b false), .u (.p none), .u (.p none), .u (.b false), .u (.b false), .u (.b false), .u (.p none), .u (.p none), .u (.b false), .u (.b false), .u (.b false), .u (.p none), .u (.p none), .u (.b false), .u (.b false), .u (.b false), .u (.p none), .u (.p none), .u (.b false), .u (.b false), .u (.b false), .u (.p none), .u (.p none), .u (.b false), .u (.b false), .u (.b false), .u (.p none), .u (.p none), .u (.b false), .u (.b false), .u (.b false), .u (.p none), .a [.i 0, .i 0, .nl 2, .nl 2, .nl 2, .nl 2, .nl 5, .nl 9, .i 0, .nl 2, .nl 16, .nl 19, .nl 2, .nl 3, .i 0, .nl 4], .a [.i 0, .i 0, .nl 2, .nl 2, .nl 2, .nl 2, .nl 5, .nl 9, .i 0, .nl 2, .nl 16, .nl 19, .nl 2, .nl 3, .i 0, .nl 4], .u (.s ⟨#[]⟩), .u (.b false), .u (.b false)] 1 172
def zis (v : NbV) : Mem := paM (zl0 v) [] [.c [.i v.a12, .i v.a13, .i v.a14, .i v.a15],
 .c [.i 0, .i 0, .nl 2, .nl 2, .nl 2, .nl 2, .nl 5, .nl 9, .i 0, .nl 2, .nl 16, .nl 19, .nl 2, .nl 3, .i 0, .nl 4]]
def zlz (v : NbV) : Fr := puF (zph v) [(8, .i 1), (61, .i 0), (62, .i 1)]
theorem nbEXn33 (v : NbV) (H : NbH v true true v.e false false) : nbEXev zit (zb4 v) (za5 v) [(.nrm, (zlz v), (zis v))] := Ev.piecesA (k := 1) (t1 := nbEXT23 v) (m1 := za5 v) (Ev.seqPA (t1 := zph v) (m1 := zis v) (Ev.blockP (e := .nrm) (by kernel_rfl) (by kernel_rfl) (Ev.piecesA (k := 4) (t1 := nbEXT24 v) (m1 := zl0 v) (Ev.seqPA (t1 := zph v) (m1 := zis v) (Ev.regA (EvO.callA (t2 := nbEXT26 v) (m1 := zl0 v) (ix := []) (k := 16) (t1 := (nbEXT26 v)) (args := [.u (.p none), .i v.a10, .i v.a11]) (a := []) (cc := []) (S15N (owner := v.a10) (n := v.a11) (Q := fun x m => x = .i 1 ∧ m = []) ⟨rfl, rfl⟩) EvO.opsA)) Ev.codeA))) Ev.codeA)
def nbEXT31 (v : NbV) : Fr := puF (zlz v) [(57, .i 1)]
def nbEXT32 (v : NbV) : Fr := puF (nbEXT31 v) [(9, .r 3 0), (64, .i 1), (65, .r 4 1), (66, .r 3 0), (68, .r 3 0), (75, .r 3 0), (82, .r 3 0)]
def nbEXT33 (v : NbV) : Fr := puF (nbEXT32 v) [(99, .r 3 0)]
def zgy (v : NbV) : Fr := puF (nbEXT33 v) [(108, .r 3 0), (117, .r 3 0), (124, .r 3 0), (129, .r 3 0), (135, .r 3 0), (140, .r 3 0), (145, .r 3 0), (150, .r 3 0), (155, .r 3 0), (160, .r 3 0), (165, .r 3 0)]
def zpg (v : NbV) : Fr := puF (zgy v) [(8, .i 2), (61, .i 1), (62, .i 2)]
theorem nbEXn43 (v : NbV) (H : NbH v true true v.e false false) : nbEXev zit (zlz v) (za5 v) [(.nrm, (zpg v), (zis v))] := Ev.piecesA (k := 1) (t1 := nbEXT31 v) (m1 := za5 v) (Ev.seqPA (t1 := zgy v) (m1 := zis v) (Ev.blockP (e := .nrm) (by kernel_rfl) (by kernel_rfl) (Ev.piecesA (k := 4) (t1 := nbEXT32 v) (m1 := zl0 v) (Ev.seqPA (t1 := zgy v) (m1 := zis v) (Ev.regA (EvO.callA (t2 := nbEXT33 v) (m1 := zl0 v) (ix := [3]) (k := 16) (t1 := (nbEXT33 v)) (args := [.r 3 0, .i v.a10, .i v.a11]) (a := []) (cc := []) (S15Z (owner := v.a10) (n := v.a11) (Q := fun x m => x = .i 1 ∧ m = [.c [.u (.p none), .u (.p none), .u (.p none), .u (.p none), .u (.p none), .u (.p none), .u (.p none), .i 0, .nl 2, .nl 2, .nl 2, .i 0, .nl 7, .i 0, .nl 4, .i 0, .i 0, .i 0, .i 0, .i 0]]) ⟨rfl, rfl⟩) EvO.opsA)) Ev.codeA))) Ev.codeA)
def zly (v : NbV) : Fr := puF (zgy v) [(8, .i 2), (57, .i 2), (60, .u (.b false)), (61, .i 1), (62, .i 2)]
theorem nbEXn45 (v : NbV) (H : NbH v true true v.e false false) : nbEXev zit (zpg v) (za5 v) [((.ext 0), (zly v), (za5 v))] := Ev.seqE (by intro h; cases h) (by kernel_rfl) Ev.codeA
theorem nbEXn46 (v : NbV) (H : NbH v true true v.e false false) : nbEXevL 5 zit 298 (zpg v) (za5 v) [((.ext 0), (zly v), (za5 v))] := EvL.last (by intro h; cases h) (nbEXn45 v H)
theorem nbEXn47 (v : NbV) (H : NbH v true true v.e false false) : nbEXevL 5 zit 299 (zlz v) (za5 v) [((.ext 0), (zly v), (za5 v))] := EvL.round (t2 := (zpg v)) (m2 := (za5 v)) (nbEXn43 v H) (by kernel_rfl) (nbEXn46 v H)
theorem nbEXn48 (v : NbV) (H : NbH v true true v.e false false) : nbEXevL 5 zit 300 (zb4 v) (za5 v) [((.ext 0), (zly v), (za5 v))] := EvL.round (t2 := (zlz v)) (m2 := (za5 v)) (nbEXn33 v H) (by kernel_rfl) (nbEXn47 v H)
def nbEXT38 (v : NbV) : Fr := puF (zgy v) [(8, .i 2), (57, .i 2), (60, .u (.b false)), (61, .i 1), (62, .i 2)]
def nbEXT39 (v : NbV) : Fr := puF (zgy v) [(4, .u (.b true)), (8, .i 2), (57, .i 2), (60, .u (.b false)), (61, .i 1), (62, .i 2), (171, .u (.b true))]
def nbEXT40 (v : NbV) : Fr := puF (zgy v) [(4, .u (.b true)), (8, .i 2), (57, .i 2), (60, .u (.b false)), (61, .i 1), (62, .i 2), (171, .u (.b true))]
theorem nb_EX (v : NbV) (H : NbH v true true v.e false false) : PRun Tryz.prog 3 [] [.a [.i v.c1, .u (.l 7 v.c2), .i v.c3, .u (.l 4 v.c4), .i v.c5, .i v.c6, .i v.c7, .i v.c8], .a [.i v.a9, .i v.a10, .i v.a11, .i v.a12, .i v.a13, .i v.a14, .i v.a15, .i v.a16, .i v.a17, .i v.a18, .i v.a19, .i v.a20, .i v.a21, .i v.a22, .i v.a23, .i v.a24, .i v.a25, .i v.a26, .i v.a27, .i v.a28, .i v.a29, .i v.a30, .i v.a31, .i v.a32, .i v.a33, .i v.a34, .i v.a35, .i v.a36, .i v.a37, .i v.a38, .i v.a39, .i v.a40, .i v.a41, .i v.a42, .i v.a43, .i v.a44, .i v.a45, .i v.a46, .i v.a47, .i v.a48, .i v.a49, .i v.a50, .i v.a51, .i v.a52, .u (.l 2 v.a53), .u (.l 2 v.a54), .i v.a55, .i v.a56, .i v.a57, .i v.a58]] fun x m => x = .u (.b true) ∧ m = [] := Ev.runA eR2 Tryz.func3 (c := nbEXC1) (r := (.ret, (nbEXT40 v), (za5 v))) (Ev.piecesA (k := 1) (t1 := nbFT1 v) (m1 := nbEXM2 v) (Ev.seqPA (nbEXn7 v H) (Ev.seqPA (t1 := nbEXT9 v) (m1 := za8 v) (Ev.regA (EvO.callA (t2 := nbEXT8 v) (m1 := za8 v) (ix := []) (k := 1) (t1 := (nbEXT8 v)) (args := [.a [.i v.c1, .u (.l 7 v.c2), .i v.c3, .u (.l 4 v.c4), .i v.c5, .i v.c6, .i v.c7, .i v.c8]]) (a := []) (cc := []) H.hX EvO.opsA)) (Ev.seqPA (t1 := nbEXT19 v) (m1 := za8 v) (Ev.seqPA (t1 := nbEXT18 v) (m1 := za8 v) (Ev.regD2 (outs := [((zdl v), (za8 v))]) (by kernel_rfl) (by kernel_rfl) (by kernel_rfl) (EvD.stepsA (j := 2) (nbEXn19 v H)) ⟨by kernel_rfl, trivial⟩) Ev.codeA) (Ev.piecesA (k := 1) (t1 := nbEXT20 v) (m1 := za5 v) (Ev.seqPA (t1 := zly v) (m1 := za5 v) (Ev.piecesA (k := 1) (t1 := zb4 v) (m1 := za5 v) (Ev.blockP (e := .ext 0) (by kernel_rfl) (by kernel_rfl) (Ev.loopP (n0 := 5) (by kernel_rfl) (by kernel_rfl) (nbEXn48 v H)))) (Ev.seqPA (t1 := nbEXT39 v) (m1 := za5 v) (Ev.regA (EvO.callA (t2 := nbEXT38 v) (m1 := za5 v) (ix := []) (k := 0) (t1 := (nbEXT38 v)) (args := []) (a := []) (cc := []) (zqk v) EvO.opsA)) Ev.codeA)))))))
end
end
section
set_option maxRecDepth 1000000
noncomputable section
noncomputable abbrev eR3 := (zcz (speNrm.or (speAdd.or (za1 whp))) [4, 5, 6, 7, 8, 9, 10, 11, 15, 29])
noncomputable abbrev nbE0ev := Ev Tryz.prog eR3 (List.range 600) 300 60 3
noncomputable abbrev zey := EvD Tryz.prog eR3 (List.range 600) 300 60
noncomputable abbrev nbE0evL := EvL Tryz.prog eR3 (List.range 600) 300 60 3
noncomputable abbrev nbE0C1 : Code := zbr Tryz.f3
def nbE0M2 (v : NbV) : Mem := [.c [.i v.c1, .u (.l 7 v.c2), .i v.c3, .u (.l 4 v.c4), .i v.c5, .i v.c6, .i v.c7, .i v.c8],
 .c [.i v.a9, .i v.a10, .i v.a11, .i v.a12, .i v.a13, .i v.a14, .i v.a15, .i v.a16, .i v.a17, .i v.a18, .i v.a19, .i v.a20, .i v.a21, .i v.a22, .i v.a23, .i v.a24, .i v.a25, .i v.a26, .i v.a27, .i v.a28, .i v.a29, .i v.a30, .i v.a31, .i v.a32, .i v.a33, .i v.a34, .i v.a35, .i v.a36, .i v.a37, .i v.a38, .i v.a39, .i v.a40, .i v.a41, .i v.a42, .i v.a43, .i v.a44, .i v.a45, .i v.a46, .i v.a47, .i v.a48, .i v.a49, .i v.a50, .i v.a51, .i v.a52, .u (.l 2 v.a53), .u (.l 2 v.a54), .i v.a55, .i v.a56, .i v.a57, .i v.a58]]
noncomputable abbrev nbE0C2 : Code := zjv 1 nbE0C1
def zoa (v : NbV) : Mem := paM (nbE0M2 v) [] [.w 42 50 [[.n v.a9, .n v.a10, .n v.a11, .n v.a12, .n v.a13, .n v.a14, .n v.a15, .n v.a16, .n v.a17, .n v.a18, .n v.a19, .n v.a20, .n v.a21, .n v.a22, .n v.a23, .n v.a24, .n v.a25, .n v.a26, .n v.a27, .n v.a28, .n v.a29, .n v.a30, .n v.a31, .n v.a32, .n v.a33, .n v.a34, .n v.a35, .n v.a36, .n v.a37, .n v.a38, .n v.a39, .n v.a40, .n v.a41, .n v.a42, .n v.a43, .n v.a44, .n v.a45, .n v.a46, .n v.a47, .n v.a48, .n v.a49, .n v.a50, .n v.a51, .n v.a52, .l 2 v.a53, .l 2 v.a54, .n v.a55, .n v.a56, .n v.a57, .n v.a58]]]
theorem nbE0n7 (v : NbV) (H : NbH v true true 0 true false) : nbE0ev (cL nbE0C2) (nbFT1 v) (nbE0M2 v) [(.nrm, (zcu v), (zoa v))] := Ev.seqPA (t1 := zcu v) (m1 := zoa v) (Ev.regA (EvO.callA (t2 := znj v) (m1 := nbE0M2 v) (ix := []) (k := 1) (t1 := (znj v)) (args := [.a [.i v.c1, .u (.l 7 v.c2), .i v.c3, .u (.l 4 v.c4), .i v.c5, .i v.c6, .i v.c7, .i v.c8]]) (a := []) (cc := []) H.hF (EvO.callA (t2 := zpf v) (m1 := zoa v) (ix := [2]) (k := 4) (t1 := (zpf v)) (args := [.w 2, .i 1]) (a := []) (cc := []) H.hG EvO.opsA))) (Ev.condF (by kernel_rfl) (by kernel_rfl) Ev.codeA)
def nbE0T8 (v : NbV) : Fr := puF (zcu v) [(27, .a [.i v.c1, .u (.l 7 v.c2), .i v.c3, .u (.l 4 v.c4), .i v.c5, .i v.c6, .i v.c7, .i v.c8])]
def nbE0T9 (v : NbV) : Fr := puF (zcu v) [(5, .r 3 0), (6, .i 0), (26, .t [.r 3 0, .i 0]), (27, .a [.i v.c1, .u (.l 7 v.c2), .i v.c3, .u (.l 4 v.c4), .i v.c5, .i v.c6, .i v.c7, .i v.c8]), (28, .t [.r 3 0, .i 0]), (29, .r 3 0), (30, .i 0)]
def zgz (v : NbV) : Mem := paM (zoa v) [] [.o v.W]
noncomputable abbrev nbE0C9 : Code := cR (cR nbE0C2)
noncomputable abbrev zco : Code := cL (cL nbE0C9)
def nbE0T11 (v : NbV) : Fr := puF (zcu v) [(5, .r 3 0), (6, .i 0), (26, .t [.r 3 0, .i 0]), (27, .a [.i v.c1, .u (.l 7 v.c2), .i v.c3, .u (.l 4 v.c4), .i v.c5, .i v.c6, .i v.c7, .i v.c8]), (28, .t [.r 3 0, .i 0]), (29, .r 3 0), (30, .i 0), (31, .i 0), (32, .a [.i v.c1, .u (.l 7 v.c2), .i v.c3, .u (.l 4 v.c4), .i v.c5, .i v.c6, .i v.c7, .i v.c8])]
def nbE0T17 (v : NbV) : Fr := puF (zb4 v) [(5, .r 3 0), (6, .i 0), (7, .z), (8, .z), (26, .t [.r 3 0, .i 0]), (28, .t [.r 3 0, .i 0]), (29, .r 3 0), (30, .i 0), (31, .i 0), (33, .i 0), (36, .r 3 0), (37, .u (.b true)), (38, .i 0), (39, .u (.b true)), (43, .i 0), (44, .u (.b true)), (45, .u (.b true)), (46, .r 3 0), (47, .z), (48, .a [.i v.c1, .u (.l 7 v.c2), .i v.c3, .u (.l 4 v.c4), .i v.c5, .i v.c6, .i v.c7, .i v.c8]), (49, .z), (50, .z), (51, .z), (52, .z), (53, .z), (54, .z), (55, .z), (56, .z)]
def nbE0T18 (v : NbV) : Fr := puF (zb4 v) [(5, .r 3 0), (6, .i 0), (7, .z), (8, .z), (26, .t [.r 3 0, .i 0]), (28, .t [.r 3 0, .i 0]), (29, .r 3 0), (30, .i 0), (31, .i 0), (33, .i 0), (36, .r 3 0), (37, .u (.b true)), (38, .i 0), (39, .u (.b true)), (43, .i 0), (44, .u (.b true)), (45, .u (.b true)), (46, .r 3 0), (47, .a [.i 0, .i 0, .u (.l 2 []), .u (.l 2 []), .u (.l 2 []), .u (.l 2 v.accs), .u (.l 5 []), .u (.l 9 []), .i 1, .u (.l 2 v.lns), .u (.l 16 []), .u (.l 19 []), .u (.l 2 []), .u (.l 3 []), .i 1, .u (.l 4 [])]), (48, .a [.i v.c1, .u (.l 7 v.c2), .i v.c3, .u (.l 4 v.c4), .i v.c5, .i v.c6, .i v.c7, .i v.c8]), (49, .z), (50, .z), (51, .z), (52, .z), (53, .z), (54, .z), (55, .z), (56, .z)]
def zba (v : NbV) : Mem := paM (zoa v) [] [.o v.W2]
def nbE0T20 (v : NbV) : Fr := puF (zb4 v) [(5, .r 3 0), (6, .i 0), (7, .z), (8, .z), (26, .t [.r 3 0, .i 0]), (28, .t [.r 3 0, .i 0]), (29, .r 3 0), (30, .i 0), (31, .i 0), (33, .i 0), (36, .r 3 0), (37, .u (.b true)), (38, .i 0), (39, .u (.b true)), (43, .i 0), (44, .u (.b true)), (45, .u (.b true)), (46, .r 3 0), (47, .a [.i 0, .i 0, .u (.l 2 []), .u (.l 2 []), .u (.l 2 []), .u (.l 2 v.accs), .u (.l 5 []), .u (.l 9 []), .i 1, .u (.l 2 v.lns), .u (.l 16 []), .u (.l 19 []), .u (.l 2 []), .u (.l 3 []), .i 1, .u (.l 4 [])]), (48, .a [.i v.c1, .u (.l 7 v.c2), .i v.c3, .u (.l 4 v.c4), .i v.c5, .i v.c6, .i v.c7, .i v.c8]), (49, .a [.i 0, .i 0, .u (.l 2 []), .u (.l 2 []), .u (.l 2 []), .u (.l 2 v.accs), .u (.l 5 []), .u (.l 9 []), .i 1, .u (.l 2 v.lns), .u (.l 16 []), .u (.l 19 []), .u (.l 2 []), .u (.l 3 []), .i 1, .u (.l 4 [])]), (50, .z), (51, .z), (52, .z), (53, .z), (54, .z), (55, .z), (56, .z)]
def zdm (v : NbV) : Fr := puF (zb4 v) [(5, .r 3 0), (6, .i 0), (7, .z), (8, .z), (26, .t [.r 3 0, .i 0]), (28, .t [.r 3 0, .i 0]), (29, .r 3 0), (30, .i 0), (31, .i 0), (33, .i 0), (36, .r 3 0), (37, .u (.b true)), (38, .i 0), (39, .u (.b true)), (43, .i 0), (44, .u (.b true)), (45, .u (.b true)), (46, .r 3 0), (47, .a [.i 0, .i 0, .u (.l 2 []), .u (.l 2 []), .u (.l 2 []), .u (.l 2 v.accs), .u (.l 5 []), .u (.l 9 []), .i 1, .u (.l 2 v.lns), .u (.l 16 []), .u (.l 19 []), .u (.l 2 []), .u (.l 3 []), .i 1, .u (.l 4 [])]), (48, .a [.i v.c1, .u (.l 7 v.c2), .i v.c3, .u (.l 4 v.c4), .i v.c5, .i v.c6, .i v.c7, .i v.c8]), (49, .a [.i 0, .i 0, .u (.l 2 []), .u (.l 2 []), .u (.l 2 []), .u (.l 2 v.accs), .u (.l 5 []), .u (.l 9 []), .i 1, .u (.l 2 v.lns), .u (.l 16 []), .u (.l 19 []), .u (.l 2 []), .u (.l 3 []), .i 1, .u (.l 4 [])]), (50, .u (.s ⟨#[]⟩)), (51, .u (.b false)), (54, .z), (55, .z), (56, .z)]
theorem nbE0n11 (v : NbV) (H : NbH v true true 0 true false) : zey (cOp zco) (0, [22, 21, 20, 19, 18, 16, 17, 15, 14, 13, 12, 11, 10, 9, 8, 7, 6, 5, 4, 3, 2, 1, 0], [(17, [0]), (1, [0])], (zdm v), (zba v)) [((zdm v), (zba v))] := EvD.codeA
theorem nbE0n12 (v : NbV) (H : NbH v true true 0 true false) : zey (cOp zco) (3, [19, 18, 16, 17, 15, 14, 13, 12, 11, 10, 9, 8, 7, 6, 5, 4, 3, 2, 1, 0], [(17, [0]), (1, [0])], (zfx (zb6 (cOp zco) 19).dst).p (nbE0T20 v) (zch (fK [] ((zba v)).length) (.u (.s ⟨#[]⟩))), znq (zba v) [] ([])) [((zdm v), (zba v))] := EvD.stepsA (j := 3) (nbE0n11 v H)
theorem nbE0n13 (v : NbV) (H : NbH v true true 0 true false) : zey (cOp zco) (4, [18, 16, 17, 15, 14, 13, 12, 11, 10, 9, 8, 7, 6, 5, 4, 3, 2, 1, 0], [(17, [0]), (1, [0])], (nbE0T20 v), (zba v)) [((zdm v), (zba v))] := EvD.oneA 19 (EvE.callA (args := [.a [.i 0, .i 0, .u (.l 2 []), .u (.l 2 []), .u (.l 2 []), .u (.l 2 v.accs), .u (.l 5 []), .u (.l 9 []), .i 1, .u (.l 2 v.lns), .u (.l 16 []), .u (.l 19 []), .u (.l 2 []), .u (.l 3 []), .i 1, .u (.l 4 [])], .a [.i 0, .i 0, .u (.l 2 []), .u (.l 2 []), .u (.l 2 []), .u (.l 2 v.accs), .u (.l 5 []), .u (.l 9 []), .i 1, .u (.l 2 v.lns), .u (.l 16 []), .u (.l 19 []), .u (.l 2 []), .u (.l 3 []), .i 1, .u (.l 4 [])]]) (a := []) (cc := []) 19 H.hDf (nbE0n12 v H))
theorem nbE0n14 (v : NbV) (H : NbH v true true 0 true false) : zey (cOp zco) (4, [18, 16, 17, 15, 14, 13, 12, 11, 10, 9, 8, 7, 6, 5, 4, 3, 2, 1, 0], [(17, [0]), (1, [0])], (zfx (zb6 (cOp zco) 18).dst).p (nbE0T18 v) (zch (fK [] ((zba v)).length) (.a [.i 0, .i 0, .u (.l 2 []), .u (.l 2 []), .u (.l 2 []), .u (.l 2 v.accs), .u (.l 5 []), .u (.l 9 []), .i 1, .u (.l 2 v.lns), .u (.l 16 []), .u (.l 19 []), .u (.l 2 []), .u (.l 3 []), .i 1, .u (.l 4 [])])), znq (zba v) [] ([])) [((zdm v), (zba v))] := EvD.stepsA (j := 0) (nbE0n13 v H)
theorem nbE0n15 (v : NbV) (H : NbH v true true 0 true false) : zey (cOp zco) (5, [16, 17, 15, 14, 13, 12, 11, 10, 9, 8, 7, 6, 5, 4, 3, 2, 1, 0], [(17, [0]), (1, [0])], (nbE0T18 v), (zba v)) [((zdm v), (zba v))] := EvD.oneA 18 (EvE.callA (args := [.a [.i v.c1, .u (.l 7 v.c2), .i v.c3, .u (.l 4 v.c4), .i v.c5, .i v.c6, .i v.c7, .i v.c8]]) (a := []) (cc := []) 18 H.hEm (nbE0n14 v H))
theorem nbE0n16 (v : NbV) (H : NbH v true true 0 true false) : zey (cOp zco) (5, [16, 17, 15, 14, 13, 12, 11, 10, 9, 8, 7, 6, 5, 4, 3, 2, 1, 0], [(17, [0]), (1, [0])], (zfx (zb6 (cOp zco) 16).dst).p (nbE0T17 v) (zch (fK [3] ((zgz v)).length) (.a [.i 0, .i 0, .u (.l 2 []), .u (.l 2 []), .u (.l 2 []), .u (.l 2 v.accs), .u (.l 5 []), .u (.l 9 []), .i 1, .u (.l 2 v.lns), .u (.l 16 []), .u (.l 19 []), .u (.l 2 []), .u (.l 3 []), .i 1, .u (.l 4 [])])), znq (zgz v) [3] ([.o v.W2])) [((zdm v), (zba v))] := EvD.stepsA (j := 0) (nbE0n15 v H)
theorem nbE0n17 (v : NbV) (H : NbH v true true 0 true false) : zey (cOp zco) (6, [17, 15, 14, 13, 12, 11, 10, 9, 8, 7, 6, 5, 4, 3, 2, 1, 0], [(17, [0]), (1, [0])], (nbE0T17 v), (zgz v)) [((zdm v), (zba v))] := EvD.oneA 16 (EvE.callA (args := [.r 3 0]) (a := []) (cc := []) 16 H.hSt (nbE0n16 v H))
theorem nbE0n18 (v : NbV) (H : NbH v true true 0 true false) : zey (cOp zco) (20, [2, 1, 0], [(1, [0])], (zfx (zb6 (cOp zco) 2).dst).p (nbE0T11 v) (zch (fK [] ((zgz v)).length) (.i 0)), znq (zgz v) [] ([])) [((zdm v), (zba v))] := EvD.stepsA (j := 14) (nbE0n17 v H)
theorem nbE0n19 (v : NbV) (H : NbH v true true 0 true false) : zey (cOp zco) (21, [1, 0], [(1, [0])], (nbE0T11 v), (zgz v)) [((zdm v), (zba v))] := EvD.oneA 2 (EvE.callA (args := [.a [.i v.c1, .u (.l 7 v.c2), .i v.c3, .u (.l 4 v.c4), .i v.c5, .i v.c6, .i v.c7, .i v.c8]]) (a := []) (cc := []) 2 H.hK (nbE0n18 v H))
def nbE0T23 (v : NbV) : Fr := puF (zb4 v) [(5, .r 3 0), (6, .i 0), (7, .z), (8, .z), (26, .t [.r 3 0, .i 0]), (28, .t [.r 3 0, .i 0]), (29, .r 3 0), (30, .i 0), (31, .i 0), (33, .i 0), (36, .r 3 0), (37, .u (.b true)), (38, .i 0), (39, .u (.b true)), (43, .i 0), (44, .u (.b true)), (45, .u (.b true)), (46, .r 3 0), (47, .a [.i 0, .i 0, .u (.l 2 []), .u (.l 2 []), .u (.l 2 []), .u (.l 2 v.accs), .u (.l 5 []), .u (.l 9 []), .i 1, .u (.l 2 v.lns), .u (.l 16 []), .u (.l 19 []), .u (.l 2 []), .u (.l 3 []), .i 1, .u (.l 4 [])]), (48, .a [.i v.c1, .u (.l 7 v.c2), .i v.c3, .u (.l 4 v.c4), .i v.c5, .i v.c6, .i v.c7, .i v.c8]), (49, .a [.i 0, .i 0, .u (.l 2 []), .u (.l 2 []), .u (.l 2 []), .u (.l 2 v.accs), .u (.l 5 []), .u (.l 9 []), .i 1, .u (.l 2 v.lns), .u (.l 16 []), .u (.l 19 []), .u (.l 2 []), .u (.l 3 []), .i 1, .u (.l 4 [])]), (50, .u (.s ⟨#[]⟩)), (51, .u (.b false)), (54, .z), (55, .z), (56, .z)]
def nbE0T24 (v : NbV) : Fr := puF (zb4 v) [(5, .r 3 0), (6, .i 0), (7, .z), (8, .z), (26, .t [.r 3 0, .i 0]), (28, .t [.r 3 0, .i 0]), (29, .r 3 0), (30, .i 0), (31, .i 0), (33, .i 0), (36, .r 3 0), (37, .u (.b true)), (38, .i 0), (39, .u (.b true)), (43, .i 0), (44, .u (.b true)), (45, .u (.b true)), (46, .r 3 0), (47, .a [.i 0, .i 0, .u (.l 2 []), .u (.l 2 []), .u (.l 2 []), .u (.l 2 v.accs), .u (.l 5 []), .u (.l 9 []), .i 1, .u (.l 2 v.lns), .u (.l 16 []), .u (.l 19 []), .u (.l 2 []), .u (.l 3 []), .i 1, .u (.l 4 [])]), (48, .a [.i v.c1, .u (.l 7 v.c2), .i v.c3, .u (.l 4 v.c4), .i v.c5, .i v.c6, .i v.c7, .i v.c8]), (49, .a [.i 0, .i 0, .u (.l 2 []), .u (.l 2 []), .u (.l 2 []), .u (.l 2 v.accs), .u (.l 5 []), .u (.l 9 []), .i 1, .u (.l 2 v.lns), .u (.l 16 []), .u (.l 19 []), .u (.l 2 []), .u (.l 3 []), .i 1, .u (.l 4 [])]), (50, .u (.s ⟨#[]⟩)), (51, .u (.b false)), (54, .z), (55, .z), (56, .z)]
def nbE0T25 (v : NbV) : Fr := puF (zb4 v) [(5, .r 3 0), (6, .i 0), (7, .sl 5 0 2), (8, .z), (26, .t [.r 3 0, .i 0]), (28, .t [.r 3 0, .i 0]), (29, .r 3 0), (30, .i 0), (31, .i 0), (33, .i 0), (36, .r 3 0), (37, .u (.b true)), (38, .i 0), (39, .u (.b true)), (43, .i 0), (44, .u (.b true)), (45, .u (.b true)), (46, .r 3 0), (47, .a [.i 0, .i 0, .u (.l 2 []), .u (.l 2 []), .u (.l 2 []), .u (.l 2 v.accs), .u (.l 5 []), .u (.l 9 []), .i 1, .u (.l 2 v.lns), .u (.l 16 []), .u (.l 19 []), .u (.l 2 []), .u (.l 3 []), .i 1, .u (.l 4 [])]), (48, .a [.i v.c1, .u (.l 7 v.c2), .i v.c3, .u (.l 4 v.c4), .i v.c5, .i v.c6, .i v.c7, .i v.c8]), (49, .a [.i 0, .i 0, .u (.l 2 []), .u (.l 2 []), .u (.l 2 []), .u (.l 2 v.accs), .u (.l 5 []), .u (.l 9 []), .i 1, .u (.l 2 v.lns), .u (.l 16 []), .u (.l 19 []), .u (.l 2 []), .u (.l 3 []), .i 1, .u (.l 4 [])]), (50, .u (.s ⟨#[]⟩)), (51, .u (.b false)), (55, .r 4 0), (56, .sl 5 0 2)]
def za6 (v : NbV) : Mem := paM (zba v) [] [.c [.u (.p none), .u (.p none), .u (.p none), .u (.p none), .u (.p none), .u (.p none), .u (.p none), .i 0, .nl 2, .nl 2, .nl 2, .i 0, .nl 7, .i 0, .nl 4, .i 0, .i 0, .i 0, .i 0, .i 0],
 .c [.u (.p none), .r 4 0]]
def nbE0T27 (v : NbV) : Fr := puF (zb4 v) [(5, .r 3 0), (6, .i 0), (7, .sl 5 0 2), (26, .t [.r 3 0, .i 0]), (28, .t [.r 3 0, .i 0]), (29, .r 3 0), (30, .i 0), (31, .i 0), (33, .i 0), (36, .r 3 0), (37, .u (.b true)), (38, .i 0), (39, .u (.b true)), (43, .i 0), (44, .u (.b true)), (45, .u (.b true)), (46, .r 3 0), (47, .a [.i 0, .i 0, .u (.l 2 []), .u (.l 2 []), .u (.l 2 []), .u (.l 2 v.accs), .u (.l 5 []), .u (.l 9 []), .i 1, .u (.l 2 v.lns), .u (.l 16 []), .u (.l 19 []), .u (.l 2 []), .u (.l 3 []), .i 1, .u (.l 4 [])]), (48, .a [.i v.c1, .u (.l 7 v.c2), .i v.c3, .u (.l 4 v.c4), .i v.c5, .i v.c6, .i v.c7, .i v.c8]), (49, .a [.i 0, .i 0, .u (.l 2 []), .u (.l 2 []), .u (.l 2 []), .u (.l 2 v.accs), .u (.l 5 []), .u (.l 9 []), .i 1, .u (.l 2 v.lns), .u (.l 16 []), .u (.l 19 []), .u (.l 2 []), .u (.l 3 []), .i 1, .u (.l 4 [])]), (50, .u (.s ⟨#[]⟩)), (51, .u (.b false)), (55, .r 4 0), (56, .sl 5 0 2)]
noncomputable abbrev ziu : Code := cLp (cBd (zjv 1 (cL (zjv 1 (cR nbE0C9)))))
def nbE0T28 (v : NbV) : Fr := puF (zb4 v) [(5, .r 3 0), (6, .i 0), (7, .sl 5 0 2), (26, .t [.r 3 0, .i 0]), (28, .t [.r 3 0, .i 0]), (29, .r 3 0), (30, .i 0), (31, .i 0), (33, .i 0), (36, .r 3 0), (37, .u (.b true)), (38, .i 0), (39, .u (.b true)), (43, .i 0), (44, .u (.b true)), (45, .u (.b true)), (46, .r 3 0), (47, .a [.i 0, .i 0, .u (.l 2 []), .u (.l 2 []), .u (.l 2 []), .u (.l 2 v.accs), .u (.l 5 []), .u (.l 9 []), .i 1, .u (.l 2 v.lns), .u (.l 16 []), .u (.l 19 []), .u (.l 2 []), .u (.l 3 []), .i 1, .u (.l 4 [])]), (48, .a [.i v.c1, .u (.l 7 v.c2), .i v.c3, .u (.l 4 v.c4), .i v.c5, .i v.c6, .i v.c7, .i v.c8]), (49, .a [.i 0, .i 0, .u (.l 2 []), .u (.l 2 []), .u (.l 2 []), .u (.l 2 v.accs), .u (.l 5 []), .u (.l 9 []), .i 1, .u (.l 2 v.lns), .u (.l 16 []), .u (.l 19 []), .u (.l 2 []), .u (.l 3 []), .i 1, .u (.l 4 [])]), (50, .u (.s ⟨#[]⟩)), (51, .u (.b false)), (55, .r 4 0), (56, .sl 5 0 2), (57, .i 0), (58, .sl 5 0 2), (59, .i 2), (60, .u (.b true))]
def nbE0T29 (v : NbV) : Fr := Fr.mk [.a [.i v.c1, .u (.l 7 v.c2), .i v.c3, .u (.l 4 v.c4), .i v.c5, .i v.c6, .i v.c7, .i v.c8], .a [.i v.a9, .i v.a10, .i v.a11, .i v.a12, .i v.a13, .i v.a14, .i v.a15, .i v.a16, .i v.a17, .i v.a18, .i v.a19, .i v.a20, .i v.a21, .i v.a22, .i v.a23, .i v.a24, .i v.a25, .i v.a26, .i v.a27, .i v.a28, .i v.a29, .i v.a30, .i v.a31, .i v.a32, .i v.a33, .i v.a34, .i v.a35, .i v.a36, .i v.a37, .i v.a38, .i v.a39, .i v.a40, .i v.a41, .i v.a42, .i v.a43, .i v.a44, .i v.a45, .i v.a46, .i v.a47, .i v.a48, .i v.a49, .i v.a50, .i v.a51, .i v.a52, .u (.l 2 v.a53), .u (.l 2 v.a54), .i v.a55, .i v.a56, .i v.a57, .i v.a58], .r 0 0, .r 1 0, .u (.b false), .r 3 0, .i 0, .sl 5 0 2, .i 0, .u (.p none), .i 0, .i 1, .i 0, .i 1, .i 0, .i 1, .a [.i v.c1, .u (.l 7 v.c2), .i v.c3, .u (.l 4 v.c4), .i v.c5, .i v.c6, .i v.c7, .i v.c8], .u (.b true), .u (.b false), .u (.b false), .a [.i v.a9, .i v.a10, .i v.a11, .i v.a12, .i v.a13, .i v.a14, .i v.a15, .i v.a16, .i v.a17, .i v.a18, .i v.a19, .i v.a20, .i v.a21, .i v.a22, .i v.a23, .i v.a24, .i v.a25, .i v.a26, .i v.a27, .i v.a28, .i v.a29, .i v.a30, .i v.a31, .i v.a32, .i v.a33, .i v.a34, .i v.a35, .i v.a36, .i v.a37, .i v.a38, .i v.a39, .i v.a40, .i v.a41, .i v.a42, .i v.a43, .i v.a44, .i v.a45, .i v.a46, .i v.a47, .i v.a48, .i v.a49, .i v.a50, .i v.a51, .i v.a52, .u (.l 2 v.a53), .u (.l 2 v.a54), .i v.a55, .i v.a56, .i v.a57, .i v.a58], .w 2, .u (.b true), .u (.b false), .u (.b false), .z, .t [.r 3 0, .i 0], .a [.i v.c1, .u (.l 7 v.c2), .i v.c3, .u (.l 4 v.c4), .i v.c5, .i v.c6, .i v.c7, .i v.c8], .t [.r 3 0, .i 0], .r 3 0, .i 0, .i 0, .a [.i v.c1, .u (.l 7 v.c2), .i v.c3, .u (.l 4 v.c4), .i v.c5, .i v.c6, .i v.c7, .i v.c8], .i 0, .u (.b false), .u (.b false), .r 3 0, .u (.b true), .i 0, .u (.b true), .u (.b false), .u (.b false), .u (.b false), .i 0, .u (.b true), .u (.b true), .r 3 0, .a [.i 0, .i 0, .u (.l 2 []), .u (.l 2 []), .u (.l 2 []), .u (.l 2 v.accs), .u (.l 5 []), .u (.l 9 []), .i 1, .u (.l 2 v.lns), .u (.l 16 []), .u (.l 19 []), .u (.l 2 []), .u (.l 3 []), .i 1, .u (.l 4 [])], .a [.i v.c1, .u (.l 7 v.c2), .i v.c3, .u (.l 4 v.c4), .i v.c5, .i v.c6, .i v.c7, .i v.c8], .a [.i 0, .i 0, .u (.l 2 []), .u (.l 2 []), .u (.l 2 []), .u (.l 2 v.accs), .u (.l 5 []), .u (.l 9 []), .i 1, .u (.l 2 v.lns), .u (.l 16 []), .u (.l 19 []), .u (.l 2 []), .u (.l 3 []), .i 1, .u (.l 4 [])], .u (.s ⟨#[]⟩), .u (.b false), .u (.b false), .u (.b false), .a [.u (.p none), .u (.p none), .u (.p none), .u (.p none), .u (.p none), .u (.p none), .u (.p none), .i 0, .nl 2, .nl 2, .nl 2, .i 0, .nl 7, .i 0, .nl 4, .i 0, .i 0, .i 0, .i 0, .i 0], .r 4 0, .sl 5 0 2, .i 0, .sl 5 0 2, .i 2, .u (.b true), .z, .z, .sl 5 0 2, .i 0, .r 5 0, .u (.p none), .t [.i 0, .i 1], .u (.p none), .r 1 2, .i v.a11, .t [.i 0, .i 1], .i 0, .i 1, .t [.i 0, .i 1], .u (.p none), .r 1 7, .a [.i v.a16, .i v.a17, .i v.a18, .i v.a19, .i v.a20, .i v.a21, .i v.a22, .i v.a23, .i v.a24], .t [.i 0, .i 1], .i 0, .i 1, .t [.i 0, .i 1], .u (.p none), .r 1 1, .i v.a10, .t [.i 0, .i 1], .i 0, .i 1] 84 172
def zl2 (v : NbV) : Mem := paM (za6 v) [] [.c [.i v.a16, .i v.a17, .i v.a18, .i v.a19, .i v.a20, .i v.a21, .i v.a22, .i v.a23, .i v.a24]]
def nbE0T31 (v : NbV) : Fr := puF (nbE0T29 v) [(88, .i 1), (89, .u (.b false)), (90, .u (.b false)), (91, .i 1), (92, .u (.b false)), (93, .u (.b false)), (94, .u (.b false)), (95, .i 1), (96, .u (.b false)), (97, .u (.b false)), (98, .u (.b false)), (99, .u (.p none)), (100, .r 1 1), (101, .i v.a10), (102, .r 1 2), (103, .i v.a11)]
def nbE0T32 (v : NbV) : Fr := puF (zph v) [(5, .r 3 0), (6, .i 0), (7, .sl 5 0 2), (26, .t [.r 3 0, .i 0]), (28, .t [.r 3 0, .i 0]), (29, .r 3 0), (30, .i 0), (31, .i 0), (33, .i 0), (36, .r 3 0), (37, .u (.b true)), (38, .i 0), (39, .u (.b true)), (43, .i 0), (44, .u (.b true)), (45, .u (.b true)), (46, .r 3 0), (47, .a [.i 0, .i 0, .u (.l 2 []), .u (.l 2 []), .u (.l 2 []), .u (.l 2 v.accs), .u (.l 5 []), .u (.l 9 []), .i 1, .u (.l 2 v.lns), .u (.l 16 []), .u (.l 19 []), .u (.l 2 []), .u (.l 3 []), .i 1, .u (.l 4 [])]), (48, .a [.i v.c1, .u (.l 7 v.c2), .i v.c3, .u (.l 4 v.c4), .i v.c5, .i v.c6, .i v.c7, .i v.c8]), (49, .a [.i 0, .i 0, .u (.l 2 []), .u (.l 2 []), .u (.l 2 []), .u (.l 2 v.accs), .u (.l 5 []), .u (.l 9 []), .i 1, .u (.l 2 v.lns), .u (.l 16 []), .u (.l 19 []), .u (.l 2 []), .u (.l 3 []), .i 1, .u (.l 4 [])]), (50, .u (.s ⟨#[]⟩)), (51, .u (.b false)), (55, .r 4 0), (56, .sl 5 0 2), (58, .sl 5 0 2), (63, .sl 5 0 2), (65, .r 5 0), (166, .z), (167, .z), (168, .z), (169, .z), (170, .z)]
def zec (v : NbV) : Mem := paM (zl2 v) [] [.c [.i v.a12, .i v.a13, .i v.a14, .i v.a15]]
def nbE0k1M0 (v : NbV) : Mem := []
def nbE0k1T1 (v : NbV) : Fr := Fr.mk [.u (.p none), .z, .r 0 0, .z, .z, .u (.p none), .u (.b false), .u (.b true), .a [.i 0, .i 0, .nl 2, .nl 2, .nl 2, .nl 2, .nl 5, .nl 9, .i 0, .nl 2, .nl 16, .nl 19, .nl 2, .nl 3, .i 0, .nl 4]] 114 123
def nbE0k1M2 (v : NbV) : Mem := [.c [.i 0, .i 0, .nl 2, .nl 2, .nl 2, .nl 2, .nl 5, .nl 9, .i 0, .nl 2, .nl 16, .nl 19, .nl 2, .nl 3, .i 0, .nl 4]]
abbrev nbE0k1Mm (v : NbV) : Mem := (nbE0k1M0 v)
theorem nbE0k1_run (v : NbV) : PRun Tryz.prog 10 (nbE0k1M0 v) [.u (.p none)] fun x m => x = .a [.i 0, .i 0, .nl 2, .nl 2, .nl 2, .nl 2, .nl 5, .nl 9, .i 0, .nl 2, .nl 16, .nl 19, .nl 2, .nl 3, .i 0, .nl 4] ∧ m = (nbE0k1Mm v) := Ev.runA (speNrm.or (speAdd.or (za1 whp))) Tryz.func10 (c := (zbr Tryz.f10)) (r := (.ret, (nbE0k1T1 v), (nbE0k1M2 v))) Ev.codeA
def nbE0T34 (v : NbV) : Fr := puF (nbE0T32 v) [(166, .a [.i 0, .i 0, .nl 2, .nl 2, .nl 2, .nl 2, .nl 5, .nl 9, .i 0, .nl 2, .nl 16, .nl 19, .nl 2, .nl 3, .i 0, .nl 4]), (167, .a [.i 0, .i 0, .nl 2, .nl 2, .nl 2, .nl 2, .nl 5, .nl 9, .i 0, .nl 2, .nl 16, .nl 19, .nl 2, .nl 3, .i 0, .nl 4])]
def nbE0k2M0 (v : NbV) : Mem := []
def nbE0k2T1 (v : NbV) : Fr := Fr.mk [.a [.i 0, .i 0, .nl 2, .nl 2, .nl 2, .nl 2, .nl 5, .nl 9, .i 0, .nl 2, .nl 16, .nl 19, .nl 2, .nl 3, .i 0, .nl 4], .a [.i 0, .i 0, .nl 2, .nl 2, .nl 2, .nl 2, .nl 5, .nl 9, .i 0, .nl 2, .nl 16, .nl 19, .nl 2, .nl 3, .i 0, .nl 4], .r 0 0, .r 1 0, .u (.s ⟨#[]⟩), .u (.b false), .r 0 0, .i 0, .r 1 0, .i 0, .u (.b false), .u (.b false), .r 0 1, .i 0, .r 1 1, .i 0, .u (.b false), .u (.b false), .r 0 2, .nl 2, .r 1 2, .nl 2, .u (.b true), .u (.b false), .u (.b false), .r 0 3, .nl 2, .r 1 3, .nl 2, .u (.b true), .u (.b false), .u (.b false), .r 0 4, .nl 2, .r 1 4, .nl 2, .u (.b true), .u (.b false), .u (.b false), .r 0 5, .nl 2, .r 1 5, .nl 2, .u (.b true), .u (.b false), .u (.b false), .r 0 6, .nl 5, .r 1 6, .nl 5, .u (.b true), .u (.b false), .u (.b false), .r 0 7, .nl 9, .r 1 7, .nl 9, .u (.b true), .u (.b false), .u (.b false), .r 0 8, .i 0, .r 1 8, .i 0, .u (.b false), .u (.b false), .u (.b false), .r 0 9, .nl 2, .r 1 9, .nl 2, .u (.b true), .u (.b false), .u (.b false), .r 0 10, .nl 16, .r 1 10, .nl 16, .u (.b true), .u (.b false), .u (.b false), .r 0 11, .nl 19, .r 1 11, .nl 19, .u (.b true), .u (.b false), .u (.b false), .r 0 12, .nl 2, .r 1 12, .nl 2, .u (.b true), .u (.b false), .u (.b false), .r 0 13, .nl 3, .r 1 13, .nl 3, .u (.b true), .u (.b false), .u (.b false), .r 0 14, .i 0, .r 1 14, .i 0, .u (.b false), .u (.b false), .u (.b false), .r 0 15, .nl 4, .r 1 15, .nl 4, .u (.b true), .u (.b false)] 0 115
def nbE0k2M2 (v : NbV) : Mem := [.c [.i 0, .i 0, .nl 2, .nl 2, .nl 2, .nl 2, .nl 5, .nl 9, .i 0, .nl 2, .nl 16, .nl 19, .nl 2, .nl 3, .i 0, .nl 4],
 .c [.i 0, .i 0, .nl 2, .nl 2, .nl 2, .nl 2, .nl 5, .nl 9, .i 0, .nl 2, .nl 16, .nl 19, .nl 2, .nl 3, .i 0, .nl 4]]
abbrev nbE0k2Mm (v : NbV) : Mem := (nbE0k2M0 v)
theorem zn9 (v : NbV) : PRun Tryz.prog 9 (nbE0k2M0 v) [.a [.i 0, .i 0, .nl 2, .nl 2, .nl 2, .nl 2, .nl 5, .nl 9, .i 0, .nl 2, .nl 16, .nl 19, .nl 2, .nl 3, .i 0, .nl 4], .a [.i 0, .i 0, .nl 2, .nl 2, .nl 2, .nl 2, .nl 5, .nl 9, .i 0, .nl 2, .nl 16, .nl 19, .nl 2, .nl 3, .i 0, .nl 4]] fun x m => x = .u (.s ⟨#[]⟩) ∧ m = (nbE0k2Mm v) := Ev.runA (speNrm.or (speAdd.or (za1 whp))) Tryz.func9 (c := (zbr Tryz.f9)) (r := (.ret, (nbE0k2T1 v), (nbE0k2M2 v))) Ev.codeA
def zpn (v : NbV) : Fr := puF (nbE0T34 v) [(168, .u (.s ⟨#[]⟩)), (169, .u (.b false)), (170, .u (.b false))]
def zl1 (v : NbV) : Fr := puF (zpn v) [(8, .i 1), (61, .i 0), (62, .i 1)]
theorem nbE0n35 (v : NbV) (H : NbH v true true 0 true false) : nbE0ev ziu (nbE0T27 v) (za6 v) [(.nrm, (zl1 v), (zec v))] := Ev.piecesA (k := 1) (t1 := nbE0T28 v) (m1 := za6 v) (Ev.seqPA (t1 := zpn v) (m1 := zec v) (Ev.blockP (e := .nrm) (by kernel_rfl) (by kernel_rfl) (Ev.piecesA (k := 4) (t1 := nbE0T29 v) (m1 := zl2 v) (Ev.seqPA (t1 := zpn v) (m1 := zec v) (Ev.regA (EvO.callA (t2 := nbE0T31 v) (m1 := zl2 v) (ix := []) (k := 16) (t1 := (nbE0T31 v)) (args := [.u (.p none), .i v.a10, .i v.a11]) (a := []) (cc := []) (S15N (owner := v.a10) (n := v.a11) (Q := fun x m => x = .i 1 ∧ m = []) ⟨rfl, rfl⟩) (EvO.callA (t2 := nbE0T32 v) (m1 := zec v) (ix := []) (k := 61) (t1 := (nbE0T32 v)) (args := [.u (.p none)]) (a := []) (cc := []) (nbE0k1_run v) (EvO.callA (t2 := nbE0T34 v) (m1 := zec v) (ix := []) (k := 1) (t1 := (nbE0T34 v)) (args := [.a [.i 0, .i 0, .nl 2, .nl 2, .nl 2, .nl 2, .nl 5, .nl 9, .i 0, .nl 2, .nl 16, .nl 19, .nl 2, .nl 3, .i 0, .nl 4], .a [.i 0, .i 0, .nl 2, .nl 2, .nl 2, .nl 2, .nl 5, .nl 9, .i 0, .nl 2, .nl 16, .nl 19, .nl 2, .nl 3, .i 0, .nl 4]]) (a := []) (cc := []) (zn9 v) EvO.opsA)))) Ev.codeA))) Ev.codeA)
def zfo (v : NbV) : Fr := puF (zl1 v) [(57, .i 1)]
def nbE0T39 (v : NbV) : Fr := puF (zfo v) [(9, .r 4 0), (64, .i 1), (65, .r 5 1), (66, .r 4 0), (68, .r 4 0), (75, .r 4 0), (82, .r 4 0)]
def nbE0T40 (v : NbV) : Fr := puF (zfo v) [(9, .r 4 0), (64, .i 1), (65, .r 5 1), (66, .r 4 0), (68, .r 4 0), (75, .r 4 0), (82, .r 4 0), (99, .r 4 0)]
def nbE0T41 (v : NbV) : Fr := puF (zfo v) [(9, .r 4 0), (64, .i 1), (65, .r 5 1), (66, .r 4 0), (68, .r 4 0), (75, .r 4 0), (82, .r 4 0), (99, .r 4 0), (108, .r 4 0), (117, .r 4 0), (124, .r 4 0), (129, .r 4 0), (135, .r 4 0), (140, .r 4 0), (145, .r 4 0), (150, .r 4 0), (155, .r 4 0), (160, .r 4 0), (165, .r 4 0)]
def zpl (v : NbV) : Mem := [.c [.u (.p none), .u (.p none), .u (.p none), .u (.p none), .u (.p none), .u (.p none), .u (.p none), .i 0, .nl 2, .nl 2, .nl 2, .i 0, .nl 7, .i 0, .nl 4, .i 0, .i 0, .i 0, .i 0, .i 0]]
def nbE0k3T1 (v : NbV) : Fr := puF (nbE0k1T1 v) [(0, .r 0 0), (2, .r 1 0), (5, .r 0 0)]
def nbE0k3M2 (v : NbV) : Mem := paM (zpl v) [] [.c [.i 0, .i 0, .nl 2, .nl 2, .nl 2, .nl 2, .nl 5, .nl 9, .i 0, .nl 2, .nl 16, .nl 19, .nl 2, .nl 3, .i 0, .nl 4]]
abbrev nbE0k3Mm (v : NbV) : Mem := (zpl v)
theorem nbE0k3_run (v : NbV) : PRun Tryz.prog 10 (zpl v) [.r 0 0] fun x m => x = .a [.i 0, .i 0, .nl 2, .nl 2, .nl 2, .nl 2, .nl 5, .nl 9, .i 0, .nl 2, .nl 16, .nl 19, .nl 2, .nl 3, .i 0, .nl 4] ∧ m = (nbE0k3Mm v) := Ev.runA (speNrm.or (speAdd.or (za1 whp))) Tryz.func10 (c := (zbr Tryz.f10)) (r := (.ret, (nbE0k3T1 v), (nbE0k3M2 v))) Ev.codeA
def nbE0T42 (v : NbV) : Fr := puF (zfo v) [(9, .r 4 0), (64, .i 1), (65, .r 5 1), (66, .r 4 0), (68, .r 4 0), (75, .r 4 0), (82, .r 4 0), (99, .r 4 0), (108, .r 4 0), (117, .r 4 0), (124, .r 4 0), (129, .r 4 0), (135, .r 4 0), (140, .r 4 0), (145, .r 4 0), (150, .r 4 0), (155, .r 4 0), (160, .r 4 0), (165, .r 4 0)]
def nbE0T43 (v : NbV) : Fr := puF (zfo v) [(9, .r 4 0), (64, .i 1), (65, .r 5 1), (66, .r 4 0), (68, .r 4 0), (75, .r 4 0), (82, .r 4 0), (99, .r 4 0), (108, .r 4 0), (117, .r 4 0), (124, .r 4 0), (129, .r 4 0), (135, .r 4 0), (140, .r 4 0), (145, .r 4 0), (150, .r 4 0), (155, .r 4 0), (160, .r 4 0), (165, .r 4 0)]
def nbE0T44 (v : NbV) : Fr := puF (zfo v) [(9, .r 4 0), (64, .i 1), (65, .r 5 1), (66, .r 4 0), (68, .r 4 0), (75, .r 4 0), (82, .r 4 0), (99, .r 4 0), (108, .r 4 0), (117, .r 4 0), (124, .r 4 0), (129, .r 4 0), (135, .r 4 0), (140, .r 4 0), (145, .r 4 0), (150, .r 4 0), (155, .r 4 0), (160, .r 4 0), (165, .r 4 0)]
def zpm (v : NbV) : Fr := puF (zfo v) [(8, .i 2), (9, .r 4 0), (61, .i 1), (62, .i 2), (64, .i 1), (65, .r 5 1), (66, .r 4 0), (68, .r 4 0), (75, .r 4 0), (82, .r 4 0), (99, .r 4 0), (108, .r 4 0), (117, .r 4 0), (124, .r 4 0), (129, .r 4 0), (135, .r 4 0), (140, .r 4 0), (145, .r 4 0), (150, .r 4 0), (155, .r 4 0), (160, .r 4 0), (165, .r 4 0)]
theorem nbE0n47 (v : NbV) (H : NbH v true true 0 true false) : nbE0ev ziu (zl1 v) (za6 v) [(.nrm, (zpm v), (zec v))] := Ev.piecesA (k := 1) (t1 := zfo v) (m1 := za6 v) (Ev.seqPA (t1 := nbE0T44 v) (m1 := zec v) (Ev.blockP (e := .nrm) (by kernel_rfl) (by kernel_rfl) (Ev.piecesA (k := 4) (t1 := nbE0T39 v) (m1 := zl2 v) (Ev.seqPA (t1 := nbE0T43 v) (m1 := zec v) (Ev.regA (EvO.callA (t2 := nbE0T40 v) (m1 := zl2 v) (ix := [4]) (k := 16) (t1 := (nbE0T40 v)) (args := [.r 4 0, .i v.a10, .i v.a11]) (a := []) (cc := []) (S15Z (owner := v.a10) (n := v.a11) (Q := fun x m => x = .i 1 ∧ m = [.c [.u (.p none), .u (.p none), .u (.p none), .u (.p none), .u (.p none), .u (.p none), .u (.p none), .i 0, .nl 2, .nl 2, .nl 2, .i 0, .nl 7, .i 0, .nl 4, .i 0, .i 0, .i 0, .i 0, .i 0]]) ⟨rfl, rfl⟩) (EvO.callA (t2 := nbE0T41 v) (m1 := zec v) (ix := [4]) (k := 61) (t1 := (nbE0T41 v)) (args := [.r 4 0]) (a := []) (cc := []) (nbE0k3_run v) (EvO.callA (t2 := nbE0T42 v) (m1 := zec v) (ix := []) (k := 1) (t1 := (nbE0T42 v)) (args := [.a [.i 0, .i 0, .nl 2, .nl 2, .nl 2, .nl 2, .nl 5, .nl 9, .i 0, .nl 2, .nl 16, .nl 19, .nl 2, .nl 3, .i 0, .nl 4], .a [.i 0, .i 0, .nl 2, .nl 2, .nl 2, .nl 2, .nl 5, .nl 9, .i 0, .nl 2, .nl 16, .nl 19, .nl 2, .nl 3, .i 0, .nl 4]]) (a := []) (cc := []) (zn9 v) EvO.opsA)))) Ev.codeA))) Ev.codeA)
def zfn (v : NbV) : Fr := puF (zpn v) [(8, .i 2), (9, .r 4 0), (57, .i 2), (60, .u (.b false)), (61, .i 1), (62, .i 2), (64, .i 1), (65, .r 5 1), (66, .r 4 0), (68, .r 4 0), (75, .r 4 0), (82, .r 4 0), (99, .r 4 0), (108, .r 4 0), (117, .r 4 0), (124, .r 4 0), (129, .r 4 0), (135, .r 4 0), (140, .r 4 0), (145, .r 4 0), (150, .r 4 0), (155, .r 4 0), (160, .r 4 0), (165, .r 4 0)]
theorem nbE0n49 (v : NbV) (H : NbH v true true 0 true false) : nbE0ev ziu (zpm v) (za6 v) [((.ext 0), (zfn v), (za6 v))] := Ev.seqE (by intro h; cases h) (by kernel_rfl) Ev.codeA
theorem nbE0n50 (v : NbV) (H : NbH v true true 0 true false) : nbE0evL 6 ziu 298 (zpm v) (za6 v) [((.ext 0), (zfn v), (za6 v))] := EvL.last (by intro h; cases h) (nbE0n49 v H)
theorem nbE0n51 (v : NbV) (H : NbH v true true 0 true false) : nbE0evL 6 ziu 299 (zl1 v) (za6 v) [((.ext 0), (zfn v), (za6 v))] := EvL.round (t2 := (zpm v)) (m2 := (za6 v)) (nbE0n47 v H) (by kernel_rfl) (nbE0n50 v H)
theorem nbE0n52 (v : NbV) (H : NbH v true true 0 true false) : nbE0evL 6 ziu 300 (nbE0T27 v) (za6 v) [((.ext 0), (zfn v), (za6 v))] := EvL.round (t2 := (zl1 v)) (m2 := (za6 v)) (nbE0n35 v H) (by kernel_rfl) (nbE0n51 v H)
def nbE0T48 (v : NbV) : Fr := puF (zfn v) [(4, .u (.b true)), (171, .u (.b true))]
theorem nb_E0 (v : NbV) (H : NbH v true true 0 true false) : PRun Tryz.prog 3 [] [.a [.i v.c1, .u (.l 7 v.c2), .i v.c3, .u (.l 4 v.c4), .i v.c5, .i v.c6, .i v.c7, .i v.c8], .a [.i v.a9, .i v.a10, .i v.a11, .i v.a12, .i v.a13, .i v.a14, .i v.a15, .i v.a16, .i v.a17, .i v.a18, .i v.a19, .i v.a20, .i v.a21, .i v.a22, .i v.a23, .i v.a24, .i v.a25, .i v.a26, .i v.a27, .i v.a28, .i v.a29, .i v.a30, .i v.a31, .i v.a32, .i v.a33, .i v.a34, .i v.a35, .i v.a36, .i v.a37, .i v.a38, .i v.a39, .i v.a40, .i v.a41, .i v.a42, .i v.a43, .i v.a44, .i v.a45, .i v.a46, .i v.a47, .i v.a48, .i v.a49, .i v.a50, .i v.a51, .i v.a52, .u (.l 2 v.a53), .u (.l 2 v.a54), .i v.a55, .i v.a56, .i v.a57, .i v.a58]] fun x m => x = .u (.b true) ∧ m = [] := Ev.runA eR3 Tryz.func3 (c := nbE0C1) (r := (.ret, (nbE0T48 v), (za6 v))) (Ev.piecesA (k := 1) (t1 := nbFT1 v) (m1 := nbE0M2 v) (Ev.seqPA (nbE0n7 v H) (Ev.seqPA (t1 := nbE0T9 v) (m1 := zgz v) (Ev.regA (EvO.callA (t2 := nbE0T8 v) (m1 := zoa v) (ix := []) (k := 1) (t1 := (nbE0T8 v)) (args := [.a [.i v.c1, .u (.l 7 v.c2), .i v.c3, .u (.l 4 v.c4), .i v.c5, .i v.c6, .i v.c7, .i v.c8]]) (a := []) (cc := []) H.hN EvO.opsA)) (Ev.seqPA (t1 := nbE0T24 v) (m1 := zba v) (Ev.seqPA (t1 := nbE0T23 v) (m1 := zba v) (Ev.regD2 (outs := [((zdm v), (zba v))]) (by kernel_rfl) (by kernel_rfl) (by kernel_rfl) (EvD.stepsA (j := 2) (nbE0n19 v H)) ⟨by kernel_rfl, trivial⟩) Ev.codeA) (Ev.piecesA (k := 1) (t1 := nbE0T25 v) (m1 := za6 v) (Ev.seqPA (t1 := zfn v) (m1 := za6 v) (Ev.piecesA (k := 1) (t1 := nbE0T27 v) (m1 := za6 v) (Ev.blockP (e := .ext 0) (by kernel_rfl) (by kernel_rfl) (Ev.loopP (n0 := 6) (by kernel_rfl) (by kernel_rfl) (nbE0n52 v H)))) (Ev.seqPA (t1 := nbE0T48 v) (m1 := za6 v) (Ev.regA (EvO.callA (t2 := zfn v) (m1 := za6 v) (ix := []) (k := 0) (t1 := (zfn v)) (args := []) (a := []) (cc := []) (zqk v) EvO.opsA)) Ev.codeA)))))))
end
end
section
set_option maxRecDepth 1000000
variable {Q : V → Mem → Prop}
def zep (n : Nat) : List (List U) := (List.range n).map fun k => [.n (Int.ofNat k), .n 0]
def tbN (n : Nat) : Tb := (List.range n).map fun k => (oK (Int.ofNat k), 0)
theorem zot (n : Nat) : zep (n + 1) = zep n ++ [[.n (n : Int), .n 0]] := by
 simp [zep, List.range_succ]
theorem zf3 (n : Nat) : (zep n).length = n := by simp [zep]
theorem zf4 {n i : Nat} (h : i < n) : (zep n)[i]? = some [.n (i : Int), .n 0] := by
 simp [zep, h]
theorem zoy (n : Nat) : tbN (n + 1) = tbN n ++ [(oK (n : Int), 0)] := by
 simp [tbN, List.range_succ]
theorem zoz (n : Nat) : (tbN n).length = n := by simp [tbN]
theorem tbN_lt {n : Nat} : ∀ r ∈ tbN n, r.1.lt (oK (n : Int)) := by
 intro r hr
 obtain ⟨k, hk, rfl⟩ := List.mem_map.1 hr
 have := List.mem_range.1 hk
 exact .inl (by show Int.ofNat k < (n : Int); exact Int.ofNat_lt.2 this)
theorem zif : ∀ n : Nat, Srt (tbN n)
 | 0 => .nil
 | n + 1 => by
   rw [zoy]
   exact List.pairwise_append.2 ⟨zif n, List.pairwise_singleton _ _, fun a ha b hb => by rw [List.mem_singleton.1 hb]; exact tbN_lt a ha⟩
theorem accs_tbN (n : Nat) : accs (tbN n) = zep n := by
 simp [accs, tbN, zep]
theorem tput_new {k : K4} {v : Int} : ∀ {l : Tb}, (∀ r ∈ l, r.1.lt k) → tput k v l = l ++ [(k, v)]
 | [], _ => rfl
 | r :: l, h => by
   simp only [tput]
   rw [if_pos (h r List.mem_cons_self), tput_new fun s hs => h s (List.mem_cons_of_mem _ hs)]
   rfl
theorem zqy {k : K4} {v w : Int} : ∀ {l : Tb}, (∀ r ∈ l, r.1.lt k) → tput k v (l ++ [(k, w)]) = l ++ [(k, v)]
 | [], _ => by
   show tput k v [(k, w)] = [(k, v)]
   simp only [tput]
   rw [if_neg (K4.irr k)]; simp
 | r :: l, h => by
   show tput k v (r :: (l ++ [(k, w)])) = r :: (l ++ [(k, v)])
   simp only [tput]
   rw [if_pos (h r List.mem_cons_self), zqy fun s hs => h s (List.mem_cons_of_mem _ hs)]
theorem tget_new {k : K4} {l : Tb} (h : ∀ r ∈ l, r.1.lt k) : zhh k l = none := tget_self fun r hr e => K4.irr k (by have := h r hr; rwa [e] at this)
theorem zox {n i : Nat} (h : i < n) : zhh (oK (i : Int)) (tbN n) = some 0 :=
 zla (zif n) (List.mem_map.2 ⟨i, List.mem_range.2 h, rfl⟩)
theorem mixIb : Tryz.prog.follows .mixedOrders = true := by kernel_rfl
theorem add0_S : PRun Tryz.prog 137 [] [.i 0, .i 0] fun x m => x = .t [.i 0, .i 0] ∧ m = [] :=
 evalF mixIb speNrm (inl := List.range 600) (nl := 300) (n := 60) Tryz.func137 (by kernel_rfl) (r := (.t [.i 0, .i 0], [])) (by kernel_rfl)
theorem give0_S {i : Nat} (hi : i ≤ 1000) (k : Q (.i 0) [pC (tbN (i + 1)) 0]) : PRun Tryz.prog 67 [pC (tbN (i + 1)) 0] [.r 0 0, .i (i : Int), .i 0] Q := by
 have hl := zoz (i + 1)
 have hg := zox (Nat.lt_succ_self i)
 refine S67 (money_S (zif _) (by omega) ?_)
 show (bif (if (zhh (oK (i : Int)) (tbN (i + 1))).isSome = true then (0 : Int) else 3) != 0 then _ else _ : Prop)
 rw [hg]
 show PRun _ _ _ _ _
 refine add0_S.mono ?_
 rintro _ _ ⟨rfl, rfl⟩
 show PRun _ _ _ _ _
 refine adds_S (zif _) (by omega) ?_
 have e : tput (oK (i : Int)) (IntKind.wrap .i64 (tval (oK (i : Int)) (tbN (i + 1)) + 0)) (tbN (i + 1)) = tbN (i + 1) := by
  have : tval (oK (i : Int)) (tbN (i + 1)) = 0 := by unfold tval; rw [hg]; rfl
  rw [this, zoy]
  exact zqy tbN_lt
 rw [e]
 exact k
theorem load0_S {n : Nat} (hn : n ≤ 100) : PRun Tryz.prog 93 [] [.l 2 (zep n)] fun x m => x = .t [.r 0 0, .i 0] ∧ m = [pC (tbN n) 0] := by
 refine S93 ⟨fun b x l y => ∃ i : Nat, b = false ∧ x = (i : Int) ∧ i ≤ n ∧ l = (tbN i).map eT ∧ y = 0, fun _ x _ _ => (n - x).toNat, ⟨0, rfl, rfl, Nat.zero_le _, rfl, rfl⟩, ?_⟩
 rintro _ _ _ _ ⟨i, rfl, rfl, hi, rfl, rfl⟩
 rw [zf3]
 refine cIf (fun h => ?_) fun h => ?_
 · have hlt : i < n := by omega
   rw [zbf (r := [.n (i : Int), .n 0]) (by omega) (by simp [zf4 hlt])]
   simp only [ug0, ugs, ze6]
   refine cIf (fun h => absurd h (by decide)) fun _ => cIf (fun h => absurd h (by decide)) fun _ => ?_
   have hl := zoz i
   refine open_S (l := tbN i) (n := 0) (zif i) (by omega) ?_
   have e1 : zlt (i : Int) (tbN i) = 0 := by
    unfold zlt
    rw [if_neg (by omega), if_neg (by omega), tget_new tbN_lt]
    rfl
   have e2 : openL (i : Int) (tbN i) = tbN (i + 1) := by
    unfold openL
    rw [if_pos e1, tput_new tbN_lt, zoy]
   rw [e1, e2]
   show PRun _ _ _ _ _
   refine give0_S (by omega) ?_
   have e3 : IntKind.wrap .i64 ((i : Int) + 1) = ((i + 1 : Nat) : Int) := by rw [w64 (by omega) (by omega)]; omega
   show _ ∧ _
   rw [e3]
   exact ⟨⟨i + 1, by first | rfl | trivial, by first | rfl | trivial, by omega, by first | rfl | trivial, by first | rfl | trivial⟩, by omega⟩
 · have : i = n := by omega
   subst this
   exact ⟨rfl, rfl⟩
theorem eqAcc_S {n : Nat} (hn : n ≤ 100) (k : Q (.u (.b true)) []) : PRun Tryz.prog 307 [] [.l 2 (zep n), .l 2 (zep n)] Q := by
 refine S307 (cNe (fun h => absurd rfl h) fun _ => ⟨fun x => ∃ i : Nat, x = (i : Int) ∧ i ≤ n, fun x => (n - x).toNat, ⟨0, rfl, Nat.zero_le _⟩, ?_⟩)
 rintro _ ⟨i, rfl, hi⟩
 rw [zf3]
 refine cIf (fun h => ?_) fun h => k
 have hlt : i < n := by omega
 rw [zbf (r := [.n (i : Int), .n 0]) (by omega) (by simp [zf4 hlt])]
 simp only [ug0, ugs, ze6]
 rw [zbf (r := [.n (i : Int), .n 0]) (by omega) (by simp [zf4 hlt])]
 simp only [ug0, ugs, ze6]
 have e3 : IntKind.wrap .i64 ((i : Int) + 1) = ((i + 1 : Nat) : Int) := by rw [w64 (by omega) (by omega)]; omega
 rw [e3]
 simp only [beq_self_eq_true, Bool.and_self, Bool.not_true, cond_false]
 exact ⟨⟨i + 1, rfl, by omega⟩, by omega⟩
theorem same10_S {n : Nat} (hn : n ≤ 100) (k : Q (.u (.b true)) []) : PRun Tryz.prog 36 [] [.l 2 (zep n), .l 2 (zep n)] Q := by
 refine S36 (cNe (fun h => absurd rfl h) fun _ => ⟨fun x => ∃ i : Nat, x = (i : Int) ∧ i ≤ n, fun x => (n - x).toNat, ⟨0, rfl, Nat.zero_le _⟩, ?_⟩)
 rintro _ ⟨i, rfl, hi⟩
 rw [zf3]
 refine cIf (fun h => ?_) fun h => k
 refine cIf (fun _ => ?_) fun h2 => absurd h h2
 have hlt : i < n := by omega
 rw [zbf (r := [.n (i : Int), .n 0]) (by omega) (by simp [zf4 hlt])]
 simp only [ug0, ugs, ze6]
 rw [zbf (r := [.n (i : Int), .n 0]) (by omega) (by simp [zf4 hlt])]
 simp only [ug0, ugs, ze6]
 have e3 : IntKind.wrap .i64 ((i : Int) + 1) = ((i + 1 : Nat) : Int) := by rw [w64 (by omega) (by omega)]; omega
 rw [e3]
 simp only [beq_self_eq_true, Bool.and_self, Bool.not_true, cond_false]
 exact ⟨⟨i + 1, rfl, by omega⟩, by omega⟩
def zbx (n : Nat) : List (List U) := List.replicate n [.l 1 [], .l 1 []]
theorem zoe {n i : Nat} (h : i < n) : (zbx n)[i]? = some [.l 1 [], .l 1 []] := by
 unfold zbx; rw [List.getElem?_replicate, if_pos h]
theorem same01_S : PRun Tryz.prog 105 [] [.l 1 [], .l 1 []] fun x m => x = .u (.b true) ∧ m = [] :=
 evalF mixIb speNrm (inl := List.range 600) (nl := 300) (n := 60) Tryz.func105 (by kernel_rfl) (r := (.u (.b true), [])) (by kernel_rfl)
theorem same18_S {n : Nat} (hn : n ≤ 100) (k : Q (.u (.b true)) []) : PRun Tryz.prog 39 [] [.l 2 (zbx n), .l 2 (zbx n)] Q := by
 have hlen : ((zbx n).length : Int) = n := by simp [zbx]
 refine S39 (cNe (fun h => absurd rfl h) fun _ => ⟨fun x => ∃ i : Nat, x = (i : Int) ∧ i ≤ n, fun x => (n - x).toNat, ⟨0, rfl, Nat.zero_le _⟩, ?_⟩)
 rintro _ ⟨i, rfl, hi⟩
 rw [hlen]
 refine cIf (fun h => ?_) fun h => k
 refine cIf (fun _ => ?_) fun h2 => absurd h h2
 have hlt : i < n := by omega
 have hr : (zbx n)[(i : Int).toNat]? = some [.l 1 [], .l 1 []] := by simp [zoe hlt]
 have e3 : IntKind.wrap .i64 ((i : Int) + 1) = ((i + 1 : Nat) : Int) := by rw [w64 (by omega) (by omega)]; omega
 rw [zbf (by omega) hr]
 simp only [ug0, ugs, dL_l]
 rw [zbf (by omega) hr]
 simp only [ug0, ugs, dL_l]
 refine same01_S.mono ?_
 rintro _ _ ⟨rfl, rfl⟩
 rw [zau]
 simp only [Bool.not_true, cond_false]
 rw [zbf (by omega) hr]
 simp only [ug0, ugs, dL_l]
 rw [zbf (by omega) hr]
 simp only [ug0, ugs, dL_l]
 refine same01_S.mono ?_
 rintro _ _ ⟨rfl, rfl⟩
 rw [zau, e3]
 simp only [Bool.not_true, cond_false]
 exact ⟨⟨i + 1, rfl, by omega⟩, by omega⟩
end
section
set_option maxRecDepth 1000000
variable {Q : V → Mem → Prop} {c : Cat}
def zc3 (l : List Bay) : List (List U) := l.flatMap fun y => [[.n y.make, .l 1 [], .l 1 []], [.n y.lab, .l 1 [], .l 1 []]]
theorem sidesY_snoc (t : List Bay) (y : Bay) : zc3 (t ++ [y]) = zc3 t ++ [[.n y.make, .l 1 [], .l 1 []]] ++ [[.n y.lab, .l 1 [], .l 1 []]] := by simp [zc3]
theorem zeh : ∀ l : List Bay, (zc3 l).length = 2 * l.length
 | [] => rfl
 | y :: l => by
   have := zeh l
   simp only [zc3, List.flatMap_cons, List.length_append, List.length_cons, List.length_nil] at this ⊢
   omega
def SideOK (r : List U) : Prop := ∃ s : Int, r = [.n s, .l 1 [], .l 1 []] ∧ 0 ≤ s
theorem sidesY_ok {l : List Bay} (h : ∀ y ∈ l, 0 ≤ y.make ∧ 0 ≤ y.lab) : ∀ r ∈ zc3 l, SideOK r := by
 intro r hr
 obtain ⟨y, hy, hr⟩ := List.mem_flatMap.1 hr
 simp only [List.mem_cons, List.not_mem_nil, or_false] at hr
 rcases hr with rfl | rfl
 · exact ⟨_, rfl, (h y hy).1⟩
 · exact ⟨_, rfl, (h y hy).2⟩
theorem set_same {α : Type} {l : List α} {i : Nat} {r : α} (h : l[i]? = some r) : l.set i r = l := by
 obtain ⟨hi, e⟩ := List.getElem?_eq_some_iff.1 h
 rw [← e]; exact List.set_getElem_self hi
theorem zp8 (h0 : catE c = 0) : c.Sz := by
 by_cases z : c.Sz
 · exact z
 · unfold catE at h0
   rw [if_neg z] at h0
   exact absurd h0 (by decide)
abbrev bayM (c : Cat) : Mem := [.c [.w 1, .m 2], .w 331 3 (zc3 c.bays), .p .n 1 false []]
theorem bload_S (hz : c.Sz) : PRun Tryz.prog 190 [] [.l 4 (c.bays.map eY), .l 2 (zbx (2 * c.bays.length))] fun x m => x = .t [.r 0 0, .i 0] ∧ m = bayM c := by
 have hn := hz.ny
 have hb : ∀ y ∈ c.bays, 0 ≤ y.make ∧ y.make ≤ 8 ∧ 0 ≤ y.lab ∧ y.lab ≤ 8 := fun y hy => by
  have h := hz.by' y hy
  have h1 := inn_iff.1 h.2.1
  have h2 := inn_iff.1 h.2.2.1
  exact ⟨h1.1, h1.2, h2.1, h2.2⟩
 have hLl : ((zbx (2 * c.bays.length)).length : Int) = 2 * (c.bays.length : Int) := by simp [zbx]
 refine S190 (cIf (fun h => absurd h (by rw [List.length_map]; omega)) fun _ => ?_)
 refine ⟨fun x l => AtI c.bays (fun t _ => l = zc3 t) x, fun x _ => zfa c.bays x, .zero (by omega) rfl, ?_⟩
 rintro x l1 ⟨t, _ | ⟨y, l⟩, s, rfl⟩
 · have ht := s.all
   subst ht
   simp only [s.d0, cond_false, hLl, zeh]
   refine cNe (fun h => absurd (by omega) h) fun _ => ?_
   refine ⟨fun x m l => m = [] ∧ 0 ≤ x ∧ x ≤ 2 * (c.bays.length : Int) ∧ l = zc3 c.bays, fun x _ _ => (2 * (c.bays.length : Int) - x).toNat, ⟨by first | trivial | rfl, by omega, by omega, by first | trivial | rfl⟩, ?_⟩
   rintro x m l ⟨hm, h1, h2, hl0⟩
   subst hm hl0
   refine cIf (fun hlt => ?_) fun hge => ⟨by first | trivial | rfl, by first | trivial | rfl⟩
   have hlt' : x.toNat < 2 * c.bays.length := by omega
   rw [zbf (r := [.l 1 [], .l 1 []]) h1 (zoe hlt')]
   simp only [ug0, ugs, dL_l]
   have hsl := zeh c.bays
   obtain ⟨s', hs, hs0⟩ := sidesY_ok (fun y hy => ⟨(hb y hy).1, (hb y hy).2.2.1⟩) ((zc3 c.bays)[x.toNat]'(by omega)) (List.getElem_mem _)
   have hl : (zc3 c.bays)[x.toNat]? = some [.n s', .l 1 [], .l 1 []] := by rw [List.getElem?_eq_getElem (by omega), hs]
   refine ⟨h1, by omega, ?_⟩
   rw [zbf h1 hl]
   simp only [ug0, ze6]
   refine cEq (fun he => ?_) fun he => ?_
   all_goals
    simp only [zbf h1 hl, ug0, ze6]
    refine cIf (fun h => absurd h (by simp; omega)) fun _ => ?_
    refine cIf (fun h => absurd h (by simp)) fun _ => ?_
    refine cIf (fun h => absurd h (by simp)) fun _ => ?_
    refine so0_S.mono ?_
    rintro _ _ ⟨rfl, rfl⟩
    rw [zau]
    simp only [Bool.not_true, cond_false]
    refine ⟨by first | trivial | rfl, Nat.zero_le _, by first | trivial | rfl, by first | trivial | rfl, ?_⟩
    try simp only [zbf h1 hl]
    have hu : usp [U.n s', .l 1 [], .l 1 []] 1 [.l 1 []] = [.n s', .l 1 [], .l 1 []] := rfl
    have hu2 : usp [U.n s', .l 1 [], .l 1 []] 2 [.l 1 []] = [.n s', .l 1 [], .l 1 []] := rfl
    simp only [hu, set_same hl, zbf h1 hl, hu2, w64 (show -9223372036854775808 ≤ x + 1 by omega) (show x + 1 ≤ 9223372036854775807 by omega)]
    exact ⟨⟨trivial, by omega, by omega, trivial⟩, by omega⟩
 · simp only [s.d1, cond_true, s.el, eY, ug0, ugs, ze6]
   have hy := hb y (by rw [s.e]; simp)
   have ht : t.length ≤ 8 := by have := congrArg List.length s.e; simp at this; omega
   have hl := zeh t
   refine cIf (fun h => absurd h (by omega)) fun _ => cIf (fun h => absurd h (by omega)) fun _ => ⟨?_, cIf (fun h => absurd h (by omega)) fun _ => cIf (fun h => absurd h (by omega)) fun _ => ⟨?_, ?_⟩⟩
   · show _ ≤ 1000000
     simp only [List.length_cons, List.length_nil]; omega
   · show _ ≤ 1000000
     simp only [List.length_append, List.length_cons, List.length_nil]; omega
   · exact s.step (P := fun t' _ => zc3 t ++ [[.n y.make, .l 1 [], .l 1 []]] ++ [[.n y.lab, .l 1 [], .l 1 []]] = zc3 t') (sidesY_snoc t y).symm
theorem linesN_snoc (n : Nat) : zbx n ++ [[.l 1 [], .l 1 []]] = zbx (n + 1) := by
 simp [zbx, List.replicate_succ']
theorem blines_S (hz : c.Sz) (k : Q (.l 2 (zbx (2 * c.bays.length))) (bayM c)) : PRun Tryz.prog 114 (bayM c) [.r 0 0] Q := by
 have hn := hz.ny
 have hsl := zeh c.bays
 have hlen : ((zc3 c.bays).length : Int) = 2 * (c.bays.length : Int) := by omega
 have hb : ∀ y ∈ c.bays, 0 ≤ y.make ∧ 0 ≤ y.lab := fun y hy => by
  have h := hz.by' y hy
  exact ⟨(inn_iff.1 h.2.1).1, (inn_iff.1 h.2.2.1).1⟩
 refine S114 ⟨fun l x => ∃ i : Nat, x = (i : Int) ∧ i ≤ 2 * c.bays.length ∧ l = zbx i, fun _ x => (2 * (c.bays.length : Int) - x).toNat, ⟨0, rfl, Nat.zero_le _, rfl⟩, ?_⟩
 rintro _ _ ⟨i, rfl, hi, rfl⟩
 rw [hlen]
 refine cIf (fun h => ?_) fun h => ?_
 · have hlt : i < 2 * c.bays.length := by omega
   obtain ⟨s', hs, hs0⟩ := sidesY_ok hb ((zc3 c.bays)[i]'(by omega)) (List.getElem_mem _)
   have hl : (zc3 c.bays)[(i : Int).toNat]? = some [.n s', .l 1 [], .l 1 []] := by rw [Int.toNat_natCast, List.getElem?_eq_getElem (by omega), hs]
   refine ⟨by omega, h, ?_⟩
   rw [zbf (by omega) hl]
   simp only [ug0, ugs, ze6, dL_l]
   have e3 : IntKind.wrap .i64 ((i : Int) + 1) = ((i + 1 : Nat) : Int) := by rw [w64 (by omega) (by omega)]; omega
   rw [e3]
   refine ⟨by first | trivial | rfl, by first | trivial | rfl, ?_, ⟨i + 1, rfl, by omega, linesN_snoc i⟩, by omega⟩
   unfold zet zbx
   simp; omega
 · have : i = 2 * c.bays.length := by omega
   subst this
   exact k
end
section
set_option maxRecDepth 1000000
variable {Q : V → Mem → Prop} {c : Cat}
abbrev wV (n m : Nat) : V := .a [.i 0, .i 0, .l 2 [], .l 2 [], .l 2 [], .l 2 (zep n), .l 5 [], .l 9 [], .i 1, .l 2 (zbx m), .l 16 [], .l 19 [], .l 2 [], .l 3 [], .i 1, .l 4 []]
abbrev purO (n : Nat) : Ob := Ob.of fun q => q = [pC (tbN n) 0]
noncomputable abbrev bayO (c : Cat) : Ob := Ob.of fun q => q = bayM c
theorem purList_S {n : Nat} (hn : n ≤ 100) (k : Q (.l 2 (zep n)) [.o (purO n)]) : PRun Tryz.prog 50 [.o (purO n)] [.r 0 0] Q := by
 refine PRun.pack rfl fun m hm => ?_
 subst hm
 have hl := zoz n
 refine plist_S (by omega) ⟨rfl, _, fun q => q = [pC (tbN n) 0], Nrm.refl _, rfl, ?_⟩
 rw [accs_tbN]
 exact k
theorem purMoney_S {n i : Nat} (hn : n ≤ 100) (hi : i < n) (k : Q (.t [.i 0, .i 0]) [.o (purO n)]) : PRun Tryz.prog 136 [.o (purO n)] [.r 0 0, .i (i : Int)] Q := by
 refine PRun.pack rfl fun m hm => ?_
 subst hm
 have hl := zoz n
 refine money_S (zif n) (by omega) ?_
 have e : tval (oK (i : Int)) (tbN n) = 0 := by unfold tval; rw [zox hi]; rfl
 rw [e, zox hi]
 exact ⟨rfl, _, fun q => q = [pC (tbN n) 0], Nrm.refl _, rfl, k⟩
theorem bayLines_S (hz : c.Sz) (k : Q (.l 2 (zbx (2 * c.bays.length))) [.o (bayO c)]) : PRun Tryz.prog 114 [.o (bayO c)] [.r 0 0] Q := by
 refine PRun.pack rfl fun m hm => ?_
 subst hm
 exact blines_S hz ⟨rfl, _, fun q => q = bayM c, Nrm.refl _, rfl, k⟩
theorem holds_S {n : Nat} (hc : c.chars = n) (hn : n ≤ 16) {w9 : List (List U)} (k : Q (.u (.b true)) []) :
 PRun Tryz.prog 261 [] [aC c, .a [.i 0, .i 0, .l 2 [], .l 2 [], .l 2 [], .l 2 (zep (n + 1)), .l 5 [], .l 9 [], .i 1, .l 2 w9, .l 16 [], .l 19 [], .l 2 [], .l 3 [], .i 1, .l 4 []]] Q := by
 refine S261 ⟨purO (n + 1), PRun.packR (load0_S (by omega)), ?_⟩
 refine purList_S (by omega) ?_
 show PRun _ _ _ _ _
 refine eqAcc_S (by omega) ?_
 rw [zau]
 simp only [Bool.not_true, cond_false]
 have ew : IntKind.wrap .i64 (c.chars + 1) = ((n + 1 : Nat) : Int) := by rw [hc, w64 (by omega) (by omega)]; omega
 rw [ew]
 refine ⟨fun x X => ∃ i : Nat, x = (i : Int) ∧ i ≤ n + 1 ∧ X = purO (n + 1), fun x _ => (((n + 1 : Nat) : Int) - x).toNat, ⟨0, rfl, Nat.zero_le _, rfl⟩, ?_⟩
 rintro _ _ ⟨i, rfl, hi, rfl⟩
 refine cIf (fun h => ?_) fun h => k
 refine purMoney_S (by omega) (by omega) ?_
 show (bif ((0 : Int) != 0) then Q (.u (.b false)) [] else _ ∧ _ : Prop)
 refine cNe (fun h => absurd rfl h) fun _ => ?_
 have e3 : IntKind.wrap .i64 ((i : Int) + 1) = ((i + 1 : Nat) : Int) := by rw [w64 (by omega) (by omega)]; omega
 rw [e3]
 exact ⟨⟨i + 1, rfl, by omega, rfl⟩, by dsimp only; omega⟩
theorem timers_S {w5 w9 : List (List U)} : PRun Tryz.prog 314 [.c [.i 0, .i 0, .l 2 [], .l 2 [], .l 2 [], .l 2 w5, .l 5 [], .l 9 [], .i 1, .l 2 w9, .l 16 [], .l 19 [], .l 2 [], .l 3 [], .i 1, .l 4 []]] [.l 3 [], .f 315 [] [.r 0 0]] fun x m => x = .u (.b true) ∧ m = [.c [.i 0, .i 0, .l 2 [], .l 2 [], .l 2 [], .l 2 w5, .l 5 [], .l 9 [], .i 1, .l 2 w9, .l 16 [], .l 19 [], .l 2 [], .l 3 [], .i 1, .l 4 []]] :=
 evalF mixIb speNrm (inl := List.range 600) (nl := 300) (n := 60) Tryz.func314 (by kernel_rfl) (r := (.u (.b true), [.c [.i 0, .i 0, .l 2 [], .l 2 [], .l 2 [], .l 2 w5, .l 5 [], .l 9 [], .i 1, .l 2 w9, .l 16 [], .l 19 [], .l 2 [], .l 3 [], .i 1, .l 4 []]])) (by kernel_rfl)
theorem runs_S (hz : c.Sz) {w5 : List (List U)} (k : Q (.u (.b true)) []) :
 PRun Tryz.prog 262 [] [aC c, .a [.i 0, .i 0, .l 2 [], .l 2 [], .l 2 [], .l 2 w5, .l 5 [], .l 9 [], .i 1, .l 2 (zbx (2 * c.bays.length)), .l 16 [], .l 19 [], .l 2 [], .l 3 [], .i 1, .l 4 []]] Q := by
 refine S262 ⟨bayO c, PRun.packR (bload_S hz), ?_⟩
 refine timers_S.mono ?_
 rintro _ _ ⟨rfl, rfl⟩
 exact k
theorem zlu {t : Int} (k : Q (.u (.b true)) []) : PRun Tryz.prog 260 [] [.l 2 [], .i t] Q :=
 (evalF mixIb speNrm (inl := List.range 600) (nl := 300) (n := 60) Tryz.func260 (by kernel_rfl) (m := []) (args := [.l 2 [], .i t]) (r := (.u (.b true), [])) (by kernel_rfl)).mono (by rintro _ _ ⟨rfl, rfl⟩; exact k)
theorem check_S {n : Nat} (hr : c.Rg) (h0 : catE c = 0) (hc : c.chars = n) (hn : n ≤ 16) (k : Q (.i 0) []) : PRun Tryz.prog 92 [] [aC c, wV (n + 1) (2 * c.bays.length)] Q := by
 have hz := zp8 h0
 refine S92 (zn5 hr ?_)
 rw [zcj, h0]
 have is : ∀ {Q : V → Mem → Prop}, Q (.u (.b true)) [] → PRun Tryz.prog 182 [] [aC c, wV (n + 1) (2 * c.bays.length)] Q := fun k => by
  refine S182 (zlu ?_)
  rw [zau, cond_true]
  refine zlu ?_
  rw [zau, cond_true]
  refine zlu ?_
  rw [zau, cond_true]
  refine holds_S hc hn ?_
  rw [zau, cond_true]
  exact runs_S hz k
 first
 | refine cEq (fun _ => ?_) fun h => absurd rfl h
   refine is ?_
   exact k
 | refine cNe (fun h => absurd rfl h) fun _ => ?_
   refine is ?_
   exact k
noncomputable abbrev worM (c : Cat) (n : Nat) : Mem := [.c [.r 1 0, .r 2 0, .r 3 0, .r 5 0, .r 6 0, .r 7 0, .r 10 0, .i 0, .l 2 [], .l 2 [], .l 2 [], .i c.types, .l 7 (c.blues.map eB), .i c.places, .l 4 (c.bays.map eY), .i c.chars, .i c.broker, .i c.least, .i c.sales, .i 0], .o (purO (n + 1)), .c [.nl 5, .n .i64 33 (List.replicate 33 0)], .c [.nl 3, .m 4, .i 256, .i 1], .p .n 1 false [], .c [.nl 4, .nm], .c [.nl 1], .c [.i c.types, .l 7 (c.blues.map eB), .i c.places, .l 4 (c.bays.map eY), .i c.chars, .i c.broker, .i c.least, .i c.sales, .r 1 0, .r 2 0, .r 3 0, .r 5 0, .r 8 0, .r 9 0, .l 16 []], .c [.nl 13, .i 0], .o (bayO c), .c [.i c.types, .l 7 (c.blues.map eB), .i c.places, .l 4 (c.bays.map eY), .i c.chars, .i c.broker, .i c.least, .i c.sales, .r 1 0, .r 2 0, .r 3 0, .r 5 0, .l 19 []]]
noncomputable abbrev evJ (f : Func) (x : V) : Option zg7 := CodeE Tryz.prog speNrm (List.range 600) 300 60 (zbr f) (zd5 Tryz.prog f [x]) []
theorem cloneJ : PRun Tryz.prog 192 [] [.l 16 []] fun x m => x = .c 16 [] ∧ m = [] :=
 Ev.runM (by kernel_rfl) Tryz.func192 (by kernel_rfl) (c := zbr Tryz.f192) (by kernel_rfl) (rs := (evJ Tryz.f192 (.l 16 [])).getD []) (Ev.code (E := speNrm) (inl := List.range 600) (nl := 300) (n := 60) (by kernel_rfl)) (l := (endL Tryz.prog Tryz.f192 [] ((evJ Tryz.f192 (.l 16 [])).getD [])).getD []) (by kernel_rfl) (y := (.c 16 [], [])) (by kernel_rfl)
theorem cloneD : PRun Tryz.prog 194 [] [.l 19 []] fun x m => x = .c 19 [] ∧ m = [] :=
 Ev.runM (by kernel_rfl) Tryz.func194 (by kernel_rfl) (c := zbr Tryz.f194) (by kernel_rfl) (rs := (evJ Tryz.f194 (.l 19 [])).getD []) (Ev.code (E := speNrm) (inl := List.range 600) (nl := 300) (n := 60) (by kernel_rfl)) (l := (endL Tryz.prog Tryz.f194 [] ((evJ Tryz.f194 (.l 19 [])).getD [])).getD []) (by kernel_rfl) (y := (.c 19 [], [])) (by kernel_rfl)
theorem cloneK : PRun Tryz.prog 121 [] [.l 4 []] fun x m => x = .c 4 [] ∧ m = [] :=
 Ev.runM (by kernel_rfl) Tryz.func121 (by kernel_rfl) (c := zbr Tryz.f121) (by kernel_rfl) (rs := (evJ Tryz.f121 (.l 4 [])).getD []) (Ev.code (E := speNrm) (inl := List.range 600) (nl := 300) (n := 60) (by kernel_rfl)) (l := (endL Tryz.prog Tryz.f121 [] ((evJ Tryz.f121 (.l 4 [])).getD [])).getD []) (by kernel_rfl) (y := (.c 4 [], [])) (by kernel_rfl)
theorem wload_S {n : Nat} (hr : c.Rg) (h0 : catE c = 0) (hc : c.chars = n) (hn : n ≤ 16) : PRun Tryz.prog 30 [] [aC c, wV (n + 1) (2 * c.bays.length)] fun x m => x = .t [.r 0 0, .i 0] ∧ m = worM c n := by
 have hz := zp8 h0
 refine S30 (check_S hr h0 hc hn ?_)
 rw [zcj]
 refine cNe (fun h => absurd rfl h) fun _ => ⟨purO (n + 1), PRun.packR (load0_S (by omega)), ?_⟩
 refine zn5 hr ?_
 rw [zcj, h0]
 refine cNe (fun h => absurd rfl h) fun _ => ⟨bayO c, PRun.packR (bload_S hz), ?_⟩
 refine cloneJ.mono ?_
 rintro _ _ ⟨rfl, rfl⟩
 show PRun _ _ _ _ _
 refine zn5 hr ?_
 rw [zcj, h0]
 refine cNe (fun h => absurd rfl h) fun _ => ?_
 refine cloneD.mono ?_
 rintro _ _ ⟨rfl, rfl⟩
 exact ⟨rfl, rfl⟩
noncomputable abbrev worO (c : Cat) (n : Nat) : Ob := Ob.of fun q => q = worM c n
theorem wnew_S {n : Nat} (hr : c.Rg) (h0 : catE c = 0) (hc : c.chars = n) (hn : n ≤ 16) : PRun Tryz.prog 7 [] [aC c] fun x m => x = .t [.r 0 0, .i 0] ∧ m = [.o (worO c n)] := by
 have hz := zp8 h0
 have hb := hz.ny
 have e2 : IntKind.wrap .i64 (2 * ((c.bays.map eY).length : Int)) = 2 * (c.bays.length : Int) := by rw [List.length_map]; exact w64 (by omega) (by omega)
 have eN : (2 * (c.bays.length : Int)).toNat = 2 * c.bays.length := by omega
 have ew : IntKind.wrap .i64 (c.chars + 1) = ((n + 1 : Nat) : Int) := by rw [hc, w64 (by omega) (by omega)]; omega
 refine S7 (zn5 hr ?_)
 rw [zcj, h0]
 refine cNe (fun h => absurd rfl h) fun _ => ?_
 rw [e2, eN, ew]
 refine ⟨by omega, by omega, rfl, fun x x3 x4 l1 l2 l3 l4 l5 l6 x5 l7 l8 l9 l10 l11 x6 l12 => ∃ i : Nat, x = (i : Int) ∧ i ≤ n + 1 ∧ x3 = 0 ∧ x4 = 0 ∧ l1 = [] ∧ l2 = [] ∧ l3 = [] ∧ l4 = zep i ∧ l5 = [] ∧ l6 = [] ∧ x5 = 1 ∧ l7 = zbx (2 * c.bays.length) ∧ l8 = [] ∧ l9 = [] ∧ l10 = [] ∧ l11 = [] ∧ x6 = 1 ∧ l12 = [], fun x _ _ _ _ _ _ _ _ _ _ _ _ _ _ _ _ => (((n + 1 : Nat) : Int) - x).toNat, ⟨0, rfl, Nat.zero_le _, rfl, rfl, rfl, rfl, rfl, rfl, rfl, rfl, rfl, rfl, rfl, rfl, rfl, rfl, rfl, rfl⟩, ?_⟩
 rintro _ _ _ _ _ _ _ _ _ _ _ _ _ _ _ _ _ ⟨i, rfl, hi, rfl, rfl, rfl, rfl, rfl, rfl, rfl, rfl, rfl, rfl, rfl, rfl, rfl, rfl, rfl, rfl⟩
 refine cIf (fun h => ?_) fun h => ?_
 · have e3 : IntKind.wrap .i64 ((i : Int) + 1) = ((i + 1 : Nat) : Int) := by rw [w64 (by omega) (by omega)]; omega
   rw [e3]
   refine ⟨?_, ⟨i + 1, rfl, by omega, rfl, rfl, rfl, rfl, rfl, (zot i).symm, rfl, rfl, rfl, rfl, rfl, rfl, rfl, rfl, rfl, rfl⟩, by dsimp only; omega⟩
   unfold zet
   rw [zf3]
   show i + 1 ≤ _
   omega
 · have : i = n + 1 := by omega
   subst this
   exact ⟨worO c n, PRun.packR (wload_S hr h0 hc hn), rfl, rfl⟩
theorem wnewX_S (hr : c.Rg) (h0 : catE c ≠ 0) : PRun Tryz.prog 7 [] [aC c] fun x m => x = .t [.u (.p none), .i (catE c)] ∧ m = [] := by
 refine S7 (zn5 hr ?_)
 rw [zcj]
 exact cNe (fun _ => ⟨rfl, rfl⟩) fun h => absurd h h0
theorem empty_S {n : Nat} (hz : c.Sz) (hc : c.chars = n) (hn : n ≤ 16) : PRun Tryz.prog 11 [] [aC c] fun x m => x = wV (n + 1) (2 * c.bays.length) ∧ m = [] := by
 have hb := hz.ny
 have e2 : IntKind.wrap .i64 (2 * ((c.bays.map eY).length : Int)) = 2 * (c.bays.length : Int) := by rw [List.length_map]; exact w64 (by omega) (by omega)
 have eN : (2 * (c.bays.length : Int)).toNat = 2 * c.bays.length := by omega
 refine S11 ?_
 rw [e2, eN, hc]
 refine ⟨by omega, by omega, rfl, fun x x3 x4 l1 l2 l3 l4 l5 l6 x5 l7 l8 l9 l10 l11 x6 l12 => ∃ i : Nat, x = (i : Int) ∧ i ≤ n + 1 ∧ x3 = 0 ∧ x4 = 0 ∧ l1 = [] ∧ l2 = [] ∧ l3 = [] ∧ l4 = zep i ∧ l5 = [] ∧ l6 = [] ∧ x5 = 1 ∧ l7 = zbx (2 * c.bays.length) ∧ l8 = [] ∧ l9 = [] ∧ l10 = [] ∧ l11 = [] ∧ x6 = 1 ∧ l12 = [], fun x _ _ _ _ _ _ _ _ _ _ _ _ _ _ _ _ => (((n + 1 : Nat) : Int) - x).toNat, ⟨0, rfl, Nat.zero_le _, rfl, rfl, rfl, rfl, rfl, rfl, rfl, rfl, rfl, rfl, rfl, rfl, rfl, rfl, rfl, rfl⟩, ?_⟩
 rintro _ _ _ _ _ _ _ _ _ _ _ _ _ _ _ _ _ ⟨i, rfl, hi, rfl, rfl, rfl, rfl, rfl, rfl, rfl, rfl, rfl, rfl, rfl, rfl, rfl, rfl, rfl, rfl⟩
 refine cIf (fun h => ?_) fun h => ?_
 · have e3 : IntKind.wrap .i64 ((i : Int) + 1) = ((i + 1 : Nat) : Int) := by rw [w64 (by omega) (by omega)]; omega
   rw [e3]
   refine ⟨?_, ⟨i + 1, rfl, by omega, rfl, rfl, rfl, rfl, rfl, (zot i).symm, rfl, rfl, rfl, rfl, rfl, rfl, rfl, rfl, rfl, rfl⟩, by dsimp only; omega⟩
   unfold zet
   rw [zf3]
   show i + 1 ≤ _
   omega
 · have : i = n + 1 := by omega
   subst this
   exact ⟨rfl, rfl⟩
theorem norm0_S : PRun Tryz.prog 49 [] [.l 2 []] fun x m => x = .t [.l 2 [], .i 0] ∧ m = [] := by
 intro D ρ chs C h vs M F
 refine (nrmP_S (ro := []) (hr := []) (KS := fun x m => x = .t [.l 2 [], .i 0] ∧ m = []) (by rfl) (by exact ⟨rfl, rfl⟩) M F).mono ?_
 rintro v h' ⟨D', ρ', m', chs', x, n1, M1, hv, hq⟩
 obtain ⟨s, rfl⟩ := n1.pre
 exact ⟨D', s, chs', x, m', n1.le, M1, hv, hq⟩
theorem qlist0_S : PRun Tryz.prog 57 [.c [.l 3 [], .m 1, .i 256, .i 1], .p .n 1 false []] [.r 0 0] fun x m => x = .l 3 [] ∧ m = [.c [.l 3 [], .m 1, .i 256, .i 1], .p .n 1 false []] :=
 evalF mixIb speNrm (inl := List.range 600) (nl := 300) (n := 60) Tryz.func57 (by kernel_rfl) (r := (.l 3 [], [.c [.l 3 [], .m 1, .i 256, .i 1], .p .n 1 false []])) (by kernel_rfl)
noncomputable abbrev worM2 (c : Cat) (n : Nat) : Mem := [.c [.r 1 0, .r 2 0, .r 3 0, .r 5 0, .r 6 0, .r 7 0, .r 10 0, .i 0, .l 2 [], .l 2 [], .l 2 [], .i c.types, .l 7 (c.blues.map eB), .i c.places, .l 4 (c.bays.map eY), .i c.chars, .i c.broker, .i c.least, .i c.sales, .i 0], .o (purO (n + 1)), .c [.nl 5, .n .i64 33 (List.replicate 33 0)], .c [.l 3 [], .m 4, .i 256, .i 1], .p .n 1 false [], .c [.nl 4, .nm], .c [.nl 1], .c [.i c.types, .l 7 (c.blues.map eB), .i c.places, .l 4 (c.bays.map eY), .i c.chars, .i c.broker, .i c.least, .i c.sales, .r 1 0, .r 2 0, .r 3 0, .r 5 0, .r 8 0, .r 9 0, .l 16 []], .c [.nl 13, .i 0], .o (bayO c), .c [.i c.types, .l 7 (c.blues.map eB), .i c.places, .l 4 (c.bays.map eY), .i c.chars, .i c.broker, .i c.least, .i c.sales, .r 1 0, .r 2 0, .r 3 0, .r 5 0, .l 19 []]]
noncomputable abbrev worO2 (c : Cat) (n : Nat) : Ob := Ob.of fun q => q = worM2 c n
theorem wstate_S {n : Nat} (hz : c.Sz) (hn : n ≤ 16) : PRun Tryz.prog 10 [.o (worO c n)] [.r 0 0] fun x m => x = wV (n + 1) (2 * c.bays.length) ∧ m = [.o (worO2 c n)] := by
 refine PRun.pack rfl fun m hm => ?_
 subst hm
 have main : PRun Tryz.prog 10 (worM c n) [.r 0 0] fun x m' => x = wV (n + 1) (2 * c.bays.length) ∧ m' = worM2 c n := by
  refine S10 ?_
  have go : ∀ {p : Prop}, p → dup2 p ∧ p := fun h => ⟨⟨h, h⟩, h⟩
  refine go ?_
  refine norm0_S.mono ?_
  rintro _ _ ⟨rfl, rfl⟩
  show PRun _ _ _ _ _
  refine norm0_S.mono ?_
  rintro _ _ ⟨rfl, rfl⟩
  show PRun _ _ _ _ _
  refine norm0_S.mono ?_
  rintro _ _ ⟨rfl, rfl⟩
  show PRun _ _ _ _ _
  refine purList_S (by omega) ?_
  show PRun _ _ _ _ _
  refine bayLines_S hz ?_
  show PRun _ _ _ _ _
  refine qlist0_S.mono ?_
  rintro _ _ ⟨rfl, rfl⟩
  show PRun _ _ _ _ _
  refine cloneK.mono ?_
  rintro _ _ ⟨rfl, rfl⟩
  exact ⟨rfl, rfl⟩
 refine main.mono ?_
 rintro _ _ ⟨rfl, rfl⟩
 exact ⟨rfl, _, fun q => q = worM2 c n, Nrm.refl _, rfl, rfl, rfl⟩
theorem wdiff_S {n m : Nat} (hn : n ≤ 100) (hm : m ≤ 100) : PRun Tryz.prog 9 [] [wV n m, wV n m] fun x m => x = .u (.s (ByteArray.mk #[])) ∧ m = [] := by
 refine S9 (same10_S hn ?_)
 rw [zau]
 simp only [Bool.not_true, cond_false]
 refine same18_S hm ?_
 rw [zau]
 simp only [Bool.not_true, cond_false]
 exact ⟨trivial, trivial⟩
end
end Go.Proofs.YtobdpeelaadkbaaGreat
