/- The engine, part d: reads, writes and calls; lists of operations. -/
import Derived.Test.YtjcjlhpabjjflaaEc
namespace Go.Proofs.Ytjcjlhpabjjflaa
open Go

section
variable {P : Program}

theorem Sh.Ex_spec {y : Sh} {f : Value → Prop} (h : y.Ex f) : ∃ v, f v := by
  cases y <;> simp only [Sh.Ex] at h
  case sl => obtain ⟨a, n, c, h⟩ := h; exact ⟨_, h⟩
  all_goals (obtain ⟨x, h⟩ := h; exact ⟨_, h⟩)
theorem exL_spec : ∀ {l : List Value} {f : List Value → Prop}, exL l f → ∃ vs, f vs
  | [], _, h => ⟨[], h⟩
  | _ :: _, _, h => let ⟨_, h1⟩ := Sh.Ex_spec h; let ⟨_, h2⟩ := exL_spec h1; ⟨_, h2⟩
theorem exE_spec {z : Value} {f : Value → Prop} (h : exE z f) : ∃ v, f v := by
  unfold exE at h
  split at h
  · obtain ⟨vs, h⟩ := exL_spec h; exact ⟨_, h⟩
  · exact Sh.Ex_spec h
theorem exT_spec : ∀ {l : List Value} {f : List Value → Prop}, exT l f → ∃ vs, f vs
  | [], _, h => ⟨[], h⟩
  | _ :: _, _, h => let ⟨_, h1⟩ := exE_spec h; let ⟨_, h2⟩ := exT_spec h1; ⟨_, h2⟩
theorem exZ_spec {z : Value} {f : Value → Prop} (h : exZ z f) : ∃ v, f v := by
  unfold exZ at h
  split at h
  · obtain ⟨vs, h⟩ := exT_spec h; exact ⟨_, h⟩
  · exact exE_spec h
theorem typed_spec {T : TypeId} {K : Value → Heap → Prop} {v : Value} {h : Heap} (hh : typed P T K v h) : K v h := by
  obtain ⟨v', rfl, hK⟩ := exZ_spec hh
  exact hK

def YR (P : Program) (t : List Value) (o : Oper) (h : Heap) (v : Value) : Prop := ∀ w : World, w.heap = h → (execOp (ev t) o).run P w = .ok (.value v) w

theorem layOf_one {T : TypeId} {z : Value} (h : layOf P T = some (.one z)) : (∀ w, (isAgg T).run P w = .ok false w) ∧ single z = true ∧ ∃ i, P.info? T = some i ∧ i.size = 1 := by
  unfold layOf at h
  split at h
  · split at h <;> (try split at h) <;> simp at h
  · split at h <;> (try split at h) <;> simp at h
  · rename_i d i n1 n2 hu hi
    split at h
    · rename_i z' hz
      split at h
      · rename_i hs
        simp at h; subst h
        exact ⟨fun w => run_isAgg_plain hu (by cases d <;> first | rfl | exact absurd rfl (n1 _) | exact absurd rfl (n2 _ _)) w, hs.1, i, hi, hs.2⟩
      · cases h
    · cases h
  · cases h
theorem layOf_many {T : TypeId} {cs : List Value} (h : layOf P T = some (.many cs)) : (∀ w, (isAgg T).run P w = .ok true w) ∧ ∃ i, P.info? T = some i ∧ i.size = cs.length := by
  unfold layOf at h
  split at h
  · rename_i fs i hu hi
    split at h
    · rename_i cs' hz
      split at h
      · rename_i hs
        simp at h; subst h
        exact ⟨fun w => by simp [isAgg, run_underlying hu], i, hi, by simpa using hs.symm⟩
      · cases h
    · cases h
  · rename_i n e i hu hi
    split at h
    · rename_i cs' hz
      split at h
      · rename_i hs
        simp at h; subst h
        exact ⟨fun w => by simp [isAgg, run_underlying hu], i, hi, by simpa using hs.symm⟩
      · cases h
    · cases h
  · split at h <;> (try split at h) <;> simp at h
  · cases h

theorem loadS_spec {h : Heap} {b o : Nat} : ∀ {l : List Value} {i : Nat} {K : List Value → Prop}, loadS h b o l i K →
    ∃ vs, vs.length = l.length ∧ (∀ j v, vs[j]? = some v → hcell h ⟨b, o + (i + j), none⟩ = some v) ∧ K vs
  | [], i, K, hh => ⟨[], rfl, fun j v hv => by simp at hv, hh⟩
  | z :: l, i, K, hh => by
    obtain ⟨v, hv, h2⟩ := Sh.Ex_spec hh
    obtain ⟨vs, hl, hc, hK⟩ := loadS_spec h2
    refine ⟨v :: vs, by simp [hl], fun j u hu => ?_, hK⟩
    cases j with
    | zero => simp at hu; subst hu; rw [addO_eq] at hv; simpa using hv
    | succ j => have := hc j u (by simpa using hu); rw [show i + (j + 1) = i + 1 + j by omega]; exact this

theorem loadK_spec {T : TypeId} {a : Option Addr} {h : Heap} {K : Value → Prop} (hh : loadK P T a h K) :
    ∃ b o v, a = some ⟨b, o, none⟩ ∧ K v ∧ ∀ w : World, w.heap = h → (loadVar T ⟨b, o, none⟩).run P w = .ok v w := by
  unfold loadK at hh
  split at hh
  · rename_i z hl
    obtain ⟨b, o, rfl, h1⟩ := onPtr_spec hh
    obtain ⟨v, hv, hK⟩ := Sh.Ex_spec h1
    obtain ⟨ha, -, -⟩ := layOf_one hl
    refine ⟨b, o, v, rfl, hK, fun w hw => ?_⟩
    have hv' : w.cell? ⟨b, o, none⟩ = some v := by subst hw; exact hv
    simp [loadVar, ha, Go.load, Sem.run, hv']
  · rename_i cs hl
    obtain ⟨b, o, rfl, h1⟩ := onPtr_spec hh
    obtain ⟨vs, hlen, hc, hK⟩ := loadS_spec h1
    obtain ⟨ha, i, hi, hs⟩ := layOf_many hl
    refine ⟨b, o, _, rfl, hK, fun w hw => ?_⟩
    have hr : (loadCells ⟨b, o, none⟩ vs.length).run P w = .ok vs.toArray w :=
      run_loadCells_list (P := P) w ⟨b, o, none⟩ vs (fun j v hv => by subst hw; rw [add_plain]; have := hc j v hv; rw [Nat.zero_add] at this; exact this)
    simp [loadVar, ha, run_sizeOf1 hi, hs, ← hlen, hr]
  · exact hh.elim

theorem read_sound {t : List Value} {o : Oper} {h : Heap} {K : Value → Prop} (hh : readK P t o h K) : ∃ v, K v ∧ YR P t o h v := by
  obtain ⟨dst, op, ty, pos, after, guard⟩ := o
  cases op <;> simp only [readK] at hh
  case load T a =>
    split at hh
    · rename_i ad ha
      obtain ⟨b, o, v, rfl, hK, hr⟩ := loadK_spec hh
      exact ⟨v, hK, fun w hw => by simp [execOp, Instr.loadAt, Instr.sureAddr, ha, hr w hw]⟩
    · exact hh.elim
  case lookup T m k ok =>
    obtain ⟨v, hK, hr⟩ := PWp.sound hh
    obtain ⟨v', rfl, hK'⟩ := exZ_spec hK
    exact ⟨v, hK', fun w hw => by simp [execOp, hr w hw]⟩
  case call c =>
    obtain ⟨callee, args, argTypes⟩ := c
    simp only at hh
    split at hh
    · split at hh
      · rename_i x T hx hT
        have hx' : (args.map (ev t))[0]? = some (ev t x) := by rw [Array.getElem?_map, hx]; rfl
        split at hh
        · rename_i s hu hs
          exact ⟨_, hh, fun w hw => by simp [execOp, resolve, invoke, Go.builtin, Builtin.len_, goInt, hT, hx', hs, run_underlying hu]⟩
        · rename_i e a n c hu hs
          exact ⟨_, hh, fun w hw => by simp [execOp, resolve, invoke, Go.builtin, Builtin.len_, goInt, hT, hx', hs, run_underlying hu]⟩
        · rename_i k e r hu hs
          unfold lenMapK at hh
          split at hh
          · exact ⟨_, hh, fun w hw => by simp [execOp, resolve, invoke, Go.builtin, Builtin.len_, goInt, hT, hx', hs, run_underlying hu]⟩
          · rename_i b
            obtain ⟨es, cl, hm, hK⟩ := hh
            refine ⟨_, hK, fun w hw => ?_⟩
            subst hw
            simp [execOp, resolve, invoke, Go.builtin, Builtin.len_, goInt, hT, hx', hs, run_underlying hu, Go.getObj, Sem.run, hm]
        · exact hh.elim
      · exact hh.elim
    · exact hh.elim
  all_goals exact hh.elim


/-- An operation whose run is a heap-only step: its wp. -/
theorem gen_sound {t : List Value} {o : Oper} {h : Heap} {K : Value → Heap → Prop} (hh : SWp P (execOp (ev t) o) h (nextK P K)) {a : Act} (ha : a.eval = ev t) {w : World} (hw : w.heap = h)
    {next : Act → World → Prop} {Q : Exit → Act → World → Prop} (hn : ∀ v w', K v w'.heap → Same w w' → next (a.put o.dst v) w') : o.wp P a w next Q := by
  obtain ⟨n, w', hr, hK, hS⟩ := SWp.sound hh w hw
  unfold Oper.wp
  rw [ha, hr]
  cases n <;> simp only [nextK] at hK
  case value v => exact hn _ _ hK hS
  case skip => exact hn _ _ hK hS
  case enter f args =>
    have h1 := hK.2 w' rfl
    simp only [Array.toArray_toList] at h1
    exact h1.mono fun e w'' ⟨v, he, hv, hS'⟩ => by subst he; exact hn _ _ hv (hS.trans hS')

theorem storeCells_spec {b o : Nat} : ∀ {vs : List Value} {i : Nat} {h : Heap} {K : Heap → Prop}, storeS b o vs i h K → SWp P (storeCells ⟨b, o, none⟩ vs i) h fun _ h' => K h'
  | [], _, _, _, hh => hh
  | v :: vs, i, h, K, hh => by
    obtain ⟨h1, h2, h3, h4⟩ := hh
    unfold storeCells
    refine SWp.bind ?_
    rw [addO_eq] at h2 h3 h4
    exact ⟨h1, by rw [add_plain]; exact h2, by rw [add_plain]; exact h3, by rw [add_plain]; exact storeCells_spec h4⟩

theorem SWp_prog {α : Type} {s : Sem α} {h : Heap} {K : α → Heap → Prop} {a : α} (hr : ∀ w, s.run P w = .ok a w) (hx : XWp P s (fun b => b = a)) (hK : K a h) : SWp P s h K := by
  clear hr
  induction s with
  | pure b => cases hx; exact hK
  | program k ih => exact ih P hx
  | mark m k ih => exact ih hx
  | _ => exact hx.elim

theorem XWp_sizeOf {T : TypeId} {i : TypeInfo} (h : P.info? T = some i) : XWp P (sizeOf T) (fun b => b = i.size) := by
  show XWp P (Sem.bind (typeInfo T) _) _
  unfold typeInfo
  show XWp P (Sem.bind (Sem.bind program _) _) _
  simp only [program, Sem.bind, XWp, h]
  rfl

theorem storeVar_one {T : TypeId} {b o : Nat} {v : Value} {h : Heap} {K : Heap → Prop} {z : Value} (hl : layOf P T = some (.one z)) (hh : stK h ⟨b, o, none⟩ v K) : SWp P (storeVar T ⟨b, o, none⟩ v) h fun _ h' => K h' := by
  obtain ⟨-, -, i, hi, hs⟩ := layOf_one hl
  unfold storeVar
  refine SWp.bind (SWp_prog (a := i.size) (run_sizeOf1 hi) (XWp_sizeOf hi) ?_)
  obtain ⟨h1, h2, h3, h4⟩ := hh
  have hc : v.cells = #[v] := by cases v <;> simp [single] at h1 <;> rfl
  rw [hs, hc, if_neg (by simp)]
  refine SWp.bind ?_
  exact storeCells_spec (vs := [v]) (i := 0) ⟨h1, by rw [addO_eq]; exact h2, by rw [addO_eq]; exact h3, by rw [addO_eq]; exact h4⟩

theorem storeVar_many {T : TypeId} {b o : Nat} {vs : Array Value} {h : Heap} {K : Heap → Prop} {cs : List Value} (hl : layOf P T = some (.many cs)) (hn : cs.length = vs.size) (hh : storeS b o vs.toList 0 h K) :
    SWp P (storeVar T ⟨b, o, none⟩ (.agg vs)) h fun _ h' => K h' := by
  obtain ⟨-, i, hi, hs⟩ := layOf_many hl
  unfold storeVar
  refine SWp.bind (SWp_prog (a := i.size) (run_sizeOf1 hi) (XWp_sizeOf hi) ?_)
  rw [hs, if_neg (by simp [Value.cells, hn])]
  exact storeCells_spec hh

theorem call_gen {g : FuncId} (hc : Callable P g) {args : Array Value} {h : Heap} {K : Next → Heap → Prop} (hK : K (.enter g args) h) : SWp P (callFunc g args) h K := by
  obtain ⟨fn, hf, hn, hb⟩ := hc
  unfold callFunc
  show SWp P (Sem.bind program _) h K
  simp only [program, Sem.bind, SWp, hf]
  rw [if_neg (by rw [hn]; simp), if_neg (by rw [hb]; simp)]
  exact hK

theorem eff_sound {H : Hn} {t : List Value} {o : Oper} {h : Heap} {K : Value → Heap → Prop} (hh : effK P H t o h K) : SWp P (execOp (ev t) o) h (nextK P K) := by
  obtain ⟨dst, op, ty, pos, after, guard⟩ := o
  cases op <;> simp only [effK] at hh
  case store T a x =>
    split at hh
    · rename_i ad ha
      simp only [execOp]
      refine SWp.bind ?_
      simp only [Instr.storeAt]
      refine SWp.bind ?_
      rw [ha]
      unfold storeK at hh
      split at hh
      · rename_i z x' hl
        obtain ⟨b, o, rfl, h1⟩ := onPtr_spec hh
        exact storeVar_one hl h1
      · rename_i cs vs hl hx
        obtain ⟨b, o, rfl, h1⟩ := onPtr_spec hh
        obtain ⟨h1, h2⟩ := cond_spec h1
        rw [hx]
        exact storeVar_many hl (by simpa using Nat.eq_of_beq_eq_true h1) h2
      · exact hh.elim
    · exact hh.elim
  case box T x => exact hh
  case alloc T =>
    split at hh
    · rename_i z hz
      cases hi : P.info? T with
      | none => simp [hi] at hz
      | some i =>
        simp [hi] at hz
        simp only [execOp, Instr.alloc]
        refine SWp.bind (SWp.bind ?_)
        unfold zeroValue typeInfo
        refine SWp.bind (SWp.bind ?_)
        show SWp P (match P.info? T with | some i => pure i | none => stuck "no such type") h _
        rw [hi]
        show SWp P (match i.zero with | some v => pure v | none => unsupported (.resourceLimit "a value of more than 2^22 cells")) h _
        rw [hz]
        exact hh
    · exact hh.elim
  case buildSlice T n ps =>
    split at hh
    · rename_i e hu
      split at hh
      · rename_i i hi
        split at hh
        · rename_i z hz
          obtain ⟨hc, hh⟩ := cond_spec hh
          rw [Bool.and_eq_true, Bool.not_eq_true'] at hc
          split at hh
          · rename_i cells hf
            have h1 : ¬ n * i.size > 2 ^ 24 := by have := Nat.le_of_ble_eq_true hc.1; omega
            have h2 : n * i.size ≠ 0 := fun h0 => by rw [h0] at hc; simp at hc
            simp only [execOp, Instr.buildSlice]
            refine SWp.bind (SWp.bind ?_)
            unfold underlying
            refine SWp.bind ?_
            show SWp P (match P.underlying T with | some d => pure d | none => stuck "no such type") h _
            rw [hu]
            show SWp P (sizeOf e >>= _) h _
            refine SWp.bind (SWp_prog (a := i.size) (run_sizeOf1 hi) (XWp_sizeOf hi) ?_)
            rw [if_neg h1]
            rw [if_neg h2]
            refine SWp.bind (SWp.bind ?_)
            unfold typeInfo
            refine SWp.bind ?_
            show SWp P (match P.info? e with | some i => pure i | none => stuck "no such type") h _
            rw [hi]
            show SWp P (match i.zero with | some v => pure v | none => unsupported (.resourceLimit "a value of more than 2^22 cells")) h _
            rw [hz]
            refine SWp.bind ?_
            have hpa : (ps.map fun (x : Nat × Operand) => (x.1, ev t x.2)).toList = ps.toList.map fun p => (p.1, ev t p.2) := by simp
            have hra : (Array.range (n * i.size)).map (fun j => z.cells[j % z.cells.size]!) = ((List.range (n * i.size)).map fun j => z.cells[j % z.cells.size]!).toArray := by
              apply Array.ext'; simp
            have hfill := fill_list hf
            show SWp P (match Instr.fill (fun j => some (j * i.size, i.size)) ((Array.range (n * i.size)).map (z.cells[· % z.cells.size]!)) (ps.map fun (j, x) => (j, ev t x)).toList with
              | some cells => (do let a ← newRow e cells; pure (Value.slice (some a) n n) : Sem Value) | _ => stuck "buildSlice: a part of the wrong size") h _
            rw [hra]
            show SWp P (match Instr.fill (fun j => some (j * i.size, i.size)) ((List.range (n * i.size)).map fun j => z.cells[j % z.cells.size]!).toArray (ps.map fun (x : Nat × Operand) => (x.1, ev t x.2)).toList with
              | some cells => (do let a ← newRow e cells; pure (Value.slice (some a) n n) : Sem Value) | _ => stuck "buildSlice: a part of the wrong size") h _
            rw [hpa, hfill]
            exact hh
          · exact hh.elim
        · exact hh.elim
      · exact hh.elim
    · exact hh.elim
  case makeMap T r =>
    cases r with
    | none => exact hh
    | some x => exact hh
  case mapUpdate T m k v =>
    simp only [execOp]
    exact SWp.bind hh
  case makeSlice T l c =>
    simp only [execOp]
    exact SWp.bind (SWp.mono (fun v h' hv => typed_spec hv) hh)
  case range T x =>
    simp only [execOp]
    exact SWp.bind hh
  case mapEntry T m k =>
    simp only [execOp]
    exact SWp.bind hh
  case entryStore T m s v =>
    simp only [execOp]
    exact SWp.bind hh
  case next it str =>
    cases str
    · simp only [execOp]
      refine SWp.bind (SWp.mono (fun v h' hv => ?_) hh)
      rcases hv with ⟨rfl, hK⟩ | ⟨k, x, rfl, hK⟩
      · exact hK
      · exact hK
    · simp only [execOp]
      refine SWp.bind (SWp.mono (fun v h' hv => ?_) hh)
      rcases hv with ⟨rfl, hK⟩ | ⟨k, x, rfl, hK⟩
      · exact hK
      · exact hK
  case entry it =>
    simp only [execOp]
    unfold entryK at hh
    split at hh
    · refine SWp.bind (SWp.mono (fun v h' hv => ?_) hh)
      obtain ⟨a, ha⟩ := exE_spec hv
      obtain ⟨b, rfl, hK⟩ := exE_spec ha
      exact hK
    · exact hh.elim
  case call c =>
    obtain ⟨callee, args, argTypes⟩ := c
    have hargs : args.map (ev t) = (args.toList.map (ev t)).toArray := by apply Array.ext'; rw [Array.toList_map]
    simp only at hh
    split at hh
    · rename_i f
      unfold CallV at hh
      split at hh
      · rename_i g first captured hf
        simp only [execOp, resolve, hf, Deferred.ofValue]
        refine call_gen hh.1 ?_
        refine Run.mono (R := typed P ty K) ?_ (fun v h' hv => typed_spec hv)
        have he : (first ++ args.map (ev t) ++ captured).toList = first.toList ++ args.toList.map (ev t) ++ captured.toList := by simp
        rw [he]; exact hh
      · exact hh.elim
    · split at hh
      · rename_i s x hl
        have hm : args.map (ev t) = #[ev t s, ev t x] := by rw [hargs, hl]; rfl
        simp only [execOp, resolve, hm]
        exact SWp.bind (SWp.bind (SWp.mono (fun v h' hv => typed_spec hv) hh))
      · exact hh.elim
    · split at hh
      · rename_i s x hl
        have hm : args.map (ev t) = #[ev t s, ev t x] := by rw [hargs, hl]; rfl
        simp only [execOp, resolve, hm]
        exact SWp.bind (SWp.bind (SWp.mono (fun v h' hv => typed_spec hv) hh))
      · exact hh.elim
    · split at hh
      · rename_i s x hl
        have hm : args.map (ev t) = #[ev t s, ev t x] := by rw [hargs, hl]; rfl
        simp only [execOp, resolve, hm]
        exact SWp.bind (SWp.bind hh)
      · exact hh.elim
    · exact hh
  all_goals exact hh

end
end Go.Proofs.Ytjcjlhpabjjflaa
