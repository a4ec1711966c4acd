/- The fast evaluator, part d: regions, code, a function's run; all that may come of them. -/
import Derived.Test.YtobdpeelaadkbaaGreatHq3
import Derived.Lib.ConvBytes
import Derived.Laws.BytesString
import Derived.LoopNIn
set_option linter.unusedVariables false
namespace Go.Proofs.YtobdpeelaadkbaaGreat
section
variable {P : Program} {D D' : Fz} {ρ : List Loc} {m : Mem} {chs C : List zac} {h h' : zab} {T : List Value} {t : List V} {ro hr : List Nat}
theorem Own.take {E sz c : Nat} {a : Option Addr} {rows : List (List U)} {ch : zac} (x : Own D E sz a c rows ch) (r : Nat) : Own D E sz a c (rows.take r) ch := by
 cases x with
 | nil => simp only [List.take_nil]; exact .nil
 | row b c arr rows v h1 h2 h3 h4 h5 =>
   have sub : ∀ {i : Nat} {q : List U}, (rows.take r)[i]? = some q → rows[i]? = some q := fun hi => by
    rw [List.getElem?_take] at hi; split at hi; exact hi; cases hi
   exact .row b c arr _ v h1 (by simp; omega) (fun q hq => h3 q (List.mem_of_mem_take hq)) (fun i j q u hi hj => h4 i j q u (sub hi) hj) fun i j q u hi hj => h5 i j q u (sub hi) hj
theorem frz_nums {b S : Nat} {xs : List Int} (hd : D b = some (.cells (xs.map (Value.int .i64)).toArray S (0, 0))) : Rd D (.slice (some ⟨b, 0, none⟩) xs.length xs.length) (.l 1 (xs.map zje)) := by
 have := Rd.row (D := D) b 0 xs.length (xs.map (Value.int .i64)).toArray S (0, 0) (xs.map zje) 1 (fun i _ => .int .i64 (xs.getD i 0)) hd (by simp) (fun r hr => by obtain ⟨x, -, rfl⟩ := List.mem_map.1 hr; rfl)
  (fun i j r u hi hj => by
   rw [List.getElem?_map] at hi
   obtain ⟨x, hx, rfl⟩ := Option.map_eq_some_iff.1 hi
   have : j = 0 := by cases j with | zero => rfl | succ j => simp [zje] at hj
   subst this
   simp [hx])
  (fun i j r u hi hj => by
   rw [List.getElem?_map] at hi
   obtain ⟨x, hx, rfl⟩ := Option.map_eq_some_iff.1 hi
   have : j = 0 := by cases j with | zero => rfl | succ j => simp [zje] at hj
   subst this
   simp [zje] at hj
   subst hj
   simp only [List.getD_eq_getElem?_getD, hx, Option.getD_some]
   exact .int _ _)
 simpa using this
theorem cut_S {o : Oper} {KS : V → Mem → Prop} {p : Prop} (hc : cutS P (hr ++ ro) t m o KS = some p) (hs : p) (M : SAt D ρ m chs C h) (F : RpL D ρ T t) :
 ∃ v D' ρ' m' chs' x, Nx ro hr D ρ m chs D' ρ' m' chs' ∧ SAt D' ρ' m' chs' C h ∧ Rp D' ρ' v x ∧ KS x m' ∧ ∀ w, (execOp (ev T) o).run P w = .ok (.value v) w := by
 obtain ⟨dst, op, ty, pos, after, guard⟩ := o
 cases op <;> simp only [cutS] at hc <;> try (cases hc; done)
 case slice S x lo hi mx =>
  cases mx with
  | some mx => simp at hc
  | none =>
    simp only at hc
    have hx := zc4 F x
    split at hc
    · rename_i b he
      rw [he] at hx
      split at hc
      · rename_i e E sz rows hu hm
        split at hc
        · rename_i l r hl hr'
          simp only [Option.some.injEq] at hc
          subst hc
          cases hb : (inL (hr ++ ro) b || !(Nat.beq sz (zah P e) && !Nat.beq sz 0)) with
          | true => rw [hb] at hs; exact hs.elim
          | false =>
            rw [hb] at hs
            simp only [cond_false] at hs
            simp only [Bool.or_eq_false_iff, Bool.not_eq_false', Bool.and_eq_true, Bool.not_eq_true'] at hb
            have hse := Nat.eq_of_beq_eq_true hb.2.1
            subst hse
            have hne : zah P e ≠ 0 := fun h0 => by rw [h0] at hb; simp at hb
            have hnz : ∀ {A : Prop}, A → nz (zah P e) A := fun hA => by unfold nz; rw [hb.2.2]; exact hA
            obtain ⟨L, hL, hv⟩ := hx.w_inv
            obtain ⟨L', ch, h1, h2, h3⟩ := M.get (b := b) (by rw [hm]; simp)
            rw [hL] at h1; cases h1
            rw [hm] at h3
            cases h3 with
            | w own hn =>
              have hcap := own.len
              have hr2 : bnd T hi (L.n : Int) = some r := by rw [hn]; exact zd1 F hr'
              cases lo with
              | none =>
                simp only at hs
                obtain ⟨g0, g1, hK⟩ := hs
                have M1 := M.put (C' := ch :: C) hL h2 (ch' := []) (by
                 have hlt := (List.getElem?_eq_some_iff.1 h2).1
                 have S' := M.front h2
                 rw [List.eraseIdx_append_of_lt_length hlt] at S' ⊢
                 exact S'.mid.nil) (.refl D) .x
                have M2 := M1.push (L := ⟨0, L.a, r.toNat, L.c, none⟩) (ab := .w E (zah P e) (rows.take r.toNat)) (.w (own.take _) (by simp; omega))
                refine ⟨.slice L.a r.toNat L.c, D, _, _, _, _, (Nx.set (.refl D) hb.1).trans (.push M1 (.refl D)), M2, .w (L := ⟨0, L.a, r.toNat, L.c, none⟩) (by rw [← M.len]; simp), hK, fun w => yp ?_ w⟩
                simp only [zfj, hu, hv, hr2]
                exact ⟨g0, by omega, hnz rfl⟩
              | some lo =>
                simp only at hs
                obtain ⟨g0, g1, g2, hK⟩ := hs
                obtain ⟨D', l', S', hrd⟩ := own.freeze (M.front h2)
                have hpart := hrd.part (l := l.toNat) (r := r.toNat) (by omega) (by omega)
                refine ⟨_, D', ρ, _, _, _, .set l' hb.1, M.put hL h2 S'.nil l' .x, .u hpart, hK, fun w => yp ?_ w⟩
                simp only [zfj, hu, hv, zd1 F hl, hr2]
                exact ⟨g0, g1, by omega, hnz (by first | rfl | trivial)⟩
        · cases hc; exact hs.elim
      · cases hc; exact hs.elim
    · rename_i b he
      rw [he] at hx
      split at hc
      · rename_i k w xs hm
        obtain ⟨L, hL, hv⟩ := hx.r_inv
        obtain ⟨L', ch, h1, h2, h3⟩ := M.get (b := b) (by rw [hm]; simp)
        rw [hL] at h1; cases h1
        rw [hm] at h3
        cases h3 with
        | c hcc =>
          rename_i arr S'
          -- the block is frozen
          have fin : k = .i64 → inL (hr ++ ro) b = false → KS (.u (.l 1 (xs.map zje))) (ms m b .x) → xs.length = w → (∀ wd, (execOp (ev T) ⟨dst, .slice S x none none none, ty, pos, after, guard⟩).run P wd = .ok (.value (.slice (some ⟨L.b, 0, none⟩) w w)) wd) →
           ∃ v D' ρ' m' chs' x', Nx ro hr D ρ m chs D' ρ' m' chs' ∧ SAt D' ρ' m' chs' C h ∧ Rp D' ρ' v x' ∧ KS x' m' ∧ ∀ w, (execOp (ev T) ⟨dst, .slice S x none none none, ty, pos, after, guard⟩).run P w = .ok (.value v) w := by
           intro hk hb hK hw hrun
           subst hk
           have harr : arr = xs.map (.int .i64) := by
            cases hcc with
            | cons a n b => exact absurd rfl (n _ _ _)
            | n hl b => cases b; simp
           subst harr
           obtain ⟨D', l', g, S''⟩ := (M.front h2).freeze
           refine ⟨_, D', ρ, _, _, _, .set l' hb, M.put hL h2 S''.nil l' .x, .u (frz_nums (g _ (List.mem_singleton_self _))), hK, fun wd => ?_⟩
           rw [hrun wd, hw]
          have hlen : xs.length = w := by
           cases hcc with
           | cons a n b => exact absurd rfl (n _ _ _)
           | n hl b => exact hl
          have k3 : Nat.beq (zaq k) 3 = true → k = .i64 := fun hk => by cases k <;> first | rfl | simp [zaq] at hk
          split at hc
          · rename_i n e hu
            simp only [Option.some.injEq] at hc
            subst hc
            obtain ⟨hq, hK⟩ := zaa hs
            simp only [Bool.and_eq_true, Bool.not_eq_true'] at hq
            have e1 := Nat.eq_of_beq_eq_true hq.1.1.2
            have e2 := Nat.eq_of_beq_eq_true hq.1.2
            refine fin (k3 hq.2) hq.1.1.1 hK hlen fun wd => yp ?_ wd
            have h0 : (0 : Int) ≤ (n : Int) := Int.natCast_nonneg n
            simp only [zfj, hu, hv, bnd]
            refine ⟨h0, Int.le_refl _, ?_⟩
            rw [e2, ← e1]
            simp [nz, slA, zhi]
          · rename_i A hu
            split at hc
            · rename_i n e hA
              simp only [Option.some.injEq] at hc
              subst hc
              obtain ⟨hq, hK⟩ := zaa hs
              simp only [Bool.and_eq_true, Bool.not_eq_true'] at hq
              have e1 := Nat.eq_of_beq_eq_true hq.1.1.2
              have e2 := Nat.eq_of_beq_eq_true hq.1.2
              refine fin (k3 hq.2) hq.1.1.1 hK hlen fun wd => yp ?_ wd
              have h0 : (0 : Int) ≤ (n : Int) := Int.natCast_nonneg n
              simp only [zfj, hu, hv, hA, bnd]
              refine ⟨h0, Int.le_refl _, ?_⟩
              rw [e2, ← e1]
              simp [nz, slA, zhi]
            · cases hc; exact hs.elim
          · cases hc; exact hs.elim
      · cases hc; exact hs.elim
    · cases hc
theorem zop {b : ByteArray} {i : Nat} {r : List U} (hi : (zmu b)[i]? = some r) : ∃ c, b.data.toList[i]? = some c ∧ [U.i .u8 (c.toNat : Int)] = r := by
 unfold zmu at hi
 rw [List.getElem?_map] at hi
 exact Option.map_eq_some_iff.1 hi
theorem str_S {o : Oper} {x : V} (hs : strS P t m o = some x) (M : SAt D ρ m chs C h) (F : RpL D ρ T t) (w : World) (hw : w.heap = h) :
 ∃ v w' D', (execOp (ev T) o).run P w = .ok (.value v) w' ∧ Le D D' ∧ St D' (chs ++ C) w'.heap ∧ Rp D' ρ v x ∧ Same w w' := by
 obtain ⟨dst, op, ty, pos, after, guard⟩ := o
 unfold strS at hs
 cases op <;> simp only at hs <;> try (cases hs; done)
 case convert s d y =>
  split at hs
  · rename_i sd e b h1 h2 h3
    split at hs
    · rename_i h4
      cases hs
      have hx := zc4 F y
      rw [h3] at hx
      have hx := u_str hx
      have hrun : (execOp (ev T) ⟨dst, .convert s d y, ty, pos, after, guard⟩).run P w = .ok (.value (.slice (some ⟨w.heap.size, 0, none⟩) b.size (grownCap w b.size 0 e))) (Lib.bytesWorld w e b) := by
       simp only [execOp, hx]
       rw [Sem.run_bind, Lib.run_convert_string_bytes w s d e b h1 h2 h4]
       rfl
      have k : KB [] h (Lib.bytesWorld w e b).heap := by
       subst hw
       exact ⟨by rw [Lib.bytesWorld_size]; omega, fun j hj _ => Lib.bytesWorld_at_old w e b j hj⟩
      have hnew := Lib.bytesWorld_at_new w e b
      have S1 : St D ([(w.heap.size, .cells (Lib.bytesCells w e b) e ((Lib.bytesCells w e b).size, (Lib.bytesCells w e b).size + 1))] :: (chs ++ C)) (Lib.bytesWorld w e b).heap :=
       M.st.nil.upd k (by simpa using hnew) (by simp) (by simp [hw])
      obtain ⟨D', l, g, S2⟩ := S1.freeze
      refine ⟨_, _, D', hrun, l, S2, .u ?_, ⟨rfl, rfl, rfl, Nat.le_succ _⟩⟩
      have hlen : (zmu b).length = b.size := by simp [zmu]
      rw [← hlen]
      refine .row w.heap.size 0 _ _ e _ (zmu b) 1 (fun i _ => .int .u8 (b.data.toList.getD i 0).toNat) (g _ (List.mem_singleton_self _)) ?_ (by simp [zmu]) (fun i j r u hi hj => ?_) fun i j r u hi hj => ?_
      · rw [hlen]; exact grownCap_ge _ _ _ _
      · obtain ⟨c, hc, rfl⟩ := zop hi
        have hib : i < b.size := by
         have := (List.getElem?_eq_some_iff.1 hc).1
         simpa using this
        have hj0 : j = 0 := by have := (List.getElem?_eq_some_iff.1 hj).1; simp at this; omega
        subst hj0
        rw [Nat.zero_add, Nat.mul_one, Nat.add_zero, ← zao hnew i]
        exact Lib.bytesWorld_cell w e b i hib
      · obtain ⟨c, hc, rfl⟩ := zop hi
        have hj0 : j = 0 := by have := (List.getElem?_eq_some_iff.1 hj).1; simp at this; omega
        subst hj0
        cases hj
        rw [List.getD_eq_getElem?_getD, hc]
        exact .int _ _
    · cases hs
  · rename_i e hA hB
    have h1 : P.underlying s = some (.slice e) := by assumption
    have h2 : P.underlying d = some .string := by assumption
    split at hs
    · rename_i rows h4 h5
      split at hs
      · rename_i ns hns
        cases hs
        have hrows := byteR_S hns
        obtain ⟨a, c, hv, hsrc⟩ := srcS_S h5 M (zc4 F y)
        have hrun := bstr_run (P := P) (w := w) (c := c) hrows (by rw [hw]; exact hsrc)
        refine ⟨.string (strOf ns), w, D, ?_, .refl D, by rw [hw]; exact M.st, .u (.str _), .refl w⟩
        simp only [execOp, hv]
        rw [Sem.run_bind, run_convert_bytes_string w s d e a _ _ h1 h4 h2, hrun]
        rfl
      · cases hs
    · cases hs
  · cases hs
theorem op_S {X : Fz → List Loc → Prop} {call : zb8} (hcall : zgr P X ro hr call) (hx : X D ρ) {o : Oper} {KS : V → Mem → Prop} {a : Act} {w : World} {vw : Bool} (hs : opS P vw (hr ++ ro) call t m o KS) (M : SAt D ρ m chs C w.heap) (F : RpL D ρ a.tmps.toList t)
 {next : Act → World → Prop} {Q : Exit → Act → World → Prop} (hn : ∀ v w', zcy ro hr D ρ m chs C KS v w'.heap → Same w w' → next (a.put o.dst v) w') : o.wp P a w next Q := by
 unfold opS at hs
 split at hs
 · rename_i p hc
   cases vw with
   | true =>
     have hc : strP P t m o KS = some p := hc
     unfold strP at hc
     cases ho : strO P o with
     | false => rw [ho] at hc; cases hc
     | true =>
       rw [ho] at hc
       simp only [cond_true] at hc
       split at hc
       · rename_i x hx'
         cases hc
         obtain ⟨v, w', D', hrun, l, S', r, same⟩ := str_S hx' M F w rfl
         unfold Oper.wp
         rw [za0, hrun]
         exact hn v w' ⟨D', ρ, m, chs, x, ⟨l, ⟨[], by simp⟩, fun _ _ _ => rfl, fun _ _ _ => rfl, Nat.le_refl _⟩, M.mono l S', r.mono (.refl _) [] |> fun r => by rwa [List.append_nil] at r, hs⟩ same
       · cases hc; exact hs.elim
   | false =>
     have hc : cutS P (hr ++ ro) t m o KS = some p := hc
     obtain ⟨v, D', ρ', m', chs', x, n, M', hv, hK, hrun⟩ := cut_S hc hs M F
     unfold Oper.wp
     rw [za0, hrun w]
     exact hn v w ⟨D', ρ', m', chs', x, n, M', hv, hK⟩ (.refl w)
 · cases hq : zgn o with
   | true =>
     rw [hq] at hs
     simp only [cond_true] at hs
     obtain ⟨v, x, hK, hv, hrun⟩ := quiet_S hs M F
     unfold Oper.wp
     rw [za0, hrun w (.inr (M.hs _ rfl))]
     exact hn v w ⟨D, ρ, m, chs, x, .refl, M, hv, hK⟩ (.refl w)
   | false =>
     rw [hq] at hs
     simp only [cond_false] at hs
     exact zgh (eff_S hcall hx hs M F) (za0 a) rfl hn
theorem zqu : ∀ (t : List V) (d : Nat), zk5 t d (zdx t d) = t
 | [], _ => rfl
 | _ :: _, 0 => rfl
 | y :: t, d + 1 => by simp only [zk5, zdx]; rw [zqu t d]
theorem guard_S {ops : List Oper} {o : Oper} {a : Act} {A B : List V → Prop} (hs : zh0 ops o t A B) (F : RpL D ρ a.tmps.toList t) :
 (Region.wanted o (yielded ops.toArray a.tmps) = true ∧ A t) ∨ (Region.wanted o (yielded ops.toArray a.tmps) = false ∧ B t) := by
 have key : zg1 ops o a.tmps.toList (fun _ => A t) (fun _ => B t) := by
  unfold zh0 at hs
  unfold zg1
  split at hs
  · rename_i hg; (try rw [hg]); exact hs
  · rename_i hg; (try rw [hg]); exact hs
  · rename_i d want hg
    (try rw [hg])
    split at hs
    · rename_i c he
      have hv := F.get d
      rw [he] at hv
      simp only [zqx hv]
      have e : zk5 t d (.u (.b c)) = t := by rw [← he]; exact zqu t d
      cases c <;> cases want <;> simp only [cond_true, cond_false] at hs ⊢ <;> (rw [e] at hs; exact hs)
    · rename_i he
      have hv := F.get d
      rw [he] at hv
      have e : zd0 a.tmps.toList d = undef := by
       generalize zd0 a.tmps.toList d = v at hv
       cases hv with
       | t h => cases h; rfl
      simp only [e, undef]
      exact hs
    · exact hs.elim
 exact zd4 key
structure UpS (md : List Nat) (T : List Value) (w : World) (ro hr : List Nat) (D : Fz) (ρ : List Loc) (m : Mem) (chs C : List zac) (K : List V → Mem → Prop) (a' : Act) (w' : World) : Prop where
 df : a'.defers = []
 sm : Same w w'
 ag : Agr md T a'.tmps.toList
 ex : ∃ D' ρ' m' chs' t', Nx ro hr D ρ m chs D' ρ' m' chs' ∧ SAt D' ρ' m' chs' C w'.heap ∧ RpL D' ρ' a'.tmps.toList t' ∧ K t' m'
def wpG (P : Program) (ops : List Oper) (Q : Exit → Act → World → Prop) : Nat → List (Nat × (World → Prop)) → Array Bool → Act → World → Prop
 | 0, _, listed, a, w => Region.ready .any ops.toArray listed = [] ∧ Q .normal a w
 | n + 1, Cs, listed, a, w => (Region.ready .any ops.toArray listed = [] → Q .normal a w) ∧
   ∀ i ∈ Region.ready .any ops.toArray listed, wpOp P ops.toArray Q i (fun a' w' => (∀ c ∈ Cs, zc7 ops ops.length c.1 i = false → c.2 w → c.2 w') ∧ wpG P ops Q n (Cs.filter fun c => !zc7 ops ops.length c.1 i) (listed.setIfInBounds i true) a' w') a w
theorem wpG_any {ops : List Oper} {Q : Exit → Act → World → Prop} : ∀ (n : Nat) (Cs : List (Nat × (World → Prop))) (listed : Array Bool) (a : Act) (w : World), wpG P ops Q n Cs listed a w → wpAny P .any ops.toArray Q n listed a w
 | 0, _, _, _, _, h => h
 | n + 1, _, _, _, _, h => ⟨h.1, fun i hi => wpOp_mono (fun a' w' hh => wpG_any n _ _ a' w' hh.2) (h.2 i hi)⟩
theorem wpG_mono {ops : List Oper} {Q : Exit → Act → World → Prop} : ∀ (n : Nat) (Cs Cs' : List (Nat × (World → Prop))) (listed : Array Bool) (a : Act) (w : World), (∀ c ∈ Cs, c ∈ Cs') → wpG P ops Q n Cs' listed a w → wpG P ops Q n Cs listed a w
 | 0, _, _, _, _, _, _, h => h
 | n + 1, Cs, Cs', listed, a, w, hs, h => ⟨h.1, fun k hk => wpOp_mono (fun a' w' hh => ⟨fun c hc => hh.1 c (hs c hc), wpG_mono n _ _ _ _ _ (fun c hc => by
     rw [List.mem_filter] at hc ⊢; exact ⟨hs c hc.1, hc.2⟩) hh.2⟩) (h.2 k hk)⟩
theorem zkf {ops : List Oper} {Q : Exit → Act → World → Prop} {i : Nat} {oi : Oper} {v : Value} {C : World → Prop} (hi : ops[i]? = some oi)
 (hsel : ∀ (j : Nat) (o : Oper) cs b, ops[j]? = some o → o.op ≠ .select cs b) (hQ : ∀ c a w, ¬ Q (.panic c) a w) (hQo : ∀ a w, ¬ Q .outgrown a w) :
 ∀ (fuel : Nat) (Cs Cs' : List (Nat × (World → Prop))) (listed : Array Bool) (a : Act) (w : World), (∀ c ∈ Cs, c ∈ Cs') → ((∀ w, C w) ∨ (i, C) ∈ Cs') → Closed ops listed →
   (∀ j oj, ops[j]? = some oj → j ≠ i → listed.getD j true = false → (∀ e ∈ oj.after, Region.binds .any e = true → e.on ≠ i) → oi.apart ops.toArray oj = true) →
   i ∈ Region.ready .any ops.toArray listed → YieldC P ops oi v C a → C w →
   wpG P ops Q fuel Cs' (listed.setIfInBounds i true) (a.put oi.dst v) w → wpG P ops Q (fuel + 1) Cs listed a w := by
 intro fuel
 induction fuel with
 | zero =>
   intro Cs Cs' listed a w hsub hiC hcl _ hr hy hCw H
   refine ⟨fun h => (by rw [h] at hr; cases hr), fun j hj => ?_⟩
   by_cases hji : j = i
   · subst hji; exact hy.wpOp hi hCw ⟨fun _ _ _ h => h, H⟩
   · have := ready_mono hj hji
     rw [H.1] at this
     cases this
 | succ fuel ih =>
   intro Cs Cs' listed a w hsub hiC hcl hfree hr hy hCw H
   refine ⟨fun h => (by rw [h] at hr; cases hr), fun j hj => ?_⟩
   by_cases hji : j = i
   · subst hji
     refine hy.wpOp hi hCw ⟨fun _ _ _ h => h, wpG_mono _ _ _ _ _ _ (fun c hc => hsub c (List.mem_filter.1 hc).1) H⟩
   · have h1 := H.2 j (ready_mono hj hji)
     obtain ⟨hjun, oj, hoj, hall⟩ := mem_ready.1 hj
     have hoj' : ops[j]? = some oj := by simpa using hoj
     have hiun := (mem_ready.1 hr).1
     have hil : listed.getD i false = false := by
      rcases Nat.lt_or_ge i listed.size with h' | h'
      · simp [h'] at hiun ⊢; exact hiun
      · simp [Array.getElem?_eq_none h'] at hiun
     have hnot : ∀ e ∈ oj.after, Region.binds .any e = true → e.on ≠ i := fun e he hb heq => by
      have h1 := hall e he hb
      rw [heq, hil] at h1
      cases h1
     have hnw : zc7 ops ops.length i j = false := by
      cases hw : zc7 ops ops.length i j with
      | false => rfl
      | true =>
        have := zfb hcl ops.length j oj hoj' hall hw
        rw [hil] at this; cases this
     have h2 := zqs hoj' (hfree j oj hoj' hji hjun hnot) (fun cs b => hsel i oi cs b hi) (fun cs b => hsel j oj cs b hoj') hQ hQo hy h1
     have hfree' : ∀ k ok, ops[k]? = some ok → k ≠ i → (listed.setIfInBounds j true).getD k true = false →
      (∀ e ∈ ok.after, Region.binds .any e = true → e.on ≠ i) → oi.apart ops.toArray ok = true := fun k ok hk hki hun hno => by
      refine hfree k ok hk hki ?_ hno
      by_cases hjk : j = k
      · subst hjk; exact hjun
      · rw [getD_set_ne true hjk] at hun; exact hun
     refine wpOp_mono (fun a' w' h3 => ⟨fun c hc => h3.2.1 c (hsub c hc), ih _ (Cs'.filter fun c => !zc7 ops ops.length c.1 j) (listed.setIfInBounds j true) a' w' (fun c hc => by rw [List.mem_filter] at hc ⊢; exact ⟨hsub c hc.1, hc.2⟩) ?_ (hcl.set hj) hfree' (ready_mono hr (Ne.symm hji)) h3.1 ?_ ?_⟩) h2
     · rcases hiC with hC | hC
       · exact .inl hC
       · exact .inr (List.mem_filter.2 ⟨hC, by simp [hnw]⟩)
     · rcases hiC with hC | hC
       · exact hC w'
       · exact h3.2.1 (i, C) hC hnw hCw
     · rw [Array.setIfInBounds_comm _ _ hji]
       exact h3.2.2
def HeldOk (D : Fz) (chs : List zac) (held : List (Nat × List Nat)) (Cs : List (Nat × (World → Prop))) : Prop :=
 ∀ c ∈ Cs, ∃ bs, (c.1, bs) ∈ held ∧ ∀ w, Hs D chs bs w → c.2 w
theorem heldB_mem {ops : List Oper} {e : Nat} : ∀ {held : List (Nat × List Nat)} {i : Nat} {bs : List Nat} {b : Nat}, (i, bs) ∈ held → zc7 ops ops.length i e = false → inL bs b = true → inL (zed ops e held) b = true
 | (j, cs) :: held, i, bs, b, hm, hw, hb => by
   simp only [zed]
   rcases List.mem_cons.1 hm with h1 | h1
   · cases h1
     rw [hw, cond_false]
     exact zpv hb
   · have := heldB_mem h1 hw hb
     cases zc7 ops ops.length j e
     · rw [cond_false, inL_iff, List.mem_append]; exact .inr (inL_iff.1 this)
     · exact this
theorem Nx.weak {hx : List Nat} {D' : Fz} {ρ' : List Loc} {m' : Mem} {chs' : List zac} (n : Nx ro (hx ++ hr) D ρ m chs D' ρ' m' chs') : Nx ro hr D ρ m chs D' ρ' m' chs' where
 le := n.le
 pre := n.pre
 keep b h1 h2 := n.keep b (by rw [inL_iff] at h1 ⊢; simp [h1]) h2
 same b h1 h2 := n.same b (by rw [inL_iff] at h1 ⊢; simp at h1 ⊢; rcases h1 with h1 | h1 <;> simp [h1]) h2
 len := n.len
theorem draw_S {vw : Bool} {X : Fz → List Loc → Prop} (hX : ∀ {D D' : Fz} {ρ : List Loc} (s : List Loc), X D ρ → Le D D' → X D' (ρ ++ s)) {call : List Nat → zb8} (hcall : ∀ hx, zgr P X ro (hx ++ hr) (call (hx ++ hr))) {ops : List Oper} {K : List V → Mem → Prop} {md : List Nat} {Q : Exit → Act → World → Prop} (hsel : Region.noSelect ops.toArray = true)
 (hQ : ∀ c a w, ¬ Q (.panic c) a w) (hQo : ∀ a w, ¬ Q .outgrown a w) (hm : ∀ o ∈ ops, ∀ d, o.dst = some d → d ∈ md) :
 ∀ (n : Nat) (done : List Nat) (held : List (Nat × List Nat)) (Cs : List (Nat × (World → Prop))) (listed : Array Bool) (a : Act) (w : World) (t : List V) (D : Fz) (ρ : List Loc) (m : Mem) (chs : List zac), zfv P vw ro hr call ops K n done held t m → zg2 ops n done = true →
   Lst ops done listed → Closed ops listed → a.defers = [] → X D ρ → SAt D ρ m chs C w.heap → RpL D ρ a.tmps.toList t → HeldOk D chs held Cs → (∀ a' w', UpS md a.tmps.toList w ro hr D ρ m chs C K a' w' → Q .normal a' w') → wpG P ops Q n Cs listed a w := by
 intro n
 induction n with
 | zero =>
   intro done held Cs listed a w t D ρ m chs hh hB hL hcl hd xx M F hH hK
   refine ⟨?_, hK a w ⟨hd, .refl w, .refl _ _, D, ρ, m, chs, t, .refl, M, F, hh⟩⟩
   simp only [zg2, List.all_eq_true, List.mem_range] at hB
   rw [List.eq_nil_iff_forall_not_mem]
   intro i hi
   obtain ⟨h0, o, ho, -⟩ := mem_ready.1 hi
   have hlt : i < ops.length := by
    have := (Array.getElem?_eq_some_iff.1 ho).1
    simpa using this
   rw [hL.eq i hlt, hB i hlt] at h0
   cases h0
 | succ n ih =>
   intro done held Cs listed a w t D ρ m chs hh hB hL hcl hd xx M F hH hK
   simp only [zfv] at hh
   simp only [zg2] at hB
   have sel : ∀ (j : Nat) (o : Oper) cs b, ops[j]? = some o → o.op ≠ .select cs b := fun j o cs b hj => Region.noSelect_spec hsel j o cs b (by simpa using hj)
   -- what is shown of the rest
   have rest : ∀ (i : Nat) (o : Oper) (ho : ops[i]? = some o) (hri : i ∈ Region.ready .any ops.toArray listed) (hB2 : zg2 ops n (i :: done) = true) (held' : List (Nat × List Nat)) (Cs' : List (Nat × (World → Prop))) (v : Value) (x : V) (w' : World) (D' : Fz) (ρ' : List Loc) (m' : Mem) (chs' : List zac),
    zfv P vw ro hr call ops K n (i :: done) held' (znc t o.dst x) m' → Same w w' → Nx ro hr D ρ m chs D' ρ' m' chs' → SAt D' ρ' m' chs' C w'.heap → Rp D' ρ' v x → HeldOk D' chs' held' Cs' →
    wpG P ops Q n Cs' (listed.setIfInBounds i true) (a.put o.dst v) w' := fun i o ho hri hB2 held' Cs' v x w' D' ρ' m' chs' h1 hS nx M' hv hH' => by
    have hilt : i < ops.length := (List.getElem?_eq_some_iff.1 ho).1
    have homem : o ∈ ops := List.mem_of_getElem? ho
    have hput : ∀ v, Agr md a.tmps.toList (a.put o.dst v).tmps.toList := fun v => by rw [zcb]; exact .put v fun d hd => hm o homem d hd
    refine ih (i :: done) held' Cs' _ (a.put o.dst v) w' _ D' ρ' m' chs' h1 hB2 (hL.set i hilt) (hcl.set hri) (by rw [zaj]; exact hd) (by obtain ⟨s, rfl⟩ := nx.pre; exact hX s xx nx.le) M' (by rw [zcb]; exact (nx.rpL F).put hv) hH' fun a' w'' hU => ?_
    obtain ⟨D2, ρ2, m2, c2, t2, n2, r⟩ := hU.ex
    exact hK a' w'' ⟨hU.df, hS.trans hU.sm, (hput v).trans hU.ag, D2, ρ2, m2, c2, t2, nx.trans n2, r⟩
   cases hn : zjp ops done with
   | some i =>
     obtain ⟨hrd, o, ho, hq⟩ := zn8 hn
     rw [hn] at hh hB
     simp only [ho, Bool.and_eq_true] at hh hB
     obtain ⟨hB1, hB2⟩ := hB
     have hri : i ∈ Region.ready .any ops.toArray listed := (zdf hL).2 hrd
     have rest := rest i o ho hri hB2
     have hfree : ∀ j oj, ops[j]? = some oj → j ≠ i → listed.getD j true = false → (∀ e ∈ oj.after, Region.binds .any e = true → e.on ≠ i) → o.apart ops.toArray oj = true := by
      intro j oj hj hji hun hno
      have hjlt : j < ops.length := (List.getElem?_eq_some_iff.1 hj).1
      have h1 := List.all_eq_true.1 hB1 j (List.mem_range.2 hjlt)
      rw [hj] at h1
      rw [hL.eq j hjlt] at hun
      simp only [Bool.or_eq_true, beq_iff_eq, hji, false_or, hun, Bool.false_eq_true, List.any_eq_true, Bool.and_eq_true] at h1
      rcases h1 with ⟨e, he, hb, hon⟩ | h1
      · exact absurd hon (hno e (by simpa using he) hb)
      · exact h1
     rcases guard_S hh F with ⟨hw, h1⟩ | ⟨hw, h1⟩
     · obtain ⟨v, x, hKx, hv, hr'⟩ := quiet_S h1 M F
       cases hp : zjo o with
       | true =>
         rw [hp] at hKx
         simp only [cond_true] at hKx
         exact zkf (C := fun _ => True) ho sel hQ hQo n Cs Cs listed a w (fun _ h => h) (.inl fun _ => trivial) hcl hfree hri (.inl ⟨hw, fun w' _ => by rw [za0]; exact hr' w' (.inl hp)⟩) trivial (rest held Cs v x w D ρ m chs hKx (.refl w) .refl M hv hH)
       | false =>
         rw [hp] at hKx
         simp only [cond_false] at hKx
         refine zkf (C := fun w' => (execOp (ev a.tmps.toList) o).run P w' = .ok (.value v) w') ho sel hQ hQo n Cs ((i, fun w' => (execOp (ev a.tmps.toList) o).run P w' = .ok (.value v) w') :: Cs) listed a w (fun c hc => List.mem_cons_of_mem _ hc)
          (.inr (List.mem_cons_self ..)) hcl hfree hri (.inl ⟨hw, fun w' hw' => by rw [za0]; exact hw'⟩) (hr' w (.inr (M.hs _ rfl))) (rest _ _ v x w D ρ m chs hKx (.refl w) .refl M hv ?_)
         intro c hc
         rcases List.mem_cons.1 hc with rfl | hc
         · exact ⟨_, List.mem_cons_self .., fun w hw => hr' w (.inr hw)⟩
         · obtain ⟨bs, h1, h2⟩ := hH c hc
           exact ⟨bs, List.mem_cons_of_mem _ h1, h2⟩
     · exact zkf (C := fun _ => True) ho sel hQ hQo n Cs Cs listed a w (fun _ h => h) (.inl fun _ => trivial) hcl hfree hri (.inr ⟨hw, rfl⟩) trivial (rest held Cs undef (.t []) w D ρ m chs h1 (.refl w) .refl M (.t .nil) hH)
   | none =>
     rw [hn] at hh hB
     simp only at hh hB
     obtain ⟨hne, hall⟩ := ziz hh
     have hmem : ∀ j, j ∈ Region.ready .any ops.toArray listed → j ∈ zbi ops done := fun j hj => by
      have hjr := (zdf hL).1 hj
      have hjlt : j < ops.length := by
       obtain ⟨oj, hoj, -⟩ := (mem_ready.1 hj).2
       have := (Array.getElem?_eq_some_iff.1 hoj).1
       simpa using this
      exact List.mem_filter.2 ⟨List.mem_range.2 hjlt, hjr⟩
     refine ⟨fun h0 => ?_, fun j hj => ?_⟩
     · cases hr : zbi ops done with
       | nil => exact (hne hr).elim
       | cons j l =>
         have h1 : j ∈ zbi ops done := by rw [hr]; exact List.mem_cons_self ..
         have h2 : j ∈ Region.ready .any ops.toArray listed := (zdf hL).2 (List.mem_filter.1 h1).2
         rw [h0] at h2; cases h2
     · have hjm := hmem j hj
       have hh := hall j hjm
       have hB := List.all_eq_true.1 hB j hjm
       cases ho : ops[j]? with
       | none => rw [ho] at hh; exact hh.elim
       | some o =>
         rw [ho] at hh hB
         simp only [Bool.and_eq_true, Bool.not_eq_true', Bool.or_eq_false_iff] at hh hB
         obtain ⟨⟨hp, hro⟩, hB2⟩ := hB
         have rest := rest j o ho hj hB2
         unfold wpOp
         simp only [List.getElem?_toArray, ho]
         rcases guard_S hh F with ⟨hw, h1⟩ | ⟨hw, h1⟩
         · rw [if_pos hw]
           refine .inl (zgh (eff_S (hcall _) xx h1 M F) (za0 a) rfl fun v w' hP hS => ?_)
           obtain ⟨D', ρ', m', chs', x, nx, M', hv, hKx⟩ := hP
           have keep : ∀ c ∈ Cs, ∀ bs, (c.1, bs) ∈ held → zc7 ops ops.length c.1 j = false → ∀ b, inL bs b = true → b < chs.length → chs'[b]? = chs[b]? := fun c _ bs hbs hwt b hb hlt =>
            nx.keep b (zpv (heldB_mem hbs hwt hb)) (by rw [← M.lch]; exact hlt)
           refine ⟨fun c hc hcw _ => ?_, ?_⟩
           · obtain ⟨bs, g1, g2⟩ := hH c hc
             refine g2 w' fun bb ob hcov => ?_
             rcases hcov with hd | ⟨b, ch, h3, h4, h5⟩
             · exact (M'.st.fz bb ob (nx.le _ _ hd)).1
             · exact M'.own (b := b) (ch := ch) (by rw [keep c hc bs g1 hcw b h3 (List.getElem?_eq_some_iff.1 h4).1]; exact h4) h5
           · refine rest held _ v x w' D' ρ' m' chs' hKx hS nx.weak M' hv fun c hc => ?_
             rw [List.mem_filter] at hc
             have hcw : zc7 ops ops.length c.1 j = false := by simpa using hc.2
             obtain ⟨bs, g1, g2⟩ := hH c hc.1
             refine ⟨bs, g1, fun w2 hw2 => g2 w2 fun bb ob hcov => hw2 bb ob ?_⟩
             rcases hcov with hd | ⟨b, ch, h3, h4, h5⟩
             · exact .inl (nx.le _ _ hd)
             · exact .inr ⟨b, ch, h3, by rw [keep c hc.1 bs g1 hcw b h3 (List.getElem?_eq_some_iff.1 h4).1]; exact h4, h5⟩
         · rw [if_neg (by rw [hw]; simp)]
           exact ⟨fun _ _ _ h => h, rest held _ undef (.t []) w D ρ m chs h1 (.refl w) .refl M (.t .nil) fun c hc => hH c (List.mem_filter.1 hc).1⟩
end
section
variable {P : Program} {D D' : Fz} {ρ ρ' : List Loc} {m m' : Mem} {chs C : List zac} {h h' : zab} {T : List Value} {t : List V} {ro hr : List Nat}
def itOk : Pt → It → Bool
 | .i k, .v (.u (.i k' _)) => Nat.beq (zaq k) (zaq k')
 | .b, .v (.u (.b _)) => true
 | .s, .v (.u (.s _)) => true
 | .l s, .v (.u (.l s' _)) => Nat.beq s s'
 | .p, .v (.u (.p _)) => true
 | .n w, .v (.n .i64 w' _) => Nat.beq w w'
 | .ow E sz, .e (.w E' sz' _) => Nat.beq E E' && Nat.beq sz sz'
 | .row E sz, .e (.w E' sz' _) => Nat.beq E E' && Nat.beq sz sz'
 | .A, .e (.o _) => true
 | .w j, .v (.w j') => Nat.beq j j'
 | .r j o, .v (.r j' o') => Nat.beq j j' && Nat.beq o o'
 | .m j, .v (.m j') => Nat.beq j j'
 | .nm, .v .nm => true
 | .z, .v .z => true
 | .X, .e .x => true
 | .mp kt sz ag, .e (.p kt' sz' ag' _) => ktEq kt kt' && Nat.beq sz sz' && (ag == ag')
 | _, _ => false
theorem app_lam {X : Type} {y : Pt} {i : It} (ho : itOk y i = true) (K : It → X) : y.app (y.lam K) i = some (K i) := by
 unfold itOk at ho
 split at ho
 case h_1 k k' n =>
  have := zdh (Nat.eq_of_beq_eq_true ho)
  subst this; rfl
 case h_4 s s' c =>
  have := Nat.eq_of_beq_eq_true ho
  subst this; rfl
 case h_6 w w' c =>
  have := Nat.eq_of_beq_eq_true ho
  subst this; rfl
 case h_7 =>
  simp only [Bool.and_eq_true] at ho
  have h1 := Nat.eq_of_beq_eq_true ho.1
  have h2 := Nat.eq_of_beq_eq_true ho.2
  subst h1 h2; rfl
 case h_8 =>
  simp only [Bool.and_eq_true] at ho
  have h1 := Nat.eq_of_beq_eq_true ho.1
  have h2 := Nat.eq_of_beq_eq_true ho.2
  subst h1 h2; rfl
 case h_10 =>
  have := Nat.eq_of_beq_eq_true ho
  subst this; rfl
 case h_11 =>
  simp only [Bool.and_eq_true] at ho
  have h1 := Nat.eq_of_beq_eq_true ho.1
  have h2 := Nat.eq_of_beq_eq_true ho.2
  subst h1 h2; rfl
 case h_12 =>
  have := Nat.eq_of_beq_eq_true ho
  subst this; rfl
 case h_16 =>
  simp only [Bool.and_eq_true, beq_iff_eq] at ho
  have h1 := zgg ho.1.1
  have h2 := Nat.eq_of_beq_eq_true ho.1.2
  have h3 := ho.2
  subst h1 h2 h3; rfl
 all_goals first | rfl | cases ho
theorem zql {X : Type} {y : Pt} {i : It} (ho : itOk y i = true) (F : y.Fn X) : ∃ G, y.app F i = some G := by
 unfold itOk at ho
 split at ho <;> first | exact ⟨_, rfl⟩ | cases ho
theorem app_zip {X Y Z : Type} {y : Pt} {i : It} (ho : itOk y i = true) {a : y.Fn X} {b : y.Fn Y} (G : X → Y → Z) {a' : X} {b' : Y} (ha : y.app a i = some a') (hb : y.app b i = some b') : y.app (y.zip a b G) i = some (G a' b') := by
 unfold itOk at ho
 split at ho <;> first | (cases ha; cases hb; rfl) | cases ho
theorem app_all {X : Type} {y : Pt} {i : It} (ho : itOk y i = true) {a : y.Fn X} {K : X → Prop} (hall : y.all a K) {a' : X} (ha : y.app a i = some a') : K a' := by
 unfold itOk at ho
 split at ho <;> first | (cases ha; exact hall _) | (cases ha; exact hall) | cases ho
inductive OkL : List Pt → List It → Prop
 | nil : OkL [] []
 | cons {y : Pt} {i : It} {ps : List Pt} {is : List It} : itOk y i = true → OkL ps is → OkL (y :: ps) (i :: is)
theorem OkL.app {ps qs : List Pt} {is js : List It} (h1 : OkL ps is) (h2 : OkL qs js) : OkL (ps ++ qs) (is ++ js) := by
 induction h1 with
 | nil => exact h2
 | cons a _ ih => exact .cons a ih
theorem OkL.len {ps : List Pt} {is : List It} (h1 : OkL ps is) : is.length = ps.length := by
 induction h1 with
 | nil => rfl
 | cons a _ ih => simp [ih]
theorem apP_mk {R : Type} {d : R} {ps : List Pt} {is : List It} (ho : OkL ps is) : ∀ (K : List It → R), apP d ps (mkP ps K) is = K is := by
 induction ho with
 | nil => intro K; rfl
 | cons a _ ih =>
   intro K
   simp only [mkP, apP]
   rw [app_lam a]
   exact ih _
theorem apP_zip {X Y Z : Type} {G : X → Y → Z} {d : Z} {d1 : X} {d2 : Y} {ps : List Pt} {is : List It} (ho : OkL ps is) : ∀ (a : PtT X ps) (b : PtT Y ps), apP d ps (zipP G ps a b) is = G (apP d1 ps a is) (apP d2 ps b is) := by
 induction ho with
 | nil => intro a b; rfl
 | cons hi _ ih =>
   intro a b
   obtain ⟨a', ha⟩ := zql hi a
   obtain ⟨b', hb⟩ := zql hi b
   simp only [zipP, apP]
   rw [app_zip hi _ ha hb, ha, hb]
   exact ih a' b'
theorem allP_ap {ps : List Pt} {is : List It} (ho : OkL ps is) : ∀ {a : PtT Prop ps}, allP ps a → apP False ps a is := by
 induction ho with
 | nil => intro a hh; exact hh
 | cons hi _ ih =>
   intro a hh
   obtain ⟨a', ha⟩ := zql hi a
   simp only [apP, ha]
   exact ih (app_all hi hh ha)
theorem allP_self : ∀ (ps : List Pt) (K : List It → Prop), allP ps (zipP (fun (A B : Prop) => A → B) ps (mkP ps K) (mkP ps K)) := by
 intro ps
 induction ps with
 | nil => intro K; exact id
 | cons y ps ih =>
   intro K
   simp only [allP, zipP, mkP]
   cases y <;> simp only [Pt.all, Pt.zip, Pt.lam] <;> first | (intro n; exact ih _) | exact ih _
theorem SAt.take (M : SAt D ρ m chs C h) {b : Nat} {L : Loc} {ch : zac} (hL : ρ[b]? = some L) (hc : chs[b]? = some ch) : SAt D ρ (ms m b .x) (chs.set b []) (ch :: C) h :=
 M.put (C' := ch :: C) hL hc (ch' := []) (by
  have hlt := (List.getElem?_eq_some_iff.1 hc).1
  have S' := M.front hc
  rw [List.eraseIdx_append_of_lt_length hlt] at S' ⊢
  exact S'.mid.nil) (.refl D) .x
theorem SAt.perm (M : SAt D ρ m chs C h) {C' : List zac} (p : C.flatten.Perm C'.flatten) : SAt D ρ m chs C' h :=
 M.mono (.refl D) (M.st.perm (by simp only [List.flatten_append]; exact p.append_left _))
theorem SAt.kill (M : SAt D ρ m chs C h) (b : Nat) : ∃ ch, SAt D ρ (ms m b .x) (chs.set b []) (ch :: C) h ∧ (b < m.length → chs[b]? = some ch) := by
 by_cases hb : b < m.length
 · have hr : b < ρ.length := by rw [M.len]; exact hb
   have hc : b < chs.length := by rw [M.lch]; exact hb
   exact ⟨_, M.take (List.getElem?_eq_getElem hr) (List.getElem?_eq_getElem hc), fun _ => List.getElem?_eq_getElem hc⟩
 · have e1 : ms m b .x = m := by rw [ms_eq]; exact List.set_eq_of_length_le (by omega)
   have e2 : chs.set b [] = chs := List.set_eq_of_length_le (by rw [M.lch]; omega)
   refine ⟨[], ?_, fun h => absurd h hb⟩
   rw [e1, e2]
   exact M.perm (by simp)
inductive OV (D : Fz) (ρ : List Loc) (lim : Nat) : List Value → List It → List zac → Prop
 | nil : OV D ρ lim [] [] []
 | v {v : Value} {x : V} {vs : List Value} {os : List It} {tk : List zac} : Rp D ρ v x → (∀ b ∈ zae x, b < lim) → (∀ k w l, x ≠ .n k w l) → OV D ρ lim vs os tk → OV D ρ lim (v :: vs) (.v x :: os) tk
 | n {w : Nat} {l : List Int} {vs : List Value} {os : List It} {tk : List zac} : l.length = w → OV D ρ lim vs os tk → OV D ρ lim (l.map (.int .i64) ++ vs) (.v (.n .i64 w l) :: os) tk
 | e {L : Loc} {E sz : Nat} {rows : List (List U)} {ch : zac} {vs : List Value} {os : List It} {tk : List zac} : Ent D ρ L (.w E sz rows) ch → OV D ρ lim vs os tk → OV D ρ lim (.slice L.a L.n L.c :: vs) (.e (.w E sz rows) :: os) (ch :: tk)
theorem pk1_kill {lim : Nat} {y : Pt} {x : V} {i : It} (h1 : pk1 lim m y x = some (i, m')) (b : Nat) : mg m' b = mg m b ∨ mg m' b = .x := by
 unfold pk1 at h1
 have key : ∀ {c : Bool} {i' : It}, (cond c (some (i', m)) none) = some (i, m') → mg m' b = mg m b ∨ mg m' b = .x := by
  intro c i' hh
  cases c <;> cases hh
  exact .inl rfl
 split at h1 <;> first
  | exact key h1
  | (cases h1; done)
  | (cases h1; exact .inl rfl)
  | (rename_i E sz j
     split at h1
     · rename_i E' sz' rows hm
       cases hb : (Nat.beq E E' && Nat.beq sz sz') with
       | false => rw [hb] at h1; cases h1
       | true =>
         rw [hb] at h1
         cases h1
         by_cases hbj : j = b
         · subst hbj; exact .inr (mg_ms (mg_lt (by rw [hm]; simp)))
         · exact .inl (zbv hbj)
     · cases h1)
theorem zgb {lim : Nat} : ∀ {ps : List Pt} {xs : List V} {m m' : Mem} {os : List It}, pkV lim m ps xs = some (os, m') → ∀ b, mg m' b = mg m b ∨ mg m' b = .x
 | [], [], m, m', os, hp => by cases hp; exact fun b => .inl rfl
 | [], _ :: _, m, m', os, hp => by cases hp
 | _ :: _, [], m, m', os, hp => by cases hp
 | y :: ps, x :: xs, m, m', os, hp => by
   simp only [pkV] at hp
   split at hp
   · rename_i o m1 h1
     split at hp
     · rename_i os' m2 h2
       cases hp
       intro b
       rcases zgb h2 b with h3 | h3
       · rcases pk1_kill h1 b with h4 | h4
         · exact .inl (h3.trans h4)
         · exact .inr (h3.trans h4)
       · exact .inr h3
     · cases hp
   · cases hp
theorem zl3 (m : Mem) (j b : Nat) : mg (ms m j .x) b = mg m b ∨ mg (ms m j .x) b = .x := by
 by_cases hbj : j = b
 · subst hbj
   by_cases hlt : j < m.length
   · exact .inr (mg_ms hlt)
   · refine .inl ?_
     rw [ms_eq, List.set_eq_of_length_le (by omega)]
 · exact .inl (zbv hbj)
theorem zda {lim : Nat} : ∀ {ps : List BP} {js : List Nat} {m m' : Mem} {os : List It}, pkB lim m ps js = some (os, m') → ∀ b, mg m' b = mg m b ∨ mg m' b = .x
 | [], [], m, m', os, hp => by cases hp; exact fun b => .inl rfl
 | [], _ :: _, m, m', os, hp => by cases hp
 | _ :: _, [], m, m', os, hp => by cases hp
 | y :: ps, j :: js, m, m', os, hp => by
   simp only [pkB] at hp
   split at hp
   · rename_i o m1 h1
     split at hp
     · rename_i os' m2 h2
       cases hp
       have h1k : ∀ b, mg m1 b = mg m b ∨ mg m1 b = .x := by
        intro b
        cases y with
        | A => simp only [pkB1] at h1; split at h1 <;> cases h1; exact zl3 m j b
        | X => simp only [pkB1] at h1; cases h1; exact zl3 m j b
        | row E sz =>
          simp only [pkB1] at h1
          split at h1
          · rename_i E' sz' rows hm
            cases hb : (Nat.beq E E' && Nat.beq sz sz') <;> rw [hb] at h1 <;> cases h1
            exact zl3 m j b
          · cases h1
        | mp kt sz ag =>
          simp only [pkB1] at h1
          split at h1
          · rename_i kt' sz' ag' rows hm
            cases hb : (ktEq kt kt' && Nat.beq sz sz' && (ag == ag')) <;> rw [hb] at h1 <;> cases h1
            exact zl3 m j b
          · cases h1
        | c qs =>
          simp only [pkB1] at h1
          split at h1
          · rcases zgb h1 b with h3 | h3
            · rcases zl3 m j b with h4 | h4
              · exact .inl (h3.trans h4)
              · exact .inr (h3.trans h4)
            · exact .inr h3
          · cases h1
       intro b
       rcases zda h2 b with h3 | h3
       · rcases h1k b with h4 | h4
         · exact .inl (h3.trans h4)
         · exact .inr (h3.trans h4)
       · exact .inr h3
     · cases hp
   · cases hp
theorem zeo {j : Nat} {c' : List zac} (hk : ∀ b, mg m' b = mg (ms m j .x) b ∨ mg m' b = .x) (kk : ∀ b, mg m' b ≠ .x → c'[b]? = (chs.set j [])[b]?) : ∀ b, mg m' b ≠ .x → c'[b]? = chs[b]? := by
 intro b hb
 rw [kk b hb, List.getElem?_set_ne]
 rintro rfl
 rcases hk j with h1 | h1
 · by_cases hlt : j < m.length
   · exact hb (h1.trans (mg_ms hlt))
   · exact hb (h1.trans (by rw [zl5, ms_eq, List.set_eq_of_length_le (by omega), List.getElem?_eq_none (by omega)]; rfl))
 · exact hb h1
theorem pkV_S {lim : Nat} : ∀ {ps : List Pt} {xs : List V} {m m' : Mem} {os : List It} {vs : List Value} {chs C : List zac}, pkV lim m ps xs = some (os, m') → SAt D ρ m chs C h → RpC D ρ vs xs →
 ∃ tk chs', SAt D ρ m' chs' (tk ++ C) h ∧ OV D ρ lim vs os tk ∧ OkL ps os ∧ ∀ b, mg m' b ≠ .x → chs'[b]? = chs[b]?
 | [], [], m, m', os, vs, chs, C, hp, M, hv => by cases hp; cases hv; exact ⟨[], chs, M, .nil, .nil, fun _ _ => rfl⟩
 | [], _ :: _, m, m', os, vs, chs, C, hp, M, hv => by cases hp
 | _ :: _, [], m, m', os, vs, chs, C, hp, M, hv => by cases hp
 | y :: ps, x :: xs, m, m', os, vs, chs, C, hp, M, hv => by
   simp only [pkV] at hp
   split at hp
   · rename_i o m1 h1
     split at hp
     · rename_i os' m2 h2
       cases hp
       -- a value
       have val : ∀ {v : Value} {vs' : List Value} {x' : V}, vs = v :: vs' → m1 = m → o = .v x' → Rp D ρ v x' → (∀ b ∈ zae x', b < lim) → (∀ k w l, x' ≠ .n k w l) → itOk y (.v x') = true → RpC D ρ vs' xs →
        ∃ tk chs', SAt D ρ m' chs' (tk ++ C) h ∧ OV D ρ lim vs (o :: os') tk ∧ OkL (y :: ps) (o :: os') ∧ ∀ b, mg m' b ≠ .x → chs'[b]? = chs[b]? := by
        intro v vs' x' e1 e2 e3 hv' hl hn ho hvs
        subst e1 e2 e3
        obtain ⟨tk, c', M2, o2, k2, kk⟩ := pkV_S h2 M hvs
        exact ⟨tk, c', M2, .v hv' hl hn o2, .cons ho k2, kk⟩
       unfold pk1 at h1
       split at h1
       · -- int
         rename_i k k' n
         cases hb : Nat.beq (zaq k) (zaq k') with
         | false => rw [hb] at h1; cases h1
         | true =>
           rw [hb] at h1
           cases h1
           have := zdh (Nat.eq_of_beq_eq_true hb)
           subst this
           cases hv with | cons a n b => exact val rfl rfl rfl a (by simp [zae]) (by simp) hb b
       · cases h1; cases hv with | cons a n b => exact val rfl rfl rfl a (by simp [zae]) (by simp) rfl b
       · cases h1; cases hv with | cons a n b => exact val rfl rfl rfl a (by simp [zae]) (by simp) rfl b
       · rename_i sz sz' c
         cases hb : Nat.beq sz sz' with
         | false => rw [hb] at h1; cases h1
         | true =>
           rw [hb] at h1
           cases h1
           have := Nat.eq_of_beq_eq_true hb
           subst this
           cases hv with | cons a n b => exact val rfl rfl rfl a (by simp [zae]) (by simp) hb b
       · rename_i sz sz' c
         cases hb : Nat.beq sz sz' with
         | false => rw [hb] at h1; cases h1
         | true =>
           rw [hb] at h1
           cases h1
           have := Nat.eq_of_beq_eq_true hb
           subst this
           cases hv with | cons a n b => cases a with | c hr => exact val rfl rfl rfl (.u hr) (by simp [zae]) (by simp) hb b
       · rename_i sz
         cases h1
         cases hv with | cons a n b => cases a; exact val rfl rfl rfl (.u (.nil _ _ _)) (by simp [zae]) (by simp) (Nat.beq_refl _) b
       · cases h1; cases hv with | cons a n b => exact val rfl rfl rfl a (by simp [zae]) (by simp) rfl b
       · cases h1
         cases hv with
         | cons a n b =>
           obtain ⟨p, o, hr, hvv⟩ := a.q_inv
           exact val (by rw [hvv]; rfl) rfl rfl (.u hr) (by simp [zae]) (by simp) rfl b
       · rename_i nw k w' c
         cases hb : (Nat.beq nw w' && Nat.beq (zaq k) 3) with
         | false => rw [hb] at h1; cases h1
         | true =>
           rw [hb] at h1
           cases h1
           simp only [Bool.and_eq_true] at hb
           have := Nat.eq_of_beq_eq_true hb.1
           subst this
           have hk : k = .i64 := by
            have := hb.2
            cases k <;> first | rfl | simp [zaq] at this
           subst hk
           cases hv with
           | cons a n b => exact absurd rfl (n _ _ _)
           | n hl b =>
             obtain ⟨tk, c', M2, o2, k2, kk⟩ := pkV_S h2 M b
             exact ⟨tk, c', M2, .n hl o2, .cons hb.1 k2, kk⟩
       · rename_i E sz j
         split at h1
         · rename_i E' sz' rows hm
           cases hb : (Nat.beq E E' && Nat.beq sz sz') with
           | false => rw [hb] at h1; cases h1
           | true =>
             rw [hb] at h1
             cases h1
             have hb' := hb
             simp only [Bool.and_eq_true] at hb'
             have e1 := Nat.eq_of_beq_eq_true hb'.1
             have e2 := Nat.eq_of_beq_eq_true hb'.2
             subst e1 e2
             cases hv with
             | cons a n b =>
               obtain ⟨L, ch, g1, g2, g3⟩ := M.get (b := j) (by rw [hm]; simp)
               obtain ⟨L', g4, rfl⟩ := a.w_inv
               rw [g1] at g4; cases g4
               rw [hm] at g3
               obtain ⟨tk, c', M2, o2, k2, kk⟩ := pkV_S h2 (M.take g1 g2) b
               refine ⟨ch :: tk, c', M2.perm ?_, .e g3 o2, .cons hb k2, zeo (zgb h2) kk⟩
               simp only [List.flatten_append, List.flatten_cons, List.cons_append]
               exact List.perm_append_comm_assoc _ _ _
         · cases h1
       · rename_i E sz
         cases h1
         cases hv with
         | cons a n b =>
           cases a
           obtain ⟨tk, c', M2, o2, k2, kk⟩ := pkV_S h2 M b
           exact ⟨[] :: tk, c', M2.perm (by simp), .e (L := ⟨0, none, 0, 0, none⟩) (.w .nil rfl) o2, .cons (by simp [itOk]) k2, kk⟩
       · rename_i j j'
         cases hb : (Nat.beq j j' && Nat.ble (j + 1) lim) with
         | false => rw [hb] at h1; cases h1
         | true =>
           rw [hb] at h1
           cases h1
           simp only [Bool.and_eq_true] at hb
           have e1 := Nat.eq_of_beq_eq_true hb.1
           have e2 := Nat.le_of_ble_eq_true hb.2
           subst e1
           cases hv with | cons a n b => exact val rfl rfl rfl a (by simp [zae]; omega) (by simp) hb.1 b
       · rename_i j o j' o'
         cases hb : (Nat.beq j j' && Nat.beq o o' && Nat.ble (j + 1) lim) with
         | false => rw [hb] at h1; cases h1
         | true =>
           rw [hb] at h1
           cases h1
           have hb' := hb
           simp only [Bool.and_eq_true] at hb'
           have e1 := Nat.eq_of_beq_eq_true hb'.1.1
           have e3 := Nat.eq_of_beq_eq_true hb'.1.2
           have e2 := Nat.le_of_ble_eq_true hb'.2
           subst e1 e3
           cases hv with | cons a n b => exact val rfl rfl rfl a (by simp [zae]; omega) (by simp) (by simp [itOk]) b
       · rename_i j j'
         cases hb : (Nat.beq j j' && Nat.ble (j + 1) lim) with
         | false => rw [hb] at h1; cases h1
         | true =>
           rw [hb] at h1
           cases h1
           simp only [Bool.and_eq_true] at hb
           have e1 := Nat.eq_of_beq_eq_true hb.1
           have e2 := Nat.le_of_ble_eq_true hb.2
           subst e1
           cases hv with | cons a n b => exact val rfl rfl rfl a (by simp [zae]; omega) (by simp) hb.1 b
       · cases h1; cases hv with | cons a n b => exact val rfl rfl rfl a (by simp [zae]) (by simp) rfl b
       · cases h1
       · rename_i hne
         cases h1
         cases hv with
         | cons a n b => exact val rfl rfl rfl .z (by simp [zae]) (by simp) rfl b
         | n hl b => exact absurd rfl (hne _ _ _)
       · cases h1
     · cases hp
   · cases hp
def noC : AB → Bool
 | .c _ => false
 | .cw .. => false
 | _ => true
inductive OB (D : Fz) (ρ : List Loc) (lim : Nat) : List BP → List Nat → List It → List zac → Prop
 | nil : OB D ρ lim [] [] [] []
 | e {y : BP} {j : Nat} {ab : AB} {L : Loc} {ch : zac} {ps : List BP} {js : List Nat} {os : List It} {tk : List zac} : (∀ qs, y ≠ .c qs) → (ab ≠ .x → ρ[j]? = some L) → Ent D ρ L ab ch → noC ab = true → OB D ρ lim ps js os tk →
     OB D ρ lim (y :: ps) (j :: js) (.e ab :: os) (ch :: tk)
 | c {qs : List Pt} {j : Nat} {L : Loc} {S : TypeId} {arr : List Value} {o1 : List It} {t1 : List zac} {ps : List BP} {js : List Nat} {os : List It} {tk : List zac} : ρ[j]? = some L → OV D ρ lim arr o1 t1 → o1.length = qs.length → OB D ρ lim ps js os tk →
     OB D ρ lim (.c qs :: ps) (j :: js) (o1 ++ os) ([(L.b, .cells arr.toArray S (0, 0))] :: (t1 ++ tk))
theorem pkB_S {lim : Nat} : ∀ {ps : List BP} {js : List Nat} {m m' : Mem} {os : List It} {chs C : List zac}, pkB lim m ps js = some (os, m') → SAt D ρ m chs C h →
 ∃ tk chs', SAt D ρ m' chs' (tk ++ C) h ∧ OB D ρ lim ps js os tk ∧ OkL (ps.flatMap BP.ps) os ∧ ∀ b, mg m' b ≠ .x → chs'[b]? = chs[b]?
 | [], [], m, m', os, chs, C, hp, M => by cases hp; exact ⟨[], chs, M, .nil, .nil, fun _ _ => rfl⟩
 | [], _ :: _, m, m', os, chs, C, hp, M => by cases hp
 | _ :: _, [], m, m', os, chs, C, hp, M => by cases hp
 | y :: ps, j :: js, m, m', os, chs, C, hp, M => by
   simp only [pkB] at hp
   split at hp
   · rename_i o m1 h1
     split at hp
     · rename_i os' m2 h2
       cases hp
       have pm : ∀ {a b c : List zac}, (a ++ (b ++ c)).flatten.Perm (b ++ (a ++ c)).flatten := fun {a b c} => by simp only [List.flatten_append]; exact List.perm_append_comm_assoc _ _ _
       cases y with
       | A =>
         simp only [pkB1] at h1
         split at h1
         · rename_i I hm
           cases h1
           obtain ⟨L, ch, g1, g2, g3⟩ := M.get (b := j) (by rw [hm]; simp)
           rw [hm] at g3
           obtain ⟨tk, c', M2, o2, k2, kk⟩ := pkB_S h2 (M.take g1 g2)
           exact ⟨ch :: tk, c', M2.perm (pm (a := tk) (b := [ch])), .e (by simp) (fun _ => g1) g3 rfl o2, .cons rfl k2, zeo (zda h2) kk⟩
         · cases h1
       | X =>
         simp only [pkB1] at h1
         cases h1
         obtain ⟨ch, M1, -⟩ := M.kill j
         obtain ⟨tk, c', M2, o2, k2, kk⟩ := pkB_S h2 M1
         have M3 : SAt D ρ m' c' ([] :: tk ++ C) h := by
          refine (M2.perm (pm (a := tk) (b := [ch]))).mono (.refl D) ?_
          have S := (M2.perm (pm (a := tk) (b := [ch]))).st
          have S1 : St D (ch :: (c' ++ (tk ++ C))) h := S.unmid
          have S2 := S1.drop.nil
          exact S2.mid
         refine ⟨[] :: tk, c', M3, .e (L := ⟨0, none, 0, 0, none⟩) (by simp) (fun hl => absurd rfl hl) .x rfl o2, .cons rfl k2, zeo (zda h2) kk⟩
       | row E sz =>
         simp only [pkB1] at h1
         split at h1
         · rename_i E' sz' rows hm
           cases hb : (Nat.beq E E' && Nat.beq sz sz') with
           | false => rw [hb] at h1; cases h1
           | true =>
             rw [hb] at h1
             cases h1
             have hb' := hb
             simp only [Bool.and_eq_true] at hb'
             have e1 := Nat.eq_of_beq_eq_true hb'.1
             have e2 := Nat.eq_of_beq_eq_true hb'.2
             subst e1 e2
             obtain ⟨L, ch, g1, g2, g3⟩ := M.get (b := j) (by rw [hm]; simp)
             rw [hm] at g3
             obtain ⟨tk, c', M2, o2, k2, kk⟩ := pkB_S h2 (M.take g1 g2)
             exact ⟨ch :: tk, c', M2.perm (pm (a := tk) (b := [ch])), .e (by simp) (fun _ => g1) g3 rfl o2, .cons hb k2, zeo (zda h2) kk⟩
         · cases h1
       | mp kt sz ag =>
         simp only [pkB1] at h1
         split at h1
         · rename_i kt' sz' ag' rows hm
           cases hb : (ktEq kt kt' && Nat.beq sz sz' && (ag == ag')) with
           | false => rw [hb] at h1; cases h1
           | true =>
             rw [hb] at h1
             cases h1
             have hb' := hb
             simp only [Bool.and_eq_true, beq_iff_eq] at hb'
             have e1 := zgg hb'.1.1
             have e2 := Nat.eq_of_beq_eq_true hb'.1.2
             have e3 := hb'.2
             subst e1 e2 e3
             obtain ⟨L, ch, g1, g2, g3⟩ := M.get (b := j) (by rw [hm]; simp)
             rw [hm] at g3
             obtain ⟨tk, c', M2, o2, k2, kk⟩ := pkB_S h2 (M.take g1 g2)
             exact ⟨ch :: tk, c', M2.perm (pm (a := tk) (b := [ch])), .e (by simp) (fun _ => g1) g3 rfl o2, .cons hb k2, zeo (zda h2) kk⟩
         · cases h1
       | c qs =>
         simp only [pkB1] at h1
         split at h1
         · rename_i l hm
           obtain ⟨L, ch, g1, g2, g3⟩ := M.get (b := j) (by rw [hm]; simp)
           rw [hm] at g3
           cases g3 with
           | c hc =>
             rename_i arr S
             obtain ⟨t1, c1, M1, o1, k1, kk1⟩ := pkV_S h1 (M.take g1 g2) hc
             obtain ⟨tk, c', M2, o2, k2, kk⟩ := pkB_S h2 M1
             refine ⟨[(L.b, .cells arr.toArray S (0, 0))] :: (t1 ++ tk), c', M2.perm ?_, .c g1 o1 (k1.len) o2, k1.app k2, zeo (fun b => by
              rcases zda h2 b with h3 | h3
              · rcases zgb h1 b with h4 | h4
                · exact .inl (h3.trans h4)
                · exact .inr (h3.trans h4)
              · exact .inr h3) fun b hb => by
              have h5 : mg m1 b ≠ .x := by
               rcases zda h2 b with h3 | h3
               · rw [← h3]; exact hb
               · exact absurd h3 hb
              rw [kk b hb, kk1 b h5]⟩
             have pp : ∀ {X Y Z : zac} {b : Nat × Obj}, (X ++ (Y ++ (b :: Z))).Perm (b :: (Y ++ (X ++ Z))) := fun {X Y Z b} => by
              rw [← List.append_assoc]
              exact List.perm_middle.trans (by rw [List.append_assoc]; exact (List.perm_append_comm_assoc _ _ _).cons _)
             simpa [List.flatten_append, List.append_assoc] using pp (X := tk.flatten) (Y := t1.flatten) (Z := C.flatten) (b := (L.b, .cells arr.toArray S (0, 0)))
         · cases h1
     · cases hp
   · cases hp
inductive OR (D : Fz) (ρ : List Loc) (lim : Nat) : List Value → List RP → List It → List zac → Prop
 | nil : OR D ρ lim [] [] [] []
 | one {y : Pt} {v : Value} {o1 : List It} {t1 : List zac} {vs : List Value} {rs : List RP} {os : List It} {tk : List zac} : OV D ρ lim [v] o1 t1 → o1.length = 1 → (∀ k w l, o1 ≠ [.v (.n k w l)]) → OR D ρ lim vs rs os tk → OR D ρ lim (v :: vs) (.one y :: rs) (o1 ++ os) (t1 ++ tk)
 | agg {qs : List Pt} {ws : List Value} {o1 : List It} {t1 : List zac} {vs : List Value} {rs : List RP} {os : List It} {tk : List zac} : OV D ρ lim ws o1 t1 → o1.length = qs.length → OR D ρ lim vs rs os tk → OR D ρ lim (.agg ws.toArray :: vs) (.agg qs :: rs) (o1 ++ os) (t1 ++ tk)
theorem rp_n {v : Value} {x : V} (hv : Rp D ρ v x) : ∀ k w l, x ≠ .n k w l := by intro k w l e; subst e; cases hv
theorem pk1_n {lim : Nat} {y : Pt} {x : V} {i : It} {m1 : Mem} (h1 : pk1 lim m y x = some (i, m1)) (hx : ∀ k w l, x ≠ .n k w l) : ∀ k w l, i ≠ .v (.n k w l) := by
 intro k w l e
 subst e
 unfold pk1 at h1
 split at h1 <;> first
  | exact hx _ _ _ rfl
  | (cases h1; done)
  | (revert h1; cases Nat.beq _ _ <;> simp; done)
  | (revert h1; cases (Nat.beq _ _ && Nat.ble _ _) <;> simp; done)
  | (revert h1; cases (Nat.beq _ _ && Nat.beq _ _ && Nat.ble _ _) <;> simp; done)
  | (split at h1 <;> first | (cases h1; done) | (revert h1; cases (Nat.beq _ _ && Nat.beq _ _) <;> simp; done))
theorem pkV_n {lim : Nat} : ∀ {ps : List Pt} {xs : List V} {m m' : Mem} {os : List It}, pkV lim m ps xs = some (os, m') → (∀ x ∈ xs, ∀ k w l, x ≠ .n k w l) → ∀ i ∈ os, ∀ k w l, i ≠ .v (.n k w l)
 | [], [], m, m', os, hp, hx => by cases hp; simp
 | [], _ :: _, m, m', os, hp, hx => by cases hp
 | _ :: _, [], m, m', os, hp, hx => by cases hp
 | y :: ps, x :: xs, m, m', os, hp, hx => by
   simp only [pkV] at hp
   split at hp
   · rename_i o m1 h1
     split at hp
     · rename_i os' m2 h2
       cases hp
       intro i hi
       rcases List.mem_cons.1 hi with rfl | hi
       · exact pk1_n h1 (hx x (by simp))
       · exact pkV_n h2 (fun x hx' => hx x (by simp [hx'])) i hi
     · cases hp
   · cases hp
theorem zhs {lim : Nat} : ∀ {rs : List RP} {xs : List V} {m m' : Mem} {os : List It}, pkR lim m rs xs = some (os, m') → ∀ b, mg m' b = mg m b ∨ mg m' b = .x
 | [], [], m, m', os, hp => by cases hp; exact fun b => .inl rfl
 | [], _ :: _, m, m', os, hp => by cases hp
 | .one y :: rs, [], m, m', os, hp => by cases hp
 | .agg qs :: rs, [], m, m', os, hp => by cases hp
 | .one y :: rs, x :: xs, m, m', os, hp => by
   simp only [pkR] at hp
   split at hp
   · rename_i o m1 h1
     split at hp
     · rename_i os' m2 h2
       cases hp
       intro b
       rcases zhs h2 b with h3 | h3
       · rcases zgb h1 b with h4 | h4
         · exact .inl (h3.trans h4)
         · exact .inr (h3.trans h4)
       · exact .inr h3
     · cases hp
   · cases hp
 | .agg qs :: rs, x :: xs, m, m', os, hp => by
   cases x with
   | a l =>
     simp only [pkR] at hp
     split at hp
     · rename_i o m1 h1
       split at hp
       · rename_i os' m2 h2
         cases hp
         intro b
         rcases zhs h2 b with h3 | h3
         · rcases zgb h1 b with h4 | h4
           · exact .inl (h3.trans h4)
           · exact .inr (h3.trans h4)
         · exact .inr h3
       · cases hp
     · cases hp
   | _ => simp [pkR] at hp
theorem pkR_S {lim : Nat} : ∀ {rs : List RP} {xs : List V} {m m' : Mem} {os : List It} {vs : List Value} {chs C : List zac}, pkR lim m rs xs = some (os, m') → SAt D ρ m chs C h → RpL D ρ vs xs →
 ∃ tk chs', SAt D ρ m' chs' (tk ++ C) h ∧ OR D ρ lim vs rs os tk ∧ OkL (rs.flatMap RP.ps) os ∧ ∀ b, mg m' b ≠ .x → chs'[b]? = chs[b]?
 | [], [], m, m', os, vs, chs, C, hp, M, hv => by cases hp; cases hv; exact ⟨[], chs, M, .nil, .nil, fun _ _ => rfl⟩
 | [], _ :: _, m, m', os, vs, chs, C, hp, M, hv => by cases hp
 | .one y :: rs, [], m, m', os, vs, chs, C, hp, M, hv => by cases hp
 | .agg qs :: rs, [], m, m', os, vs, chs, C, hp, M, hv => by cases hp
 | .one y :: rs, x :: xs, m, m', os, vs, chs, C, hp, M, hv => by
   simp only [pkR] at hp
   split at hp
   · rename_i o m1 h1
     split at hp
     · rename_i os' m2 h2
       cases hp
       cases hv with
       | cons a b =>
         obtain ⟨t1, c1, M1, o1, k1, kk1⟩ := pkV_S h1 M (.cons a (rp_n a) .nil)
         obtain ⟨tk, c', M2, o2, k2, kk⟩ := pkR_S h2 M1 b
         refine ⟨t1 ++ tk, c', M2.perm ?_, .one o1 k1.len (fun k w l e => pkV_n h1 (fun x hx => by rw [List.mem_singleton.1 hx]; exact rp_n a) (.v (.n k w l)) (by rw [e]; simp) _ _ _ rfl) o2, k1.app k2, fun b hb => by
          have h5 : mg m1 b ≠ .x := by
           rcases zhs h2 b with h3 | h3
           · rw [← h3]; exact hb
           · exact absurd h3 hb
          rw [kk b hb, kk1 b h5]⟩
         simp only [List.flatten_append, List.append_assoc]
         exact List.perm_append_comm_assoc _ _ _
     · cases hp
   · cases hp
 | .agg qs :: rs, x :: xs, m, m', os, vs, chs, C, hp, M, hv => by
   cases x with
   | a l =>
     simp only [pkR] at hp
     split at hp
     · rename_i o m1 h1
       split at hp
       · rename_i os' m2 h2
         cases hp
         cases hv with
         | cons a b =>
           obtain ⟨ws, rfl, hc⟩ := a.a_inv
           obtain ⟨t1, c1, M1, o1, k1, kk1⟩ := pkV_S h1 M hc
           obtain ⟨tk, c', M2, o2, k2, kk⟩ := pkR_S h2 M1 b
           refine ⟨t1 ++ tk, c', M2.perm ?_, .agg o1 k1.len o2, k1.app k2, fun b hb => by
           have h5 : mg m1 b ≠ .x := by
            rcases zhs h2 b with h3 | h3
            · rw [← h3]; exact hb
            · exact absurd h3 hb
           rw [kk b hb, kk1 b h5]⟩
           simp only [List.flatten_append, List.append_assoc]
           exact List.perm_append_comm_assoc _ _ _
       · cases hp
     · cases hp
   | _ => simp [pkR] at hp
def Ren (f : Nat → Nat) (lim : Nat) (ρ ρ' : List Loc) : Prop := ∀ b, b < lim → ∀ L, ρ[b]? = some L → ρ'[f b]? = some L
theorem Ren.app {f : Nat → Nat} {lim : Nat} (r : Ren f lim ρ ρ') (s : List Loc) : Ren f lim ρ (ρ' ++ s) := fun b hb L hL => zam (r b hb L hL)
section
variable {f : Nat → Nat}
theorem ren_all : (∀ {v : Value} {x : V}, Rp D ρ v x → (∀ b ∈ zae x, ∀ L, ρ[b]? = some L → ρ'[f b]? = some L) → Rp D ρ' v (zch f x)) ∧ (∀ {v : List Value} {x : List V}, RpL D ρ v x → (∀ b ∈ zak x, ∀ L, ρ[b]? = some L → ρ'[f b]? = some L) → RpL D ρ' v (zes f x)) ∧
 (∀ {v : List Value} {x : List V}, RpC D ρ v x → (∀ b ∈ zak x, ∀ L, ρ[b]? = some L → ρ'[f b]? = some L) → RpC D ρ' v (zes f x)) := by
 have key := @Rp.rec D ρ (fun v x _ => (∀ b ∈ zae x, ∀ L, ρ[b]? = some L → ρ'[f b]? = some L) → Rp D ρ' v (zch f x)) (fun vs xs _ => (∀ b ∈ zak xs, ∀ L, ρ[b]? = some L → ρ'[f b]? = some L) → RpL D ρ' vs (zes f xs))
  (fun vs xs _ => (∀ b ∈ zak xs, ∀ L, ρ[b]? = some L → ρ'[f b]? = some L) → RpC D ρ' vs (zes f xs))
 have keyL := @RpL.rec D ρ (fun v x _ => (∀ b ∈ zae x, ∀ L, ρ[b]? = some L → ρ'[f b]? = some L) → Rp D ρ' v (zch f x)) (fun vs xs _ => (∀ b ∈ zak xs, ∀ L, ρ[b]? = some L → ρ'[f b]? = some L) → RpL D ρ' vs (zes f xs))
  (fun vs xs _ => (∀ b ∈ zak xs, ∀ L, ρ[b]? = some L → ρ'[f b]? = some L) → RpC D ρ' vs (zes f xs))
 have keyC := @RpC.rec D ρ (fun v x _ => (∀ b ∈ zae x, ∀ L, ρ[b]? = some L → ρ'[f b]? = some L) → Rp D ρ' v (zch f x)) (fun vs xs _ => (∀ b ∈ zak xs, ∀ L, ρ[b]? = some L → ρ'[f b]? = some L) → RpL D ρ' vs (zes f xs))
  (fun vs xs _ => (∀ b ∈ zak xs, ∀ L, ρ[b]? = some L → ρ'[f b]? = some L) → RpC D ρ' vs (zes f xs))
 have A1 : ∀ {v : Value} {x : U} (a : Rd D v x), (∀ b ∈ zae (.u x), ∀ L, ρ[b]? = some L → ρ'[f b]? = some L) → Rp D ρ' v (zch f (.u x)) := fun h _ => .u h
 have A2 : ∀ {b o : Nat} {L : Loc} (a : ρ[b]? = some L), (∀ c ∈ zae (.r b o), ∀ L, ρ[c]? = some L → ρ'[f c]? = some L) → Rp D ρ' (.pointer (some ⟨L.b, o, none⟩)) (zch f (.r b o)) := fun h g => .r (g _ (by simp [zae]) _ h)
 have A3 : ∀ {b sz o p q : Nat} {k : Int} {L : Loc} (a : ρ[b]? = some L) (a1 : L.a = some ⟨p, q, none⟩) (a2 : 0 ≤ k) (a3 : k < L.n), (∀ c ∈ zae (.e b sz k o), ∀ L, ρ[c]? = some L → ρ'[f c]? = some L) → Rp D ρ' (.pointer (some ⟨p, q + k.toNat * sz + o, none⟩)) (zch f (.e b sz k o)) :=
  fun h1 h2 h3 h4 g => .e (g _ (by simp [zae]) _ h1) h2 h3 h4
 have A4 : ∀ {b o w : Nat} {k : Int} {L : Loc} (a : ρ[b]? = some L) (a1 : 0 ≤ k) (a2 : k < w), (∀ c ∈ zae (.g b o w k), ∀ L, ρ[c]? = some L → ρ'[f c]? = some L) → Rp D ρ' (.pointer (some ⟨L.b, o + k.toNat, none⟩)) (zch f (.g b o w k)) :=
  fun h1 h2 h3 g => .g (g _ (by simp [zae]) _ h1) h2 h3
 have A5 : ∀ {c : List U} {p o o' : Nat} (a : Rd D (.pointer (some ⟨p, o, none⟩)) (.p (some c))) (a1 : o' = o) (n : Nat), (∀ b ∈ zae (.q c n), ∀ L, ρ[b]? = some L → ρ'[f b]? = some L) → Rp D ρ' (.pointer (some ⟨p, o' + n, none⟩)) (zch f (.q c n)) := fun h1 h2 n _ => .q h1 h2 n
 have A6 : ∀ {b : Nat} {L : Loc} (a : ρ[b]? = some L), (∀ c ∈ zae (.w b), ∀ L, ρ[c]? = some L → ρ'[f c]? = some L) → Rp D ρ' (.slice L.a L.n L.c) (zch f (.w b)) := fun h g => .w (g _ (by simp [zae]) _ h)
 have A7 : ∀ {a : Option Addr} {n sz : Nat} {rows : List (List U)} (a1 : Rd D (.slice a n n) (.l sz rows)), (∀ b ∈ zae (.c sz rows), ∀ L, ρ[b]? = some L → ρ'[f b]? = some L) → Rp D ρ' (.slice a n n) (zch f (.c sz rows)) := fun h _ => .c h
 have A8 : ∀ {b : Nat} {L : Loc} (a : ρ[b]? = some L), (∀ c ∈ zae (.m b), ∀ L, ρ[c]? = some L → ρ'[f c]? = some L) → Rp D ρ' (.map (some L.b)) (zch f (.m b)) := fun h g => .m (g _ (by simp [zae]) _ h)
 have A9 : ∀ {b : Nat} {L : Loc} (a : ρ[b]? = some L), (∀ c ∈ zae (.y b), ∀ L, ρ[c]? = some L → ρ'[f c]? = some L) → Rp D ρ' (.func (.yield L.b) #[] #[]) (zch f (.y b)) := fun h g => .y (g _ (by simp [zae]) _ h)
 have A10 : ∀ {b sz l n cap : Nat} {c : Bool} {a : Option Addr} {L : Loc} (a1 : ρ[b]? = some L) (a2 : l + n ≤ L.n) (a3 : l = 0 → a = L.a) (a4 : 0 < n → ∃ p q, L.a = some ⟨p, q, none⟩ ∧ a = some ⟨p, q + l * sz, none⟩) (a5 : n ≤ cap) (a6 : c = true → cap = n) (a7 : c = false → l = 0 → cap = L.c),
  (∀ d ∈ zae (.v b sz l n c), ∀ L, ρ[d]? = some L → ρ'[f d]? = some L) → Rp D ρ' (.slice a n cap) (zch f (.v b sz l n c)) := fun h1 h2 h3 h4 h5 h6 h7 g => .v (g _ (by simp [zae]) _ h1) h2 h3 h4 h5 h6 h7
 have A11 : ∀ {b o n cap : Nat} {a : Option Addr} {L : Loc} (a1 : ρ[b]? = some L) (a2 : 0 < n → a = some ⟨L.b, o, none⟩) (a3 : n ≤ cap), (∀ d ∈ zae (.sl b o n), ∀ L, ρ[d]? = some L → ρ'[f d]? = some L) → Rp D ρ' (.slice a n cap) (zch f (.sl b o n)) :=
  fun h1 h2 h3 g => .sl (g _ (by simp [zae]) _ h1) h2 h3
 have B1 : ∀ {g : FuncId} {xs ys : List Value} {a c : List V} (a1 : RpL D ρ xs a) (a2 : RpL D ρ ys c), ((∀ b ∈ zak a, ∀ L, ρ[b]? = some L → ρ'[f b]? = some L) → RpL D ρ' xs (zes f a)) → ((∀ b ∈ zak c, ∀ L, ρ[b]? = some L → ρ'[f b]? = some L) → RpL D ρ' ys (zes f c)) →
  (∀ b ∈ zae (.f g a c), ∀ L, ρ[b]? = some L → ρ'[f b]? = some L) → Rp D ρ' (.func (.func g) xs.toArray ys.toArray) (zch f (.f g a c)) := fun _ _ i1 i2 g => .f (i1 fun b hb => g b (by simp [zae, hb])) (i2 fun b hb => g b (by simp [zae, hb]))
 have B2 : ∀ {vs : List Value} {l : List V} (a : RpC D ρ vs l), ((∀ b ∈ zak l, ∀ L, ρ[b]? = some L → ρ'[f b]? = some L) → RpC D ρ' vs (zes f l)) → (∀ b ∈ zae (.a l), ∀ L, ρ[b]? = some L → ρ'[f b]? = some L) → Rp D ρ' (.agg vs.toArray) (zch f (.a l)) := fun _ i g => .a (i g)
 have B3 : ∀ {vs : List Value} {l : List V} (a : RpL D ρ vs l), ((∀ b ∈ zak l, ∀ L, ρ[b]? = some L → ρ'[f b]? = some L) → RpL D ρ' vs (zes f l)) → (∀ b ∈ zae (.t l), ∀ L, ρ[b]? = some L → ρ'[f b]? = some L) → Rp D ρ' (.tuple vs.toArray) (zch f (.t l)) := fun _ i g => .t (i g)
 have C1 : ∀ {v : Value} {x : V} {vs : List Value} {xs : List V} (a : Rp D ρ v x) (a1 : RpL D ρ vs xs), ((∀ b ∈ zae x, ∀ L, ρ[b]? = some L → ρ'[f b]? = some L) → Rp D ρ' v (zch f x)) → ((∀ b ∈ zak xs, ∀ L, ρ[b]? = some L → ρ'[f b]? = some L) → RpL D ρ' vs (zes f xs)) →
  (∀ b ∈ zak (x :: xs), ∀ L, ρ[b]? = some L → ρ'[f b]? = some L) → RpL D ρ' (v :: vs) (zes f (x :: xs)) := fun _ _ i1 i2 g => .cons (i1 fun b hb => g b (by simp [zak, hb])) (i2 fun b hb => g b (by simp [zak, hb]))
 have C2 : ∀ {v : Value} {x : V} {vs : List Value} {xs : List V} (a : Rp D ρ v x) (a0 : ∀ k w l, x ≠ .n k w l) (a1 : RpC D ρ vs xs), ((∀ b ∈ zae x, ∀ L, ρ[b]? = some L → ρ'[f b]? = some L) → Rp D ρ' v (zch f x)) → ((∀ b ∈ zak xs, ∀ L, ρ[b]? = some L → ρ'[f b]? = some L) → RpC D ρ' vs (zes f xs)) →
  (∀ b ∈ zak (x :: xs), ∀ L, ρ[b]? = some L → ρ'[f b]? = some L) → RpC D ρ' (v :: vs) (zes f (x :: xs)) := fun a hn _ i1 i2 g => .cons (i1 fun b hb => g b (by simp [zak, hb])) (rp_n (i1 fun b hb => g b (by simp [zak, hb]))) (i2 fun b hb => g b (by simp [zak, hb]))
 have C3 : ∀ {k : IntKind} {w : Nat} {l : List Int} {vs : List Value} {xs : List V} (a : l.length = w) (a1 : RpC D ρ vs xs), ((∀ b ∈ zak xs, ∀ L, ρ[b]? = some L → ρ'[f b]? = some L) → RpC D ρ' vs (zes f xs)) → (∀ b ∈ zak (.n k w l :: xs), ∀ L, ρ[b]? = some L → ρ'[f b]? = some L) →
  RpC D ρ' (l.map (.int k) ++ vs) (zes f (.n k w l :: xs)) := fun hl _ i g => .n hl (i fun b hb => g b (by simp [zak, hb]))
 exact ⟨fun hr => key A1 A2 A3 A4 A5 A6 A7 A8 (fun _ => .nm) (fun _ => .nl) B1 B2 B3 (fun _ => .z) A9 A10 A11 (fun _ => .nil) C1 (fun _ => .nil) C2 C3 hr,
  fun hr => keyL A1 A2 A3 A4 A5 A6 A7 A8 (fun _ => .nm) (fun _ => .nl) B1 B2 B3 (fun _ => .z) A9 A10 A11 (fun _ => .nil) C1 (fun _ => .nil) C2 C3 hr,
  fun hr => keyC A1 A2 A3 A4 A5 A6 A7 A8 (fun _ => .nm) (fun _ => .nl) B1 B2 B3 (fun _ => .z) A9 A10 A11 (fun _ => .nil) C1 (fun _ => .nil) C2 C3 hr⟩
end
theorem zoi {lim : Nat} {f : Nat → Nat} : ∀ {n : Nat} {vs : List Value} {o1 r : List It} {t1 : List zac} {mt : Mem} {ρt : List Loc} {ct C : List zac}, OV D ρ lim vs o1 t1 → o1.length = n → SAt D ρt mt ct (t1 ++ C) h → Ren f lim ρ ρt →
 ∃ s ms cs, (zgo f mt n (o1 ++ r)).2.1 = r ∧ (zgo f mt n (o1 ++ r)).2.2 = mt ++ ms ∧ SAt D (ρt ++ s) (mt ++ ms) (ct ++ cs) C h ∧ RpC D (ρt ++ s) vs (zgo f mt n (o1 ++ r)).1
 | 0, vs, o1, r, t1, mt, ρt, ct, C, ho, hn, M, R => by
   cases ho <;> simp at hn
   exact ⟨[], [], [], rfl, by simp [zgo], by simpa using M, by simp [zgo]; exact .nil⟩
 | n + 1, vs, o1, r, t1, mt, ρt, ct, C, ho, hn, M, R => by
   cases ho with
   | nil => simp at hn
   | v hv hl hnn ho =>
     obtain ⟨s, ms, cs, e1, e2, M1, r1⟩ := zoi (r := r) ho (by simpa using hn) M R
     have hv2 := (ren_all.1 hv fun b hb L hL => R b (hl b hb) L hL).mono (.refl D) s
     refine ⟨s, ms, cs, ?_, ?_, M1, ?_⟩
     · simpa [zgo, itV] using e1
     · simpa [zgo, itV] using e2
     · simp only [zgo, itV, List.cons_append]; exact .cons hv2 (rp_n hv2) r1
   | n hw ho =>
     obtain ⟨s, ms, cs, e1, e2, M1, r1⟩ := zoi (r := r) ho (by simpa using hn) M R
     refine ⟨s, ms, cs, ?_, ?_, M1, ?_⟩
     · simpa [zgo, itV] using e1
     · simpa [zgo, itV] using e2
     · simp only [zgo, itV, List.cons_append]; exact .n hw r1
   | e he ho =>
     rename_i L E sz rows ch vs' os' tk'
     have M0 : SAt D (ρt ++ [L]) (mt ++ [.w E sz rows]) (ct ++ [ch]) (tk' ++ C) h := by
      have M' : SAt D ρt mt ct (ch :: (tk' ++ C)) h := M
      exact M'.push (by cases he with | w a b => exact .w a b)
     obtain ⟨s, ms, cs, e1, e2, M1, r1⟩ := zoi (r := r) ho (by simpa using hn) M0 (R.app _)
     refine ⟨L :: s, .w E sz rows :: ms, ch :: cs, ?_, ?_, by simpa using M1, ?_⟩
     · simpa [zgo, itV] using e1
     · have := e2; simp only [List.append_assoc, List.singleton_append] at this; simpa [zgo, itV] using this
     · simp only [zgo, itV, List.cons_append]
       refine .cons (.w ?_) (by simp) (by simpa using r1)
       rw [← M.len]; simp
theorem RpC.one {vs : List Value} {y : V} (hr : RpC D ρ vs [y]) (hy : ∀ k w l, y ≠ .n k w l) : ∃ v, vs = [v] ∧ Rp D ρ v y := by
 cases hr with
 | cons a n b => cases b; exact ⟨_, rfl, a⟩
 | n => exact absurd rfl (hy _ _ _)
theorem reR_S {lim : Nat} {f : Nat → Nat} : ∀ {rs : List RP} {vs : List Value} {o1 r : List It} {t1 : List zac} {mt : Mem} {ρt : List Loc} {ct C : List zac}, OR D ρ lim vs rs o1 t1 → SAt D ρt mt ct (t1 ++ C) h → Ren f lim ρ ρt →
 ∃ s ms cs, (reR f mt rs (o1 ++ r)).2.1 = r ∧ (reR f mt rs (o1 ++ r)).2.2 = mt ++ ms ∧ SAt D (ρt ++ s) (mt ++ ms) (ct ++ cs) C h ∧ RpL D (ρt ++ s) vs (reR f mt rs (o1 ++ r)).1
 | [], vs, o1, r, t1, mt, ρt, ct, C, ho, M, R => by
   cases ho
   exact ⟨[], [], [], rfl, by simp [reR], by simpa using M, by simp [reR]; exact .nil⟩
 | .one y :: rs, vs, o1, r, t1, mt, ρt, ct, C, ho, M, R => by
   cases ho with
   | one ov hl hnn ho =>
     rename_i v o1 t1 vs os tk
     rw [List.append_assoc] at M
     obtain ⟨s, ms, cs, e1, e2, M1, r1⟩ := zoi (r := os ++ r) ov hl M R
     obtain ⟨s2, ms2, cs2, e3, e4, M2, r2⟩ := reR_S (r := r) ho M1 (R.app s)
     refine ⟨s ++ s2, ms ++ ms2, cs ++ cs2, ?_, ?_, by simpa using M2, ?_⟩
     · simp only [reR, List.append_assoc, e1, e2, e3]
     · simp only [reR, List.append_assoc, e1, e2, e4]
     · simp only [reR, List.append_assoc, e1, e2]
       have h1 := r1.mono (.refl D) s2
       obtain ⟨i, rfl⟩ := List.length_eq_one_iff.1 hl
       have hy : ∀ k w l, (itV f mt i).1 ≠ .n k w l := by
        intro k w l
        cases i with
        | e ab => simp [itV]
        | v x => cases x <;> simp [itV, zch]; exact fun _ _ _ => hnn _ _ _ rfl
       obtain ⟨v', hv, hr⟩ := RpC.one (y := (itV f mt i).1) h1 hy
       cases hv
       rw [List.append_assoc] at hr r2
       exact .cons hr r2
 | .agg qs :: rs, vs, o1, r, t1, mt, ρt, ct, C, ho, M, R => by
   cases ho with
   | agg ov hl ho =>
     rename_i ws o1 t1 vs os tk
     rw [List.append_assoc] at M
     obtain ⟨s, ms, cs, e1, e2, M1, r1⟩ := zoi (r := os ++ r) ov hl M R
     obtain ⟨s2, ms2, cs2, e3, e4, M2, r2⟩ := reR_S (r := r) ho M1 (R.app s)
     refine ⟨s ++ s2, ms ++ ms2, cs ++ cs2, ?_, ?_, by simpa using M2, ?_⟩
     · simp only [reR, List.append_assoc, e1, e2, e3]
     · simp only [reR, List.append_assoc, e1, e2, e4]
     · simp only [reR, List.append_assoc, e1, e2]
       have h1 := r1.mono (.refl D) s2
       rw [List.append_assoc] at h1 r2
       exact .cons (.a h1) r2
end
section
variable {P : Program} {D D' : Fz} {ρ ρ' : List Loc} {m m' : Mem} {chs C : List zac} {h h' : zab} {T : List Value} {t : List V} {ro hr : List Nat}
theorem Ent.any {L : Loc} {ab : AB} {ch : zac} (he : Ent D ρ L ab ch) (hn : noC ab = true) : Ent D ρ' L ab ch := by
 cases he with
 | c => cases hn
 | cw => cases hn
 | w a b => exact .w a b
 | o a => exact .o a
 | p a b c => exact .p a b c
 | tk a => exact .tk a
 | x => exact .x
theorem SAt.over {ch : zac} (M : SAt D ρ m chs (ch :: C) h) {b : Nat} {L : Loc} {ab : AB} (hb : b < m.length) (hL : ρ[b]? = some L) (he : Ent D ρ L ab ch) : SAt D ρ (ms m b ab) (chs.set b ch) C h := by
 have hlt : b < chs.length := by rw [M.lch]; exact hb
 have hc : chs[b]? = some chs[b] := List.getElem?_eq_getElem hlt
 refine M.put (C' := C) hL hc ?_ (.refl D) he
 have S1 := (M.front hc).drop
 rw [List.eraseIdx_append_of_lt_length hlt] at S1 ⊢
 exact S1.unmid
theorem reB_S {lim : Nat} {f : Nat → Nat} : ∀ {ps : List BP} {js bs : List Nat} {os : List It} {tk : List zac} {mt : Mem} {ρt : List Loc} {ct C : List zac}, OB D ρ lim ps js os tk → SAt D ρt mt ct (tk ++ C) h → Ren f lim ρ ρt → bs.length = ps.length →
 (∀ (i j b : Nat), js[i]? = some j → bs[i]? = some b → b < mt.length ∧ ∀ L, ρ[j]? = some L → ρt[b]? = some L) →
 ∃ s c2, SAt D (ρt ++ s) (reB f mt ps bs os) c2 C h ∧ mt.length ≤ (reB f mt ps bs os).length ∧ ∀ b, b < mt.length → b ∉ bs → mg (reB f mt ps bs os) b = mg mt b ∧ c2[b]? = ct[b]?
 | [], js, bs, os, tk, mt, ρt, ct, C, ho, M, R, hl, hj => by
   cases ho
   have : bs = [] := List.eq_nil_of_length_eq_zero hl
   subst this
   exact ⟨[], ct, by simpa [reB] using M, Nat.le_refl _, fun b _ _ => ⟨rfl, rfl⟩⟩
 | y :: ps, js, [], os, tk, mt, ρt, ct, C, ho, M, R, hl, hj => by simp at hl
 | y :: ps, js, b :: bs, os, tk, mt, ρt, ct, C, ho, M, R, hl, hj => by
   cases ho with
   | e hy hL he hn ho =>
     rename_i j ab L ch js os tk
     obtain ⟨hb, hjb⟩ := hj 0 j b rfl rfl
     have hbρ : b < ρt.length := by rw [M.len]; exact hb
     have M1 : SAt D ρt (ms mt b ab) (ct.set b ch) (tk ++ C) h := by
      by_cases hx : ab = .x
      · subst hx
        have : ch = [] := by cases he; rfl
        subst this
        exact SAt.over (C := tk ++ C) M hb (List.getElem?_eq_getElem hbρ) .x
      · exact SAt.over (C := tk ++ C) M hb (hjb L (hL hx)) (he.any hn)
     obtain ⟨s, c2, M2, g1, g2⟩ := reB_S (f := f) ho M1 R (by simpa using hl) (fun i j' b' h1 h2 => by
      have := hj (i + 1) j' b' (by simpa using h1) (by simpa using h2)
      rw [zck]; exact this)
     have e : reB f mt (y :: ps) (b :: bs) (.e ab :: os) = reB f (ms mt b ab) ps bs os := by
      cases y <;> first | rfl | exact absurd rfl (hy _)
     rw [e]
     rw [zck] at g1 g2
     refine ⟨s, c2, M2, g1, fun b' h1 h2 => ?_⟩
     simp only [List.mem_cons, not_or] at h2
     obtain ⟨g3, g4⟩ := g2 b' h1 h2.2
     rw [g3, g4, zbv (Ne.symm h2.1), List.getElem?_set_ne (Ne.symm h2.1)]
     exact ⟨rfl, rfl⟩
   | c hL ov hl1 ho =>
     rename_i qs j L S arr o1 t1 js os tk
     obtain ⟨hb, hjb⟩ := hj 0 j b rfl rfl
     have Mp : SAt D ρt mt ct (t1 ++ ([(L.b, .cells arr.toArray S (0, 0))] :: (tk ++ C))) h := M.perm (by
      simp only [List.flatten_append, List.flatten_cons, List.cons_append, List.nil_append, List.append_assoc]
      exact List.perm_middle.symm)
     obtain ⟨s, ns, cs, e1, e2, M1, r1⟩ := zoi (r := os) ov hl1 Mp R
     have hb2 : b < (mt ++ ns).length := by simp; omega
     have M2 := M1.over (ab := .c (zgo f mt qs.length (o1 ++ os)).1) hb2 (zam (hjb L hL)) (.c r1)
     obtain ⟨s2, c2, M3, g1, g2⟩ := reB_S (f := f) ho M2 (R.app s) (by simpa using hl) (fun i j' b' h1 h2 => by
      obtain ⟨h3, h4⟩ := hj (i + 1) j' b' (by simpa using h1) (by simpa using h2)
      rw [zck]
      exact ⟨by simp; omega, fun L hL => zam (h4 L hL)⟩)
     have e : reB f mt (.c qs :: ps) (b :: bs) (o1 ++ os) = reB f (ms (mt ++ ns) b (.c (zgo f mt qs.length (o1 ++ os)).1)) ps bs os := by
      simp only [reB, e1, e2]
     rw [e]
     rw [zck] at g1 g2
     refine ⟨s ++ s2, c2, by simpa using M3, by simp at g1; omega, fun b' h1 h2 => ?_⟩
     simp only [List.mem_cons, not_or] at h2
     obtain ⟨g3, g4⟩ := g2 b' (by simp; omega) h2.2
     rw [g3, g4, zbv (Ne.symm h2.1), List.getElem?_set_ne (Ne.symm h2.1), zob h1, List.getElem?_append_left (by rw [M.lch]; exact h1)]
     exact ⟨rfl, rfl⟩
theorem frzC_S : ∀ {xs ys : List V} {vs : List Value} {m m' : Mem} {D : Fz} {chs : List zac}, frzV.frzC (hr ++ ro) m xs = some (ys, m') → SAt D ρ m chs C h → RpC D ρ vs xs →
 ∃ D' chs', Nx ro hr D ρ m chs D' ρ m' chs' ∧ SAt D' ρ m' chs' C h ∧ RpC D' ρ vs ys
 | [], ys, vs, m, m', D, chs, hs, M, hv => by simp only [frzV.frzC, Option.some.injEq, Prod.mk.injEq] at hs; obtain ⟨rfl, rfl⟩ := hs; exact ⟨D, chs, .refl, M, hv⟩
 | x :: xs, ys, vs, m, m', D, chs, hs, M, hv => by
   have other : ∀ {l' : List V} {m2 : Mem}, frzV.frzC (hr ++ ro) m xs = some (l', m2) → ys = x :: l' → m' = m2 → ∃ D' chs', Nx ro hr D ρ m chs D' ρ m' chs' ∧ SAt D' ρ m' chs' C h ∧ RpC D' ρ vs ys := by
    intro l' m2 h1 e1 e2
    subst e1 e2
    cases hv with
    | cons a n b =>
      obtain ⟨D', c', n1, M1, r1⟩ := frzC_S h1 M b
      exact ⟨D', c', n1, M1, .cons (n1.rp a) n r1⟩
    | n hl b =>
      obtain ⟨D', c', n1, M1, r1⟩ := frzC_S h1 M b
      exact ⟨D', c', n1, M1, .n hl r1⟩
   unfold frzV.frzC at hs
   split at hs
   · rename_i heq; cases heq
   · rename_i b l heq
     cases heq
     split at hs
     · rename_i u m1 hu
       split at hs
       · rename_i l' m2 h2
         cases hs
         cases hv with
         | cons a n b =>
           obtain ⟨D1, c1, n1, M1, r1⟩ := toU_S hu M a
           obtain ⟨D2, c2, n2, M2, r2⟩ := frzC_S h2 M1 (n1.rpC b)
           exact ⟨D2, c2, n1.trans n2, M2, .cons (.u (r1.mono n2.le)) (by simp) r2⟩
       · cases hs
     · cases hs
   · rename_i v l hne heq
     cases heq
     split at hs
     · rename_i l' m2 h2
       cases hs
       exact other h2 rfl rfl
     · cases hs
theorem frzV_S {x y : V} {v : Value} (hs : frzV (hr ++ ro) m x = some (y, m')) (M : SAt D ρ m chs C h) (hv : Rp D ρ v x) :
 ∃ D' chs', Nx ro hr D ρ m chs D' ρ m' chs' ∧ SAt D' ρ m' chs' C h ∧ Rp D' ρ v y := by
 unfold frzV at hs
 split at hs
 · split at hs
   · rename_i u m1 hu
     cases hs
     obtain ⟨D1, c1, n1, M1, r1⟩ := toU_S hu M hv
     exact ⟨D1, c1, n1, M1, .u r1⟩
   · cases hs
 · split at hs
   · rename_i l' m1 hl
     cases hs
     obtain ⟨vs, rfl, hc⟩ := hv.a_inv
     obtain ⟨D1, c1, n1, M1, r1⟩ := frzC_S hl M hc
     exact ⟨D1, c1, n1, M1, .a r1⟩
   · cases hs
 · cases hs
   exact ⟨D, chs, .refl, M, hv⟩
theorem frzL_S : ∀ {xs ys : List V} {vs : List Value} {m m' : Mem} {D : Fz} {chs : List zac}, frzL (hr ++ ro) m xs = some (ys, m') → SAt D ρ m chs C h → RpL D ρ vs xs →
 ∃ D' chs', Nx ro hr D ρ m chs D' ρ m' chs' ∧ SAt D' ρ m' chs' C h ∧ RpL D' ρ vs ys
 | [], ys, vs, m, m', D, chs, hs, M, hv => by simp only [frzL, Option.some.injEq, Prod.mk.injEq] at hs; obtain ⟨rfl, rfl⟩ := hs; exact ⟨D, chs, .refl, M, hv⟩
 | x :: xs, ys, vs, m, m', D, chs, hs, M, hv => by
   simp only [frzL] at hs
   split at hs
   · rename_i y m1 h1
     split at hs
     · rename_i l' m2 h2
       cases hs
       cases hv with
       | cons a b =>
         obtain ⟨D1, c1, n1, M1, r1⟩ := frzV_S h1 M a
         obtain ⟨D2, c2, n2, M2, r2⟩ := frzL_S h2 M1 (n1.rpL b)
         exact ⟨D2, c2, n1.trans n2, M2, .cons (n2.rp r1) r2⟩
     · cases hs
   · cases hs
theorem normL_S : ∀ {Ts : List TypeId} {xs : List V} {vs : List Value}, RpL D ρ vs xs → RpL D ρ vs (zni P Ts xs)
 | [], xs, vs, hv => hv
 | _ :: _, [], vs, hv => hv
 | S :: Ts, x :: xs, vs, hv => by cases hv with | cons a b => exact .cons (datV_S (zfk a)) (normL_S b)
theorem zfw {m : Mem} : ∀ (n : Nat) (todo acc : List Nat), acc.Nodup → (clo m n todo acc).Nodup
 | 0, _, acc, h => h
 | _ + 1, [], acc, h => h
 | n + 1, b :: todo, acc, h => by
   simp only [clo]
   cases hb : inL acc b with
   | true => exact zfw n _ _ h
   | false =>
     refine zfw n _ _ ?_
     rw [List.nodup_append]
     refine ⟨h, by simp, fun x hx y hy e => ?_⟩
     subst e
     rw [List.mem_singleton.1 hy] at hx
     rw [inL_iff.2 hx] at hb
     cases hb
theorem SAt.takes : ∀ {ix : List Nat} {m : Mem} {chs C : List zac}, SAt D ρ m chs C h → ix.Nodup → (∀ b ∈ ix, b < m.length) →
 ∃ c', SAt D ρ (zdo m ix) c' ((ix.map fun b => (chs[b]?).getD []) ++ C) h ∧ (∀ b, b ∉ ix → c'[b]? = chs[b]? ∧ mg (zdo m ix) b = mg m b)
 | [], m, chs, C, M, hn, hb => ⟨chs, M, fun _ _ => ⟨rfl, rfl⟩⟩
 | b :: ix, m, chs, C, M, hn, hb => by
   have hb0 := hb b (by simp)
   have hr : b < ρ.length := by rw [M.len]; exact hb0
   have hc : b < chs.length := by rw [M.lch]; exact hb0
   have M1 := M.take (List.getElem?_eq_getElem hr) (List.getElem?_eq_getElem hc)
   rw [List.nodup_cons] at hn
   obtain ⟨c', M2, g⟩ := SAt.takes M1 hn.2 (fun b' h' => by rw [zck]; exact hb b' (by simp [h']))
   refine ⟨c', M2.perm ?_, fun b' hb' => ?_⟩
   · have e : (ix.map fun b' => ((chs.set b [])[b']?).getD []) = ix.map fun b' => (chs[b']?).getD [] := by
      refine List.map_congr_left fun b' hb' => ?_
      rw [List.getElem?_set_ne]
      rintro rfl; exact hn.1 hb'
     rw [e]
     simp only [List.map_cons, List.flatten_append, List.flatten_cons, List.cons_append, List.getElem?_eq_getElem hc, Option.getD_some]
     exact List.perm_append_comm_assoc _ _ _
   · simp only [List.mem_cons, not_or] at hb'
     obtain ⟨g1, g2⟩ := g b' hb'.2
     simp only [zdo]
     rw [g1, g2, List.getElem?_set_ne (Ne.symm hb'.1), zbv (Ne.symm hb'.1)]
     exact ⟨rfl, rfl⟩
theorem zhz : ∀ (ix : List Nat) (m : Mem), (zdo m ix).length = m.length
 | [], _ => rfl
 | b :: ix, m => by simp only [zdo]; rw [zhz ix, zck]
theorem zbs {ix : List Nat} : ∀ {l : List Nat}, ze8 ix l = true → ∀ b ∈ l, b ∈ ix
 | [], _ => by simp
 | x :: l, h => by
   simp only [ze8, Bool.and_eq_true] at h
   intro b hb
   rcases List.mem_cons.1 hb with rfl | hb
   · exact inL_iff.1 h.1
   · exact zbs h.2 b hb
theorem zdv {n : Nat} : ∀ {l : List Nat}, zia n l = true → ∀ b ∈ l, b < n
 | [], _ => by simp
 | x :: l, h => by
   simp only [zia, Bool.and_eq_true] at h
   intro b hb
   rcases List.mem_cons.1 hb with rfl | hb
   · exact Nat.le_of_ble_eq_true h.1
   · exact zdv h.2 b hb
theorem zkc {hr : List Nat} : ∀ {l : List Nat}, disj hr l = true → ∀ b ∈ l, b ∉ hr
 | [], _ => by simp
 | x :: l, h => by
   simp only [disj, Bool.and_eq_true, Bool.not_eq_true'] at h
   intro b hb
   rcases List.mem_cons.1 hb with rfl | hb
   · exact fun hm => by rw [inL_iff.2 hm] at h; cases h.1
   · exact zkc h.2 b hb
theorem zga : ∀ {ix : List Nat} {b k : Nat}, b ∈ ix → ∃ i, zjd ix b k = k + i ∧ ix[i]? = some b
 | x :: ix, b, k, hb => by
   simp only [zjd]
   cases hx : Nat.beq x b with
   | true => have := Nat.eq_of_beq_eq_true hx; subst this; exact ⟨0, rfl, rfl⟩
   | false =>
     rcases List.mem_cons.1 hb with rfl | hb
     · simp at hx
     · obtain ⟨i, h1, h2⟩ := zga (k := k + 1) hb
       exact ⟨i + 1, by rw [cond_false, h1]; omega, by simpa using h2⟩
theorem zpc : ∀ {ix : List Nat} {i b : Nat}, ix[i]? = some b → nthN ix i = b
 | [], _, _, h => by simp at h
 | _ :: _, 0, _, h => by simpa [nthN] using h
 | _ :: ix, i + 1, b, h => by simp only [nthN]; exact zpc (by simpa using h)
theorem Ent.ren {f : Nat → Nat} {L : Loc} {ab : AB} {ch : zac} (he : Ent D ρ L ab ch) (hf : ∀ b ∈ zci ab, ∀ L, ρ[b]? = some L → ρ'[f b]? = some L) : Ent D ρ' L (renA f ab) ch := by
 cases he with
 | c hc => exact .c (ren_all.2.2 hc hf)
 | w a b => exact .w a b
 | o a => exact .o a
 | p a b c => exact .p a b c
 | tk a => exact .tk a
 | x => exact .x
 | cw a b hc d e f => exact .cw a b (ren_all.2.2 hc hf) d e f
theorem SAt.sub2 (M : SAt D ρ m chs C h) {ix : List Nat} (hn : ix.Nodup) (hb : ∀ b ∈ ix, b < m.length) (hcl : ∀ b ∈ ix, ∀ c ∈ zci (mg m b), c ∈ ix) : ∃ c' cs, cs = (ix.map fun b => (chs[b]?).getD []) ∧ SAt D ρ (zdo m ix) c' (cs ++ C) h ∧ (∀ b, b ∉ ix → c'[b]? = chs[b]? ∧ mg (zdo m ix) b = mg m b) ∧
 SAt D (ix.map fun b => (ρ[b]?).getD ⟨0, none, 0, 0, none⟩) (znv m ix) cs (c' ++ C) h := by
 obtain ⟨c', M1, g⟩ := M.takes hn hb
 refine ⟨c', _, rfl, M1, g, by simp [znv], by simp [znv], ?_, ?_⟩
 · intro i L ab ch h1 h2 h3
   simp only [znv, List.getElem?_map] at h1 h2 h3
   obtain ⟨b, hib, rfl⟩ := Option.map_eq_some_iff.1 h2
   rw [hib] at h1 h3
   simp only [Option.map_some, Option.some.injEq] at h1 h3
   have hbm := List.mem_of_getElem? hib
   have hlt := hb b hbm
   have hr : b < ρ.length := by rw [M.len]; exact hlt
   have hc : b < chs.length := by rw [M.lch]; exact hlt
   rw [List.getElem?_eq_getElem hr, Option.getD_some] at h1
   rw [List.getElem?_eq_getElem hc, Option.getD_some] at h3
   subst h1 h3
   refine (M.ent b _ _ _ (List.getElem?_eq_getElem hr) (mg_eq hlt) (List.getElem?_eq_getElem hc)).ren fun c hcr L hL => ?_
   obtain ⟨k, h4, h5⟩ := zga (k := 0) (hcl b hbm c hcr)
   rw [h4, Nat.zero_add, List.getElem?_map, h5, Option.map_some, hL]; rfl
 · refine M1.st.perm ?_
   simp only [List.flatten_append]
   exact List.perm_append_comm_assoc _ _ _
theorem SAt.sub (M : SAt D ρ m chs C h) {ix : List Nat} (hn : ix.Nodup) (hb : ∀ b ∈ ix, b < m.length) (hcl : ∀ b ∈ ix, ∀ c ∈ zci (mg m b), c ∈ ix) : ∃ c' cs, SAt D ρ (zdo m ix) c' (cs ++ C) h ∧ (∀ b, b ∉ ix → c'[b]? = chs[b]? ∧ mg (zdo m ix) b = mg m b) ∧
 SAt D (ix.map fun b => (ρ[b]?).getD ⟨0, none, 0, 0, none⟩) (znv m ix) cs (c' ++ C) h :=
 let ⟨c', cs, _, h1, h2, h3⟩ := M.sub2 hn hb hcl; ⟨c', cs, h1, h2, h3⟩
end
section
variable {P : Program} {D D' : Fz} {ρ ρ' : List Loc} {m m' : Mem} {chs C : List zac} {h h' : zab} {T : List Value} {t : List V} {ro hr : List Nat}
theorem St.sublist {C' : List zac} (S : St D C h) (hs : C'.flatten.Sublist C.flatten) : St D C' h where
 nd := (hs.map (fun p : Nat × Obj => p.1)).nodup S.nd
 own p hp := S.own p (hs.subset hp)
 fz b o hb := ⟨(S.fz b o hb).1, fun hm => (S.fz b o hb).2 ((hs.map (fun p : Nat × Obj => p.1)).subset hm)⟩
theorem St.drops {A B : List zac} (S : St D (A ++ B) h) : St D B h := S.sublist (by rw [List.flatten_append]; exact List.sublist_append_right _ _)
theorem pkR_len {lim : Nat} : ∀ {rs : List RP} {xs : List V} {m m' : Mem} {os : List It}, pkR lim m rs xs = some (os, m') → rs.length = xs.length
 | [], [], _, _, _, _ => rfl
 | [], _ :: _, _, _, _, h => by cases h
 | .one _ :: _, [], _, _, _, h => by cases h
 | .agg _ :: _, [], _, _, _, h => by cases h
 | .one y :: rs, x :: xs, m, m', os, h => by
   simp only [pkR] at h
   split at h
   · split at h
     · rename_i h2; simp [pkR_len h2]
     · cases h
   · cases h
 | .agg qs :: rs, x :: xs, m, m', os, h => by
   cases x with
   | a l =>
     simp only [pkR] at h
     split at h
     · split at h
       · rename_i h2; simp [pkR_len h2]
       · cases h
     · cases h
   | _ => simp [pkR] at h
theorem zli : ∀ {ix : List Nat} {K : Prop}, roEq ro m m' ix K → K ∧ ∀ b ∈ ix, inL ro b = true → mg m' b = mg m b
 | [], K, h => ⟨h, by simp⟩
 | b :: ix, K, h => by
   simp only [roEq] at h
   cases hb : inL ro b with
   | true =>
     rw [hb] at h
     obtain ⟨h1, h2⟩ := zli h.2
     refine ⟨h1, fun c hc hr => ?_⟩
     rcases List.mem_cons.1 hc with rfl | hc
     · exact h.1
     · exact h2 c hc hr
   | false =>
     rw [hb] at h
     obtain ⟨h1, h2⟩ := zli h
     refine ⟨h1, fun c hc hr => ?_⟩
     rcases List.mem_cons.1 hc with rfl | hc
     · rw [hb] at hr; cases hr
     · exact h2 c hc hr
theorem datA_S {L : Loc} {ab : AB} {ch : zac} (he : Ent D ρ L ab ch) : Ent D ρ L (datA ab) ch := by
 cases he with
 | c h => exact .c (datL_S h)
 | w a b => exact .w a b
 | o a => exact .o a
 | p a b c => exact .p a b c
 | tk a => exact .tk a
 | x => exact .x
 | cw a b c d e f => exact .cw a b c d e f
theorem datM_get : ∀ {m : Mem} {i : Nat}, (datM m)[i]? = (m[i]?).map datA
 | [], i => by simp [datM]
 | a :: m, 0 => by simp [datM]
 | a :: m, i + 1 => by simp only [datM, List.getElem?_cons_succ]; exact datM_get
theorem zp3 : ∀ {m : Mem}, (datM m).length = m.length
 | [] => rfl
 | a :: m => by simp [datM, zp3 (m := m)]
theorem SAt.dat (M : SAt D ρ m chs C h) : SAt D ρ (datM m) chs C h where
 len := by rw [zp3]; exact M.len
 lch := by rw [zp3]; exact M.lch
 ent i L ab ch h1 h2 h3 := by
  rw [datM_get] at h2
  obtain ⟨a, h4, rfl⟩ := Option.map_eq_some_iff.1 h2
  exact datA_S (M.ent i L a ch h1 h4 h3)
 st := M.st
theorem callQ_S {kn : KN P} {g : FuncId} {m : Mem} {a : List V} {Q : V → Mem → Prop} (h : callQ P kn g m a Q) : PRun P g m a Q := by
 unfold callQ at h
 split at h
 · rename_i r hr
   intro D ρ chs C hp vs M ha
   exact (kn.ok g m a r hr D ρ chs C hp vs M ha).mono fun v h' ⟨D', ρ', c', x, m', l, M', hv, hx⟩ => ⟨D', ρ', c', x, m', l, M', hv, by rw [hx.1, hx.2]; exact h⟩
 · exact h
theorem callT_S {kn : KN P} {g : FuncId} {ix : List Nat} {rs : List RP} {bs : List BP} {as' : List V} {m1 : Mem} {c1 : List zac} {D1 : Fz} {KS : V → Mem → Prop} {vs : List Value} (hs : callT P kn ro hr g ix rs bs as' m1 KS) (hnd : ix.Nodup) (n1 : Nx ro hr D ρ m chs D1 ρ m1 c1) (M1 : SAt D1 ρ m1 c1 C h) (ra : RpL D1 ρ vs as') :
 Run P g vs h (zcy ro hr D ρ m chs C KS) := by
 unfold callT at hs
 · obtain ⟨hcc, hrun⟩ := zaa hs
   simp only [Bool.and_eq_true] at hcc
   obtain ⟨⟨⟨⟨q1, q2⟩, q3⟩, q4⟩, q5⟩ := hcc
   have q1 := zkc q1
   have q2 := zdv q2
   have q3 := zbs q3
   have q4 := zbs q4
   have q5 := Nat.eq_of_beq_eq_true q5
   obtain ⟨c', cs, Mk, gk, Ms⟩ := M1.sub hnd q2 fun b hb c hc => q4 c (List.mem_flatMap.2 ⟨b, hb, hc⟩)
   have sub : ∀ {b i : Nat} {L : Loc}, ix[i]? = some b → ρ[b]? = some L → (ix.map fun b => (ρ[b]?).getD ⟨0, none, 0, 0, none⟩)[i]? = some L := fun h1 h2 => by rw [List.getElem?_map, h1, Option.map_some, h2]; rfl
   have ra' := (ren_all (D := D1) (ρ := ρ) (f := fun b => zjd ix b 0) (ρ' := ix.map fun b => (ρ[b]?).getD ⟨0, none, 0, 0, none⟩)).2.1 ra fun b hb L hL => by
    obtain ⟨k, h4, h5⟩ := zga (k := 0) (q3 b hb)
    rw [h4, Nat.zero_add]
    exact sub h5 hL
   refine ((callQ_S hrun) D1 _ cs (c' ++ C) h vs Ms.dat ra').mono ?_
   rintro v h' ⟨D2, ρ2, cs2, x, m', le, Ms2, hv, hq⟩
   unfold post at hq
   split at hq
   · rename_i os mm1 hR
     split at hq
     · rename_i os2 mm2 hB
       -- the results as values
       have hxs : ∃ VS, RpL D2 ((ix.map fun b => (ρ[b]?).getD ⟨0, none, 0, 0, none⟩) ++ ρ2) VS (resX rs x) ∧
        ∀ {D3 : Fz} {ρ3 : List Loc} {ys : List V}, RpL D3 ρ3 VS ys → Rp D3 ρ3 v (oneR rs ys) := by
        have hlen := pkR_len hR
        by_cases hone : ∃ r, rs = [r]
        · obtain ⟨r, rfl⟩ := hone
          refine ⟨[v], .cons hv .nil, fun hy => ?_⟩
          cases hy with | cons a b => cases b; exact a
        · have e1 : ∀ ys, oneR rs ys = .t ys := fun ys => by
           unfold oneR
           split
           · exact absurd ⟨_, rfl⟩ hone
           · rfl
          cases x with
          | t l =>
            have e2 : resX rs (.t l) = l := by
             unfold resX
             split
             · exact absurd ⟨_, rfl⟩ hone
             · rename_i h1; cases h1; rfl
             · rename_i h1; exact absurd rfl (h1 _)
            obtain ⟨VS, rfl, hl⟩ := hv.t_inv
            exact ⟨VS, by rw [e2]; exact hl, fun hy => by rw [e1]; exact .t hy⟩
          | _ =>
            exfalso
            have : rs.length = 1 := by
             rw [hlen]
             unfold resX
             split <;> first | rfl | (rename_i h1; cases h1)
            exact hone (List.length_eq_one_iff.1 this)
       obtain ⟨VS, hVS, hres⟩ := hxs
       obtain ⟨tk1, c3, M3, o1, k1, -⟩ := pkR_S hR Ms2 hVS
       obtain ⟨tk2, c4, M4, o2, k2, -⟩ := pkB_S hB M3
       rw [apP_mk (k1.app k2)] at hq
       -- back to the caller
       have S5 : St D2 (c' ++ (tk1 ++ (tk2 ++ C))) h' := (M4.st.drops).perm (by
        simp only [List.flatten_append]
        have p1 : ∀ (A B E F : zac), (A ++ (B ++ (E ++ F))).Perm (E ++ (B ++ (A ++ F))) := fun A B E F => by
         refine (List.perm_append_comm_assoc A B _).trans ?_
         refine ((List.perm_append_comm_assoc A E F).append_left B).trans ?_
         exact List.perm_append_comm_assoc B E _
        exact p1 _ _ _ _)
       have M5 : SAt D2 ρ (zdo m1 ix) c' (tk1 ++ (tk2 ++ C)) h' := Mk.mono le S5
       have hR1 : Ren (nthN ix) bs.length ((ix.map fun b => (ρ[b]?).getD ⟨0, none, 0, 0, none⟩) ++ ρ2) ρ := fun b hb L hL => by
        have hb' : b < ix.length := by omega
        rw [List.getElem?_append_left (by simpa using hb'), List.getElem?_map, List.getElem?_eq_getElem hb', Option.map_some] at hL
        have hlt : ix[b] < ρ.length := by rw [M1.len]; exact q2 _ (List.getElem_mem hb')
        rw [List.getElem?_eq_getElem hlt] at hL
        rw [zpc (List.getElem?_eq_getElem hb'), List.getElem?_eq_getElem hlt]
        exact hL
       obtain ⟨s, ns, cn, e1, e2, M6, r6⟩ := reR_S (r := os2) o1 M5 hR1
       rw [← e1] at o2
       have hlk := zhz ix m1
       obtain ⟨s2, c7, M7, g1, g2⟩ := reB_S (bs := ix) o2 M6 (hR1.app s) (by rw [q5]) (fun i j b hj hb => by
        have hj' : j = i ∧ i < bs.length := by
         have := List.getElem?_eq_some_iff.1 hj
         obtain ⟨h1, h2⟩ := this
         simp at h1 h2
         exact ⟨h2.symm, h1⟩
        obtain ⟨rfl, hi⟩ := hj'
        have hbm := q2 b (List.mem_of_getElem? hb)
        refine ⟨by rw [List.length_append, hlk]; omega, fun L hL => ?_⟩
        have := (hR1.app s) j hi L hL
        rwa [zpc hb] at this)
       rw [e2] at hq
       obtain ⟨hK, hro⟩ := zli hq
       refine ⟨D2, ρ ++ (s ++ s2), _, c7, _, ⟨n1.le.trans le, ⟨_, rfl⟩, fun b hb hlt => ?_, fun b hb hlt => ?_, ?_⟩, by rw [← List.append_assoc]; exact M7, hres (by rw [← List.append_assoc]; exact r6.mono (.refl _) s2), hK⟩
       · have hlt1 : b < m1.length := Nat.lt_of_lt_of_le hlt n1.len
         have hni : b ∉ ix := fun hi => q1 b hi (inL_iff.1 hb)
         rw [(g2 b (by rw [List.length_append, hlk]; omega) hni).2, List.getElem?_append_left (by rw [Mk.lch, hlk]; exact hlt1), (gk b hni).1, n1.keep b hb hlt]
       · have hlt1 : b < m1.length := Nat.lt_of_lt_of_le hlt n1.len
         by_cases hi : b ∈ ix
         · have hbr : inL ro b = true := by
            rw [inL_iff] at hb ⊢
            exact (List.mem_append.1 hb).resolve_left (q1 b hi)
           rw [hro b hi hbr, n1.same b hb hlt]
         · rw [(g2 b (by rw [List.length_append, hlk]; omega) hi).1, zob (by rw [hlk]; exact hlt1), (gk b hi).2, n1.same b hb hlt]
       · have := n1.len
         rw [List.length_append, hlk] at g1
         omega
     · exact hq.elim
   · exact hq.elim
theorem callS_S {H : SH P} {fn : Func} {g : FuncId} {args : List V} {KS : V → Mem → Prop} {vs : List Value} (hs : callS P H ro hr fn g args m KS) (M : SAt D ρ m chs C h) (ha : RpL D ρ vs args) : Run P g vs h (zcy ro hr D ρ m chs C KS) := by
 unfold callS at hs
 split at hs
 · exact hs.elim
 · rename_i as' m1 hfz
   have ha := normL_S (P := P) (Ts := fn.params.toList) ha
   have frz : ∃ D1 c1, Nx ro hr D ρ m chs D1 ρ m1 c1 ∧ SAt D1 ρ m1 c1 C h ∧ RpL D1 ρ vs as' := by
    cases hw : inL H.ow g with
    | true =>
      rw [hw] at hfz
      simp only [cond_true, Option.some.injEq, Prod.mk.injEq] at hfz
      obtain ⟨rfl, rfl⟩ := hfz
      exact ⟨D, chs, .refl, M, ha⟩
    | false =>
      rw [hw] at hfz
      exact frzL_S hfz M ha
   obtain ⟨D1, c1, n1, M1, ra⟩ := frz
   have hnd := zfw (m := m1) 1000 (zak as') [] (by simp)
   split at hs
   · exact callT_S hs hnd n1 M1 ra
   · exact callT_S hs hnd n1 M1 ra
end
section
variable {P : Program} {D D' : Fz} {ρ ρ' : List Loc} {m m' : Mem} {chs C : List zac} {h h' : zab} {T : List Value} {t : List V} {ro hr : List Nat}
theorem refs_lt : (∀ {v : Value} {x : V}, Rp D ρ v x → ∀ b ∈ zae x, b < ρ.length) ∧ (∀ {v : List Value} {x : List V}, RpL D ρ v x → ∀ b ∈ zak x, b < ρ.length) ∧ (∀ {v : List Value} {x : List V}, RpC D ρ v x → ∀ b ∈ zak x, b < ρ.length) := by
 have lt : ∀ {b : Nat} {L : Loc}, ρ[b]? = some L → b < ρ.length := fun h => (List.getElem?_eq_some_iff.1 h).1
 have one : ∀ {b : Nat} {L : Loc}, ρ[b]? = some L → ∀ c ∈ [b], c < ρ.length := fun h c hc => by rw [List.mem_singleton.1 hc]; exact lt h
 have key := @Rp.rec D ρ (fun v x _ => ∀ b ∈ zae x, b < ρ.length) (fun vs xs _ => ∀ b ∈ zak xs, b < ρ.length) (fun vs xs _ => ∀ b ∈ zak xs, b < ρ.length)
  (fun _ => by simp [zae]) (fun h => one h) (fun h _ _ _ => one h) (fun h _ _ => one h) (fun _ _ _ => by simp [zae]) (fun h => one h) (fun _ => by simp [zae]) (fun h => one h) (by simp [zae]) (by simp [zae])
  (fun _ _ i1 i2 => by intro b hb; simp only [zae, List.mem_append] at hb; exact hb.elim (i1 b) (i2 b)) (fun _ i => i) (fun _ i => i) (by simp [zae]) (fun h => one h) (fun h _ _ _ _ _ _ => one h) (fun h _ _ => one h) (by simp [zak])
  (fun _ _ i1 i2 => by intro b hb; simp only [zak, List.mem_append] at hb; exact hb.elim (i1 b) (i2 b)) (by simp [zak]) (fun _ _ _ i1 i2 => by intro b hb; simp only [zak, List.mem_append] at hb; exact hb.elim (i1 b) (i2 b))
  (fun _ _ i => by intro b hb; simp only [zak, zae, List.nil_append] at hb; exact i b hb)
 have keyL := @RpL.rec D ρ (fun v x _ => ∀ b ∈ zae x, b < ρ.length) (fun vs xs _ => ∀ b ∈ zak xs, b < ρ.length) (fun vs xs _ => ∀ b ∈ zak xs, b < ρ.length)
  (fun _ => by simp [zae]) (fun h => one h) (fun h _ _ _ => one h) (fun h _ _ => one h) (fun _ _ _ => by simp [zae]) (fun h => one h) (fun _ => by simp [zae]) (fun h => one h) (by simp [zae]) (by simp [zae])
  (fun _ _ i1 i2 => by intro b hb; simp only [zae, List.mem_append] at hb; exact hb.elim (i1 b) (i2 b)) (fun _ i => i) (fun _ i => i) (by simp [zae]) (fun h => one h) (fun h _ _ _ _ _ _ => one h) (fun h _ _ => one h) (by simp [zak])
  (fun _ _ i1 i2 => by intro b hb; simp only [zak, List.mem_append] at hb; exact hb.elim (i1 b) (i2 b)) (by simp [zak]) (fun _ _ _ i1 i2 => by intro b hb; simp only [zak, List.mem_append] at hb; exact hb.elim (i1 b) (i2 b))
  (fun _ _ i => by intro b hb; simp only [zak, zae, List.nil_append] at hb; exact i b hb)
 have keyC := @RpC.rec D ρ (fun v x _ => ∀ b ∈ zae x, b < ρ.length) (fun vs xs _ => ∀ b ∈ zak xs, b < ρ.length) (fun vs xs _ => ∀ b ∈ zak xs, b < ρ.length)
  (fun _ => by simp [zae]) (fun h => one h) (fun h _ _ _ => one h) (fun h _ _ => one h) (fun _ _ _ => by simp [zae]) (fun h => one h) (fun _ => by simp [zae]) (fun h => one h) (by simp [zae]) (by simp [zae])
  (fun _ _ i1 i2 => by intro b hb; simp only [zae, List.mem_append] at hb; exact hb.elim (i1 b) (i2 b)) (fun _ i => i) (fun _ i => i) (by simp [zae]) (fun h => one h) (fun h _ _ _ _ _ _ => one h) (fun h _ _ => one h) (by simp [zak])
  (fun _ _ i1 i2 => by intro b hb; simp only [zak, List.mem_append] at hb; exact hb.elim (i1 b) (i2 b)) (by simp [zak]) (fun _ _ _ i1 i2 => by intro b hb; simp only [zak, List.mem_append] at hb; exact hb.elim (i1 b) (i2 b))
  (fun _ _ i => by intro b hb; simp only [zak, zae, List.nil_append] at hb; exact i b hb)
 exact ⟨fun h => key h, fun h => keyL h, fun h => keyC h⟩
mutual
theorem renV_id : ∀ x : V, zch id x = x
 | .r b o => rfl
 | .e b s k o => rfl
 | .g b o w k => rfl
 | .w b => rfl
 | .m b => rfl
 | .y b => rfl
 | .v b sz l n c => rfl
 | .sl b o n => rfl
 | .f g a c => by simp only [zch]; rw [zd9 a, zd9 c]
 | .a l => by simp only [zch]; rw [zd9 l]
 | .t l => by simp only [zch]; rw [zd9 l]
 | .u x => rfl
 | .q c o => rfl
 | .c s r => rfl
 | .nm => rfl
 | .nl _ => rfl
 | .n k w l => rfl
 | .z => rfl
theorem zd9 : ∀ x : List V, zes id x = x
 | [] => rfl
 | v :: l => by simp only [zes]; rw [renV_id v, zd9 l]
end
theorem Ent.shrink {D0 : Fz} {s : List Loc} {L L0 : Loc} {ab : AB} {ch ch0 : zac} (h0 : Ent D0 ρ L0 ab ch0) (he : Ent D (ρ ++ s) L ab ch) : Ent D ρ L ab ch := by
 have hf : ∀ b ∈ zci ab, b < ρ.length := by
  cases h0 with
  | c hc => exact refs_lt.2.2 hc
  | cw _ _ hc => exact refs_lt.2.2 hc
  | _ => simp [zci]
 have := he.ren (f := id) (ρ' := ρ) fun b hb L hL => by rw [List.getElem?_append_left (hf b hb)] at hL; exact hL
 cases ab with
 | c l => simp only [renA, zd9] at this; exact this
 | cw _ _ _ l => simp only [renA, zd9] at this; exact this
 | _ => exact this
theorem killM_get : ∀ {l : List Nat} {m : Mem} {b : Nat}, b < m.length → mg (zdo m l) b = if b ∈ l then .x else mg m b
 | [], m, b, h => by simp [zdo]
 | j :: l, m, b, h => by
   simp only [zdo]
   rw [killM_get (by rw [zck]; exact h)]
   by_cases hbj : j = b
   · subst hbj; rw [mg_ms h]; simp
   · rw [zbv hbj]
     have : b ≠ j := Ne.symm hbj
     simp [this]
theorem zi5 : ∀ {a c : Mem}, zic a c = true → ∀ b, mg a b ≠ .x → mg c b ≠ .x
 | [], c, h, b, hb => absurd rfl hb
 | y1 :: a, [], h, b, hb => by cases y1 <;> simp [zic] at h
 | y1 :: a, y :: c, h, b, hb => by
   have h2 : zic a c = true := by cases y1 <;> cases y <;> first | exact h | (simp [zic] at h)
   cases b with
   | zero =>
     intro e
     simp only [mg] at e hb
     subst e
     cases y1 <;> first | exact hb rfl | simp [zic] at h
   | succ b => exact zi5 h2 b hb
theorem roOf_mem : ∀ {m : Mem} {k b : Nat}, b ∈ roOf m k ↔ ∃ i, b = k + i ∧ mg m i ≠ .x
 | [], k, b => by simp [roOf, mg]
 | y1 :: m, k, b => by
   have step : (∃ i, b = k + i ∧ mg (y1 :: m) i ≠ .x) ↔ (b = k ∧ y1 ≠ .x) ∨ ∃ i, b = k + 1 + i ∧ mg m i ≠ .x := by
    constructor
    · rintro ⟨i, hi, hx⟩
      cases i with
      | zero => exact .inl ⟨by omega, hx⟩
      | succ i => exact .inr ⟨i, by omega, hx⟩
    · rintro (⟨h1, h2⟩ | ⟨i, h1, h2⟩)
      · exact ⟨0, by omega, h2⟩
      · exact ⟨i + 1, by omega, h2⟩
   rw [step, ← roOf_mem (m := m) (k := k + 1)]
   cases y1 <;> simp [roOf]
theorem znu : ∀ {a b : List zac}, a.length ≤ b.length → (∀ (i : Nat) (c : zac), a[i]? = some c → c = [] ∨ b[i]? = some c) → a.flatten.Sublist b.flatten
 | [], b, _, _ => by simp
 | x :: a, [], h, _ => by simp at h
 | x :: a, y :: b, h, hh => by
   rw [List.flatten_cons, List.flatten_cons]
   refine List.Sublist.append ?_ (znu (by simpa using h) fun i c hc => hh (i + 1) c (by simpa using hc))
   rcases hh 0 x rfl with rfl | h0
   · exact List.nil_sublist _
   · simp at h0; rw [h0]; exact List.Sublist.refl _
theorem havoc_S {md : List Nat} {T' : List Value} : ∀ {t : List V} {T : List Value} {T' : List Value} {k : Nat}, RpL D ρ T t → T'.length = T.length → (∀ i, k + i ∉ md → zd0 T' i = zd0 T i) → RpL D ρ T' (havoc md t k)
 | [], T, T', k, F, hl, hs => by
   cases F
   have : T' = [] := List.eq_nil_of_length_eq_zero hl
   subst this
   exact .nil
 | x :: t, T, [], k, F, hl, hs => by cases F; simp at hl
 | x :: t, T, v' :: T', k, F, hl, hs => by
   cases F with
   | cons a b =>
     simp only [havoc]
     refine .cons ?_ (havoc_S (T' := T') b (by simpa using hl) fun i hi => ?_)
     · cases hc : md.contains k with
       | true => exact .z
       | false =>
         have := hs 0 (by simpa using hc)
         simp only [zd0] at this
         rw [this]; exact a
     · have := hs (i + 1) (by rw [show k + (i + 1) = k + 1 + i by omega]; exact hi)
       simpa [zd0] using this
theorem setS_S : ∀ {sl : List (Nat × RP)} {xs : List V} {T : List Value} {t : List V}, RpL D ρ T t → RpL D ρ (sl.map fun p => zd0 T p.1) xs → RpL D ρ T (setS t sl xs)
 | [], xs, T, t, F, hx => by cases xs <;> exact F
 | p :: sl, xs, T, t, F, hx => by
   cases hx with
   | cons a b =>
     simp only [setS]
     have := F.set p.1 a
     rw [zpp] at this
     exact setS_S this b
theorem vgets_S (F : RpL D ρ T t) : ∀ (sl : List (Nat × RP)), RpL D ρ (sl.map fun p => zd0 T p.1) (sl.map fun p => zdx t p.1)
 | [] => .nil
 | p :: sl => .cons (F.get p.1) (vgets_S F sl)
theorem restate {H : Hint} {md : List Nat} {hp : zab} (hd : disj (hr ++ ro) (H.tk t m) = true) (hbl : zia m.length (H.bl.map (·.1)) = true) {C0 : List zac} (M : SAt D ρ m chs C0 hp) (F : RpL D ρ T t) {D' : Fz} {ρ' : List Loc} {m' : Mem} {chs' : List zac} {t' : List V} {T' : List Value}
 (n : Nx (roOf (H.base t m) 0 ++ ro) hr D ρ m chs D' ρ' m' chs') (M' : SAt D' ρ' m' chs' C h') (F' : RpL D' ρ' T' t') (ag : Agr md T T') {os : List It} {mR : Mem} (hpk : H.pk (H.base t m).length t' m' = some (os, mR)) (hal : zic (H.base t m) mR = true) :
 ∃ ρ2 c2, Nx (roOf (H.base t m) 0 ++ ro) hr D ρ m chs D' ρ2 (H.st md t m os).2 c2 ∧ SAt D' ρ2 (H.st md t m os).2 c2 C h' ∧ RpL D' ρ2 T' (H.st md t m os).1 ∧ OkL H.ps os := by
 have hbase : (H.base t m).length = m.length := zhz _ _
 generalize hm0 : H.base t m = m0 at *
 have hN : m0.length = m.length := hbase
 have hm0g : ∀ b, b < m.length → mg m0 b = if b ∈ H.tk t m then .x else mg m b := fun b hb => by rw [← hm0]; exact killM_get hb
 obtain ⟨s, rfl⟩ := n.pre
 unfold Hint.pk at hpk
 split at hpk
 · rename_i os1 mm1 hV
   split at hpk
   · rename_i os2 mm2 hB
     cases hpk
     have hvals := vgets_S F' H.sl
     obtain ⟨tk1, c3, M3, o1, k1, kk1⟩ := pkR_S hV M' hvals
     obtain ⟨tk2, c4, M4, o2, k2, kk2⟩ := pkB_S hB M3
     have hk : ∀ b, mg m0 b ≠ .x → mg mR b = mg m' b := fun b hb => by
      have h1 := zi5 hal b hb
      rcases zda hB b with h2 | h2
      · rcases zhs hV b with h3 | h3
        · exact h2.trans h3
        · exact absurd (h2.trans h3) h1
      · exact absurd h2 h1
     have hmm : ∀ b, b < m.length → mg m0 b ≠ .x → mg m0 b = mg m b ∧ mg m' b = mg m b := fun b hb hx => by
      have h1 := hm0g b hb
      refine ⟨?_, n.same b ?_ hb⟩
      · split at h1
        · exact absurd h1 hx
        · exact h1
      · rw [inL_iff]; simp only [List.mem_append]; exact .inr (.inl (roOf_mem.2 ⟨b, by omega, hx⟩))
     -- the chunks of what was there
     have hlenR : mR.length = (ρ ++ s).length := M4.len.symm
     have hmR : m.length ≤ mR.length := by rw [hlenR, List.length_append, M.len]; omega
     let c0 : List zac := (List.range m.length).map fun b => match mg m0 b with | .x => [] | _ => (c4[b]?).getD []
     have hc0 : ∀ b, b < m.length → c0[b]? = some (match mg m0 b with | .x => [] | _ => (c4[b]?).getD []) := fun b hb => by
      simp only [c0, List.getElem?_map]
      rw [List.getElem?_range hb]; rfl
     have hc0l : c0.length = m.length := by simp [c0]
     have hc4 : ∀ b, b < m.length → c4[b]? = some ((c4[b]?).getD []) := fun b hb => by
      have : b < c4.length := by rw [M4.lch]; omega
      rw [List.getElem?_eq_getElem this]; rfl
     have S0 : St D' (c0 ++ (tk1 ++ (tk2 ++ C))) h' := by
      have hsub : c0.flatten.Sublist c4.flatten := znu (by rw [hc0l, M4.lch]; exact hmR) fun i c hc => by
       have hi : i < m.length := by rw [← hc0l]; exact (List.getElem?_eq_some_iff.1 hc).1
       rw [hc0 i hi] at hc
       cases hc
       split
       · exact .inl rfl
       · exact .inr (hc4 i hi)
      have S1 : St D' (c0 ++ (tk2 ++ (tk1 ++ C))) h' := M4.st.sublist (by
       simp only [List.flatten_append]
       exact hsub.append (List.Sublist.refl _))
      refine S1.perm ?_
      simp only [List.flatten_append]
      exact (List.perm_append_comm_assoc _ _ _).append_left _
     have M0 : SAt D' ρ m0 c0 (tk1 ++ (tk2 ++ C)) h' := by
      refine ⟨by rw [hN]; exact M.len, by rw [hN]; exact hc0l, fun i L ab ch h1 h2 h3 => ?_, S0⟩
      have hi : i < m.length := by rw [← hN]; exact (List.getElem?_eq_some_iff.1 h2).1
      rw [mg_eq (by rw [hN]; exact hi)] at h2
      rw [hc0 i hi] at h3
      cases h2; cases h3
      split
      · rename_i hx; rw [hx]; exact .x
      · rename_i hx
        obtain ⟨e1, e2⟩ := hmm i hi hx
        have h4 := M4.ent i L (mg mR i) _ (zam h1) (mg_eq (by omega)) (hc4 i hi)
        rw [hk i hx, e2] at h4
        have hρ : i < ρ.length := by rw [M.len]; exact hi
        have hch : i < chs.length := by rw [M.lch]; exact hi
        have h0 := M.ent i _ _ _ (List.getElem?_eq_getElem hρ) (mg_eq hi) (List.getElem?_eq_getElem hch)
        rw [e1]
        exact h0.shrink h4
     have hR : Ren id m0.length (ρ ++ s) ρ := fun b hb L hL => by
      rw [List.getElem?_append_left (by rw [M.len, ← hN]; exact hb)] at hL; exact hL
     obtain ⟨s1, ns, cn, e1, e2, M5, r6⟩ := reR_S (r := os2) o1 M0 hR
     have hbl := zdv hbl
     obtain ⟨s2, c7, M7, g1, g2⟩ := reB_S (f := id) (bs := H.bl.map (·.1)) o2 M5 (hR.app s1) (by simp) (fun i j b hj hb => by
      rw [hj] at hb; cases hb
      have hlt := hbl j (List.mem_of_getElem? hj)
      refine ⟨by rw [List.length_append]; omega, fun L hL => ?_⟩
      rw [List.getElem?_append_left (by rw [M.len]; exact hlt)] at hL
      exact zam hL)
     have hst : (H.st md t m (os1 ++ os2)).2 = reB id (m0 ++ ns) (H.bl.map (·.2)) (H.bl.map (·.1)) os2 := by
      simp only [Hint.st, hm0, e1, e2]
     have hst1 : (H.st md t m (os1 ++ os2)).1 = setS (havoc md t 0) H.sl (reR id m0 (H.sl.map (·.2)) (os1 ++ os2)).1 := by
      simp only [Hint.st, hm0]
     rw [hst, hst1]
     have hd := zkc hd
     -- what is alive at the head is as it was
     have hal2 : ∀ b, b < m.length → b ∉ H.bl.map (·.1) → mg (reB id (m0 ++ ns) (H.bl.map (·.2)) (H.bl.map (·.1)) os2) b = mg m0 b ∧ c7[b]? = c0[b]? := fun b hb hnb => by
      obtain ⟨h1, h2⟩ := g2 b (by rw [List.length_append]; omega) hnb
      rw [h1, h2, zob (by omega), List.getElem?_append_left (by rw [hc0l]; exact hb)]
      exact ⟨rfl, rfl⟩
     have htkb : ∀ b, b ∈ H.bl.map (·.1) → b ∈ H.tk t m := fun b hb => by
      obtain ⟨p, hp, rfl⟩ := List.mem_map.1 hb
      simp only [Hint.tk, List.mem_append]
      refine .inr (List.mem_flatMap.2 ⟨p, hp, ?_⟩)
      unfold tkB
      split
      · split <;> simp
      · simp
     refine ⟨ρ ++ (s1 ++ s2), c7, ⟨n.le, ⟨_, rfl⟩, fun b hb hlt => ?_, fun b hb hlt => ?_, by rw [List.length_append] at g1; omega⟩, by rw [← List.append_assoc]; exact M7, ?_, ?_⟩
     · have hnt : b ∉ H.tk t m := fun hm => hd b hm (by simp [inL_iff.1 hb])
       have hnb : b ∉ H.bl.map (·.1) := fun hm => hnt (htkb b hm)
       rw [(hal2 b hlt hnb).2, hc0 b hlt]
       have hx := hm0g b hlt
       rw [if_neg hnt] at hx
       have h1 := n.keep b hb hlt
       have hch : b < chs.length := by rw [M.lch]; exact hlt
       have hρ : b < ρ.length := by rw [M.len]; exact hlt
       split
       · rename_i h3
         have h0 := M.ent b _ _ _ (List.getElem?_eq_getElem hρ) (mg_eq hlt) (List.getElem?_eq_getElem hch)
         rw [← hx, h3] at h0
         rw [List.getElem?_eq_getElem hch]
         generalize chs[b] = c at h0
         cases h0; rfl
       · rename_i h3
         have h4 := zi5 hal b h3
         have h5 : mg mm1 b ≠ .x := by
          rcases zda hB b with h6 | h6
          · rw [← h6]; exact h4
          · exact absurd h6 h4
         rw [← hc4 b hlt, kk2 b h4, kk1 b h5, h1]
     · rcases List.mem_append.1 (inL_iff.1 hb) with hb | hb
       · have hnt : b ∉ H.tk t m := fun hm => hd b hm (by simp [hb])
         rw [(hal2 b hlt (fun hm => hnt (htkb b hm))).1, hm0g b hlt, if_neg hnt]
       · rcases List.mem_append.1 hb with hb | hb
         · obtain ⟨i, hi, hx⟩ := roOf_mem.1 hb
           have : i = b := by omega
           subst this
           have hnt : i ∉ H.tk t m := fun hm => by rw [hm0g i hlt, if_pos hm] at hx; exact hx rfl
           rw [(hal2 i hlt (fun hm => hnt (htkb i hm))).1, (hmm i hlt hx).1]
         · have hnt : b ∉ H.tk t m := fun hm => hd b hm (by simp [hb])
           rw [(hal2 b hlt (fun hm => hnt (htkb b hm))).1, hm0g b hlt, if_neg hnt]
     · refine setS_S (havoc_S (T' := T') ((F.mono n.le (s1 ++ s2))) ag.len fun i hi => ?_) (by rw [← List.append_assoc]; exact r6.mono (.refl _) s2)
       rw [Nat.zero_add] at hi
       exact ag.same i hi
     · unfold Hint.ps
       exact k1.app k2
   · cases hpk
 · cases hpk
end
section
variable {P : Program} {D D' : Fz} {ρ ρ' : List Loc} {m m' : Mem} {chs C : List zac} {h h' : zab} {T : List Value} {t : List V} {ro hr : List Nat}
def dch (ds : List Nat) : List zac := ds.map fun b => [(b, .deferred (some []))]
theorem SAt.cput {l : Nat} {o : Obj} (M : SAt D ρ m chs ([(l, o)] :: C) h) (o' : Obj) : SAt D ρ m chs ([(l, o')] :: C) (h.setIfInBounds l o') := by
 have S := M.st.unmid
 have hl := S.get (List.mem_singleton_self _)
 have hlt := zaz hl
 refine M.mono (.refl D) (S.upd (c' := [(l, o')]) ⟨by simp, fun x hx hn => ?_⟩ (by simp [hlt]) (by simp) (by simp)).mid
 simp only [List.map_cons, List.map_nil, List.mem_singleton] at hn
 rw [Array.getElem?_setIfInBounds_ne (Ne.symm hn)]
theorem SAt.cdrop {c : zac} (M : SAt D ρ m chs (c :: C) h) : SAt D ρ m chs C h := M.mono (.refl D) M.st.unmid.drop
theorem SAt.cpush (M : SAt D ρ m chs C h) (o : Obj) : SAt D ρ m chs ([(h.size, o)] :: C) (h.push o) :=
 M.mono (.refl D) (M.st.nil.upd (c' := [(h.size, o)]) (KB.push _ _ _) (by simp) (by simp) (by simp)).mid
theorem leavesY {fn : Func} {tmps : Array Value} {R : Ending → World → Prop} {n : Nat} : ∀ (ds : List Nat) (w : World), SAt D ρ m chs (dch ds ++ C) w.heap → (∀ w', SAt D ρ m chs C w'.heap → Same w w' → ∃ v, (results fn tmps).run P w' = .ok v w' ∧ R (.returned v) w') →
 LeavesInM (FW none) n P fn tmps R (ds.map mark) .returning w
 | [], w, M, hK => hK w M (.refl w)
 | b :: ds, w, M, hK => by
   have M' : SAt D ρ m chs ([(b, .deferred (some []))] :: (dch ds ++ C)) w.heap := M
   refine ⟨by simp, .inl ⟨b, w.putObj b (.deferred none), rfl, run_takeDeferred (M'.st.unmid.get (List.mem_singleton_self _)), ?_⟩⟩
   exact leavesY ds _ ((M'.cput (.deferred none)).cdrop) fun w' h1 h2 => hK w' h1 ((Same.put _ _ _).trans h2)
structure UpY (md : List Nat) (T : List Value) (w : World) (ro hr : List Nat) (D : Fz) (ρ : List Loc) (m : Mem) (chs C : List zac) (K : List V → Mem → Prop) (a' : Act) (w' : World) : Prop where
 sm : Same w w'
 ag : Agr md T a'.tmps.toList
 ex : ∃ ds D' ρ' m' chs' t', a'.defers = ds.map mark ∧ Nx ro hr D ρ m chs D' ρ' m' chs' ∧ SAt D' ρ' m' chs' (dch ds ++ C) w'.heap ∧ RpL D' ρ' a'.tmps.toList t' ∧ K t' m'
def LiftS (Q : zeq) (md : List Nat) (T : List Value) (w : World) (ro hr : List Nat) (D : Fz) (ρ : List Loc) (m : Mem) (chs C : List zac) : Exit → Act → World → Prop
 | .normal, a', w' => UpY md T w ro hr D ρ m chs C (Q .nrm) a' w'
 | .exit id, a', w' => UpY md T w ro hr D ρ m chs C (Q (.ext id)) a' w'
 | .ret, a', w' => UpY md T w ro hr D ρ m chs C (Q .ret) a' w'
 | _, _, _ => False
theorem Nx.weakR {rx : List Nat} {D' : Fz} {ρ' : List Loc} {m' : Mem} {chs' : List zac} (n : Nx (rx ++ ro) hr D ρ m chs D' ρ' m' chs') : Nx ro hr D ρ m chs D' ρ' m' chs' where
 le := n.le
 pre := n.pre
 keep := n.keep
 same b h1 h2 := n.same b (by rw [inL_iff] at h1 ⊢; simp at h1 ⊢; rcases h1 with h1 | h1 <;> simp [h1]) h2
 len := n.len
theorem UpY.mono {md md' : List Nat} {w : World} {K K' : List V → Mem → Prop} {a' : Act} {w' : World} (h : UpY md T w ro hr D ρ m chs C K a' w') (hm : ∀ i ∈ md, i ∈ md') (hK : ∀ t m, K t m → K' t m) : UpY md' T w ro hr D ρ m chs C K' a' w' where
 sm := h.sm
 ag := h.ag.mono hm
 ex := let ⟨ds, D', ρ', m', c', t', e, n, M, F, k⟩ := h.ex; ⟨ds, D', ρ', m', c', t', e, n, M, F, hK _ _ k⟩
theorem UpY.weakR {rx md : List Nat} {w : World} {K : List V → Mem → Prop} {a' : Act} {w' : World} (h : UpY md T w (rx ++ ro) hr D ρ m chs C K a' w') : UpY md T w ro hr D ρ m chs C K a' w' where
 sm := h.sm
 ag := h.ag
 ex := let ⟨ds, D', ρ', m', c', t', e, n, M, F, k⟩ := h.ex; ⟨ds, D', ρ', m', c', t', e, n.weakR, M, F, k⟩
theorem UpY.after {md md' mD : List Nat} {w w1 : World} {a1 : Act} {D1 : Fz} {ρ1 : List Loc} {m1 : Mem} {c1 : List zac} {K' : List V → Mem → Prop} {a' : Act} {w' : World} (s1 : Same w w1) (g1 : Agr md T a1.tmps.toList) (n1 : Nx ro hr D ρ m chs D1 ρ1 m1 c1)
 (h2 : UpY md' a1.tmps.toList w1 ro hr D1 ρ1 m1 c1 C K' a' w') (hm : ∀ i ∈ md, i ∈ mD) (hm' : ∀ i ∈ md', i ∈ mD) : UpY mD T w ro hr D ρ m chs C K' a' w' where
 sm := s1.trans h2.sm
 ag := (g1.mono hm).trans (h2.ag.mono hm')
 ex := let ⟨ds, D', ρ', m', c', t', e, n, M, F, k⟩ := h2.ex; ⟨ds, D', ρ', m', c', t', e, n1.trans n, M, F, k⟩
theorem Stab.nx {X : Fz → List Loc → Prop} (hX : Stab X) {D' : Fz} {ρ' : List Loc} {m' : Mem} {chs' : List zac} (n : Nx ro hr D ρ m chs D' ρ' m' chs') (x : X D ρ) : X D' ρ' := by
 obtain ⟨s, rfl⟩ := n.pre; exact hX s x n.le
def YOk (P : Program) (Y : YC) (X : Fz → List Loc → Prop) : Prop :=
 match Y with
 | .it b f => ∀ {ro hr : List Nat} {args : List V} {m : Mem} {KS : V → Mem → Prop} {D : Fz} {ρ : List Loc} {chs C : List zac} {vs : List Value} {L : Loc} {w : World}, X D ρ → f ro hr args m KS → SAt D ρ m chs C w.heap → RpL D ρ vs args → ρ[b]? = some L →
  ∃ fn tmps assign body, (Instr.yield L.b vs.toArray).run P w = .ok (.round L.b fn tmps assign body) w ∧
    RoundIn (FW none) 0 P L.b fn tmps assign body w fun e w' => ∃ v, e = .returned v ∧ zcy ro hr D ρ m chs C KS v w'.heap ∧ Same w w'
 | _ => True
theorem YOk.sub {Y : YC} {X : Fz → List Loc → Prop} (h : YOk P Y X) : YOk P Y.sub X := by
 cases Y <;> first | exact h | trivial
def YC.isRd : YC → Bool
 | .rd => true
 | _ => false
theorem YC.sub_rd (Y : YC) : Y.sub.isRd = false := by cases Y <;> rfl
def SelfOk (P : Program) (self : SelfY) : Prop :=
 ∀ {Y : YC} {X : Fz → List Loc → Prop} {fi : Nat} {ro hr : List Nat} {c : Code} {Q : zeq} {t : List V} {m : Mem} {D : Fz} {ρ : List Loc} {chs C : List zac} {a : Act} {w : World}, Stab X → YOk P Y X → Y.isRd = false → X D ρ → self Y fi ro hr c Q t m → SAt D ρ m chs C w.heap → RpL D ρ a.tmps.toList t → a.defers = [] →
   c.wpIn (FW none) 0 P (LiftS Q (zbl c) a.tmps.toList w ro hr D ρ m chs C) a w
theorem resL_S {tmps : Array Value} (ht : tmps.toList = T) (F : RpL D ρ T t) (M : SAt D ρ m chs C h) : ∀ {l : List ResultVar} {K : List V → Prop}, resL P l t m K →
 ∃ vs xs, K xs ∧ RpL D ρ vs xs ∧ ∀ w : World, w.heap = h → (l.mapM (rvS tmps)).run P w = .ok vs w
 | [], K, hh => ⟨[], [], hh, .nil, fun w _ => by simp⟩
 | .tmp i :: l, K, hh => by
   simp only [resL] at hh
   obtain ⟨vs, xs, hK, hv, hr⟩ := resL_S ht F M hh
   refine ⟨_, _, hK, .cons (F.get i) hv, fun w hw => ?_⟩
   have he : tmps.getD i undef = zd0 T i := by rw [← ht, zg0]; simp [Array.getD_eq_getD_getElem?]
   have h1 : (rvS tmps (.tmp i)).run P w = .ok (zd0 T i) w := by rw [← he]; rfl
   simp only [List.mapM_cons, Sem.run_bind, h1, hr w hw, Result.andThen_ok]
   rfl
 | .cell i S :: l, K, hh => by
   simp only [resL] at hh
   obtain ⟨bb, oo, v, x, hv, hK, hvx, hrun⟩ := sLoad_S hh M (F.get i) (bs := zae (zdx t i)) fun b hb => inL_iff.2 hb
   obtain ⟨vs, xs, hK, hvs, hr⟩ := resL_S ht F M hK
   refine ⟨_, _, hK, .cons hvx hvs, fun w hw => ?_⟩
   have he : tmps.getD i undef = .pointer (some ⟨bb, oo, none⟩) := by rw [← hv, ← ht, zg0]; simp [Array.getD_eq_getD_getElem?]
   have h3 : (rvS tmps (.cell i S)).run P w = .ok v w := by
    show Sem.run P (do loadVar S (← asAddr (tmps.getD i undef))) w = _
    rw [he]
    simp only [asAddr, Sem.run_bind, Sem.run_pure, Result.andThen_ok, hrun w (M.hs _ hw)]
   simp only [List.mapM_cons, Sem.run_bind, h3, hr w hw, Result.andThen_ok]
   rfl
theorem zpe : ∀ {Ts : List TypeId} {gc : Bool} {vs : List Value} {xs : List V}, RpL D ρ vs xs → RpL D ρ vs (zel P gc Ts xs)
 | [], gc, vs, xs, h => by cases xs <;> exact h
 | S :: Ts, gc, vs, [], h => h
 | S :: Ts, gc, vs, x :: xs, h => by
   cases h with
   | cons a b =>
     simp only [zel]
     cases gc
     · exact .cons (datV_S (zfk a)) (zpe b)
     · exact .cons (zfk a) (zpe b)
theorem one_S {vs : List Value} {xs : List V} (hv : RpL D ρ vs xs) : Rp D ρ (one vs) (oneV xs) := by
 cases hv with
 | nil => exact .t .nil
 | cons a b =>
   cases b with
   | nil => exact a
   | cons b c => exact .t (.cons a (.cons b c))
theorem ret_S {fn : Func} {tmps : Array Value} (ht : tmps.toList = T) (F : RpL D ρ T t) (M : SAt D ρ m chs C h) {KS : V → Mem → Prop} {gc : Bool} (hh : resL P fn.results.toList t m fun vs => KS (oneV (zel P gc fn.resultTypes.toList vs)) m) :
 ∃ v x, KS x m ∧ Rp D ρ v x ∧ ∀ w : World, w.heap = h → (results fn tmps).run P w = .ok v w := by
 obtain ⟨vs, xs, hK, hv, hr⟩ := resL_S ht F M hh
 refine ⟨_, _, hK, one_S (zpe hv), fun w hw => ?_⟩
 have hf : results fn tmps = (fn.results.mapM (rvS tmps) >>= fun vs => pure (if h : vs.size = 1 then vs[0] else .tuple vs)) := by
  unfold results
  refine congrArg (· >>= _) (congrArg (Array.mapM · fn.results) (funext fun x => ?_))
  cases x <;> rfl
 have : (fn.results.mapM (rvS tmps)).run P w = .ok vs.toArray w := by
  rw [Array.mapM_eq_mapM_toList, Sem.run_map, hr w hw]; rfl
 rw [hf, Sem.run_bind]
 rw [this]
 show Sem.run P (pure (if h : vs.toArray.size = 1 then vs.toArray[0] else .tuple vs.toArray)) w = _
 rw [one_spec]
 rfl
theorem rep_z : ∀ n : Nat, RpL D ρ (List.replicate n undef) (List.replicate n .z)
 | 0 => .nil
 | n + 1 => .cons .z (rep_z n)
theorem frame_S {fn : Func} {vs : List Value} {args : List V} {gc : Bool} (ha : RpL D ρ vs args) : RpL D ρ (vs ++ List.replicate (fn.ntmps - vs.length) undef) (zfr P gc fn args) := by
 unfold zfr
 rw [ha.len']
 exact (zpe ha).app (rep_z _)
theorem body_S {self : SelfY} (hself : SelfOk P self) {Y : YC} {X : Fz → List Loc → Prop} (hX : Stab X) (hY : YOk P Y X) (hYr : Y.isRd = false) (xx : X D ρ) {f fi : FuncId} {fn : Func} {c : Code} (hf : P.funcs[f]? = some fn) (hc : fn.body = some c) (hn : (fn.name == "runtime.NumGoroutine") = false) {args : List V} {vs : List Value} {KS : V → Mem → Prop}
 {gc : Bool} (hs : self Y fi ro hr c (retG P gc fn KS) (zfr P gc fn args) m) (M : SAt D ρ m chs C h) (ha : RpL D ρ vs args) : Run P f vs h (zcy ro hr D ρ m chs C KS) := by
 refine ⟨⟨fn, hf, hn, by simp [hc]⟩, fun w hw => ?_⟩
 subst hw
 refine (callsIn_wide (n := 0)).1 (callsIn_of_wp_marks (F := FW none) hf hc trivial ?_)
 have hl : (vs.toArray ++ Array.replicate (fn.ntmps - vs.toArray.size) undef : Array Value).toList = vs ++ List.replicate (fn.ntmps - vs.length) undef := by simp
 refine wpIn_mono (hself (a := { tmps := vs.toArray ++ Array.replicate (fn.ntmps - vs.toArray.size) undef, defers := [] }) hX hY hYr xx hs M (by rw [hl]; exact frame_S ha) rfl) fun e a' w' hq => ?_
 have fin : ∀ {md T}, UpY md T w ro hr D ρ m chs C (retG P gc fn KS .ret) a' w' → LeavesInM (FW none) 0 P fn a'.tmps (fun e w' => ∃ v, e = .returned v ∧ zcy ro hr D ρ m chs C KS v w'.heap ∧ Same w w') a'.defers .returning w' := by
  intro md T hu
  obtain ⟨ds, D', ρ', m', c', t', e, n, M', F', k⟩ := hu.ex
  rw [e]
  refine leavesY ds w' M' fun w2 M2 s2 => ?_
  obtain ⟨v, x, hK, hv, hr'⟩ := ret_S rfl F' M2 k
  exact ⟨v, hr' w2 rfl, v, rfl, ⟨D', ρ', m', c', x, n, M2, hv, hK⟩, hu.sm.trans s2⟩
 cases e with
 | normal => exact fin hq
 | ret => exact fin hq
 | exit id =>
   obtain ⟨ds, D', ρ', m', c', t', e, n, M', F', k⟩ := hq.ex
   exact k.elim
 | _ => exact hq.elim
theorem yield_S {X : Fz → List Loc → Prop} {Y : YC} (hY : YOk P Y X) (xx : X D ρ) {o : Oper} {b : Nat} {args : List V} {KS : V → Mem → Prop} {a : Act} {w : World} (hy : zbm t o = some (b, args)) (hs : Y.h ro hr b args m KS) (M : SAt D ρ m chs C w.heap) (F : RpL D ρ a.tmps.toList t) {r : Option Nat} {n : Nat}
 {next : Act → World → Prop} {Q : Exit → Act → World → Prop} (hn : ∀ v w', zcy ro hr D ρ m chs C KS v w'.heap → Same w w' → next (a.put o.dst v) w') : o.wpIn (FW r) n P a w next Q := by
 unfold YC.h at hs
 split at hs
 · rename_i b' f
   obtain ⟨hb0, hs2⟩ := zaa hs
   have hb := Nat.eq_of_beq_eq_true hb0
   subst hb
   unfold zbm at hy
   split at hy
   · rename_i c hc
     have hd' : ∀ c', o.op ≠ .defer c' := fun c' e => by rw [hc] at e; cases e
     split at hy
     · rename_i fo hf
       split at hy
       · rename_i b2 he
         cases hy
         have hv := zc4 F fo
         rw [he] at hv
         generalize hev : ev a.tmps.toList fo = vf at hv
         cases hv with
         | @y _ LL hL =>
           obtain ⟨fn, tmps, assign, body, hy, hR⟩ := hY xx hs2 M (evL_S F c.args.toList) hL
           refine ⟨fun _ _ => trivial, ?_⟩
           rw [Oper.semAt_eq _ _ _ hd', za0]
           have hx : (execOp (ev a.tmps.toList) o).run P w = .ok (.round LL.b fn tmps assign body) w := by
            unfold execOp
            rw [hc]
            simp only [resolve, hf, hev, Deferred.ofValue, Sem.run_bind, Sem.run_pure, Result.andThen_ok, invoke]
            have : (#[] ++ c.args.map (ev a.tmps.toList) : Array Value) = (c.args.toList.map (ev a.tmps.toList)).toArray := by apply Array.ext'; simp
            rw [this]; exact hy
           rw [hx]
           refine ⟨fun hx => (by cases hx), RoundIn.mono (R := fun e w' => ∃ v, e = .returned v ∧ zcy ro hr D ρ m chs C KS v w'.heap ∧ Same w w') ⟨hR.1, fun c cs hr => hR.2 c cs (room_wide _)⟩ fun e w' he => ?_⟩
           obtain ⟨v, rfl, hK, hS⟩ := he
           exact hn v w' hK hS
       · cases hy
     · cases hy
   · cases hy
 · exact hs.elim
theorem opsSY_S {call : zb8} {X : Fz → List Loc → Prop} (hX : Stab X) (hcall : zgr P X ro hr call) {Y : YC} (hY : YOk P Y X) {vw : Bool} {ops : List Oper} {K : List V → Mem → Prop} {md : List Nat} {Q : Exit → Act → World → Prop} {r : Option Nat} {n : Nat} :
 ∀ (l : List Oper) (a : Act) (w : World) (t : List V) (D : Fz) (ρ : List Loc) (m : Mem) (chs : List zac), zea P vw (hr ++ ro) call (Y.h ro hr) ops K l t m → X D ρ → SAt D ρ m chs C w.heap → RpL D ρ a.tmps.toList t → (∀ o ∈ l, zce o = false) → (∀ o ∈ l, ∀ d, o.dst = some d → d ∈ md) →
   (∀ a' w', a'.defers = a.defers → Same w w' → Agr md a.tmps.toList a'.tmps.toList → (∃ D' ρ' m' chs' t', Nx ro hr D ρ m chs D' ρ' m' chs' ∧ SAt D' ρ' m' chs' C w'.heap ∧ RpL D' ρ' a'.tmps.toList t' ∧ K t' m') → Q .normal a' w') → wpListIn (FW r) n P ops.toArray Q l a w
 | [], a, w, t, D, ρ, m, chs, hs, _, M, F, _, _, hQ => hQ a w rfl (.refl w) (.refl _ _) ⟨D, ρ, m, chs, t, .refl, M, F, hs⟩
 | o :: l, a, w, t, D, ρ, m, chs, hs, xx, M, F, hd, hm, hQ => by
   have hput : ∀ v, Agr md a.tmps.toList (a.put o.dst v).tmps.toList := fun v => by rw [zcb]; exact .put v fun i hi => hm o (by simp) i hi
   have step : ∀ v w', zcy ro hr D ρ m chs C (fun v m' => zea P vw (hr ++ ro) call (Y.h ro hr) ops K l (znc t o.dst v) m') v w'.heap → Same w w' → wpListIn (FW r) n P ops.toArray Q l (a.put o.dst v) w' := fun v w' hP hS => by
    obtain ⟨D', ρ', m', chs', x, nx, M', hv, hK⟩ := hP
    refine opsSY_S hX hcall hY l (a.put o.dst v) w' _ D' ρ' m' chs' hK (hX.nx nx xx) M' (by rw [zcb]; exact (nx.rpL F).put hv) (fun o' ho' => hd o' (by simp [ho'])) (fun o' ho' => hm o' (by simp [ho'])) fun a' w'' h1 h2 h3 h4 => ?_
    obtain ⟨D2, ρ2, m2, c2, t2, n2, rr⟩ := h4
    exact hQ a' w'' (by rw [h1, zaj]) (hS.trans h2) ((hput v).trans h3) ⟨D2, ρ2, m2, c2, t2, nx.trans n2, rr⟩
   unfold wpListIn
   rcases guard_S hs F with ⟨hw, h1⟩ | ⟨hw, h1⟩
   · rw [if_pos hw]
     cases hy : zbm t o with
     | some p => rw [hy] at h1; exact yield_S hY xx hy h1 M F step
     | none =>
       rw [hy] at h1
       exact op_in0 (hd o (by simp)) (op_S hcall xx h1 M F step)
   · rw [if_neg (by rw [hw]; simp)]
     refine ⟨fun _ _ => trivial, ?_⟩
     refine opsSY_S hX hcall hY l (a.put o.dst undef) w _ D ρ m chs h1 xx M (by rw [zcb]; exact F.put (.t .nil)) (fun o' ho' => hd o' (by simp [ho'])) (fun o' ho' => hm o' (by simp [ho'])) fun a' w'' h2 h3 h4 h5 => ?_
     exact hQ a' w'' (by rw [h2, zaj]) h3 ((hput undef).trans h4) h5
theorem least {p : Nat → Prop} (h : ∃ n, p n) : ∃ n, p n ∧ ∀ m, p m → n ≤ m := by
 obtain ⟨n, hn⟩ := h
 induction n using Nat.strongRecOn with
 | _ n ih =>
   by_cases hm : ∃ m, m < n ∧ p m
   · obtain ⟨m, hlt, hp⟩ := hm
     exact ih m hlt hp
   · exact ⟨n, hn, fun m hp => Nat.le_of_not_lt fun hlt => hm ⟨m, hlt, hp⟩⟩
open Classical in
noncomputable def leastN (p : Nat → Prop) : Nat := if h : ∃ n, p n then Classical.choose (least h) else 0
theorem zma {p : Nat → Prop} (h : ∃ n, p n) : p (leastN p) ∧ ∀ m, p m → leastN p ≤ m := by
 unfold leastN
 rw [dif_pos h]
 exact Classical.choose_spec (least h)
theorem loopIn_n {Q : Exit → Act → World → Prop} {a : Act} {w : World} {c : Code} {r : Option Nat} {N : Nat} (I : Nat → Act → World → Prop) (h₀ : ∃ n, I n a w) (round : ∀ n a w, I n a w → c.wpIn (FW r) N P (Exit.then (fun a' w' => ∃ n', n' < n ∧ I n' a' w') Q) a w) : (Code.loop c).wpIn (FW r) N P Q a w := by
 refine wpIn_loop (fun a w => ∃ n, I n a w) (fun a w => leastN (fun n => I n a w)) h₀ fun a w hI => ?_
 refine wpIn_mono (round _ a w (zma hI).1) fun e a' w' hq => ?_
 cases e with
 | normal =>
   obtain ⟨n', hlt, hI'⟩ := hq
   exact ⟨⟨n', hI'⟩, Nat.lt_of_le_of_lt ((zma ⟨n', hI'⟩).2 n' hI') hlt⟩
 | _ => exact hq
theorem zp6 {m : Mem} : ∀ (n : Nat) (todo acc : List Nat), ∃ tl, clo m n todo acc = acc ++ tl
 | 0, _, acc => ⟨[], by simp [clo]⟩
 | _ + 1, [], acc => ⟨[], by simp [clo]⟩
 | n + 1, b :: todo, acc => by
   simp only [clo]
   cases inL acc b with
   | true => exact zp6 n _ _
   | false =>
     obtain ⟨tl, h⟩ := zp6 n (zci (mg m b) ++ todo) (acc ++ [b])
     exact ⟨b :: tl, by rw [cond_false, h]; simp⟩
mutual
theorem renV_self {f : Nat → Nat} : ∀ {x : V}, (∀ b ∈ zae x, f b = b) → zch f x = x
 | .r b o, h => by simp only [zch]; rw [h b (by simp [zae])]
 | .e b s k o, h => by simp only [zch]; rw [h b (by simp [zae])]
 | .g b o w k, h => by simp only [zch]; rw [h b (by simp [zae])]
 | .w b, h => by simp only [zch]; rw [h b (by simp [zae])]
 | .m b, h => by simp only [zch]; rw [h b (by simp [zae])]
 | .y b, h => by simp only [zch]; rw [h b (by simp [zae])]
 | .v b sz l n c, h => by simp only [zch]; rw [h b (by simp [zae])]
 | .sl b o n, h => by simp only [zch]; rw [h b (by simp [zae])]
 | .f g a c, h => by simp only [zch]; rw [zek fun b hb => h b (by simp [zae, hb]), zek fun b hb => h b (by simp [zae, hb])]
 | .a l, h => by simp only [zch]; rw [zek fun b hb => h b (by simp [zae, hb])]
 | .t l, h => by simp only [zch]; rw [zek fun b hb => h b (by simp [zae, hb])]
 | .u x, _ => rfl
 | .q c o, _ => rfl
 | .c s r, _ => rfl
 | .nm, _ => rfl
 | .nl _, _ => rfl
 | .n k w l, _ => rfl
 | .z, _ => rfl
theorem zek {f : Nat → Nat} : ∀ {x : List V}, (∀ b ∈ zak x, f b = b) → zes f x = x
 | [], _ => rfl
 | v :: l, h => by simp only [zes]; rw [renV_self fun b hb => h b (by simp [zak, hb]), zek fun b hb => h b (by simp [zak, hb])]
end
theorem renA_self {f : Nat → Nat} {a : AB} (h : ∀ b ∈ zci a, f b = b) : renA f a = a := by
 cases a <;> first | rfl | (simp only [renA]; rw [zek h])
theorem zn4 {tl : List Nat} : ∀ {n k b : Nat}, k ≤ b → b < k + n → zjd ((List.range' k n) ++ tl) b k = b
 | 0, k, b, h1, h2 => by omega
 | n + 1, k, b, h1, h2 => by
   simp only [List.range'_succ, List.cons_append, zjd]
   by_cases h : k = b
   · subst h; simp
   · have : Nat.beq k b = false := by
      cases hc : Nat.beq k b with
      | false => rfl
      | true => exact absurd (Nat.eq_of_beq_eq_true hc) h
     rw [this, cond_false]
     exact zn4 (by omega) (by omega)
theorem zp9 {m0 : Mem} {D0 : Fz} {ρ0 : List Loc} {c0 C0 : List zac} {h0 : zab} (M0 : SAt D0 ρ0 m0 c0 C0 h0) {K : List V → Mem → Prop} (hs : zc5 m0.length K t m) (n : Nx ro hr D0 ρ0 m0 c0 D ρ m chs) (M : SAt D ρ m chs C h) (F : RpL D ρ T t) :
 ∃ ρ2 m2 c2 t2, Nx ro hr D0 ρ0 m0 c0 D ρ2 m2 c2 ∧ SAt D ρ2 m2 c2 C h ∧ RpL D ρ2 T t2 ∧ K t2 m2 := by
 unfold zc5 at hs
 cases hb : Nat.ble m.length (m0.length + 1) with
 | true => rw [hb] at hs; exact ⟨ρ, m, chs, t, n, M, F, hs⟩
 | false =>
   rw [hb] at hs
   simp only [cond_false] at hs
   have hnd : (clo m 1000 (zak t ++ (m.take m0.length).flatMap zci) (List.range m0.length)).Nodup := zfw _ _ _ List.nodup_range
   obtain ⟨tl, htl⟩ := zp6 (m := m) 1000 (zak t ++ (m.take m0.length).flatMap zci) (List.range m0.length)
   rw [htl] at hs hnd
   unfold canonK at hs
   obtain ⟨hc, hK⟩ := zaa hs
   simp only [Bool.and_eq_true] at hc
   have q1 := zbs hc.1.1
   have q2 := zbs hc.1.2
   have q3 := zdv hc.2
   obtain ⟨c', cs, hcs, Mk, gk, Ms⟩ := M.sub2 hnd q3 fun b hb c hc => q2 c (List.mem_flatMap.2 ⟨b, hb, hc⟩)
   obtain ⟨s, hs⟩ := n.pre
   have hl0 := M0.len
   have hlen := n.len
   have hix : ∀ b, b < m0.length → (List.range m0.length ++ tl)[b]? = some b := fun b hb => by
    rw [List.getElem?_append_left (by simpa using hb), List.getElem?_range hb]
   have hρ : (List.range m0.length ++ tl).map (fun b => (ρ[b]?).getD ⟨0, none, 0, 0, none⟩) = ρ0 ++ tl.map (fun b => (ρ[b]?).getD ⟨0, none, 0, 0, none⟩) := by
    rw [List.map_append]
    congr 1
    apply List.ext_getElem (by simp [hl0])
    intro i h1 h2
    simp only [List.getElem_map, List.getElem_range]
    rw [hs, List.getElem?_append_left h2, List.getElem?_eq_getElem h2]; rfl
   rw [hρ] at Ms
   have F2 := (ren_all (D := D) (ρ := ρ) (f := fun b => zjd (List.range m0.length ++ tl) b 0) (ρ' := (List.range m0.length ++ tl).map (fun b => (ρ[b]?).getD ⟨0, none, 0, 0, none⟩))).2.1 F fun b hb L hL => by
    obtain ⟨k, h4, h5⟩ := zga (k := 0) (q1 b hb)
    rw [h4, Nat.zero_add, List.getElem?_map, h5, Option.map_some, hL]; rfl
   rw [hρ] at F2
   refine ⟨_, _, cs, _, ⟨n.le, ⟨_, rfl⟩, fun b h1 h2 => ?_, fun b h1 h2 => ?_, ?_⟩, Ms.mono (.refl _) (C' := C) ?_, F2, hK⟩
   · rw [hcs, List.getElem?_map, hix b h2, Option.map_some, ← n.keep b h1 h2]
     have : b < chs.length := by rw [M.lch]; omega
     rw [List.getElem?_eq_getElem this]; rfl
   · have e1 : mg (znv m (List.range m0.length ++ tl)) b = renA (fun b => zjd (List.range m0.length ++ tl) b 0) (mg m b) := by
      rw [zl5, znv, List.getElem?_map, hix b h2]; rfl
     rw [e1, n.same b h1 h2]
     refine renA_self fun c hcr => ?_
     have hbρ : b < ρ0.length := by omega
     have hbc : b < c0.length := by rw [M0.lch]; exact h2
     have he := M0.ent b _ _ _ (List.getElem?_eq_getElem hbρ) (mg_eq h2) (List.getElem?_eq_getElem hbc)
     have key : ∀ {L : Loc} {ab : AB} {ch : zac}, Ent D0 ρ0 L ab ch → ∀ c ∈ zci ab, c < ρ0.length := fun he => by
      cases he with
      | c hc => exact refs_lt.2.2 hc
      | cw _ _ hc => exact refs_lt.2.2 hc
      | _ => simp [zci]
     have hcl : c < ρ0.length := key he c hcr
     have := zn4 (tl := tl) (n := m0.length) (k := 0) (b := c) (Nat.zero_le _) (by omega)
     rwa [← List.range_eq_range'] at this
   · simp [znv]
   · have S := Ms.st
     exact (S.perm (C' := c' ++ (cs ++ C)) (by simp only [List.flatten_append]; exact List.perm_append_comm_assoc _ _ _)).drops
theorem wkV_S {v : Value} {x : V} (hv : Rp D ρ v x) : Rp D ρ v (wkV x) := by
 unfold wkV
 split
 · cases hv; exact .c (.nil _ _ _)
 · exact hv
theorem callH0_S {H : SH P} {self : SelfY} (hself : SelfOk P self) {Y : YC} {X : Fz → List Loc → Prop} (hX : Stab X) (hY : YOk P Y X) (hYr : Y.isRd = false) : zgr P X ro hr (zgp P H (self Y) ro hr) := by
 intro g args m KS D ρ chs C h vs xx hs M ha
 unfold zgp at hs
 cases hf : P.funcs[g]? with
 | none => rw [hf] at hs; exact hs.elim
 | some fn =>
   rw [hf] at hs
   simp only at hs
   cases hi : inL H.inl g with
   | true =>
     rw [hi] at hs
     simp only [cond_true] at hs
     split at hs
     · exact hs.elim
     · rename_i c hc
       cases hn : (fn.name == "runtime.NumGoroutine") with
       | true => rw [hn] at hs; exact hs.elim
       | false =>
         rw [hn] at hs
         refine (body_S (fi := g) hself hX hY hYr xx hf hc hn hs M ha).mono fun v h' hp => ?_
         obtain ⟨D', ρ', m', c', x, n', M', hv, hk⟩ := hp
         cases hg : H.gc with
         | false => rw [hg] at hk; exact ⟨D', ρ', m', c', x, n', M', hv, hk⟩
         | true =>
           rw [hg] at hk
           have hk : zc5 m.length (fun t m2 => KS (zdx t 0) m2 ∨ KS (wkV (zdx t 0)) m2) [x] m' := hk
           obtain ⟨ρ2, m2, c2, t2, n2, M2, F2, k2⟩ := zp9 (T := [v]) M hk n' M' (.cons hv .nil)
           cases F2 with
           | cons hv2 hn2 =>
             cases hn2
             rcases k2 with k2 | k2
             · exact ⟨D', ρ2, m2, c2, _, n2, M2, hv2, k2⟩
             · exact ⟨D', ρ2, m2, c2, _, n2, M2, wkV_S hv2, k2⟩
   | false =>
     rw [hi] at hs
     exact callS_S hs M ha
theorem callH_S {H : SH P} {self : SelfY} (hself : SelfOk P self) {Y : YC} {X : Fz → List Loc → Prop} (hX : Stab X) (hY : YOk P Y X) (hYr : Y.isRd = false) : zgr P X ro hr (zdu P H (self Y) ro hr) := by
 intro g args m KS D ρ chs C h vs xx hs M ha
 unfold zdu at hs
 split at hs
 · rename_i p hp
   exact H.sp.ok hX (callH0_S hself hX hY hYr) hp hs xx M ha
 · exact callH0_S hself hX hY hYr xx hs M ha
theorem setA_S : ∀ {ps : List Tmp} {T vs : List Value} {t xs : List V}, RpL D ρ T t → RpL D ρ vs xs → RpL D ρ (zhk T ps vs) (setA t ps xs)
 | [], T, vs, t, xs, F, hx => by cases vs <;> cases xs <;> exact F
 | p :: ps, T, [], t, xs, F, hx => by cases hx; exact F
 | p :: ps, T, v :: vs, t, xs, F, hx => by
   cases hx with
   | cons a b =>
     have := setA_S (ps := ps) (F.set p a) b
     exact this
theorem SAt.recd (M : SAt D ρ m chs C h) {b l : Nat} {o : Obj} {L : Loc} (hL : ρ[b]? = some L) (hl : L.b = l) (ho : L.o = some o) (hb : mg m b = .tk) : ∃ L, ρ[b]? = some L ∧ L.b = l ∧ chs[b]? = some [(l, o)] ∧ SAt D ρ (ms m b .x) (chs.set b []) ([(l, o)] :: C) h ∧ b < m.length := by
 obtain ⟨L', ch, h1, h2, h3⟩ := M.get (b := b) (by rw [hb]; simp)
 rw [hb] at h3
 rw [hL] at h1
 cases h1
 subst hl
 cases h3 with
 | tk h4 =>
   rw [ho] at h4
   cases h4
   exact ⟨L, hL, rfl, h2, M.take hL h2, by rw [← M.len]; exact (List.getElem?_eq_some_iff.1 hL).1⟩
theorem SAt.back {l : Nat} {o : Obj} (M : SAt D ρ m chs ([(l, o)] :: C) h) {b : Nat} {L : Loc} (hb : b < m.length) (hL : ρ[b]? = some L) (hl : L.b = l) (ho : L.o = some o) : SAt D ρ (ms m b .tk) (chs.set b [(l, o)]) C h := by
 subst hl
 exact M.over hb hL (.tk ho)
theorem vcC_S (hmix : P.follows .mixedOrders = true) {H : SH P} {self : SelfY} (hself : SelfOk P self) {fi : Nat} : ∀ (c : Code) (r : Option Nat) (Y : YC) (X : Fz → List Loc → Prop) (hr ro : List Nat) (Q : zeq) (t : List V) (m : Mem) (D : Fz) (ρ : List Loc) (chs C : List zac) (a : Act) (w : World) (ds : List Nat),
 Stab X → YOk P Y X → (Y.isRd = false → r = none) → X D ρ → vcC P H self fi c Y hr ro Q t m → SAt D ρ m chs (dch ds ++ C) w.heap → RpL D ρ a.tmps.toList t → a.defers = ds.map mark →
 c.wpIn (FW r) 0 P (LiftS Q (zbl c) a.tmps.toList w ro hr D ρ m chs C) a w := by
 intro c
 induction c with
 | skip => intro r Y X hr ro Q t m D ρ chs C a w ds hX hY hrd xx hh M F hd; exact wpIn_skip ⟨.refl w, .refl _ _, ds, D, ρ, m, chs, t, hd, .refl, M, F, hh⟩
 | region id ops d =>
   intro r Y X hr ro Q t m D ρ chs C a w ds hX hY hrd xx hh M F hd
   simp only [vcC] at hh
   obtain ⟨hnd, hh⟩ := zaa hh
   have hnd' : ∀ o ∈ ops.toList, zce o = false := fun o ho => by simpa using List.all_eq_true.1 hnd o ho
   have hm : ∀ o ∈ ops.toList, ∀ d', o.dst = some d' → d' ∈ zbl (.region id ops d) := fun o ho d' hd' => by
    simp only [zbl, List.mem_append]
    exact .inl (List.mem_filterMap.2 ⟨o, ho, hd'⟩)
   cases d with
   | false =>
     have := opsSY_S (P := P) (vw := H.gc) (r := r) (n := 0) hX (callH_S (H := H) (self := self) (ro := ro) (hr := hr) hself hX hY.sub Y.sub_rd) hY (Q := LiftS Q (zbl (.region id ops false)) a.tmps.toList w ro hr D ρ m chs C) ops.toList a w t D ρ m chs hh xx M F hnd' hm fun a' w' h1 h2 h3 h4 => by
      obtain ⟨D', ρ', m', c', t', n', M', F', k⟩ := h4
      exact ⟨h2, h3, ds, D', ρ', m', c', t', by rw [h1, hd], n', M', F', k⟩
     refine wpIn_region_list ?_
     simpa using this
   | true =>
     obtain ⟨hB, hh⟩ := zaa hh
     refine wpIn_region_any hmix ?_
     rw [Bool.and_eq_true] at hB
     obtain ⟨hB, hsel⟩ := hB
     let QQ : Exit → Act → World → Prop := fun e a' w' => e = .normal ∧ UpS (zbl (.region id ops true)) a.tmps.toList w ro hr D ρ m chs (dch ds ++ C) (zc5 m.length (Q .nrm)) a' w'
     have key := draw_S (P := P) (X := X) (fun s => hX s) (md := zbl (.region id ops true)) (Q := QQ) (call := zdu P H (self Y.sub) ro) (fun hx => callH_S (H := H) (self := self) (Y := Y.sub) hself hX hY.sub Y.sub_rd) hsel (fun _ _ _ h => by cases h.1) (fun _ _ h => by cases h.1) hm ops.toList.length [] [] [] (Array.replicate ops.toList.length false) { a with defers := [] }
      { w with drawn := w.drawn + 1 } t D ρ m chs hh hB ⟨by simp, fun k hk => by rw [rep_get true hk]; simp, fun k hk => by simp at hk⟩ (fun j oj hj hl => by rw [rep_getF] at hl; cases hl)
      rfl xx M F (by intro c hc; simp at hc) (fun a' w' hU => ⟨rfl, hU.df, ⟨hU.sm.tape, hU.sm.os, hU.sm.output, Nat.le_trans (Nat.le_succ _) hU.sm.drawn⟩, hU.ag, hU.ex⟩)
     have h1 := wpG_any _ _ _ _ _ key
     have h2 := any_in (r := r) (n := 0) (ds := a.defers) (by simpa using hnd') (fun ⟨_, _, h⟩ => by cases h.1) _ _ _ _ h1
     have h3 := anyq_mono (Qb := LiftS Q (zbl (.region id ops true)) a.tmps.toList w ro hr D ρ m chs C) (fun e a1 w1 hq => by
      obtain ⟨a0, ⟨rfl, hU⟩, rfl⟩ := hq
      obtain ⟨D', ρ', m', c', t', n', M', F', k⟩ := hU.ex
      obtain ⟨ρ2, m2, c2, t2, n2, M2, F2, k2⟩ := zp9 M k n' M' F'
      exact ⟨hU.sm, hU.ag, ds, D', ρ2, m2, c2, t2, by rw [hU.df, List.nil_append, hd], n2, M2, F2, k2⟩) _ _ _ _ h2
     have e : ({ a with defers := [] ++ a.defers } : Act) = a := by cases a; rfl
     rw [List.nil_append] at h3
     simpa using h3
 | seq x y ihx ihy =>
   intro r Y X hr ro Q t m D ρ chs C a w ds hX hY hrd xx hh M F hd
   simp only [vcC] at hh
   have hmx : ∀ i ∈ zbl x, i ∈ zbl (.seq x y) := fun i hi => by simp only [zbl, List.mem_append]; exact .inl hi
   have hmy : ∀ i ∈ zbl y, i ∈ zbl (.seq x y) := fun i hi => by simp only [zbl, List.mem_append]; exact .inr hi
   have go : ∀ (rx : List Nat) (K : List V → Mem → Prop), vcC P H self fi x Y hr (rx ++ ro) (thenS K Q) t m →
    (∀ a1 w1, UpY (zbl x) a.tmps.toList w (rx ++ ro) hr D ρ m chs C K a1 w1 → ∃ ds1 D1 ρ1 m1 c1 t1, a1.defers = ds1.map mark ∧ Nx ro hr D ρ m chs D1 ρ1 m1 c1 ∧ SAt D1 ρ1 m1 c1 (dch ds1 ++ C) w1.heap ∧ RpL D1 ρ1 a1.tmps.toList t1 ∧ vcC P H self fi y Y hr ro Q t1 m1) →
    (Code.seq x y).wpIn (FW r) 0 P (LiftS Q (zbl (.seq x y)) a.tmps.toList w ro hr D ρ m chs C) a w := by
    intro rx K hx hK
    refine wpIn_seq (wpIn_mono (ihx r Y X hr _ _ t m D ρ chs C a w ds hX hY hrd xx hx M F hd) fun e a1 w1 hq => ?_)
    cases e with
    | normal =>
      obtain ⟨ds1, D1, ρ1, m1, c1, t1, e1, n1, M1, F1, hy⟩ := hK a1 w1 hq
      refine wpIn_mono (ihy r Y X hr ro Q t1 m1 D1 ρ1 c1 C a1 w1 ds1 hX hY hrd (hX.nx n1 xx) hy M1 F1 e1) fun e a2 w2 hq2 => ?_
      cases e with
      | normal => exact UpY.after hq.sm hq.ag n1 hq2 hmx hmy
      | exit id => exact UpY.after hq.sm hq.ag n1 hq2 hmx hmy
      | ret => exact UpY.after hq.sm hq.ag n1 hq2 hmx hmy
      | _ => exact hq2.elim
    | exit id => exact (UpY.mono hq hmx fun _ _ h => h).weakR
    | ret => exact (UpY.mono hq hmx fun _ _ h => h).weakR
    | _ => exact hq.elim
   split at hh
   · exact go [] _ hh fun a1 w1 hU => hU.ex
   · rename_i hint hf
     obtain ⟨hc, hh⟩ := zaa hh
     simp only [Bool.and_eq_true] at hc
     refine go _ _ (hh (mkP hint.ps fun is => vcC P H self fi y Y hr ro Q (hint.st (zbl x) t m is).1 (hint.st (zbl x) t m is).2) (allP_self _ _)) fun a1 w1 hU => ?_
     obtain ⟨ds1, D1, ρ1, m1, c1, t1, e1, n1, M1, F1, hk⟩ := hU.ex
     have hk : hint.el (hint.base t m) (mkP hint.ps fun is => vcC P H self fi y Y hr ro Q (hint.st (zbl x) t m is).1 (hint.st (zbl x) t m is).2) t1 m1 := hk
     unfold Hint.el at hk
     split at hk
     · rename_i os mR hpk
       obtain ⟨hal, hk⟩ := zaa hk
       obtain ⟨ρ2, c2, n2, M2, F2, ok⟩ := restate hc.1 hc.2 M F n1 M1 F1 hU.ag hpk hal
       rw [apP_mk ok] at hk
       exact ⟨ds1, D1, ρ2, _, c2, _, e1, n2.weakR, M2, F2, hk⟩
     · exact hk.elim
 | cond c x y ihx ihy =>
   intro r Y X hr ro Q t m D ρ chs C a w ds hX hY hrd xx hh M F hd
   simp only [vcC] at hh
   have hmx : ∀ i ∈ zbl x, i ∈ zbl (.cond c x y) := fun i hi => by simp only [zbl, List.mem_append]; exact .inl hi
   have hmy : ∀ i ∈ zbl y, i ∈ zbl (.cond c x y) := fun i hi => by simp only [zbl, List.mem_append]; exact .inr hi
   split at hh
   · rename_i b he
     have hv := zc4 F c
     rw [he] at hv
     refine wpIn_cond (t := b) (by rw [za0]; exact zqx hv) ?_
     cases b
     · exact wpIn_mono (ihy r Y X hr ro Q t m D ρ chs C a w ds hX hY hrd xx hh M F hd) fun e a' w' hq => by
        cases e <;> first | exact UpY.mono hq hmy fun _ _ h => h | exact hq.elim
     · exact wpIn_mono (ihx r Y X hr ro Q t m D ρ chs C a w ds hX hY hrd xx hh M F hd) fun e a' w' hq => by
        cases e <;> first | exact UpY.mono hq hmx fun _ _ h => h | exact hq.elim
   · exact hh.elim
 | block id c ih =>
   intro r Y X hr ro Q t m D ρ chs C a w ds hX hY hrd xx hh M F hd
   simp only [vcC] at hh
   refine wpIn_block (wpIn_mono (ih r Y X hr ro _ t m D ρ chs C a w ds hX hY hrd xx hh M F hd) fun e a' w' hq => ?_)
   cases e with
   | normal => exact hq
   | exit j =>
     simp only [Exit.inBlock]
     by_cases hj : j = id
     · rw [if_pos hj]
       exact UpY.mono hq (fun _ h => h) fun t h hk => by simpa [blockS, hj] using hk
     · rw [if_neg hj]
       have hb : Nat.beq j id = false := by
        cases h : Nat.beq j id with
        | false => rfl
        | true => exact absurd (Nat.eq_of_beq_eq_true h) hj
       exact UpY.mono hq (fun _ h => h) fun t h hk => by simpa [blockS, hb] using hk
   | ret => exact hq
   | _ => exact hq.elim
 | loop c ih =>
   intro r Y X hr ro Q t m D ρ chs C a w ds hX hY hrd xx hh M F hd
   simp only [vcC] at hh
   split at hh
   · -- round by round
     refine wpIn_loop_rounds H.n ?_
     have key : ∀ (n : Nat) (t : List V) (m1 : Mem) (D1 : Fz) (ρ1 : List Loc) (c1 : List zac) (a1 : Act) (w1 : World) (ds1 : List Nat), rnds (cond H.gc (some m.length) none) (fun Q => vcC P H self fi c Y hr ro Q) Q n t m1 → X D1 ρ1 → SAt D1 ρ1 m1 c1 (dch ds1 ++ C) w1.heap → RpL D1 ρ1 a1.tmps.toList t → a1.defers = ds1.map mark →
      Same w w1 → Agr (zbl c) a.tmps.toList a1.tmps.toList → Nx ro hr D ρ m chs D1 ρ1 m1 c1 → Code.roundsIn (FW r) 0 P c (LiftS Q (zbl c) a.tmps.toList w ro hr D ρ m chs C) n a1 w1 := by
      intro n
      induction n with
      | zero => intro t m1 D1 ρ1 c1 a1 w1 ds1 hh; exact hh.elim
      | succ n ihn =>
        intro t m1 D1 ρ1 c1 a1 w1 ds1 hh x1 M1 F1 hd1 s1 g1 n1
        refine wpIn_mono (ih r Y X hr ro _ t m1 D1 ρ1 c1 C a1 w1 ds1 hX hY hrd x1 hh M1 F1 hd1) fun e a2 w2 hq => ?_
        cases e with
        | normal =>
          obtain ⟨ds2, D2, ρ2, m2, c2, t2, e2, n2, M2, F2, hk⟩ := hq.ex
          have g : ∃ ρ3 m3 c3 t3, Nx ro hr D ρ m chs D2 ρ3 m3 c3 ∧ SAt D2 ρ3 m3 c3 (dch ds2 ++ C) w2.heap ∧ RpL D2 ρ3 a2.tmps.toList t3 ∧ rnds (cond H.gc (some m.length) none) (fun Q => vcC P H self fi c Y hr ro Q) Q n t3 m3 := by
           generalize hG : cond H.gc (some m.length) none = G at hk
           cases hg : H.gc with
           | false => rw [hg] at hG; cases hG; exact ⟨ρ2, m2, c2, t2, n1.trans n2, M2, F2, hk⟩
           | true => rw [hg] at hG; cases hG; exact zp9 M hk (n1.trans n2) M2 F2
          obtain ⟨ρ3, m3, c3, t3, n3, M3, F3, k3⟩ := g
          exact ihn t3 m3 D2 ρ3 c3 a2 w2 ds2 k3 (hX.nx n3 xx) M3 F3 e2 (s1.trans hq.sm) (g1.trans hq.ag) n3
        | exit id => exact UpY.after s1 g1 n1 hq (fun _ h => h) fun _ h => h
        | ret => exact UpY.after s1 g1 n1 hq (fun _ h => h) fun _ h => h
        | _ => exact hq.elim
     exact key H.n t m D ρ chs a w ds hh xx M F hd (.refl w) (.refl _ _) .refl
   · rename_i hint hf
     obtain ⟨hc, I, f, h0, hr'⟩ := zaa hh
     simp only [Bool.and_eq_true] at hc
     -- a state at the head
     have head : ∀ {D1 : Fz} {ρ1 : List Loc} {m1 : Mem} {c1 C1 : List zac} {t1 : List V} {a1 : Act} {w1 : World} {n : Nat} {J : PtT Prop hint.ps}, Nx (roOf (hint.base t m) 0 ++ ro) hr D ρ m chs D1 ρ1 m1 c1 → SAt D1 ρ1 m1 c1 C1 w1.heap → RpL D1 ρ1 a1.tmps.toList t1 → Agr (zbl c) a.tmps.toList a1.tmps.toList →
      hint.el (hint.base t m) J t1 m1 → ∃ os ρ2 c2, OkL hint.ps os ∧ apP False hint.ps J os ∧ Nx (roOf (hint.base t m) 0 ++ ro) hr D ρ m chs D1 ρ2 (hint.st (zbl c) t m os).2 c2 ∧ SAt D1 ρ2 (hint.st (zbl c) t m os).2 c2 C1 w1.heap ∧ RpL D1 ρ2 a1.tmps.toList (hint.st (zbl c) t m os).1 := by
      intro D1 ρ1 m1 c1 C1 t1 a1 w1 n J n1 M1 F1 ag hk
      unfold Hint.el at hk
      split at hk
      · rename_i os mR hpk
        obtain ⟨hal, hk⟩ := zaa hk
        obtain ⟨ρ2, c2, n2, M2, F2, ok⟩ := restate hc.1 hc.2 M F n1 M1 F1 ag hpk hal
        exact ⟨os, ρ2, c2, ok, hk, n2, M2, F2⟩
      · exact hk.elim
     refine loopIn_n (fun k a1 w1 => Same w w1 ∧ Agr (zbl c) a.tmps.toList a1.tmps.toList ∧ ∃ ds1 D1 os ρ2 c2, a1.defers = ds1.map mark ∧ OkL hint.ps os ∧ apP False hint.ps I os ∧ apP 0 hint.ps f os = k ∧ Nx (roOf (hint.base t m) 0 ++ ro) hr D ρ m chs D1 ρ2 (hint.st (zbl c) t m os).2 c2 ∧
      SAt D1 ρ2 (hint.st (zbl c) t m os).2 c2 (dch ds1 ++ C) w1.heap ∧ RpL D1 ρ2 a1.tmps.toList (hint.st (zbl c) t m os).1) ?_ fun k a1 w1 hI => ?_
     · obtain ⟨os, ρ2, c2, ok, hi, n2, M2, F2⟩ := head (n := 0) .refl M F (.refl _ _) h0
       exact ⟨_, .refl w, .refl _ _, ds, D, os, ρ2, c2, hd, ok, hi, rfl, n2, M2, F2⟩
     · obtain ⟨s1, g1, ds1, D1, os, ρ2, c2, hd1, ok, hi, hk, n2, M2, F2⟩ := hI
       have hb := allP_ap ok hr'
       rw [apP_zip (d1 := False) (d2 := False) ok, apP_zip (d1 := 0) (d2 := fun _ => False) ok, apP_mk ok] at hb
       have hb := hb hi
       refine wpIn_mono (ih r Y X hr _ _ _ _ D1 ρ2 c2 C a1 w1 ds1 hX hY hrd (hX.nx n2 xx) hb M2 F2 hd1) fun e a2 w2 hq => ?_
       cases e with
       | normal =>
         obtain ⟨ds3, D3, ρ3, m3, c3, t3, e3, n3, M3, F3, hk3⟩ := hq.ex
         have ag3 := g1.trans hq.ag
         obtain ⟨os4, ρ4, c4, ok4, hi4, n4, M4, F4⟩ := head (n := 0) (n2.trans n3) M3 F3 ag3 hk3
         rw [apP_zip (d1 := False) (d2 := 0) ok4] at hi4
         exact ⟨_, by rw [← hk]; exact hi4.2, s1.trans hq.sm, ag3, ds3, D3, os4, ρ4, c4, e3, ok4, hi4.1, rfl, n4, M4, F4⟩
       | exit id => exact (UpY.after s1 g1 n2 hq (fun _ h => h) fun _ h => h).weakR
       | ret => exact (UpY.after s1 g1 n2 hq (fun _ h => h) fun _ h => h).weakR
       | _ => exact hq.elim
 | exit id => intro r Y X hr ro Q t m D ρ chs C a w ds hX hY hrd xx hh M F hd; exact wpIn_exit ⟨.refl w, .refl _ _, ds, D, ρ, m, chs, t, hd, .refl, M, F, hh⟩
 | ret => intro r Y X hr ro Q t m D ρ chs C a w ds hX hY hrd xx hh M F hd; exact wpIn_ret ⟨.refl w, .refl _ _, ds, D, ρ, m, chs, t, hd, .refl, M, F, hh⟩
 | scope c ih =>
   intro r Y X hr ro Q t m D ρ chs C a w ds hX hY hrd xx hh M F hd
   refine wpIn_scope (wpIn_mono (ih r Y X hr ro Q t m D ρ chs C a w ds hX hY hrd xx hh M F hd) fun e a' w' hq => ?_)
   cases e <;> first | exact hq | exact hq.elim
 | label l => intro r Y X hr ro Q t m D ρ chs C a w ds hX hY hrd xx hh M F hd; exact wpIn_label ⟨.refl w, .refl _ _, ds, D, ρ, m, chs, t, hd, .refl, M, F, hh⟩
 | rangeFunc g ps assign body iha ihb =>
   intro r Y X hr ro Q t m D ρ chs C a w ds hX hY hrd xx hh M F hd
   cases Y with
   | rd => simp [vcC] at hh
   | it b f => simp [vcC] at hh
   | out =>
     have hr0 := hrd rfl
     subst hr0
     simp only [vcC] at hh
     split at hh
     · rename_i gi as' cs hg
       split at hh
       · exact hh.elim
       · rename_i gfn hgf
         split at hh
         · exact hh.elim
         · rename_i gc hgc
           cases hng : (gfn.name == "runtime.NumGoroutine" || !noEx body) with
           | true => rw [hng] at hh; exact hh.elim
           | false =>
             rw [hng] at hh
             simp only [cond_false, Bool.or_eq_false_iff] at hh hng
             refine wpIn_rangeFunc ?_
             intro fn _
             obtain ⟨rc, hrc⟩ : ∃ rc : LoopState → Loop, rc = fun st => { state := st, pending := none, fn, tmps := a.tmps, params := ps, assign, body, defers := w.heap.size } := ⟨_, rfl⟩
             let l := w.heap.size + 1
             let h2 : zab := (w.heap.push (.deferred (some []))).push (.loop (rc .ready))
             have hl : (w.heap.push (Obj.deferred (some []))).size = l := by simp [l]
             let L : Loc := ⟨l, none, 0, 0, some (.loop (rc .ready))⟩
             have M0 : SAt D ρ m chs ([(l, .loop (rc .ready))] :: (dch (w.heap.size :: ds) ++ C)) h2 := by
              have := (M.cpush (.deferred (some []))).cpush (.loop (rc .ready))
              rw [hl] at this
              exact this
             have M1 : SAt D (ρ ++ [L]) (m ++ [.tk]) (chs ++ [[(l, .loop (rc .ready))]]) (dch (w.heap.size :: ds) ++ C) h2 := M0.push (.tk rfl)
             have hbL : ∀ s : List Loc, (ρ ++ [L] ++ s)[m.length]? = some L := fun s => by rw [← M.len]; simp
             have hYf := hh
             let X' : Fz → List Loc → Prop := fun D' ρ' => Le D D' ∧ ∃ s, ρ' = ρ ++ [L] ++ s
             have hX' : Stab X' := fun {D1 D2 ρ1} s ⟨h1, s1, e1⟩ h3 => ⟨h1.trans h3, s1 ++ s, by rw [e1]; simp⟩
             -- the rounds
             have hY' : YOk P (.it m.length fun ro' hr' args m1 K => isY (mg m1 m.length) (cond (Nat.beq args.length ps.size) (vcC P H self fi assign .rd hr' ro'
              (thenS (fun t2 m2 => vcC P H self fi body .rd hr' ro' (fun e _ m3 => match e, mg m3 m.length with
               | .nrm, .x => K (.u (.b true)) (ms m3 m.length .tk)
               | _, _ => False) t2 m2) fun _ _ _ => False) (setA t ps.toList args) (ms m1 m.length .x)) False)) X' := by
              intro ro' hr' args m1 KS D1 ρ1 c1 C1 vs L1 w1 x1 hf M1 hvs hL1
              obtain ⟨hle, s1, rfl⟩ := x1
              rw [hbL] at hL1
              cases hL1
              obtain ⟨hm1, hf⟩ := isY_iff hf
              obtain ⟨hlen, hf⟩ := zaa hf
              have hlen := Nat.eq_of_beq_eq_true hlen
              obtain ⟨L2, q1, q2, q3, M2, hb1⟩ := M1.recd (hbL s1) rfl rfl hm1
              have hat : w1.heap[l]? = some (.loop (rc .ready)) := M1.own q3 (List.mem_singleton_self _)
              have has' : vs.toArray.size = ps.size := by rw [List.size_toArray, hvs.len', hlen]
              refine ⟨fn, _, assign, body, by rw [hrc] at hat; exact run_yield hat has', ?_⟩
              refine roundIn_of_wpIn (F := FW none) trivial ?_
              show assign.wpIn (FW (some l)) 0 P _ _ _
              generalize htm : ((ps.zip vs.toArray).foldl (fun tmps (x : Tmp × Value) => tmps.setIfInBounds x.1 x.2) a.tmps) = tm
              have htl : tm.toList = zhk a.tmps.toList ps.toList vs := by
               rw [← htm, ← zle, ← Array.foldl_toList, Array.toList_zip]
              have F2 : RpL D1 (ρ ++ [L] ++ s1) tm.toList (setA t ps.toList args) := by
               rw [htl, List.append_assoc]
               rw [List.append_assoc] at hvs
               exact setA_S (F.mono hle _) hvs
              refine wpIn_mono (iha (some l) .rd (fun _ _ => True) hr' ro' _ _ _ D1 _ _ ([(l, .loop (rc .ready))] :: C1) { tmps := tm, defers := [] } w1 [] (fun _ _ _ => trivial) trivial (by intro h; cases h) trivial hf M2 F2 rfl) fun e a3 w3 hq => ?_
              cases e with
              | normal =>
                obtain ⟨ds3, D3, ρ3, m3, c3, t3, e3, n3, M3, F3, hk⟩ := hq.ex
                have M3' : SAt D3 ρ3 m3 c3 ([(l, .loop (rc .ready))] :: (dch ds3 ++ C1)) w3.heap := M3.perm (by simp [List.flatten_append] <;> exact List.perm_middle)
                have hat3 : w3.heap[l]? = some (.loop (rc .ready)) := M3'.st.unmid.get (List.mem_singleton_self _)
                refine ⟨w3.putObj l (.loop (rc .busy)), by rw [hrc] at hat3 ⊢; exact run_beginRound hat3 rfl, ?_⟩
                show body.wpIn (FW (some l)) 0 P _ _ _
                have M4 : SAt D3 ρ3 m3 c3 (dch ds3 ++ ([(l, .loop (rc .busy))] :: C1)) (w3.putObj l (.loop (rc .busy))).heap := (M3'.cput (.loop (rc .busy))).perm (by simp [List.flatten_append] <;> exact List.perm_middle.symm)
                refine wpIn_mono (ihb (some l) .rd (fun _ _ => True) hr' ro' _ _ _ D3 _ _ ([(l, .loop (rc .busy))] :: C1) a3 (w3.putObj l (.loop (rc .busy))) ds3 (fun _ _ _ => trivial) trivial (by intro h; cases h) trivial hk M4 F3 e3) fun e a5 w5 hq5 => ?_
                have fin : ∀ {md T}, UpY md T (w3.putObj l (.loop (rc .busy))) ro' hr' D3 ρ3 m3 c3 ([(l, .loop (rc .busy))] :: C1) (fun _ m3 => match Ex.nrm, mg m3 m.length with
                 | .nrm, .x => KS (.u (.b true)) (ms m3 m.length .tk)
                 | _, _ => False) a5 w5 → ∃ v w', (Instr.endRound l none).run P w5 = .ok v w' ∧ ∃ v', Ending.returned v = Ending.returned v' ∧ zcy ro' hr' D1 (ρ ++ [L] ++ s1) m1 c1 C1 KS v' w'.heap ∧ Same w1 w' := by
                 intro md T hu
                 obtain ⟨ds5, D5, ρ5, m5, c5, t5, e5, n5, M5, F5, hk5⟩ := hu.ex
                 have M5' : SAt D5 ρ5 m5 c5 ([(l, .loop (rc .busy))] :: (dch ds5 ++ C1)) w5.heap := M5.perm (by simp [List.flatten_append] <;> exact List.perm_middle)
                 have hat5 : w5.heap[l]? = some (.loop (rc .busy)) := M5'.st.unmid.get (List.mem_singleton_self _)
                 have nn := n3.trans n5
                 obtain ⟨s5, hs5⟩ := nn.pre
                 have hb5 : m.length < m5.length := by have := nn.len; rw [zck] at this; omega
                 have hL5 : ρ5[m.length]? = some L := by rw [hs5, List.append_assoc]; exact hbL _
                 split at hk5
                 rotate_left
                 · exact hk5.elim
                 rename_i hx5
                 have M6 : SAt D5 ρ5 (ms m5 m.length .tk) (c5.set m.length [(l, .loop (rc .ready))]) C1 (w5.putObj l (.loop (rc .ready))).heap := by
                  have := (M5'.cput (.loop (rc .ready))).back hb5 hL5 rfl rfl
                  exact this.mono (.refl _) (this.st.sublist (by
                   simp only [List.flatten_append]
                   exact (List.Sublist.refl _).append (List.sublist_append_right _ _)))
                 refine ⟨.bool true, w5.putObj l (.loop (rc .ready)), by rw [hrc] at hat5 ⊢; exact run_endRound none hat5, .bool true, rfl, ⟨D5, ρ5, _, _, .u (.b true), ⟨nn.le, nn.pre, fun b h1 h2 => ?_, fun b h1 h2 => ?_, ?_⟩, M6, .u (.bool true), hk5⟩, ?_⟩
                 · by_cases hb : m.length = b
                   · subst hb
                     rw [List.getElem?_set_self (by rw [M5.lch]; exact hb5), q3]
                   · rw [List.getElem?_set_ne hb]
                     have := nn.keep b h1 (by rw [zck]; exact h2)
                     rw [this, List.getElem?_set_ne hb]
                 · by_cases hb : m.length = b
                   · subst hb
                     rw [mg_ms hb5, hm1]
                   · rw [zbv hb]
                     have := nn.same b h1 (by rw [zck]; exact h2)
                     rw [this, zbv hb]
                 · have := nn.len
                   rw [zck] at this ⊢
                   exact this
                 · exact ((hq.sm.trans (Same.put _ _ _)).trans hu.sm).trans (Same.put _ _ _)
                cases e with
                | normal => exact fin hq5
                | exit i => obtain ⟨_, _, _, _, _, _, _, _, _, _, h⟩ := hq5.ex; exact h.elim
                | ret => obtain ⟨_, _, _, _, _, _, _, _, _, _, h⟩ := hq5.ex; exact h.elim
                | _ => exact hq5.elim
              | exit i => obtain ⟨_, _, _, _, _, _, _, _, _, _, h⟩ := hq.ex; exact h.elim
              | ret => obtain ⟨_, _, _, _, _, _, _, _, _, _, h⟩ := hq.ex; exact h.elim
              | _ => exact hq.elim
             have hvg := zc4 F g
             rw [hg] at hvg
             generalize hevg : ev a.tmps.toList g = vg at hvg
             obtain ⟨xs, ys, rfl, ha1, ha2⟩ := hvg.f_inv
             have hyv : Rp D (ρ ++ [L]) (.func (.yield l) #[] #[]) (.y m.length) := .y (L := L) (by have := hbL []; rwa [List.append_nil] at this)
             have hargs : RpL D (ρ ++ [L]) (xs ++ [Value.func (.yield l) #[] #[]] ++ ys) (as' ++ [.y m.length] ++ cs) := ((ha1.mono (.refl D) [L]).app (.cons hyv .nil)).app (ha2.mono (.refl D) [L])
             have hrun := body_S (fi := gi) (X := X') hself hX' (Y := .it m.length _) @hY' rfl ⟨.refl D, [], by simp⟩ hgf hgc hng.1 hYf M1 hargs
             let W1 : World := (w.alloc (.deferred (some []))).alloc (.loop (rc .ready))
             have hW1 : W1.heap = h2 := rfl
             have hevg' : a.eval g = .func (.func gi) xs.toArray ys.toArray := by rw [za0]; exact hevg
             refine ⟨l, [{ target := .collected w.heap.size, args := #[] }], W1, { target := .fn (.func gi) ys.toArray, args := xs.toArray ++ #[.func (.yield l) #[] #[]] }, W1, gi,
              (xs.toArray ++ #[.func (.yield l) #[] #[]]) ++ ys.toArray, W1, ?_, ?_, fun _ _ => trivial, ?_, fun hx => (by cases hx), ?_⟩
             · show (Instr.enterLoop fn a.tmps ps assign body none).run P w = _
               rw [run_enterLoop_outer]; subst hrc; rfl
             · simp only [resolve, hevg', Deferred.ofValue]
               simp [Act.eval]
             · show (callFunc gi _).run P W1 = _
               exact zff hrun.1 _ _
             · have hc := hrun.2 W1 hW1
               have ha : (xs ++ [Value.func (.yield l) #[] #[]] ++ ys).toArray = (xs.toArray ++ #[.func (.yield l) #[] #[]]) ++ ys.toArray := by apply Array.ext'; simp
               rw [ha] at hc
               refine (zon hc).mono ?_
               rintro e w3 ⟨v, rfl, hK, hS⟩
               have sW : Same w w3 := ((Same.alloc _ _).trans (Same.alloc _ _)).trans hS
               obtain ⟨D2, ρ2, m2, c2, x2, n2, M2, -, hY2⟩ := hK
               obtain ⟨hm2, hQ⟩ := isY_iff hY2
               obtain ⟨s2, rfl⟩ := n2.pre
               obtain ⟨L2, q1, q2, q3, M3, hb2⟩ := M2.recd (hbL s2) rfl rfl hm2
               have hat : w3.heap[l]? = some (.loop (rc .ready)) := M2.own q3 (List.mem_singleton_self _)
               have hat' := hat
               rw [hrc] at hat'
               refine ⟨_, _, run_endLoop hat' (by simp), ?_⟩
               refine ⟨sW.trans (Same.put _ _ _), .refl _ _, w.heap.size :: ds, D2, _, _, _, t, by show [_] ++ a.defers = _; rw [hd]; rfl, ⟨n2.le, ⟨[L] ++ s2, by simp⟩, fun b h1 h2 => ?_, fun b h1 h2 => ?_, ?_⟩, (M3.cput _).cdrop, ?_, hQ⟩
               · have hb : m.length ≠ b := by omega
                 rw [List.getElem?_set_ne hb, n2.keep b h1 (by simp; omega), List.getElem?_append_left (by rw [M.lch]; exact h2)]
               · have hb : m.length ≠ b := by omega
                 rw [zbv hb, n2.same b h1 (by simp; omega), zob h2]
               · rw [zck]; omega
               · rw [List.append_assoc]; exact F.mono n2.le _
     · exact hh.elim
 | _ => intro r Y X hr ro Q t m D ρ chs C a w ds hX hY hrd xx hh M F hd; simp [vcC] at hh
theorem runS_S (hmix : P.follows .mixedOrders = true) (H : SH P) : ∀ n, SelfOk P (zg9 P H n)
 | 0 => by
   intro hX hY hYr xx hh
   exact hh.elim
 | n + 1 => by
   intro hX hY hYr xx hh M F hd
   exact vcC_S hmix (runS_S hmix H n) _ none _ _ _ _ _ _ _ _ _ _ _ _ _ [] hX hY (fun _ => rfl) xx hh M F hd
theorem frzX_S {own : Bool} {x y : V} {v : Value} (hs : frzX own m x = some (y, m')) (M : SAt D ρ m chs C h) (hv : Rp D ρ v x) : ∃ D' chs', Nx [] [] D ρ m chs D' ρ m' chs' ∧ SAt D' ρ m' chs' C h ∧ Rp D' ρ v y := by
 unfold frzX at hs
 split at hs
 · rename_i l
   cases own with
   | true => cases hs; exact ⟨D, chs, .refl, M, hv⟩
   | false =>
     simp only [cond_false] at hs
     split at hs
     · rename_i l' m1 h1
       cases hs
       obtain ⟨VS, rfl, hl⟩ := hv.t_inv
       obtain ⟨D2, c2, n2, M2, r2⟩ := frzL_S (ro := []) (hr := []) h1 M hl
       exact ⟨D2, c2, n2, M2, .t r2⟩
     · cases hs
 · cases own with
   | true => cases hs; exact ⟨D, chs, .refl, M, hv⟩
   | false => exact frzV_S (ro := []) (hr := []) hs M hv
theorem funSG (hmix : P.follows .mixedOrders = true) {H : SH P} {n : Nat} {f : FuncId} {fn : Func} {gc : Bool} (hf : P.funcs[f]? = some fn) (hn : (fn.name == "runtime.NumGoroutine") = false) {c : Code} (hc : fn.body = some c) {m : Mem} {args : List V} {Q : V → Mem → Prop}
 (hh : zg9 P H n .out f [] [] c (retG P gc fn (endS H.own m.length Q)) (zfr P gc fn args) m) : PRun P f m args Q := by
 intro D ρ chs C h vs M ha
 · refine (body_S (fi := f) (runS_S hmix H n) (X := fun _ _ => True) (fun _ _ _ => trivial) (Y := .out) trivial rfl trivial hf hc hn hh M ha).mono ?_
   rintro v h' ⟨D1, ρ1, m1, c1, x, n1, M1, hv, hq⟩
   obtain ⟨s, rfl⟩ := n1.pre
   unfold endS at hq
   split at hq
   · exact hq.elim
   · rename_i x1 m2 hfz
     obtain ⟨D2, c2, n2, M2, hv2⟩ := frzX_S hfz M1 hv
     generalize hix : clo m2 1000 (zae x1 ++ (m2.take m.length).flatMap zci) (List.range m.length) = ix at hq
     obtain ⟨hc2, hq⟩ := zaa hq
     simp only [Bool.and_eq_true] at hc2
     have q1 := zbs hc2.1.1
     have q2 := zbs hc2.1.2
     have q3 := zdv hc2.2
     have hnd : ix.Nodup := hix ▸ zfw _ _ _ List.nodup_range
     have hpre : ∃ tl, ix = List.range m.length ++ tl := hix ▸ zp6 _ _ _
     obtain ⟨tl, rfl⟩ := hpre
     obtain ⟨c', cs, Mk, gk, Ms⟩ := M2.sub hnd q3 fun b hb c hc => q2 c (List.mem_flatMap.2 ⟨b, hb, hc⟩)
     have hρ : (List.range m.length ++ tl).map (fun b => ((ρ ++ s)[b]?).getD ⟨0, none, 0, 0, none⟩) = ρ ++ tl.map (fun b => ((ρ ++ s)[b]?).getD ⟨0, none, 0, 0, none⟩) := by
      rw [List.map_append]
      congr 1
      apply List.ext_getElem (by simp [M.len])
      intro i h1 h2
      simp only [List.getElem_map, List.getElem_range]
      rw [List.getElem?_append_left h2, List.getElem?_eq_getElem h2]; rfl
     rw [hρ] at Ms
     have hv3 := (ren_all (D := D2) (ρ := ρ ++ s) (f := fun b => zjd (List.range m.length ++ tl) b 0) (ρ' := (List.range m.length ++ tl).map (fun b => ((ρ ++ s)[b]?).getD ⟨0, none, 0, 0, none⟩))).1 hv2 fun b hb L hL => by
      obtain ⟨k, h4, h5⟩ := zga (k := 0) (q1 b hb)
      rw [h4, Nat.zero_add, List.getElem?_map, h5, Option.map_some, hL]; rfl
     rw [hρ] at hv3
     refine ⟨D2, _, cs, _, _, n1.le.trans n2.le, Ms.mono (.refl _) (C' := C) ?_, hv3, hq⟩
     have S := Ms.st
     exact (S.perm (C' := c' ++ (cs ++ C)) (by simp only [List.flatten_append]; exact List.perm_append_comm_assoc _ _ _)).drops
theorem funS (hmix : P.follows .mixedOrders = true) {H : SH P} {n : Nat} {f : FuncId} {fn : Func} (hf : P.funcs[f]? = some fn) (hn : (fn.name == "runtime.NumGoroutine") = false) {m : Mem} {args : List V} {Q : V → Mem → Prop} (hh : zqv P H n f fn m args Q) : PRun P f m args Q := by
 unfold zqv at hh
 split at hh
 · exact hh.elim
 · rename_i c hc
   exact funSG hmix hf hn hc hh
theorem zav (hmix : P.follows .mixedOrders = true) {H : SH P} {n : Nat} {f : FuncId} {fn : Func} (hf : P.funcs[f]? = some fn) (hn : (fn.name == "runtime.NumGoroutine") = false) {m : Mem} {args : List V} {Q : V → Mem → Prop} {V : Prop} (hV : V = zqv P H n f fn m args Q) (hh : V) : PRun P f m args Q :=
 funS hmix hf hn (hV ▸ hh)
end
mutual
def eqU : U → U → Bool
 | .i k n, .i k' n' => Nat.beq (zaq k) (zaq k') && (n == n')
 | .b c, .b c' => c == c'
 | .s x, .s y => decide (x = y)
 | .l s r, .l s' r' => Nat.beq s s' && eqR r r'
 | .p o, .p o' => eqO o o'
 | _, _ => false
def eqR : List (List U) → List (List U) → Bool
 | [], [] => true
 | a :: l, b :: r => eqUs a b && eqR l r
 | _, _ => false
def eqUs : List U → List U → Bool
 | [], [] => true
 | a :: l, b :: r => eqU a b && eqUs l r
 | _, _ => false
def eqO : Option (List U) → Option (List U) → Bool
 | none, none => true
 | some a, some b => eqUs a b
 | _, _ => false
end
mutual
theorem eqU_ok : ∀ {a b : U}, eqU a b = true → a = b
 | .i k n, .i k' n', h => by
   simp only [eqU, Bool.and_eq_true, beq_iff_eq] at h
   have := zdh (Nat.eq_of_beq_eq_true h.1)
   rw [this, h.2]
 | .b c, .b c', h => by simp only [eqU, beq_iff_eq] at h; rw [h]
 | .s x, .s y, h => by simp only [eqU, decide_eq_true_eq] at h; rw [h]
 | .l s r, .l s' r', h => by
   simp only [eqU, Bool.and_eq_true] at h
   rw [Nat.eq_of_beq_eq_true h.1, eqR_ok h.2]
 | .p o, .p o', h => by simp only [eqU] at h; rw [eqO_ok h]
 | .i .., .b .., h => by simp [eqU] at h
 | .i .., .s .., h => by simp [eqU] at h
 | .i .., .l .., h => by simp [eqU] at h
 | .i .., .p .., h => by simp [eqU] at h
 | .b .., .i .., h => by simp [eqU] at h
 | .b .., .s .., h => by simp [eqU] at h
 | .b .., .l .., h => by simp [eqU] at h
 | .b .., .p .., h => by simp [eqU] at h
 | .s .., .i .., h => by simp [eqU] at h
 | .s .., .b .., h => by simp [eqU] at h
 | .s .., .l .., h => by simp [eqU] at h
 | .s .., .p .., h => by simp [eqU] at h
 | .l .., .i .., h => by simp [eqU] at h
 | .l .., .b .., h => by simp [eqU] at h
 | .l .., .s .., h => by simp [eqU] at h
 | .l .., .p .., h => by simp [eqU] at h
 | .p .., .i .., h => by simp [eqU] at h
 | .p .., .b .., h => by simp [eqU] at h
 | .p .., .s .., h => by simp [eqU] at h
 | .p .., .l .., h => by simp [eqU] at h
theorem eqR_ok : ∀ {a b : List (List U)}, eqR a b = true → a = b
 | [], [], _ => rfl
 | a :: l, b :: r, h => by
   simp only [eqR, Bool.and_eq_true] at h
   rw [zmj h.1, eqR_ok h.2]
 | [], _ :: _, h => by simp [eqR] at h
 | _ :: _, [], h => by simp [eqR] at h
theorem zmj : ∀ {a b : List U}, eqUs a b = true → a = b
 | [], [], _ => rfl
 | a :: l, b :: r, h => by
   simp only [eqUs, Bool.and_eq_true] at h
   rw [eqU_ok h.1, zmj h.2]
 | [], _ :: _, h => by simp [eqUs] at h
 | _ :: _, [], h => by simp [eqUs] at h
theorem eqO_ok : ∀ {a b : Option (List U)}, eqO a b = true → a = b
 | none, none, _ => rfl
 | some a, some b, h => by simp only [eqO] at h; rw [zmj h]
 | none, some _, h => by simp [eqO] at h
 | some _, none, h => by simp [eqO] at h
end
mutual
def smV : V → V → Bool
 | .u x, .u y => eqU x y
 | .r b o, .r b' o' => Nat.beq b b' && Nat.beq o o'
 | .e b s k o, .e b' s' k' o' => Nat.beq b b' && Nat.beq s s' && (k == k') && Nat.beq o o'
 | .g b o w k, .g b' o' w' k' => Nat.beq b b' && Nat.beq o o' && Nat.beq w w' && (k == k')
 | .q c o, .q c' o' => eqUs c c' && Nat.beq o o'
 | .w b, .w b' => Nat.beq b b'
 | .c s r, .c s' r' => Nat.beq s s' && eqR r r'
 | .m b, .m b' => Nat.beq b b'
 | .nm, .nm => true
 | .nl s, .nl s' => Nat.beq s s'
 | .f g a c, .f g' a' c' => Nat.beq g g' && smVs a a' && smVs c c'
 | .a l, .a l' => smVs l l'
 | .t l, .t l' => smVs l l'
 | .n k w l, .n k' w' l' => Nat.beq (zaq k) (zaq k') && Nat.beq w w' && eqI l l'
 | .z, .z => true
 | .y b, .y b' => Nat.beq b b'
 | .v b s l n c, .v b' s' l' n' c' => Nat.beq b b' && Nat.beq s s' && Nat.beq l l' && Nat.beq n n' && (c == c')
 | .sl b o n, .sl b' o' n' => Nat.beq b b' && Nat.beq o o' && Nat.beq n n'
 | _, _ => false
def smVs : List V → List V → Bool
 | [], [] => true
 | a :: l, b :: r => smV a b && smVs l r
 | _, _ => false
end
mutual
theorem smV_ok : ∀ (a b : V), smV a b = true → a = b := fun a b h => by
 cases a <;> cases b <;> (try (simp [smV] at h; done)) <;> simp only [smV, Bool.and_eq_true, beq_iff_eq] at h
 case u.u => rw [eqU_ok h]
 case r.r => rw [Nat.eq_of_beq_eq_true h.1, Nat.eq_of_beq_eq_true h.2]
 case e.e => rw [Nat.eq_of_beq_eq_true h.1.1.1, Nat.eq_of_beq_eq_true h.1.1.2, h.1.2, Nat.eq_of_beq_eq_true h.2]
 case g.g => rw [Nat.eq_of_beq_eq_true h.1.1.1, Nat.eq_of_beq_eq_true h.1.1.2, Nat.eq_of_beq_eq_true h.1.2, h.2]
 case q.q => rw [zmj h.1, Nat.eq_of_beq_eq_true h.2]
 case w.w => rw [Nat.eq_of_beq_eq_true h]
 case c.c => rw [Nat.eq_of_beq_eq_true h.1, eqR_ok h.2]
 case m.m => rw [Nat.eq_of_beq_eq_true h]
 case nm.nm => rfl
 case nl.nl => rw [Nat.eq_of_beq_eq_true h]
 case f.f g a c g' a' c' => rw [Nat.eq_of_beq_eq_true h.1.1, zfd a a' h.1.2, zfd c c' h.2]
 case a.a l l' => rw [zfd l l' h]
 case t.t l l' => rw [zfd l l' h]
 case n.n =>
  rw [zdh (Nat.eq_of_beq_eq_true h.1.1), Nat.eq_of_beq_eq_true h.1.2]
  have := h.2
  rw [zp0, decide_eq_true_eq] at this
  rw [this]
 case z.z => rfl
 case y.y => rw [Nat.eq_of_beq_eq_true h]
 case v.v => rw [Nat.eq_of_beq_eq_true h.1.1.1.1, Nat.eq_of_beq_eq_true h.1.1.1.2, Nat.eq_of_beq_eq_true h.1.1.2, Nat.eq_of_beq_eq_true h.1.2, h.2]
 case sl.sl => rw [Nat.eq_of_beq_eq_true h.1.1, Nat.eq_of_beq_eq_true h.1.2, Nat.eq_of_beq_eq_true h.2]
theorem zfd : ∀ (a b : List V), smVs a b = true → a = b
 | [], [], _ => rfl
 | a :: l, b :: r, h => by
   simp only [smVs, Bool.and_eq_true] at h
   rw [smV_ok a b h.1, zfd l r h.2]
 | [], _ :: _, h => by simp [smVs] at h
 | _ :: _, [], h => by simp [smVs] at h
end
def eqMr : List (MK × List U) → List (MK × List U) → Bool
 | [], [] => true
 | a :: l, b :: r => decide (a.1 = b.1) && eqUs a.2 b.2 && eqMr l r
 | _, _ => false
theorem eqMr_ok : ∀ {a b : List (MK × List U)}, eqMr a b = true → a = b
 | [], [], _ => rfl
 | (k, a) :: l, (k', b) :: r, h => by
   simp only [eqMr, Bool.and_eq_true, decide_eq_true_eq] at h
   rw [h.1.1, zmj h.1.2, eqMr_ok h.2]
 | [], _ :: _, h => by simp [eqMr] at h
 | _ :: _, [], h => by simp [eqMr] at h
def eqA : AB → AB → Bool
 | .c l, .c l' => smVs l l'
 | .w E s r, .w E' s' r' => Nat.beq E E' && Nat.beq s s' && eqR r r'
 | .p k s g r, .p k' s' g' r' => ktEq k k' && Nat.beq s s' && (g == g') && eqMr r r'
 | .x, .x => true
 | .tk, .tk => true
 | .cw E s n l, .cw E' s' n' l' => Nat.beq E E' && Nat.beq s s' && Nat.beq n n' && smVs l l'
 | .o I, .o J => eqOb I J
 | _, _ => false
theorem eqA_ok {a b : AB} (h : eqA a b = true) : a = b := by
 cases a <;> cases b <;> (try (simp [eqA] at h; done)) <;> simp only [eqA, Bool.and_eq_true, beq_iff_eq] at h
 case c.c => rw [zfd _ _ h]
 case w.w => rw [Nat.eq_of_beq_eq_true h.1.1, Nat.eq_of_beq_eq_true h.1.2, eqR_ok h.2]
 case p.p => rw [zgg h.1.1.1, Nat.eq_of_beq_eq_true h.1.1.2, h.1.2, eqMr_ok h.2]
 case x.x => rfl
 case tk.tk => rfl
 case o.o => rw [eqOb_ok h]
 case cw.cw => rw [Nat.eq_of_beq_eq_true h.1.1.1, Nat.eq_of_beq_eq_true h.1.1.2, Nat.eq_of_beq_eq_true h.1.2, zfd _ _ h.2]
def eqM : Mem → Mem → Bool
 | [], [] => true
 | a :: l, b :: r => eqA a b && eqM l r
 | _, _ => false
theorem eqM_ok : ∀ {a b : Mem}, eqM a b = true → a = b
 | [], [], _ => rfl
 | a :: l, b :: r, h => by
   simp only [eqM, Bool.and_eq_true] at h
   rw [eqA_ok h.1, eqM_ok h.2]
 | [], _ :: _, h => by simp [eqM] at h
 | _ :: _, [], h => by simp [eqM] at h
def canonE (n : Nat) (t : List V) (m : Mem) : Option (List V × Mem) :=
 cond (Nat.ble m.length (n + 1)) (some (t, m)) (canE (clo m 1000 (zak t ++ (m.take n).flatMap zci) (List.range n)))
where canE (ix : List Nat) : Option (List V × Mem) := cond (ze8 ix (zak t) && ze8 ix (ix.flatMap fun b => zci (mg m b)) && zia m.length ix) (some (zes (fun b => zjd ix b 0) t, znv m ix)) none
theorem canonE_ok {n : Nat} {t : List V} {m : Mem} {r : List V × Mem} {K : List V → Mem → Prop} (h : canonE n t m = some r) (hK : K r.1 r.2) : zc5 n K t m := by
 unfold canonE at h
 unfold zc5
 generalize Nat.ble m.length (n + 1) = c at h ⊢
 cases c
 · simp only [cond_false] at h ⊢
   unfold canonE.canE at h
   unfold canonK
   obtain ⟨h1, h2⟩ := zaf h
   cases h2
   rw [h1]; exact hK
 · cases h; exact hK
section
variable {α : Type}
noncomputable def ze9 (d : α) (l : List α) (n : Nat) : α := List.rec (motive := fun _ => Nat → α) (fun _ => d) (fun a _ ih k => Nat.rec (motive := fun _ => α) a (fun j _ => ih j) k) l n
noncomputable def rgetO (l : List α) (n : Nat) : Option α := List.rec (motive := fun _ => Nat → Option α) (fun _ => none) (fun a _ ih k => Nat.rec (motive := fun _ => Option α) (some a) (fun j _ => ih j) k) l n
noncomputable def znh (l : List α) (n : Nat) (v : α) : List α := List.rec (motive := fun _ => Nat → List α) (fun _ => []) (fun a r ih k => Nat.rec (motive := fun _ => List α) (v :: r) (fun j _ => a :: ih j) k) l n
noncomputable def zfh (l r : List α) : List α := List.rec (motive := fun _ => List α) r (fun a _ ih => a :: ih) l
noncomputable def zde (l : List α) : Nat := List.rec (motive := fun _ => Nat → Nat) (fun k => k) (fun _ _ ih k => ih (Nat.succ k)) l 0
noncomputable def rtake (n : Nat) (l : List α) : List α := List.rec (motive := fun _ => Nat → List α) (fun _ => []) (fun a _ ih k => Nat.rec (motive := fun _ => List α) [] (fun j _ => a :: ih j) k) l n
noncomputable def zdz (n : Nat) (l : List α) : List α := List.rec (motive := fun _ => Nat → List α) (fun _ => []) (fun a r ih k => Nat.rec (motive := fun _ => List α) (a :: r) (fun j _ => ih j) k) l n
noncomputable def rmapF {β : Type} (f : α → β) (l : List α) : List β := List.rec (motive := fun _ => List β) [] (fun a _ ih => f a :: ih) l
theorem rgetO_eq : ∀ (l : List α) (n : Nat), rgetO l n = l[n]?
 | [], n => rfl
 | a :: l, 0 => rfl
 | a :: l, n + 1 => by rw [List.getElem?_cons_succ, ← rgetO_eq l n]; rfl
theorem zgu : ∀ (l : List α) (n : Nat) (v : α), znh l n v = l.set n v
 | [], n, v => rfl
 | a :: l, 0, v => rfl
 | a :: l, n + 1, v => by rw [List.set_cons_succ, ← zgu l n v]; rfl
theorem za9 : ∀ (l r : List α), zfh l r = l ++ r
 | [], r => rfl
 | a :: l, r => by rw [List.cons_append, ← za9 l r]; rfl
theorem rlen_go : ∀ (l : List α) (k : Nat), List.rec (motive := fun _ => Nat → Nat) (fun k => k) (fun _ _ ih k => ih (Nat.succ k)) l k = l.length + k
 | [], k => by simp
 | a :: l, k => by
   show List.rec (motive := fun _ => Nat → Nat) (fun k => k) (fun _ _ ih k => ih (Nat.succ k)) l (Nat.succ k) = _
   rw [rlen_go l (Nat.succ k), List.length_cons, Nat.succ_eq_add_one]; omega
theorem zax (l : List α) : zde l = l.length := rlen_go l 0
theorem zo1 : ∀ (n : Nat) (l : List α), rtake n l = l.take n
 | 0, [] => rfl
 | n + 1, [] => rfl
 | 0, a :: l => rfl
 | n + 1, a :: l => by rw [List.take_succ_cons, ← zo1 n l]; rfl
theorem zhq : ∀ (n : Nat) (l : List α), zdz n l = l.drop n
 | 0, [] => rfl
 | n + 1, [] => rfl
 | 0, a :: l => rfl
 | n + 1, a :: l => by rw [List.drop_succ_cons, ← zhq n l]; rfl
theorem zho {β : Type} (f : α → β) : ∀ (l : List α), rmapF f l = l.map f
 | [] => rfl
 | a :: l => by rw [List.map_cons, ← zho f l]; rfl
end
theorem zej : ∀ (l : List V) (n : Nat), ze9 .z l n = zdx l n
 | [], n => rfl
 | a :: l, 0 => rfl
 | a :: l, n + 1 => zej l n
theorem zc0 : ∀ (l : Mem) (n : Nat), ze9 .x l n = mg l n
 | [], n => rfl
 | a :: l, 0 => rfl
 | a :: l, n + 1 => zc0 l n
theorem zfg : ∀ (l : List V) (n : Nat) (v : V), znh l n v = zk5 l n v
 | [], n, v => rfl
 | a :: l, 0, v => rfl
 | a :: l, n + 1, v => by simp only [zk5]; rw [← zfg l n v]; rfl
theorem rset_ms : ∀ (l : Mem) (n : Nat) (v : AB), znh l n v = ms l n v
 | [], n, v => rfl
 | a :: l, 0, v => rfl
 | a :: l, n + 1, v => by simp only [ms]; rw [← rset_ms l n v]; rfl
theorem zo4 : ∀ (l : List U) (n : Nat), rgetO l n = ug l n
 | [], n => rfl
 | a :: l, 0 => rfl
 | a :: l, n + 1 => zo4 l n
noncomputable def inR (l : List Nat) (b : Nat) : Bool := List.rec (motive := fun _ => Bool) false (fun x _ ih => cond (Nat.beq x b) true ih) l
theorem inR_eq : ∀ (l : List Nat) (b : Nat), inR l b = inL l b
 | [], b => rfl
 | x :: l, b => by
   simp only [inL]; rw [← inR_eq l b]
   show cond (Nat.beq x b) true (inR l b) = _
   cases Nat.beq x b <;> rfl
def andF (a b : Bool) : Bool := cond a b false
theorem zi3 (a b : Bool) : andF a b = (a && b) := by cases a <;> rfl
noncomputable def zh8 (o : Nat) (l : List V) : Option (List V) :=
 List.rec (motive := fun _ => Nat → Option (List V)) (fun o => Nat.rec (motive := fun _ => Option (List V)) (some []) (fun _ _ => none) o)
  (fun x l ih o => Nat.rec (motive := fun _ => Option (List V)) (some (x :: l)) (fun o' _ => cond (Nat.ble (wd x) (Nat.succ o')) (cond (Nat.beq (wd x) 0) none (ih (Nat.sub (Nat.succ o') (wd x)))) none) o) l o
theorem zcq : ∀ (l : List V) (o : Nat), zh8 o l = zb7 o l
 | [], 0 => rfl
 | [], o + 1 => rfl
 | x :: l, 0 => rfl
 | x :: l, o + 1 => by
   simp only [zb7]
   rw [← zcq l (o + 1 - wd x)]
   show cond (Nat.ble (wd x) (o + 1)) (cond (Nat.beq (wd x) 0) none (zh8 (o + 1 - wd x) l)) none = _
   cases Nat.ble (wd x) (o + 1) <;> cases Nat.beq (wd x) 0 <;> rfl
noncomputable def prefR (n : Nat) (l : List V) : Option (List V) :=
 List.rec (motive := fun _ => Nat → Option (List V)) (fun o => Nat.rec (motive := fun _ => Option (List V)) (some []) (fun _ _ => none) o)
  (fun x l ih o => Nat.rec (motive := fun _ => Option (List V)) (some []) (fun o' _ => cond (Nat.ble (wd x) (Nat.succ o')) (cond (Nat.beq (wd x) 0) none
   (Option.rec (motive := fun _ => Option (List V)) none (fun r => some (x :: r)) (ih (Nat.sub (Nat.succ o') (wd x))))) none) o) l n
theorem zj5 : ∀ (l : List V) (o : Nat), prefR o l = zgl o l
 | [], 0 => rfl
 | [], o + 1 => rfl
 | x :: l, 0 => rfl
 | x :: l, o + 1 => by
   simp only [zgl]
   rw [← zj5 l (o + 1 - wd x)]
   show cond (Nat.ble (wd x) (o + 1)) (cond (Nat.beq (wd x) 0) none (Option.rec (motive := fun _ => Option (List V)) none (fun r => some (x :: r)) (prefR (o + 1 - wd x) l))) none = _
   cases Nat.ble (wd x) (o + 1) <;> cases Nat.beq (wd x) 0 <;> first | rfl | (cases prefR (o + 1 - wd x) l <;> rfl)
noncomputable def putR (new : List V) (o : Nat) (l : List V) : Option (List V) :=
 List.rec (motive := fun _ => Nat → Option (List V)) (fun o => Nat.rec (motive := fun _ => Option (List V)) (Option.rec (motive := fun _ => Option (List V)) none (fun r => some (zfh new r)) (zh8 (wds new) [])) (fun _ _ => none) o)
  (fun x l ih o => Nat.rec (motive := fun _ => Option (List V)) (Option.rec (motive := fun _ => Option (List V)) none (fun r => some (zfh new r)) (zh8 (wds new) (x :: l)))
   (fun o' _ => cond (Nat.ble (wd x) (Nat.succ o')) (cond (Nat.beq (wd x) 0) none
   (Option.rec (motive := fun _ => Option (List V)) none (fun r => some (x :: r)) (ih (Nat.sub (Nat.succ o') (wd x))))) none) o) l o
theorem putR_eq (new : List V) : ∀ (l : List V) (o : Nat), putR new o l = zn3 new o l
 | [], 0 => by
   show Option.rec (motive := fun _ => Option (List V)) none (fun r => some (zfh new r)) (zh8 (wds new) []) = _
   unfold zn3; rw [zcq]; cases zb7 (wds new) [] <;> first | rfl | (simp only [za9])
 | [], o + 1 => rfl
 | x :: l, 0 => by
   show Option.rec (motive := fun _ => Option (List V)) none (fun r => some (zfh new r)) (zh8 (wds new) (x :: l)) = _
   unfold zn3; rw [zcq]; cases zb7 (wds new) (x :: l) <;> first | rfl | (simp only [za9])
 | x :: l, o + 1 => by
   simp only [zn3]
   rw [← putR_eq new l (o + 1 - wd x)]
   show cond (Nat.ble (wd x) (o + 1)) (cond (Nat.beq (wd x) 0) none (Option.rec (motive := fun _ => Option (List V)) none (fun r => some (x :: r)) (putR new (o + 1 - wd x) l))) none = _
   cases Nat.ble (wd x) (o + 1) <;> cases Nat.beq (wd x) 0 <;> first | rfl | (cases putR new (o + 1 - wd x) l <;> rfl)
noncomputable def addF (x y : Int) : Int := Int.casesOn (motive := fun _ => Int) x (fun a => Int.casesOn (motive := fun _ => Int) y (fun b => .ofNat (Nat.add a b)) (fun b => cond (Nat.ble (Nat.succ b) a) (.ofNat (Nat.sub a (Nat.succ b))) (.negSucc (Nat.sub b a))))
 (fun a => Int.casesOn (motive := fun _ => Int) y (fun b => cond (Nat.ble (Nat.succ a) b) (.ofNat (Nat.sub b (Nat.succ a))) (.negSucc (Nat.sub a b))) (fun b => .negSucc (Nat.succ (Nat.add a b))))
theorem zqd {α : Type} {a b : Nat} {x y : α} : cond (Nat.ble a b) x y = if a ≤ b then x else y := by
 by_cases h : a ≤ b
 · rw [Nat.ble_eq_true_of_le h]; simp [h]
 · have : Nat.ble a b = false := by
    cases e : Nat.ble a b with
    | false => rfl
    | true => exact absurd (Nat.le_of_ble_eq_true e) h
   rw [this]; simp [h]
theorem addF_eq (x y : Int) : addF x y = x + y := by
 cases x <;> cases y <;> simp only [addF, zqd]
 · rfl
 · rename_i a b
   show (if b + 1 ≤ a then Int.ofNat (a - (b + 1)) else Int.negSucc (b - a)) = _
   split <;> simp only [Int.ofNat_eq_natCast, Int.negSucc_eq] <;> omega
 · rename_i a b
   show (if a + 1 ≤ b then Int.ofNat (b - (a + 1)) else Int.negSucc (a - b)) = _
   split <;> simp only [Int.ofNat_eq_natCast, Int.negSucc_eq] <;> omega
 · rename_i a b
   show Int.negSucc (a + b + 1) = _
   simp only [Int.negSucc_eq]; omega
noncomputable def negF (x : Int) : Int := Int.casesOn (motive := fun _ => Int) x (fun a => Nat.rec (motive := fun _ => Int) (.ofNat 0) (fun k _ => .negSucc k) a) (fun a => .ofNat (Nat.succ a))
theorem negF_eq (x : Int) : negF x = -x := by
 cases x with
 | ofNat a => cases a <;> rfl
 | negSucc a => rfl
noncomputable def subF (x y : Int) : Int := addF x (negF y)
theorem subF_eq (x y : Int) : subF x y = x - y := by rw [subF, addF_eq, negF_eq]; rfl
noncomputable def eqF (x y : Int) : Bool := Int.casesOn (motive := fun _ => Bool) x (fun a => Int.casesOn (motive := fun _ => Bool) y (fun b => Nat.beq a b) (fun _ => false)) (fun a => Int.casesOn (motive := fun _ => Bool) y (fun _ => false) (fun b => Nat.beq a b))
theorem eqF_eq (x y : Int) : eqF x y = (x == y) := by
 cases x <;> cases y <;> simp only [eqF]
 · rename_i a b
   cases h : Nat.beq a b with
   | true => rw [Nat.eq_of_beq_eq_true h]; simp
   | false => have := Nat.ne_of_beq_eq_false h; symm; simp only [beq_eq_false_iff_ne, Int.ofNat_eq_natCast, ne_eq]; omega
 · rfl
 · rfl
 · rename_i a b
   cases h : Nat.beq a b with
   | true => rw [Nat.eq_of_beq_eq_true h]; simp
   | false => have := Nat.ne_of_beq_eq_false h; symm; simp only [beq_eq_false_iff_ne, Int.negSucc_eq, ne_eq]; omega
noncomputable def leF (x y : Int) : Bool := Int.casesOn (motive := fun _ => Bool) x (fun a => Int.casesOn (motive := fun _ => Bool) y (fun b => Nat.ble a b) (fun _ => false)) (fun a => Int.casesOn (motive := fun _ => Bool) y (fun _ => true) (fun b => Nat.ble b a))
theorem ble_dec (a b : Nat) : Nat.ble a b = decide (a ≤ b) := by
 by_cases h : a ≤ b
 · rw [Nat.ble_eq_true_of_le h]; simp [h]
 · have : Nat.ble a b = false := by
    cases e : Nat.ble a b with
    | false => rfl
    | true => exact absurd (Nat.le_of_ble_eq_true e) h
   rw [this]; simp [h]
theorem leF_eq (x y : Int) : leF x y = decide (x ≤ y) := by
 cases x <;> cases y <;> simp only [leF, ble_dec]
 all_goals (symm; simp only [Int.ofNat_eq_natCast, Int.negSucc_eq]; first | (rw [decide_eq_decide]; omega) | (rw [decide_eq_false_iff_not]; omega) | (rw [decide_eq_true_iff]; omega))
noncomputable def ltF (x y : Int) : Bool := not (leF y x)
theorem ltF_eq (x y : Int) : ltF x y = decide (x < y) := by
 rw [ltF, leF_eq]
 by_cases h : x < y
 · have h2 : ¬ y ≤ x := by omega
   simp [h, h2]
 · have h2 : y ≤ x := by omega
   simp [h, h2]
noncomputable def wrapF (k : IntKind) (n : Int) : Int :=
 IntKind.casesOn (motive := fun _ => Int) k (k.wrap n) (k.wrap n) (k.wrap n)
  (Int.casesOn (motive := fun _ => Int) n (fun a => cond (Nat.ble a 9223372036854775807) (.ofNat a) (k.wrap n)) (fun a => cond (Nat.ble a 9223372036854775807) (.negSucc a) (k.wrap n)))
  (Int.casesOn (motive := fun _ => Int) n (fun a => cond (Nat.ble a 255) (.ofNat a) (k.wrap n)) (fun a => k.wrap n))
  (k.wrap n)
  (Int.casesOn (motive := fun _ => Int) n (fun a => cond (Nat.ble a 4294967295) (.ofNat a) (k.wrap n)) (fun a => k.wrap n))
  (Int.casesOn (motive := fun _ => Int) n (fun a => cond (Nat.ble a 18446744073709551615) (.ofNat a) (k.wrap n)) (fun a => k.wrap n))
theorem wrapF_eq (k : IntKind) (n : Int) : wrapF k n = k.wrap n := by
 cases k <;> simp only [wrapF] <;> try with_reducible rfl
 case i64 =>
  cases n <;> simp only [zqd] <;> split <;> first | with_reducible rfl | skip
  · rename_i a h; exact (w64 (by simp only [Int.ofNat_eq_natCast]; omega) (by simp only [Int.ofNat_eq_natCast]; omega)).symm
  · rename_i a h; exact (w64 (by simp only [Int.negSucc_eq]; omega) (by simp only [Int.negSucc_eq]; omega)).symm
 all_goals
  cases n <;> simp only [zqd] <;> try with_reducible rfl
  split
  · rename_i h
    simp only [IntKind.wrap, IntKind.bits, IntKind.signed, Bool.false_and, Bool.false_eq_true, if_false, Int.ofNat_eq_natCast]
    omega
  · with_reducible rfl
inductive N8 (α : Type) where
 | mk (a0 a1 a2 a3 a4 a5 a6 a7 : α)
structure SelF (α : Type) where
 g : N8 α → α
 s : N8 α → α → N8 α
section
variable {α : Type}
noncomputable def zi9 (d : Nat) : SelF α :=
 match d with
 | 0 => ⟨fun t => N8.rec (motive := fun _ => α) (fun a _ _ _ _ _ _ _ => a) t, fun t v => N8.rec (motive := fun _ => N8 α) (fun _ b c d e f g h => .mk v b c d e f g h) t⟩
 | 1 => ⟨fun t => N8.rec (motive := fun _ => α) (fun _ a _ _ _ _ _ _ => a) t, fun t v => N8.rec (motive := fun _ => N8 α) (fun a _ c d e f g h => .mk a v c d e f g h) t⟩
 | 2 => ⟨fun t => N8.rec (motive := fun _ => α) (fun _ _ a _ _ _ _ _ => a) t, fun t v => N8.rec (motive := fun _ => N8 α) (fun a b _ d e f g h => .mk a b v d e f g h) t⟩
 | 3 => ⟨fun t => N8.rec (motive := fun _ => α) (fun _ _ _ a _ _ _ _ => a) t, fun t v => N8.rec (motive := fun _ => N8 α) (fun a b c _ e f g h => .mk a b c v e f g h) t⟩
 | 4 => ⟨fun t => N8.rec (motive := fun _ => α) (fun _ _ _ _ a _ _ _ => a) t, fun t v => N8.rec (motive := fun _ => N8 α) (fun a b c d _ f g h => .mk a b c d v f g h) t⟩
 | 5 => ⟨fun t => N8.rec (motive := fun _ => α) (fun _ _ _ _ _ a _ _ => a) t, fun t v => N8.rec (motive := fun _ => N8 α) (fun a b c d e _ g h => .mk a b c d e v g h) t⟩
 | 6 => ⟨fun t => N8.rec (motive := fun _ => α) (fun _ _ _ _ _ _ a _ => a) t, fun t v => N8.rec (motive := fun _ => N8 α) (fun a b c d e f _ h => .mk a b c d e f v h) t⟩
 | _ => ⟨fun t => N8.rec (motive := fun _ => α) (fun _ _ _ _ _ _ _ a => a) t, fun t v => N8.rec (motive := fun _ => N8 α) (fun a b c d e f g _ => .mk a b c d e f g v) t⟩
theorem lt8 {d : Nat} (h : d < 8) : d = 0 ∨ d = 1 ∨ d = 2 ∨ d = 3 ∨ d = 4 ∨ d = 5 ∨ d = 6 ∨ d = 7 := by omega
theorem sel_gs {d e : Nat} (hd : d < 8) (he : e < 8) (t : N8 α) (v : α) : (zi9 d).g ((zi9 e).s t v) = if e = d then v else (zi9 d).g t := by
 cases t
 rcases lt8 hd with rfl | rfl | rfl | rfl | rfl | rfl | rfl | rfl <;> rcases lt8 he with rfl | rfl | rfl | rfl | rfl | rfl | rfl | rfl <;> rfl
end
inductive Fr where
 | a (n : Nat) (t : N8 (N8 V))
 | b (n : Nat) (t : N8 (N8 (N8 V)))
 | c (l : List V)
noncomputable def gaF (i : Nat) (t : N8 (N8 V)) : V := (zi9 (i % 8)).g ((zi9 (i / 8 % 8)).g t)
noncomputable def gbF (i : Nat) (t : N8 (N8 (N8 V))) : V := (zi9 (i % 8)).g ((zi9 (i / 8 % 8)).g ((zi9 (i / 64 % 8)).g t))
noncomputable def saF (i : Nat) (t : N8 (N8 V)) (v : V) : N8 (N8 V) := (zi9 (i / 8 % 8)).s t ((zi9 (i % 8)).s ((zi9 (i / 8 % 8)).g t) v)
noncomputable def sbF (i : Nat) (t : N8 (N8 (N8 V))) (v : V) : N8 (N8 (N8 V)) := (zi9 (i / 64 % 8)).s t ((zi9 (i / 8 % 8)).s ((zi9 (i / 64 % 8)).g t) ((zi9 (i % 8)).s ((zi9 (i / 8 % 8)).g ((zi9 (i / 64 % 8)).g t)) v))
theorem m8 (x : Nat) : x % 8 < 8 := Nat.mod_lt _ (by decide)
theorem ga_sa {i j : Nat} (hi : i < 64) (hj : j < 64) (t : N8 (N8 V)) (v : V) : gaF j (saF i t v) = if i = j then v else gaF j t := by
 unfold gaF saF
 rw [sel_gs (m8 _) (m8 _)]
 by_cases h : i / 8 % 8 = j / 8 % 8
 · rw [if_pos h, sel_gs (m8 _) (m8 _), h]
   by_cases h2 : i % 8 = j % 8
   · rw [if_pos h2, if_pos (by omega)]
   · rw [if_neg h2, if_neg (by omega)]
 · rw [if_neg h, if_neg (by omega)]
theorem gb_sb {i j : Nat} (hi : i < 512) (hj : j < 512) (t : N8 (N8 (N8 V))) (v : V) : gbF j (sbF i t v) = if i = j then v else gbF j t := by
 unfold gbF sbF
 rw [sel_gs (m8 _) (m8 _)]
 by_cases h : i / 64 % 8 = j / 64 % 8
 · rw [if_pos h, sel_gs (m8 _) (m8 _), h]
   by_cases h1 : i / 8 % 8 = j / 8 % 8
   · rw [if_pos h1, sel_gs (m8 _) (m8 _), h1]
     by_cases h2 : i % 8 = j % 8
     · rw [if_pos h2, if_pos (by omega)]
     · rw [if_neg h2, if_neg (by omega)]
   · rw [if_neg h1, if_neg (by omega)]
 · rw [if_neg h, if_neg (by omega)]
noncomputable def Fr.l : Fr → List V
 | .a n t => (List.range (min n 64)).map fun i => gaF i t
 | .b n t => (List.range (min n 512)).map fun i => gbF i t
 | .c l => l
structure AccF where
 g : Fr → V
 s : Fr → V → Fr
noncomputable def accS (i : Nat) : AccF :=
 SelF.rec (motive := fun _ => AccF) (fun g0 s0 => SelF.rec (motive := fun _ => AccF) (fun g1 s1 => SelF.rec (motive := fun _ => AccF) (fun g2 s2 =>
  ⟨fun fr => Fr.rec (motive := fun _ => V) (fun n t => Bool.rec (motive := fun _ => V) .z (g0 (g1 t)) (Nat.ble (Nat.succ i) n)) (fun n t => Bool.rec (motive := fun _ => V) .z (g0 (g1 (g2 t))) (Nat.ble (Nat.succ i) n)) (fun l => ze9 .z l i) fr,
   fun fr v => Fr.rec (motive := fun _ => Fr) (fun n t => .a n (s1 t (s0 (g1 t) v))) (fun n t => .b n (s2 t (s1 (g2 t) (s0 (g1 (g2 t)) v)))) (fun l => .c (znh l i v)) fr⟩)
  (zi9 (i / 64 % 8) : SelF (N8 (N8 V)))) (zi9 (i / 8 % 8) : SelF (N8 V))) (zi9 (i % 8) : SelF V)
noncomputable def accL (i : Nat) : AccF :=
 SelF.rec (motive := fun _ => AccF) (fun g0 s0 => SelF.rec (motive := fun _ => AccF) (fun g1 s1 => SelF.rec (motive := fun _ => AccF) (fun g2 s2 =>
  ⟨fun fr => Fr.rec (motive := fun _ => V) (fun n t => .z) (fun n t => Bool.rec (motive := fun _ => V) .z (g0 (g1 (g2 t))) (Nat.ble (Nat.succ i) n)) (fun l => ze9 .z l i) fr,
   fun fr v => Fr.rec (motive := fun _ => Fr) (fun n t => .a n t) (fun n t => .b n (s2 t (s1 (g2 t) (s0 (g1 (g2 t)) v)))) (fun l => .c (znh l i v)) fr⟩)
  (zi9 (i / 64 % 8) : SelF (N8 (N8 V)))) (zi9 (i / 8 % 8) : SelF (N8 V))) (zi9 (i % 8) : SelF V)
noncomputable def accH (i : Nat) : AccF := ⟨fun fr => zdx fr.l i, fun fr v => .c (zk5 fr.l i v)⟩
noncomputable def acc (i : Nat) : AccF := Bool.rec (motive := fun _ => AccF) (Bool.rec (motive := fun _ => AccF) (accH i) (accL i) (Nat.ble (Nat.succ i) 512)) (accS i) (Nat.ble (Nat.succ i) 64)
theorem zhd (l : List V) (i : Nat) : zdx l i = (l[i]?).getD .z := by
 induction l generalizing i with
 | nil => rfl
 | cons a l ih => cases i with
   | zero => rfl
   | succ i => rw [List.getElem?_cons_succ, ← ih]; rfl
theorem range_get {f : Nat → V} {n i : Nat} : zdx ((List.range n).map f) i = if i < n then f i else .z := by
 rw [zhd, List.getElem?_map]
 by_cases h : i < n
 · rw [List.getElem?_range h, if_pos h]; rfl
 · rw [if_neg h, List.getElem?_eq_none (by simpa using h)]; rfl
theorem zo8 {f : Nat → V} {n k i : Nat} (h : i < k) : (if i + 1 ≤ n then f i else .z) = zdx ((List.range (min n k)).map f) i := by
 rw [range_get]
 by_cases h2 : i + 1 ≤ n
 · rw [if_pos h2, if_pos (by omega)]
 · rw [if_neg h2, if_neg (by omega)]
theorem zlm {f g : Nat → V} {n i : Nat} {v : V} (h : ∀ j, j < n → g j = if i = j then v else f j) : (List.range n).map g = zk5 ((List.range n).map f) i v := by
 rw [← zfg, zgu]
 apply List.ext_getElem (by simp)
 intro j h1 h2
 simp only [List.length_map, List.length_range] at h1
 simp only [List.getElem_map, List.getElem_range, List.getElem_set, h j h1]
theorem bleR {α : Type} {a b : Nat} {x y : α} : Bool.rec (motive := fun _ => α) x y (Nat.ble a b) = if a ≤ b then y else x := by
 by_cases h : a ≤ b
 · rw [Nat.ble_eq_true_of_le h, if_pos h]
 · have : Nat.ble a b = false := by
    cases e : Nat.ble a b with
    | false => rfl
    | true => exact absurd (Nat.le_of_ble_eq_true e) h
   rw [this, if_neg h]
theorem accS_g (i : Nat) (fr : Fr) : (accS i).g fr = match fr with
 | .a n t => if i + 1 ≤ n then gaF i t else .z
 | .b n t => if i + 1 ≤ n then gbF i t else .z
 | .c l => ze9 .z l i := by
 cases fr <;> first | rfl | exact bleR
theorem accL_g (i : Nat) (fr : Fr) : (accL i).g fr = match fr with
 | .a n t => .z
 | .b n t => if i + 1 ≤ n then gbF i t else .z
 | .c l => ze9 .z l i := by
 cases fr <;> first | rfl | exact bleR
theorem acc_g (i : Nat) (fr : Fr) : (acc i).g fr = zdx fr.l i := by
 unfold acc
 rw [bleR, bleR]
 split
 · rename_i h
   rw [accS_g]
   cases fr with
   | a n t => exact zo8 (f := fun i => gaF i t) (n := n) (k := 64) (by omega)
   | b n t => exact zo8 (f := fun i => gbF i t) (n := n) (k := 512) (by omega)
   | c l => exact zej l i
 · split
   · rename_i h h2
     rw [accL_g]
     cases fr with
     | a n t => dsimp only [Fr.l]; rw [range_get, if_neg (by omega)]
     | b n t => exact zo8 (f := fun i => gbF i t) (n := n) (k := 512) (by omega)
     | c l => exact zej l i
   · rfl
theorem accS_s (i : Nat) (fr : Fr) (v : V) : (accS i).s fr v = match fr with
 | .a n t => .a n (saF i t v)
 | .b n t => .b n (sbF i t v)
 | .c l => .c (znh l i v) := by
 cases fr <;> rfl
theorem accL_s (i : Nat) (fr : Fr) (v : V) : (accL i).s fr v = match fr with
 | .a n t => .a n t
 | .b n t => .b n (sbF i t v)
 | .c l => .c (znh l i v) := by
 cases fr <;> rfl
theorem vset_ge {l : List V} {i : Nat} {v : V} (h : l.length ≤ i) : zk5 l i v = l := by rw [← zfg, zgu, List.set_eq_of_length_le h]
theorem acc_s (i : Nat) (fr : Fr) (v : V) : ((acc i).s fr v).l = zk5 fr.l i v := by
 unfold acc
 rw [bleR, bleR]
 split
 · rename_i h
   rw [accS_s]
   cases fr with
   | a n t => exact zlm fun j hj => ga_sa (by omega) (by omega) t v
   | b n t => exact zlm fun j hj => gb_sb (by omega) (by omega) t v
   | c l => exact zfg l i v
 · split
   · rename_i h h2
     rw [accL_s]
     cases fr with
     | a n t => dsimp only [Fr.l]; rw [vset_ge (by simp; omega)]
     | b n t => exact zlm fun j hj => gb_sb (by omega) (by omega) t v
     | c l => exact zfg l i v
   · rfl
noncomputable def zju (l : List V) : N8 V := .mk (ze9 .z l 0) (ze9 .z l 1) (ze9 .z l 2) (ze9 .z l 3) (ze9 .z l 4) (ze9 .z l 5) (ze9 .z l 6) (ze9 .z l 7)
noncomputable def zh4 (l : List V) : N8 (N8 V) := .mk (zju l) (zju (zdz 8 l)) (zju (zdz 16 l)) (zju (zdz 24 l)) (zju (zdz 32 l)) (zju (zdz 40 l)) (zju (zdz 48 l)) (zju (zdz 56 l))
noncomputable def fill3 (l : List V) : N8 (N8 (N8 V)) := .mk (zh4 l) (zh4 (zdz 64 l)) (zh4 (zdz 128 l)) (zh4 (zdz 192 l)) (zh4 (zdz 256 l)) (zh4 (zdz 320 l)) (zh4 (zdz 384 l)) (zh4 (zdz 448 l))
theorem zk6 (l : List V) (k i : Nat) : zdx (l.drop k) i = zdx l (k + i) := by rw [zhd, zhd, List.getElem?_drop]
theorem fill1_g {l : List V} {i : Nat} (h : i < 8) : (zi9 i).g (zju l) = zdx l i := by
 rcases lt8 h with rfl | rfl | rfl | rfl | rfl | rfl | rfl | rfl <;> exact zej l _
theorem fill2_g {l : List V} {i : Nat} (h : i < 8) : (zi9 i).g (zh4 l) = zju (l.drop (8 * i)) := by
 rcases lt8 h with rfl | rfl | rfl | rfl | rfl | rfl | rfl | rfl <;> first | (show zju (zdz _ l) = _; rw [zhq]) | (show zju l = _; rw [Nat.mul_zero, List.drop_zero])
theorem fill3_g {l : List V} {i : Nat} (h : i < 8) : (zi9 i).g (fill3 l) = zh4 (l.drop (64 * i)) := by
 rcases lt8 h with rfl | rfl | rfl | rfl | rfl | rfl | rfl | rfl <;> first | (show zh4 (zdz _ l) = _; rw [zhq]) | (show zh4 l = _; rw [Nat.mul_zero, List.drop_zero])
theorem ga_fill {l : List V} {i : Nat} (h : i < 64) : gaF i (zh4 l) = zdx l i := by
 unfold gaF
 rw [fill2_g (m8 _), fill1_g (m8 _), zk6]
 congr 1; omega
theorem gb_fill {l : List V} {i : Nat} (h : i < 512) : gbF i (fill3 l) = zdx l i := by
 unfold gbF
 rw [fill3_g (m8 _), fill2_g (m8 _), fill1_g (m8 _), zk6, zk6]
 congr 1; omega
noncomputable def zsF (n : Nat) : List V := Nat.rec (motive := fun _ => List V) [] (fun _ ih => .z :: ih) n
theorem zsF_eq : ∀ n, zsF n = List.replicate n .z
 | 0 => rfl
 | n + 1 => by rw [List.replicate_succ, ← zsF_eq n]; rfl
noncomputable def Fr.mk (l : List V) (k n : Nat) : Fr := Bool.rec (motive := fun _ => Fr) (Bool.rec (motive := fun _ => Fr) (.c (zfh l (zsF k))) (.b n (fill3 l)) (Nat.ble n 512)) (.a n (zh4 l)) (Nat.ble n 64)
theorem zn1 {l : List V} {k n : Nat} {f : Nat → V} (hn : n = l.length + k) (h : ∀ i, i < n → f i = zdx l i) : (List.range n).map f = l ++ List.replicate k .z := by
 apply List.ext_getElem (by simp [hn])
 intro j h1 h2
 simp only [List.length_map, List.length_range] at h1
 rw [List.getElem_map, List.getElem_range, h j h1, zhd]
 by_cases hj : j < l.length
 · rw [List.getElem?_eq_getElem hj, List.getElem_append_left hj]; rfl
 · rw [List.getElem?_eq_none (by omega), List.getElem_append_right (by omega), List.getElem_replicate]; rfl
theorem mk_l {l : List V} {k n : Nat} (hn : n = l.length + k) : (Fr.mk l k n).l = l ++ List.replicate k .z := by
 unfold Fr.mk
 rw [bleR, bleR]
 split
 · rename_i h
   show (List.range (min n 64)).map _ = _
   rw [Nat.min_eq_left h]
   exact zn1 hn fun i hi => ga_fill (by omega)
 · split
   · rename_i h
     show (List.range (min n 512)).map _ = _
     rw [Nat.min_eq_left h]
     exact zn1 hn fun i hi => gb_fill (by omega)
   · show zfh l (zsF k) = _
     rw [za9, zsF_eq]
noncomputable def Fr.of (l : List V) : Fr := Fr.mk l 0 (zde l)
theorem of_l (l : List V) : (Fr.of l).l = l := by
 unfold Fr.of
 rw [mk_l (by rw [zax]; rfl)]; simp
structure EF where
 e : Fr → V
structure QF where
 q : Fr → Mem → Option V
noncomputable def zeg (x : Operand) : EF :=
 match x with
 | .tmp i => ⟨(acc i).g⟩
 | .const v => ⟨fun _ => ofV v⟩
 | .func f => ⟨fun _ => .f f [] []⟩
 | .global _ => ⟨fun _ => .z⟩
theorem zbk (x : Operand) (t : Fr) : (zeg x).e t = evS t.l x := by cases x <;> simp only [zeg, evS, acc_g]
noncomputable def znp (l : List Operand) : List EF := l.map zeg
noncomputable def evA (t : Fr) (l : List EF) : List V := rmapF (fun x => x.e t) l
theorem evA_eq (t : Fr) (l : List Operand) : evA t (znp l) = l.map (evS t.l) := by
 unfold evA znp
 rw [zho, List.map_map]
 apply List.map_congr_left
 intro x _
 exact zbk x t
noncomputable def kkF (k k' : IntKind) (r : Option V) : Option V := cond (Nat.beq (zaq k) (zaq k')) r none
noncomputable def binIF (op : BinOp) (k k' : IntKind) (x y : Int) : Option V :=
 match op with
 | .add => kkF k k' (some (.u (.i k (wrapF k (addF x y)))))
 | .sub => kkF k k' (some (.u (.i k (wrapF k (subF x y)))))
 | .mul => kkF k k' (some (.u (.i k (wrapF k (x * y)))))
 | .eql => kkF k k' (some (.u (.b (eqF x y))))
 | .neq => kkF k k' (some (.u (.b (not (eqF x y)))))
 | .lss => kkF k k' (some (.u (.b (ltF x y))))
 | .leq => kkF k k' (some (.u (.b (leF x y))))
 | .gtr => kkF k k' (some (.u (.b (ltF y x))))
 | .geq => kkF k k' (some (.u (.b (leF y x))))
 | .shl => cond (leF (.ofNat 0) y) (some (.u (.i k (wrapF k (x * 2 ^ (min y.toNat k.bits)))))) none
 | .shr => cond (leF (.ofNat 0) y) (some (.u (.i k (x.fdiv (2 ^ (min y.toNat k.bits)))))) none
 | op => kkF k k' (absO (intE op k x y))
theorem binIF_eq (P : Program) (op : BinOp) (T : TypeId) (k k' : IntKind) (x y : Int) : binIF op k k' x y = absO (binE P op T (.int k x) (.int k' y)) := by
 have z : Int.ofNat 0 = 0 := rfl
 cases op <;> simp only [binIF, binE, kkF, intE, addF_eq, subF_eq, wrapF_eq, eqF_eq, ltF_eq, leF_eq, z] <;>
  first
   | (cases Nat.beq (zaq k) (zaq k') <;> rfl)
   | (cases decide ((0 : Int) ≤ y) <;> rfl)
noncomputable def binO (P : Program) (m : Mem) (op : BinOp) (T : TypeId) (a b : V) : Option V :=
 match zlv P m T a b with
 | some _ => none
 | none => match arrE P T a b with
   | some c => absO (nilE op c)
   | none => binSE P op T a b
noncomputable def binF (P : Program) (op : BinOp) (T : TypeId) (a b : V) (m : Mem) : Option V :=
 match a with
 | .u (.i k x) => (match b with
   | .u (.i k' y) => binIF op k k' x y
   | b => binO P m op T (.u (.i k x)) b)
 | a => binO P m op T a b
theorem arrE_u (P : Program) (T : TypeId) (u : U) (b : V) : arrE P T (.u u) b = none := by
 unfold arrE
 split <;> first | rfl | (rename_i h; cases h) | (rename_i h1 h2; cases h1)
theorem binF_eq (P : Program) (op : BinOp) (T : TypeId) (a b : V) (m : Mem) : binF P op T a b m = binO P m op T a b := by
 unfold binF
 split
 · split
   · rw [binIF_eq P op T, binO, arrE_u]
     dsimp only [zlv]
     simp only [binSE, conc, zmp]
     cases binE P op T _ _ <;> rfl
   · rfl
 · rfl
noncomputable def cBin (P : Program) (op : BinOp) (T : TypeId) (x y : EF) : QF := ⟨fun t m => binF P op T (x.e t) (y.e t) m⟩
noncomputable def elF {α : Type} (l : List α) (k : Int) : Option α := Int.casesOn (motive := fun _ => Option α) k (fun i => rgetO l i) (fun _ => none)
theorem elF_eq {α : Type} (l : List α) (k : Int) : elF l k = elE l k := by cases k <;> simp only [elF, elE, rgetO_eq]
noncomputable def dUsF (zs : List (Value × Nat)) (l : List U) : Option (List U) :=
 List.rec (motive := fun _ => List U → Option (List U)) (fun _ => some []) (fun z _ ih l => List.casesOn (motive := fun _ => Option (List U)) l none (fun u l' => Option.casesOn (motive := fun _ => Option (List U)) (dUE z (some u)) none
  (fun u1 => Option.casesOn (motive := fun _ => Option (List U)) (ih l') none (fun us => some (u1 :: us))))) zs l
theorem dUE_none (z : Value × Nat) : dUE z none = none := by
 unfold dUE
 split <;> first | rfl | (rename_i h; cases h)
theorem ug_drop : ∀ (r : List U) (o : Nat), ug r o = (r.drop o).head?
 | [], o => by cases o <;> rfl
 | a :: r, 0 => rfl
 | a :: r, o + 1 => by simp only [ug, List.drop_succ_cons]; exact ug_drop r o
theorem dUsF_eq : ∀ (zs : List (Value × Nat)) (r : List U) (o : Nat), dUsF zs (zdz o r) = dUsE zs r o := by
 intro zs r o
 rw [zhq]
 induction zs generalizing o with
 | nil => rfl
 | cons z zs ih =>
   simp only [dUsE, ug_drop]
   have ih' := ih (o + 1)
   cases hd : r.drop o with
   | nil => simp only [List.head?_nil, dUE_none]; rfl
   | cons u l' =>
     have : r.drop (o + 1) = l' := by rw [← List.drop_drop, hd]; rfl
     rw [this] at ih'
     rw [← ih']
     show Option.casesOn (motive := fun _ => Option (List U)) (dUE z (some u)) none (fun u1 => Option.casesOn (motive := fun _ => Option (List U)) (dUsF zs l') none (fun us => some (u1 :: us))) = _
     simp only [List.head?_cons]
     cases dUE z (some u) <;> cases dUsF zs l' <;> rfl
noncomputable def load1F (z : Value × Nat) (a : V) (m : Mem) : Option V :=
 match a with
 | .r b o => match ze9 .x m b with
   | .c cells => match zh8 o cells with
     | some (v :: _) => cond (shOk z v) (some v) none
     | _ => none
   | _ => none
 | .e b sz k o => match ze9 .x m b with
   | .w _ sz' rows => cond (Nat.beq sz sz') (match elF rows k with
     | some r => match dUE z (rgetO r o) with
       | some u => some (.u u)
       | none => none
     | none => none) none
   | .cw _ sz' _ cells => cond (Nat.beq sz sz') (match zh8 (k.toNat * sz + o) cells with
     | some (v :: _) => cond (shOk z v) (some v) none
     | _ => none) none
   | _ => none
 | .q c o => match dUE z (rgetO c o) with
   | some u => some (.u u)
   | none => none
 | a => zjg z a m
theorem load1F_eq (z : Value × Nat) (a : V) (m : Mem) : load1F z a m = zjg z a m := by
 unfold load1F
 split
 · simp only [zjg, zc0, zcq]; rfl
 · simp only [zjg, zc0, elF_eq, zo4, zcq]; rfl
 · simp only [zjg, zo4]; rfl
 · rfl
noncomputable def loadNF (zs : List (Value × Nat)) (n : Nat) (a : V) (m : Mem) : Option V :=
 match a with
 | .r b o => match ze9 .x m b with
   | .c cells => match zh8 o cells with
     | some l => match prefR n l with
       | some vs => cond (shL zs vs) (some (.a vs)) none
       | none => none
     | none => none
   | _ => none
 | .e b sz k o => match ze9 .x m b with
   | .w _ sz' rows => cond (Nat.beq sz sz') (match elF rows k with
     | some r => match dUsF zs (zdz o r) with
       | some us => some (.a (rmapF .u us))
       | none => none
     | none => none) none
   | .cw _ sz' _ cells => cond (Nat.beq sz sz') (match zh8 (k.toNat * sz + o) cells with
     | some l => match prefR n l with
       | some vs => cond (shL zs vs) (some (.a vs)) none
       | none => none
     | none => none) none
   | _ => none
 | .q c o => match dUsF zs (zdz o c) with
   | some us => some (.a (rmapF .u us))
   | none => none
 | a => zjf zs a m
theorem loadNF_eq (zs : List (Value × Nat)) (a : V) (m : Mem) : loadNF zs (zde zs) a m = zjf zs a m := by
 unfold loadNF
 split
 · simp only [zjf, zc0, zcq, zj5, zax]; rfl
 · simp only [zjf, zc0, elF_eq, dUsF_eq, zho, zcq, zj5, zax]; rfl
 · simp only [zjf, dUsF_eq, zho]; rfl
 · rfl
noncomputable def cLoad (P : Program) (T : TypeId) (a : EF) : QF :=
 match zpq P T with
 | some (.one z) => ⟨fun t m => load1F z (a.e t) m⟩
 | some (.many zs) => ⟨fun t m => loadNF zs (zde zs) (a.e t) m⟩
 | none => ⟨fun _ _ => none⟩
theorem cLoad_eq (P : Program) (T : TypeId) (a : EF) (t : Fr) (m : Mem) : (cLoad P T a).q t m = znx P T (a.e t) m := by
 unfold cLoad znx
 cases zpq P T with
 | none => rfl
 | some l => cases l <;> simp only [load1F_eq, loadNF_eq]
noncomputable def ptrAddF (x : V) (n : Nat) : Option V :=
 match x with
 | .r b o => some (.r b (cond (Nat.beq n 0) o (Nat.add o n)))
 | .e b sz k o => some (.e b sz k (cond (Nat.beq n 0) o (Nat.add o n)))
 | .q c o => some (.q c (cond (Nat.beq n 0) o (Nat.add o n)))
 | .u (.p (some c)) => some (.q c n)
 | _ => none
theorem ptrAddF_eq (x : V) (n : Nat) : ptrAddF x n = zlo x n := by
 unfold ptrAddF
 split <;> first | rfl | skip
 rename_i h1 h2 h3 h4
 unfold zlo
 split <;> first | rfl | (exact (h1 _ _ rfl).elim) | (exact (h2 _ _ _ _ rfl).elim) | (exact (h3 _ _ rfl).elim) | (exact (h4 _ rfl).elim)
noncomputable def cFA (P : Program) (T : TypeId) (x : EF) (f : Nat) : QF :=
 match P.underlying T with
 | some (.struct fs) => match fs[f]? with
   | some fd => cond (Nat.beq (zah P fd.type) 0) ⟨fun _ _ => none⟩ ⟨fun t _ => ptrAddF (x.e t) fd.offset⟩
   | none => ⟨fun _ _ => none⟩
 | _ => ⟨fun _ _ => none⟩
theorem q_cond (c : Bool) (f g : Fr → Mem → Option V) (t : Fr) (m : Mem) : (cond c (QF.mk f) (QF.mk g)).q t m = cond c (f t m) (g t m) := by cases c <;> rfl
noncomputable def inB (i : Int) (n : Nat) : Bool := andF (leF (.ofNat 0) i) (ltF i (.ofNat n))
theorem inB_eq (i : Int) (n : Nat) : inB i n = (decide (0 ≤ i) && decide (i < n)) := by
 simp only [inB, zi3, leF_eq, ltF_eq]; rfl
noncomputable def iaSl (s0 : Nat) (i : Int) (x : V) (m : Mem) : Option V :=
 match x with
 | .u (.l s rows) => cond (andF (Nat.beq s s0) (not (Nat.beq s 0))) (match elF rows i with | some r => some (.q r 0) | none => none) none
 | .c s rows => cond (andF (Nat.beq s s0) (not (Nat.beq s 0))) (match elF rows i with | some r => some (.q r 0) | none => none) none
 | .w b => match ze9 .x m b with
   | .w _ sz rows => cond (andF (Nat.beq sz s0) (not (Nat.beq sz 0))) (cond (inB i (zde rows)) (some (.e b sz i 0)) none) none
   | .cw _ sz n _ => cond (andF (Nat.beq sz s0) (not (Nat.beq sz 0))) (cond (inB i n) (some (.e b sz i 0)) none) none
   | _ => none
 | .v b sz l n _ => cond (andF (Nat.beq sz s0) (not (Nat.beq sz 0))) (cond (inB i n) (some (.e b sz (addF (.ofNat l) i) 0)) none) none
 | .sl b o n => cond (Nat.beq s0 0) none (match i with
   | .ofNat j => cond (Nat.ble (Nat.succ j) n) (some (.r b (Nat.add o (Nat.mul j s0)))) none
   | .negSucc _ => none)
 | _ => none
noncomputable def iaAr (n s0 : Nat) (i : Int) (x : V) (m : Mem) : Option V :=
 match x with
 | .r b o => match ze9 .x m b with
   | .c cells => match zh8 o cells with
     | some (.n _ w _ :: _) => cond (andF (Nat.beq w n) (Nat.beq s0 1)) (cond (inB i n) (some (.g b o w i)) none) none
     | some _ => match i with
       | .ofNat j => cond (Nat.ble (Nat.succ j) n) (cond (Nat.beq s0 0) none (some (.r b (Nat.add o (Nat.mul j s0))))) none
       | .negSucc _ => none
     | none => none
   | _ => none
 | .q c o => cond (Nat.beq s0 0) none (match i with
   | .ofNat j => cond (Nat.ble (Nat.succ j) n) (some (.q c (Nat.add o (Nat.mul j s0)))) none
   | .negSucc _ => none)
 | .e b sz k o => cond (Nat.beq s0 0) none (match i with
   | .ofNat j => cond (Nat.ble (Nat.succ j) n) (some (.e b sz k (Nat.add o (Nat.mul j s0)))) none
   | .negSucc _ => none)
 | _ => none
noncomputable def onI (i : V) (f : Int → Option V) : Option V :=
 match i with
 | .u (.i _ i) => f i
 | _ => none
noncomputable def cIA (P : Program) (T : TypeId) (x i : EF) : QF :=
 match P.underlying T with
 | some (.slice e) => ⟨fun t m => onI (i.e t) fun i => iaSl (zah P e) i (x.e t) m⟩
 | some (.array n e) => ⟨fun t m => onI (i.e t) fun i => iaAr n (zah P e) i (x.e t) m⟩
 | _ => ⟨fun _ _ => none⟩
noncomputable def cField (P : Program) (T : TypeId) (x : EF) (f : Nat) : QF :=
 match P.underlying T with
 | some (.struct fs) => match fs[f]? with
   | some fd => match zpq P fd.type with
     | some (.one z) => ⟨fun t _ => match x.e t with
       | .a l => match zh8 fd.offset l with
         | some (v :: _) => cond (shOk z v) (some v) none
         | _ => none
       | _ => none⟩
     | some (.many zs) => ⟨fun t _ => match x.e t with
       | .a l => match zh8 fd.offset l with
         | some l => match prefR (zde zs) l with
           | some vs => some (.a vs)
           | none => none
         | none => none
       | _ => none⟩
     | none => ⟨fun _ _ => none⟩
   | none => ⟨fun _ _ => none⟩
 | _ => ⟨fun _ _ => none⟩
noncomputable def nilF (x : V) : Option V :=
 match x with
 | .u (.p (some c)) => some (.q c 0)
 | .f g a c => some (.f g a c)
 | x => cond (zjt x) (some x) none
noncomputable def extF (x : V) (i : Nat) : Option V :=
 match x with
 | .t l => cond (Nat.ble (Nat.succ i) (zde l)) (some (ze9 .z l i)) none
 | _ => none
noncomputable def cQ (P : Program) (o : Oper) : QF :=
 match o.op with
 | .move x => ⟨fun t _ => some ((zeg x).e t)⟩
 | .assign x => ⟨fun t _ => some ((zeg x).e t)⟩
 | .pick c a b => ⟨fun t _ => pickE ((zeg c).e t) ((zeg a).e t) ((zeg b).e t)⟩
 | .nilCheck x => ⟨fun t _ => nilF ((zeg x).e t)⟩
 | .binOp op T x y _ => cBin P op T (zeg x) (zeg y)
 | .load T a => cLoad P T (zeg a)
 | .fieldAddr T x f => cFA P T (zeg x) f
 | .field T x f => cField P T (zeg x) f
 | .indexAddr T x i => cIA P T (zeg x) (zeg i)
 | .extract x i => ⟨fun t _ => extF ((zeg x).e t) i⟩
 | _ => ⟨fun t m => zfi P t.l m o⟩
theorem cQ_eq (P : Program) (o : Oper) (t : Fr) (m : Mem) : (cQ P o).q t m = zfi P t.l m o := by
 obtain ⟨dst, op, ty, pos, after, guard⟩ := o
 cases op <;> simp only [cQ, zfi, zbk] <;> try rfl
 case binOp op' S x y yt =>
  show binF P op' S ((zeg x).e t) ((zeg y).e t) m = _
  rw [binF_eq, zbk, zbk]; rfl
 case load S a => rw [cLoad_eq, zbk]
 case fieldAddr S x f =>
  unfold cFA
  cases hu : P.underlying S with
  | none => rfl
  | some d =>
    cases d <;> dsimp only <;> try rfl
    rename_i fs
    cases hf : fs[f]? with
    | none => rfl
    | some fd => dsimp only; rw [q_cond]; simp only [ptrAddF_eq, zbk]
 case field S x f =>
  unfold cField
  cases hu : P.underlying S with
  | none => rfl
  | some d =>
    cases d <;> dsimp only <;> try rfl
    rename_i fs
    cases hf : fs[f]? with
    | none => dsimp only; cases evS t.l x <;> first | rfl | simp only [hf]
    | some fd =>
      dsimp only
      cases hl : zpq P fd.type with
      | none => dsimp only; cases evS t.l x <;> first | rfl | simp only [hf, hl]
      | some l =>
        cases l <;> simp only [zbk, zcq, zj5, zax] <;> cases evS t.l x <;> try rfl
        all_goals
         rename_i l
         simp only [hf, hl]
         rcases zb7 fd.offset l with _ | (_ | ⟨_, _⟩) <;> rfl
 case indexAddr S x i =>
  unfold cIA
  cases hu : P.underlying S with
  | none => dsimp only; cases evS t.l i <;> try rfl
            rename_i u; cases u <;> rfl
  | some d =>
    cases d
    case slice e =>
     simp only [zbk, onI]
     cases evS t.l i <;> try rfl
     rename_i u
     cases u <;> try rfl
     simp only [iaSl, zi3, elF_eq, inB_eq, zax, zc0, addF_eq]
     cases evS t.l x
     case u u => cases u <;> rfl
     case nl s =>
      rename_i nn
      simp only [asD]
      cases nn <;> (simp only [elE, List.getElem?_nil]; cases (Nat.beq s (zah P e) && !Nat.beq s 0) <;> rfl)
     all_goals rfl
    case array n e =>
     simp only [zbk, onI]
     cases evS t.l i <;> try rfl
     rename_i u
     cases u <;> try rfl
     simp only [iaAr, zi3, inB_eq, zc0, zcq]
     cases evS t.l x <;> rfl
    all_goals
     first | done | (cases evS t.l i <;> (try rfl) <;> (rename_i u; cases u <;> rfl))
 case extract x i =>
  unfold extF
  simp only [zax, zej]; rfl
noncomputable def binsF (P : Program) (op : BinOp) (T : TypeId) (a b : V) (m : Mem) : Option (List V) :=
 match b with
 | .nl s => (match zlv P m T a (.nl s) with
   | some r => nilsE op r
   | none => one1 (binF P op T a (.nl s) m))
 | b => one1 (binF P op T a b m)
theorem binsF_eq (P : Program) (op : BinOp) (T : TypeId) (x y : Operand) (yt : TypeId) (t : Fr) (m : Mem) {dst : Option Tmp} {ty : TypeId} {pos : String} {after : Array Edge} {guard : Option (Nat × Bool)} :
 binsF P op T ((zeg x).e t) ((zeg y).e t) m = zij P t.l m ⟨dst, .binOp op T x y yt, ty, pos, after, guard⟩ := by
 rw [zbk, zbk]
 unfold zij
 dsimp only
 have hq : zfi P t.l m ⟨dst, .binOp op T x y yt, ty, pos, after, guard⟩ = binF P op T (evS t.l x) (evS t.l y) m := by
  rw [binF_eq]; unfold zfi binO; rfl
 rw [hq]
 unfold binsF
 split
 · rename_i s hs
   rw [hs]
   cases zlv P m T (evS t.l x) (.nl s) with
   | some r => rfl
   | none => dsimp only; cases binF P op T (evS t.l x) (.nl s) m <;> rfl
 · rename_i b hb
   have : zlv P m T (evS t.l x) (evS t.l y) = none := by
    unfold zlv
    split
    · rename_i s hs; exact (hb s hs).elim
    · rfl
   rw [this]
   dsimp only
   cases binF P op T (evS t.l x) (evS t.l y) m <;> rfl
theorem ms_set (m : Mem) (b : Nat) (a : AB) : ms m b a = m.set b a := by rw [← rset_ms, zgu]
structure XF where
 r : List Nat → Fr → Mem → Option (V × Mem)
noncomputable def storeF (P : Program) (zs : List (Value × Nat)) (T : TypeId) (ro : List Nat) (a x : V) (m : Mem) : Option Mem :=
 match zd2 P T x with
 | some xs => cond (andF (shL zs xs) (zns P T (zdb P T x))) (match a with
   | .r b o => cond (inR ro b) none (match ze9 .x m b with
     | .c cells => match putR xs o cells with
       | some l => some (znh m b (.c l))
       | none => none
     | _ => none)
   | .g b o w k => cond (inR ro b) none (match ze9 .x m b, xs with
     | .c cells, [.u (.i .i64 y)] => match zh8 o cells with
       | some (.n k' w' l :: _) => cond (andF (Nat.beq w w') (Nat.beq (zaq k') 3)) (match putR [.n .i64 w (znh l k.toNat y)] o cells with
         | some l => some (znh m b (.c l))
         | none => none) none
       | _ => none
     | _, _ => none)
   | .e b sz k o => cond (inR ro b) none (match ze9 .x m b with
     | .cw E sz' n cells => cond (Nat.beq sz sz') (match putR xs (k.toNat * sz + o) cells with
       | some l => some (znh m b (.cw E sz n l))
       | none => none) none
     | .w E sz' rows => cond (znm m xs) (cond (Nat.beq sz sz') (match putR xs (k.toNat * sz + o) (rows.flatten.map V.u) with
      | some l => some (znh m b (.cw E sz rows.length l))
      | none => none) none) (match toUs ro m xs with
      | some (us, m1) => match ze9 .x m1 b with
        | .w E sz' rows => cond (Nat.beq sz sz') (cond (andF (Nat.beq o 0) (Nat.beq (zde us) sz)) (some (znh m1 b (.w E sz (znh rows k.toNat us))))
         (cond (Nat.ble (o + us.length) sz) (match elF rows k with
          | some r => some (znh m1 b (.w E sz (znh rows k.toNat (usp r o us))))
          | none => none) none)) none
        | _ => none
      | none => none)
     | _ => none)
   | _ => none) none
 | none => none
noncomputable def cStore (P : Program) (T : TypeId) (a x : EF) : XF :=
 match zbh P T with
 | some zs => ⟨fun ro t m => withM .z (storeF P zs T ro (a.e t) (x.e t) m)⟩
 | none => ⟨fun _ _ _ => none⟩
theorem cStore_eq (P : Program) (T : TypeId) (a x : EF) (ro : List Nat) (t : Fr) (m : Mem) : (cStore P T a x).r ro t m = withM .z (zlf P ro T (a.e t) (x.e t) m) := by
 unfold cStore zlf
 cases zbh P T with
 | none => rfl
 | some zs =>
   dsimp only
   unfold storeF
   cases zd2 P T (x.e t) with
   | none => rfl
   | some xs =>
     dsimp only
     simp only [zi3, inR_eq, zc0, putR_eq, zcq, ms_set, zgu, zax, elF_eq]
     rfl
noncomputable def appF (P : Program) (s0 : Nat) (e : TypeId) (ro : List Nat) (x y : V) (m : Mem) : Option (V × Mem) :=
 match y with
  | .nl _ => (match x with
    | .nl s => some (.nl s, m)
    | .u (.l s r) => some (.u (.l s r), m)
    | .c s r => some (.c s r, m)
    | .v b sz l n c => some (.v b sz l n c, m)
    | _ => none)
  | y => (match srcS m y with
    | some (s, new) => cond (Nat.beq s s0) (match x with
      | .nl _ => cond (Nat.ble (Nat.add 0 (zde new)) 1000000) (some (.w (zde m), zfh m [.w e s new])) none
      | .w b => cond (inR ro b) none (match ze9 .x m b with
        | .w e' s' rows => cond (andF (Nat.beq e e') (Nat.beq s s')) (cond (Nat.ble (Nat.add (zde rows) (zde new)) 1000000) (some (.w (zde m), zfh (znh m b .x) [.w e s (zfh rows new)])) none) none
        | _ => none)
      | .c s' rows => cond (Nat.beq s s') (cond (Nat.ble (Nat.add (zde rows) (zde new)) 1000000) (match new with
        | _ :: _ => some (.w (zde m), zfh m [.w e s (zfh rows new)])
        | [] => some (.c s rows, m)) none) none
      | .v b s' l n c => cond (Nat.beq s s') (match ze9 .x m b with
        | .w e' s2 rows => cond (andF (Nat.beq e e') (Nat.beq s2 s)) (match new with
          | [] => some (.v b s' l n c, m)
          | _ :: _ => cond c (cond (Nat.ble (Nat.add (zde (rtake n (zdz l rows))) (zde new)) 1000000) (some (.w (zde m), zfh m [.w e s (zfh (rtake n (zdz l rows)) new)])) none)
            (cond (andF (Nat.beq l 0) (not (inR ro b))) (cond (Nat.ble (Nat.add (zde (rtake n rows)) (zde new)) 1000000) (some (.w (zde m), zfh (znh m b .x) [.w e s (zfh (rtake n rows) new)])) none) none)) none
        | _ => none) none
      | _ => none) none
    | none => appCE P ro e x y m)
noncomputable def cApp (P : Program) (T : TypeId) (x y : EF) : XF :=
 match P.underlying T with
 | some (.slice e) => cond (zp1 P T e (zah P e)) ⟨fun ro t m => appF P (zah P e) e ro (x.e t) (y.e t) m⟩ ⟨fun _ _ _ => none⟩
 | _ => ⟨fun _ _ _ => none⟩
theorem cApp_eq (P : Program) (T : TypeId) (x y : EF) (ro : List Nat) (t : Fr) (m : Mem) : (cApp P T x y).r ro t m = appE P ro T (x.e t) (y.e t) m := by
 unfold cApp appE
 cases P.underlying T with
 | none => rfl
 | some d =>
   cases d <;> try rfl
   rename_i e
   dsimp only
   cases zp1 P T e (zah P e)
   · rfl
   · simp only [cond_true]
     unfold appF
     simp only [zi3, inR_eq, zc0, zgu, ms_set, zax, za9, apB, zo1, zhq]
     rfl
noncomputable def cD (P : Program) (o : Oper) : XF :=
 match o.op with
 | .store T a x => cStore P T (zeg a) (zeg x)
 | .box T x => (match bdE P T with
   | none => ⟨fun _ t m => match zd2 P T ((zeg x).e t) with
     | some xs => some (.r (zde m) 0, zfh m [.c xs])
     | none => none⟩
   | some e => ⟨fun _ t m => match zd2 P T ((zeg x).e t) with
     | some xs => some (.r (zde m) 0, zfh m [boxB T e xs])
     | none => none⟩)
 | .alloc T => match (P.info? T).bind (·.zero) with
   | some z => ⟨fun _ _ m => some (.r (zde m) 0, zfh m [newA P T z])⟩
   | none => ⟨fun _ _ _ => none⟩
 | .call c => match c.callee with
   | .builtin .append => match c.args.toList, c.argTypes.toList with
     | [x, y], [T, T'] => cond (Nat.beq T T') (cApp P T (zeg x) (zeg y)) ⟨fun _ _ _ => none⟩
     | _, _ => ⟨fun _ _ _ => none⟩
   | _ => ⟨fun ro t m => effD P ro t.l m o⟩
 | _ => ⟨fun ro t m => effD P ro t.l m o⟩
theorem r_cond (c : Bool) (f g : XF) (ro : List Nat) (t : Fr) (m : Mem) : (cond c f g).r ro t m = cond c (f.r ro t m) (g.r ro t m) := by cases c <;> rfl
theorem cD_eq (P : Program) (o : Oper) (ro : List Nat) (t : Fr) (m : Mem) : (cD P o).r ro t m = effD P ro t.l m o := by
 obtain ⟨dst, op, ty, pos, after, guard⟩ := o
 cases op <;> simp only [cD, effD] <;> try rfl
 case store S a x => rw [cStore_eq, zbk, zbk]
 case box S x =>
  cases bdE P S with
  | none => simp only [zbk, zax, za9]; rfl
  | some e => simp only [zbk, zax, za9]; rfl
 case alloc S =>
  cases (P.info? S).bind (·.zero) with
  | none => rfl
  | some z => simp only [zax, za9]
 case call c =>
  obtain ⟨callee, args, argTypes⟩ := c
  cases callee <;> try rfl
  rename_i b
  cases b <;> try rfl
  dsimp only
  rcases args.toList with _ | ⟨x, _ | ⟨y, _ | ⟨z, l⟩⟩⟩ <;> try rfl
  rcases argTypes.toList with _ | ⟨T, _ | ⟨T', _ | ⟨z, l⟩⟩⟩ <;> try rfl
  dsimp only
  rw [r_cond, cApp_eq, zbk, zbk]
noncomputable def consR (v : V) (acc : List Nat) : List Nat :=
 match v with
 | .u _ => acc
 | .z => acc
 | .r b _ => b :: acc
 | .w b => b :: acc
 | .q _ _ => acc
 | .nl _ => acc
 | .n _ _ _ => acc
 | .c _ _ => acc
 | v => zfh (zae v) acc
theorem consR_eq (v : V) (acc : List Nat) : consR v acc = zae v ++ acc := by
 unfold consR
 split <;> first | (simp only [zae, List.nil_append, List.cons_append]; done) | (rw [za9])
noncomputable def znz (l : List V) : List Nat := List.rec (motive := fun _ => List Nat) [] (fun v _ ih => consR v ih) l
theorem zhp : ∀ l : List V, znz l = zak l
 | [] => by simp only [zak]; rfl
 | v :: l => by simp only [zak]; rw [← zhp l, ← consR_eq]; rfl
noncomputable def zn0 (a : AB) : List Nat :=
 match a with
 | .c l => znz l
 | .cw _ _ _ l => znz l
 | _ => []
theorem refsAF_eq (a : AB) : zn0 a = zci a := by cases a <;> simp only [zn0, zci, zhp]
noncomputable def cloF (m : Mem) (n : Nat) (l acc : List Nat) : List Nat :=
 Nat.rec (motive := fun _ => List Nat → List Nat → List Nat) (fun _ acc => acc)
  (fun _ ih l acc => List.casesOn (motive := fun _ => List Nat) l acc (fun b todo => cond (inR acc b) (ih todo acc) (ih (zfh (zn0 (ze9 .x m b)) todo) (zfh acc [b])))) n l acc
theorem cloF_eq (m : Mem) : ∀ (n : Nat) (l acc : List Nat), cloF m n l acc = clo m n l acc
 | 0, l, acc => by cases l <;> rfl
 | n + 1, [], acc => rfl
 | n + 1, b :: todo, acc => by
   simp only [clo]
   rw [← cloF_eq m n, ← cloF_eq m n, ← inR_eq, ← refsAF_eq, ← zc0, ← za9, ← za9]; rfl
noncomputable def posF (l : List Nat) (b : Nat) : Nat := List.rec (motive := fun _ => Nat → Nat) (fun k => k) (fun x _ ih k => cond (Nat.beq x b) k (ih (Nat.succ k))) l 0
theorem posF_go (b : Nat) : ∀ (l : List Nat) (k : Nat), List.rec (motive := fun _ => Nat → Nat) (fun k => k) (fun x _ ih k => cond (Nat.beq x b) k (ih (Nat.succ k))) l k = zjd l b k
 | [], k => rfl
 | x :: l, k => by simp only [zjd]; rw [← posF_go b l (k + 1)]
theorem posF_eq (l : List Nat) (b : Nat) : posF l b = zjd l b 0 := posF_go b l 0
noncomputable def renF (f : Nat → Nat) (v : V) : V :=
 match v with
 | .u x => .u x
 | .z => .z
 | .r b o => .r (f b) o
 | .w b => .w (f b)
 | .q c o => .q c o
 | .nl s => .nl s
 | .n k w l => .n k w l
 | .c s r => .c s r
 | v => zch f v
theorem renF_eq (f : Nat → Nat) (v : V) : renF f v = zch f v := by
 unfold renF
 split <;> first | (simp only [zch]; done) | rfl
noncomputable def renLF (f : Nat → Nat) (l : List V) : List V := rmapF (renF f) l
theorem zo7 (f : Nat → Nat) : ∀ l : List V, renLF f l = zes f l
 | [] => by simp only [zes]; rfl
 | v :: l => by simp only [zes]; rw [← zo7 f l, ← renF_eq]; rfl
noncomputable def renAF (f : Nat → Nat) (a : AB) : AB :=
 match a with
 | .c l => .c (renLF f l)
 | .cw E s n l => .cw E s n (renLF f l)
 | a => a
theorem renAF_eq (f : Nat → Nat) (a : AB) : renAF f a = renA f a := by cases a <;> simp only [renAF, renA, zo7]
noncomputable def allInF (ix l : List Nat) : Bool := List.rec (motive := fun _ => Bool) true (fun b _ ih => cond (inR ix b) ih false) l
theorem allInF_eq (ix : List Nat) : ∀ l : List Nat, allInF ix l = ze8 ix l
 | [] => rfl
 | b :: l => by
   simp only [ze8]; rw [← allInF_eq ix l, ← inR_eq]
   show cond (inR ix b) (allInF ix l) false = _
   cases inR ix b <;> rfl
noncomputable def belowF (n : Nat) (l : List Nat) : Bool := List.rec (motive := fun _ => Bool) true (fun b _ ih => cond (Nat.ble (Nat.succ b) n) ih false) l
theorem belowF_eq (n : Nat) : ∀ l : List Nat, belowF n l = zia n l
 | [] => rfl
 | b :: l => by
   simp only [zia]; rw [← belowF_eq n l]
   show cond (Nat.ble (b + 1) n) (belowF n l) false = _
   cases Nat.ble (b + 1) n <;> rfl
noncomputable def fmF {α β : Type} (f : α → List β) (l : List α) : List β := List.rec (motive := fun _ => List β) [] (fun a _ ih => zfh (f a) ih) l
theorem fmF_eq {α β : Type} (f : α → List β) : ∀ l : List α, fmF f l = l.flatMap f
 | [] => rfl
 | a :: l => by rw [List.flatMap_cons, ← fmF_eq f l, ← za9]; rfl
noncomputable def zh1 {α : Type} (n : Nat) (K : Nat → α) : α := Nat.rec (motive := fun _ => α) (K 0) (fun k _ => K (Nat.succ k)) n
theorem forceN_eq {α : Type} (n : Nat) (K : Nat → α) : zh1 n K = K n := by cases n <;> rfl
noncomputable def renK {α : Type} (f : Nat → Nat) (v : V) (K : V → α) : α :=
 match v with
 | .u x => K (.u x)
 | .z => K .z
 | .r b o => zh1 (f b) fun b => K (.r b o)
 | .w b => zh1 (f b) fun b => K (.w b)
 | .q c o => K (.q c o)
 | .nl s => K (.nl s)
 | .n k w l => K (.n k w l)
 | .c s r => K (.c s r)
 | .e b s k o => zh1 (f b) fun b => K (.e b s k o)
 | .v b s l n c => zh1 (f b) fun b => K (.v b s l n c)
 | .sl b o n => zh1 (f b) fun b => K (.sl b o n)
 | .m b => zh1 (f b) fun b => K (.m b)
 | v => K (zch f v)
theorem renK_eq {α : Type} (f : Nat → Nat) (v : V) (K : V → α) : renK f v K = K (renF f v) := by
 cases v <;> simp only [renK, renF_eq, zch, forceN_eq]
noncomputable def renLK {α : Type} (f : Nat → Nat) (l : List V) (K : List V → α) : α :=
 List.rec (motive := fun _ => (List V → α) → α) (fun K => K []) (fun v _ ih K => renK f v fun v => ih fun r => K (v :: r)) l K
theorem zo6 {α : Type} (f : Nat → Nat) : ∀ (l : List V) (K : List V → α), renLK f l K = K (renLF f l)
 | [], K => rfl
 | v :: l, K => by
   show renK f v (fun v => renLK f l fun r => K (v :: r)) = _
   rw [renK_eq, zo6 f l]; rfl
noncomputable def renAK {α : Type} (f : Nat → Nat) (a : AB) (K : AB → α) : α :=
 match a with
 | .c l => renLK f l fun l => K (.c l)
 | .cw E s n l => renLK f l fun l => K (.cw E s n l)
 | .w E sz rows => K (.w E sz rows)
 | .o I => K (.o I)
 | .p kt sz ag rows => K (.p kt sz ag rows)
 | .tk => K .tk
 | .x => K .x
theorem renAK_eq {α : Type} (f : Nat → Nat) (a : AB) (K : AB → α) : renAK f a K = K (renAF f a) := by
 cases a <;> simp only [renAK, renAF, zo6]
noncomputable def subK {α : Type} (f : Nat → Nat) (m : Mem) (ix : List Nat) (K : Mem → α) : α :=
 List.rec (motive := fun _ => (Mem → α) → α) (fun K => K []) (fun b _ ih K => renAK f (ze9 .x m b) fun a => ih fun r => K (a :: r)) ix K
theorem subK_eq {α : Type} (f : Nat → Nat) (m : Mem) : ∀ (ix : List Nat) (K : Mem → α), subK f m ix K = K (rmapF (fun b => renAF f (ze9 .x m b)) ix)
 | [], K => rfl
 | b :: ix, K => by
   show renAK f (ze9 .x m b) (fun a => subK f m ix fun r => K (a :: r)) = _
   rw [renAK_eq, subK_eq f m ix]; rfl
noncomputable def forceL {α : Type} (l : List Nat) (K : List Nat → α) : α :=
 List.rec (motive := fun _ => (List Nat → α) → α) (fun K => K []) (fun b _ ih K => zh1 b fun b => ih fun r => K (b :: r)) l K
theorem forceL_eq {α : Type} : ∀ (l : List Nat) (K : List Nat → α), forceL l K = K l
 | [], K => rfl
 | b :: l, K => by
   show zh1 b (fun b => forceL l fun r => K (b :: r)) = _
   rw [forceN_eq, forceL_eq l]
noncomputable def canonF1 (t : List V) (m : Mem) (ix : List Nat) : Option (List V × Mem) :=
 cond (andF (allInF ix (znz t)) (andF (allInF ix (fmF (fun b => zn0 (ze9 .x m b)) ix)) (belowF (zde m) ix))) (renLK (posF ix) t fun t => subK (posF ix) m ix fun m => some (t, m)) none
noncomputable def canonF (n : Nat) (t : List V) (m : Mem) : Option (List V × Mem) :=
 cond (Nat.ble (zde m) (Nat.succ n)) (some (t, m)) (forceL (cloF m 1000 (zfh (znz t) (fmF zn0 (rtake n m))) (List.range n)) fun ix => canonF1 t m ix)
theorem canonF_eq (n : Nat) (t : List V) (m : Mem) : canonF n t m = canonE n t m := by
 have h1 : (zn0 : AB → List Nat) = zci := funext refsAF_eq
 have h2 : ∀ ix : List Nat, posF ix = fun b => zjd ix b 0 := fun ix => funext (posF_eq ix)
 have h3 : ∀ ix : List Nat, allInF ix = ze8 ix := fun ix => funext (allInF_eq ix)
 unfold canonF canonE
 rw [forceL_eq]
 unfold canonF1 canonE.canE
 simp only [zo6, subK_eq]
 simp only [zax, cloF_eq, za9, zhp, fmF_eq, h1, zo1, zi3, h3, belowF_eq, zo7, h2, zho, renAF_eq, zc0, znv, Bool.and_assoc]
abbrev Outs := List (List V × Mem)
theorem canonF_ok {n : Nat} {t : List V} {m : Mem} {r : List V × Mem} {K : List V → Mem → Prop} (h : canonF n t m = some r) (hK : K r.1 r.2) : zc5 n K t m := canonE_ok (by rw [← canonF_eq]; exact h) hK
def canonL (n : Nat) : Outs → Option Outs
 | [] => some []
 | x :: l => match canonE n x.1 x.2, canonL n l with
   | some a, some b => some (a :: b)
   | _, _ => none
theorem canonL_ok {n : Nat} : ∀ {l r : Outs}, canonL n l = some r → ∀ x ∈ l, ∃ y ∈ r, canonE n x.1 x.2 = some y
 | [], r, h, x, hx => by cases hx
 | x :: l, r, h, y, hy => by
   simp only [canonL] at h
   split at h
   · rename_i a b h1 h2
     cases h
     rcases List.mem_cons.1 hy with rfl | hy
     · exact ⟨a, by simp, h1⟩
     · obtain ⟨z, hz, h3⟩ := canonL_ok h2 y hy
       exact ⟨z, by simp [hz], h3⟩
   · cases h
def alike (l : Outs) : Outs :=
 match l with
 | [] => []
 | x :: r => cond (r.all fun y => smVs x.1 y.1 && eqM x.2 y.2) [x] (x :: r)
theorem alike_ok {l : Outs} : ∀ x ∈ l, x ∈ alike l := by
 intro x hx
 cases l with
 | nil => cases hx
 | cons y r =>
   unfold alike
   dsimp only
   cases h : (r.all fun z => smVs y.1 z.1 && eqM y.2 z.2) with
   | false => exact hx
   | true =>
     simp only [cond_true]
     rcases List.mem_cons.1 hx with rfl | hx
     · simp
     · have := List.all_eq_true.1 h x hx
       simp only [Bool.and_eq_true] at this
       have : x = y := Prod.ext (zfd _ _ this.1).symm (eqM_ok this.2).symm
       simp [this]
abbrev zbb := List (Fr × Mem)
noncomputable abbrev frL (x : Fr × Mem) : List V × Mem := (x.1.l, x.2)
noncomputable def ofL (l : Outs) : zbb := l.map fun x => (Fr.of x.1, x.2)
theorem mem_ofL {l : Outs} {y : List V × Mem} (h : y ∈ l) : ∃ x ∈ ofL l, frL x = y := ⟨(Fr.of y.1, y.2), List.mem_map.2 ⟨y, h, rfl⟩, by simp only [frL, of_l]⟩
noncomputable def zjl (n : Nat) (t : Fr) (m : Mem) : Option (Fr × Mem) :=
 Bool.rec (motive := fun _ => Option (Fr × Mem)) (match canonF n t.l m with
  | some (l, m2) => some (Fr.of l, m2)
  | none => none) (some (t, m)) (Nat.ble (zde m) (Nat.succ n))
theorem zh9 {n : Nat} {t : Fr} {m : Mem} {r : Fr × Mem} {K : List V → Mem → Prop} (h : zjl n t m = some r) (hK : K r.1.l r.2) : zc5 n K t.l m := by
 unfold zjl at h
 rw [bleR] at h
 split at h
 · rename_i hb
   cases h
   unfold zc5
   rw [zax] at hb
   rw [Nat.ble_eq_true_of_le hb]
   exact hK
 · split at h
   · rename_i l m2 hc
     cases h
     rw [of_l] at hK
     exact canonF_ok hc hK
   · cases h
noncomputable def agreeF (n : Nat) (l : zbb) : Option zbb :=
 match l with
 | [x] => one1 (zjl n x.1 x.2)
 | l => match canonL n (l.map frL) with
   | some r => some (ofL (alike r))
   | none => none
theorem agreeF_ok {n : Nat} {l r : zbb} {K : List V → Mem → Prop} (h : agreeF n l = some r) (hK : ∀ x ∈ r, K x.1.l x.2) : ∀ x ∈ l, zc5 n K x.1.l x.2 := by
 intro x hx
 unfold agreeF at h
 split at h
 · obtain ⟨y, h1, rfl⟩ := zhv h
   have := List.mem_singleton.1 hx
   subst this
   exact zh9 h1 (hK y (by simp))
 · split at h
   · rename_i r' h1
     cases h
     obtain ⟨y, hy, h2⟩ := canonL_ok h1 (frL x) (List.mem_map.2 ⟨x, hx, rfl⟩)
     obtain ⟨z, hz, rfl⟩ := mem_ofL (alike_ok y hy)
     exact canonE_ok h2 (hK z hz)
   · cases h
noncomputable def bindO {α β : Type} (l : List α) (f : α → Option (List β)) : Option (List β) :=
 List.rec (motive := fun _ => Option (List β)) (some []) (fun x r ih => List.casesOn (motive := fun _ => Option (List β)) r (f x) (fun _ _ => match f x, ih with
  | some a, some b => some (zfh a b)
  | _, _ => none)) l
theorem zqe {α β : Type} {f : α → Option (List β)} : ∀ {l : List α} {r : List β}, bindO l f = some r → ∀ x ∈ l, ∃ a, f x = some a ∧ ∀ y ∈ a, y ∈ r
 | [], r, h, x, hx => by cases hx
 | [y], r, h, x, hx => by
   have := List.mem_singleton.1 hx
   subst this
   exact ⟨r, h, fun y hy => hy⟩
 | y :: z :: l, r, h, x, hx => by
   have h : (match f y, bindO (z :: l) f with | some a, some b => some (zfh a b) | _, _ => none) = some r := h
   split at h
   · rename_i a b h1 h2
     cases h
     rw [za9]
     rcases List.mem_cons.1 hx with rfl | hx
     · exact ⟨a, h1, fun u hu => by simp [hu]⟩
     · obtain ⟨c, h3, h4⟩ := zqe h2 x hx
       exact ⟨c, h3, fun u hu => by simp [h4 u hu]⟩
   · cases h
noncomputable def zfy {α β : Type} (o : Option (List α)) (f : α → Option (List β)) : Option (List β) :=
 match o with
 | some l => bindO l f
 | none => none
theorem zbd {α β : Type} {o : Option (List α)} {f : α → Option (List β)} {r : List β} (h : zfy o f = some r) : ∃ l, o = some l ∧ ∀ x ∈ l, ∃ a, f x = some a ∧ ∀ y ∈ a, y ∈ r := by
 cases o with
 | none => cases h
 | some l => exact ⟨l, rfl, zqe h⟩
structure GF where
 g : Fr → Option (Bool × Fr)
noncomputable def cG (ops : List Oper) (o : Oper) : GF :=
 match zdq ops o with
 | none => ⟨fun t => some (true, t)⟩
 | some (none, _) => ⟨fun t => some (false, t)⟩
 | some (some d, want) => ⟨fun t => match (acc d).g t with
   | .u (.b c) => some (cond c want (not want), (acc d).s t (.u (.b c)))
   | .t [] => some (false, t)
   | _ => none⟩
theorem cG_eq (ops : List Oper) (o : Oper) (t : Fr) : ((cG ops o).g t).map (fun x => (x.1, x.2.l)) = zmd ops o t.l := by
 unfold cG zmd
 rcases zdq ops o with _ | ⟨_ | d, want⟩
 · rfl
 · rfl
 · simp only [acc_g]
   split
   · rename_i c h
     rw [h]; simp only [Option.map_some, acc_s]
   · rename_i h
     rw [h]; rfl
   · rename_i h1 h2
     split
     · rename_i c hc; exact (h1 c hc).elim
     · rename_i hc; exact (h2 hc).elim
     · rfl
theorem zby {ops : List Oper} {o : Oper} {t t' : Fr} {b : Bool} (h : (cG ops o).g t = some (b, t')) : zmd ops o t.l = some (b, t'.l) := by rw [← cG_eq, h]; rfl
structure PF where
 p : Fr → V → Fr
noncomputable def zfx (d : Option Tmp) : PF :=
 match d with
 | some i => ⟨(acc i).s⟩
 | none => ⟨fun t _ => t⟩
theorem za7 (d : Option Tmp) (t : Fr) (v : V) : ((zfx d).p t v).l = znc t.l d v := by
 cases d <;> simp only [zfx, znc, acc_s]
noncomputable def qsF (P : Program) (o : Oper) (t : Fr) (m : Mem) : Option (List V) :=
 match o.op with
 | .binOp op T x y _ => binsF P op T ((zeg x).e t) ((zeg y).e t) m
 | _ => one1 ((cQ P o).q t m)
theorem qsF_eq (P : Program) (o : Oper) (t : Fr) (m : Mem) : qsF P o t m = zij P t.l m o := by
 obtain ⟨dst, op, ty, pos, after, guard⟩ := o
 unfold qsF
 split
 · rename_i op' S x y yt he
   dsimp only at he
   subst he
   exact binsF_eq P op' S x y yt t m
 · rename_i hn
   rw [cQ_eq]
   unfold zij
   split
   · rename_i op' S x y yt he; exact (hn _ _ _ _ _ he).elim
   · cases zfi P t.l m ⟨dst, op, ty, pos, after, guard⟩ <;> rfl
noncomputable def esF (P : Program) (o : Oper) (ro : List Nat) (call : zer) (t : Fr) (m : Mem) : Option Out :=
 match o.op with
 | .call c => match c.callee with
   | .value f => (match (zeg f).e t with
     | .f g a cc => call g (zfh (zfh a (evA t (znp c.args.toList))) cc) m
     | _ => none)
   | _ => one1 ((cD P o).r ro t m)
 | _ => one1 ((cD P o).r ro t m)
theorem esF_eq (P : Program) (o : Oper) (ro : List Nat) (call : zer) (t : Fr) (m : Mem) : esF P o ro call t m = effE P ro call t.l m o := by
 unfold esF effE
 simp only [cD_eq, zbk, evA_eq, za9]
 rfl
abbrev YhE := Nat → List V → Mem → Option Out
structure OsF where
 r : List Nat → zer → YhE → Fr → Mem → Option zbb
noncomputable def detF (P : Program) (o : Oper) (rest : OsF) : OsF :=
 cond (strO P o) ⟨fun ro call yh t m => match strS P t.l m o with
  | some v => rest.r ro call yh ((zfx o.dst).p t v) m
  | none => none⟩ <| cond (zgn o) ⟨fun ro call yh t m => match (cQ P o).q t m with
  | some v => rest.r ro call yh ((zfx o.dst).p t v) m
  | none => none⟩
  ⟨fun ro call yh t m => match (cD P o).r ro t m with
   | some r => rest.r ro call yh ((zfx o.dst).p t r.1) r.2
   | none => none⟩
noncomputable def cStep (P : Program) (o : Oper) (rest : OsF) : OsF :=
 match o.op with
 | .call c => match c.callee with
   | .value f => ⟨fun ro call yh t m => match (zeg f).e t with
     | .y b => zfy (yh b (evA t (znp c.args.toList)) m) fun r => rest.r ro call yh ((zfx o.dst).p t r.1) r.2
     | .f g a cc => zfy (call g (zfh (zfh a (evA t (znp c.args.toList))) cc) m) fun r => rest.r ro call yh ((zfx o.dst).p t r.1) r.2
     | _ => none⟩
   | _ => detF P o rest
 | .binOp op T x y _ => ⟨fun ro call yh t m => zfy (binsF P op T ((zeg x).e t) ((zeg y).e t) m) fun v => rest.r ro call yh ((zfx o.dst).p t v) m⟩
 | _ => detF P o rest
noncomputable def cOps (P : Program) (ops : List Oper) : List Oper → OsF
 | [] => ⟨fun _ _ _ t m => some [(t, m)]⟩
 | o :: rest => match o.guard with
   | none => cStep P o (cOps P ops rest)
   | some _ => ⟨fun ro call yh t m => match (cG ops o).g t with
     | none => none
     | some (false, t') => (cOps P ops rest).r ro call yh ((zfx o.dst).p t' (.t [])) m
     | some (true, t') => (cStep P o (cOps P ops rest)).r ro call yh t' m⟩
def YhOk (yhE : YhE) (yh : Nat → List V → Mem → (V → Mem → Prop) → Prop) : Prop := ∀ {b : Nat} {args : List V} {m : Mem} {rs : Out} {K : V → Mem → Prop}, yhE b args m = some rs → (∀ r ∈ rs, K r.1 r.2) → yh b args m K
theorem os_cond (c : Bool) (f g : OsF) (ro : List Nat) (call : zer) (yh : YhE) (t : Fr) (m : Mem) : (cond c f g).r ro call yh t m = cond c (f.r ro call yh t m) (g.r ro call yh t m) := by cases c <;> rfl
def nextP (P : Program) (ro : List Nat) (call : zb8) (yh : Nat → List V → Mem → (V → Mem → Prop) → Prop) (o : Oper) (F : List V → Mem → Prop) (t : List V) (m : Mem) : Prop :=
 match zbm t o with
 | some (b, args) => yh b args m fun v m' => F (znc t o.dst v) m'
 | none => opS P true ro call t m o fun v m' => F (znc t o.dst v) m'
theorem detF_ok {P : Program} {o : Oper} {rest : OsF} {ro : List Nat} {callE : zer} {call : zb8} {yhE : YhE} {yh : Nat → List V → Mem → (V → Mem → Prop) → Prop} {F : List V → Mem → Prop} {outs : zbb} {t : Fr} {m : Mem} (hy : zbm t.l o = none) (hF : ∀ {t : Fr} {m outs'}, rest.r ro callE yhE t m = some outs' → (∀ x ∈ outs', x ∈ outs) → F t.l m)
 (h : (detF P o rest).r ro callE yhE t m = some outs) : nextP P ro call yh o F t.l m := by
 unfold nextP
 rw [hy]
 dsimp only
 unfold opS
 simp only [cond_true]
 unfold detF at h
 rw [os_cond, os_cond] at h
 cases ho : strO P o with
 | true =>
   rw [ho] at h
   simp only [cond_true] at h
   split at h
   · rename_i v hv
     rw [strP_some ho hv]
     have hk := hF h fun x hx => hx
     rw [za7] at hk
     exact hk
   · cases h
 | false =>
 rw [ho] at h
 simp only [cond_false] at h
 rw [zfc ho]
 dsimp only
 cases hq : zgn o with
 | true =>
   rw [hq] at h
   simp only [cond_true] at h ⊢
   rw [cQ_eq] at h
   split at h
   · rename_i v hv
     have hk := hF h fun x hx => hx
     rw [za7] at hk
     exact zln (K := fun v => F (znc t.l o.dst v) m) hv hk
   · cases h
 | false =>
   rw [hq] at h
   simp only [cond_false] at h ⊢
   rw [cD_eq] at h
   split at h
   · rename_i r hr
     have hk := hF h fun x hx => hx
     rw [za7] at hk
     exact effD_ok (K := fun v m' => F (znc t.l o.dst v) m') hr hk
   · cases h
theorem cStep_ok {P : Program} {o : Oper} {rest : OsF} {ro : List Nat} {callE : zer} {call : zb8} (hcall : zef callE call) {yhE : YhE} {yh : Nat → List V → Mem → (V → Mem → Prop) → Prop} (hyh : YhOk yhE yh) {F : List V → Mem → Prop} {outs : zbb} {t : Fr} {m : Mem}
 (hF : ∀ {t : Fr} {m outs'}, rest.r ro callE yhE t m = some outs' → (∀ x ∈ outs', x ∈ outs) → F t.l m) (h : (cStep P o rest).r ro callE yhE t m = some outs) : nextP P ro call yh o F t.l m := by
 unfold cStep at h
 split at h
 · rename_i c hc
   split at h
   · rename_i f hf
     dsimp only at h
     rw [zbk, evA_eq] at h
     unfold nextP
     split at h
     · rename_i b he
       have : zbm t.l o = some (b, c.args.toList.map (evS t.l)) := by
        unfold zbm; rw [hc]; simp only [hf, he]
       rw [this]
       dsimp only
       obtain ⟨l, h1, h2⟩ := zbd h
       refine hyh h1 fun r hr => ?_
       obtain ⟨a, h3, h4⟩ := h2 r hr
       have hk := hF h3 h4
       rw [za7] at hk
       exact hk
     · rename_i g a cc he
       have : zbm t.l o = none := by
        unfold zbm; rw [hc]; simp only [hf, he]
       rw [this]
       dsimp only
       unfold opS
       have hq : zgn o = false := by
        unfold zgn zcs zll
        rw [hc]
        obtain ⟨ca, aa, ba⟩ := c
        dsimp only at hf
        subst hf
        rfl
       rw [zfc (by unfold strO; rw [hc])]
       simp only [cond_true, hq, cond_false]
       obtain ⟨l, h1, h2⟩ := zbd h
       unfold effS
       rw [hc]
       simp only [hf, he]
       rw [za9, za9] at h1
       refine hcall h1 fun r hr => ?_
       obtain ⟨a, h3, h4⟩ := h2 r hr
       have hk := hF h3 h4
       rw [za7] at hk
       exact hk
     · cases h
   · rename_i hn
     refine detF_ok ?_ hF h
     unfold zbm
     rw [hc]
     dsimp only
     split
     · rename_i f hf; exact (hn _ hf).elim
     · rfl
 · rename_i op' S x y yt hc
   have hy : zbm t.l o = none := by unfold zbm; rw [hc]
   unfold nextP
   rw [hy]
   dsimp only
   unfold opS
   have hq : zgn o = true := by unfold zgn zcs; rw [hc]; rfl
   rw [zfc (by unfold strO; rw [hc])]
   simp only [cond_true, hq]
   dsimp only at h
   obtain ⟨l, h1, h2⟩ := zbd h
   obtain ⟨dst, op, ty, pos, after, guard⟩ := o
   dsimp only at hc
   subst hc
   rw [binsF_eq P op' S x y yt t m (dst := dst) (ty := ty) (pos := pos) (after := after) (guard := guard)] at h1
   refine zii h1 fun v hv => ?_
   obtain ⟨a, h3, h4⟩ := h2 v hv
   have hk := hF h3 h4
   rw [za7] at hk
   exact hk
 · rename_i h1 h2
   refine detF_ok ?_ hF h
   unfold zbm
   split
   · rename_i c hc; exact (h1 _ hc).elim
   · rfl
theorem zg3 {P : Program} {ops : List Oper} {ro : List Nat} {callE : zer} {call : zb8} (hcall : zef callE call) {yhE : YhE} {yh : Nat → List V → Mem → (V → Mem → Prop) → Prop} (hyh : YhOk yhE yh) {K : List V → Mem → Prop} :
 ∀ {l : List Oper} {t : Fr} {m : Mem} {outs : zbb}, (cOps P ops l).r ro callE yhE t m = some outs → (∀ x ∈ outs, K x.1.l x.2) → zea P true ro call yh ops K l t.l m
 | [], t, m, outs, h, hK => by cases h; exact hK (t, m) (by simp)
 | o :: l, t, m, outs, h, hK => by
   simp only [cOps] at h
   simp only [zea]
   have step : ∀ {t' : Fr}, (cStep P o (cOps P ops l)).r ro callE yhE t' m = some outs → nextP P ro call yh o (fun t m => zea P true ro call yh ops K l t m) t'.l m := fun h1 =>
    cStep_ok hcall hyh (fun h2 h3 => zg3 hcall hyh h2 fun x hx => hK x (h3 x hx)) h1
   cases hg : o.guard with
   | none =>
     rw [hg] at h
     have : zmd ops o t.l = some (true, t.l) := by
      unfold zmd zdq
      rw [hg]
     exact zaw this (step h)
   | some g =>
     rw [hg] at h
     dsimp only at h
     split at h
     · cases h
     · rename_i t' hg2
       have hk := zg3 hcall hyh h hK
       rw [za7] at hk
       exact zaw (zby hg2) hk
     · rename_i t' hg2
       exact zaw (zby hg2) (step h)
structure DF where
 r : List Nat → List Nat → (List Nat → zer) → List (Nat × List Nat) → Fr → Mem → Option zbb
noncomputable def conjF (l : List Nat) (f : Nat → Option zbb) : Option zbb := List.casesOn (motive := fun _ => Option zbb) l none (fun _ _ => bindO l f)
noncomputable def srcF (t : Fr) (o : Oper) : List Nat := znz (evA t (znp o.op.operands.toList))
theorem srcF_eq (t : Fr) (o : Oper) : srcF t o = znf t.l o := by rw [srcF, zhp, evA_eq]; rfl
noncomputable def cQd (P : Program) (ops : List Oper) (i : Nat) (o : Oper) (rest : DF) : DF :=
 ⟨fun ro hr call held t m => match (cG ops o).g t with
  | none => none
  | some (true, t') => zfy (qsF P o t' m) fun v => rest.r ro hr call (cond (zjo o) held ((i, srcF t' o) :: held)) ((zfx o.dst).p t' v) m
  | some (false, t') => rest.r ro hr call held ((zfx o.dst).p t' (.t [])) m⟩
noncomputable def cEd (P : Program) (ops : List Oper) (i : Nat) (o : Oper) (rest : DF) : DF :=
 ⟨fun ro hr call held t m => match (cG ops o).g t with
  | none => none
  | some (true, t') => zfy (esF P o (zed ops i held ++ hr ++ ro) (call (zed ops i held ++ hr)) t' m) fun r => rest.r ro hr call held ((zfx o.dst).p t' r.1) r.2
  | some (false, t') => rest.r ro hr call held ((zfx o.dst).p t' (.t [])) m⟩
noncomputable def cDraw (P : Program) (ops : List Oper) : Nat → List Nat → DF
 | 0, _ => ⟨fun _ _ _ _ t m => some [(t, m)]⟩
 | n + 1, done =>
   match zjp ops done with
   | some i => match ops[i]? with
     | none => ⟨fun _ _ _ _ _ _ => none⟩
     | some o => cQd P ops i o (cDraw P ops n (i :: done))
   | none => ⟨fun ro hr call held t m => conjF (zbi ops done) fun i => (match ops[i]? with
     | none => ⟨fun _ _ _ _ _ _ => none⟩
     | some o => cEd P ops i o (cDraw P ops n (i :: done)) : DF).r ro hr call held t m⟩
theorem conjL_of : ∀ {l : List Nat} {F : Nat → Prop}, l ≠ [] → (∀ i ∈ l, F i) → conjL l F
 | [], F, h, _ => absurd rfl h
 | [i], F, _, h => h i (by simp)
 | i :: j :: l, F, _, h => ⟨h i (by simp), conjL_of (by simp) fun k hk => h k (by simp at hk ⊢; right; exact hk)⟩
theorem zgj {P : Program} {ops : List Oper} {ro hr : List Nat} {callE : List Nat → zer} {call : List Nat → zb8} (hcall : ∀ h, zef (callE h) (call h)) {K : List V → Mem → Prop} :
 ∀ {n : Nat} {done : List Nat} {held : List (Nat × List Nat)} {t : Fr} {m : Mem} {outs : zbb}, (cDraw P ops n done).r ro hr callE held t m = some outs → (∀ x ∈ outs, K x.1.l x.2) → zfv P true ro hr call ops K n done held t.l m
 | 0, done, held, t, m, outs, h, hK => by cases h; exact hK (t, m) (by simp)
 | n + 1, done, held, t, m, outs, h, hK => by
   simp only [cDraw] at h
   simp only [zfv]
   cases hq : zjp ops done with
   | some i =>
     rw [hq] at h
     dsimp only at h ⊢
     cases ho : ops[i]? with
     | none => rw [ho] at h; cases h
     | some o =>
       rw [ho] at h
       dsimp only [cQd] at h ⊢
       split at h
       · cases h
       · rename_i t' hg
         refine zaw (zby hg) ?_
         simp only [cond_true]
         obtain ⟨l, h1, h2⟩ := zbd h
         rw [qsF_eq] at h1
         refine zii h1 fun v hv => ?_
         obtain ⟨a, h3, h4⟩ := h2 v hv
         rw [srcF_eq] at h3
         have hk := zgj hcall h3 fun x hx => hK x (h4 x hx)
         rw [za7] at hk
         exact hk
       · rename_i t' hg
         have hk := zgj hcall h hK
         rw [za7] at hk
         exact zaw (zby hg) hk
   | none =>
     rw [hq] at h
     dsimp only at h ⊢
     have hne : zbi ops done ≠ [] := fun e => by rw [e] at h; cases h
     refine conjL_of hne fun i hi => ?_
     have h : bindO (zbi ops done) (fun i => (match ops[i]? with
      | none => (⟨fun _ _ _ _ _ _ => none⟩ : DF)
      | some o => cEd P ops i o (cDraw P ops n (i :: done))).r ro hr callE held t m) = some outs := by
      unfold conjF at h
      cases hr : zbi ops done with
      | nil => exact absurd hr hne
      | cons a b => rw [hr] at h; exact h
     obtain ⟨a, h3, h4⟩ := zqe h i hi
     cases ho : ops[i]? with
     | none => rw [ho] at h3; cases h3
     | some o =>
       rw [ho] at h3
       dsimp only [cEd] at h3 ⊢
       split at h3
       · cases h3
       · rename_i t' hg
         refine zaw (zby hg) ?_
         simp only [cond_true]
         obtain ⟨l, h1, h2⟩ := zbd h3
         rw [esF_eq] at h1
         refine effE_ok (hcall _) h1 fun r hr => ?_
         obtain ⟨a2, h5, h6⟩ := h2 r hr
         have hk := zgj hcall h5 fun x hx => hK x (h4 x (h6 x hx))
         rw [za7] at hk
         exact hk
       · rename_i t' hg
         have hk := zgj hcall h3 fun x hx => hK x (h4 x hx)
         rw [za7] at hk
         exact zaw (zby hg) hk
end Go.Proofs.YtobdpeelaadkbaaGreat
