/- What the functions do, written by program (psv.py) and held against the program by the kernel. -/
import Derived.Test.YtaogfopaalancaaDoorHk2
import Derived.Lib.ConvBytes
import Derived.Laws.BytesString
import Derived.LoopNIn
import Derived.Test.YtaogfopaalancaaDoorProg
/- The symbolic engine, part h: new blocks, append, and all operations. -/
set_option linter.unusedVariables false
namespace Go.Proofs.YtaogfopaalancaaDoor
open Go
variable {P : Program} {D D' : Fz} {ρ : List Loc} {m : Mem} {chs C : List Chunk} {h h' : Heap} {T : List Value} {t : List V} {ro hr : List Nat}
theorem St.mid {c : Chunk} {A B : List Chunk} (S : St D (c :: (A ++ B)) h) : St D (A ++ c :: B) h := S.perm (by simp [List.flatten_append]; exact List.perm_append_comm_assoc _ _ _)
theorem St.unmid {c : Chunk} {A B : List Chunk} (S : St D (A ++ c :: B) h) : St D (c :: (A ++ B)) h := S.perm (by simp [List.flatten_append]; exact List.perm_append_comm_assoc _ _ _)
theorem SAt.new (M : SAt D ρ m chs C h) {c : Chunk} {L : Loc} {ab : AB} (S : St D' (c :: (chs ++ C)) h') (l : Le D D') (he : Ent D' (ρ ++ [L]) L ab c) : SAt D' (ρ ++ [L]) (m ++ [ab]) (chs ++ [c]) C h' := (M.mono l S.mid).push he
theorem newB_S (M : SAt D ρ m chs C h) {vs : List Value} {xs : List V} {e : TypeId} (hc : RpC D ρ vs xs) {K : Nat → Heap → Prop}
 (hK : ∀ b ρ' chs' h', Nx ro hr D ρ m chs D ρ' (m ++ [.c xs]) chs' → SAt D ρ' (m ++ [.c xs]) chs' C h' → Rp D ρ' (.pointer (some ⟨b, 0, none⟩)) (.r m.length 0) → K b h') : newB h (.cells vs.toArray e) K := by
 refine M.st.new fun b h1 S => hK b (ρ ++ [⟨b, none, 0, 0, none⟩]) (chs ++ [_]) h1 (.push M (.refl D)) (M.new S (.refl D) (.c (hc.mono (.refl D) _))) (.r (L := ⟨b, none, 0, 0, none⟩) ?_)
 rw [← M.len]; simp
theorem boxC_S {S : TypeId} {v : Value} {x : V} {xs : List V} (hc : vcells P S x = some xs) (M : SAt D ρ m chs C h) (hv : Rp D ρ v x) {K : Nat → Heap → Prop}
 (hK : ∀ b ρ' chs' h', Nx ro hr D ρ m chs D ρ' (m ++ [.c xs]) chs' → SAt D ρ' (m ++ [.c xs]) chs' C h' → Rp D ρ' (.pointer (some ⟨b, 0, none⟩)) (.r m.length 0) → K b h') : newB h (.cells v.cells S) K := by
 have := vcells_S hc hv
 rw [← Array.toArray_toList (xs := v.cells)]
 exact newB_S M this hK
theorem box_S {S : TypeId} {v : Value} {x : V} {xs : List V} (hc : vcells P S x = some xs) (M : SAt D ρ m chs C h) (hv : Rp D ρ v x) {K : Nat → Heap → Prop}
 (hK : ∀ b ρ' chs' h', Nx ro hr D ρ m chs D ρ' (m ++ [boxA S (bdE P S) xs]) chs' → SAt D ρ' (m ++ [boxA S (bdE P S) xs]) chs' C h' → Rp D ρ' (.pointer (some ⟨b, 0, none⟩)) (.r m.length 0) → K b h') : newB h (.cells v.cells S) K := by
 cases hb : bdE P S with
 | none => rw [hb] at hK; exact boxC_S hc M hv hK
 | some e =>
   rw [hb] at hK
   simp only [boxA] at hK
   unfold boxB at hK
   split at hK
   · have hr := vcells_S hc hv
     have hz' : v.cells = #[.pointer none, .slice none 0 0] := by
      apply Array.ext'
      generalize v.cells.toList = l at hr
      cases hr with
      | cons h1 _ h2 =>
        cases h2 with
        | cons h3 _ h4 =>
          cases h4
          cases h3
          cases h1 with
          | u hr => cases hr; rfl
     rw [hz']
     refine M.st.new fun b h1 S1 => hK b (ρ ++ [⟨b, none, 0, 0, none⟩]) (chs ++ [_]) h1 (.push M (.refl D)) (M.new S1 (.refl D) (.o ⟨fun n hn => absurd hn (by simp), _, .inl rfl, .inl ⟨rfl, rfl⟩⟩)) (.r (L := ⟨b, none, 0, 0, none⟩) ?_)
     rw [← M.len]; simp
   · exact boxC_S hc M hv hK
theorem allocC_S {S : TypeId} {z : Value} (M : SAt D ρ m chs C h) {K : Nat → Heap → Prop}
 (hK : ∀ b ρ' chs' h', Nx ro hr D ρ m chs D ρ' (m ++ [.c (match ofV z with | .a l => normC P S l | x => [normV P S x])]) chs' → SAt D ρ' (m ++ [.c (match ofV z with | .a l => normC P S l | x => [normV P S x])]) chs' C h' → Rp D ρ' (.pointer (some ⟨b, 0, none⟩)) (.r m.length 0) → K b h') : newB h (.cells z.cells S) K := by
 have : RpC D ρ z.cells.toList (match ofV z with | .a l => normC P S l | x => [normV P S x]) := by
  have key : ∀ (y : Value), (∀ cs, y ≠ .agg cs) → RpC D ρ y.cells.toList (match ofV y with | .a l => normC P S l | x => [normV P S x]) := by
   intro y hy
   have h1 := ofV1_S (D := D) (ρ := ρ) y
   have e1 : ofV y = ofV1 y := by cases y <;> first | rfl | exact absurd rfl (hy _)
   have e2 : y.cells.toList = [y] := by cases y <;> first | rfl | exact absurd rfl (hy _)
   rw [e1, e2]
   have h2 := normV_S (P := P) (S := S) h1.1
   have h3 : ∀ l, ofV1 y ≠ .a l := by intro l; unfold ofV1; split <;> simp
   cases hx : ofV1 y <;> first
    | exact absurd hx (h3 _)
    | exact absurd hx (h1.2 _ _ _)
    | (rw [hx] at h2
       refine .cons h2 ?_ .nil
       intro k w l
       unfold normV
       split <;> (try split) <;> simp)
  cases hz : z with
  | agg cs => exact normC_S (ofV1L_S cs.toList)
  | _ => rw [← hz]; exact key z (by rw [hz]; simp)
 rw [← Array.toArray_toList (xs := z.cells)]
 exact newB_S M this hK
theorem alloc_S {S : TypeId} {z : Value} (M : SAt D ρ m chs C h) {K : Nat → Heap → Prop}
 (hK : ∀ b ρ' chs' h', Nx ro hr D ρ m chs D ρ' (m ++ [newA P S z]) chs' → SAt D ρ' (m ++ [newA P S z]) chs' C h' → Rp D ρ' (.pointer (some ⟨b, 0, none⟩)) (.r m.length 0) → K b h') : newB h (.cells z.cells S) K := by
 unfold newA at hK
 split at hK
 · rename_i e hb hz
   have hz' : z.cells = #[.pointer none, .slice none 0 0] := Array.toList_inj.1 hz
   rw [hz']
   refine M.st.new fun b h1 S1 => hK b (ρ ++ [⟨b, none, 0, 0, none⟩]) (chs ++ [_]) h1 (.push M (.refl D)) (M.new S1 (.refl D) (.o ⟨fun n hn => absurd hn (by simp), _, .inl rfl, .inl ⟨rfl, rfl⟩⟩)) (.r (L := ⟨b, none, 0, 0, none⟩) ?_)
   rw [← M.len]; simp
 · exact allocC_S M hK
theorem flat_get {sz : Nat} : ∀ {rows : List (List U)} {i j : Nat} {r : List U} {u : U}, (∀ r ∈ rows, r.length = sz) → rows[i]? = some r → r[j]? = some u → rows.flatten[i * sz + j]? = some u
 | [], i, j, r, u, hs, hi, hj => by simp at hi
 | r0 :: rows, i, j, r, u, hs, hi, hj => by
   rw [List.flatten_cons]
   cases i with
   | zero =>
     simp at hi; subst hi
     have := (List.getElem?_eq_some_iff.1 hj).1
     rw [Nat.zero_mul, Nat.zero_add, List.getElem?_append_left this]; exact hj
   | succ i =>
     have h0 : r0.length = sz := hs r0 (by simp)
     rw [List.getElem?_append_right (by rw [h0, Nat.succ_mul]; omega), h0, show (i + 1) * sz + j - sz = i * sz + j by rw [Nat.succ_mul]; omega]
     exact flat_get (fun r hr => hs r (by simp [hr])) (by simpa using hi) hj
theorem flat_len {sz : Nat} : ∀ {rows : List (List U)}, (∀ r ∈ rows, r.length = sz) → rows.flatten.length = rows.length * sz
 | [], _ => by simp
 | r :: rows, hs => by rw [List.flatten_cons, List.length_append, flat_len (fun r hr => hs r (by simp [hr])), hs r (by simp), List.length_cons, Nat.succ_mul]; omega
theorem Own.ofL {E sz n b : Nat} {l : List Value} {rows : List (List U)} (hr : RdL D l rows.flatten) (hs : ∀ r ∈ rows, r.length = sz) (hn : rows.length = n) (hM : n ≤ 9223372036854775807) : Own D E sz (some ⟨b, 0, none⟩) n rows [(b, .cells l.toArray E (0, 0))] := by
 refine .row b n l.toArray rows (fun i j => l.getD (i * sz + j) undef) ?_ (by omega) hs (fun i j r u hi hj => ?_) (fun i j r u hi hj => ?_)
 · rw [List.size_toArray, hr.len, flat_len hs, hn]
 · obtain ⟨v, hv, -⟩ := hr.get (flat_get hs hi hj)
   simp [hv]
 · obtain ⟨v, hv, h2⟩ := hr.get (flat_get hs hi hj)
   simpa [hv] using h2
theorem RdL.app {a b : List Value} {x y : List U} (h1 : RdL D a x) (h2 : RdL D b y) : RdL D (a ++ b) (x ++ y) := by
 induction h1 with
 | nil => exact h2
 | cons a _ ih => exact .cons a ih
theorem flat_set {sz : Nat} : ∀ {rows : List (List U)} {i : Nat} {us : List U}, (∀ r ∈ rows, r.length = sz) → i < rows.length → us.length = sz → (rows.set i us).flatten = usp rows.flatten (i * sz) us
 | [], i, us, hs, hi, hu => by simp at hi
 | r :: rows, i, us, hs, hi, hu => by
   have h0 : r.length = sz := hs r (by simp)
   have hl := flat_len hs
   have h1 := Nat.mul_le_mul_right sz (show i + 1 ≤ (r :: rows).length from hi)
   rw [Nat.succ_mul] at h1
   rw [usp_eq _ _ _ (by rw [hl, hu]; exact h1)]
   cases i with
   | zero => simp [hu, ← h0]
   | succ i =>
     rw [List.set_cons_succ, List.flatten_cons, flat_set (fun r hr => hs r (by simp [hr])) (by simpa using hi) hu]
     have hl2 := flat_len (rows := rows) (sz := sz) fun r hr => hs r (by simp [hr])
     have h2 := Nat.mul_le_mul_right sz (show i + 1 ≤ rows.length by simp at hi; omega)
     rw [Nat.succ_mul] at h2
     rw [usp_eq _ _ _ (by rw [hl2, hu]; exact h2), List.flatten_cons]
     rw [show (i + 1) * sz = r.length + i * sz by rw [Nat.succ_mul, h0]; omega]
     rw [List.take_append, List.drop_append]
     simp [Nat.add_assoc, h0]
     have e1 : List.take (sz + i * sz) r = r := List.take_of_length_le (by omega)
     have e2 : List.drop (sz + (i * sz + us.length)) r = [] := List.drop_eq_nil_of_le (by omega)
     rw [e1, e2, List.nil_append]
theorem splice_rd {l vs : List Value} {x us : List U} (h1 : RdL D l x) (h2 : RdL D vs us) {o : Nat} (ho : o + us.length ≤ x.length) : RdL D (splice l o vs) (usp x o us) := by
 have hl := h1.len
 have hv := h2.len
 have e : splice l o vs = l.take o ++ vs ++ l.drop (o + vs.length) := by
  apply List.ext_getElem?
  intro j
  rw [splice_get _ _ _ _ (by omega)]
  have hlo : (l.take o).length = o := by simp; omega
  split
  · rename_i hj; rw [List.append_assoc, List.getElem?_append_left (by omega), List.getElem?_take_of_lt hj]
  · split
    · rw [List.append_assoc, List.getElem?_append_right (by omega), hlo, List.getElem?_append_left (by omega)]
    · rw [List.getElem?_append_right (by simp; omega), List.getElem?_drop]
      congr 1
      simp [hlo]; omega
 rw [e, usp_eq _ _ _ ho, hv]
 exact ((h1.split o).1.app h2).app (h1.split _).2
theorem rowsOf_S {e : TypeId} {sz : Nat} (hsz : lay1 P e = sz) : ∀ {ps : List (Nat × V)} {pv : List (Nat × Value)} {rows rows' : List (List U)} {m m' : Mem} {D : Fz} {chs : List Chunk} {l : List Value}, rowsOf P (hr ++ ro) e rows m ps = some (rows', m') → SAt D ρ m chs C h →
 RdL D l rows.flatten → (∀ r ∈ rows, r.length = sz) → pv.map (·.1) = ps.map (·.1) → RpL D ρ (pv.map (·.2)) (ps.map (·.2)) →
 ∃ D' chs' l', Nx ro hr D ρ m chs D' ρ m' chs' ∧ SAt D' ρ m' chs' C h ∧ RdL D' l' rows'.flatten ∧ (∀ r ∈ rows', r.length = sz) ∧ rows'.length = rows.length ∧ fillL (fun j => some (j * sz, sz)) l pv = some l'
 | [], pv, rows, rows', m, m', D, chs, l, hs, M, hl, hrs, h1, h2 => by
   cases pv with
   | nil => cases hs; exact ⟨D, chs, l, .refl, M, hl, hrs, rfl, rfl⟩
   | cons _ _ => simp at h1
 | (i, x) :: ps, pv, rows, rows', m, m', D, chs, l, hs, M, hl, hrs, h1, h2 => by
   cases pv with
   | nil => simp at h1
   | cons p pv =>
     obtain ⟨i', v⟩ := p
     simp only [List.map_cons, List.cons.injEq] at h1
     obtain ⟨rfl, h1⟩ := h1
     cases h2 with
     | cons hv h2 =>
       have hv : Rp D ρ v x := hv
       simp only [rowsOf] at hs
       split at hs
       · rename_i xs hxs
         split at hs
         · rename_i us m1 hu
           cases hb : (Nat.beq us.length (lay1 P e) && Nat.ble (i' + 1) rows.length) with
           | false => rw [hb] at hs; cases hs
           | true =>
             rw [hb] at hs
             simp only [cond_true] at hs
             simp only [Bool.and_eq_true] at hb
             have hul := Nat.eq_of_beq_eq_true hb.1
             rw [hsz] at hul
             have hi := Nat.le_of_ble_eq_true hb.2
             obtain ⟨D1, c1, n1, M1, r1⟩ := toUs_S hu M (vcells_S hxs hv)
             have hfl := flat_len hrs
             have hle : i' * sz + us.length ≤ rows.flatten.length := by
              have := Nat.mul_le_mul_right sz hi
              rw [Nat.succ_mul] at this
              omega
             have hl1 := splice_rd (hl.mono n1.le) r1 hle
             rw [← flat_set hrs hi hul] at hl1
             obtain ⟨D2, c2, l', n2, M2, r2, g1, g2, g3⟩ := rowsOf_S hsz hs M1 hl1 (fun r hr => by
              rcases List.mem_or_eq_of_mem_set hr with hr | rfl
              · exact hrs r hr
              · exact hul) h1 (n1.rpL h2)
             refine ⟨D2, c2, l', n1.trans n2, M2, r2, g1, by simpa using g2, ?_⟩
             have hvl := r1.len
             have hll := hl.len
             have e1 : Nat.beq v.cells.toList.length sz = true := by rw [hvl, hul]; exact Nat.beq_refl _
             simp only [fillL, e1, Nat.ble_eq_true_of_le (show i' * sz + v.cells.toList.length ≤ l.length by omega), Bool.and_self, cond_true]
             exact g3
         · cases hs
       · cases hs
theorem zrow_S {e : TypeId} {zr : List U} (hz : zrow P e = some zr) : ∃ i z, P.info? e = some i ∧ i.zero = some z ∧ RdL D z.cells.toList zr := by
 unfold zrow at hz
 cases hi : P.info? e with
 | none => rw [hi] at hz; simp at hz
 | some i =>
   rw [hi] at hz
   cases hzz : i.zero with
   | none => simp [hzz] at hz
   | some z =>
     simp only [Option.bind_some, hzz] at hz
     exact ⟨i, z, rfl, hzz, RpC.toU (ρ := []) hz (fixN_S (ofV1L_S _))⟩
theorem rep_list (z : Array Value) (n sz : Nat) (hz : z.size = sz) : (List.range (n * sz)).map (fun j => z[j % z.size]!) = (List.replicate n z.toList).flatten := by
 induction n with
 | zero => simp
 | succ n ih =>
   have hl : (List.replicate n z.toList).flatten.length = n * sz := by simp [hz]
   rw [Nat.succ_mul, List.range_add, List.map_append, ih, List.replicate_succ', List.flatten_append, List.flatten_singleton, List.map_map]
   congr 1
   apply List.ext_getElem (by simp [hz])
   intro j h1 h2
   have hj : j < z.size := by simpa using h2
   simp [hz]
   rw [Nat.mod_eq_of_lt (by omega)]
   simp [hj]
theorem rep_rd {z : List Value} {zr : List U} (hz : RdL D z zr) : ∀ n, RdL D (List.replicate n z).flatten (List.replicate n zr).flatten
 | 0 => .nil
 | n + 1 => by rw [List.replicate_succ, List.replicate_succ, List.flatten_cons, List.flatten_cons]; exact hz.app (rep_rd hz n)
theorem Own.takeN {E sz c n : Nat} {a : Option Addr} {rows : List (List U)} {ch : Chunk} (x : Own D E sz a c rows ch) : Own D E sz a c (rows.take n) ch := by
 cases x with
 | nil => rw [List.take_nil]; exact .nil _
 | row b c arr rows v h1 h2 h3 h4 h5 =>
   have key : ∀ {i : Nat} {r : List U}, (rows.take n)[i]? = some r → rows[i]? = some r := fun hi => by
    rw [List.getElem?_take] at hi
    split at hi
    · exact hi
    · cases hi
   exact .row b c arr _ v h1 (by rw [List.length_take]; omega) (fun r hr => h3 r (List.mem_of_mem_take hr)) (fun i j r u hi hj => h4 i j r u (key hi) hj) fun i j r u hi hj => h5 i j r u (key hi) hj
theorem flat_getV {zs : List Value} {sz j : Nat} (hz : zs.length = sz) (hj : j < sz) : ∀ {n i : Nat}, i < n → (List.replicate n zs).flatten[i * sz + j]? = zs[j]?
 | 0, i, h => by omega
 | n + 1, 0, h => by rw [List.replicate_succ, List.flatten_cons, Nat.zero_mul, Nat.zero_add, List.getElem?_append_left (by omega)]
 | n + 1, i + 1, h => by
   rw [List.replicate_succ, List.flatten_cons, List.getElem?_append_right (by rw [Nat.succ_mul]; omega), show (i + 1) * sz + j - zs.length = i * sz + j by rw [Nat.succ_mul]; omega]
   exact flat_getV hz hj (by omega)
theorem flat_lenV {zs : List Value} {sz : Nat} (hz : zs.length = sz) (n : Nat) : (List.replicate n zs).flatten.length = n * sz := by
 induction n with
 | zero => simp
 | succ n ih => rw [List.replicate_succ, List.flatten_cons, List.length_append, ih, hz, Nat.succ_mul, Nat.add_comm]
theorem Own.fill {E sz c l n : Nat} {a : Option Addr} {rows : List (List U)} {zr : List U} {zs : List Value} {ch : Chunk} (x : Own D E sz a c rows ch) (S : St D (ch :: C) h) (hz : RdL D zs zr) (hzl : zs.length = sz) (hn : 0 < n) (hln : l + n ≤ rows.length) {K' : Heap → Prop}
 (hK : ∀ ch' h', Own D E sz a c (rows.take l ++ (List.replicate n zr ++ rows.drop (l + n))) ch' → St D (ch' :: C) h' → K' h') : ∃ b, a = some ⟨b, 0, none⟩ ∧ storeS b (l * sz) (List.replicate n zs).flatten 0 h K' := by
 cases x with
 | nil => simp at hln; omega
 | row b c arr rows v h1 h2 h3 h4 h5 =>
   refine ⟨b, rfl, ?_⟩
   obtain ⟨L⟩ := arr
   have hL : L.length = c * sz := by simpa using h1
   have hfl := flat_lenV hzl n
   have hle : (l + n) * sz ≤ L.length := by rw [hL]; exact Nat.mul_le_mul_right _ (by omega)
   rw [Nat.add_mul] at hle
   refine S.st0 (Nat.ble_eq_true_of_le (by rw [hfl]; omega)) (List.all_eq_true.2 fun u hu => ?_) fun h' S' => ?_
   · obtain ⟨r, hr, hu⟩ := List.mem_flatten.1 hu
     rw [List.eq_of_mem_replicate hr] at hu
     exact hz.single u hu
   · have hlen : (rows.take l ++ (List.replicate n zr ++ rows.drop (l + n))).length = rows.length := by simp; omega
     refine hK _ h' (.row b c _ _ (fun i j => if i < l then v i j else if i < l + n then zs.getD j undef else v i j) ?_ (by rw [hlen]; exact h2) ?_ ?_ ?_) S'
     · simp only [List.size_toArray, splice_length]; exact hL
     · intro r hr
       rcases List.mem_append.1 hr with hr | hr
       · exact h3 r (List.mem_of_mem_take hr)
       · rcases List.mem_append.1 hr with hr | hr
         · rw [List.eq_of_mem_replicate hr, ← hz.len, hzl]
         · exact h3 r (List.mem_of_mem_drop hr)
     · intro i j r u hi hj
       have hlen2 : (rows.take l).length = l := by rw [List.length_take]; omega
       simp only [List.getElem?_toArray]
       rw [splice_get _ _ _ _ (by rw [hfl]; omega), hfl]
       by_cases hi1 : i < l
       · rw [List.getElem?_append_left (by omega), List.getElem?_take, if_pos hi1] at hi
         have hjs : j < sz := by rw [← h3 r (List.mem_of_getElem? hi)]; exact (List.getElem?_eq_some_iff.1 hj).1
         have : i * sz + j < l * sz := by have := Nat.mul_le_mul_right sz (show i + 1 ≤ l by omega); rw [Nat.succ_mul] at this; omega
         rw [if_pos (by omega), if_pos hi1]
         simpa using h4 i j r u hi hj
       · rw [List.getElem?_append_right (by omega), hlen2] at hi
         have hge : l * sz ≤ i * sz := Nat.mul_le_mul_right _ (by omega)
         rw [if_neg (by omega), if_neg hi1]
         by_cases hi2 : i < l + n
         · rw [List.getElem?_append_left (by simp; omega)] at hi
           have hr := List.mem_of_getElem? hi
           have := List.eq_of_mem_replicate hr
           subst this
           have hjs : j < sz := by rw [← hzl, hz.len]; exact (List.getElem?_eq_some_iff.1 hj).1
           have hlt : i * sz + j < l * sz + n * sz := by have := Nat.mul_le_mul_right sz (show i + 1 ≤ l + n by omega); rw [Nat.succ_mul, Nat.add_mul] at this; omega
           rw [if_pos (by omega), if_pos hi2]
           have e1 : i * sz + j - (l * sz + 0) = (i - l) * sz + j := by rw [Nat.sub_mul]; omega
           rw [e1]
           rw [flat_getV hzl hjs (by omega)]
           have : j < zs.length := by omega
           rw [List.getElem?_eq_getElem this, List.getD_eq_getElem?_getD, List.getElem?_eq_getElem this]; rfl
         · rw [List.getElem?_append_right (by simp; omega), List.getElem?_drop] at hi
           have e : l + n + (i - l - (List.replicate n zr).length) = i := by simp; omega
           rw [e] at hi
           have hge2 : l * sz + n * sz ≤ i * sz := by have := Nat.mul_le_mul_right sz (show l + n ≤ i by omega); rw [Nat.add_mul] at this; omega
           rw [if_neg (by omega), if_neg hi2]
           simpa using h4 i j r u hi hj
     · intro i j r u hi hj
       have hlen2 : (rows.take l).length = l := by rw [List.length_take]; omega
       by_cases hi1 : i < l
       · rw [List.getElem?_append_left (by omega), List.getElem?_take, if_pos hi1] at hi
         simp only [if_pos hi1]; exact h5 i j r u hi hj
       · rw [List.getElem?_append_right (by omega), hlen2] at hi
         simp only [if_neg hi1]
         by_cases hi2 : i < l + n
         · rw [List.getElem?_append_left (by simp; omega)] at hi
           have := List.eq_of_mem_replicate (List.mem_of_getElem? hi)
           subst this
           simp only [if_pos hi2]
           obtain ⟨w, hw, hr⟩ := hz.get hj
           rw [List.getD_eq_getElem?_getD, hw]; exact hr
         · rw [List.getElem?_append_right (by simp; omega), List.getElem?_drop] at hi
           have e : l + n + (i - l - (List.replicate n zr).length) = i := by simp; omega
           rw [e] at hi
           simp only [if_neg hi2]; exact h5 i j r u hi hj
theorem app_capS {S E sz : Nat} {a a2 : Option Addr} {m n cx : Nat} {r r2 : List (List U)} {CC : List Chunk} {K : Value → Heap → Prop} (ty : ElTy P S E sz) (hn : n = r.length) (src1 : Src D h sz a r) (M : St D CC h) (src : Src D h sz a2 r2) (hm : m = r2.length) (hne : r2 ≠ []) (hb : r.length + r2.length ≤ 1000000)
 (hK : ∀ a' c' ch' h', Own D E sz a' c' (r ++ r2) ch' → St D (ch' :: CC) h' → K (.slice a' (r ++ r2).length c') h') : appK P #[S, S] S (.slice a n n) (.slice a2 m cx) h K := by
 obtain ⟨hu, i, z, hi, hsz, hby, hby2, hz, hzs⟩ := ty
 subst hm hn
 subst hsz
 obtain ⟨hs1, hsrc1⟩ := src1
 obtain ⟨hs2, hsrc2⟩ := src
 obtain ⟨b2, o2, w2, rfl, hw2⟩ := hsrc2.resolve_left hne
 have hpos : 0 < r2.length := List.length_pos_iff.2 hne
 have new : ∀ j v, (cellsOf r2.length i.size w2)[j]? = some v → hcell h ⟨b2, o2 + j, none⟩ = some v := fun j x hx => by
  obtain ⟨k, t, hk, ht, rfl, rfl⟩ := cellsOf_get hx
  have hr2 : r2[k].length = i.size := hs2 _ (by simp)
  have := (hw2 k t r2[k] r2[k][t] (by simp [hk]) (by simp [hr2, ht])).1
  rw [← this, Nat.add_assoc]
 have old : ∃ w1 : Nat → Nat → Value, (∀ i' j u r', r[i']? = some r' → r'[j]? = some u → Rd D (w1 i' j) u) ∧ ∀ {K' : Array Value → Heap → Prop}, K' (cellsOf r.length i.size w1).toArray h → SWp P (Builtin.firstCells i.size r.length (.slice a r.length r.length)) h K' := by
  rcases hsrc1 with rfl | ⟨b1, o1, w1, rfl, hw1⟩
  · refine ⟨fun _ _ => undef, by simp, fun hK' => ?_⟩
    cases a with
    | none => exact hK'
    | some ad =>
      show SWp P (loadCells ad (0 * i.size)) h _
      rw [Nat.zero_mul]; exact hK'
  · refine ⟨w1, fun i' j u r' h1 h2 => (hw1 i' j r' u h1 h2).2, fun hK' => ?_⟩
    show SWp P (loadCells ⟨b1, o1, none⟩ (r.length * i.size)) h _
    rw [← cellsOf_len r.length i.size w1]
    refine SWp_loadCells (fun j x hx => ?_) (by simpa using hK')
    obtain ⟨k, t, hk, ht, rfl, rfl⟩ := cellsOf_get hx
    have hr1 : r[k].length = i.size := hs1 _ (by simp)
    have := (hw1 k t r[k] r[k][t] (by simp [hk]) (by simp [hr1, ht])).1
    rw [← this, Nat.zero_add, Nat.add_assoc]
 obtain ⟨w1, hr1, old⟩ := old
 unfold appK
 have hfc : ∀ {K' : Array Value → Heap → Prop}, K' (cellsOf r2.length i.size w2).toArray h → SWp P (Builtin.firstCells i.size r2.length (.slice (some ⟨b2, o2, none⟩) r2.length cx)) h K' := by
  intro K' hK'
  show SWp P (loadCells ⟨b2, o2, none⟩ (r2.length * i.size)) h K'
  rw [← cellsOf_len r2.length i.size w2]
  exact SWp_loadCells (fun j v hv => by simpa using new j v hv) (by simpa using hK')
 show SWp P (underlying S >>= _) h K
 refine SWp_bind (SWp_underlying hu ?_)
 refine SWp_bind (SWp_sizeOf hi ?_)
 refine SWp_bind (SWp_bind (SWp_underlying hu ?_))
 refine SWp_bind ?_
 show SWp P (Builtin.lenOf (.slice (some ⟨b2, o2, none⟩) r2.length cx) >>= _) h K
 refine SWp_bind ?_
 show SWp P (if r.length + r2.length ≤ r.length then _ else _) h K
 rw [if_neg (by omega)]
 refine SWp_bind (SWp_typeInfo hi ?_)
 rw [if_neg (by rintro ⟨-, h1 | h1⟩; exact absurd h1 (by simp); exact hby h1)]
 refine SWp_bind ?_
 refine SWp_bind (SWp_typeInfo hi ?_)
 have hcap2 : ¬ Builtin.nextslicecap (r.length + r2.length) r.length * i.bytes > 2 ^ 48 := by
  have h1 := nextslicecap_le (n := r.length + r2.length) (c := r.length) (by omega)
  have h2 := Nat.mul_le_mul h1 hby2
  omega
 rw [if_neg hcap2]
 refine SWp_bind ?_
 refine ⟨fun hf => (by cases hf), fun _ t => ?_⟩
 have hge : r.length + r2.length ≤ (Question.appendCap (r.length + r2.length) r.length E).cut t ∧ (Question.appendCap (r.length + r2.length) r.length E).cut t ≤ 9223372036854775807 := by
  have := Nat.mod_lt t (show 2 ^ 63 - (r.length + r2.length) > 0 by omega)
  simp only [Question.cut]
  omega
 generalize (Question.appendCap (r.length + r2.length) r.length E).cut t = c' at hge ⊢
 refine SWp_bind (SWp_typeInfo hi ?_)
 refine SWp_bind (SWp_askRoom ?_)
 refine SWp_bind (old ?_)
 refine SWp_bind ?_
 show SWp P (Builtin.firstCells i.size r2.length (.slice (some ⟨b2, o2, none⟩) r2.length cx)) h _
 refine hfc ?_
 refine SWp_bind (SWp_zero hi hz ?_)
 show newB h (.cells ((cellsOf r.length i.size w1).toArray ++ (cellsOf r2.length i.size w2).toArray ++ Builtin.zeroCells z.cells (c' - (r.length + r2.length))) E) (fun b h1 => K (.slice (some ⟨b, 0, none⟩) (r.length + r2.length) c') h1)
 refine M.new fun b h1 S1 => ?_
 rw [← List.length_append]
 refine hK _ _ _ _ (.row b c' _ (r ++ r2) (fun i' j => if i' < r.length then w1 i' j else w2 (i' - r.length) j) ?_ (by simpa using hge) (fun q hq => (List.mem_append.1 hq).elim (hs1 q) (hs2 q)) ?_ ?_) S1
 · simp only [Array.size_append, List.size_toArray, Builtin.zeroCells, Array.size_map, Array.size_range, cellsOf_len, hzs]
   rw [← Nat.add_mul, ← Nat.add_mul, show r.length + r2.length + (c' - (r.length + r2.length)) = c' by omega]
 · intro k j q u hk hj
   have e1 := (List.getElem?_eq_some_iff.1 hk).1
   have e2 := (List.getElem?_eq_some_iff.1 hj).1
   rw [(List.mem_append.1 (List.mem_of_getElem? hk)).elim (hs1 q) (hs2 q)] at e2
   have := cellsOf_put (n := (r ++ r2).length) (sz := i.size) (fun i' j => if i' < r.length then w1 i' j else w2 (i' - r.length) j) e1 e2
   rw [List.length_append, ← cellsOf_app] at this
   have hlt := (List.getElem?_eq_some_iff.1 this).1
   rw [Array.getElem?_append_left (by simpa using hlt)]
   simpa using this
 · intro k j q u hk hj
   by_cases hkl : k < r.length
   · rw [List.getElem?_append_left hkl] at hk
     simp only [if_pos hkl]; exact hr1 k j u q hk hj
   · rw [List.getElem?_append_right (by omega)] at hk
     simp only [if_neg hkl]; exact (hw2 _ j q u hk hj).2
theorem app_cap {S E sz : Nat} {a a2 : Option Addr} {m n cx : Nat} {r r2 : List (List U)} {CC : List Chunk} {K : Value → Heap → Prop} (ty : ElTy P S E sz) (hx : Rd D (.slice a n n) (.l sz r)) (M : St D CC h) (src : Src D h sz a2 r2) (hm : m = r2.length) (hne : r2 ≠ []) (hb : r.length + r2.length ≤ 1000000)
 (hK : ∀ a' c' ch' h', Own D E sz a' c' (r ++ r2) ch' → St D (ch' :: CC) h' → K (.slice a' (r ++ r2).length c') h') : appK P #[S, S] S (.slice a n n) (.slice a2 m cx) h K :=
 app_capS ty hx.len.1 (hx.src M) M src hm hne hb hK
def RWp {α : Type} (P : Program) (s : Sem α) (h : Heap) (K : α → Heap → Prop) : Prop := ∀ w : World, w.heap = h → ∃ a w', s.run P w = .ok a w' ∧ K a w'.heap ∧ Same w w'
theorem SWp.r {α : Type} {s : Sem α} {K : α → Heap → Prop} (hs : SWp P s h K) : RWp P s h K := fun w hw => SWp.sound hs w hw
theorem gen_soundR {t : List Value} {o : Oper} {h : Heap} {K : Value → Heap → Prop} (hh : RWp P (execOp (ev t) o) h (nextK P K)) {a : Act} (ha : a.eval = ev t) {w : World} (hw : w.heap = h)
 {next : Act → World → Prop} {Q : Exit → Act → World → Prop} (hn : ∀ v w', K v w'.heap → Same w w' → next (a.put o.dst v) w') : o.wp P a w next Q := by
 obtain ⟨n, w', hr, hK, hS⟩ := hh w hw
 unfold Oper.wp
 rw [ha, hr]
 cases n <;> simp only [nextK] at hK
 case value v => exact hn _ _ hK hS
 case skip => exact hn _ _ hK hS
 case enter f args =>
  have h1 := hK.2 w' rfl
  simp only [Array.toArray_toList] at h1
  exact h1.mono fun e w'' ⟨v, he, hv, hS'⟩ => by subst he; exact hn _ _ hv (hS.trans hS')
theorem MRel.set {ag : Bool} {mv : MV} {rows : List (MK × List U)} (hr : MRel D ag mv rows) (k : MK) {v : Value} {us : List U} {vs : List Value} (h1 : RdL D vs us) (h2 : cond ag (v = .agg vs.toArray) (vs = [v])) : MRel D ag (mSet mv k v) (rSet rows k us) := by
 induction hr with
 | nil => exact .cons h1 h2 .nil
 | cons a b c ih =>
   rename_i k' v' us' vs' m rows
   simp only [mSet, rSet]
   by_cases hk : k' = k
   · simp only [hk, if_true]; exact .cons h1 h2 c
   · simp only [hk, if_false]; exact .cons a b ih
theorem MRel.del {ag : Bool} {mv : MV} {rows : List (MK × List U)} (hr : MRel D ag mv rows) (k : MK) : MRel D ag (mDel mv k) (rDel rows k) := by
 induction hr with
 | nil => exact .nil
 | cons a b c ih =>
   rename_i k' v' us' vs' m rows
   simp only [mDel, rDel]
   by_cases hk : k' = k
   · simp only [hk, if_true]; exact c
   · simp only [hk, if_false]; exact .cons a b ih
theorem rSet_len {sz : Nat} {k : MK} {us : List U} (hu : us.length = sz) : ∀ {rows : List (MK × List U)}, (∀ r ∈ rows, r.2.length = sz) → ∀ r ∈ rSet rows k us, r.2.length = sz
 | [], _, r, hr => by simp [rSet] at hr; subst hr; exact hu
 | q :: rows, h, r, hr => by
   simp only [rSet] at hr
   split at hr
   · rcases List.mem_cons.1 hr with rfl | hr
     · exact hu
     · exact h r (by simp [hr])
   · rcases List.mem_cons.1 hr with rfl | hr
     · exact h _ (by simp)
     · exact rSet_len hu (fun r' h' => h r' (by simp [h'])) r hr
theorem rDel_sub (k : MK) : ∀ (rows : List (MK × List U)), ∀ r ∈ rDel rows k, r ∈ rows
 | [], r, hr => hr
 | q :: rows, r, hr => by
   simp only [rDel] at hr
   split at hr
   · exact List.mem_cons_of_mem _ hr
   · rcases List.mem_cons.1 hr with rfl | hr
     · exact List.mem_cons_self
     · exact List.mem_cons_of_mem _ (rDel_sub k rows r hr)
theorem ag_S {E : TypeId} {v : Value} {x : V} (ha : aggOk P E x = true) (hv : Rp D ρ v x) (hc : ∃ xs, cellsV x = some xs) : cond (isAg P E) (v = .agg v.cells.toList.toArray) (v.cells.toList = [v]) := by
 unfold aggOk at ha
 unfold isAg
 split at ha
 · rename_i h1
   rw [h1]
   obtain ⟨vs, rfl, -⟩ := hv.a_inv
   simp [Value.cells]
 · cases ha
 · rename_i hl hx
   rw [hl]
   simp only [cond_false]
   obtain ⟨xs, hc⟩ := hc
   cases hv with
   | a h => exact absurd rfl (hx _)
   | z => cases hc
   | t h => cases hc
   | u h => cases h <;> rfl
   | _ => rfl
 · cases ha
theorem KB.setb {b : Nat} {o : Obj} : KB [b] h (h.setIfInBounds b o) := ⟨by simp, fun c _ hc => by
 rw [Array.getElem?_setIfInBounds_ne]; simp at hc; exact fun e => hc e.symm⟩
theorem SAt.mapPut (M : SAt D ρ m chs C h) {b : Nat} {L : Loc} {es es' : Array MapEntry} {clk clk' : Nat} {kt : KT} {sz : Nat} {ag : Bool} {rows : List (MK × List U)} {mv : MV} (hL : ρ[b]? = some L) (hc : chs[b]? = some [(L.b, .map es clk)])
 (I : MpI kt es' clk' mv) (R : MRel D ag mv rows) (hl : ∀ r ∈ rows, r.2.length = sz) : SAt D ρ (ms m b (.p kt sz ag rows)) (chs.set b [(L.b, .map es' clk')]) C (h.setIfInBounds L.b (.map es' clk')) := by
 have S := M.front hc
 have hb : h[L.b]? = some (.map es clk) := S.get (List.mem_singleton_self _)
 have S' : St D ([(L.b, .map es' clk')] :: (chs ++ C).eraseIdx b) (h.setIfInBounds L.b (.map es' clk')) := S.upd .setb (by simp [lt_of_get hb]) (by simp) (by simp)
 exact M.put hL hc S' (.refl D) (.p I R hl)
theorem mapUpd_S {S : TypeId} {x k v : V} {vx vk vv : Value} {KS : Mem → Prop} (hs : mapUpdS P (hr ++ ro) S x k v m KS) (M : SAt D ρ m chs C h) (hx : Rp D ρ vx x) (hk : Rp D ρ vk k) (hv : Rp D ρ vv v) :
 RWp P (Instr.mapUpdate S vx vk vv) h fun _ h' => ∃ D' m' chs', Nx ro hr D ρ m chs D' ρ m' chs' ∧ SAt D' ρ m' chs' C h' ∧ KS m' := by
 unfold mapUpdS at hs
 split at hs
 · rename_i kt zs E zv k' b ht hk'
   obtain ⟨K, i, z, hT, hkt, hz, hi, hzz, rfl⟩ := mapT_spec ht
   obtain ⟨hc0, hs1⟩ := cond_spec hs
   clear hs
   simp only [Bool.and_eq_true, Bool.not_eq_true'] at hc0
   have hvk := mkOf_S hk' hk
   subst hvk
   split at hs1
   · rename_i xs hvc
     have hcx := vcells_S hvc hv
     have hnx := normV_S (P := P) (S := E) hv
     split at hs1
     · rename_i us m1 hu
       obtain ⟨D1, chs1, n1, M1, r1⟩ := toUs_S hu M hcx
       split at hs1
       · rename_i kt' sz ag rows hm
         obtain ⟨hc, hs2⟩ := cond_spec hs1
         clear hs1
         simp only [Bool.and_eq_true, beq_iff_eq] at hc
         obtain ⟨⟨⟨⟨c1, c2⟩, c3⟩, c4⟩, c5⟩ := hc
         have := ktEq_iff c1
         subst this
         subst c3
         have hag := ag_S c5 hnx ⟨xs, hvc⟩
         obtain ⟨L, ch, g1, g2, g3⟩ := M1.get (b := b) (by rw [hm]; simp)
         rw [hm] at g3
         cases hx with
         | m hL =>
           rw [g1] at hL; cases hL
           cases g3 with
           | p I R hl =>
             rename_i es clk mv
             intro w hw
             have hb : w.heap[L.b]? = some (.map es clk) := by rw [hw]; exact M1.own g2 (List.mem_singleton_self _)
             obtain ⟨es', clk', hrun, I'⟩ := run_upd (P := P) hT hkt hb I hc0.1 vv
             have M2 := M1.mapPut g1 g2 I' (R.set k' r1 hag) (rSet_len (Nat.eq_of_beq_eq_true c4) hl)
             rw [← hw] at M2
             exact ⟨_, _, hrun, ⟨D1, _, _, n1.trans (.set (.refl D1) hc0.2), M2, hs2⟩, ⟨rfl, rfl, rfl, .refl _⟩⟩
       · exact hs1.elim
     · exact hs1.elim
   · exact hs1.elim
 · exact hs.elim
theorem mapDel_S {S S' ty : TypeId} {x k : V} {vx vk : Value} {KS : Mem → Prop} (hs : mapDelS P (hr ++ ro) S S' x k m KS) (M : SAt D ρ m chs C h) (hx : Rp D ρ vx x) (hk : Rp D ρ vk k) :
 RWp P (Builtin.delete_ #[S, S'] ty #[vx, vk]) h fun v h' => v = .tuple #[] ∧ ∃ m' chs', Nx ro hr D ρ m chs D ρ m' chs' ∧ SAt D ρ m' chs' C h' ∧ KS m' := by
 unfold mapDelS at hs
 split at hs
 · rename_i K1 E kt k' b hT hkt hk'
   obtain ⟨hc0, hs1⟩ := cond_spec hs
   clear hs
   simp only [Bool.and_eq_true, Bool.not_eq_true'] at hc0
   have := Nat.eq_of_beq_eq_true hc0.1.1
   subst this
   have hvk := mkOf_S hk' hk
   subst hvk
   split at hs1
   · rename_i kt' sz ag rows hm
     obtain ⟨c1, hs2⟩ := cond_spec hs1
     clear hs1
     have := ktEq_iff c1
     subst this
     obtain ⟨L, ch, g1, g2, g3⟩ := M.get (b := b) (by rw [hm]; simp)
     rw [hm] at g3
     cases hx with
     | m hL =>
       rw [g1] at hL; cases hL
       cases g3 with
       | p I R hl =>
         rename_i es clk mv
         intro w hw
         have hb : w.heap[L.b]? = some (.map es clk) := by rw [hw]; exact M.own g2 (List.mem_singleton_self _)
         obtain ⟨es', hrun, I'⟩ := run_del (P := P) (ty := ty) hT hkt hb I hc0.1.2
         have M2 := M.mapPut g1 g2 I' (R.del k') fun r hr => hl r (rDel_sub _ _ r hr)
         rw [← hw] at M2
         exact ⟨_, _, hrun, ⟨rfl, _, _, .set (.refl D) hc0.2, M2, hs2⟩, ⟨rfl, rfl, rfl, .refl _⟩⟩
   · exact hs1.elim
 · rename_i K1 E kt k' hT hkt hk'
   obtain ⟨hc0, hs1⟩ := cond_spec hs
   simp only [Bool.and_eq_true] at hc0
   have := Nat.eq_of_beq_eq_true hc0.1
   subst this
   have hvk := mkOf_S hk' hk
   subst hvk
   cases hx
   intro w hw
   refine ⟨.tuple #[], w, ?_, ⟨rfl, m, chs, .refl, hw ▸ M, hs1⟩, .refl w⟩
   simp [Builtin.delete_, run_underlying hT, run_checkK hkt hc0.2, Result.andThen]
 · exact hs.elim
theorem isSg_single {v : Value} {x : V} (hk : isSg x = true) (hv : Rp D ρ v x) : single v = true := by
 cases hv with
 | u hr => cases hr <;> rfl
 | a => cases hk
 | t => cases hk
 | z => cases hk
 | _ => rfl
theorem isSgL_single : ∀ {xs : List V} {vs : List Value}, xs.all isSg = true → RpC D ρ vs xs → ∀ v ∈ vs, single v = true
 | [], _, _, hr => by cases hr; simp
 | x :: xs, _, hk, hr => by
   simp only [List.all_cons, Bool.and_eq_true] at hk
   cases hr with
   | cons a n b =>
     intro v hv
     rcases List.mem_cons.1 hv with rfl | hv
     · exact isSg_single hk.1 a
     · exact isSgL_single hk.2 b v hv
   | n hl b =>
     intro v hv
     rcases List.mem_append.1 hv with hv | hv
     · obtain ⟨_, _, rfl⟩ := List.mem_map.1 hv; rfl
     · exact isSgL_single hk.2 b v hv
theorem take_of_get {q l : List Value} (h : ∀ (j : Nat) (v : Value), q[j]? = some v → l[j]? = some v) : ∃ r, l = q ++ r := by
 refine ⟨l.drop q.length, ?_⟩
 apply List.ext_getElem?
 intro j
 by_cases hj : j < q.length
 · rw [List.getElem?_append_left hj, List.getElem?_eq_getElem hj]
   exact h j _ (List.getElem?_eq_getElem hj)
 · rw [List.getElem?_append_right (by omega), List.getElem?_drop, show q.length + (j - q.length) = j by omega]
theorem app_cw {S e n c k cx b2 o2 : Nat} {a : Option Addr} {cs new : List Value} {ch : Chunk} {CC : List Chunk} {K : Value → Heap → Prop} (ty : ElTy P S e (lay1 P e)) (os : OwnS 0 e (lay1 P e) h a n c cs) (hids : ch.map (·.1) = ownB a) (St0 : St D (ch :: CC) h)
 (hk : k ≠ 0) (hnew : ∀ j v, new[j]? = some v → hcell h ⟨b2, o2 + j, none⟩ = some v) (hlen : new.length = k * lay1 P e) (hsg : ∀ v ∈ new, single v = true) (hbd : n + k ≤ 1000000)
 (hK : ∀ b' c' ps h', ((cs ++ new) ++ ps).length = c' * lay1 P e → (cs ++ new).length = (n + k) * lay1 P e → n + k ≤ c' ∧ c' ≤ 9223372036854775807 → St D ([(b', .cells ((cs ++ new) ++ ps).toArray e (0, 0))] :: CC) h' → K (.slice (some ⟨b', 0, none⟩) (n + k) c') h') :
 appK P #[S, S] S (.slice a n c) (.slice (some ⟨b2, o2, none⟩) k cx) h K := by
 obtain ⟨hT, i, z, hi, hsz, hby, hby2, hz, hzs⟩ := ty
 rw [← hsz] at os hlen hzs
 have hb2 : (2 * (n + k) + 512) * i.bytes ≤ 281474976710656 := by
  have := Nat.mul_le_mul (show 2 * (n + k) + 512 ≤ 2000512 by omega) hby2
  omega
 refine app_own (P := P) (T := S) (E := e) (B := 0) (new := new) hT hi hz hzs hby os (Nat.zero_le _) hnew hlen hsg hb2 fun a' c' h' os' k' hmv => ?_
 rcases os' with ⟨-, h0, -⟩ | ⟨b', l, rfl, -, g2, g3, g4, g5, g6⟩
 · omega
 · obtain ⟨ps, hps⟩ := take_of_get (q := cs ++ new) (l := l.toList) fun j v hj => by simpa using g6 j v hj
   have hl : l = ((cs ++ new) ++ ps).toArray := by rw [← hps]
   subst hl
   refine hK b' c' ps h' (by rw [← hsz]; simpa using g3) (by rw [← hsz]; exact g5) g4 (St0.upd (by rw [hids]; exact k') (by simpa using g2) (by simp) fun p hp => ?_)
   rw [hids]
   simp only [List.mem_singleton] at hp
   subst hp
   exact hmv b' 0 rfl
theorem appCS_S {S e : TypeId} {x y : V} {vx vy : Value} {KS : V → Mem → Prop} (ty : ElTy P S e (lay1 P e)) (hs : appCS P (hr ++ ro) e x y m KS) (M : SAt D ρ m chs C h) (hx : Rp D ρ vx x) (hy : Rp D ρ vy y) : appK P #[S, S] S vx vy h (PostE ro hr D ρ m chs C KS) := by
 unfold appCS at hs
 split at hs
 · rename_i b2 o n
   split at hs
   · rename_i cells hm2
     split at hs
     · rename_i l hd
       split at hs
       · rename_i new hp
         obtain ⟨hc, hs1⟩ := cond_spec hs
         clear hs
         have hs := hs1
         clear hs1
         simp only [Bool.and_eq_true, Bool.not_eq_true'] at hc
         have hn : n ≠ 0 := fun h0 => by rw [h0] at hc; simp at hc
         obtain ⟨L2, a2, cap2, hL2, ha2, -, rfl⟩ := hy.sl_inv
         obtain ⟨L2', ch2, g1, g2, g3⟩ := M.get (b := b2) (by rw [hm2]; simp)
         rw [hL2] at g1; cases g1
         rw [hm2] at g3
         cases g3 with
         | c hcc =>
           rename_i arr S'
           obtain ⟨p, s, rfl, hpl, hr1⟩ := dropC_S hd hcc
           obtain ⟨p2, s2, rfl, hp2, hr2⟩ := prefC_S hp hr1
           have ha2 := ha2 (by omega)
           subst ha2
           have hcell : ∀ j v, p2[j]? = some v → hcell h ⟨L2.b, o + j, none⟩ = some v := fun j v hj => by
            rw [hcell_of (M.own g2 (List.mem_singleton_self _))]
            simp only [List.getElem?_toArray]
            rw [List.getElem?_append_right (by omega), show o + j - p.length = j by omega]
            exact get_app hj
           have hsg := isSgL_single hc.1 hr2
           split at hs
           · cases hx
             obtain ⟨hb, hK⟩ := cond_spec hs
             have hb := Nat.le_of_ble_eq_true hb
             refine app_cw ty (.nil _ _ _ _) (ch := []) rfl M.st.nil hn hcell hp2 hsg hb fun b' c' ps h' q1 q2 q3 S1 => ?_
             simp only [List.nil_append, Nat.zero_add] at q1 q2 q3 S1 ⊢
             refine ⟨D, ρ ++ [⟨0, some ⟨b', 0, none⟩, n, c', none⟩], _, chs ++ [_], _, .push M (.refl D), M.new S1 (.refl D) (.cw rfl rfl (hr2.mono (.refl D) _) q2 q1 q3), .w (L := ⟨0, some ⟨b', 0, none⟩, n, c', none⟩) ?_, hK⟩
             rw [← M.len]; simp
           · rename_i b
             cases hb : inL (hr ++ ro) b with
             | true => rw [hb] at hs; exact hs.elim
             | false =>
               rw [hb] at hs
               simp only [cond_false] at hs
               split at hs
               · rename_i e' s' k old hm
                 obtain ⟨hc3, hK⟩ := cond_spec hs
                 simp only [Bool.and_eq_true] at hc3
                 have e1 := Nat.eq_of_beq_eq_true hc3.1.1
                 have e2 := Nat.eq_of_beq_eq_true hc3.1.2
                 have e3 := Nat.le_of_ble_eq_true hc3.2
                 subst e1 e2
                 obtain ⟨L, hL, rfl⟩ := hx.w_inv
                 obtain ⟨L', ch, h1, h2, h3⟩ := M.get (b := b) (by rw [hm]; simp)
                 rw [hL] at h1; cases h1
                 rw [hm] at h3
                 cases h3 with
                 | @cw _ _ _ bb vs ps _ hA hN hcc3 hlen h5 h6 =>
                   rw [hA, hN]
                   have os : OwnS 0 e (lay1 P e) h (some ⟨bb, 0, none⟩) k L.c vs := .inr ⟨bb, _, rfl, Nat.zero_le _, M.own h2 (List.mem_singleton_self _), by simpa using h5, h6, hlen, fun j v hj => by simp only [List.getElem?_toArray]; exact get_app hj⟩
                   refine app_cw ty os rfl (M.front h2) hn hcell hp2 hsg e3 fun b' c' ps' h' q1 q2 q3 S1 => ?_
                   have hlt := (List.getElem?_eq_some_iff.1 h2).1
                   generalize hch : [(b', Obj.cells ((vs ++ p2) ++ ps').toArray e (0, 0))] = ch' at S1
                   have S2 : St D ([] :: ((chs ++ (ch' :: C)).eraseIdx b)) h' := by
                    rw [List.eraseIdx_append_of_lt_length hlt]
                    rw [List.eraseIdx_append_of_lt_length hlt] at S1
                    exact S1.mid.nil
                   have M1 := M.put hL h2 S2 (.refl D) .x
                   have he : Ent D (ρ ++ [⟨0, some ⟨b', 0, none⟩, k + n, c', none⟩]) ⟨0, some ⟨b', 0, none⟩, k + n, c', none⟩ (.cw e (lay1 P e) (k + n) (old ++ new)) ch' := by
                    rw [← hch]
                    exact .cw rfl rfl (RpC.mono (.refl D) _ (hcc3.app hr2)) q2 q1 q3
                   have M2 := M1.push he
                   refine ⟨D, _, _, _, _, (Nx.set (.refl D) hb).trans (.push M1 (.refl D)), M2, .w (L := ⟨0, some ⟨b', 0, none⟩, k + n, c', none⟩) ?_, hK⟩
                   rw [← M.len]; simp
               · exact hs.elim
           · exact hs.elim
       · exact hs.elim
     · exact hs.elim
   · exact hs.elim
 · exact hs.elim
theorem appS_S {S R : TypeId} {x y : V} {vx vy : Value} {KS : V → Mem → Prop} (hs : appS P (hr ++ ro) S x y m KS) (M : SAt D ρ m chs C h) (hx : Rp D ρ vx x) (hy : Rp D ρ vy y) : appK P #[S, S] S vx vy h (PostE ro hr D ρ m chs C KS) := by
 unfold appS at hs
 split at hs
 · rename_i e hu
   obtain ⟨hty, hs2⟩ := cond_spec hs
   clear hs
   have ty := ElTy.of hty
   obtain ⟨hT, i, z, hi, hsz, hby, hby2, hz, hzs⟩ := ty
   split at hs2
   · -- of nothing
     cases hy
     split at hs2
     · cases hx
       exact app_nil (E := e) hT hi (Nat.le_refl _) ⟨D, ρ, m, chs, _, .refl, M, .nl, hs2⟩
     · obtain ⟨a, c, rfl, hr⟩ := hx.l_inv
       exact app_nil (E := e) hT hi hr.len.2 ⟨D, ρ, m, chs, _, .refl, M, hx, hs2⟩
     · obtain ⟨a, rfl, hr⟩ := hx.c_inv
       exact app_nil (E := e) hT hi (Nat.le_refl _) ⟨D, ρ, m, chs, _, .refl, M, hx, hs2⟩
     · obtain ⟨L, a, cap, g1, g2, g3, g4, g5, g6, g7, rfl⟩ := hx.v_inv
       exact app_nil (E := e) hT hi g5 ⟨D, ρ, m, chs, _, .refl, M, hx, hs2⟩
     · exact hs2.elim
   · split at hs2
     · rename_i s new hsrc
       obtain ⟨hse, hs3⟩ := cond_spec hs2
       clear hs2
       have := Nat.eq_of_beq_eq_true hse
       subst this
       obtain ⟨a2, c2, rfl, src⟩ := srcS_S hsrc M hy
       have ty : ElTy P S e (lay1 P e) := ⟨hT, i, z, hi, hsz, hby, hby2, hz, hzs⟩
       split at hs3
       · cases hx
         obtain ⟨hb, hK⟩ := hs3
         refine app_w ty (.nil _) M.st.nil src rfl rfl hb fun a' c' ch' h' own' S' => ?_
         refine ⟨D, ρ ++ [⟨0, a', new.length, c', none⟩], _, chs ++ [ch'], _, .push M (.refl D), M.new S' (.refl D) (.w own' rfl), .w (L := ⟨0, a', new.length, c', none⟩) ?_, hK⟩
         rw [← M.len]; simp
       · rename_i b
         cases hb : inL (hr ++ ro) b with
         | true => rw [hb] at hs3; exact hs3.elim
         | false =>
           rw [hb] at hs3
           simp only [cond_false] at hs3
           split at hs3
           · rename_i e' s' rows hm
             obtain ⟨hc, hok, hK⟩ := cond_spec hs3
             simp only [Bool.and_eq_true] at hc
             have e1 := Nat.eq_of_beq_eq_true hc.1
             have e2 := Nat.eq_of_beq_eq_true hc.2
             subst e1 e2
             obtain ⟨L, hL, rfl⟩ := hx.w_inv
             obtain ⟨L', ch, h1, h2, h3⟩ := M.get (b := b) (by rw [hm]; simp)
             rw [hL] at h1; cases h1
             rw [hm] at h3
             cases h3 with
             | w own hn =>
               refine app_w ty own (M.front h2) src hn rfl hok fun a' c' ch' h' own' S' => ?_
               have hlt := (List.getElem?_eq_some_iff.1 h2).1
               have S2 : St D ([] :: ((chs ++ (ch' :: C)).eraseIdx b)) h' := by
                rw [List.eraseIdx_append_of_lt_length hlt]
                rw [List.eraseIdx_append_of_lt_length hlt] at S'
                exact S'.mid.nil
               have M1 := M.put hL h2 S2 (.refl D) .x
               have M2 := M1.push (L := ⟨0, a', (rows ++ new).length, c', none⟩) (ab := .w e (lay1 P e) (rows ++ new)) (.w own' rfl)
               refine ⟨D, _, _, _, _, (Nx.set (.refl D) hb).trans (.push M1 (.refl D)), M2, .w (L := ⟨0, a', (rows ++ new).length, c', none⟩) ?_, hK⟩
               rw [← M.len]; simp
           · exact hs3.elim
       · rename_i s' rows
         obtain ⟨hc, hok, hK⟩ := cond_spec hs3
         have e2 := Nat.eq_of_beq_eq_true hc
         subst e2
         obtain ⟨a, rfl, hrd⟩ := hx.c_inv
         split at hK
         · rename_i r0 new'
           refine app_cap ty hrd M.st src rfl (by simp) hok fun a' c' ch' h' own' S' => ?_
           refine ⟨D, ρ ++ [⟨0, a', (rows ++ (r0 :: new')).length, c', none⟩], _, chs ++ [ch'], _, .push M (.refl D), M.new S' (.refl D) (.w own' rfl), .w (L := ⟨0, a', (rows ++ (r0 :: new')).length, c', none⟩) ?_, hK⟩
           rw [← M.len]; simp
         · exact app_nil (E := e) hT hi (Nat.le_refl _) ⟨D, ρ, m, chs, _, .refl, M, hx, hK⟩
       · rename_i b s' l n c
         obtain ⟨hc, hs3⟩ := cond_spec hs3
         have e2 := Nat.eq_of_beq_eq_true hc
         subst e2
         split at hs3
         · rename_i e' s2 rows hm
           obtain ⟨hc2, hs4⟩ := cond_spec hs3
           clear hs3
           simp only [Bool.and_eq_true] at hc2
           have e1 := Nat.eq_of_beq_eq_true hc2.1
           have e3 := Nat.eq_of_beq_eq_true hc2.2
           subst e1 e3
           obtain ⟨L, a, cap, g1, g2, g3, g4, g5, g6, g7, rfl⟩ := hx.v_inv
           split at hs4
           · exact app_nil (E := e) hT hi g5 ⟨D, ρ, m, chs, _, .refl, M, hx, hs4⟩
           · rename_i r0 new'
             obtain ⟨L', ch, h1, h2, h3⟩ := M.get (b := b) (by rw [hm]; simp)
             rw [g1] at h1; cases h1
             rw [hm] at h3
             cases h3 with
             | w own hn =>
               cases c with
               | true =>
                 simp only [cond_true] at hs4
                 obtain ⟨hok, hK⟩ := hs4
                 have hcap := (g6 rfl).symm
                 subst hcap
                 have sp := (own.src fun p hp => M.own h2 hp).part (by omega) g4
                 have hpl : n = ((rows.drop l).take n).length := by rw [List.length_take, List.length_drop, Nat.min_eq_left (by omega)]
                 refine app_capS ty hpl sp M.st src rfl (by simp) hok fun a' c' ch' h' own' S' => ?_
                 refine ⟨D, ρ ++ [⟨0, a', ((rows.drop l).take n ++ (r0 :: new')).length, c', none⟩], _, chs ++ [ch'], _, .push M (.refl D), M.new S' (.refl D) (.w own' rfl), .w (L := ⟨0, a', ((rows.drop l).take n ++ (r0 :: new')).length, c', none⟩) ?_, hK⟩
                 rw [← M.len]; simp
               | false =>
                 simp only [cond_false] at hs4
                 obtain ⟨hc4, hok, hK⟩ := cond_spec hs4
                 simp only [Bool.and_eq_true, Bool.not_eq_true'] at hc4
                 have hl0 := Nat.eq_of_beq_eq_true hc4.1
                 subst hl0
                 have ha := g3 rfl
                 have hcap := g7 rfl rfl
                 subst ha hcap
                 have hpl : n = (rows.take n).length := by rw [List.length_take, Nat.min_eq_left (by omega)]
                 refine app_w ty (own.takeN (n := n)) (M.front h2) src hpl rfl hok fun a' c' ch' h' own' S' => ?_
                 have hlt := (List.getElem?_eq_some_iff.1 h2).1
                 have S2 : St D ([] :: ((chs ++ (ch' :: C)).eraseIdx b)) h' := by
                  rw [List.eraseIdx_append_of_lt_length hlt]
                  rw [List.eraseIdx_append_of_lt_length hlt] at S'
                  exact S'.mid.nil
                 have M1 := M.put g1 h2 S2 (.refl D) .x
                 have M2 := M1.push (L := ⟨0, a', (rows.take n ++ (r0 :: new')).length, c', none⟩) (ab := .w e (lay1 P e) (rows.take n ++ (r0 :: new'))) (.w own' rfl)
                 refine ⟨D, _, _, _, _, (Nx.set (.refl D) hc4.2).trans (.push M1 (.refl D)), M2, .w (L := ⟨0, a', (rows.take n ++ (r0 :: new')).length, c', none⟩) ?_, hK⟩
                 rw [← M.len]; simp
         · exact hs3.elim
       · exact hs3.elim
     · exact appCS_S ⟨hT, i, z, hi, hsz, hby, hby2, hz, hzs⟩ hs2 M hx hy
 · exact hs.elim
theorem makeSlice_S {S e : TypeId} {zr : List U} {l : Int} (hu : P.underlying S = some (.slice e)) (hz : zrow P e = some zr) (hty : elTyB P S e (lay1 P e) = true) (hzl : zr.length = lay1 P e) (h0 : 0 ≤ l) (h1 : l ≤ 1000000) (M : SAt D ρ m chs C h) {K : Value → Heap → Prop}
 (hK : ∀ b ρ' chs' h', Nx ro hr D ρ m chs D ρ' (m ++ [.w e (lay1 P e) (List.replicate l.toNat zr)]) chs' → SAt D ρ' (m ++ [.w e (lay1 P e) (List.replicate l.toNat zr)]) chs' C h' → Rp D ρ' (.slice (some ⟨b, 0, none⟩) l.toNat l.toNat) (.w m.length) → K (.slice (some ⟨b, 0, none⟩) l.toNat l.toNat) h') :
 SWp P (Instr.makeSlice S (.int .i64 l) (.int .i64 l)) h K := by
 obtain ⟨-, i, z, hi, hsz, hby, hby2, hiz, hzs⟩ := ElTy.of hty
 obtain ⟨i', z', hi', hiz', hzr⟩ := zrow_S (D := D) hz
 rw [hi] at hi'; cases hi'
 rw [hiz] at hiz'; cases hiz'
 have hw : IntKind.i64.wrap l = l := w64 (by omega) (by omega)
 unfold Instr.makeSlice
 refine SWp_bind (SWp_underlying hu ?_)
 refine SWp_bind ?_
 change SWp P (asInt _ >>= _) h K
 refine SWp_bind ?_
 change SWp P (typeInfo e >>= _) h K
 refine SWp_bind (SWp_typeInfo hi ?_)
 simp only [hw]
 have hbl : ¬ ((i.bytes : Int) * l > 2 ^ 48) := by
  have h2 : (i.bytes : Int) * l ≤ 1000 * 1000000 := Int.mul_le_mul (by omega) h1 h0 (by omega)
  omega
 rw [if_neg (by simp; omega)]
 refine SWp_bind (SWp_askRoom ?_)
 refine SWp_bind (SWp_sizeOf hi ?_)
 have go : ∀ arr : Array Value, arr.toList = (List.replicate l.toNat z.cells.toList).flatten → SWp P (do let a ← newRow e arr; pure (.slice (some a) l.toNat l.toNat)) h K := by
  intro arr harr
  show newB h (.cells arr e) (fun b h1 => K (.slice (some ⟨b, 0, none⟩) l.toNat l.toNat) h1)
  have hr1 : RdL D arr.toList (List.replicate l.toNat zr).flatten := by rw [harr]; exact rep_rd hzr _
  refine M.st.new fun b h1 S1 => ?_
  have own : Own D e (lay1 P e) (some ⟨b, 0, none⟩) l.toNat (List.replicate l.toNat zr) [(b, .cells arr e (0, 0))] := by
   have := Own.ofL (E := e) (b := b) (sz := lay1 P e) (n := l.toNat) hr1 (fun r hr => by rw [List.eq_of_mem_replicate hr]; exact hzl) (by simp) (by omega)
   rwa [Array.toArray_toList] at this
  refine hK b (ρ ++ [⟨0, some ⟨b, 0, none⟩, l.toNat, l.toNat, none⟩]) (chs ++ [_]) h1 (.push M (.refl D)) (M.new S1 (.refl D) (.w own (by simp))) (.w (L := ⟨0, some ⟨b, 0, none⟩, l.toNat, l.toNat, none⟩) ?_)
  rw [← M.len]; simp
 by_cases hn : l.toNat * i.size = 0
 · rw [if_pos hn]
   refine SWp_bind ?_
   refine go _ ?_
   rcases Nat.mul_eq_zero.1 hn with h2 | h2
   · rw [h2]; simp
   · have : z.cells.toList = [] := List.eq_nil_of_length_eq_zero (by rw [Array.length_toList, hzs, ← hsz, h2])
     rw [this, hn]; simp
 · rw [if_neg hn]
   refine SWp_bind (SWp_zero hi hiz ?_)
   refine go _ ?_
   rw [← rep_list z.cells l.toNat i.size (by rw [hzs, hsz])]
   simp
theorem slCells_S {e : TypeId} {n : Nat} {ps : List (Nat × V)} {pv : List (Nat × Value)} {l : List V} (hl : slCells P e n ps = some l) (h1 : pv.map (·.1) = ps.map (·.1)) (h2 : RpL D ρ (pv.map (·.2)) (ps.map (·.2))) :
 ∃ i z l', P.info? e = some i ∧ i.zero = some z ∧ fillL (fun j => some (j * lay1 P e, lay1 P e)) ((List.range (n * i.size)).map fun j => z.cells[j % z.cells.size]!) pv = some l' ∧ RpC D ρ l' l := by
 unfold slCells zcells at hl
 cases hi : P.info? e with
 | none => rw [hi] at hl; simp at hl
 | some i =>
   rw [hi] at hl
   cases hz : i.zero with
   | none => simp [hz] at hl
   | some z =>
     simp only [Option.bind_some, hz] at hl
     cases hzb : Nat.beq z.cells.size (lay1 P e) with
     | false => rw [hzb] at hl; simp at hl
     | true =>
     rw [hzb] at hl
     simp only [cond_true] at hl
     have hzs : z.cells.size = i.size := by rw [Nat.eq_of_beq_eq_true hzb]; simp [lay1, hi]
     have hrep : ∀ n : Nat, RpC D ρ (List.replicate n z.cells.toList).flatten (List.replicate n (fixN (leafs P 9 e) (z.cells.toList.map ofV1))).flatten := fun n => by
      induction n with
      | zero => exact .nil
      | succ n ih => rw [List.replicate_succ, List.replicate_succ, List.flatten_cons, List.flatten_cons]; exact (fixN_S (ofV1L_S _)).app ih
     obtain ⟨l', g1, g2⟩ := fillC_S (pv := pv) hl (hrep n) (by rw [h1, List.map_map]; rfl) (by
      rw [List.map_map]
      have : ∀ (xs : List V) {vs : List Value}, RpL D ρ vs xs → RpL D ρ vs (xs.map (normV P e)) := fun xs => by
       induction xs with
       | nil => intro vs h; cases h; exact .nil
       | cons x xs ih => intro vs h; cases h with | cons a b => exact .cons (normV_S a) (ih b)
      have := this _ h2
      rw [List.map_map] at this
      exact this)
     exact ⟨i, z, l', rfl, hz, by rw [rep_list z.cells n i.size hzs]; exact g1, g2⟩
theorem clear_S {S : TypeId} {x : V} {v : Value} {KS : Mem → Prop} {ty : TypeId} (hs : clearS P (hr ++ ro) S x m KS) (M : SAt D ρ m chs C h) (hx : Rp D ρ v x) {K : Value → Heap → Prop}
 (hK : ∀ m' chs' h', Nx ro hr D ρ m chs D ρ m' chs' → SAt D ρ m' chs' C h' → KS m' → K (.tuple #[]) h') : SWp P (Builtin.clear_ #[S] ty #[v]) h K := by
 unfold clearS at hs
 split at hs
 · rename_i e hu
   split at hs
   · rename_i b sz l n c
     obtain ⟨hc, hs⟩ := cond_spec hs
     simp only [Bool.and_eq_true, Bool.not_eq_true'] at hc
     have hse := Nat.eq_of_beq_eq_true hc.1.2
     have hn0 : 0 < n := by
      cases n with
      | zero => simp at hc
      | succ n => omega
     split at hs
     · rename_i E s rows zr hm hz
       obtain ⟨hc2, hk⟩ := cond_spec hs
       simp only [Bool.and_eq_true] at hc2
       have e1 := Nat.eq_of_beq_eq_true hc2.1
       have e2 := Nat.eq_of_beq_eq_true hc2.2
       subst e1
       obtain ⟨L, a, cap, g1, g2, g3, g4, g5, g6, g7, rfl⟩ := hx.v_inv
       obtain ⟨L', ch, h1, h2, h3⟩ := M.get (b := b) (by rw [hm]; simp)
       rw [g1] at h1; cases h1
       rw [hm] at h3
       obtain ⟨i, z, hi, hiz, hzr⟩ := zrow_S (D := D) hz
       obtain ⟨p, q, hA, ha⟩ := g4 hn0
       cases h3 with
       | w own hn =>
         have hzl : z.cells.toList.length = s := by rw [hzr.len, e2]
         have hle : l + n ≤ rows.length := by omega
         have hlen : L.n = (rows.take l ++ (List.replicate n zr ++ rows.drop (l + n))).length := by rw [hn]; simp; omega
         obtain ⟨b', hb', hst⟩ := own.fill (M.front h2) hzr hzl hn0 hle (K' := fun h' => K (.tuple #[]) h') fun ch' h' own' S' => by
          have M2 := M.put (ab := .w E s (rows.take l ++ (List.replicate n zr ++ rows.drop (l + n)))) g1 h2 S' (.refl D) (.w own' hlen)
          exact hK _ _ _ (Nx.set (.refl D) hc.1.1) M2 hk
         rw [hA] at hb'; cases hb'
         subst ha
         show SWp P (underlying S >>= _) h K
         refine SWp_bind (SWp_underlying hu ?_)
         obtain ⟨n, rfl⟩ : ∃ k, n = k + 1 := ⟨n - 1, by omega⟩
         refine SWp_bind (SWp_zero hi hiz ?_)
         have hzc : (Builtin.zeroCells z.cells (n + 1)).toList = (List.replicate (n + 1) z.cells.toList).flatten := by
          rw [← rep_list z.cells (n + 1) z.cells.size rfl]
          simp [Builtin.zeroCells]
         rw [hzc]
         rw [Nat.zero_add]
         exact SWp_bind (storeCells_spec hst)
     · exact hs.elim
   · exact hs.elim
 · exact hs.elim
theorem callv_S {X : Fz → List Loc → Prop} {call : CallH} (hcall : CallOk P X ro hr call) (hx : X D ρ) {f : V} {fv : Value} {g : FuncId} {a c : List V} {as' : Array Value} {args : List V} {KS : V → Mem → Prop} {ty : TypeId} (hf : Rp D ρ fv (.f g a c)) (hs : call g (a ++ args ++ c) m KS) (M : SAt D ρ m chs C h) (ha : RpL D ρ as'.toList args) :
 ∃ first cap, fv = .func (.func g) first cap ∧ Run P g (first ++ as' ++ cap).toList h (PostE ro hr D ρ m chs C KS) := by
 obtain ⟨xs, ys, rfl, h1, h2⟩ := hf.f_inv
 refine ⟨_, _, rfl, ?_⟩
 have : (xs.toArray ++ as' ++ ys.toArray).toList = xs ++ as'.toList ++ ys := by simp
 rw [this]
 exact hcall hx hs M ((h1.app ha).app h2)
theorem eff_S {vw : Bool} {X : Fz → List Loc → Prop} {call : CallH} (hcall : CallOk P X ro hr call) (hx : X D ρ) {o : Oper} {KS : V → Mem → Prop} (hs : effS P vw (hr ++ ro) call t m o KS) (M : SAt D ρ m chs C h) (F : RpL D ρ T t) : RWp P (execOp (ev T) o) h (nextK P (PostE ro hr D ρ m chs C KS)) := by
 obtain ⟨dst, op, ty, pos, after, guard⟩ := o
 cases op <;> simp only [effS] at hs
 case store S a x =>
  refine SWp.r ?_
  obtain ⟨ad, hv, hk⟩ := sStore_S (K := fun h' => PostE ro hr D ρ m chs C KS undef h') hs M (ev_S F a) (ev_S F x) fun D' m' chs' h' n M' hk => ⟨D', ρ, m', chs', .z, n, M', .z, hk⟩
  exact eff_sound (H := ⟨[], [], []⟩) (by simp only [effK, hv]; exact hk)
 case box S x =>
  refine SWp.r ?_
  split at hs
  · rename_i xs hx
    exact eff_sound (H := ⟨[], [], []⟩) (by
     simp only [effK]
     exact box_S hx M (ev_S F x) fun b ρ' chs' h' n M' hv => ⟨D, ρ', _, chs', _, n, M', hv, hs⟩)
  · exact hs.elim
 case alloc S =>
  refine SWp.r ?_
  split at hs
  · rename_i z hz
    exact eff_sound (H := ⟨[], [], []⟩) (by
     simp only [effK, hz]
     exact alloc_S M fun b ρ' chs' h' n M' hv => ⟨D, ρ', _, chs', _, n, M', hv, hs⟩)
  · exact hs.elim
 case buildSlice S n ps =>
  refine SWp.r ?_
  have hpm : (ps.toList.map fun p => (p.1, ev T p.2)).map (·.1) = (ps.toList.map fun p => (p.1, evS t p.2)).map (·.1) := by simp [List.map_map, Function.comp_def]
  have hps : RpL D ρ ((ps.toList.map fun p => (p.1, ev T p.2)).map (·.2)) ((ps.toList.map fun p => (p.1, evS t p.2)).map (·.2)) := by
   have h := evL_S F (ps.toList.map (·.2)); rw [List.map_map, List.map_map] at h; rw [List.map_map, List.map_map]; exact h
  split at hs
  · rename_i e hu
    have cellsOk : ∀ {l : List V}, slCells P e n (ps.toList.map fun p => (p.1, evS t p.2)) = some l → (Nat.ble (n * lay1 P e) 16777216 && !Nat.beq (n * lay1 P e) 0) = true → KS (.sl m.length 0 n) (m ++ [.c l]) →
     SWp P (execOp (ev T) ⟨dst, .buildSlice S n ps, ty, pos, after, guard⟩) h (nextK P (PostE ro hr D ρ m chs C KS)) := fun {l} hl hcc hk => by
     obtain ⟨i, z, l', hi, hiz, hf, hr⟩ := slCells_S (ρ := ρ) hl hpm hps
     have hsz : lay1 P e = i.size := by simp [lay1, hi]
     rw [hsz] at hcc hf
     refine eff_sound (H := ⟨[], [], []⟩) ?_
     simp only [effK, hu, hi, hiz, hcc, cond_true, hf]
     refine M.st.new fun b h1 S1 => ?_
     refine ⟨D, ρ ++ [⟨b, none, 0, 0, none⟩], _, chs ++ [_], _, .push M (.refl D), M.new (L := ⟨b, none, 0, 0, none⟩) S1 (.refl D) (.c (RpC.mono (.refl D) _ hr)), .sl (L := ⟨b, none, 0, 0, none⟩) ?_ (fun _ => rfl) (Nat.le_refl _), hk⟩
     rw [← M.len]; simp
    split at hs
    · rename_i zr hz
      cases hc : (Nat.ble (n * lay1 P e) 16777216 && !Nat.beq (n * lay1 P e) 0 && Nat.beq zr.length (lay1 P e)) with
      | true =>
        rw [hc] at hs
        simp only [cond_true] at hs
        simp only [Bool.and_eq_true] at hc
        split at hs
        · rename_i rows m1 hr1
          have hr1 : rowsOf P (hr ++ ro) e (List.replicate n zr) m (ps.toList.map fun p => (p.1, evS t p.2)) = some (rows, m1) := by
           cases hkt : (vw && keepT P e) with
           | true => rw [hkt] at hr1; cases hr1
           | false => rw [hkt] at hr1; exact hr1
          obtain ⟨i, z, hi, hiz, hzr⟩ := zrow_S (D := D) hz
          have hsz : lay1 P e = i.size := by simp [lay1, hi]
          have hzl : z.cells.size = i.size := by
           have := hzr.len
           rw [Nat.eq_of_beq_eq_true hc.2, hsz] at this
           simpa using this
          have hzr2 : zr.length = i.size := by rw [Nat.eq_of_beq_eq_true hc.2, hsz]
          obtain ⟨D1, c1, l', n1, M1, g0, g1, g2, g3⟩ := rowsOf_S (sz := i.size) hsz hr1 M (rep_rd hzr n) (fun r hr => by rw [List.eq_of_mem_replicate hr]; exact hzr2) hpm hps
          rw [← rep_list z.cells n i.size hzl] at g3
          refine eff_sound (H := ⟨[], [], []⟩) ?_
          have hcc : (Nat.ble (n * i.size) 16777216 && !Nat.beq (n * i.size) 0) = true := by rw [← hsz]; simpa using hc.1
          simp only [effK, hu, hi, hiz, hcc, cond_true, g3]
          have hn : rows.length = n := by simpa using g2
          refine M1.st.new fun b h1 S1 => ?_
          have own : Own D1 e i.size (some ⟨b, 0, none⟩) n rows [(b, .cells l'.toArray e (0, 0))] := Own.ofL g0 g1 hn (by
           simp only [Bool.and_eq_true, Bool.not_eq_true'] at hcc
           have hz1 := Nat.le_of_ble_eq_true hcc.1
           have hz2 : n * i.size ≠ 0 := fun e => by rw [e] at hcc; exact absurd hcc.2 (by decide)
           have : n ≤ n * i.size := Nat.le_mul_of_pos_right _ (Nat.pos_of_ne_zero fun e => hz2 (by rw [e, Nat.mul_zero]))
           omega)
          refine ⟨D1, ρ ++ [⟨0, some ⟨b, 0, none⟩, n, n, none⟩], _, c1 ++ [_], _, n1.trans (.push M1 (.refl _)), M1.new S1 (.refl _) (.w (L := ⟨0, some ⟨b, 0, none⟩, n, n, none⟩) (by rw [hsz]; exact own) hn.symm), .w (L := ⟨0, some ⟨b, 0, none⟩, n, n, none⟩) ?_, hs⟩
          rw [← M1.len]; simp
        · split at hs
          · rename_i l hl
            exact cellsOk hl (by simpa using hc.1) hs
          · exact hs.elim
      | false =>
        rw [hc] at hs
        simp only [cond_false] at hs
        obtain ⟨hc2, hk⟩ := cond_spec hs
        simp only [Bool.and_eq_true] at hc2
        have hn0 := Nat.eq_of_beq_eq_true hc2.1
        have hp0 := Nat.eq_of_beq_eq_true hc2.2
        have hp : ps = #[] := Array.eq_empty_of_size_eq_zero hp0
        subst hn0 hp
        obtain ⟨i, z, hi, hiz, hzr⟩ := zrow_S (D := D) hz
        simp only [execOp, Instr.buildSlice]
        refine SWp.bind (SWp_bind (SWp_underlying hu ?_))
        refine SWp_bind (SWp_sizeOf hi ?_)
        rw [if_neg (by simp)]
        rw [if_pos (by simp)]
        refine SWp_bind ?_
        have hf : ∀ (f : Nat → Option (Nat × Nat)) (c : Array Value), Instr.fill f c (Array.map (fun (x : Nat × Operand) => (x.fst, ev T x.snd)) #[]).toList = some c := fun f c => by simp [Instr.fill]
        show SWp P (match Instr.fill (fun i_1 => some (i_1 * i.size, i.size)) (Array.map (fun x => (#[] : Array Value)[x % (#[] : Array Value).size]!) (Array.range (0 * i.size))) (Array.map (fun (x : Nat × Operand) => (x.fst, ev T x.snd)) #[]).toList with
         | some cells => (do let a ← newRow e cells; pure (Value.slice (some a) 0 0)) | _ => stuck "buildSlice: a part of the wrong size") h _
        rw [hf]
        refine SWp_bind ?_
        show newB h (.cells _ e) (fun b h1 => nextK P (PostE ro hr D ρ m chs C KS) (.value (.slice (some ⟨b, 0, none⟩) 0 0)) h1)
        refine M.st.new fun b h1 S1 => ?_
        exact ⟨D, ρ, m, chs, _, .refl, M.mono (.refl D) S1.drop, .c (.nil _ _ _), hk⟩
    · split at hs
      · rename_i l hl
        obtain ⟨hcc, hk⟩ := cond_spec hs
        exact cellsOk hl hcc hk
      · exact hs.elim
  · exact hs.elim
 case makeSlice S l c =>
  refine SWp.r ?_
  split at hs
  · rename_i e l' c' hu hl hc
    split at hs
    · rename_i zr hz
      obtain ⟨hcc, h0, h1, h2, hK⟩ := cond_spec hs
      simp only [Bool.and_eq_true] at hcc
      subst h2
      have e1 := ev_S F l
      have e2 := ev_S F c
      rw [hl] at e1
      rw [hc] at e2
      simp only [execOp, u_int e1, u_int e2]
      exact SWp.bind (makeSlice_S hu hz hcc.1 (Nat.eq_of_beq_eq_true hcc.2) h0 h1 M fun b ρ' chs' h' n M' hv => ⟨D, ρ', _, chs', _, n, M', hv, hK⟩)
    · exact hs.elim
  · exact hs.elim
 case call c =>
  obtain ⟨callee, args, argTypes⟩ := c
  have hargs : args.map (ev T) = (args.toList.map (ev T)).toArray := by apply Array.ext'; rw [Array.toList_map]
  simp only at hs
  split at hs
  · rename_i f
    split at hs
    · rename_i g a cc he
      have hf := ev_S F f
      rw [he] at hf
      refine SWp.r ?_
      obtain ⟨first, cap, hv, hrun⟩ := callv_S (f := .z) (ty := 0) (as' := args.map (ev T)) hcall hx hf hs M (by rw [Array.toList_map]; exact evL_S F _)
      simp only [execOp, resolve, hv, Deferred.ofValue]
      exact call_gen hrun.1 hrun
    · exact hs.elim
  · split at hs
    · rename_i x y S S' hax hat
      refine SWp.r ?_
      obtain ⟨hc, hs2⟩ := cond_spec hs
      have := Nat.eq_of_beq_eq_true hc
      subst this
      have hat : argTypes = #[S, S] := by rw [← Array.toArray_toList (xs := argTypes), hat]
      have hm : args.map (ev T) = #[ev T x, ev T y] := by rw [hargs, hax]; rfl
      subst hat
      have := appS_S (R := ty) hs2 M (ev_S F x) (ev_S F y)
      simp only [execOp, resolve, hm]
      exact SWp.bind (SWp.bind this)
    · exact hs.elim
  · split at hs
    · rename_i x y S S' hax hat
      have hat : argTypes = #[S, S'] := by rw [← Array.toArray_toList (xs := argTypes), hat]
      have hm : args.map (ev T) = #[ev T x, ev T y] := by rw [hargs, hax]; rfl
      subst hat
      intro w hw
      obtain ⟨v, w', hrun, ⟨rfl, m', chs', n, M', hk⟩, hS⟩ := mapDel_S (ty := ty) hs M (ev_S F x) (ev_S F y) w hw
      refine ⟨.value (.tuple #[]), w', ?_, ⟨D, ρ, m', chs', .t [], n, M', .t (vs := []) .nil, hk⟩, hS⟩
      simp [execOp, resolve, invoke, Go.builtin, hm, hrun, Result.andThen]
    · exact hs.elim
  · split at hs
    · rename_i x S hax hat
      refine SWp.r ?_
      have hat : argTypes = #[S] := by rw [← Array.toArray_toList (xs := argTypes), hat]
      have hm : args.map (ev T) = #[ev T x] := by rw [hargs, hax]; rfl
      subst hat
      have := clear_S (ty := ty) hs M (ev_S F x) (K := fun v h' => nextK P (PostE ro hr D ρ m chs C KS) (.value v) h') fun m' chs' h' n M' hk => ⟨D, ρ, m', chs', .t [], n, M', .t (vs := []) .nil, hk⟩
      simp only [execOp, resolve, hm]
      exact SWp.bind (SWp.bind this)
    · exact hs.elim
  · exact hs.elim
 case makeMap S r =>
  cases r with
  | some r => exact hs.elim
  | none =>
    simp only at hs
    split at hs
    · rename_i kt zs E zv ht
      refine SWp.r (eff_sound (H := ⟨[], [], []⟩) ?_)
      simp only [effK]
      refine M.st.new fun b h1 S1 => ?_
      refine ⟨D, ρ ++ [⟨b, none, 0, 0, none⟩], _, chs ++ [_], _, .push M (.refl D), M.new S1 (.refl D) (.p (L := ⟨b, none, 0, 0, none⟩) (.nil kt) .nil (by simp)), .m (L := ⟨b, none, 0, 0, none⟩) ?_, hs⟩
      rw [← M.len]; simp
    · exact hs.elim
 case range S x =>
  split at hs
  · rename_i s hu hx
    have hv := ev_S F x
    rw [hx] at hv
    refine SWp.r ?_
    simp only [execOp, u_str hv]
    refine SWp.bind (SWp_bind (SWp_underlying hu ?_))
    show newB h (.stringIter s 0) (fun b h1 => nextK P (PostE ro hr D ρ m chs C KS) (.value (.pointer (some ⟨b, 0, none⟩))) h1)
    refine M.st.new fun b h1 S1 => ?_
    refine ⟨D, ρ ++ [⟨b, none, 0, 0, none⟩], _, chs ++ [_], _, .push M (.refl D), M.new (L := ⟨b, none, 0, 0, none⟩) S1 (.refl D) (.o (I := .si s 0) rfl), .r (L := ⟨b, none, 0, 0, none⟩) ?_, hs⟩
    rw [← M.len]; simp
  · exact hs.elim
 case next it str =>
  cases str with
  | false => exact hs.elim
  | true =>
    simp only at hs
    split at hs
    · rename_i b hit
      have hro : inL (hr ++ ro) b = false := by
       cases h0 : inL (hr ++ ro) b
       · rfl
       · rw [h0] at hs; exact hs.elim
      rw [hro] at hs
      simp only [cond_false] at hs
      split at hs
      · rename_i I hm
        obtain ⟨s, p, rfl, hs⟩ := hs
        have hv := ev_S F it
        rw [hit] at hv
        obtain ⟨L, ch, hL, hc, he⟩ := M.get (b := b) (by rw [hm]; exact fun e => by cases e)
        rw [hm] at he
        obtain ⟨L2, hL2, hv'⟩ := hv.r_inv
        rw [hL] at hL2
        cases hL2
        have hch : ch = [(L.b, .stringIter s p)] := by cases he with | o h => exact h
        subst hch
        have hb : h[L.b]? = some (.stringIter s p) := M.own hc (List.mem_singleton_self _)
        refine SWp.r ?_
        simp only [execOp, hv']
        refine SWp.bind ?_
        show SWp P (getObj L.b >>= _) h _
        refine SWp_bind ⟨_, hb, rfl, ?_⟩
        show SWp P (if p < s.size then _ else _) h _
        cases hp : Nat.ble (p + 1) s.size with
        | true =>
          rw [hp] at hs
          rw [if_pos (show p < s.size from Nat.le_of_ble_eq_true hp)]
          show SWp P (setObj L.b (.stringIter s (p + (Utf8.decode s p).2)) >>= _) h _
          refine SWp_bind ⟨⟨_, hb, rfl⟩, ?_⟩
          have S := M.front hc
          have S' : St D ([(L.b, .stringIter s (p + (Utf8.decode s p).2))] :: (chs ++ C).eraseIdx b) (h.setIfInBounds L.b (.stringIter s (p + (Utf8.decode s p).2))) := S.upd .setb (by simp [lt_of_get hb]) (by simp) (by simp)
          exact ⟨D, ρ, _, _, _, .set (.refl D) hro, M.put hL hc S' (.refl D) (.o (I := .si s (p + (Utf8.decode s p).2)) rfl), .t (.cons (.u (.bool _)) (.cons (.u (.int _ _)) (.cons (.u (.int _ _)) .nil))), hs⟩
        | false =>
          rw [hp] at hs
          rw [if_neg (fun hh : p < s.size => by rw [Nat.ble_eq_true_of_le hh] at hp; cases hp)]
          exact ⟨D, ρ, _, _, _, .refl, M, .t (.cons (.u (.bool _)) .nil), hs⟩
      · exact hs.elim
    · exact hs.elim
 case mapUpdate S x k v =>
  intro w hw
  obtain ⟨u, w', hrun, ⟨D', m', chs', n, M', hk⟩, hS⟩ := mapUpd_S hs M (ev_S F x) (ev_S F k) (ev_S F v) w hw
  refine ⟨.skip, w', ?_, ⟨D', ρ, m', chs', .z, n, M', .z, hk⟩, hS⟩
  simp [execOp, hrun, Result.andThen]
 all_goals exact hs.elim
end Go.Proofs.YtaogfopaalancaaDoor
/- The symbolic engine, part i: regions. -/
set_option linter.unusedVariables false
namespace Go.Proofs.YtaogfopaalancaaDoor
open Go
variable {P : Program} {D D' : Fz} {ρ : List Loc} {m : Mem} {chs C : List Chunk} {h h' : Heap} {T : List Value} {t : List V} {ro hr : List Nat}
theorem Own.take {E sz c : Nat} {a : Option Addr} {rows : List (List U)} {ch : Chunk} (x : Own D E sz a c rows ch) (r : Nat) : Own D E sz a c (rows.take r) ch := by
 cases x with
 | nil => simp only [List.take_nil]; exact .nil _
 | row b c arr rows v h1 h2 h3 h4 h5 =>
   have sub : ∀ {i : Nat} {q : List U}, (rows.take r)[i]? = some q → rows[i]? = some q := fun hi => by
    rw [List.getElem?_take] at hi; split at hi; exact hi; cases hi
   exact .row b c arr _ v h1 (by simp; omega) (fun q hq => h3 q (List.mem_of_mem_take hq)) (fun i j q u hi hj => h4 i j q u (sub hi) hj) fun i j q u hi hj => h5 i j q u (sub hi) hj
theorem frz_nums {b S : Nat} {xs : List Int} (hd : D b = some (.cells (xs.map (Value.int .i64)).toArray S (0, 0))) : Rd D (.slice (some ⟨b, 0, none⟩) xs.length xs.length) (.l 1 (xs.map numRow)) := by
 have := Rd.row (D := D) b 0 xs.length (xs.map (Value.int .i64)).toArray S (0, 0) (xs.map numRow) 1 (fun i _ => .int .i64 (xs.getD i 0)) hd (by simp) (fun r hr => by obtain ⟨x, -, rfl⟩ := List.mem_map.1 hr; rfl)
  (fun i j r u hi hj => by
   rw [List.getElem?_map] at hi
   obtain ⟨x, hx, rfl⟩ := Option.map_eq_some_iff.1 hi
   have : j = 0 := by cases j with | zero => rfl | succ j => simp [numRow] at hj
   subst this
   simp [hx])
  (fun i j r u hi hj => by
   rw [List.getElem?_map] at hi
   obtain ⟨x, hx, rfl⟩ := Option.map_eq_some_iff.1 hi
   have : j = 0 := by cases j with | zero => rfl | succ j => simp [numRow] at hj
   subst this
   simp [numRow] at hj
   subst hj
   simp only [List.getD_eq_getElem?_getD, hx, Option.getD_some]
   exact .int _ _)
 simpa using this
theorem cut_S {o : Oper} {KS : V → Mem → Prop} {p : Prop} (hc : cutS P (hr ++ ro) t m o KS = some p) (hs : p) (M : SAt D ρ m chs C h) (F : RpL D ρ T t) :
 ∃ v D' ρ' m' chs' x, Nx ro hr D ρ m chs D' ρ' m' chs' ∧ SAt D' ρ' m' chs' C h ∧ Rp D' ρ' v x ∧ KS x m' ∧ ∀ w, (execOp (ev T) o).run P w = .ok (.value v) w := by
 obtain ⟨dst, op, ty, pos, after, guard⟩ := o
 cases op <;> simp only [cutS] at hc <;> try (cases hc; done)
 case slice S x lo hi mx =>
  cases mx with
  | some mx => simp at hc
  | none =>
    simp only at hc
    have hx := ev_S F x
    split at hc
    · rename_i b he
      rw [he] at hx
      split at hc
      · rename_i e E sz rows hu hm
        split at hc
        · rename_i l r hl hr'
          simp only [Option.some.injEq] at hc
          subst hc
          cases hb : (inL (hr ++ ro) b || !(Nat.beq sz (lay1 P e) && !Nat.beq sz 0)) with
          | true => rw [hb] at hs; exact hs.elim
          | false =>
            rw [hb] at hs
            simp only [cond_false] at hs
            simp only [Bool.or_eq_false_iff, Bool.not_eq_false', Bool.and_eq_true, Bool.not_eq_true'] at hb
            have hse := Nat.eq_of_beq_eq_true hb.2.1
            subst hse
            have hne : lay1 P e ≠ 0 := fun h0 => by rw [h0] at hb; simp at hb
            have hnz : ∀ {A : Prop}, A → nz (lay1 P e) A := fun hA => by unfold nz; rw [hb.2.2]; exact hA
            obtain ⟨L, hL, hv⟩ := hx.w_inv
            obtain ⟨L', ch, h1, h2, h3⟩ := M.get (b := b) (by rw [hm]; simp)
            rw [hL] at h1; cases h1
            rw [hm] at h3
            cases h3 with
            | w own hn =>
              have hcap := own.len
              have hr2 : bnd T hi (L.n : Int) = some r := by rw [hn]; exact bnd_S F hr'
              cases lo with
              | none =>
                simp only at hs
                obtain ⟨g0, g1, hK⟩ := hs
                have M1 := M.put (C' := ch :: C) hL h2 (ch' := []) (by
                 have hlt := (List.getElem?_eq_some_iff.1 h2).1
                 have S' := M.front h2
                 rw [List.eraseIdx_append_of_lt_length hlt] at S' ⊢
                 exact S'.mid.nil) (.refl D) .x
                have M2 := M1.push (L := ⟨0, L.a, r.toNat, L.c, none⟩) (ab := .w E (lay1 P e) (rows.take r.toNat)) (.w (own.take _) (by simp; omega))
                refine ⟨.slice L.a r.toNat L.c, D, _, _, _, _, (Nx.set (.refl D) hb.1).trans (.push M1 (.refl D)), M2, .w (L := ⟨0, L.a, r.toNat, L.c, none⟩) (by rw [← M.len]; simp), hK, fun w => yp ?_ w⟩
                simp only [pureK, hu, hv, hr2]
                exact ⟨g0, by omega, hnz rfl⟩
              | some lo =>
                simp only at hs
                obtain ⟨g0, g1, g2, hK⟩ := hs
                obtain ⟨D', l', S', hrd⟩ := own.freeze (M.front h2)
                have hpart := hrd.part (l := l.toNat) (r := r.toNat) (by omega) (by omega)
                refine ⟨_, D', ρ, _, _, _, .set l' hb.1, M.put hL h2 S'.nil l' .x, .u hpart, hK, fun w => yp ?_ w⟩
                simp only [pureK, hu, hv, bnd_S F hl, hr2]
                exact ⟨g0, g1, by omega, hnz (by first | rfl | trivial)⟩
        · cases hc; exact hs.elim
      · cases hc; exact hs.elim
    · rename_i b he
      rw [he] at hx
      split at hc
      · rename_i k w xs hm
        obtain ⟨L, hL, hv⟩ := hx.r_inv
        obtain ⟨L', ch, h1, h2, h3⟩ := M.get (b := b) (by rw [hm]; simp)
        rw [hL] at h1; cases h1
        rw [hm] at h3
        cases h3 with
        | c hcc =>
          rename_i arr S'
          -- the block is frozen
          have fin : k = .i64 → inL (hr ++ ro) b = false → KS (.u (.l 1 (xs.map numRow))) (ms m b .x) → xs.length = w → (∀ wd, (execOp (ev T) ⟨dst, .slice S x none none none, ty, pos, after, guard⟩).run P wd = .ok (.value (.slice (some ⟨L.b, 0, none⟩) w w)) wd) →
           ∃ v D' ρ' m' chs' x', Nx ro hr D ρ m chs D' ρ' m' chs' ∧ SAt D' ρ' m' chs' C h ∧ Rp D' ρ' v x' ∧ KS x' m' ∧ ∀ w, (execOp (ev T) ⟨dst, .slice S x none none none, ty, pos, after, guard⟩).run P w = .ok (.value v) w := by
           intro hk hb hK hw hrun
           subst hk
           have harr : arr = xs.map (.int .i64) := by
            cases hcc with
            | cons a n b => exact absurd rfl (n _ _ _)
            | n hl b => cases b; simp
           subst harr
           obtain ⟨D', l', g, S''⟩ := (M.front h2).freeze
           refine ⟨_, D', ρ, _, _, _, .set l' hb, M.put hL h2 S''.nil l' .x, .u (frz_nums (g _ (List.mem_singleton_self _))), hK, fun wd => ?_⟩
           rw [hrun wd, hw]
          have hlen : xs.length = w := by
           cases hcc with
           | cons a n b => exact absurd rfl (n _ _ _)
           | n hl b => exact hl
          have k3 : Nat.beq (kindNo k) 3 = true → k = .i64 := fun hk => by cases k <;> first | rfl | simp [kindNo] at hk
          split at hc
          · rename_i n e hu
            simp only [Option.some.injEq] at hc
            subst hc
            obtain ⟨hq, hK⟩ := cond_spec hs
            simp only [Bool.and_eq_true, Bool.not_eq_true'] at hq
            have e1 := Nat.eq_of_beq_eq_true hq.1.1.2
            have e2 := Nat.eq_of_beq_eq_true hq.1.2
            refine fin (k3 hq.2) hq.1.1.1 hK hlen fun wd => yp ?_ wd
            have h0 : (0 : Int) ≤ (n : Int) := Int.natCast_nonneg n
            simp only [pureK, hu, hv, bnd]
            refine ⟨h0, Int.le_refl _, ?_⟩
            rw [e2, ← e1]
            simp [nz, slA, subN]
          · rename_i A hu
            split at hc
            · rename_i n e hA
              simp only [Option.some.injEq] at hc
              subst hc
              obtain ⟨hq, hK⟩ := cond_spec hs
              simp only [Bool.and_eq_true, Bool.not_eq_true'] at hq
              have e1 := Nat.eq_of_beq_eq_true hq.1.1.2
              have e2 := Nat.eq_of_beq_eq_true hq.1.2
              refine fin (k3 hq.2) hq.1.1.1 hK hlen fun wd => yp ?_ wd
              have h0 : (0 : Int) ≤ (n : Int) := Int.natCast_nonneg n
              simp only [pureK, hu, hv, hA, bnd]
              refine ⟨h0, Int.le_refl _, ?_⟩
              rw [e2, ← e1]
              simp [nz, slA, subN]
            · cases hc; exact hs.elim
          · cases hc; exact hs.elim
      · cases hc; exact hs.elim
    · cases hc
theorem bytesU_get {b : ByteArray} {i : Nat} {r : List U} (hi : (bytesU b)[i]? = some r) : ∃ c, b.data.toList[i]? = some c ∧ [U.i .u8 (c.toNat : Int)] = r := by
 unfold bytesU at hi
 rw [List.getElem?_map] at hi
 exact Option.map_eq_some_iff.1 hi
theorem str_S {o : Oper} {x : V} (hs : strS P t m o = some x) (M : SAt D ρ m chs C h) (F : RpL D ρ T t) (w : World) (hw : w.heap = h) :
 ∃ v w' D', (execOp (ev T) o).run P w = .ok (.value v) w' ∧ Le D D' ∧ St D' (chs ++ C) w'.heap ∧ Rp D' ρ v x ∧ Same w w' := by
 obtain ⟨dst, op, ty, pos, after, guard⟩ := o
 unfold strS at hs
 cases op <;> simp only at hs <;> try (cases hs; done)
 case convert s d y =>
  split at hs
  · rename_i sd e b h1 h2 h3
    split at hs
    · rename_i h4
      cases hs
      have hx := ev_S F y
      rw [h3] at hx
      have hx := u_str hx
      have hrun : (execOp (ev T) ⟨dst, .convert s d y, ty, pos, after, guard⟩).run P w = .ok (.value (.slice (some ⟨w.heap.size, 0, none⟩) b.size (grownCap w b.size 0 e))) (Lib.bytesWorld w e b) := by
       simp only [execOp, hx]
       rw [Sem.run_bind, Lib.run_convert_string_bytes w s d e b h1 h2 h4]
       rfl
      have k : KB [] h (Lib.bytesWorld w e b).heap := by
       subst hw
       exact ⟨by rw [Lib.bytesWorld_size]; omega, fun j hj _ => Lib.bytesWorld_at_old w e b j hj⟩
      have hnew := Lib.bytesWorld_at_new w e b
      have S1 : St D ([(w.heap.size, .cells (Lib.bytesCells w e b) e ((Lib.bytesCells w e b).size, (Lib.bytesCells w e b).size + 1))] :: (chs ++ C)) (Lib.bytesWorld w e b).heap :=
       M.st.nil.upd k (by simpa using hnew) (by simp) (by simp [hw])
      obtain ⟨D', l, g, S2⟩ := S1.freeze
      refine ⟨_, _, D', hrun, l, S2, .u ?_, ⟨rfl, rfl, rfl, .succ _⟩⟩
      have hlen : (bytesU b).length = b.size := by simp [bytesU]
      rw [← hlen]
      refine .row w.heap.size 0 _ _ e _ (bytesU b) 1 (fun i _ => .int .u8 (b.data.toList.getD i 0).toNat) (g _ (List.mem_singleton_self _)) ?_ (by simp [bytesU]) (fun i j r u hi hj => ?_) fun i j r u hi hj => ?_
      · rw [hlen]; exact grownCap_ge _ _ _ _
      · obtain ⟨c, hc, rfl⟩ := bytesU_get hi
        have hib : i < b.size := by
         have := (List.getElem?_eq_some_iff.1 hc).1
         simpa using this
        have hj0 : j = 0 := by have := (List.getElem?_eq_some_iff.1 hj).1; simp at this; omega
        subst hj0
        rw [Nat.zero_add, Nat.mul_one, Nat.add_zero, ← hcell_of hnew i]
        exact Lib.bytesWorld_cell w e b i hib
      · obtain ⟨c, hc, rfl⟩ := bytesU_get hi
        have hj0 : j = 0 := by have := (List.getElem?_eq_some_iff.1 hj).1; simp at this; omega
        subst hj0
        cases hj
        rw [List.getD_eq_getElem?_getD, hc]
        exact .int _ _
    · cases hs
  · rename_i e hA hB
    have h1 : P.underlying s = some (.slice e) := by assumption
    have h2 : P.underlying d = some .string := by assumption
    split at hs
    · rename_i rows h4 h5
      split at hs
      · rename_i ns hns
        cases hs
        have hrows := byteR_S hns
        obtain ⟨a, c, hv, hsrc⟩ := srcS_S h5 M (ev_S F y)
        have hrun := bstr_run (P := P) (w := w) (c := c) hrows (by rw [hw]; exact hsrc)
        refine ⟨.string (strOf ns), w, D, ?_, .refl D, by rw [hw]; exact M.st, .u (.str _), .refl w⟩
        simp only [execOp, hv]
        rw [Sem.run_bind, run_convert_bytes_string w s d e a _ _ h1 h4 h2, hrun]
        rfl
      · cases hs
    · cases hs
  · cases hs
theorem op_S {X : Fz → List Loc → Prop} {call : CallH} (hcall : CallOk P X ro hr call) (hx : X D ρ) {o : Oper} {KS : V → Mem → Prop} {a : Act} {w : World} {vw : Bool} (hs : opS P vw (hr ++ ro) call t m o KS) (M : SAt D ρ m chs C w.heap) (F : RpL D ρ a.tmps.toList t)
 {next : Act → World → Prop} {Q : Exit → Act → World → Prop} (hn : ∀ v w', PostE ro hr D ρ m chs C KS v w'.heap → Same w w' → next (a.put o.dst v) w') : o.wp P a w next Q := by
 unfold opS at hs
 split at hs
 · rename_i p hc
   cases vw with
   | true =>
     have hc : strP P t m o KS = some p := hc
     unfold strP at hc
     cases ho : strO P o with
     | false => rw [ho] at hc; cases hc
     | true =>
       rw [ho] at hc
       simp only [cond_true] at hc
       split at hc
       · rename_i x hx'
         cases hc
         obtain ⟨v, w', D', hrun, l, S', r, same⟩ := str_S hx' M F w rfl
         unfold Oper.wp
         rw [eval_eq, hrun]
         exact hn v w' ⟨D', ρ, m, chs, x, ⟨l, ⟨[], by simp⟩, fun _ _ _ => rfl, fun _ _ _ => rfl, Nat.le_refl _⟩, M.mono l S', r.mono (.refl _) [] |> fun r => by rwa [List.append_nil] at r, hs⟩ same
       · cases hc; exact hs.elim
   | false =>
     have hc : cutS P (hr ++ ro) t m o KS = some p := hc
     obtain ⟨v, D', ρ', m', chs', x, n, M', hv, hK, hrun⟩ := cut_S hc hs M F
     unfold Oper.wp
     rw [eval_eq, hrun w]
     exact hn v w ⟨D', ρ', m', chs', x, n, M', hv, hK⟩ (.refl w)
 · cases hq : quietB o with
   | true =>
     rw [hq] at hs
     simp only [cond_true] at hs
     obtain ⟨v, x, hK, hv, hrun⟩ := quiet_S hs M F
     unfold Oper.wp
     rw [eval_eq, hrun w (.inr (M.hs _ rfl))]
     exact hn v w ⟨D, ρ, m, chs, x, .refl, M, hv, hK⟩ (.refl w)
   | false =>
     rw [hq] at hs
     simp only [cond_false] at hs
     exact gen_soundR (eff_S hcall hx hs M F) (eval_eq a) rfl hn
theorem vset_self : ∀ (t : List V) (d : Nat), vset t d (vget t d) = t
 | [], _ => rfl
 | _ :: _, 0 => rfl
 | y :: t, d + 1 => by simp only [vset, vget]; rw [vset_self t d]
theorem guard_S {ops : List Oper} {o : Oper} {a : Act} {A B : List V → Prop} (hs : guardS ops o t A B) (F : RpL D ρ a.tmps.toList t) :
 (Region.wanted o (yielded ops.toArray a.tmps) = true ∧ A t) ∨ (Region.wanted o (yielded ops.toArray a.tmps) = false ∧ B t) := by
 have key : guarded ops o a.tmps.toList (fun _ => A t) (fun _ => B t) := by
  unfold guardS at hs
  unfold guarded
  split at hs
  · rename_i hg; (try rw [hg]); exact hs
  · rename_i hg; (try rw [hg]); exact hs
  · rename_i d want hg
    (try rw [hg])
    split at hs
    · rename_i c he
      have hv := F.get d
      rw [he] at hv
      simp only [u_bool hv]
      have e : vset t d (.u (.b c)) = t := by rw [← he]; exact vset_self t d
      cases c <;> cases want <;> simp only [cond_true, cond_false] at hs ⊢ <;> (rw [e] at hs; exact hs)
    · rename_i he
      have hv := F.get d
      rw [he] at hv
      have e : lget a.tmps.toList d = undef := by
       generalize lget a.tmps.toList d = v at hv
       cases hv with
       | t h => cases h; rfl
      simp only [e, undef]
      exact hs
    · exact hs.elim
 exact guarded_spec key
structure UpS (md : List Nat) (T : List Value) (w : World) (ro hr : List Nat) (D : Fz) (ρ : List Loc) (m : Mem) (chs C : List Chunk) (K : List V → Mem → Prop) (a' : Act) (w' : World) : Prop where
 df : a'.defers = []
 sm : Same w w'
 ag : Agr md T a'.tmps.toList
 ex : ∃ D' ρ' m' chs' t', Nx ro hr D ρ m chs D' ρ' m' chs' ∧ SAt D' ρ' m' chs' C w'.heap ∧ RpL D' ρ' a'.tmps.toList t' ∧ K t' m'
def wpG (P : Program) (ops : List Oper) (Q : Exit → Act → World → Prop) : Nat → List (Nat × (World → Prop)) → Array Bool → Act → World → Prop
 | 0, _, listed, a, w => Region.ready .any ops.toArray listed = [] ∧ Q .normal a w
 | n + 1, Cs, listed, a, w => (Region.ready .any ops.toArray listed = [] → Q .normal a w) ∧
   ∀ i ∈ Region.ready .any ops.toArray listed, wpOp P ops.toArray Q i (fun a' w' => (∀ c ∈ Cs, waits ops ops.length c.1 i = false → c.2 w → c.2 w') ∧ wpG P ops Q n (Cs.filter fun c => !waits ops ops.length c.1 i) (listed.setIfInBounds i true) a' w') a w
theorem wpG_any {ops : List Oper} {Q : Exit → Act → World → Prop} : ∀ (n : Nat) (Cs : List (Nat × (World → Prop))) (listed : Array Bool) (a : Act) (w : World), wpG P ops Q n Cs listed a w → wpAny P .any ops.toArray Q n listed a w
 | 0, _, _, _, _, h => h
 | n + 1, _, _, _, _, h => ⟨h.1, fun i hi => wpOp_mono (fun a' w' hh => wpG_any n _ _ a' w' hh.2) (h.2 i hi)⟩
theorem wpG_mono {ops : List Oper} {Q : Exit → Act → World → Prop} : ∀ (n : Nat) (Cs Cs' : List (Nat × (World → Prop))) (listed : Array Bool) (a : Act) (w : World), (∀ c ∈ Cs, c ∈ Cs') → wpG P ops Q n Cs' listed a w → wpG P ops Q n Cs listed a w
 | 0, _, _, _, _, _, _, h => h
 | n + 1, Cs, Cs', listed, a, w, hs, h => ⟨h.1, fun k hk => wpOp_mono (fun a' w' hh => ⟨fun c hc => hh.1 c (hs c hc), wpG_mono n _ _ _ _ _ (fun c hc => by
     rw [List.mem_filter] at hc ⊢; exact ⟨hs c hc.1, hc.2⟩) hh.2⟩) (h.2 k hk)⟩
theorem wpG_first {ops : List Oper} {Q : Exit → Act → World → Prop} {i : Nat} {oi : Oper} {v : Value} {C : World → Prop} (hi : ops[i]? = some oi)
 (hsel : ∀ (j : Nat) (o : Oper) cs b, ops[j]? = some o → o.op ≠ .select cs b) (hQ : ∀ c a w, ¬ Q (.panic c) a w) (hQo : ∀ a w, ¬ Q .outgrown a w) :
 ∀ (fuel : Nat) (Cs Cs' : List (Nat × (World → Prop))) (listed : Array Bool) (a : Act) (w : World), (∀ c ∈ Cs, c ∈ Cs') → ((∀ w, C w) ∨ (i, C) ∈ Cs') → Closed ops listed →
   (∀ j oj, ops[j]? = some oj → j ≠ i → listed.getD j true = false → (∀ e ∈ oj.after, Region.binds .any e = true → e.on ≠ i) → oi.apart ops.toArray oj = true) →
   i ∈ Region.ready .any ops.toArray listed → YieldC P ops oi v C a → C w →
   wpG P ops Q fuel Cs' (listed.setIfInBounds i true) (a.put oi.dst v) w → wpG P ops Q (fuel + 1) Cs listed a w := by
 intro fuel
 induction fuel with
 | zero =>
   intro Cs Cs' listed a w hsub hiC hcl _ hr hy hCw H
   refine ⟨fun h => (by rw [h] at hr; cases hr), fun j hj => ?_⟩
   by_cases hji : j = i
   · subst hji; exact hy.wpOp hi hCw ⟨fun _ _ _ h => h, H⟩
   · have := ready_mono hj hji
     rw [H.1] at this
     cases this
 | succ fuel ih =>
   intro Cs Cs' listed a w hsub hiC hcl hfree hr hy hCw H
   refine ⟨fun h => (by rw [h] at hr; cases hr), fun j hj => ?_⟩
   by_cases hji : j = i
   · subst hji
     refine hy.wpOp hi hCw ⟨fun _ _ _ h => h, wpG_mono _ _ _ _ _ _ (fun c hc => hsub c (List.mem_filter.1 hc).1) H⟩
   · have h1 := H.2 j (ready_mono hj hji)
     obtain ⟨hjun, oj, hoj, hall⟩ := mem_ready.1 hj
     have hoj' : ops[j]? = some oj := by simpa using hoj
     have hiun := (mem_ready.1 hr).1
     have hil : listed.getD i false = false := by
      rcases Nat.lt_or_ge i listed.size with h' | h'
      · simp [h'] at hiun ⊢; exact hiun
      · simp [Array.getElem?_eq_none h'] at hiun
     have hnot : ∀ e ∈ oj.after, Region.binds .any e = true → e.on ≠ i := fun e he hb heq => by
      have h1 := hall e he hb
      rw [heq, hil] at h1
      cases h1
     have hnw : waits ops ops.length i j = false := by
      cases hw : waits ops ops.length i j with
      | false => rfl
      | true =>
        have := waits_listed hcl ops.length j oj hoj' hall hw
        rw [hil] at this; cases this
     have h2 := wpOp_putC hoj' (hfree j oj hoj' hji hjun hnot) (fun cs b => hsel i oi cs b hi) (fun cs b => hsel j oj cs b hoj') hQ hQo hy h1
     have hfree' : ∀ k ok, ops[k]? = some ok → k ≠ i → (listed.setIfInBounds j true).getD k true = false →
      (∀ e ∈ ok.after, Region.binds .any e = true → e.on ≠ i) → oi.apart ops.toArray ok = true := fun k ok hk hki hun hno => by
      refine hfree k ok hk hki ?_ hno
      by_cases hjk : j = k
      · subst hjk; exact hjun
      · rw [getD_set_ne true hjk] at hun; exact hun
     refine wpOp_mono (fun a' w' h3 => ⟨fun c hc => h3.2.1 c (hsub c hc), ih _ (Cs'.filter fun c => !waits ops ops.length c.1 j) (listed.setIfInBounds j true) a' w' (fun c hc => by rw [List.mem_filter] at hc ⊢; exact ⟨hsub c hc.1, hc.2⟩) ?_ (hcl.set hj) hfree' (ready_mono hr (Ne.symm hji)) h3.1 ?_ ?_⟩) h2
     · rcases hiC with hC | hC
       · exact .inl hC
       · exact .inr (List.mem_filter.2 ⟨hC, by simp [hnw]⟩)
     · rcases hiC with hC | hC
       · exact hC w'
       · exact h3.2.1 (i, C) hC hnw hCw
     · rw [Array.setIfInBounds_comm _ _ hji]
       exact h3.2.2
def HeldOk (D : Fz) (chs : List Chunk) (held : List (Nat × List Nat)) (Cs : List (Nat × (World → Prop))) : Prop :=
 ∀ c ∈ Cs, ∃ bs, (c.1, bs) ∈ held ∧ ∀ w, Hs D chs bs w → c.2 w
theorem heldB_mem {ops : List Oper} {e : Nat} : ∀ {held : List (Nat × List Nat)} {i : Nat} {bs : List Nat} {b : Nat}, (i, bs) ∈ held → waits ops ops.length i e = false → inL bs b = true → inL (heldB ops e held) b = true
 | (j, cs) :: held, i, bs, b, hm, hw, hb => by
   simp only [heldB]
   rcases List.mem_cons.1 hm with h1 | h1
   · cases h1
     rw [hw, cond_false]
     exact inL_left hb
   · have := heldB_mem h1 hw hb
     cases waits ops ops.length j e
     · rw [cond_false, inL_iff, List.mem_append]; exact .inr (inL_iff.1 this)
     · exact this
theorem Nx.weak {hx : List Nat} {D' : Fz} {ρ' : List Loc} {m' : Mem} {chs' : List Chunk} (n : Nx ro (hx ++ hr) D ρ m chs D' ρ' m' chs') : Nx ro hr D ρ m chs D' ρ' m' chs' where
 le := n.le
 pre := n.pre
 keep b h1 h2 := n.keep b (by rw [inL_iff] at h1 ⊢; simp [h1]) h2
 same b h1 h2 := n.same b (by rw [inL_iff] at h1 ⊢; simp at h1 ⊢; rcases h1 with h1 | h1 <;> simp [h1]) h2
 len := n.len
theorem draw_S {vw : Bool} {X : Fz → List Loc → Prop} (hX : ∀ {D D' : Fz} {ρ : List Loc} (s : List Loc), X D ρ → Le D D' → X D' (ρ ++ s)) {call : List Nat → CallH} (hcall : ∀ hx, CallOk P X ro (hx ++ hr) (call (hx ++ hr))) {ops : List Oper} {K : List V → Mem → Prop} {md : List Nat} {Q : Exit → Act → World → Prop} (hsel : Region.noSelect ops.toArray = true)
 (hQ : ∀ c a w, ¬ Q (.panic c) a w) (hQo : ∀ a w, ¬ Q .outgrown a w) (hm : ∀ o ∈ ops, ∀ d, o.dst = some d → d ∈ md) :
 ∀ (n : Nat) (done : List Nat) (held : List (Nat × List Nat)) (Cs : List (Nat × (World → Prop))) (listed : Array Bool) (a : Act) (w : World) (t : List V) (D : Fz) (ρ : List Loc) (m : Mem) (chs : List Chunk), drawS P vw ro hr call ops K n done held t m → drawB ops n done = true →
   Lst ops done listed → Closed ops listed → a.defers = [] → X D ρ → SAt D ρ m chs C w.heap → RpL D ρ a.tmps.toList t → HeldOk D chs held Cs → (∀ a' w', UpS md a.tmps.toList w ro hr D ρ m chs C K a' w' → Q .normal a' w') → wpG P ops Q n Cs listed a w := by
 intro n
 induction n with
 | zero =>
   intro done held Cs listed a w t D ρ m chs hh hB hL hcl hd xx M F hH hK
   refine ⟨?_, hK a w ⟨hd, .refl w, .refl _ _, D, ρ, m, chs, t, .refl, M, F, hh⟩⟩
   simp only [drawB, List.all_eq_true, List.mem_range] at hB
   rw [List.eq_nil_iff_forall_not_mem]
   intro i hi
   obtain ⟨h0, o, ho, -⟩ := mem_ready.1 hi
   have hlt : i < ops.length := by
    have := (Array.getElem?_eq_some_iff.1 ho).1
    simpa using this
   rw [hL.eq i hlt, hB i hlt] at h0
   cases h0
 | succ n ih =>
   intro done held Cs listed a w t D ρ m chs hh hB hL hcl hd xx M F hH hK
   simp only [drawS] at hh
   simp only [drawB] at hB
   have sel : ∀ (j : Nat) (o : Oper) cs b, ops[j]? = some o → o.op ≠ .select cs b := fun j o cs b hj => Region.noSelect_spec hsel j o cs b (by simpa using hj)
   -- what is shown of the rest
   have rest : ∀ (i : Nat) (o : Oper) (ho : ops[i]? = some o) (hri : i ∈ Region.ready .any ops.toArray listed) (hB2 : drawB ops n (i :: done) = true) (held' : List (Nat × List Nat)) (Cs' : List (Nat × (World → Prop))) (v : Value) (x : V) (w' : World) (D' : Fz) (ρ' : List Loc) (m' : Mem) (chs' : List Chunk),
    drawS P vw ro hr call ops K n (i :: done) held' (vput t o.dst x) m' → Same w w' → Nx ro hr D ρ m chs D' ρ' m' chs' → SAt D' ρ' m' chs' C w'.heap → Rp D' ρ' v x → HeldOk D' chs' held' Cs' →
    wpG P ops Q n Cs' (listed.setIfInBounds i true) (a.put o.dst v) w' := fun i o ho hri hB2 held' Cs' v x w' D' ρ' m' chs' h1 hS nx M' hv hH' => by
    have hilt : i < ops.length := (List.getElem?_eq_some_iff.1 ho).1
    have homem : o ∈ ops := List.mem_of_getElem? ho
    have hput : ∀ v, Agr md a.tmps.toList (a.put o.dst v).tmps.toList := fun v => by rw [put_list]; exact .put v fun d hd => hm o homem d hd
    refine ih (i :: done) held' Cs' _ (a.put o.dst v) w' _ D' ρ' m' chs' h1 hB2 (hL.set i hilt) (hcl.set hri) (by rw [put_defers']; exact hd) (by obtain ⟨s, rfl⟩ := nx.pre; exact hX s xx nx.le) M' (by rw [put_list]; exact (nx.rpL F).put hv) hH' fun a' w'' hU => ?_
    obtain ⟨D2, ρ2, m2, c2, t2, n2, r⟩ := hU.ex
    exact hK a' w'' ⟨hU.df, hS.trans hU.sm, (hput v).trans hU.ag, D2, ρ2, m2, c2, t2, nx.trans n2, r⟩
   cases hn : nextQ ops done with
   | some i =>
     obtain ⟨hrd, o, ho, hq⟩ := nextQ_spec hn
     rw [hn] at hh hB
     simp only [ho, Bool.and_eq_true] at hh hB
     obtain ⟨hB1, hB2⟩ := hB
     have hri : i ∈ Region.ready .any ops.toArray listed := (mem_readyL hL).2 hrd
     have rest := rest i o ho hri hB2
     have hfree : ∀ j oj, ops[j]? = some oj → j ≠ i → listed.getD j true = false → (∀ e ∈ oj.after, Region.binds .any e = true → e.on ≠ i) → o.apart ops.toArray oj = true := by
      intro j oj hj hji hun hno
      have hjlt : j < ops.length := (List.getElem?_eq_some_iff.1 hj).1
      have h1 := List.all_eq_true.1 hB1 j (List.mem_range.2 hjlt)
      rw [hj] at h1
      rw [hL.eq j hjlt] at hun
      simp only [Bool.or_eq_true, beq_iff_eq, hji, false_or, hun, Bool.false_eq_true, List.any_eq_true, Bool.and_eq_true] at h1
      rcases h1 with ⟨e, he, hb, hon⟩ | h1
      · exact absurd hon (hno e (by simpa using he) hb)
      · exact h1
     rcases guard_S hh F with ⟨hw, h1⟩ | ⟨hw, h1⟩
     · obtain ⟨v, x, hKx, hv, hr'⟩ := quiet_S h1 M F
       cases hp : pureS o with
       | true =>
         rw [hp] at hKx
         simp only [cond_true] at hKx
         exact wpG_first (C := fun _ => True) ho sel hQ hQo n Cs Cs listed a w (fun _ h => h) (.inl fun _ => trivial) hcl hfree hri (.inl ⟨hw, fun w' _ => by rw [eval_eq]; exact hr' w' (.inl hp)⟩) trivial (rest held Cs v x w D ρ m chs hKx (.refl w) .refl M hv hH)
       | false =>
         rw [hp] at hKx
         simp only [cond_false] at hKx
         refine wpG_first (C := fun w' => (execOp (ev a.tmps.toList) o).run P w' = .ok (.value v) w') ho sel hQ hQo n Cs ((i, fun w' => (execOp (ev a.tmps.toList) o).run P w' = .ok (.value v) w') :: Cs) listed a w (fun c hc => List.mem_cons_of_mem _ hc)
          (.inr (List.mem_cons_self ..)) hcl hfree hri (.inl ⟨hw, fun w' hw' => by rw [eval_eq]; exact hw'⟩) (hr' w (.inr (M.hs _ rfl))) (rest _ _ v x w D ρ m chs hKx (.refl w) .refl M hv ?_)
         intro c hc
         rcases List.mem_cons.1 hc with rfl | hc
         · exact ⟨_, List.mem_cons_self .., fun w hw => hr' w (.inr hw)⟩
         · obtain ⟨bs, h1, h2⟩ := hH c hc
           exact ⟨bs, List.mem_cons_of_mem _ h1, h2⟩
     · exact wpG_first (C := fun _ => True) ho sel hQ hQo n Cs Cs listed a w (fun _ h => h) (.inl fun _ => trivial) hcl hfree hri (.inr ⟨hw, rfl⟩) trivial (rest held Cs undef (.t []) w D ρ m chs h1 (.refl w) .refl M (.t .nil) hH)
   | none =>
     rw [hn] at hh hB
     simp only at hh hB
     obtain ⟨hne, hall⟩ := conjL_spec hh
     have hmem : ∀ j, j ∈ Region.ready .any ops.toArray listed → j ∈ readies ops done := fun j hj => by
      have hjr := (mem_readyL hL).1 hj
      have hjlt : j < ops.length := by
       obtain ⟨oj, hoj, -⟩ := (mem_ready.1 hj).2
       have := (Array.getElem?_eq_some_iff.1 hoj).1
       simpa using this
      exact List.mem_filter.2 ⟨List.mem_range.2 hjlt, hjr⟩
     refine ⟨fun h0 => ?_, fun j hj => ?_⟩
     · cases hr : readies ops done with
       | nil => exact (hne hr).elim
       | cons j l =>
         have h1 : j ∈ readies ops done := by rw [hr]; exact List.mem_cons_self ..
         have h2 : j ∈ Region.ready .any ops.toArray listed := (mem_readyL hL).2 (List.mem_filter.1 h1).2
         rw [h0] at h2; cases h2
     · have hjm := hmem j hj
       have hh := hall j hjm
       have hB := List.all_eq_true.1 hB j hjm
       cases ho : ops[j]? with
       | none => rw [ho] at hh; exact hh.elim
       | some o =>
         rw [ho] at hh hB
         simp only [Bool.and_eq_true, Bool.not_eq_true', Bool.or_eq_false_iff] at hh hB
         obtain ⟨⟨hp, hro⟩, hB2⟩ := hB
         have rest := rest j o ho hj hB2
         unfold wpOp
         simp only [List.getElem?_toArray, ho]
         rcases guard_S hh F with ⟨hw, h1⟩ | ⟨hw, h1⟩
         · rw [if_pos hw]
           refine .inl (gen_soundR (eff_S (hcall _) xx h1 M F) (eval_eq a) rfl fun v w' hP hS => ?_)
           obtain ⟨D', ρ', m', chs', x, nx, M', hv, hKx⟩ := hP
           have keep : ∀ c ∈ Cs, ∀ bs, (c.1, bs) ∈ held → waits ops ops.length c.1 j = false → ∀ b, inL bs b = true → b < chs.length → chs'[b]? = chs[b]? := fun c _ bs hbs hwt b hb hlt =>
            nx.keep b (inL_left (heldB_mem hbs hwt hb)) (by rw [← M.lch]; exact hlt)
           refine ⟨fun c hc hcw _ => ?_, ?_⟩
           · obtain ⟨bs, g1, g2⟩ := hH c hc
             refine g2 w' fun bb ob hcov => ?_
             rcases hcov with hd | ⟨b, ch, h3, h4, h5⟩
             · exact (M'.st.fz bb ob (nx.le _ _ hd)).1
             · exact M'.own (b := b) (ch := ch) (by rw [keep c hc bs g1 hcw b h3 (List.getElem?_eq_some_iff.1 h4).1]; exact h4) h5
           · refine rest held _ v x w' D' ρ' m' chs' hKx hS nx.weak M' hv fun c hc => ?_
             rw [List.mem_filter] at hc
             have hcw : waits ops ops.length c.1 j = false := by simpa using hc.2
             obtain ⟨bs, g1, g2⟩ := hH c hc.1
             refine ⟨bs, g1, fun w2 hw2 => g2 w2 fun bb ob hcov => hw2 bb ob ?_⟩
             rcases hcov with hd | ⟨b, ch, h3, h4, h5⟩
             · exact .inl (nx.le _ _ hd)
             · exact .inr ⟨b, ch, h3, by rw [keep c hc.1 bs g1 hcw b h3 (List.getElem?_eq_some_iff.1 h4).1]; exact h4, h5⟩
         · rw [if_neg (by rw [hw]; simp)]
           exact ⟨fun _ _ _ h => h, rest held _ undef (.t []) w D ρ m chs h1 (.refl w) .refl M (.t .nil) fun c hc => hH c (List.mem_filter.1 hc).1⟩
end Go.Proofs.YtaogfopaalancaaDoor
/- The symbolic engine, part j: patterns; what is taken and laid anew. -/
set_option linter.unusedVariables false
namespace Go.Proofs.YtaogfopaalancaaDoor
open Go
variable {P : Program} {D D' : Fz} {ρ ρ' : List Loc} {m m' : Mem} {chs C : List Chunk} {h h' : Heap} {T : List Value} {t : List V} {ro hr : List Nat}
def itOk : Pt → It → Bool
 | .i k, .v (.u (.i k' _)) => Nat.beq (kindNo k) (kindNo k')
 | .b, .v (.u (.b _)) => true
 | .s, .v (.u (.s _)) => true
 | .l s, .v (.u (.l s' _)) => Nat.beq s s'
 | .p, .v (.u (.p _)) => true
 | .n w, .v (.n .i64 w' _) => Nat.beq w w'
 | .ow E sz, .e (.w E' sz' _) => Nat.beq E E' && Nat.beq sz sz'
 | .row E sz, .e (.w E' sz' _) => Nat.beq E E' && Nat.beq sz sz'
 | .A, .e (.o _) => true
 | .w j, .v (.w j') => Nat.beq j j'
 | .r j o, .v (.r j' o') => Nat.beq j j' && Nat.beq o o'
 | .m j, .v (.m j') => Nat.beq j j'
 | .nm, .v .nm => true
 | .z, .v .z => true
 | .X, .e .x => true
 | .mp kt sz ag, .e (.p kt' sz' ag' _) => ktEq kt kt' && Nat.beq sz sz' && (ag == ag')
 | _, _ => false
theorem app_lam {X : Type} {y : Pt} {i : It} (ho : itOk y i = true) (K : It → X) : y.app (y.lam K) i = some (K i) := by
 unfold itOk at ho
 split at ho
 case h_1 k k' n =>
  have := kindNo_inj (Nat.eq_of_beq_eq_true ho)
  subst this; rfl
 case h_4 s s' c =>
  have := Nat.eq_of_beq_eq_true ho
  subst this; rfl
 case h_6 w w' c =>
  have := Nat.eq_of_beq_eq_true ho
  subst this; rfl
 case h_7 =>
  simp only [Bool.and_eq_true] at ho
  have h1 := Nat.eq_of_beq_eq_true ho.1
  have h2 := Nat.eq_of_beq_eq_true ho.2
  subst h1 h2; rfl
 case h_8 =>
  simp only [Bool.and_eq_true] at ho
  have h1 := Nat.eq_of_beq_eq_true ho.1
  have h2 := Nat.eq_of_beq_eq_true ho.2
  subst h1 h2; rfl
 case h_10 =>
  have := Nat.eq_of_beq_eq_true ho
  subst this; rfl
 case h_11 =>
  simp only [Bool.and_eq_true] at ho
  have h1 := Nat.eq_of_beq_eq_true ho.1
  have h2 := Nat.eq_of_beq_eq_true ho.2
  subst h1 h2; rfl
 case h_12 =>
  have := Nat.eq_of_beq_eq_true ho
  subst this; rfl
 case h_16 =>
  simp only [Bool.and_eq_true, beq_iff_eq] at ho
  have h1 := ktEq_iff ho.1.1
  have h2 := Nat.eq_of_beq_eq_true ho.1.2
  have h3 := ho.2
  subst h1 h2 h3; rfl
 all_goals first | rfl | cases ho
theorem app_some {X : Type} {y : Pt} {i : It} (ho : itOk y i = true) (F : y.Fn X) : ∃ G, y.app F i = some G := by
 unfold itOk at ho
 split at ho <;> first | exact ⟨_, rfl⟩ | cases ho
theorem app_zip {X Y Z : Type} {y : Pt} {i : It} (ho : itOk y i = true) {a : y.Fn X} {b : y.Fn Y} (G : X → Y → Z) {a' : X} {b' : Y} (ha : y.app a i = some a') (hb : y.app b i = some b') : y.app (y.zip a b G) i = some (G a' b') := by
 unfold itOk at ho
 split at ho <;> first | (cases ha; cases hb; rfl) | cases ho
theorem app_all {X : Type} {y : Pt} {i : It} (ho : itOk y i = true) {a : y.Fn X} {K : X → Prop} (hall : y.all a K) {a' : X} (ha : y.app a i = some a') : K a' := by
 unfold itOk at ho
 split at ho <;> first | (cases ha; exact hall _) | (cases ha; exact hall) | cases ho
inductive OkL : List Pt → List It → Prop
 | nil : OkL [] []
 | cons {y : Pt} {i : It} {ps : List Pt} {is : List It} : itOk y i = true → OkL ps is → OkL (y :: ps) (i :: is)
theorem OkL.app {ps qs : List Pt} {is js : List It} (h1 : OkL ps is) (h2 : OkL qs js) : OkL (ps ++ qs) (is ++ js) := by
 induction h1 with
 | nil => exact h2
 | cons a _ ih => exact .cons a ih
theorem OkL.len {ps : List Pt} {is : List It} (h1 : OkL ps is) : is.length = ps.length := by
 induction h1 with
 | nil => rfl
 | cons a _ ih => simp [ih]
theorem apP_mk {R : Type} {d : R} {ps : List Pt} {is : List It} (ho : OkL ps is) : ∀ (K : List It → R), apP d ps (mkP ps K) is = K is := by
 induction ho with
 | nil => intro K; rfl
 | cons a _ ih =>
   intro K
   simp only [mkP, apP]
   rw [app_lam a]
   exact ih _
theorem apP_zip {X Y Z : Type} {G : X → Y → Z} {d : Z} {d1 : X} {d2 : Y} {ps : List Pt} {is : List It} (ho : OkL ps is) : ∀ (a : PtT X ps) (b : PtT Y ps), apP d ps (zipP G ps a b) is = G (apP d1 ps a is) (apP d2 ps b is) := by
 induction ho with
 | nil => intro a b; rfl
 | cons hi _ ih =>
   intro a b
   obtain ⟨a', ha⟩ := app_some hi a
   obtain ⟨b', hb⟩ := app_some hi b
   simp only [zipP, apP]
   rw [app_zip hi _ ha hb, ha, hb]
   exact ih a' b'
theorem allP_ap {ps : List Pt} {is : List It} (ho : OkL ps is) : ∀ {a : PtT Prop ps}, allP ps a → apP False ps a is := by
 induction ho with
 | nil => intro a hh; exact hh
 | cons hi _ ih =>
   intro a hh
   obtain ⟨a', ha⟩ := app_some hi a
   simp only [apP, ha]
   exact ih (app_all hi hh ha)
theorem allP_self : ∀ (ps : List Pt) (K : List It → Prop), allP ps (zipP (fun (A B : Prop) => A → B) ps (mkP ps K) (mkP ps K)) := by
 intro ps
 induction ps with
 | nil => intro K; exact id
 | cons y ps ih =>
   intro K
   simp only [allP, zipP, mkP]
   cases y <;> simp only [Pt.all, Pt.zip, Pt.lam] <;> first | (intro n; exact ih _) | exact ih _
theorem SAt.take (M : SAt D ρ m chs C h) {b : Nat} {L : Loc} {ch : Chunk} (hL : ρ[b]? = some L) (hc : chs[b]? = some ch) : SAt D ρ (ms m b .x) (chs.set b []) (ch :: C) h :=
 M.put (C' := ch :: C) hL hc (ch' := []) (by
  have hlt := (List.getElem?_eq_some_iff.1 hc).1
  have S' := M.front hc
  rw [List.eraseIdx_append_of_lt_length hlt] at S' ⊢
  exact S'.mid.nil) (.refl D) .x
theorem SAt.perm (M : SAt D ρ m chs C h) {C' : List Chunk} (p : C.flatten.Perm C'.flatten) : SAt D ρ m chs C' h :=
 M.mono (.refl D) (M.st.perm (by simp only [List.flatten_append]; exact p.append_left _))
theorem SAt.kill (M : SAt D ρ m chs C h) (b : Nat) : ∃ ch, SAt D ρ (ms m b .x) (chs.set b []) (ch :: C) h ∧ (b < m.length → chs[b]? = some ch) := by
 by_cases hb : b < m.length
 · have hr : b < ρ.length := by rw [M.len]; exact hb
   have hc : b < chs.length := by rw [M.lch]; exact hb
   exact ⟨_, M.take (List.getElem?_eq_getElem hr) (List.getElem?_eq_getElem hc), fun _ => List.getElem?_eq_getElem hc⟩
 · have e1 : ms m b .x = m := by rw [ms_eq]; exact List.set_eq_of_length_le (by omega)
   have e2 : chs.set b [] = chs := List.set_eq_of_length_le (by rw [M.lch]; omega)
   refine ⟨[], ?_, fun h => absurd h hb⟩
   rw [e1, e2]
   exact M.perm (by simp)
inductive OV (D : Fz) (ρ : List Loc) (lim : Nat) : List Value → List It → List Chunk → Prop
 | nil : OV D ρ lim [] [] []
 | v {v : Value} {x : V} {vs : List Value} {os : List It} {tk : List Chunk} : Rp D ρ v x → (∀ b ∈ refsV x, b < lim) → (∀ k w l, x ≠ .n k w l) → OV D ρ lim vs os tk → OV D ρ lim (v :: vs) (.v x :: os) tk
 | n {w : Nat} {l : List Int} {vs : List Value} {os : List It} {tk : List Chunk} : l.length = w → OV D ρ lim vs os tk → OV D ρ lim (l.map (.int .i64) ++ vs) (.v (.n .i64 w l) :: os) tk
 | e {L : Loc} {E sz : Nat} {rows : List (List U)} {ch : Chunk} {vs : List Value} {os : List It} {tk : List Chunk} : Ent D ρ L (.w E sz rows) ch → OV D ρ lim vs os tk → OV D ρ lim (.slice L.a L.n L.c :: vs) (.e (.w E sz rows) :: os) (ch :: tk)
theorem pk1_kill {lim : Nat} {y : Pt} {x : V} {i : It} (h1 : pk1 lim m y x = some (i, m')) (b : Nat) : mg m' b = mg m b ∨ mg m' b = .x := by
 unfold pk1 at h1
 have key : ∀ {c : Bool} {i' : It}, (cond c (some (i', m)) none) = some (i, m') → mg m' b = mg m b ∨ mg m' b = .x := by
  intro c i' hh
  cases c <;> cases hh
  exact .inl rfl
 split at h1 <;> first
  | exact key h1
  | (cases h1; done)
  | (cases h1; exact .inl rfl)
  | (rename_i E sz j
     split at h1
     · rename_i E' sz' rows hm
       cases hb : (Nat.beq E E' && Nat.beq sz sz') with
       | false => rw [hb] at h1; cases h1
       | true =>
         rw [hb] at h1
         cases h1
         by_cases hbj : j = b
         · subst hbj; exact .inr (mg_ms (mg_lt (by rw [hm]; simp)))
         · exact .inl (mg_ms_ne hbj)
     · cases h1)
theorem pkV_kill {lim : Nat} : ∀ {ps : List Pt} {xs : List V} {m m' : Mem} {os : List It}, pkV lim m ps xs = some (os, m') → ∀ b, mg m' b = mg m b ∨ mg m' b = .x
 | [], [], m, m', os, hp => by cases hp; exact fun b => .inl rfl
 | [], _ :: _, m, m', os, hp => by cases hp
 | _ :: _, [], m, m', os, hp => by cases hp
 | y :: ps, x :: xs, m, m', os, hp => by
   simp only [pkV] at hp
   split at hp
   · rename_i o m1 h1
     split at hp
     · rename_i os' m2 h2
       cases hp
       intro b
       rcases pkV_kill h2 b with h3 | h3
       · rcases pk1_kill h1 b with h4 | h4
         · exact .inl (h3.trans h4)
         · exact .inr (h3.trans h4)
       · exact .inr h3
     · cases hp
   · cases hp
theorem ms_kill (m : Mem) (j b : Nat) : mg (ms m j .x) b = mg m b ∨ mg (ms m j .x) b = .x := by
 by_cases hbj : j = b
 · subst hbj
   by_cases hlt : j < m.length
   · exact .inr (mg_ms hlt)
   · refine .inl ?_
     rw [ms_eq, List.set_eq_of_length_le (by omega)]
 · exact .inl (mg_ms_ne hbj)
theorem pkB_kill {lim : Nat} : ∀ {ps : List BP} {js : List Nat} {m m' : Mem} {os : List It}, pkB lim m ps js = some (os, m') → ∀ b, mg m' b = mg m b ∨ mg m' b = .x
 | [], [], m, m', os, hp => by cases hp; exact fun b => .inl rfl
 | [], _ :: _, m, m', os, hp => by cases hp
 | _ :: _, [], m, m', os, hp => by cases hp
 | y :: ps, j :: js, m, m', os, hp => by
   simp only [pkB] at hp
   split at hp
   · rename_i o m1 h1
     split at hp
     · rename_i os' m2 h2
       cases hp
       have h1k : ∀ b, mg m1 b = mg m b ∨ mg m1 b = .x := by
        intro b
        cases y with
        | A => simp only [pkB1] at h1; split at h1 <;> cases h1; exact ms_kill m j b
        | X => simp only [pkB1] at h1; cases h1; exact ms_kill m j b
        | row E sz =>
          simp only [pkB1] at h1
          split at h1
          · rename_i E' sz' rows hm
            cases hb : (Nat.beq E E' && Nat.beq sz sz') <;> rw [hb] at h1 <;> cases h1
            exact ms_kill m j b
          · cases h1
        | mp kt sz ag =>
          simp only [pkB1] at h1
          split at h1
          · rename_i kt' sz' ag' rows hm
            cases hb : (ktEq kt kt' && Nat.beq sz sz' && (ag == ag')) <;> rw [hb] at h1 <;> cases h1
            exact ms_kill m j b
          · cases h1
        | c qs =>
          simp only [pkB1] at h1
          split at h1
          · rcases pkV_kill h1 b with h3 | h3
            · rcases ms_kill m j b with h4 | h4
              · exact .inl (h3.trans h4)
              · exact .inr (h3.trans h4)
            · exact .inr h3
          · cases h1
       intro b
       rcases pkB_kill h2 b with h3 | h3
       · rcases h1k b with h4 | h4
         · exact .inl (h3.trans h4)
         · exact .inr (h3.trans h4)
       · exact .inr h3
     · cases hp
   · cases hp
theorem keep_kill {j : Nat} {c' : List Chunk} (hk : ∀ b, mg m' b = mg (ms m j .x) b ∨ mg m' b = .x) (kk : ∀ b, mg m' b ≠ .x → c'[b]? = (chs.set j [])[b]?) : ∀ b, mg m' b ≠ .x → c'[b]? = chs[b]? := by
 intro b hb
 rw [kk b hb, List.getElem?_set_ne]
 rintro rfl
 rcases hk j with h1 | h1
 · by_cases hlt : j < m.length
   · exact hb (h1.trans (mg_ms hlt))
   · exact hb (h1.trans (by rw [mg_get, ms_eq, List.set_eq_of_length_le (by omega), List.getElem?_eq_none (by omega)]; rfl))
 · exact hb h1
theorem pkV_S {lim : Nat} : ∀ {ps : List Pt} {xs : List V} {m m' : Mem} {os : List It} {vs : List Value} {chs C : List Chunk}, pkV lim m ps xs = some (os, m') → SAt D ρ m chs C h → RpC D ρ vs xs →
 ∃ tk chs', SAt D ρ m' chs' (tk ++ C) h ∧ OV D ρ lim vs os tk ∧ OkL ps os ∧ ∀ b, mg m' b ≠ .x → chs'[b]? = chs[b]?
 | [], [], m, m', os, vs, chs, C, hp, M, hv => by cases hp; cases hv; exact ⟨[], chs, M, .nil, .nil, fun _ _ => rfl⟩
 | [], _ :: _, m, m', os, vs, chs, C, hp, M, hv => by cases hp
 | _ :: _, [], m, m', os, vs, chs, C, hp, M, hv => by cases hp
 | y :: ps, x :: xs, m, m', os, vs, chs, C, hp, M, hv => by
   simp only [pkV] at hp
   split at hp
   · rename_i o m1 h1
     split at hp
     · rename_i os' m2 h2
       cases hp
       -- a value
       have val : ∀ {v : Value} {vs' : List Value} {x' : V}, vs = v :: vs' → m1 = m → o = .v x' → Rp D ρ v x' → (∀ b ∈ refsV x', b < lim) → (∀ k w l, x' ≠ .n k w l) → itOk y (.v x') = true → RpC D ρ vs' xs →
        ∃ tk chs', SAt D ρ m' chs' (tk ++ C) h ∧ OV D ρ lim vs (o :: os') tk ∧ OkL (y :: ps) (o :: os') ∧ ∀ b, mg m' b ≠ .x → chs'[b]? = chs[b]? := by
        intro v vs' x' e1 e2 e3 hv' hl hn ho hvs
        subst e1 e2 e3
        obtain ⟨tk, c', M2, o2, k2, kk⟩ := pkV_S h2 M hvs
        exact ⟨tk, c', M2, .v hv' hl hn o2, .cons ho k2, kk⟩
       unfold pk1 at h1
       split at h1
       · -- int
         rename_i k k' n
         cases hb : Nat.beq (kindNo k) (kindNo k') with
         | false => rw [hb] at h1; cases h1
         | true =>
           rw [hb] at h1
           cases h1
           have := kindNo_inj (Nat.eq_of_beq_eq_true hb)
           subst this
           cases hv with | cons a n b => exact val rfl rfl rfl a (by simp [refsV]) (by simp) hb b
       · cases h1; cases hv with | cons a n b => exact val rfl rfl rfl a (by simp [refsV]) (by simp) rfl b
       · cases h1; cases hv with | cons a n b => exact val rfl rfl rfl a (by simp [refsV]) (by simp) rfl b
       · rename_i sz sz' c
         cases hb : Nat.beq sz sz' with
         | false => rw [hb] at h1; cases h1
         | true =>
           rw [hb] at h1
           cases h1
           have := Nat.eq_of_beq_eq_true hb
           subst this
           cases hv with | cons a n b => exact val rfl rfl rfl a (by simp [refsV]) (by simp) hb b
       · rename_i sz sz' c
         cases hb : Nat.beq sz sz' with
         | false => rw [hb] at h1; cases h1
         | true =>
           rw [hb] at h1
           cases h1
           have := Nat.eq_of_beq_eq_true hb
           subst this
           cases hv with | cons a n b => cases a with | c hr => exact val rfl rfl rfl (.u hr) (by simp [refsV]) (by simp) hb b
       · rename_i sz
         cases h1
         cases hv with | cons a n b => cases a; exact val rfl rfl rfl (.u (.nil _ _ _)) (by simp [refsV]) (by simp) (Nat.beq_refl _) b
       · cases h1; cases hv with | cons a n b => exact val rfl rfl rfl a (by simp [refsV]) (by simp) rfl b
       · cases h1
         cases hv with
         | cons a n b =>
           obtain ⟨p, o, hr, hvv⟩ := a.q_inv
           exact val (by rw [hvv]; rfl) rfl rfl (.u hr) (by simp [refsV]) (by simp) rfl b
       · rename_i nw k w' c
         cases hb : (Nat.beq nw w' && Nat.beq (kindNo k) 3) with
         | false => rw [hb] at h1; cases h1
         | true =>
           rw [hb] at h1
           cases h1
           simp only [Bool.and_eq_true] at hb
           have := Nat.eq_of_beq_eq_true hb.1
           subst this
           have hk : k = .i64 := by
            have := hb.2
            cases k <;> first | rfl | simp [kindNo] at this
           subst hk
           cases hv with
           | cons a n b => exact absurd rfl (n _ _ _)
           | n hl b =>
             obtain ⟨tk, c', M2, o2, k2, kk⟩ := pkV_S h2 M b
             exact ⟨tk, c', M2, .n hl o2, .cons hb.1 k2, kk⟩
       · rename_i E sz j
         split at h1
         · rename_i E' sz' rows hm
           cases hb : (Nat.beq E E' && Nat.beq sz sz') with
           | false => rw [hb] at h1; cases h1
           | true =>
             rw [hb] at h1
             cases h1
             have hb' := hb
             simp only [Bool.and_eq_true] at hb'
             have e1 := Nat.eq_of_beq_eq_true hb'.1
             have e2 := Nat.eq_of_beq_eq_true hb'.2
             subst e1 e2
             cases hv with
             | cons a n b =>
               obtain ⟨L, ch, g1, g2, g3⟩ := M.get (b := j) (by rw [hm]; simp)
               obtain ⟨L', g4, rfl⟩ := a.w_inv
               rw [g1] at g4; cases g4
               rw [hm] at g3
               obtain ⟨tk, c', M2, o2, k2, kk⟩ := pkV_S h2 (M.take g1 g2) b
               refine ⟨ch :: tk, c', M2.perm ?_, .e g3 o2, .cons hb k2, keep_kill (pkV_kill h2) kk⟩
               simp only [List.flatten_append, List.flatten_cons, List.cons_append]
               exact List.perm_append_comm_assoc _ _ _
         · cases h1
       · rename_i E sz
         cases h1
         cases hv with
         | cons a n b =>
           cases a
           obtain ⟨tk, c', M2, o2, k2, kk⟩ := pkV_S h2 M b
           exact ⟨[] :: tk, c', M2.perm (by simp), .e (L := ⟨0, none, 0, 0, none⟩) (.w (.nil _) rfl) o2, .cons (by simp [itOk]) k2, kk⟩
       · rename_i j j'
         cases hb : (Nat.beq j j' && Nat.ble (j + 1) lim) with
         | false => rw [hb] at h1; cases h1
         | true =>
           rw [hb] at h1
           cases h1
           simp only [Bool.and_eq_true] at hb
           have e1 := Nat.eq_of_beq_eq_true hb.1
           have e2 := Nat.le_of_ble_eq_true hb.2
           subst e1
           cases hv with | cons a n b => exact val rfl rfl rfl a (by simp [refsV]; omega) (by simp) hb.1 b
       · rename_i j o j' o'
         cases hb : (Nat.beq j j' && Nat.beq o o' && Nat.ble (j + 1) lim) with
         | false => rw [hb] at h1; cases h1
         | true =>
           rw [hb] at h1
           cases h1
           have hb' := hb
           simp only [Bool.and_eq_true] at hb'
           have e1 := Nat.eq_of_beq_eq_true hb'.1.1
           have e3 := Nat.eq_of_beq_eq_true hb'.1.2
           have e2 := Nat.le_of_ble_eq_true hb'.2
           subst e1 e3
           cases hv with | cons a n b => exact val rfl rfl rfl a (by simp [refsV]; omega) (by simp) (by simp [itOk]) b
       · rename_i j j'
         cases hb : (Nat.beq j j' && Nat.ble (j + 1) lim) with
         | false => rw [hb] at h1; cases h1
         | true =>
           rw [hb] at h1
           cases h1
           simp only [Bool.and_eq_true] at hb
           have e1 := Nat.eq_of_beq_eq_true hb.1
           have e2 := Nat.le_of_ble_eq_true hb.2
           subst e1
           cases hv with | cons a n b => exact val rfl rfl rfl a (by simp [refsV]; omega) (by simp) hb.1 b
       · cases h1; cases hv with | cons a n b => exact val rfl rfl rfl a (by simp [refsV]) (by simp) rfl b
       · cases h1
       · rename_i hne
         cases h1
         cases hv with
         | cons a n b => exact val rfl rfl rfl .z (by simp [refsV]) (by simp) rfl b
         | n hl b => exact absurd rfl (hne _ _ _)
       · cases h1
     · cases hp
   · cases hp
def noC : AB → Bool
 | .c _ => false
 | .cw .. => false
 | _ => true
inductive OB (D : Fz) (ρ : List Loc) (lim : Nat) : List BP → List Nat → List It → List Chunk → Prop
 | nil : OB D ρ lim [] [] [] []
 | e {y : BP} {j : Nat} {ab : AB} {L : Loc} {ch : Chunk} {ps : List BP} {js : List Nat} {os : List It} {tk : List Chunk} : (∀ qs, y ≠ .c qs) → (ab ≠ .x → ρ[j]? = some L) → Ent D ρ L ab ch → noC ab = true → OB D ρ lim ps js os tk →
     OB D ρ lim (y :: ps) (j :: js) (.e ab :: os) (ch :: tk)
 | c {qs : List Pt} {j : Nat} {L : Loc} {S : TypeId} {arr : List Value} {o1 : List It} {t1 : List Chunk} {ps : List BP} {js : List Nat} {os : List It} {tk : List Chunk} : ρ[j]? = some L → OV D ρ lim arr o1 t1 → o1.length = qs.length → OB D ρ lim ps js os tk →
     OB D ρ lim (.c qs :: ps) (j :: js) (o1 ++ os) ([(L.b, .cells arr.toArray S (0, 0))] :: (t1 ++ tk))
theorem pkB_S {lim : Nat} : ∀ {ps : List BP} {js : List Nat} {m m' : Mem} {os : List It} {chs C : List Chunk}, pkB lim m ps js = some (os, m') → SAt D ρ m chs C h →
 ∃ tk chs', SAt D ρ m' chs' (tk ++ C) h ∧ OB D ρ lim ps js os tk ∧ OkL (ps.flatMap BP.ps) os ∧ ∀ b, mg m' b ≠ .x → chs'[b]? = chs[b]?
 | [], [], m, m', os, chs, C, hp, M => by cases hp; exact ⟨[], chs, M, .nil, .nil, fun _ _ => rfl⟩
 | [], _ :: _, m, m', os, chs, C, hp, M => by cases hp
 | _ :: _, [], m, m', os, chs, C, hp, M => by cases hp
 | y :: ps, j :: js, m, m', os, chs, C, hp, M => by
   simp only [pkB] at hp
   split at hp
   · rename_i o m1 h1
     split at hp
     · rename_i os' m2 h2
       cases hp
       have pm : ∀ {a b c : List Chunk}, (a ++ (b ++ c)).flatten.Perm (b ++ (a ++ c)).flatten := fun {a b c} => by simp only [List.flatten_append]; exact List.perm_append_comm_assoc _ _ _
       cases y with
       | A =>
         simp only [pkB1] at h1
         split at h1
         · rename_i I hm
           cases h1
           obtain ⟨L, ch, g1, g2, g3⟩ := M.get (b := j) (by rw [hm]; simp)
           rw [hm] at g3
           obtain ⟨tk, c', M2, o2, k2, kk⟩ := pkB_S h2 (M.take g1 g2)
           exact ⟨ch :: tk, c', M2.perm (pm (a := tk) (b := [ch])), .e (by simp) (fun _ => g1) g3 rfl o2, .cons rfl k2, keep_kill (pkB_kill h2) kk⟩
         · cases h1
       | X =>
         simp only [pkB1] at h1
         cases h1
         obtain ⟨ch, M1, -⟩ := M.kill j
         obtain ⟨tk, c', M2, o2, k2, kk⟩ := pkB_S h2 M1
         have M3 : SAt D ρ m' c' ([] :: tk ++ C) h := by
          refine (M2.perm (pm (a := tk) (b := [ch]))).mono (.refl D) ?_
          have S := (M2.perm (pm (a := tk) (b := [ch]))).st
          have S1 : St D (ch :: (c' ++ (tk ++ C))) h := S.unmid
          have S2 := S1.drop.nil
          exact S2.mid
         refine ⟨[] :: tk, c', M3, .e (L := ⟨0, none, 0, 0, none⟩) (by simp) (fun hl => absurd rfl hl) .x rfl o2, .cons rfl k2, keep_kill (pkB_kill h2) kk⟩
       | row E sz =>
         simp only [pkB1] at h1
         split at h1
         · rename_i E' sz' rows hm
           cases hb : (Nat.beq E E' && Nat.beq sz sz') with
           | false => rw [hb] at h1; cases h1
           | true =>
             rw [hb] at h1
             cases h1
             have hb' := hb
             simp only [Bool.and_eq_true] at hb'
             have e1 := Nat.eq_of_beq_eq_true hb'.1
             have e2 := Nat.eq_of_beq_eq_true hb'.2
             subst e1 e2
             obtain ⟨L, ch, g1, g2, g3⟩ := M.get (b := j) (by rw [hm]; simp)
             rw [hm] at g3
             obtain ⟨tk, c', M2, o2, k2, kk⟩ := pkB_S h2 (M.take g1 g2)
             exact ⟨ch :: tk, c', M2.perm (pm (a := tk) (b := [ch])), .e (by simp) (fun _ => g1) g3 rfl o2, .cons hb k2, keep_kill (pkB_kill h2) kk⟩
         · cases h1
       | mp kt sz ag =>
         simp only [pkB1] at h1
         split at h1
         · rename_i kt' sz' ag' rows hm
           cases hb : (ktEq kt kt' && Nat.beq sz sz' && (ag == ag')) with
           | false => rw [hb] at h1; cases h1
           | true =>
             rw [hb] at h1
             cases h1
             have hb' := hb
             simp only [Bool.and_eq_true, beq_iff_eq] at hb'
             have e1 := ktEq_iff hb'.1.1
             have e2 := Nat.eq_of_beq_eq_true hb'.1.2
             have e3 := hb'.2
             subst e1 e2 e3
             obtain ⟨L, ch, g1, g2, g3⟩ := M.get (b := j) (by rw [hm]; simp)
             rw [hm] at g3
             obtain ⟨tk, c', M2, o2, k2, kk⟩ := pkB_S h2 (M.take g1 g2)
             exact ⟨ch :: tk, c', M2.perm (pm (a := tk) (b := [ch])), .e (by simp) (fun _ => g1) g3 rfl o2, .cons hb k2, keep_kill (pkB_kill h2) kk⟩
         · cases h1
       | c qs =>
         simp only [pkB1] at h1
         split at h1
         · rename_i l hm
           obtain ⟨L, ch, g1, g2, g3⟩ := M.get (b := j) (by rw [hm]; simp)
           rw [hm] at g3
           cases g3 with
           | c hc =>
             rename_i arr S
             obtain ⟨t1, c1, M1, o1, k1, kk1⟩ := pkV_S h1 (M.take g1 g2) hc
             obtain ⟨tk, c', M2, o2, k2, kk⟩ := pkB_S h2 M1
             refine ⟨[(L.b, .cells arr.toArray S (0, 0))] :: (t1 ++ tk), c', M2.perm ?_, .c g1 o1 (k1.len) o2, k1.app k2, keep_kill (fun b => by
              rcases pkB_kill h2 b with h3 | h3
              · rcases pkV_kill h1 b with h4 | h4
                · exact .inl (h3.trans h4)
                · exact .inr (h3.trans h4)
              · exact .inr h3) fun b hb => by
              have h5 : mg m1 b ≠ .x := by
               rcases pkB_kill h2 b with h3 | h3
               · rw [← h3]; exact hb
               · exact absurd h3 hb
              rw [kk b hb, kk1 b h5]⟩
             have pp : ∀ {X Y Z : Chunk} {b : Nat × Obj}, (X ++ (Y ++ (b :: Z))).Perm (b :: (Y ++ (X ++ Z))) := fun {X Y Z b} => by
              rw [← List.append_assoc]
              exact List.perm_middle.trans (by rw [List.append_assoc]; exact (List.perm_append_comm_assoc _ _ _).cons _)
             simpa [List.flatten_append, List.append_assoc] using pp (X := tk.flatten) (Y := t1.flatten) (Z := C.flatten) (b := (L.b, .cells arr.toArray S (0, 0)))
         · cases h1
     · cases hp
   · cases hp
inductive OR (D : Fz) (ρ : List Loc) (lim : Nat) : List Value → List RP → List It → List Chunk → Prop
 | nil : OR D ρ lim [] [] [] []
 | one {y : Pt} {v : Value} {o1 : List It} {t1 : List Chunk} {vs : List Value} {rs : List RP} {os : List It} {tk : List Chunk} : OV D ρ lim [v] o1 t1 → o1.length = 1 → (∀ k w l, o1 ≠ [.v (.n k w l)]) → OR D ρ lim vs rs os tk → OR D ρ lim (v :: vs) (.one y :: rs) (o1 ++ os) (t1 ++ tk)
 | agg {qs : List Pt} {ws : List Value} {o1 : List It} {t1 : List Chunk} {vs : List Value} {rs : List RP} {os : List It} {tk : List Chunk} : OV D ρ lim ws o1 t1 → o1.length = qs.length → OR D ρ lim vs rs os tk → OR D ρ lim (.agg ws.toArray :: vs) (.agg qs :: rs) (o1 ++ os) (t1 ++ tk)
theorem rp_n {v : Value} {x : V} (hv : Rp D ρ v x) : ∀ k w l, x ≠ .n k w l := by intro k w l e; subst e; cases hv
theorem pk1_n {lim : Nat} {y : Pt} {x : V} {i : It} {m1 : Mem} (h1 : pk1 lim m y x = some (i, m1)) (hx : ∀ k w l, x ≠ .n k w l) : ∀ k w l, i ≠ .v (.n k w l) := by
 intro k w l e
 subst e
 unfold pk1 at h1
 split at h1 <;> first
  | exact hx _ _ _ rfl
  | (cases h1; done)
  | (revert h1; cases Nat.beq _ _ <;> simp; done)
  | (revert h1; cases (Nat.beq _ _ && Nat.ble _ _) <;> simp; done)
  | (revert h1; cases (Nat.beq _ _ && Nat.beq _ _ && Nat.ble _ _) <;> simp; done)
  | (split at h1 <;> first | (cases h1; done) | (revert h1; cases (Nat.beq _ _ && Nat.beq _ _) <;> simp; done))
theorem pkV_n {lim : Nat} : ∀ {ps : List Pt} {xs : List V} {m m' : Mem} {os : List It}, pkV lim m ps xs = some (os, m') → (∀ x ∈ xs, ∀ k w l, x ≠ .n k w l) → ∀ i ∈ os, ∀ k w l, i ≠ .v (.n k w l)
 | [], [], m, m', os, hp, hx => by cases hp; simp
 | [], _ :: _, m, m', os, hp, hx => by cases hp
 | _ :: _, [], m, m', os, hp, hx => by cases hp
 | y :: ps, x :: xs, m, m', os, hp, hx => by
   simp only [pkV] at hp
   split at hp
   · rename_i o m1 h1
     split at hp
     · rename_i os' m2 h2
       cases hp
       intro i hi
       rcases List.mem_cons.1 hi with rfl | hi
       · exact pk1_n h1 (hx x (by simp))
       · exact pkV_n h2 (fun x hx' => hx x (by simp [hx'])) i hi
     · cases hp
   · cases hp
theorem pkR_kill {lim : Nat} : ∀ {rs : List RP} {xs : List V} {m m' : Mem} {os : List It}, pkR lim m rs xs = some (os, m') → ∀ b, mg m' b = mg m b ∨ mg m' b = .x
 | [], [], m, m', os, hp => by cases hp; exact fun b => .inl rfl
 | [], _ :: _, m, m', os, hp => by cases hp
 | .one y :: rs, [], m, m', os, hp => by cases hp
 | .agg qs :: rs, [], m, m', os, hp => by cases hp
 | .one y :: rs, x :: xs, m, m', os, hp => by
   simp only [pkR] at hp
   split at hp
   · rename_i o m1 h1
     split at hp
     · rename_i os' m2 h2
       cases hp
       intro b
       rcases pkR_kill h2 b with h3 | h3
       · rcases pkV_kill h1 b with h4 | h4
         · exact .inl (h3.trans h4)
         · exact .inr (h3.trans h4)
       · exact .inr h3
     · cases hp
   · cases hp
 | .agg qs :: rs, x :: xs, m, m', os, hp => by
   cases x with
   | a l =>
     simp only [pkR] at hp
     split at hp
     · rename_i o m1 h1
       split at hp
       · rename_i os' m2 h2
         cases hp
         intro b
         rcases pkR_kill h2 b with h3 | h3
         · rcases pkV_kill h1 b with h4 | h4
           · exact .inl (h3.trans h4)
           · exact .inr (h3.trans h4)
         · exact .inr h3
       · cases hp
     · cases hp
   | _ => simp [pkR] at hp
theorem pkR_S {lim : Nat} : ∀ {rs : List RP} {xs : List V} {m m' : Mem} {os : List It} {vs : List Value} {chs C : List Chunk}, pkR lim m rs xs = some (os, m') → SAt D ρ m chs C h → RpL D ρ vs xs →
 ∃ tk chs', SAt D ρ m' chs' (tk ++ C) h ∧ OR D ρ lim vs rs os tk ∧ OkL (rs.flatMap RP.ps) os ∧ ∀ b, mg m' b ≠ .x → chs'[b]? = chs[b]?
 | [], [], m, m', os, vs, chs, C, hp, M, hv => by cases hp; cases hv; exact ⟨[], chs, M, .nil, .nil, fun _ _ => rfl⟩
 | [], _ :: _, m, m', os, vs, chs, C, hp, M, hv => by cases hp
 | .one y :: rs, [], m, m', os, vs, chs, C, hp, M, hv => by cases hp
 | .agg qs :: rs, [], m, m', os, vs, chs, C, hp, M, hv => by cases hp
 | .one y :: rs, x :: xs, m, m', os, vs, chs, C, hp, M, hv => by
   simp only [pkR] at hp
   split at hp
   · rename_i o m1 h1
     split at hp
     · rename_i os' m2 h2
       cases hp
       cases hv with
       | cons a b =>
         obtain ⟨t1, c1, M1, o1, k1, kk1⟩ := pkV_S h1 M (.cons a (rp_n a) .nil)
         obtain ⟨tk, c', M2, o2, k2, kk⟩ := pkR_S h2 M1 b
         refine ⟨t1 ++ tk, c', M2.perm ?_, .one o1 k1.len (fun k w l e => pkV_n h1 (fun x hx => by rw [List.mem_singleton.1 hx]; exact rp_n a) (.v (.n k w l)) (by rw [e]; simp) _ _ _ rfl) o2, k1.app k2, fun b hb => by
          have h5 : mg m1 b ≠ .x := by
           rcases pkR_kill h2 b with h3 | h3
           · rw [← h3]; exact hb
           · exact absurd h3 hb
          rw [kk b hb, kk1 b h5]⟩
         simp only [List.flatten_append, List.append_assoc]
         exact List.perm_append_comm_assoc _ _ _
     · cases hp
   · cases hp
 | .agg qs :: rs, x :: xs, m, m', os, vs, chs, C, hp, M, hv => by
   cases x with
   | a l =>
     simp only [pkR] at hp
     split at hp
     · rename_i o m1 h1
       split at hp
       · rename_i os' m2 h2
         cases hp
         cases hv with
         | cons a b =>
           obtain ⟨ws, rfl, hc⟩ := a.a_inv
           obtain ⟨t1, c1, M1, o1, k1, kk1⟩ := pkV_S h1 M hc
           obtain ⟨tk, c', M2, o2, k2, kk⟩ := pkR_S h2 M1 b
           refine ⟨t1 ++ tk, c', M2.perm ?_, .agg o1 k1.len o2, k1.app k2, fun b hb => by
           have h5 : mg m1 b ≠ .x := by
            rcases pkR_kill h2 b with h3 | h3
            · rw [← h3]; exact hb
            · exact absurd h3 hb
           rw [kk b hb, kk1 b h5]⟩
           simp only [List.flatten_append, List.append_assoc]
           exact List.perm_append_comm_assoc _ _ _
       · cases hp
     · cases hp
   | _ => simp [pkR] at hp
def Ren (f : Nat → Nat) (lim : Nat) (ρ ρ' : List Loc) : Prop := ∀ b, b < lim → ∀ L, ρ[b]? = some L → ρ'[f b]? = some L
theorem Ren.app {f : Nat → Nat} {lim : Nat} (r : Ren f lim ρ ρ') (s : List Loc) : Ren f lim ρ (ρ' ++ s) := fun b hb L hL => get_app (r b hb L hL)
section
variable {f : Nat → Nat}
theorem ren_all : (∀ {v : Value} {x : V}, Rp D ρ v x → (∀ b ∈ refsV x, ∀ L, ρ[b]? = some L → ρ'[f b]? = some L) → Rp D ρ' v (renV f x)) ∧ (∀ {v : List Value} {x : List V}, RpL D ρ v x → (∀ b ∈ refsL x, ∀ L, ρ[b]? = some L → ρ'[f b]? = some L) → RpL D ρ' v (renL f x)) ∧
 (∀ {v : List Value} {x : List V}, RpC D ρ v x → (∀ b ∈ refsL x, ∀ L, ρ[b]? = some L → ρ'[f b]? = some L) → RpC D ρ' v (renL f x)) := by
 have key := @Rp.rec D ρ (fun v x _ => (∀ b ∈ refsV x, ∀ L, ρ[b]? = some L → ρ'[f b]? = some L) → Rp D ρ' v (renV f x)) (fun vs xs _ => (∀ b ∈ refsL xs, ∀ L, ρ[b]? = some L → ρ'[f b]? = some L) → RpL D ρ' vs (renL f xs))
  (fun vs xs _ => (∀ b ∈ refsL xs, ∀ L, ρ[b]? = some L → ρ'[f b]? = some L) → RpC D ρ' vs (renL f xs))
 have keyL := @RpL.rec D ρ (fun v x _ => (∀ b ∈ refsV x, ∀ L, ρ[b]? = some L → ρ'[f b]? = some L) → Rp D ρ' v (renV f x)) (fun vs xs _ => (∀ b ∈ refsL xs, ∀ L, ρ[b]? = some L → ρ'[f b]? = some L) → RpL D ρ' vs (renL f xs))
  (fun vs xs _ => (∀ b ∈ refsL xs, ∀ L, ρ[b]? = some L → ρ'[f b]? = some L) → RpC D ρ' vs (renL f xs))
 have keyC := @RpC.rec D ρ (fun v x _ => (∀ b ∈ refsV x, ∀ L, ρ[b]? = some L → ρ'[f b]? = some L) → Rp D ρ' v (renV f x)) (fun vs xs _ => (∀ b ∈ refsL xs, ∀ L, ρ[b]? = some L → ρ'[f b]? = some L) → RpL D ρ' vs (renL f xs))
  (fun vs xs _ => (∀ b ∈ refsL xs, ∀ L, ρ[b]? = some L → ρ'[f b]? = some L) → RpC D ρ' vs (renL f xs))
 have A1 : ∀ {v : Value} {x : U} (a : Rd D v x), (∀ b ∈ refsV (.u x), ∀ L, ρ[b]? = some L → ρ'[f b]? = some L) → Rp D ρ' v (renV f (.u x)) := fun h _ => .u h
 have A2 : ∀ {b o : Nat} {L : Loc} (a : ρ[b]? = some L), (∀ c ∈ refsV (.r b o), ∀ L, ρ[c]? = some L → ρ'[f c]? = some L) → Rp D ρ' (.pointer (some ⟨L.b, o, none⟩)) (renV f (.r b o)) := fun h g => .r (g _ (by simp [refsV]) _ h)
 have A3 : ∀ {b sz o p q : Nat} {k : Int} {L : Loc} (a : ρ[b]? = some L) (a1 : L.a = some ⟨p, q, none⟩) (a2 : 0 ≤ k) (a3 : k < L.n), (∀ c ∈ refsV (.e b sz k o), ∀ L, ρ[c]? = some L → ρ'[f c]? = some L) → Rp D ρ' (.pointer (some ⟨p, q + k.toNat * sz + o, none⟩)) (renV f (.e b sz k o)) :=
  fun h1 h2 h3 h4 g => .e (g _ (by simp [refsV]) _ h1) h2 h3 h4
 have A4 : ∀ {b o w : Nat} {k : Int} {L : Loc} (a : ρ[b]? = some L) (a1 : 0 ≤ k) (a2 : k < w), (∀ c ∈ refsV (.g b o w k), ∀ L, ρ[c]? = some L → ρ'[f c]? = some L) → Rp D ρ' (.pointer (some ⟨L.b, o + k.toNat, none⟩)) (renV f (.g b o w k)) :=
  fun h1 h2 h3 g => .g (g _ (by simp [refsV]) _ h1) h2 h3
 have A5 : ∀ {c : List U} {p o o' : Nat} (a : Rd D (.pointer (some ⟨p, o, none⟩)) (.p (some c))) (a1 : o' = o) (n : Nat), (∀ b ∈ refsV (.q c n), ∀ L, ρ[b]? = some L → ρ'[f b]? = some L) → Rp D ρ' (.pointer (some ⟨p, o' + n, none⟩)) (renV f (.q c n)) := fun h1 h2 n _ => .q h1 h2 n
 have A6 : ∀ {b : Nat} {L : Loc} (a : ρ[b]? = some L), (∀ c ∈ refsV (.w b), ∀ L, ρ[c]? = some L → ρ'[f c]? = some L) → Rp D ρ' (.slice L.a L.n L.c) (renV f (.w b)) := fun h g => .w (g _ (by simp [refsV]) _ h)
 have A7 : ∀ {a : Option Addr} {n sz : Nat} {rows : List (List U)} (a1 : Rd D (.slice a n n) (.l sz rows)), (∀ b ∈ refsV (.c sz rows), ∀ L, ρ[b]? = some L → ρ'[f b]? = some L) → Rp D ρ' (.slice a n n) (renV f (.c sz rows)) := fun h _ => .c h
 have A8 : ∀ {b : Nat} {L : Loc} (a : ρ[b]? = some L), (∀ c ∈ refsV (.m b), ∀ L, ρ[c]? = some L → ρ'[f c]? = some L) → Rp D ρ' (.map (some L.b)) (renV f (.m b)) := fun h g => .m (g _ (by simp [refsV]) _ h)
 have A9 : ∀ {b : Nat} {L : Loc} (a : ρ[b]? = some L), (∀ c ∈ refsV (.y b), ∀ L, ρ[c]? = some L → ρ'[f c]? = some L) → Rp D ρ' (.func (.yield L.b) #[] #[]) (renV f (.y b)) := fun h g => .y (g _ (by simp [refsV]) _ h)
 have A10 : ∀ {b sz l n cap : Nat} {c : Bool} {a : Option Addr} {L : Loc} (a1 : ρ[b]? = some L) (a2 : l + n ≤ L.n) (a3 : l = 0 → a = L.a) (a4 : 0 < n → ∃ p q, L.a = some ⟨p, q, none⟩ ∧ a = some ⟨p, q + l * sz, none⟩) (a5 : n ≤ cap) (a6 : c = true → cap = n) (a7 : c = false → l = 0 → cap = L.c),
  (∀ d ∈ refsV (.v b sz l n c), ∀ L, ρ[d]? = some L → ρ'[f d]? = some L) → Rp D ρ' (.slice a n cap) (renV f (.v b sz l n c)) := fun h1 h2 h3 h4 h5 h6 h7 g => .v (g _ (by simp [refsV]) _ h1) h2 h3 h4 h5 h6 h7
 have A11 : ∀ {b o n cap : Nat} {a : Option Addr} {L : Loc} (a1 : ρ[b]? = some L) (a2 : 0 < n → a = some ⟨L.b, o, none⟩) (a3 : n ≤ cap), (∀ d ∈ refsV (.sl b o n), ∀ L, ρ[d]? = some L → ρ'[f d]? = some L) → Rp D ρ' (.slice a n cap) (renV f (.sl b o n)) :=
  fun h1 h2 h3 g => .sl (g _ (by simp [refsV]) _ h1) h2 h3
 have B1 : ∀ {g : FuncId} {xs ys : List Value} {a c : List V} (a1 : RpL D ρ xs a) (a2 : RpL D ρ ys c), ((∀ b ∈ refsL a, ∀ L, ρ[b]? = some L → ρ'[f b]? = some L) → RpL D ρ' xs (renL f a)) → ((∀ b ∈ refsL c, ∀ L, ρ[b]? = some L → ρ'[f b]? = some L) → RpL D ρ' ys (renL f c)) →
  (∀ b ∈ refsV (.f g a c), ∀ L, ρ[b]? = some L → ρ'[f b]? = some L) → Rp D ρ' (.func (.func g) xs.toArray ys.toArray) (renV f (.f g a c)) := fun _ _ i1 i2 g => .f (i1 fun b hb => g b (by simp [refsV, hb])) (i2 fun b hb => g b (by simp [refsV, hb]))
 have B2 : ∀ {vs : List Value} {l : List V} (a : RpC D ρ vs l), ((∀ b ∈ refsL l, ∀ L, ρ[b]? = some L → ρ'[f b]? = some L) → RpC D ρ' vs (renL f l)) → (∀ b ∈ refsV (.a l), ∀ L, ρ[b]? = some L → ρ'[f b]? = some L) → Rp D ρ' (.agg vs.toArray) (renV f (.a l)) := fun _ i g => .a (i g)
 have B3 : ∀ {vs : List Value} {l : List V} (a : RpL D ρ vs l), ((∀ b ∈ refsL l, ∀ L, ρ[b]? = some L → ρ'[f b]? = some L) → RpL D ρ' vs (renL f l)) → (∀ b ∈ refsV (.t l), ∀ L, ρ[b]? = some L → ρ'[f b]? = some L) → Rp D ρ' (.tuple vs.toArray) (renV f (.t l)) := fun _ i g => .t (i g)
 have C1 : ∀ {v : Value} {x : V} {vs : List Value} {xs : List V} (a : Rp D ρ v x) (a1 : RpL D ρ vs xs), ((∀ b ∈ refsV x, ∀ L, ρ[b]? = some L → ρ'[f b]? = some L) → Rp D ρ' v (renV f x)) → ((∀ b ∈ refsL xs, ∀ L, ρ[b]? = some L → ρ'[f b]? = some L) → RpL D ρ' vs (renL f xs)) →
  (∀ b ∈ refsL (x :: xs), ∀ L, ρ[b]? = some L → ρ'[f b]? = some L) → RpL D ρ' (v :: vs) (renL f (x :: xs)) := fun _ _ i1 i2 g => .cons (i1 fun b hb => g b (by simp [refsL, hb])) (i2 fun b hb => g b (by simp [refsL, hb]))
 have C2 : ∀ {v : Value} {x : V} {vs : List Value} {xs : List V} (a : Rp D ρ v x) (a0 : ∀ k w l, x ≠ .n k w l) (a1 : RpC D ρ vs xs), ((∀ b ∈ refsV x, ∀ L, ρ[b]? = some L → ρ'[f b]? = some L) → Rp D ρ' v (renV f x)) → ((∀ b ∈ refsL xs, ∀ L, ρ[b]? = some L → ρ'[f b]? = some L) → RpC D ρ' vs (renL f xs)) →
  (∀ b ∈ refsL (x :: xs), ∀ L, ρ[b]? = some L → ρ'[f b]? = some L) → RpC D ρ' (v :: vs) (renL f (x :: xs)) := fun a hn _ i1 i2 g => .cons (i1 fun b hb => g b (by simp [refsL, hb])) (rp_n (i1 fun b hb => g b (by simp [refsL, hb]))) (i2 fun b hb => g b (by simp [refsL, hb]))
 have C3 : ∀ {k : IntKind} {w : Nat} {l : List Int} {vs : List Value} {xs : List V} (a : l.length = w) (a1 : RpC D ρ vs xs), ((∀ b ∈ refsL xs, ∀ L, ρ[b]? = some L → ρ'[f b]? = some L) → RpC D ρ' vs (renL f xs)) → (∀ b ∈ refsL (.n k w l :: xs), ∀ L, ρ[b]? = some L → ρ'[f b]? = some L) →
  RpC D ρ' (l.map (.int k) ++ vs) (renL f (.n k w l :: xs)) := fun hl _ i g => .n hl (i fun b hb => g b (by simp [refsL, hb]))
 exact ⟨fun hr => key A1 A2 A3 A4 A5 A6 A7 A8 (fun _ => .nm) (fun _ => .nl) B1 B2 B3 (fun _ => .z) A9 A10 A11 (fun _ => .nil) C1 (fun _ => .nil) C2 C3 hr,
  fun hr => keyL A1 A2 A3 A4 A5 A6 A7 A8 (fun _ => .nm) (fun _ => .nl) B1 B2 B3 (fun _ => .z) A9 A10 A11 (fun _ => .nil) C1 (fun _ => .nil) C2 C3 hr,
  fun hr => keyC A1 A2 A3 A4 A5 A6 A7 A8 (fun _ => .nm) (fun _ => .nl) B1 B2 B3 (fun _ => .z) A9 A10 A11 (fun _ => .nil) C1 (fun _ => .nil) C2 C3 hr⟩
end
theorem itVs_S {lim : Nat} {f : Nat → Nat} : ∀ {n : Nat} {vs : List Value} {o1 r : List It} {t1 : List Chunk} {mt : Mem} {ρt : List Loc} {ct C : List Chunk}, OV D ρ lim vs o1 t1 → o1.length = n → SAt D ρt mt ct (t1 ++ C) h → Ren f lim ρ ρt →
 ∃ s ms cs, (itVs f mt n (o1 ++ r)).2.1 = r ∧ (itVs f mt n (o1 ++ r)).2.2 = mt ++ ms ∧ SAt D (ρt ++ s) (mt ++ ms) (ct ++ cs) C h ∧ RpC D (ρt ++ s) vs (itVs f mt n (o1 ++ r)).1
 | 0, vs, o1, r, t1, mt, ρt, ct, C, ho, hn, M, R => by
   cases ho <;> simp at hn
   exact ⟨[], [], [], rfl, by simp [itVs], by simpa using M, by simp [itVs]; exact .nil⟩
 | n + 1, vs, o1, r, t1, mt, ρt, ct, C, ho, hn, M, R => by
   cases ho with
   | nil => simp at hn
   | v hv hl hnn ho =>
     obtain ⟨s, ms, cs, e1, e2, M1, r1⟩ := itVs_S (r := r) ho (by simpa using hn) M R
     have hv2 := (ren_all.1 hv fun b hb L hL => R b (hl b hb) L hL).mono (.refl D) s
     refine ⟨s, ms, cs, ?_, ?_, M1, ?_⟩
     · simpa [itVs, itV] using e1
     · simpa [itVs, itV] using e2
     · simp only [itVs, itV, List.cons_append]; exact .cons hv2 (rp_n hv2) r1
   | n hw ho =>
     obtain ⟨s, ms, cs, e1, e2, M1, r1⟩ := itVs_S (r := r) ho (by simpa using hn) M R
     refine ⟨s, ms, cs, ?_, ?_, M1, ?_⟩
     · simpa [itVs, itV] using e1
     · simpa [itVs, itV] using e2
     · simp only [itVs, itV, List.cons_append]; exact .n hw r1
   | e he ho =>
     rename_i L E sz rows ch vs' os' tk'
     have M0 : SAt D (ρt ++ [L]) (mt ++ [.w E sz rows]) (ct ++ [ch]) (tk' ++ C) h := by
      have M' : SAt D ρt mt ct (ch :: (tk' ++ C)) h := M
      exact M'.push (by cases he with | w a b => exact .w a b)
     obtain ⟨s, ms, cs, e1, e2, M1, r1⟩ := itVs_S (r := r) ho (by simpa using hn) M0 (R.app _)
     refine ⟨L :: s, .w E sz rows :: ms, ch :: cs, ?_, ?_, by simpa using M1, ?_⟩
     · simpa [itVs, itV] using e1
     · have := e2; simp only [List.append_assoc, List.singleton_append] at this; simpa [itVs, itV] using this
     · simp only [itVs, itV, List.cons_append]
       refine .cons (.w ?_) (by simp) (by simpa using r1)
       rw [← M.len]; simp
theorem RpC.one {vs : List Value} {y : V} (hr : RpC D ρ vs [y]) (hy : ∀ k w l, y ≠ .n k w l) : ∃ v, vs = [v] ∧ Rp D ρ v y := by
 cases hr with
 | cons a n b => cases b; exact ⟨_, rfl, a⟩
 | n => exact absurd rfl (hy _ _ _)
theorem reR_S {lim : Nat} {f : Nat → Nat} : ∀ {rs : List RP} {vs : List Value} {o1 r : List It} {t1 : List Chunk} {mt : Mem} {ρt : List Loc} {ct C : List Chunk}, OR D ρ lim vs rs o1 t1 → SAt D ρt mt ct (t1 ++ C) h → Ren f lim ρ ρt →
 ∃ s ms cs, (reR f mt rs (o1 ++ r)).2.1 = r ∧ (reR f mt rs (o1 ++ r)).2.2 = mt ++ ms ∧ SAt D (ρt ++ s) (mt ++ ms) (ct ++ cs) C h ∧ RpL D (ρt ++ s) vs (reR f mt rs (o1 ++ r)).1
 | [], vs, o1, r, t1, mt, ρt, ct, C, ho, M, R => by
   cases ho
   exact ⟨[], [], [], rfl, by simp [reR], by simpa using M, by simp [reR]; exact .nil⟩
 | .one y :: rs, vs, o1, r, t1, mt, ρt, ct, C, ho, M, R => by
   cases ho with
   | one ov hl hnn ho =>
     rename_i v o1 t1 vs os tk
     rw [List.append_assoc] at M
     obtain ⟨s, ms, cs, e1, e2, M1, r1⟩ := itVs_S (r := os ++ r) ov hl M R
     obtain ⟨s2, ms2, cs2, e3, e4, M2, r2⟩ := reR_S (r := r) ho M1 (R.app s)
     refine ⟨s ++ s2, ms ++ ms2, cs ++ cs2, ?_, ?_, by simpa using M2, ?_⟩
     · simp only [reR, List.append_assoc, e1, e2, e3]
     · simp only [reR, List.append_assoc, e1, e2, e4]
     · simp only [reR, List.append_assoc, e1, e2]
       have h1 := r1.mono (.refl D) s2
       obtain ⟨i, rfl⟩ := List.length_eq_one_iff.1 hl
       have hy : ∀ k w l, (itV f mt i).1 ≠ .n k w l := by
        intro k w l
        cases i with
        | e ab => simp [itV]
        | v x => cases x <;> simp [itV, renV]; exact fun _ _ _ => hnn _ _ _ rfl
       obtain ⟨v', hv, hr⟩ := RpC.one (y := (itV f mt i).1) h1 hy
       cases hv
       rw [List.append_assoc] at hr r2
       exact .cons hr r2
 | .agg qs :: rs, vs, o1, r, t1, mt, ρt, ct, C, ho, M, R => by
   cases ho with
   | agg ov hl ho =>
     rename_i ws o1 t1 vs os tk
     rw [List.append_assoc] at M
     obtain ⟨s, ms, cs, e1, e2, M1, r1⟩ := itVs_S (r := os ++ r) ov hl M R
     obtain ⟨s2, ms2, cs2, e3, e4, M2, r2⟩ := reR_S (r := r) ho M1 (R.app s)
     refine ⟨s ++ s2, ms ++ ms2, cs ++ cs2, ?_, ?_, by simpa using M2, ?_⟩
     · simp only [reR, List.append_assoc, e1, e2, e3]
     · simp only [reR, List.append_assoc, e1, e2, e4]
     · simp only [reR, List.append_assoc, e1, e2]
       have h1 := r1.mono (.refl D) s2
       rw [List.append_assoc] at h1 r2
       exact .cons (.a h1) r2
end Go.Proofs.YtaogfopaalancaaDoor
/- The symbolic engine, part k: what is laid anew; calls. -/
set_option linter.unusedVariables false
namespace Go.Proofs.YtaogfopaalancaaDoor
open Go
variable {P : Program} {D D' : Fz} {ρ ρ' : List Loc} {m m' : Mem} {chs C : List Chunk} {h h' : Heap} {T : List Value} {t : List V} {ro hr : List Nat}
theorem Ent.any {L : Loc} {ab : AB} {ch : Chunk} (he : Ent D ρ L ab ch) (hn : noC ab = true) : Ent D ρ' L ab ch := by
 cases he with
 | c => cases hn
 | cw => cases hn
 | w a b => exact .w a b
 | o a => exact .o a
 | p a b c => exact .p a b c
 | tk a => exact .tk a
 | x => exact .x
theorem SAt.over {ch : Chunk} (M : SAt D ρ m chs (ch :: C) h) {b : Nat} {L : Loc} {ab : AB} (hb : b < m.length) (hL : ρ[b]? = some L) (he : Ent D ρ L ab ch) : SAt D ρ (ms m b ab) (chs.set b ch) C h := by
 have hlt : b < chs.length := by rw [M.lch]; exact hb
 have hc : chs[b]? = some chs[b] := List.getElem?_eq_getElem hlt
 refine M.put (C' := C) hL hc ?_ (.refl D) he
 have S1 := (M.front hc).drop
 rw [List.eraseIdx_append_of_lt_length hlt] at S1 ⊢
 exact S1.unmid
theorem reB_S {lim : Nat} {f : Nat → Nat} : ∀ {ps : List BP} {js bs : List Nat} {os : List It} {tk : List Chunk} {mt : Mem} {ρt : List Loc} {ct C : List Chunk}, OB D ρ lim ps js os tk → SAt D ρt mt ct (tk ++ C) h → Ren f lim ρ ρt → bs.length = ps.length →
 (∀ (i j b : Nat), js[i]? = some j → bs[i]? = some b → b < mt.length ∧ ∀ L, ρ[j]? = some L → ρt[b]? = some L) →
 ∃ s c2, SAt D (ρt ++ s) (reB f mt ps bs os) c2 C h ∧ mt.length ≤ (reB f mt ps bs os).length ∧ ∀ b, b < mt.length → b ∉ bs → mg (reB f mt ps bs os) b = mg mt b ∧ c2[b]? = ct[b]?
 | [], js, bs, os, tk, mt, ρt, ct, C, ho, M, R, hl, hj => by
   cases ho
   have : bs = [] := List.eq_nil_of_length_eq_zero hl
   subst this
   exact ⟨[], ct, by simpa [reB] using M, Nat.le_refl _, fun b _ _ => ⟨rfl, rfl⟩⟩
 | y :: ps, js, [], os, tk, mt, ρt, ct, C, ho, M, R, hl, hj => by simp at hl
 | y :: ps, js, b :: bs, os, tk, mt, ρt, ct, C, ho, M, R, hl, hj => by
   cases ho with
   | e hy hL he hn ho =>
     rename_i j ab L ch js os tk
     obtain ⟨hb, hjb⟩ := hj 0 j b rfl rfl
     have hbρ : b < ρt.length := by rw [M.len]; exact hb
     have M1 : SAt D ρt (ms mt b ab) (ct.set b ch) (tk ++ C) h := by
      by_cases hx : ab = .x
      · subst hx
        have : ch = [] := by cases he; rfl
        subst this
        exact SAt.over (C := tk ++ C) M hb (List.getElem?_eq_getElem hbρ) .x
      · exact SAt.over (C := tk ++ C) M hb (hjb L (hL hx)) (he.any hn)
     obtain ⟨s, c2, M2, g1, g2⟩ := reB_S (f := f) ho M1 R (by simpa using hl) (fun i j' b' h1 h2 => by
      have := hj (i + 1) j' b' (by simpa using h1) (by simpa using h2)
      rw [ms_len]; exact this)
     have e : reB f mt (y :: ps) (b :: bs) (.e ab :: os) = reB f (ms mt b ab) ps bs os := by
      cases y <;> first | rfl | exact absurd rfl (hy _)
     rw [e]
     rw [ms_len] at g1 g2
     refine ⟨s, c2, M2, g1, fun b' h1 h2 => ?_⟩
     simp only [List.mem_cons, not_or] at h2
     obtain ⟨g3, g4⟩ := g2 b' h1 h2.2
     rw [g3, g4, mg_ms_ne (Ne.symm h2.1), List.getElem?_set_ne (Ne.symm h2.1)]
     exact ⟨rfl, rfl⟩
   | c hL ov hl1 ho =>
     rename_i qs j L S arr o1 t1 js os tk
     obtain ⟨hb, hjb⟩ := hj 0 j b rfl rfl
     have Mp : SAt D ρt mt ct (t1 ++ ([(L.b, .cells arr.toArray S (0, 0))] :: (tk ++ C))) h := M.perm (by
      simp only [List.flatten_append, List.flatten_cons, List.cons_append, List.nil_append, List.append_assoc]
      exact List.perm_middle.symm)
     obtain ⟨s, ns, cs, e1, e2, M1, r1⟩ := itVs_S (r := os) ov hl1 Mp R
     have hb2 : b < (mt ++ ns).length := by simp; omega
     have M2 := M1.over (ab := .c (itVs f mt qs.length (o1 ++ os)).1) hb2 (get_app (hjb L hL)) (.c r1)
     obtain ⟨s2, c2, M3, g1, g2⟩ := reB_S (f := f) ho M2 (R.app s) (by simpa using hl) (fun i j' b' h1 h2 => by
      obtain ⟨h3, h4⟩ := hj (i + 1) j' b' (by simpa using h1) (by simpa using h2)
      rw [ms_len]
      exact ⟨by simp; omega, fun L hL => get_app (h4 L hL)⟩)
     have e : reB f mt (.c qs :: ps) (b :: bs) (o1 ++ os) = reB f (ms (mt ++ ns) b (.c (itVs f mt qs.length (o1 ++ os)).1)) ps bs os := by
      simp only [reB, e1, e2]
     rw [e]
     rw [ms_len] at g1 g2
     refine ⟨s ++ s2, c2, by simpa using M3, by simp at g1; omega, fun b' h1 h2 => ?_⟩
     simp only [List.mem_cons, not_or] at h2
     obtain ⟨g3, g4⟩ := g2 b' (by simp; omega) h2.2
     rw [g3, g4, mg_ms_ne (Ne.symm h2.1), List.getElem?_set_ne (Ne.symm h2.1), mg_app h1, List.getElem?_append_left (by rw [M.lch]; exact h1)]
     exact ⟨rfl, rfl⟩
theorem frzC_S : ∀ {xs ys : List V} {vs : List Value} {m m' : Mem} {D : Fz} {chs : List Chunk}, frzV.frzC (hr ++ ro) m xs = some (ys, m') → SAt D ρ m chs C h → RpC D ρ vs xs →
 ∃ D' chs', Nx ro hr D ρ m chs D' ρ m' chs' ∧ SAt D' ρ m' chs' C h ∧ RpC D' ρ vs ys
 | [], ys, vs, m, m', D, chs, hs, M, hv => by simp only [frzV.frzC, Option.some.injEq, Prod.mk.injEq] at hs; obtain ⟨rfl, rfl⟩ := hs; exact ⟨D, chs, .refl, M, hv⟩
 | x :: xs, ys, vs, m, m', D, chs, hs, M, hv => by
   have other : ∀ {l' : List V} {m2 : Mem}, frzV.frzC (hr ++ ro) m xs = some (l', m2) → ys = x :: l' → m' = m2 → ∃ D' chs', Nx ro hr D ρ m chs D' ρ m' chs' ∧ SAt D' ρ m' chs' C h ∧ RpC D' ρ vs ys := by
    intro l' m2 h1 e1 e2
    subst e1 e2
    cases hv with
    | cons a n b =>
      obtain ⟨D', c', n1, M1, r1⟩ := frzC_S h1 M b
      exact ⟨D', c', n1, M1, .cons (n1.rp a) n r1⟩
    | n hl b =>
      obtain ⟨D', c', n1, M1, r1⟩ := frzC_S h1 M b
      exact ⟨D', c', n1, M1, .n hl r1⟩
   unfold frzV.frzC at hs
   split at hs
   · rename_i heq; cases heq
   · rename_i b l heq
     cases heq
     split at hs
     · rename_i u m1 hu
       split at hs
       · rename_i l' m2 h2
         cases hs
         cases hv with
         | cons a n b =>
           obtain ⟨D1, c1, n1, M1, r1⟩ := toU_S hu M a
           obtain ⟨D2, c2, n2, M2, r2⟩ := frzC_S h2 M1 (n1.rpC b)
           exact ⟨D2, c2, n1.trans n2, M2, .cons (.u (r1.mono n2.le)) (by simp) r2⟩
       · cases hs
     · cases hs
   · rename_i v l hne heq
     cases heq
     split at hs
     · rename_i l' m2 h2
       cases hs
       exact other h2 rfl rfl
     · cases hs
theorem frzV_S {x y : V} {v : Value} (hs : frzV (hr ++ ro) m x = some (y, m')) (M : SAt D ρ m chs C h) (hv : Rp D ρ v x) :
 ∃ D' chs', Nx ro hr D ρ m chs D' ρ m' chs' ∧ SAt D' ρ m' chs' C h ∧ Rp D' ρ v y := by
 unfold frzV at hs
 split at hs
 · split at hs
   · rename_i u m1 hu
     cases hs
     obtain ⟨D1, c1, n1, M1, r1⟩ := toU_S hu M hv
     exact ⟨D1, c1, n1, M1, .u r1⟩
   · cases hs
 · split at hs
   · rename_i l' m1 hl
     cases hs
     obtain ⟨vs, rfl, hc⟩ := hv.a_inv
     obtain ⟨D1, c1, n1, M1, r1⟩ := frzC_S hl M hc
     exact ⟨D1, c1, n1, M1, .a r1⟩
   · cases hs
 · cases hs
   exact ⟨D, chs, .refl, M, hv⟩
theorem frzL_S : ∀ {xs ys : List V} {vs : List Value} {m m' : Mem} {D : Fz} {chs : List Chunk}, frzL (hr ++ ro) m xs = some (ys, m') → SAt D ρ m chs C h → RpL D ρ vs xs →
 ∃ D' chs', Nx ro hr D ρ m chs D' ρ m' chs' ∧ SAt D' ρ m' chs' C h ∧ RpL D' ρ vs ys
 | [], ys, vs, m, m', D, chs, hs, M, hv => by simp only [frzL, Option.some.injEq, Prod.mk.injEq] at hs; obtain ⟨rfl, rfl⟩ := hs; exact ⟨D, chs, .refl, M, hv⟩
 | x :: xs, ys, vs, m, m', D, chs, hs, M, hv => by
   simp only [frzL] at hs
   split at hs
   · rename_i y m1 h1
     split at hs
     · rename_i l' m2 h2
       cases hs
       cases hv with
       | cons a b =>
         obtain ⟨D1, c1, n1, M1, r1⟩ := frzV_S h1 M a
         obtain ⟨D2, c2, n2, M2, r2⟩ := frzL_S h2 M1 (n1.rpL b)
         exact ⟨D2, c2, n1.trans n2, M2, .cons (n2.rp r1) r2⟩
     · cases hs
   · cases hs
theorem normL_S : ∀ {Ts : List TypeId} {xs : List V} {vs : List Value}, RpL D ρ vs xs → RpL D ρ vs (normL P Ts xs)
 | [], xs, vs, hv => hv
 | _ :: _, [], vs, hv => hv
 | S :: Ts, x :: xs, vs, hv => by cases hv with | cons a b => exact .cons (datV_S (normV_S a)) (normL_S b)
theorem clo_nodup {m : Mem} : ∀ (n : Nat) (todo acc : List Nat), acc.Nodup → (clo m n todo acc).Nodup
 | 0, _, acc, h => h
 | _ + 1, [], acc, h => h
 | n + 1, b :: todo, acc, h => by
   simp only [clo]
   cases hb : inL acc b with
   | true => exact clo_nodup n _ _ h
   | false =>
     refine clo_nodup n _ _ ?_
     rw [List.nodup_append]
     refine ⟨h, by simp, fun x hx y hy e => ?_⟩
     subst e
     rw [List.mem_singleton.1 hy] at hx
     rw [inL_iff.2 hx] at hb
     cases hb
theorem SAt.takes : ∀ {ix : List Nat} {m : Mem} {chs C : List Chunk}, SAt D ρ m chs C h → ix.Nodup → (∀ b ∈ ix, b < m.length) →
 ∃ c', SAt D ρ (killM m ix) c' ((ix.map fun b => (chs[b]?).getD []) ++ C) h ∧ (∀ b, b ∉ ix → c'[b]? = chs[b]? ∧ mg (killM m ix) b = mg m b)
 | [], m, chs, C, M, hn, hb => ⟨chs, M, fun _ _ => ⟨rfl, rfl⟩⟩
 | b :: ix, m, chs, C, M, hn, hb => by
   have hb0 := hb b (by simp)
   have hr : b < ρ.length := by rw [M.len]; exact hb0
   have hc : b < chs.length := by rw [M.lch]; exact hb0
   have M1 := M.take (List.getElem?_eq_getElem hr) (List.getElem?_eq_getElem hc)
   rw [List.nodup_cons] at hn
   obtain ⟨c', M2, g⟩ := SAt.takes M1 hn.2 (fun b' h' => by rw [ms_len]; exact hb b' (by simp [h']))
   refine ⟨c', M2.perm ?_, fun b' hb' => ?_⟩
   · have e : (ix.map fun b' => ((chs.set b [])[b']?).getD []) = ix.map fun b' => (chs[b']?).getD [] := by
      refine List.map_congr_left fun b' hb' => ?_
      rw [List.getElem?_set_ne]
      rintro rfl; exact hn.1 hb'
     rw [e]
     simp only [List.map_cons, List.flatten_append, List.flatten_cons, List.cons_append, List.getElem?_eq_getElem hc, Option.getD_some]
     exact List.perm_append_comm_assoc _ _ _
   · simp only [List.mem_cons, not_or] at hb'
     obtain ⟨g1, g2⟩ := g b' hb'.2
     simp only [killM]
     rw [g1, g2, List.getElem?_set_ne (Ne.symm hb'.1), mg_ms_ne (Ne.symm hb'.1)]
     exact ⟨rfl, rfl⟩
theorem killM_len : ∀ (ix : List Nat) (m : Mem), (killM m ix).length = m.length
 | [], _ => rfl
 | b :: ix, m => by simp only [killM]; rw [killM_len ix, ms_len]
theorem allIn_iff {ix : List Nat} : ∀ {l : List Nat}, allIn ix l = true → ∀ b ∈ l, b ∈ ix
 | [], _ => by simp
 | x :: l, h => by
   simp only [allIn, Bool.and_eq_true] at h
   intro b hb
   rcases List.mem_cons.1 hb with rfl | hb
   · exact inL_iff.1 h.1
   · exact allIn_iff h.2 b hb
theorem below_iff {n : Nat} : ∀ {l : List Nat}, below n l = true → ∀ b ∈ l, b < n
 | [], _ => by simp
 | x :: l, h => by
   simp only [below, Bool.and_eq_true] at h
   intro b hb
   rcases List.mem_cons.1 hb with rfl | hb
   · exact Nat.le_of_ble_eq_true h.1
   · exact below_iff h.2 b hb
theorem disj_iff {hr : List Nat} : ∀ {l : List Nat}, disj hr l = true → ∀ b ∈ l, b ∉ hr
 | [], _ => by simp
 | x :: l, h => by
   simp only [disj, Bool.and_eq_true, Bool.not_eq_true'] at h
   intro b hb
   rcases List.mem_cons.1 hb with rfl | hb
   · exact fun hm => by rw [inL_iff.2 hm] at h; cases h.1
   · exact disj_iff h.2 b hb
theorem posL_get : ∀ {ix : List Nat} {b k : Nat}, b ∈ ix → ∃ i, posL ix b k = k + i ∧ ix[i]? = some b
 | x :: ix, b, k, hb => by
   simp only [posL]
   cases hx : Nat.beq x b with
   | true => have := Nat.eq_of_beq_eq_true hx; subst this; exact ⟨0, rfl, rfl⟩
   | false =>
     rcases List.mem_cons.1 hb with rfl | hb
     · simp at hx
     · obtain ⟨i, h1, h2⟩ := posL_get (k := k + 1) hb
       exact ⟨i + 1, by rw [cond_false, h1]; omega, by simpa using h2⟩
theorem nthN_eq : ∀ {ix : List Nat} {i b : Nat}, ix[i]? = some b → nthN ix i = b
 | [], _, _, h => by simp at h
 | _ :: _, 0, _, h => by simpa [nthN] using h
 | _ :: ix, i + 1, b, h => by simp only [nthN]; exact nthN_eq (by simpa using h)
theorem Ent.ren {f : Nat → Nat} {L : Loc} {ab : AB} {ch : Chunk} (he : Ent D ρ L ab ch) (hf : ∀ b ∈ refsA ab, ∀ L, ρ[b]? = some L → ρ'[f b]? = some L) : Ent D ρ' L (renA f ab) ch := by
 cases he with
 | c hc => exact .c (ren_all.2.2 hc hf)
 | w a b => exact .w a b
 | o a => exact .o a
 | p a b c => exact .p a b c
 | tk a => exact .tk a
 | x => exact .x
 | cw a b hc d e f => exact .cw a b (ren_all.2.2 hc hf) d e f
theorem SAt.sub2 (M : SAt D ρ m chs C h) {ix : List Nat} (hn : ix.Nodup) (hb : ∀ b ∈ ix, b < m.length) (hcl : ∀ b ∈ ix, ∀ c ∈ refsA (mg m b), c ∈ ix) : ∃ c' cs, cs = (ix.map fun b => (chs[b]?).getD []) ∧ SAt D ρ (killM m ix) c' (cs ++ C) h ∧ (∀ b, b ∉ ix → c'[b]? = chs[b]? ∧ mg (killM m ix) b = mg m b) ∧
 SAt D (ix.map fun b => (ρ[b]?).getD ⟨0, none, 0, 0, none⟩) (subM m ix) cs (c' ++ C) h := by
 obtain ⟨c', M1, g⟩ := M.takes hn hb
 refine ⟨c', _, rfl, M1, g, by simp [subM], by simp [subM], ?_, ?_⟩
 · intro i L ab ch h1 h2 h3
   simp only [subM, List.getElem?_map] at h1 h2 h3
   obtain ⟨b, hib, rfl⟩ := Option.map_eq_some_iff.1 h2
   rw [hib] at h1 h3
   simp only [Option.map_some, Option.some.injEq] at h1 h3
   have hbm := List.mem_of_getElem? hib
   have hlt := hb b hbm
   have hr : b < ρ.length := by rw [M.len]; exact hlt
   have hc : b < chs.length := by rw [M.lch]; exact hlt
   rw [List.getElem?_eq_getElem hr, Option.getD_some] at h1
   rw [List.getElem?_eq_getElem hc, Option.getD_some] at h3
   subst h1 h3
   refine (M.ent b _ _ _ (List.getElem?_eq_getElem hr) (mg_eq hlt) (List.getElem?_eq_getElem hc)).ren fun c hcr L hL => ?_
   obtain ⟨k, h4, h5⟩ := posL_get (k := 0) (hcl b hbm c hcr)
   rw [h4, Nat.zero_add, List.getElem?_map, h5, Option.map_some, hL]; rfl
 · refine M1.st.perm ?_
   simp only [List.flatten_append]
   exact List.perm_append_comm_assoc _ _ _
theorem SAt.sub (M : SAt D ρ m chs C h) {ix : List Nat} (hn : ix.Nodup) (hb : ∀ b ∈ ix, b < m.length) (hcl : ∀ b ∈ ix, ∀ c ∈ refsA (mg m b), c ∈ ix) : ∃ c' cs, SAt D ρ (killM m ix) c' (cs ++ C) h ∧ (∀ b, b ∉ ix → c'[b]? = chs[b]? ∧ mg (killM m ix) b = mg m b) ∧
 SAt D (ix.map fun b => (ρ[b]?).getD ⟨0, none, 0, 0, none⟩) (subM m ix) cs (c' ++ C) h :=
 let ⟨c', cs, _, h1, h2, h3⟩ := M.sub2 hn hb hcl; ⟨c', cs, h1, h2, h3⟩
end Go.Proofs.YtaogfopaalancaaDoor
/- The symbolic engine, part l: calls are told rightly; the state at a loop's head. -/
set_option linter.unusedVariables false
namespace Go.Proofs.YtaogfopaalancaaDoor
open Go
variable {P : Program} {D D' : Fz} {ρ ρ' : List Loc} {m m' : Mem} {chs C : List Chunk} {h h' : Heap} {T : List Value} {t : List V} {ro hr : List Nat}
theorem St.sublist {C' : List Chunk} (S : St D C h) (hs : C'.flatten.Sublist C.flatten) : St D C' h where
 nd := (hs.map (fun p : Nat × Obj => p.1)).nodup S.nd
 own p hp := S.own p (hs.subset hp)
 fz b o hb := ⟨(S.fz b o hb).1, fun hm => (S.fz b o hb).2 ((hs.map (fun p : Nat × Obj => p.1)).subset hm)⟩
theorem St.drops {A B : List Chunk} (S : St D (A ++ B) h) : St D B h := S.sublist (by rw [List.flatten_append]; exact List.sublist_append_right _ _)
theorem pkR_len {lim : Nat} : ∀ {rs : List RP} {xs : List V} {m m' : Mem} {os : List It}, pkR lim m rs xs = some (os, m') → rs.length = xs.length
 | [], [], _, _, _, _ => rfl
 | [], _ :: _, _, _, _, h => by cases h
 | .one _ :: _, [], _, _, _, h => by cases h
 | .agg _ :: _, [], _, _, _, h => by cases h
 | .one y :: rs, x :: xs, m, m', os, h => by
   simp only [pkR] at h
   split at h
   · split at h
     · rename_i h2; simp [pkR_len h2]
     · cases h
   · cases h
 | .agg qs :: rs, x :: xs, m, m', os, h => by
   cases x with
   | a l =>
     simp only [pkR] at h
     split at h
     · split at h
       · rename_i h2; simp [pkR_len h2]
       · cases h
     · cases h
   | _ => simp [pkR] at h
theorem roEq_spec : ∀ {ix : List Nat} {K : Prop}, roEq ro m m' ix K → K ∧ ∀ b ∈ ix, inL ro b = true → mg m' b = mg m b
 | [], K, h => ⟨h, by simp⟩
 | b :: ix, K, h => by
   simp only [roEq] at h
   cases hb : inL ro b with
   | true =>
     rw [hb] at h
     obtain ⟨h1, h2⟩ := roEq_spec h.2
     refine ⟨h1, fun c hc hr => ?_⟩
     rcases List.mem_cons.1 hc with rfl | hc
     · exact h.1
     · exact h2 c hc hr
   | false =>
     rw [hb] at h
     obtain ⟨h1, h2⟩ := roEq_spec h
     refine ⟨h1, fun c hc hr => ?_⟩
     rcases List.mem_cons.1 hc with rfl | hc
     · rw [hb] at hr; cases hr
     · exact h2 c hc hr
theorem datA_S {L : Loc} {ab : AB} {ch : Chunk} (he : Ent D ρ L ab ch) : Ent D ρ L (datA ab) ch := by
 cases he with
 | c h => exact .c (datL_S h)
 | w a b => exact .w a b
 | o a => exact .o a
 | p a b c => exact .p a b c
 | tk a => exact .tk a
 | x => exact .x
 | cw a b c d e f => exact .cw a b c d e f
theorem datM_get : ∀ {m : Mem} {i : Nat}, (datM m)[i]? = (m[i]?).map datA
 | [], i => by simp [datM]
 | a :: m, 0 => by simp [datM]
 | a :: m, i + 1 => by simp only [datM, List.getElem?_cons_succ]; exact datM_get
theorem datM_len : ∀ {m : Mem}, (datM m).length = m.length
 | [] => rfl
 | a :: m => by simp [datM, datM_len (m := m)]
theorem SAt.dat (M : SAt D ρ m chs C h) : SAt D ρ (datM m) chs C h where
 len := by rw [datM_len]; exact M.len
 lch := by rw [datM_len]; exact M.lch
 ent i L ab ch h1 h2 h3 := by
  rw [datM_get] at h2
  obtain ⟨a, h4, rfl⟩ := Option.map_eq_some_iff.1 h2
  exact datA_S (M.ent i L a ch h1 h4 h3)
 st := M.st
theorem callQ_S {kn : KN P} {g : FuncId} {m : Mem} {a : List V} {Q : V → Mem → Prop} (h : callQ P kn g m a Q) : PRun P g m a Q := by
 unfold callQ at h
 split at h
 · rename_i r hr
   intro D ρ chs C hp vs M ha
   exact (kn.ok g m a r hr D ρ chs C hp vs M ha).mono fun v h' ⟨D', ρ', c', x, m', l, M', hv, hx⟩ => ⟨D', ρ', c', x, m', l, M', hv, by rw [hx.1, hx.2]; exact h⟩
 · exact h
theorem callT_S {kn : KN P} {g : FuncId} {ix : List Nat} {rs : List RP} {bs : List BP} {as' : List V} {m1 : Mem} {c1 : List Chunk} {D1 : Fz} {KS : V → Mem → Prop} {vs : List Value} (hs : callT P kn ro hr g ix rs bs as' m1 KS) (hnd : ix.Nodup) (n1 : Nx ro hr D ρ m chs D1 ρ m1 c1) (M1 : SAt D1 ρ m1 c1 C h) (ra : RpL D1 ρ vs as') :
 Run P g vs h (PostE ro hr D ρ m chs C KS) := by
 unfold callT at hs
 · obtain ⟨hcc, hrun⟩ := cond_spec hs
   simp only [Bool.and_eq_true] at hcc
   obtain ⟨⟨⟨⟨q1, q2⟩, q3⟩, q4⟩, q5⟩ := hcc
   have q1 := disj_iff q1
   have q2 := below_iff q2
   have q3 := allIn_iff q3
   have q4 := allIn_iff q4
   have q5 := Nat.eq_of_beq_eq_true q5
   obtain ⟨c', cs, Mk, gk, Ms⟩ := M1.sub hnd q2 fun b hb c hc => q4 c (List.mem_flatMap.2 ⟨b, hb, hc⟩)
   have sub : ∀ {b i : Nat} {L : Loc}, ix[i]? = some b → ρ[b]? = some L → (ix.map fun b => (ρ[b]?).getD ⟨0, none, 0, 0, none⟩)[i]? = some L := fun h1 h2 => by rw [List.getElem?_map, h1, Option.map_some, h2]; rfl
   have ra' := (ren_all (D := D1) (ρ := ρ) (f := fun b => posL ix b 0) (ρ' := ix.map fun b => (ρ[b]?).getD ⟨0, none, 0, 0, none⟩)).2.1 ra fun b hb L hL => by
    obtain ⟨k, h4, h5⟩ := posL_get (k := 0) (q3 b hb)
    rw [h4, Nat.zero_add]
    exact sub h5 hL
   refine ((callQ_S hrun) D1 _ cs (c' ++ C) h vs Ms.dat ra').mono ?_
   rintro v h' ⟨D2, ρ2, cs2, x, m', le, Ms2, hv, hq⟩
   unfold post at hq
   split at hq
   · rename_i os mm1 hR
     split at hq
     · rename_i os2 mm2 hB
       -- the results as values
       have hxs : ∃ VS, RpL D2 ((ix.map fun b => (ρ[b]?).getD ⟨0, none, 0, 0, none⟩) ++ ρ2) VS (resX rs x) ∧
        ∀ {D3 : Fz} {ρ3 : List Loc} {ys : List V}, RpL D3 ρ3 VS ys → Rp D3 ρ3 v (oneR rs ys) := by
        have hlen := pkR_len hR
        by_cases hone : ∃ r, rs = [r]
        · obtain ⟨r, rfl⟩ := hone
          refine ⟨[v], .cons hv .nil, fun hy => ?_⟩
          cases hy with | cons a b => cases b; exact a
        · have e1 : ∀ ys, oneR rs ys = .t ys := fun ys => by
           unfold oneR
           split
           · exact absurd ⟨_, rfl⟩ hone
           · rfl
          cases x with
          | t l =>
            have e2 : resX rs (.t l) = l := by
             unfold resX
             split
             · exact absurd ⟨_, rfl⟩ hone
             · rename_i h1; cases h1; rfl
             · rename_i h1; exact absurd rfl (h1 _)
            obtain ⟨VS, rfl, hl⟩ := hv.t_inv
            exact ⟨VS, by rw [e2]; exact hl, fun hy => by rw [e1]; exact .t hy⟩
          | _ =>
            exfalso
            have : rs.length = 1 := by
             rw [hlen]
             unfold resX
             split <;> first | rfl | (rename_i h1; cases h1)
            exact hone (List.length_eq_one_iff.1 this)
       obtain ⟨VS, hVS, hres⟩ := hxs
       obtain ⟨tk1, c3, M3, o1, k1, -⟩ := pkR_S hR Ms2 hVS
       obtain ⟨tk2, c4, M4, o2, k2, -⟩ := pkB_S hB M3
       rw [apP_mk (k1.app k2)] at hq
       -- back to the caller
       have S5 : St D2 (c' ++ (tk1 ++ (tk2 ++ C))) h' := (M4.st.drops).perm (by
        simp only [List.flatten_append]
        have p1 : ∀ (A B E F : Chunk), (A ++ (B ++ (E ++ F))).Perm (E ++ (B ++ (A ++ F))) := fun A B E F => by
         refine (List.perm_append_comm_assoc A B _).trans ?_
         refine ((List.perm_append_comm_assoc A E F).append_left B).trans ?_
         exact List.perm_append_comm_assoc B E _
        exact p1 _ _ _ _)
       have M5 : SAt D2 ρ (killM m1 ix) c' (tk1 ++ (tk2 ++ C)) h' := Mk.mono le S5
       have hR1 : Ren (nthN ix) bs.length ((ix.map fun b => (ρ[b]?).getD ⟨0, none, 0, 0, none⟩) ++ ρ2) ρ := fun b hb L hL => by
        have hb' : b < ix.length := by omega
        rw [List.getElem?_append_left (by simpa using hb'), List.getElem?_map, List.getElem?_eq_getElem hb', Option.map_some] at hL
        have hlt : ix[b] < ρ.length := by rw [M1.len]; exact q2 _ (List.getElem_mem hb')
        rw [List.getElem?_eq_getElem hlt] at hL
        rw [nthN_eq (List.getElem?_eq_getElem hb'), List.getElem?_eq_getElem hlt]
        exact hL
       obtain ⟨s, ns, cn, e1, e2, M6, r6⟩ := reR_S (r := os2) o1 M5 hR1
       rw [← e1] at o2
       have hlk := killM_len ix m1
       obtain ⟨s2, c7, M7, g1, g2⟩ := reB_S (bs := ix) o2 M6 (hR1.app s) (by rw [q5]) (fun i j b hj hb => by
        have hj' : j = i ∧ i < bs.length := by
         have := List.getElem?_eq_some_iff.1 hj
         obtain ⟨h1, h2⟩ := this
         simp at h1 h2
         exact ⟨h2.symm, h1⟩
        obtain ⟨rfl, hi⟩ := hj'
        have hbm := q2 b (List.mem_of_getElem? hb)
        refine ⟨by rw [List.length_append, hlk]; omega, fun L hL => ?_⟩
        have := (hR1.app s) j hi L hL
        rwa [nthN_eq hb] at this)
       rw [e2] at hq
       obtain ⟨hK, hro⟩ := roEq_spec hq
       refine ⟨D2, ρ ++ (s ++ s2), _, c7, _, ⟨n1.le.trans le, ⟨_, rfl⟩, fun b hb hlt => ?_, fun b hb hlt => ?_, ?_⟩, by rw [← List.append_assoc]; exact M7, hres (by rw [← List.append_assoc]; exact r6.mono (.refl _) s2), hK⟩
       · have hlt1 : b < m1.length := Nat.lt_of_lt_of_le hlt n1.len
         have hni : b ∉ ix := fun hi => q1 b hi (inL_iff.1 hb)
         rw [(g2 b (by rw [List.length_append, hlk]; omega) hni).2, List.getElem?_append_left (by rw [Mk.lch, hlk]; exact hlt1), (gk b hni).1, n1.keep b hb hlt]
       · have hlt1 : b < m1.length := Nat.lt_of_lt_of_le hlt n1.len
         by_cases hi : b ∈ ix
         · have hbr : inL ro b = true := by
            rw [inL_iff] at hb ⊢
            exact (List.mem_append.1 hb).resolve_left (q1 b hi)
           rw [hro b hi hbr, n1.same b hb hlt]
         · rw [(g2 b (by rw [List.length_append, hlk]; omega) hi).1, mg_app (by rw [hlk]; exact hlt1), (gk b hi).2, n1.same b hb hlt]
       · have := n1.len
         rw [List.length_append, hlk] at g1
         omega
     · exact hq.elim
   · exact hq.elim
theorem callS_S {H : SH P} {fn : Func} {g : FuncId} {args : List V} {KS : V → Mem → Prop} {vs : List Value} (hs : callS P H ro hr fn g args m KS) (M : SAt D ρ m chs C h) (ha : RpL D ρ vs args) : Run P g vs h (PostE ro hr D ρ m chs C KS) := by
 unfold callS at hs
 split at hs
 · exact hs.elim
 · rename_i as' m1 hfz
   have ha := normL_S (P := P) (Ts := fn.params.toList) ha
   have frz : ∃ D1 c1, Nx ro hr D ρ m chs D1 ρ m1 c1 ∧ SAt D1 ρ m1 c1 C h ∧ RpL D1 ρ vs as' := by
    cases hw : inL H.ow g with
    | true =>
      rw [hw] at hfz
      simp only [cond_true, Option.some.injEq, Prod.mk.injEq] at hfz
      obtain ⟨rfl, rfl⟩ := hfz
      exact ⟨D, chs, .refl, M, ha⟩
    | false =>
      rw [hw] at hfz
      exact frzL_S hfz M ha
   obtain ⟨D1, c1, n1, M1, ra⟩ := frz
   have hnd := clo_nodup (m := m1) 1000 (refsL as') [] (by simp)
   split at hs
   · exact callT_S hs hnd n1 M1 ra
   · exact callT_S hs hnd n1 M1 ra
end Go.Proofs.YtaogfopaalancaaDoor
/- The symbolic engine, part m: the state at a loop's head; code; functions. -/
set_option linter.unusedVariables false
namespace Go.Proofs.YtaogfopaalancaaDoor
open Go
variable {P : Program} {D D' : Fz} {ρ ρ' : List Loc} {m m' : Mem} {chs C : List Chunk} {h h' : Heap} {T : List Value} {t : List V} {ro hr : List Nat}
theorem refs_lt : (∀ {v : Value} {x : V}, Rp D ρ v x → ∀ b ∈ refsV x, b < ρ.length) ∧ (∀ {v : List Value} {x : List V}, RpL D ρ v x → ∀ b ∈ refsL x, b < ρ.length) ∧ (∀ {v : List Value} {x : List V}, RpC D ρ v x → ∀ b ∈ refsL x, b < ρ.length) := by
 have lt : ∀ {b : Nat} {L : Loc}, ρ[b]? = some L → b < ρ.length := fun h => (List.getElem?_eq_some_iff.1 h).1
 have one : ∀ {b : Nat} {L : Loc}, ρ[b]? = some L → ∀ c ∈ [b], c < ρ.length := fun h c hc => by rw [List.mem_singleton.1 hc]; exact lt h
 have key := @Rp.rec D ρ (fun v x _ => ∀ b ∈ refsV x, b < ρ.length) (fun vs xs _ => ∀ b ∈ refsL xs, b < ρ.length) (fun vs xs _ => ∀ b ∈ refsL xs, b < ρ.length)
  (fun _ => by simp [refsV]) (fun h => one h) (fun h _ _ _ => one h) (fun h _ _ => one h) (fun _ _ _ => by simp [refsV]) (fun h => one h) (fun _ => by simp [refsV]) (fun h => one h) (by simp [refsV]) (by simp [refsV])
  (fun _ _ i1 i2 => by intro b hb; simp only [refsV, List.mem_append] at hb; exact hb.elim (i1 b) (i2 b)) (fun _ i => i) (fun _ i => i) (by simp [refsV]) (fun h => one h) (fun h _ _ _ _ _ _ => one h) (fun h _ _ => one h) (by simp [refsL])
  (fun _ _ i1 i2 => by intro b hb; simp only [refsL, List.mem_append] at hb; exact hb.elim (i1 b) (i2 b)) (by simp [refsL]) (fun _ _ _ i1 i2 => by intro b hb; simp only [refsL, List.mem_append] at hb; exact hb.elim (i1 b) (i2 b))
  (fun _ _ i => by intro b hb; simp only [refsL, refsV, List.nil_append] at hb; exact i b hb)
 have keyL := @RpL.rec D ρ (fun v x _ => ∀ b ∈ refsV x, b < ρ.length) (fun vs xs _ => ∀ b ∈ refsL xs, b < ρ.length) (fun vs xs _ => ∀ b ∈ refsL xs, b < ρ.length)
  (fun _ => by simp [refsV]) (fun h => one h) (fun h _ _ _ => one h) (fun h _ _ => one h) (fun _ _ _ => by simp [refsV]) (fun h => one h) (fun _ => by simp [refsV]) (fun h => one h) (by simp [refsV]) (by simp [refsV])
  (fun _ _ i1 i2 => by intro b hb; simp only [refsV, List.mem_append] at hb; exact hb.elim (i1 b) (i2 b)) (fun _ i => i) (fun _ i => i) (by simp [refsV]) (fun h => one h) (fun h _ _ _ _ _ _ => one h) (fun h _ _ => one h) (by simp [refsL])
  (fun _ _ i1 i2 => by intro b hb; simp only [refsL, List.mem_append] at hb; exact hb.elim (i1 b) (i2 b)) (by simp [refsL]) (fun _ _ _ i1 i2 => by intro b hb; simp only [refsL, List.mem_append] at hb; exact hb.elim (i1 b) (i2 b))
  (fun _ _ i => by intro b hb; simp only [refsL, refsV, List.nil_append] at hb; exact i b hb)
 have keyC := @RpC.rec D ρ (fun v x _ => ∀ b ∈ refsV x, b < ρ.length) (fun vs xs _ => ∀ b ∈ refsL xs, b < ρ.length) (fun vs xs _ => ∀ b ∈ refsL xs, b < ρ.length)
  (fun _ => by simp [refsV]) (fun h => one h) (fun h _ _ _ => one h) (fun h _ _ => one h) (fun _ _ _ => by simp [refsV]) (fun h => one h) (fun _ => by simp [refsV]) (fun h => one h) (by simp [refsV]) (by simp [refsV])
  (fun _ _ i1 i2 => by intro b hb; simp only [refsV, List.mem_append] at hb; exact hb.elim (i1 b) (i2 b)) (fun _ i => i) (fun _ i => i) (by simp [refsV]) (fun h => one h) (fun h _ _ _ _ _ _ => one h) (fun h _ _ => one h) (by simp [refsL])
  (fun _ _ i1 i2 => by intro b hb; simp only [refsL, List.mem_append] at hb; exact hb.elim (i1 b) (i2 b)) (by simp [refsL]) (fun _ _ _ i1 i2 => by intro b hb; simp only [refsL, List.mem_append] at hb; exact hb.elim (i1 b) (i2 b))
  (fun _ _ i => by intro b hb; simp only [refsL, refsV, List.nil_append] at hb; exact i b hb)
 exact ⟨fun h => key h, fun h => keyL h, fun h => keyC h⟩
mutual
theorem renV_id : ∀ x : V, renV id x = x
 | .r b o => rfl
 | .e b s k o => rfl
 | .g b o w k => rfl
 | .w b => rfl
 | .m b => rfl
 | .y b => rfl
 | .v b sz l n c => rfl
 | .sl b o n => rfl
 | .f g a c => by simp only [renV]; rw [renL_id a, renL_id c]
 | .a l => by simp only [renV]; rw [renL_id l]
 | .t l => by simp only [renV]; rw [renL_id l]
 | .u x => rfl
 | .q c o => rfl
 | .c s r => rfl
 | .nm => rfl
 | .nl _ => rfl
 | .n k w l => rfl
 | .z => rfl
theorem renL_id : ∀ x : List V, renL id x = x
 | [] => rfl
 | v :: l => by simp only [renL]; rw [renV_id v, renL_id l]
end
theorem Ent.shrink {D0 : Fz} {s : List Loc} {L L0 : Loc} {ab : AB} {ch ch0 : Chunk} (h0 : Ent D0 ρ L0 ab ch0) (he : Ent D (ρ ++ s) L ab ch) : Ent D ρ L ab ch := by
 have hf : ∀ b ∈ refsA ab, b < ρ.length := by
  cases h0 with
  | c hc => exact refs_lt.2.2 hc
  | cw _ _ hc => exact refs_lt.2.2 hc
  | _ => simp [refsA]
 have := he.ren (f := id) (ρ' := ρ) fun b hb L hL => by rw [List.getElem?_append_left (hf b hb)] at hL; exact hL
 cases ab with
 | c l => simp only [renA, renL_id] at this; exact this
 | cw _ _ _ l => simp only [renA, renL_id] at this; exact this
 | _ => exact this
theorem killM_get : ∀ {l : List Nat} {m : Mem} {b : Nat}, b < m.length → mg (killM m l) b = if b ∈ l then .x else mg m b
 | [], m, b, h => by simp [killM]
 | j :: l, m, b, h => by
   simp only [killM]
   rw [killM_get (by rw [ms_len]; exact h)]
   by_cases hbj : j = b
   · subst hbj; rw [mg_ms h]; simp
   · rw [mg_ms_ne hbj]
     have : b ≠ j := Ne.symm hbj
     simp [this]
theorem aliveB_get : ∀ {a c : Mem}, aliveB a c = true → ∀ b, mg a b ≠ .x → mg c b ≠ .x
 | [], c, h, b, hb => absurd rfl hb
 | y1 :: a, [], h, b, hb => by cases y1 <;> simp [aliveB] at h
 | y1 :: a, y :: c, h, b, hb => by
   have h2 : aliveB a c = true := by cases y1 <;> cases y <;> first | exact h | (simp [aliveB] at h)
   cases b with
   | zero =>
     intro e
     simp only [mg] at e hb
     subst e
     cases y1 <;> first | exact hb rfl | simp [aliveB] at h
   | succ b => exact aliveB_get h2 b hb
theorem roOf_mem : ∀ {m : Mem} {k b : Nat}, b ∈ roOf m k ↔ ∃ i, b = k + i ∧ mg m i ≠ .x
 | [], k, b => by simp [roOf, mg]
 | y1 :: m, k, b => by
   have step : (∃ i, b = k + i ∧ mg (y1 :: m) i ≠ .x) ↔ (b = k ∧ y1 ≠ .x) ∨ ∃ i, b = k + 1 + i ∧ mg m i ≠ .x := by
    constructor
    · rintro ⟨i, hi, hx⟩
      cases i with
      | zero => exact .inl ⟨by omega, hx⟩
      | succ i => exact .inr ⟨i, by omega, hx⟩
    · rintro (⟨h1, h2⟩ | ⟨i, h1, h2⟩)
      · exact ⟨0, by omega, h2⟩
      · exact ⟨i + 1, by omega, h2⟩
   rw [step, ← roOf_mem (m := m) (k := k + 1)]
   cases y1 <;> simp [roOf]
theorem sub_chunks : ∀ {a b : List Chunk}, a.length ≤ b.length → (∀ (i : Nat) (c : Chunk), a[i]? = some c → c = [] ∨ b[i]? = some c) → a.flatten.Sublist b.flatten
 | [], b, _, _ => by simp
 | x :: a, [], h, _ => by simp at h
 | x :: a, y :: b, h, hh => by
   rw [List.flatten_cons, List.flatten_cons]
   refine List.Sublist.append ?_ (sub_chunks (by simpa using h) fun i c hc => hh (i + 1) c (by simpa using hc))
   rcases hh 0 x rfl with rfl | h0
   · exact List.nil_sublist _
   · simp at h0; rw [h0]; exact List.Sublist.refl _
theorem havoc_S {md : List Nat} {T' : List Value} : ∀ {t : List V} {T : List Value} {T' : List Value} {k : Nat}, RpL D ρ T t → T'.length = T.length → (∀ i, k + i ∉ md → lget T' i = lget T i) → RpL D ρ T' (havoc md t k)
 | [], T, T', k, F, hl, hs => by
   cases F
   have : T' = [] := List.eq_nil_of_length_eq_zero hl
   subst this
   exact .nil
 | x :: t, T, [], k, F, hl, hs => by cases F; simp at hl
 | x :: t, T, v' :: T', k, F, hl, hs => by
   cases F with
   | cons a b =>
     simp only [havoc]
     refine .cons ?_ (havoc_S (T' := T') b (by simpa using hl) fun i hi => ?_)
     · cases hc : md.contains k with
       | true => exact .z
       | false =>
         have := hs 0 (by simpa using hc)
         simp only [lget] at this
         rw [this]; exact a
     · have := hs (i + 1) (by rw [show k + (i + 1) = k + 1 + i by omega]; exact hi)
       simpa [lget] using this
theorem setS_S : ∀ {sl : List (Nat × RP)} {xs : List V} {T : List Value} {t : List V}, RpL D ρ T t → RpL D ρ (sl.map fun p => lget T p.1) xs → RpL D ρ T (setS t sl xs)
 | [], xs, T, t, F, hx => by cases xs <;> exact F
 | p :: sl, xs, T, t, F, hx => by
   cases hx with
   | cons a b =>
     simp only [setS]
     have := F.set p.1 a
     rw [lset_get] at this
     exact setS_S this b
theorem vgets_S (F : RpL D ρ T t) : ∀ (sl : List (Nat × RP)), RpL D ρ (sl.map fun p => lget T p.1) (sl.map fun p => vget t p.1)
 | [] => .nil
 | p :: sl => .cons (F.get p.1) (vgets_S F sl)
theorem restate {H : Hint} {md : List Nat} {hp : Heap} (hd : disj (hr ++ ro) (H.tk t m) = true) (hbl : below m.length (H.bl.map (·.1)) = true) {C0 : List Chunk} (M : SAt D ρ m chs C0 hp) (F : RpL D ρ T t) {D' : Fz} {ρ' : List Loc} {m' : Mem} {chs' : List Chunk} {t' : List V} {T' : List Value}
 (n : Nx (roOf (H.base t m) 0 ++ ro) hr D ρ m chs D' ρ' m' chs') (M' : SAt D' ρ' m' chs' C h') (F' : RpL D' ρ' T' t') (ag : Agr md T T') {os : List It} {mR : Mem} (hpk : H.pk (H.base t m).length t' m' = some (os, mR)) (hal : aliveB (H.base t m) mR = true) :
 ∃ ρ2 c2, Nx (roOf (H.base t m) 0 ++ ro) hr D ρ m chs D' ρ2 (H.st md t m os).2 c2 ∧ SAt D' ρ2 (H.st md t m os).2 c2 C h' ∧ RpL D' ρ2 T' (H.st md t m os).1 ∧ OkL H.ps os := by
 have hbase : (H.base t m).length = m.length := killM_len _ _
 generalize hm0 : H.base t m = m0 at *
 have hN : m0.length = m.length := hbase
 have hm0g : ∀ b, b < m.length → mg m0 b = if b ∈ H.tk t m then .x else mg m b := fun b hb => by rw [← hm0]; exact killM_get hb
 obtain ⟨s, rfl⟩ := n.pre
 unfold Hint.pk at hpk
 split at hpk
 · rename_i os1 mm1 hV
   split at hpk
   · rename_i os2 mm2 hB
     cases hpk
     have hvals := vgets_S F' H.sl
     obtain ⟨tk1, c3, M3, o1, k1, kk1⟩ := pkR_S hV M' hvals
     obtain ⟨tk2, c4, M4, o2, k2, kk2⟩ := pkB_S hB M3
     have hk : ∀ b, mg m0 b ≠ .x → mg mR b = mg m' b := fun b hb => by
      have h1 := aliveB_get hal b hb
      rcases pkB_kill hB b with h2 | h2
      · rcases pkR_kill hV b with h3 | h3
        · exact h2.trans h3
        · exact absurd (h2.trans h3) h1
      · exact absurd h2 h1
     have hmm : ∀ b, b < m.length → mg m0 b ≠ .x → mg m0 b = mg m b ∧ mg m' b = mg m b := fun b hb hx => by
      have h1 := hm0g b hb
      refine ⟨?_, n.same b ?_ hb⟩
      · split at h1
        · exact absurd h1 hx
        · exact h1
      · rw [inL_iff]; simp only [List.mem_append]; exact .inr (.inl (roOf_mem.2 ⟨b, by omega, hx⟩))
     -- the chunks of what was there
     have hlenR : mR.length = (ρ ++ s).length := M4.len.symm
     have hmR : m.length ≤ mR.length := by rw [hlenR, List.length_append, M.len]; omega
     let c0 : List Chunk := (List.range m.length).map fun b => match mg m0 b with | .x => [] | _ => (c4[b]?).getD []
     have hc0 : ∀ b, b < m.length → c0[b]? = some (match mg m0 b with | .x => [] | _ => (c4[b]?).getD []) := fun b hb => by
      simp only [c0, List.getElem?_map]
      rw [List.getElem?_range hb]; rfl
     have hc0l : c0.length = m.length := by simp [c0]
     have hc4 : ∀ b, b < m.length → c4[b]? = some ((c4[b]?).getD []) := fun b hb => by
      have : b < c4.length := by rw [M4.lch]; omega
      rw [List.getElem?_eq_getElem this]; rfl
     have S0 : St D' (c0 ++ (tk1 ++ (tk2 ++ C))) h' := by
      have hsub : c0.flatten.Sublist c4.flatten := sub_chunks (by rw [hc0l, M4.lch]; exact hmR) fun i c hc => by
       have hi : i < m.length := by rw [← hc0l]; exact (List.getElem?_eq_some_iff.1 hc).1
       rw [hc0 i hi] at hc
       cases hc
       split
       · exact .inl rfl
       · exact .inr (hc4 i hi)
      have S1 : St D' (c0 ++ (tk2 ++ (tk1 ++ C))) h' := M4.st.sublist (by
       simp only [List.flatten_append]
       exact hsub.append (List.Sublist.refl _))
      refine S1.perm ?_
      simp only [List.flatten_append]
      exact (List.perm_append_comm_assoc _ _ _).append_left _
     have M0 : SAt D' ρ m0 c0 (tk1 ++ (tk2 ++ C)) h' := by
      refine ⟨by rw [hN]; exact M.len, by rw [hN]; exact hc0l, fun i L ab ch h1 h2 h3 => ?_, S0⟩
      have hi : i < m.length := by rw [← hN]; exact (List.getElem?_eq_some_iff.1 h2).1
      rw [mg_eq (by rw [hN]; exact hi)] at h2
      rw [hc0 i hi] at h3
      cases h2; cases h3
      split
      · rename_i hx; rw [hx]; exact .x
      · rename_i hx
        obtain ⟨e1, e2⟩ := hmm i hi hx
        have h4 := M4.ent i L (mg mR i) _ (get_app h1) (mg_eq (by omega)) (hc4 i hi)
        rw [hk i hx, e2] at h4
        have hρ : i < ρ.length := by rw [M.len]; exact hi
        have hch : i < chs.length := by rw [M.lch]; exact hi
        have h0 := M.ent i _ _ _ (List.getElem?_eq_getElem hρ) (mg_eq hi) (List.getElem?_eq_getElem hch)
        rw [e1]
        exact h0.shrink h4
     have hR : Ren id m0.length (ρ ++ s) ρ := fun b hb L hL => by
      rw [List.getElem?_append_left (by rw [M.len, ← hN]; exact hb)] at hL; exact hL
     obtain ⟨s1, ns, cn, e1, e2, M5, r6⟩ := reR_S (r := os2) o1 M0 hR
     have hbl := below_iff hbl
     obtain ⟨s2, c7, M7, g1, g2⟩ := reB_S (f := id) (bs := H.bl.map (·.1)) o2 M5 (hR.app s1) (by simp) (fun i j b hj hb => by
      rw [hj] at hb; cases hb
      have hlt := hbl j (List.mem_of_getElem? hj)
      refine ⟨by rw [List.length_append]; omega, fun L hL => ?_⟩
      rw [List.getElem?_append_left (by rw [M.len]; exact hlt)] at hL
      exact get_app hL)
     have hst : (H.st md t m (os1 ++ os2)).2 = reB id (m0 ++ ns) (H.bl.map (·.2)) (H.bl.map (·.1)) os2 := by
      simp only [Hint.st, hm0, e1, e2]
     have hst1 : (H.st md t m (os1 ++ os2)).1 = setS (havoc md t 0) H.sl (reR id m0 (H.sl.map (·.2)) (os1 ++ os2)).1 := by
      simp only [Hint.st, hm0]
     rw [hst, hst1]
     have hd := disj_iff hd
     -- what is alive at the head is as it was
     have hal2 : ∀ b, b < m.length → b ∉ H.bl.map (·.1) → mg (reB id (m0 ++ ns) (H.bl.map (·.2)) (H.bl.map (·.1)) os2) b = mg m0 b ∧ c7[b]? = c0[b]? := fun b hb hnb => by
      obtain ⟨h1, h2⟩ := g2 b (by rw [List.length_append]; omega) hnb
      rw [h1, h2, mg_app (by omega), List.getElem?_append_left (by rw [hc0l]; exact hb)]
      exact ⟨rfl, rfl⟩
     have htkb : ∀ b, b ∈ H.bl.map (·.1) → b ∈ H.tk t m := fun b hb => by
      obtain ⟨p, hp, rfl⟩ := List.mem_map.1 hb
      simp only [Hint.tk, List.mem_append]
      refine .inr (List.mem_flatMap.2 ⟨p, hp, ?_⟩)
      unfold tkB
      split
      · split <;> simp
      · simp
     refine ⟨ρ ++ (s1 ++ s2), c7, ⟨n.le, ⟨_, rfl⟩, fun b hb hlt => ?_, fun b hb hlt => ?_, by rw [List.length_append] at g1; omega⟩, by rw [← List.append_assoc]; exact M7, ?_, ?_⟩
     · have hnt : b ∉ H.tk t m := fun hm => hd b hm (by simp [inL_iff.1 hb])
       have hnb : b ∉ H.bl.map (·.1) := fun hm => hnt (htkb b hm)
       rw [(hal2 b hlt hnb).2, hc0 b hlt]
       have hx := hm0g b hlt
       rw [if_neg hnt] at hx
       have h1 := n.keep b hb hlt
       have hch : b < chs.length := by rw [M.lch]; exact hlt
       have hρ : b < ρ.length := by rw [M.len]; exact hlt
       split
       · rename_i h3
         have h0 := M.ent b _ _ _ (List.getElem?_eq_getElem hρ) (mg_eq hlt) (List.getElem?_eq_getElem hch)
         rw [← hx, h3] at h0
         rw [List.getElem?_eq_getElem hch]
         generalize chs[b] = c at h0
         cases h0; rfl
       · rename_i h3
         have h4 := aliveB_get hal b h3
         have h5 : mg mm1 b ≠ .x := by
          rcases pkB_kill hB b with h6 | h6
          · rw [← h6]; exact h4
          · exact absurd h6 h4
         rw [← hc4 b hlt, kk2 b h4, kk1 b h5, h1]
     · rcases List.mem_append.1 (inL_iff.1 hb) with hb | hb
       · have hnt : b ∉ H.tk t m := fun hm => hd b hm (by simp [hb])
         rw [(hal2 b hlt (fun hm => hnt (htkb b hm))).1, hm0g b hlt, if_neg hnt]
       · rcases List.mem_append.1 hb with hb | hb
         · obtain ⟨i, hi, hx⟩ := roOf_mem.1 hb
           have : i = b := by omega
           subst this
           have hnt : i ∉ H.tk t m := fun hm => by rw [hm0g i hlt, if_pos hm] at hx; exact hx rfl
           rw [(hal2 i hlt (fun hm => hnt (htkb i hm))).1, (hmm i hlt hx).1]
         · have hnt : b ∉ H.tk t m := fun hm => hd b hm (by simp [hb])
           rw [(hal2 b hlt (fun hm => hnt (htkb b hm))).1, hm0g b hlt, if_neg hnt]
     · refine setS_S (havoc_S (T' := T') ((F.mono n.le (s1 ++ s2))) ag.len fun i hi => ?_) (by rw [← List.append_assoc]; exact r6.mono (.refl _) s2)
       rw [Nat.zero_add] at hi
       exact ag.same i hi
     · unfold Hint.ps
       exact k1.app k2
   · cases hpk
 · cases hpk
end Go.Proofs.YtaogfopaalancaaDoor
/- The symbolic engine, part n: code and functions are told rightly. -/
set_option linter.unusedVariables false
namespace Go.Proofs.YtaogfopaalancaaDoor
open Go
variable {P : Program} {D D' : Fz} {ρ ρ' : List Loc} {m m' : Mem} {chs C : List Chunk} {h h' : Heap} {T : List Value} {t : List V} {ro hr : List Nat}
def dch (ds : List Nat) : List Chunk := ds.map fun b => [(b, .deferred (some []))]
theorem SAt.cput {l : Nat} {o : Obj} (M : SAt D ρ m chs ([(l, o)] :: C) h) (o' : Obj) : SAt D ρ m chs ([(l, o')] :: C) (h.setIfInBounds l o') := by
 have S := M.st.unmid
 have hl := S.get (List.mem_singleton_self _)
 have hlt := lt_of_get hl
 refine M.mono (.refl D) (S.upd (c' := [(l, o')]) ⟨by simp, fun x hx hn => ?_⟩ (by simp [hlt]) (by simp) (by simp)).mid
 simp only [List.map_cons, List.map_nil, List.mem_singleton] at hn
 rw [Array.getElem?_setIfInBounds_ne (Ne.symm hn)]
theorem SAt.cdrop {c : Chunk} (M : SAt D ρ m chs (c :: C) h) : SAt D ρ m chs C h := M.mono (.refl D) M.st.unmid.drop
theorem SAt.cpush (M : SAt D ρ m chs C h) (o : Obj) : SAt D ρ m chs ([(h.size, o)] :: C) (h.push o) :=
 M.mono (.refl D) (M.st.nil.upd (c' := [(h.size, o)]) (KB.push _ _ _) (by simp) (by simp) (by simp)).mid
theorem leavesY {fn : Func} {tmps : Array Value} {R : Ending → World → Prop} {n : Nat} : ∀ (ds : List Nat) (w : World), SAt D ρ m chs (dch ds ++ C) w.heap → (∀ w', SAt D ρ m chs C w'.heap → Same w w' → ∃ v, (results fn tmps).run P w' = .ok v w' ∧ R (.returned v) w') →
 LeavesInM (FW none) n P fn tmps R (ds.map mark) .returning w
 | [], w, M, hK => hK w M (.refl w)
 | b :: ds, w, M, hK => by
   have M' : SAt D ρ m chs ([(b, .deferred (some []))] :: (dch ds ++ C)) w.heap := M
   refine ⟨by simp, .inl ⟨b, w.putObj b (.deferred none), rfl, run_takeDeferred (M'.st.unmid.get (List.mem_singleton_self _)), ?_⟩⟩
   exact leavesY ds _ ((M'.cput (.deferred none)).cdrop) fun w' h1 h2 => hK w' h1 ((Same.put _ _ _).trans h2)
structure UpY (md : List Nat) (T : List Value) (w : World) (ro hr : List Nat) (D : Fz) (ρ : List Loc) (m : Mem) (chs C : List Chunk) (K : List V → Mem → Prop) (a' : Act) (w' : World) : Prop where
 sm : Same w w'
 ag : Agr md T a'.tmps.toList
 ex : ∃ ds D' ρ' m' chs' t', a'.defers = ds.map mark ∧ Nx ro hr D ρ m chs D' ρ' m' chs' ∧ SAt D' ρ' m' chs' (dch ds ++ C) w'.heap ∧ RpL D' ρ' a'.tmps.toList t' ∧ K t' m'
def LiftS (Q : PostS) (md : List Nat) (T : List Value) (w : World) (ro hr : List Nat) (D : Fz) (ρ : List Loc) (m : Mem) (chs C : List Chunk) : Exit → Act → World → Prop
 | .normal, a', w' => UpY md T w ro hr D ρ m chs C (Q .nrm) a' w'
 | .exit id, a', w' => UpY md T w ro hr D ρ m chs C (Q (.ext id)) a' w'
 | .ret, a', w' => UpY md T w ro hr D ρ m chs C (Q .ret) a' w'
 | _, _, _ => False
theorem Nx.weakR {rx : List Nat} {D' : Fz} {ρ' : List Loc} {m' : Mem} {chs' : List Chunk} (n : Nx (rx ++ ro) hr D ρ m chs D' ρ' m' chs') : Nx ro hr D ρ m chs D' ρ' m' chs' where
 le := n.le
 pre := n.pre
 keep := n.keep
 same b h1 h2 := n.same b (by rw [inL_iff] at h1 ⊢; simp at h1 ⊢; rcases h1 with h1 | h1 <;> simp [h1]) h2
 len := n.len
theorem UpY.mono {md md' : List Nat} {w : World} {K K' : List V → Mem → Prop} {a' : Act} {w' : World} (h : UpY md T w ro hr D ρ m chs C K a' w') (hm : ∀ i ∈ md, i ∈ md') (hK : ∀ t m, K t m → K' t m) : UpY md' T w ro hr D ρ m chs C K' a' w' where
 sm := h.sm
 ag := h.ag.mono hm
 ex := let ⟨ds, D', ρ', m', c', t', e, n, M, F, k⟩ := h.ex; ⟨ds, D', ρ', m', c', t', e, n, M, F, hK _ _ k⟩
theorem UpY.weakR {rx md : List Nat} {w : World} {K : List V → Mem → Prop} {a' : Act} {w' : World} (h : UpY md T w (rx ++ ro) hr D ρ m chs C K a' w') : UpY md T w ro hr D ρ m chs C K a' w' where
 sm := h.sm
 ag := h.ag
 ex := let ⟨ds, D', ρ', m', c', t', e, n, M, F, k⟩ := h.ex; ⟨ds, D', ρ', m', c', t', e, n.weakR, M, F, k⟩
theorem UpY.after {md md' mD : List Nat} {w w1 : World} {a1 : Act} {D1 : Fz} {ρ1 : List Loc} {m1 : Mem} {c1 : List Chunk} {K' : List V → Mem → Prop} {a' : Act} {w' : World} (s1 : Same w w1) (g1 : Agr md T a1.tmps.toList) (n1 : Nx ro hr D ρ m chs D1 ρ1 m1 c1)
 (h2 : UpY md' a1.tmps.toList w1 ro hr D1 ρ1 m1 c1 C K' a' w') (hm : ∀ i ∈ md, i ∈ mD) (hm' : ∀ i ∈ md', i ∈ mD) : UpY mD T w ro hr D ρ m chs C K' a' w' where
 sm := s1.trans h2.sm
 ag := (g1.mono hm).trans (h2.ag.mono hm')
 ex := let ⟨ds, D', ρ', m', c', t', e, n, M, F, k⟩ := h2.ex; ⟨ds, D', ρ', m', c', t', e, n1.trans n, M, F, k⟩
theorem Stab.nx {X : Fz → List Loc → Prop} (hX : Stab X) {D' : Fz} {ρ' : List Loc} {m' : Mem} {chs' : List Chunk} (n : Nx ro hr D ρ m chs D' ρ' m' chs') (x : X D ρ) : X D' ρ' := by
 obtain ⟨s, rfl⟩ := n.pre; exact hX s x n.le
def YOk (P : Program) (Y : YC) (X : Fz → List Loc → Prop) : Prop :=
 match Y with
 | .it b f => ∀ {ro hr : List Nat} {args : List V} {m : Mem} {KS : V → Mem → Prop} {D : Fz} {ρ : List Loc} {chs C : List Chunk} {vs : List Value} {L : Loc} {w : World}, X D ρ → f ro hr args m KS → SAt D ρ m chs C w.heap → RpL D ρ vs args → ρ[b]? = some L →
  ∃ fn tmps assign body, (Instr.yield L.b vs.toArray).run P w = .ok (.round L.b fn tmps assign body) w ∧
    RoundIn (FW none) 0 P L.b fn tmps assign body w fun e w' => ∃ v, e = .returned v ∧ PostE ro hr D ρ m chs C KS v w'.heap ∧ Same w w'
 | _ => True
theorem YOk.sub {Y : YC} {X : Fz → List Loc → Prop} (h : YOk P Y X) : YOk P Y.sub X := by
 cases Y <;> first | exact h | trivial
def YC.isRd : YC → Bool
 | .rd => true
 | _ => false
theorem YC.sub_rd (Y : YC) : Y.sub.isRd = false := by cases Y <;> rfl
def SelfOk (P : Program) (self : SelfY) : Prop :=
 ∀ {Y : YC} {X : Fz → List Loc → Prop} {fi : Nat} {ro hr : List Nat} {c : Code} {Q : PostS} {t : List V} {m : Mem} {D : Fz} {ρ : List Loc} {chs C : List Chunk} {a : Act} {w : World}, Stab X → YOk P Y X → Y.isRd = false → X D ρ → self Y fi ro hr c Q t m → SAt D ρ m chs C w.heap → RpL D ρ a.tmps.toList t → a.defers = [] →
   c.wpIn (FW none) 0 P (LiftS Q (mods c) a.tmps.toList w ro hr D ρ m chs C) a w
theorem resL_S {tmps : Array Value} (ht : tmps.toList = T) (F : RpL D ρ T t) (M : SAt D ρ m chs C h) : ∀ {l : List ResultVar} {K : List V → Prop}, resL P l t m K →
 ∃ vs xs, K xs ∧ RpL D ρ vs xs ∧ ∀ w : World, w.heap = h → (l.mapM (rvS tmps)).run P w = .ok vs w
 | [], K, hh => ⟨[], [], hh, .nil, fun w _ => by simp⟩
 | .tmp i :: l, K, hh => by
   simp only [resL] at hh
   obtain ⟨vs, xs, hK, hv, hr⟩ := resL_S ht F M hh
   refine ⟨_, _, hK, .cons (F.get i) hv, fun w hw => ?_⟩
   have he : tmps.getD i undef = lget T i := by rw [← ht, lget_eq]; simp [Array.getD_eq_getD_getElem?]
   have h1 : (rvS tmps (.tmp i)).run P w = .ok (lget T i) w := by rw [← he]; rfl
   simp only [List.mapM_cons, Sem.run_bind, h1, hr w hw, Result.andThen_ok]
   rfl
 | .cell i S :: l, K, hh => by
   simp only [resL] at hh
   obtain ⟨bb, oo, v, x, hv, hK, hvx, hrun⟩ := sLoad_S hh M (F.get i) (bs := refsV (vget t i)) fun b hb => inL_iff.2 hb
   obtain ⟨vs, xs, hK, hvs, hr⟩ := resL_S ht F M hK
   refine ⟨_, _, hK, .cons hvx hvs, fun w hw => ?_⟩
   have he : tmps.getD i undef = .pointer (some ⟨bb, oo, none⟩) := by rw [← hv, ← ht, lget_eq]; simp [Array.getD_eq_getD_getElem?]
   have h3 : (rvS tmps (.cell i S)).run P w = .ok v w := by
    show Sem.run P (do loadVar S (← asAddr (tmps.getD i undef))) w = _
    rw [he]
    simp only [asAddr, Sem.run_bind, Sem.run_pure, Result.andThen_ok, hrun w (M.hs _ hw)]
   simp only [List.mapM_cons, Sem.run_bind, h3, hr w hw, Result.andThen_ok]
   rfl
theorem normG_S : ∀ {Ts : List TypeId} {gc : Bool} {vs : List Value} {xs : List V}, RpL D ρ vs xs → RpL D ρ vs (normG P gc Ts xs)
 | [], gc, vs, xs, h => by cases xs <;> exact h
 | S :: Ts, gc, vs, [], h => h
 | S :: Ts, gc, vs, x :: xs, h => by
   cases h with
   | cons a b =>
     simp only [normG]
     cases gc
     · exact .cons (datV_S (normV_S a)) (normG_S b)
     · exact .cons (normV_S a) (normG_S b)
theorem one_S {vs : List Value} {xs : List V} (hv : RpL D ρ vs xs) : Rp D ρ (one vs) (oneV xs) := by
 cases hv with
 | nil => exact .t .nil
 | cons a b =>
   cases b with
   | nil => exact a
   | cons b c => exact .t (.cons a (.cons b c))
theorem ret_S {fn : Func} {tmps : Array Value} (ht : tmps.toList = T) (F : RpL D ρ T t) (M : SAt D ρ m chs C h) {KS : V → Mem → Prop} {gc : Bool} (hh : resL P fn.results.toList t m fun vs => KS (oneV (normG P gc fn.resultTypes.toList vs)) m) :
 ∃ v x, KS x m ∧ Rp D ρ v x ∧ ∀ w : World, w.heap = h → (results fn tmps).run P w = .ok v w := by
 obtain ⟨vs, xs, hK, hv, hr⟩ := resL_S ht F M hh
 refine ⟨_, _, hK, one_S (normG_S hv), fun w hw => ?_⟩
 have hf : results fn tmps = (fn.results.mapM (rvS tmps) >>= fun vs => pure (if h : vs.size = 1 then vs[0] else .tuple vs)) := by
  unfold results
  refine congrArg (· >>= _) (congrArg (Array.mapM · fn.results) (funext fun x => ?_))
  cases x <;> rfl
 have : (fn.results.mapM (rvS tmps)).run P w = .ok vs.toArray w := by
  rw [Array.mapM_eq_mapM_toList, Sem.run_map, hr w hw]; rfl
 rw [hf, Sem.run_bind]
 rw [this]
 show Sem.run P (pure (if h : vs.toArray.size = 1 then vs.toArray[0] else .tuple vs.toArray)) w = _
 rw [one_spec]
 rfl
theorem rep_z : ∀ n : Nat, RpL D ρ (List.replicate n undef) (List.replicate n .z)
 | 0 => .nil
 | n + 1 => .cons .z (rep_z n)
theorem frame_S {fn : Func} {vs : List Value} {args : List V} {gc : Bool} (ha : RpL D ρ vs args) : RpL D ρ (vs ++ List.replicate (fn.ntmps - vs.length) undef) (frameG P gc fn args) := by
 unfold frameG
 rw [ha.len']
 exact (normG_S ha).app (rep_z _)
theorem body_S {self : SelfY} (hself : SelfOk P self) {Y : YC} {X : Fz → List Loc → Prop} (hX : Stab X) (hY : YOk P Y X) (hYr : Y.isRd = false) (xx : X D ρ) {f fi : FuncId} {fn : Func} {c : Code} (hf : P.funcs[f]? = some fn) (hc : fn.body = some c) (hn : (fn.name == "runtime.NumGoroutine") = false) {args : List V} {vs : List Value} {KS : V → Mem → Prop}
 {gc : Bool} (hs : self Y fi ro hr c (retG P gc fn KS) (frameG P gc fn args) m) (M : SAt D ρ m chs C h) (ha : RpL D ρ vs args) : Run P f vs h (PostE ro hr D ρ m chs C KS) := by
 refine ⟨⟨fn, hf, hn, by simp [hc]⟩, fun w hw => ?_⟩
 subst hw
 refine (callsIn_wide (n := 0)).1 (callsIn_of_wp_marks (F := FW none) hf hc trivial ?_)
 have hl : (vs.toArray ++ Array.replicate (fn.ntmps - vs.toArray.size) undef : Array Value).toList = vs ++ List.replicate (fn.ntmps - vs.length) undef := by simp
 refine wpIn_mono (hself (a := { tmps := vs.toArray ++ Array.replicate (fn.ntmps - vs.toArray.size) undef, defers := [] }) hX hY hYr xx hs M (by rw [hl]; exact frame_S ha) rfl) fun e a' w' hq => ?_
 have fin : ∀ {md T}, UpY md T w ro hr D ρ m chs C (retG P gc fn KS .ret) a' w' → LeavesInM (FW none) 0 P fn a'.tmps (fun e w' => ∃ v, e = .returned v ∧ PostE ro hr D ρ m chs C KS v w'.heap ∧ Same w w') a'.defers .returning w' := by
  intro md T hu
  obtain ⟨ds, D', ρ', m', c', t', e, n, M', F', k⟩ := hu.ex
  rw [e]
  refine leavesY ds w' M' fun w2 M2 s2 => ?_
  obtain ⟨v, x, hK, hv, hr'⟩ := ret_S rfl F' M2 k
  exact ⟨v, hr' w2 rfl, v, rfl, ⟨D', ρ', m', c', x, n, M2, hv, hK⟩, hu.sm.trans s2⟩
 cases e with
 | normal => exact fin hq
 | ret => exact fin hq
 | exit id =>
   obtain ⟨ds, D', ρ', m', c', t', e, n, M', F', k⟩ := hq.ex
   exact k.elim
 | _ => exact hq.elim
theorem yield_S {X : Fz → List Loc → Prop} {Y : YC} (hY : YOk P Y X) (xx : X D ρ) {o : Oper} {b : Nat} {args : List V} {KS : V → Mem → Prop} {a : Act} {w : World} (hy : yieldOf t o = some (b, args)) (hs : Y.h ro hr b args m KS) (M : SAt D ρ m chs C w.heap) (F : RpL D ρ a.tmps.toList t) {r : Option Nat} {n : Nat}
 {next : Act → World → Prop} {Q : Exit → Act → World → Prop} (hn : ∀ v w', PostE ro hr D ρ m chs C KS v w'.heap → Same w w' → next (a.put o.dst v) w') : o.wpIn (FW r) n P a w next Q := by
 unfold YC.h at hs
 split at hs
 · rename_i b' f
   obtain ⟨hb0, hs2⟩ := cond_spec hs
   have hb := Nat.eq_of_beq_eq_true hb0
   subst hb
   unfold yieldOf at hy
   split at hy
   · rename_i c hc
     have hd' : ∀ c', o.op ≠ .defer c' := fun c' e => by rw [hc] at e; cases e
     split at hy
     · rename_i fo hf
       split at hy
       · rename_i b2 he
         cases hy
         have hv := ev_S F fo
         rw [he] at hv
         generalize hev : ev a.tmps.toList fo = vf at hv
         cases hv with
         | @y _ LL hL =>
           obtain ⟨fn, tmps, assign, body, hy, hR⟩ := hY xx hs2 M (evL_S F c.args.toList) hL
           refine ⟨fun _ _ => trivial, ?_⟩
           rw [Oper.semAt_eq _ _ _ hd', eval_eq]
           have hx : (execOp (ev a.tmps.toList) o).run P w = .ok (.round LL.b fn tmps assign body) w := by
            unfold execOp
            rw [hc]
            simp only [resolve, hf, hev, Deferred.ofValue, Sem.run_bind, Sem.run_pure, Result.andThen_ok, invoke]
            have : (#[] ++ c.args.map (ev a.tmps.toList) : Array Value) = (c.args.toList.map (ev a.tmps.toList)).toArray := by apply Array.ext'; simp
            rw [this]; exact hy
           rw [hx]
           refine ⟨fun hx => (by cases hx), RoundIn.mono (R := fun e w' => ∃ v, e = .returned v ∧ PostE ro hr D ρ m chs C KS v w'.heap ∧ Same w w') ⟨hR.1, fun c cs hr => hR.2 c cs (room_wide _)⟩ fun e w' he => ?_⟩
           obtain ⟨v, rfl, hK, hS⟩ := he
           exact hn v w' hK hS
       · cases hy
     · cases hy
   · cases hy
 · exact hs.elim
theorem opsSY_S {call : CallH} {X : Fz → List Loc → Prop} (hX : Stab X) (hcall : CallOk P X ro hr call) {Y : YC} (hY : YOk P Y X) {vw : Bool} {ops : List Oper} {K : List V → Mem → Prop} {md : List Nat} {Q : Exit → Act → World → Prop} {r : Option Nat} {n : Nat} :
 ∀ (l : List Oper) (a : Act) (w : World) (t : List V) (D : Fz) (ρ : List Loc) (m : Mem) (chs : List Chunk), opsSY P vw (hr ++ ro) call (Y.h ro hr) ops K l t m → X D ρ → SAt D ρ m chs C w.heap → RpL D ρ a.tmps.toList t → (∀ o ∈ l, isDefer o = false) → (∀ o ∈ l, ∀ d, o.dst = some d → d ∈ md) →
   (∀ a' w', a'.defers = a.defers → Same w w' → Agr md a.tmps.toList a'.tmps.toList → (∃ D' ρ' m' chs' t', Nx ro hr D ρ m chs D' ρ' m' chs' ∧ SAt D' ρ' m' chs' C w'.heap ∧ RpL D' ρ' a'.tmps.toList t' ∧ K t' m') → Q .normal a' w') → wpListIn (FW r) n P ops.toArray Q l a w
 | [], a, w, t, D, ρ, m, chs, hs, _, M, F, _, _, hQ => hQ a w rfl (.refl w) (.refl _ _) ⟨D, ρ, m, chs, t, .refl, M, F, hs⟩
 | o :: l, a, w, t, D, ρ, m, chs, hs, xx, M, F, hd, hm, hQ => by
   have hput : ∀ v, Agr md a.tmps.toList (a.put o.dst v).tmps.toList := fun v => by rw [put_list]; exact .put v fun i hi => hm o (by simp) i hi
   have step : ∀ v w', PostE ro hr D ρ m chs C (fun v m' => opsSY P vw (hr ++ ro) call (Y.h ro hr) ops K l (vput t o.dst v) m') v w'.heap → Same w w' → wpListIn (FW r) n P ops.toArray Q l (a.put o.dst v) w' := fun v w' hP hS => by
    obtain ⟨D', ρ', m', chs', x, nx, M', hv, hK⟩ := hP
    refine opsSY_S hX hcall hY l (a.put o.dst v) w' _ D' ρ' m' chs' hK (hX.nx nx xx) M' (by rw [put_list]; exact (nx.rpL F).put hv) (fun o' ho' => hd o' (by simp [ho'])) (fun o' ho' => hm o' (by simp [ho'])) fun a' w'' h1 h2 h3 h4 => ?_
    obtain ⟨D2, ρ2, m2, c2, t2, n2, rr⟩ := h4
    exact hQ a' w'' (by rw [h1, put_defers']) (hS.trans h2) ((hput v).trans h3) ⟨D2, ρ2, m2, c2, t2, nx.trans n2, rr⟩
   unfold wpListIn
   rcases guard_S hs F with ⟨hw, h1⟩ | ⟨hw, h1⟩
   · rw [if_pos hw]
     cases hy : yieldOf t o with
     | some p => rw [hy] at h1; exact yield_S hY xx hy h1 M F step
     | none =>
       rw [hy] at h1
       exact op_in0 (hd o (by simp)) (op_S hcall xx h1 M F step)
   · rw [if_neg (by rw [hw]; simp)]
     refine ⟨fun _ _ => trivial, ?_⟩
     refine opsSY_S hX hcall hY l (a.put o.dst undef) w _ D ρ m chs h1 xx M (by rw [put_list]; exact F.put (.t .nil)) (fun o' ho' => hd o' (by simp [ho'])) (fun o' ho' => hm o' (by simp [ho'])) fun a' w'' h2 h3 h4 h5 => ?_
     exact hQ a' w'' (by rw [h2, put_defers']) h3 ((hput undef).trans h4) h5
theorem least {p : Nat → Prop} (h : ∃ n, p n) : ∃ n, p n ∧ ∀ m, p m → n ≤ m := by
 obtain ⟨n, hn⟩ := h
 induction n using Nat.strongRecOn with
 | _ n ih =>
   by_cases hm : ∃ m, m < n ∧ p m
   · obtain ⟨m, hlt, hp⟩ := hm
     exact ih m hlt hp
   · exact ⟨n, hn, fun m hp => Nat.le_of_not_lt fun hlt => hm ⟨m, hlt, hp⟩⟩
open Classical in
noncomputable def leastN (p : Nat → Prop) : Nat := if h : ∃ n, p n then Classical.choose (least h) else 0
theorem leastN_spec {p : Nat → Prop} (h : ∃ n, p n) : p (leastN p) ∧ ∀ m, p m → leastN p ≤ m := by
 unfold leastN
 rw [dif_pos h]
 exact Classical.choose_spec (least h)
theorem loopIn_n {Q : Exit → Act → World → Prop} {a : Act} {w : World} {c : Code} {r : Option Nat} {N : Nat} (I : Nat → Act → World → Prop) (h₀ : ∃ n, I n a w) (round : ∀ n a w, I n a w → c.wpIn (FW r) N P (Exit.then (fun a' w' => ∃ n', n' < n ∧ I n' a' w') Q) a w) : (Code.loop c).wpIn (FW r) N P Q a w := by
 refine wpIn_loop (fun a w => ∃ n, I n a w) (fun a w => leastN (fun n => I n a w)) h₀ fun a w hI => ?_
 refine wpIn_mono (round _ a w (leastN_spec hI).1) fun e a' w' hq => ?_
 cases e with
 | normal =>
   obtain ⟨n', hlt, hI'⟩ := hq
   exact ⟨⟨n', hI'⟩, Nat.lt_of_le_of_lt ((leastN_spec ⟨n', hI'⟩).2 n' hI') hlt⟩
 | _ => exact hq
theorem clo_pre {m : Mem} : ∀ (n : Nat) (todo acc : List Nat), ∃ tl, clo m n todo acc = acc ++ tl
 | 0, _, acc => ⟨[], by simp [clo]⟩
 | _ + 1, [], acc => ⟨[], by simp [clo]⟩
 | n + 1, b :: todo, acc => by
   simp only [clo]
   cases inL acc b with
   | true => exact clo_pre n _ _
   | false =>
     obtain ⟨tl, h⟩ := clo_pre n (refsA (mg m b) ++ todo) (acc ++ [b])
     exact ⟨b :: tl, by rw [cond_false, h]; simp⟩
mutual
theorem renV_self {f : Nat → Nat} : ∀ {x : V}, (∀ b ∈ refsV x, f b = b) → renV f x = x
 | .r b o, h => by simp only [renV]; rw [h b (by simp [refsV])]
 | .e b s k o, h => by simp only [renV]; rw [h b (by simp [refsV])]
 | .g b o w k, h => by simp only [renV]; rw [h b (by simp [refsV])]
 | .w b, h => by simp only [renV]; rw [h b (by simp [refsV])]
 | .m b, h => by simp only [renV]; rw [h b (by simp [refsV])]
 | .y b, h => by simp only [renV]; rw [h b (by simp [refsV])]
 | .v b sz l n c, h => by simp only [renV]; rw [h b (by simp [refsV])]
 | .sl b o n, h => by simp only [renV]; rw [h b (by simp [refsV])]
 | .f g a c, h => by simp only [renV]; rw [renL_self fun b hb => h b (by simp [refsV, hb]), renL_self fun b hb => h b (by simp [refsV, hb])]
 | .a l, h => by simp only [renV]; rw [renL_self fun b hb => h b (by simp [refsV, hb])]
 | .t l, h => by simp only [renV]; rw [renL_self fun b hb => h b (by simp [refsV, hb])]
 | .u x, _ => rfl
 | .q c o, _ => rfl
 | .c s r, _ => rfl
 | .nm, _ => rfl
 | .nl _, _ => rfl
 | .n k w l, _ => rfl
 | .z, _ => rfl
theorem renL_self {f : Nat → Nat} : ∀ {x : List V}, (∀ b ∈ refsL x, f b = b) → renL f x = x
 | [], _ => rfl
 | v :: l, h => by simp only [renL]; rw [renV_self fun b hb => h b (by simp [refsL, hb]), renL_self fun b hb => h b (by simp [refsL, hb])]
end
theorem renA_self {f : Nat → Nat} {a : AB} (h : ∀ b ∈ refsA a, f b = b) : renA f a = a := by
 cases a <;> first | rfl | (simp only [renA]; rw [renL_self h])
theorem posL_range {tl : List Nat} : ∀ {n k b : Nat}, k ≤ b → b < k + n → posL ((List.range' k n) ++ tl) b k = b
 | 0, k, b, h1, h2 => by omega
 | n + 1, k, b, h1, h2 => by
   simp only [List.range'_succ, List.cons_append, posL]
   by_cases h : k = b
   · subst h; simp
   · have : Nat.beq k b = false := by
      cases hc : Nat.beq k b with
      | false => rfl
      | true => exact absurd (Nat.eq_of_beq_eq_true hc) h
     rw [this, cond_false]
     exact posL_range (by omega) (by omega)
theorem canon_S {m0 : Mem} {D0 : Fz} {ρ0 : List Loc} {c0 C0 : List Chunk} {h0 : Heap} (M0 : SAt D0 ρ0 m0 c0 C0 h0) {K : List V → Mem → Prop} (hs : canonS m0.length K t m) (n : Nx ro hr D0 ρ0 m0 c0 D ρ m chs) (M : SAt D ρ m chs C h) (F : RpL D ρ T t) :
 ∃ ρ2 m2 c2 t2, Nx ro hr D0 ρ0 m0 c0 D ρ2 m2 c2 ∧ SAt D ρ2 m2 c2 C h ∧ RpL D ρ2 T t2 ∧ K t2 m2 := by
 unfold canonS at hs
 cases hb : Nat.ble m.length (m0.length + 1) with
 | true => rw [hb] at hs; exact ⟨ρ, m, chs, t, n, M, F, hs⟩
 | false =>
   rw [hb] at hs
   simp only [cond_false] at hs
   have hnd : (clo m 1000 (refsL t ++ (m.take m0.length).flatMap refsA) (List.range m0.length)).Nodup := clo_nodup _ _ _ List.nodup_range
   obtain ⟨tl, htl⟩ := clo_pre (m := m) 1000 (refsL t ++ (m.take m0.length).flatMap refsA) (List.range m0.length)
   rw [htl] at hs hnd
   unfold canonK at hs
   obtain ⟨hc, hK⟩ := cond_spec hs
   simp only [Bool.and_eq_true] at hc
   have q1 := allIn_iff hc.1.1
   have q2 := allIn_iff hc.1.2
   have q3 := below_iff hc.2
   obtain ⟨c', cs, hcs, Mk, gk, Ms⟩ := M.sub2 hnd q3 fun b hb c hc => q2 c (List.mem_flatMap.2 ⟨b, hb, hc⟩)
   obtain ⟨s, hs⟩ := n.pre
   have hl0 := M0.len
   have hlen := n.len
   have hix : ∀ b, b < m0.length → (List.range m0.length ++ tl)[b]? = some b := fun b hb => by
    rw [List.getElem?_append_left (by simpa using hb), List.getElem?_range hb]
   have hρ : (List.range m0.length ++ tl).map (fun b => (ρ[b]?).getD ⟨0, none, 0, 0, none⟩) = ρ0 ++ tl.map (fun b => (ρ[b]?).getD ⟨0, none, 0, 0, none⟩) := by
    rw [List.map_append]
    congr 1
    apply List.ext_getElem (by simp [hl0])
    intro i h1 h2
    simp only [List.getElem_map, List.getElem_range]
    rw [hs, List.getElem?_append_left h2, List.getElem?_eq_getElem h2]; rfl
   rw [hρ] at Ms
   have F2 := (ren_all (D := D) (ρ := ρ) (f := fun b => posL (List.range m0.length ++ tl) b 0) (ρ' := (List.range m0.length ++ tl).map (fun b => (ρ[b]?).getD ⟨0, none, 0, 0, none⟩))).2.1 F fun b hb L hL => by
    obtain ⟨k, h4, h5⟩ := posL_get (k := 0) (q1 b hb)
    rw [h4, Nat.zero_add, List.getElem?_map, h5, Option.map_some, hL]; rfl
   rw [hρ] at F2
   refine ⟨_, _, cs, _, ⟨n.le, ⟨_, rfl⟩, fun b h1 h2 => ?_, fun b h1 h2 => ?_, ?_⟩, Ms.mono (.refl _) (C' := C) ?_, F2, hK⟩
   · rw [hcs, List.getElem?_map, hix b h2, Option.map_some, ← n.keep b h1 h2]
     have : b < chs.length := by rw [M.lch]; omega
     rw [List.getElem?_eq_getElem this]; rfl
   · have e1 : mg (subM m (List.range m0.length ++ tl)) b = renA (fun b => posL (List.range m0.length ++ tl) b 0) (mg m b) := by
      rw [mg_get, subM, List.getElem?_map, hix b h2]; rfl
     rw [e1, n.same b h1 h2]
     refine renA_self fun c hcr => ?_
     have hbρ : b < ρ0.length := by omega
     have hbc : b < c0.length := by rw [M0.lch]; exact h2
     have he := M0.ent b _ _ _ (List.getElem?_eq_getElem hbρ) (mg_eq h2) (List.getElem?_eq_getElem hbc)
     have key : ∀ {L : Loc} {ab : AB} {ch : Chunk}, Ent D0 ρ0 L ab ch → ∀ c ∈ refsA ab, c < ρ0.length := fun he => by
      cases he with
      | c hc => exact refs_lt.2.2 hc
      | cw _ _ hc => exact refs_lt.2.2 hc
      | _ => simp [refsA]
     have hcl : c < ρ0.length := key he c hcr
     have := posL_range (tl := tl) (n := m0.length) (k := 0) (b := c) (Nat.zero_le _) (by omega)
     rwa [← List.range_eq_range'] at this
   · simp [subM]
   · have S := Ms.st
     exact (S.perm (C' := c' ++ (cs ++ C)) (by simp only [List.flatten_append]; exact List.perm_append_comm_assoc _ _ _)).drops
theorem wkV_S {v : Value} {x : V} (hv : Rp D ρ v x) : Rp D ρ v (wkV x) := by
 unfold wkV
 split
 · cases hv; exact .c (.nil _ _ _)
 · exact hv
theorem callH0_S {H : SH P} {self : SelfY} (hself : SelfOk P self) {Y : YC} {X : Fz → List Loc → Prop} (hX : Stab X) (hY : YOk P Y X) (hYr : Y.isRd = false) : CallOk P X ro hr (callH0 P H (self Y) ro hr) := by
 intro g args m KS D ρ chs C h vs xx hs M ha
 unfold callH0 at hs
 cases hf : P.funcs[g]? with
 | none => rw [hf] at hs; exact hs.elim
 | some fn =>
   rw [hf] at hs
   simp only at hs
   cases hi : inL H.inl g with
   | true =>
     rw [hi] at hs
     simp only [cond_true] at hs
     split at hs
     · exact hs.elim
     · rename_i c hc
       cases hn : (fn.name == "runtime.NumGoroutine") with
       | true => rw [hn] at hs; exact hs.elim
       | false =>
         rw [hn] at hs
         refine (body_S (fi := g) hself hX hY hYr xx hf hc hn hs M ha).mono fun v h' hp => ?_
         obtain ⟨D', ρ', m', c', x, n', M', hv, hk⟩ := hp
         cases hg : H.gc with
         | false => rw [hg] at hk; exact ⟨D', ρ', m', c', x, n', M', hv, hk⟩
         | true =>
           rw [hg] at hk
           have hk : canonS m.length (fun t m2 => KS (vget t 0) m2 ∨ KS (wkV (vget t 0)) m2) [x] m' := hk
           obtain ⟨ρ2, m2, c2, t2, n2, M2, F2, k2⟩ := canon_S (T := [v]) M hk n' M' (.cons hv .nil)
           cases F2 with
           | cons hv2 hn2 =>
             cases hn2
             rcases k2 with k2 | k2
             · exact ⟨D', ρ2, m2, c2, _, n2, M2, hv2, k2⟩
             · exact ⟨D', ρ2, m2, c2, _, n2, M2, wkV_S hv2, k2⟩
   | false =>
     rw [hi] at hs
     exact callS_S hs M ha
theorem callH_S {H : SH P} {self : SelfY} (hself : SelfOk P self) {Y : YC} {X : Fz → List Loc → Prop} (hX : Stab X) (hY : YOk P Y X) (hYr : Y.isRd = false) : CallOk P X ro hr (callH P H (self Y) ro hr) := by
 intro g args m KS D ρ chs C h vs xx hs M ha
 unfold callH at hs
 split at hs
 · rename_i p hp
   exact H.sp.ok hX (callH0_S hself hX hY hYr) hp hs xx M ha
 · exact callH0_S hself hX hY hYr xx hs M ha
theorem setA_S : ∀ {ps : List Tmp} {T vs : List Value} {t xs : List V}, RpL D ρ T t → RpL D ρ vs xs → RpL D ρ (setAll T ps vs) (setA t ps xs)
 | [], T, vs, t, xs, F, hx => by cases vs <;> cases xs <;> exact F
 | p :: ps, T, [], t, xs, F, hx => by cases hx; exact F
 | p :: ps, T, v :: vs, t, xs, F, hx => by
   cases hx with
   | cons a b =>
     have := setA_S (ps := ps) (F.set p a) b
     exact this
theorem SAt.recd (M : SAt D ρ m chs C h) {b l : Nat} {o : Obj} {L : Loc} (hL : ρ[b]? = some L) (hl : L.b = l) (ho : L.o = some o) (hb : mg m b = .tk) : ∃ L, ρ[b]? = some L ∧ L.b = l ∧ chs[b]? = some [(l, o)] ∧ SAt D ρ (ms m b .x) (chs.set b []) ([(l, o)] :: C) h ∧ b < m.length := by
 obtain ⟨L', ch, h1, h2, h3⟩ := M.get (b := b) (by rw [hb]; simp)
 rw [hb] at h3
 rw [hL] at h1
 cases h1
 subst hl
 cases h3 with
 | tk h4 =>
   rw [ho] at h4
   cases h4
   exact ⟨L, hL, rfl, h2, M.take hL h2, by rw [← M.len]; exact (List.getElem?_eq_some_iff.1 hL).1⟩
theorem SAt.back {l : Nat} {o : Obj} (M : SAt D ρ m chs ([(l, o)] :: C) h) {b : Nat} {L : Loc} (hb : b < m.length) (hL : ρ[b]? = some L) (hl : L.b = l) (ho : L.o = some o) : SAt D ρ (ms m b .tk) (chs.set b [(l, o)]) C h := by
 subst hl
 exact M.over hb hL (.tk ho)
theorem vcC_S (hmix : P.follows .mixedOrders = true) {H : SH P} {self : SelfY} (hself : SelfOk P self) {fi : Nat} : ∀ (c : Code) (r : Option Nat) (Y : YC) (X : Fz → List Loc → Prop) (hr ro : List Nat) (Q : PostS) (t : List V) (m : Mem) (D : Fz) (ρ : List Loc) (chs C : List Chunk) (a : Act) (w : World) (ds : List Nat),
 Stab X → YOk P Y X → (Y.isRd = false → r = none) → X D ρ → vcC P H self fi c Y hr ro Q t m → SAt D ρ m chs (dch ds ++ C) w.heap → RpL D ρ a.tmps.toList t → a.defers = ds.map mark →
 c.wpIn (FW r) 0 P (LiftS Q (mods c) a.tmps.toList w ro hr D ρ m chs C) a w := by
 intro c
 induction c with
 | skip => intro r Y X hr ro Q t m D ρ chs C a w ds hX hY hrd xx hh M F hd; exact wpIn_skip ⟨.refl w, .refl _ _, ds, D, ρ, m, chs, t, hd, .refl, M, F, hh⟩
 | region id ops d =>
   intro r Y X hr ro Q t m D ρ chs C a w ds hX hY hrd xx hh M F hd
   simp only [vcC] at hh
   obtain ⟨hnd, hh⟩ := cond_spec hh
   have hnd' : ∀ o ∈ ops.toList, isDefer o = false := fun o ho => by simpa using List.all_eq_true.1 hnd o ho
   have hm : ∀ o ∈ ops.toList, ∀ d', o.dst = some d' → d' ∈ mods (.region id ops d) := fun o ho d' hd' => by
    simp only [mods, List.mem_append]
    exact .inl (List.mem_filterMap.2 ⟨o, ho, hd'⟩)
   cases d with
   | false =>
     have := opsSY_S (P := P) (vw := H.gc) (r := r) (n := 0) hX (callH_S (H := H) (self := self) (ro := ro) (hr := hr) hself hX hY.sub Y.sub_rd) hY (Q := LiftS Q (mods (.region id ops false)) a.tmps.toList w ro hr D ρ m chs C) ops.toList a w t D ρ m chs hh xx M F hnd' hm fun a' w' h1 h2 h3 h4 => by
      obtain ⟨D', ρ', m', c', t', n', M', F', k⟩ := h4
      exact ⟨h2, h3, ds, D', ρ', m', c', t', by rw [h1, hd], n', M', F', k⟩
     refine wpIn_region_list ?_
     simpa using this
   | true =>
     obtain ⟨hB, hh⟩ := cond_spec hh
     refine wpIn_region_any hmix ?_
     rw [Bool.and_eq_true] at hB
     obtain ⟨hB, hsel⟩ := hB
     let QQ : Exit → Act → World → Prop := fun e a' w' => e = .normal ∧ UpS (mods (.region id ops true)) a.tmps.toList w ro hr D ρ m chs (dch ds ++ C) (canonS m.length (Q .nrm)) a' w'
     have key := draw_S (P := P) (X := X) (fun s => hX s) (md := mods (.region id ops true)) (Q := QQ) (call := callH P H (self Y.sub) ro) (fun hx => callH_S (H := H) (self := self) (Y := Y.sub) hself hX hY.sub Y.sub_rd) hsel (fun _ _ _ h => by cases h.1) (fun _ _ h => by cases h.1) hm ops.toList.length [] [] [] (Array.replicate ops.toList.length false) { a with defers := [] }
      { w with drawn := w.drawn + 1 } t D ρ m chs hh hB ⟨by simp, fun k hk => by rw [rep_get true hk]; simp, fun k hk => by simp at hk⟩ (fun j oj hj hl => by rw [rep_getF] at hl; cases hl)
      rfl xx M F (by intro c hc; simp at hc) (fun a' w' hU => ⟨rfl, hU.df, ⟨hU.sm.tape, hU.sm.os, hU.sm.output, (Dr.succ _).trans hU.sm.drawn⟩, hU.ag, hU.ex⟩)
     have h1 := wpG_any _ _ _ _ _ key
     have h2 := any_in (r := r) (n := 0) (ds := a.defers) (by simpa using hnd') (fun ⟨_, _, h⟩ => by cases h.1) _ _ _ _ h1
     have h3 := anyq_mono (Qb := LiftS Q (mods (.region id ops true)) a.tmps.toList w ro hr D ρ m chs C) (fun e a1 w1 hq => by
      obtain ⟨a0, ⟨rfl, hU⟩, rfl⟩ := hq
      obtain ⟨D', ρ', m', c', t', n', M', F', k⟩ := hU.ex
      obtain ⟨ρ2, m2, c2, t2, n2, M2, F2, k2⟩ := canon_S M k n' M' F'
      exact ⟨hU.sm, hU.ag, ds, D', ρ2, m2, c2, t2, by rw [hU.df, List.nil_append, hd], n2, M2, F2, k2⟩) _ _ _ _ h2
     have e : ({ a with defers := [] ++ a.defers } : Act) = a := by cases a; rfl
     rw [List.nil_append] at h3
     simpa using h3
 | seq x y ihx ihy =>
   intro r Y X hr ro Q t m D ρ chs C a w ds hX hY hrd xx hh M F hd
   simp only [vcC] at hh
   have hmx : ∀ i ∈ mods x, i ∈ mods (.seq x y) := fun i hi => by simp only [mods, List.mem_append]; exact .inl hi
   have hmy : ∀ i ∈ mods y, i ∈ mods (.seq x y) := fun i hi => by simp only [mods, List.mem_append]; exact .inr hi
   have go : ∀ (rx : List Nat) (K : List V → Mem → Prop), vcC P H self fi x Y hr (rx ++ ro) (thenS K Q) t m →
    (∀ a1 w1, UpY (mods x) a.tmps.toList w (rx ++ ro) hr D ρ m chs C K a1 w1 → ∃ ds1 D1 ρ1 m1 c1 t1, a1.defers = ds1.map mark ∧ Nx ro hr D ρ m chs D1 ρ1 m1 c1 ∧ SAt D1 ρ1 m1 c1 (dch ds1 ++ C) w1.heap ∧ RpL D1 ρ1 a1.tmps.toList t1 ∧ vcC P H self fi y Y hr ro Q t1 m1) →
    (Code.seq x y).wpIn (FW r) 0 P (LiftS Q (mods (.seq x y)) a.tmps.toList w ro hr D ρ m chs C) a w := by
    intro rx K hx hK
    refine wpIn_seq (wpIn_mono (ihx r Y X hr _ _ t m D ρ chs C a w ds hX hY hrd xx hx M F hd) fun e a1 w1 hq => ?_)
    cases e with
    | normal =>
      obtain ⟨ds1, D1, ρ1, m1, c1, t1, e1, n1, M1, F1, hy⟩ := hK a1 w1 hq
      refine wpIn_mono (ihy r Y X hr ro Q t1 m1 D1 ρ1 c1 C a1 w1 ds1 hX hY hrd (hX.nx n1 xx) hy M1 F1 e1) fun e a2 w2 hq2 => ?_
      cases e with
      | normal => exact UpY.after hq.sm hq.ag n1 hq2 hmx hmy
      | exit id => exact UpY.after hq.sm hq.ag n1 hq2 hmx hmy
      | ret => exact UpY.after hq.sm hq.ag n1 hq2 hmx hmy
      | _ => exact hq2.elim
    | exit id => exact (UpY.mono hq hmx fun _ _ h => h).weakR
    | ret => exact (UpY.mono hq hmx fun _ _ h => h).weakR
    | _ => exact hq.elim
   split at hh
   · exact go [] _ hh fun a1 w1 hU => hU.ex
   · rename_i hint hf
     obtain ⟨hc, hh⟩ := cond_spec hh
     simp only [Bool.and_eq_true] at hc
     refine go _ _ (hh (mkP hint.ps fun is => vcC P H self fi y Y hr ro Q (hint.st (mods x) t m is).1 (hint.st (mods x) t m is).2) (allP_self _ _)) fun a1 w1 hU => ?_
     obtain ⟨ds1, D1, ρ1, m1, c1, t1, e1, n1, M1, F1, hk⟩ := hU.ex
     have hk : hint.el (hint.base t m) (mkP hint.ps fun is => vcC P H self fi y Y hr ro Q (hint.st (mods x) t m is).1 (hint.st (mods x) t m is).2) t1 m1 := hk
     unfold Hint.el at hk
     split at hk
     · rename_i os mR hpk
       obtain ⟨hal, hk⟩ := cond_spec hk
       obtain ⟨ρ2, c2, n2, M2, F2, ok⟩ := restate hc.1 hc.2 M F n1 M1 F1 hU.ag hpk hal
       rw [apP_mk ok] at hk
       exact ⟨ds1, D1, ρ2, _, c2, _, e1, n2.weakR, M2, F2, hk⟩
     · exact hk.elim
 | cond c x y ihx ihy =>
   intro r Y X hr ro Q t m D ρ chs C a w ds hX hY hrd xx hh M F hd
   simp only [vcC] at hh
   have hmx : ∀ i ∈ mods x, i ∈ mods (.cond c x y) := fun i hi => by simp only [mods, List.mem_append]; exact .inl hi
   have hmy : ∀ i ∈ mods y, i ∈ mods (.cond c x y) := fun i hi => by simp only [mods, List.mem_append]; exact .inr hi
   split at hh
   · rename_i b he
     have hv := ev_S F c
     rw [he] at hv
     refine wpIn_cond (t := b) (by rw [eval_eq]; exact u_bool hv) ?_
     cases b
     · exact wpIn_mono (ihy r Y X hr ro Q t m D ρ chs C a w ds hX hY hrd xx hh M F hd) fun e a' w' hq => by
        cases e <;> first | exact UpY.mono hq hmy fun _ _ h => h | exact hq.elim
     · exact wpIn_mono (ihx r Y X hr ro Q t m D ρ chs C a w ds hX hY hrd xx hh M F hd) fun e a' w' hq => by
        cases e <;> first | exact UpY.mono hq hmx fun _ _ h => h | exact hq.elim
   · exact hh.elim
 | block id c ih =>
   intro r Y X hr ro Q t m D ρ chs C a w ds hX hY hrd xx hh M F hd
   simp only [vcC] at hh
   refine wpIn_block (wpIn_mono (ih r Y X hr ro _ t m D ρ chs C a w ds hX hY hrd xx hh M F hd) fun e a' w' hq => ?_)
   cases e with
   | normal => exact hq
   | exit j =>
     simp only [Exit.inBlock]
     by_cases hj : j = id
     · rw [if_pos hj]
       exact UpY.mono hq (fun _ h => h) fun t h hk => by simpa [blockS, hj] using hk
     · rw [if_neg hj]
       have hb : Nat.beq j id = false := by
        cases h : Nat.beq j id with
        | false => rfl
        | true => exact absurd (Nat.eq_of_beq_eq_true h) hj
       exact UpY.mono hq (fun _ h => h) fun t h hk => by simpa [blockS, hb] using hk
   | ret => exact hq
   | _ => exact hq.elim
 | loop c ih =>
   intro r Y X hr ro Q t m D ρ chs C a w ds hX hY hrd xx hh M F hd
   simp only [vcC] at hh
   split at hh
   · -- round by round
     refine wpIn_loop_rounds H.n ?_
     have key : ∀ (n : Nat) (t : List V) (m1 : Mem) (D1 : Fz) (ρ1 : List Loc) (c1 : List Chunk) (a1 : Act) (w1 : World) (ds1 : List Nat), rnds (cond H.gc (some m.length) none) (fun Q => vcC P H self fi c Y hr ro Q) Q n t m1 → X D1 ρ1 → SAt D1 ρ1 m1 c1 (dch ds1 ++ C) w1.heap → RpL D1 ρ1 a1.tmps.toList t → a1.defers = ds1.map mark →
      Same w w1 → Agr (mods c) a.tmps.toList a1.tmps.toList → Nx ro hr D ρ m chs D1 ρ1 m1 c1 → Code.roundsIn (FW r) 0 P c (LiftS Q (mods c) a.tmps.toList w ro hr D ρ m chs C) n a1 w1 := by
      intro n
      induction n with
      | zero => intro t m1 D1 ρ1 c1 a1 w1 ds1 hh; exact hh.elim
      | succ n ihn =>
        intro t m1 D1 ρ1 c1 a1 w1 ds1 hh x1 M1 F1 hd1 s1 g1 n1
        refine wpIn_mono (ih r Y X hr ro _ t m1 D1 ρ1 c1 C a1 w1 ds1 hX hY hrd x1 hh M1 F1 hd1) fun e a2 w2 hq => ?_
        cases e with
        | normal =>
          obtain ⟨ds2, D2, ρ2, m2, c2, t2, e2, n2, M2, F2, hk⟩ := hq.ex
          have g : ∃ ρ3 m3 c3 t3, Nx ro hr D ρ m chs D2 ρ3 m3 c3 ∧ SAt D2 ρ3 m3 c3 (dch ds2 ++ C) w2.heap ∧ RpL D2 ρ3 a2.tmps.toList t3 ∧ rnds (cond H.gc (some m.length) none) (fun Q => vcC P H self fi c Y hr ro Q) Q n t3 m3 := by
           generalize hG : cond H.gc (some m.length) none = G at hk
           cases hg : H.gc with
           | false => rw [hg] at hG; cases hG; exact ⟨ρ2, m2, c2, t2, n1.trans n2, M2, F2, hk⟩
           | true => rw [hg] at hG; cases hG; exact canon_S M hk (n1.trans n2) M2 F2
          obtain ⟨ρ3, m3, c3, t3, n3, M3, F3, k3⟩ := g
          exact ihn t3 m3 D2 ρ3 c3 a2 w2 ds2 k3 (hX.nx n3 xx) M3 F3 e2 (s1.trans hq.sm) (g1.trans hq.ag) n3
        | exit id => exact UpY.after s1 g1 n1 hq (fun _ h => h) fun _ h => h
        | ret => exact UpY.after s1 g1 n1 hq (fun _ h => h) fun _ h => h
        | _ => exact hq.elim
     exact key H.n t m D ρ chs a w ds hh xx M F hd (.refl w) (.refl _ _) .refl
   · rename_i hint hf
     obtain ⟨hc, I, f, h0, hr'⟩ := cond_spec hh
     simp only [Bool.and_eq_true] at hc
     -- a state at the head
     have head : ∀ {D1 : Fz} {ρ1 : List Loc} {m1 : Mem} {c1 C1 : List Chunk} {t1 : List V} {a1 : Act} {w1 : World} {n : Nat} {J : PtT Prop hint.ps}, Nx (roOf (hint.base t m) 0 ++ ro) hr D ρ m chs D1 ρ1 m1 c1 → SAt D1 ρ1 m1 c1 C1 w1.heap → RpL D1 ρ1 a1.tmps.toList t1 → Agr (mods c) a.tmps.toList a1.tmps.toList →
      hint.el (hint.base t m) J t1 m1 → ∃ os ρ2 c2, OkL hint.ps os ∧ apP False hint.ps J os ∧ Nx (roOf (hint.base t m) 0 ++ ro) hr D ρ m chs D1 ρ2 (hint.st (mods c) t m os).2 c2 ∧ SAt D1 ρ2 (hint.st (mods c) t m os).2 c2 C1 w1.heap ∧ RpL D1 ρ2 a1.tmps.toList (hint.st (mods c) t m os).1 := by
      intro D1 ρ1 m1 c1 C1 t1 a1 w1 n J n1 M1 F1 ag hk
      unfold Hint.el at hk
      split at hk
      · rename_i os mR hpk
        obtain ⟨hal, hk⟩ := cond_spec hk
        obtain ⟨ρ2, c2, n2, M2, F2, ok⟩ := restate hc.1 hc.2 M F n1 M1 F1 ag hpk hal
        exact ⟨os, ρ2, c2, ok, hk, n2, M2, F2⟩
      · exact hk.elim
     refine loopIn_n (fun k a1 w1 => Same w w1 ∧ Agr (mods c) a.tmps.toList a1.tmps.toList ∧ ∃ ds1 D1 os ρ2 c2, a1.defers = ds1.map mark ∧ OkL hint.ps os ∧ apP False hint.ps I os ∧ apP 0 hint.ps f os = k ∧ Nx (roOf (hint.base t m) 0 ++ ro) hr D ρ m chs D1 ρ2 (hint.st (mods c) t m os).2 c2 ∧
      SAt D1 ρ2 (hint.st (mods c) t m os).2 c2 (dch ds1 ++ C) w1.heap ∧ RpL D1 ρ2 a1.tmps.toList (hint.st (mods c) t m os).1) ?_ fun k a1 w1 hI => ?_
     · obtain ⟨os, ρ2, c2, ok, hi, n2, M2, F2⟩ := head (n := 0) .refl M F (.refl _ _) h0
       exact ⟨_, .refl w, .refl _ _, ds, D, os, ρ2, c2, hd, ok, hi, rfl, n2, M2, F2⟩
     · obtain ⟨s1, g1, ds1, D1, os, ρ2, c2, hd1, ok, hi, hk, n2, M2, F2⟩ := hI
       have hb := allP_ap ok hr'
       rw [apP_zip (d1 := False) (d2 := False) ok, apP_zip (d1 := 0) (d2 := fun _ => False) ok, apP_mk ok] at hb
       have hb := hb hi
       refine wpIn_mono (ih r Y X hr _ _ _ _ D1 ρ2 c2 C a1 w1 ds1 hX hY hrd (hX.nx n2 xx) hb M2 F2 hd1) fun e a2 w2 hq => ?_
       cases e with
       | normal =>
         obtain ⟨ds3, D3, ρ3, m3, c3, t3, e3, n3, M3, F3, hk3⟩ := hq.ex
         have ag3 := g1.trans hq.ag
         obtain ⟨os4, ρ4, c4, ok4, hi4, n4, M4, F4⟩ := head (n := 0) (n2.trans n3) M3 F3 ag3 hk3
         rw [apP_zip (d1 := False) (d2 := 0) ok4] at hi4
         exact ⟨_, by rw [← hk]; exact hi4.2, s1.trans hq.sm, ag3, ds3, D3, os4, ρ4, c4, e3, ok4, hi4.1, rfl, n4, M4, F4⟩
       | exit id => exact (UpY.after s1 g1 n2 hq (fun _ h => h) fun _ h => h).weakR
       | ret => exact (UpY.after s1 g1 n2 hq (fun _ h => h) fun _ h => h).weakR
       | _ => exact hq.elim
 | exit id => intro r Y X hr ro Q t m D ρ chs C a w ds hX hY hrd xx hh M F hd; exact wpIn_exit ⟨.refl w, .refl _ _, ds, D, ρ, m, chs, t, hd, .refl, M, F, hh⟩
 | ret => intro r Y X hr ro Q t m D ρ chs C a w ds hX hY hrd xx hh M F hd; exact wpIn_ret ⟨.refl w, .refl _ _, ds, D, ρ, m, chs, t, hd, .refl, M, F, hh⟩
 | scope c ih =>
   intro r Y X hr ro Q t m D ρ chs C a w ds hX hY hrd xx hh M F hd
   refine wpIn_scope (wpIn_mono (ih r Y X hr ro Q t m D ρ chs C a w ds hX hY hrd xx hh M F hd) fun e a' w' hq => ?_)
   cases e <;> first | exact hq | exact hq.elim
 | label l => intro r Y X hr ro Q t m D ρ chs C a w ds hX hY hrd xx hh M F hd; exact wpIn_label ⟨.refl w, .refl _ _, ds, D, ρ, m, chs, t, hd, .refl, M, F, hh⟩
 | rangeFunc g ps assign body iha ihb =>
   intro r Y X hr ro Q t m D ρ chs C a w ds hX hY hrd xx hh M F hd
   cases Y with
   | rd => simp [vcC] at hh
   | it b f => simp [vcC] at hh
   | out =>
     have hr0 := hrd rfl
     subst hr0
     simp only [vcC] at hh
     split at hh
     · rename_i gi as' cs hg
       split at hh
       · exact hh.elim
       · rename_i gfn hgf
         split at hh
         · exact hh.elim
         · rename_i gc hgc
           cases hng : (gfn.name == "runtime.NumGoroutine" || !noEx body) with
           | true => rw [hng] at hh; exact hh.elim
           | false =>
             rw [hng] at hh
             simp only [cond_false, Bool.or_eq_false_iff] at hh hng
             refine wpIn_rangeFunc ?_
             intro fn _
             obtain ⟨rc, hrc⟩ : ∃ rc : LoopState → Loop, rc = fun st => { state := st, pending := none, fn, tmps := a.tmps, params := ps, assign, body, defers := w.heap.size } := ⟨_, rfl⟩
             let l := w.heap.size + 1
             let h2 : Heap := (w.heap.push (.deferred (some []))).push (.loop (rc .ready))
             have hl : (w.heap.push (Obj.deferred (some []))).size = l := by simp [l]
             let L : Loc := ⟨l, none, 0, 0, some (.loop (rc .ready))⟩
             have M0 : SAt D ρ m chs ([(l, .loop (rc .ready))] :: (dch (w.heap.size :: ds) ++ C)) h2 := by
              have := (M.cpush (.deferred (some []))).cpush (.loop (rc .ready))
              rw [hl] at this
              exact this
             have M1 : SAt D (ρ ++ [L]) (m ++ [.tk]) (chs ++ [[(l, .loop (rc .ready))]]) (dch (w.heap.size :: ds) ++ C) h2 := M0.push (.tk rfl)
             have hbL : ∀ s : List Loc, (ρ ++ [L] ++ s)[m.length]? = some L := fun s => by rw [← M.len]; simp
             have hYf := hh
             let X' : Fz → List Loc → Prop := fun D' ρ' => Le D D' ∧ ∃ s, ρ' = ρ ++ [L] ++ s
             have hX' : Stab X' := fun {D1 D2 ρ1} s ⟨h1, s1, e1⟩ h3 => ⟨h1.trans h3, s1 ++ s, by rw [e1]; simp⟩
             -- the rounds
             have hY' : YOk P (.it m.length fun ro' hr' args m1 K => isY (mg m1 m.length) (cond (Nat.beq args.length ps.size) (vcC P H self fi assign .rd hr' ro'
              (thenS (fun t2 m2 => vcC P H self fi body .rd hr' ro' (fun e _ m3 => match e, mg m3 m.length with
               | .nrm, .x => K (.u (.b true)) (ms m3 m.length .tk)
               | _, _ => False) t2 m2) fun _ _ _ => False) (setA t ps.toList args) (ms m1 m.length .x)) False)) X' := by
              intro ro' hr' args m1 KS D1 ρ1 c1 C1 vs L1 w1 x1 hf M1 hvs hL1
              obtain ⟨hle, s1, rfl⟩ := x1
              rw [hbL] at hL1
              cases hL1
              obtain ⟨hm1, hf⟩ := isY_iff hf
              obtain ⟨hlen, hf⟩ := cond_spec hf
              have hlen := Nat.eq_of_beq_eq_true hlen
              obtain ⟨L2, q1, q2, q3, M2, hb1⟩ := M1.recd (hbL s1) rfl rfl hm1
              have hat : w1.heap[l]? = some (.loop (rc .ready)) := M1.own q3 (List.mem_singleton_self _)
              have has' : vs.toArray.size = ps.size := by rw [List.size_toArray, hvs.len', hlen]
              refine ⟨fn, _, assign, body, by rw [hrc] at hat; exact run_yield hat has', ?_⟩
              refine roundIn_of_wpIn (F := FW none) trivial ?_
              show assign.wpIn (FW (some l)) 0 P _ _ _
              generalize htm : ((ps.zip vs.toArray).foldl (fun tmps (x : Tmp × Value) => tmps.setIfInBounds x.1 x.2) a.tmps) = tm
              have htl : tm.toList = setAll a.tmps.toList ps.toList vs := by
               rw [← htm, ← setAll_fold, ← Array.foldl_toList, Array.toList_zip]
              have F2 : RpL D1 (ρ ++ [L] ++ s1) tm.toList (setA t ps.toList args) := by
               rw [htl, List.append_assoc]
               rw [List.append_assoc] at hvs
               exact setA_S (F.mono hle _) hvs
              refine wpIn_mono (iha (some l) .rd (fun _ _ => True) hr' ro' _ _ _ D1 _ _ ([(l, .loop (rc .ready))] :: C1) { tmps := tm, defers := [] } w1 [] (fun _ _ _ => trivial) trivial (by intro h; cases h) trivial hf M2 F2 rfl) fun e a3 w3 hq => ?_
              cases e with
              | normal =>
                obtain ⟨ds3, D3, ρ3, m3, c3, t3, e3, n3, M3, F3, hk⟩ := hq.ex
                have M3' : SAt D3 ρ3 m3 c3 ([(l, .loop (rc .ready))] :: (dch ds3 ++ C1)) w3.heap := M3.perm (by simp [List.flatten_append] <;> exact List.perm_middle)
                have hat3 : w3.heap[l]? = some (.loop (rc .ready)) := M3'.st.unmid.get (List.mem_singleton_self _)
                refine ⟨w3.putObj l (.loop (rc .busy)), by rw [hrc] at hat3 ⊢; exact run_beginRound hat3 rfl, ?_⟩
                show body.wpIn (FW (some l)) 0 P _ _ _
                have M4 : SAt D3 ρ3 m3 c3 (dch ds3 ++ ([(l, .loop (rc .busy))] :: C1)) (w3.putObj l (.loop (rc .busy))).heap := (M3'.cput (.loop (rc .busy))).perm (by simp [List.flatten_append] <;> exact List.perm_middle.symm)
                refine wpIn_mono (ihb (some l) .rd (fun _ _ => True) hr' ro' _ _ _ D3 _ _ ([(l, .loop (rc .busy))] :: C1) a3 (w3.putObj l (.loop (rc .busy))) ds3 (fun _ _ _ => trivial) trivial (by intro h; cases h) trivial hk M4 F3 e3) fun e a5 w5 hq5 => ?_
                have fin : ∀ {md T}, UpY md T (w3.putObj l (.loop (rc .busy))) ro' hr' D3 ρ3 m3 c3 ([(l, .loop (rc .busy))] :: C1) (fun _ m3 => match Ex.nrm, mg m3 m.length with
                 | .nrm, .x => KS (.u (.b true)) (ms m3 m.length .tk)
                 | _, _ => False) a5 w5 → ∃ v w', (Instr.endRound l none).run P w5 = .ok v w' ∧ ∃ v', Ending.returned v = Ending.returned v' ∧ PostE ro' hr' D1 (ρ ++ [L] ++ s1) m1 c1 C1 KS v' w'.heap ∧ Same w1 w' := by
                 intro md T hu
                 obtain ⟨ds5, D5, ρ5, m5, c5, t5, e5, n5, M5, F5, hk5⟩ := hu.ex
                 have M5' : SAt D5 ρ5 m5 c5 ([(l, .loop (rc .busy))] :: (dch ds5 ++ C1)) w5.heap := M5.perm (by simp [List.flatten_append] <;> exact List.perm_middle)
                 have hat5 : w5.heap[l]? = some (.loop (rc .busy)) := M5'.st.unmid.get (List.mem_singleton_self _)
                 have nn := n3.trans n5
                 obtain ⟨s5, hs5⟩ := nn.pre
                 have hb5 : m.length < m5.length := by have := nn.len; rw [ms_len] at this; omega
                 have hL5 : ρ5[m.length]? = some L := by rw [hs5, List.append_assoc]; exact hbL _
                 split at hk5
                 rotate_left
                 · exact hk5.elim
                 rename_i hx5
                 have M6 : SAt D5 ρ5 (ms m5 m.length .tk) (c5.set m.length [(l, .loop (rc .ready))]) C1 (w5.putObj l (.loop (rc .ready))).heap := by
                  have := (M5'.cput (.loop (rc .ready))).back hb5 hL5 rfl rfl
                  exact this.mono (.refl _) (this.st.sublist (by
                   simp only [List.flatten_append]
                   exact (List.Sublist.refl _).append (List.sublist_append_right _ _)))
                 refine ⟨.bool true, w5.putObj l (.loop (rc .ready)), by rw [hrc] at hat5 ⊢; exact run_endRound none hat5, .bool true, rfl, ⟨D5, ρ5, _, _, .u (.b true), ⟨nn.le, nn.pre, fun b h1 h2 => ?_, fun b h1 h2 => ?_, ?_⟩, M6, .u (.bool true), hk5⟩, ?_⟩
                 · by_cases hb : m.length = b
                   · subst hb
                     rw [List.getElem?_set_self (by rw [M5.lch]; exact hb5), q3]
                   · rw [List.getElem?_set_ne hb]
                     have := nn.keep b h1 (by rw [ms_len]; exact h2)
                     rw [this, List.getElem?_set_ne hb]
                 · by_cases hb : m.length = b
                   · subst hb
                     rw [mg_ms hb5, hm1]
                   · rw [mg_ms_ne hb]
                     have := nn.same b h1 (by rw [ms_len]; exact h2)
                     rw [this, mg_ms_ne hb]
                 · have := nn.len
                   rw [ms_len] at this ⊢
                   exact this
                 · exact ((hq.sm.trans (Same.put _ _ _)).trans hu.sm).trans (Same.put _ _ _)
                cases e with
                | normal => exact fin hq5
                | exit i => obtain ⟨_, _, _, _, _, _, _, _, _, _, h⟩ := hq5.ex; exact h.elim
                | ret => obtain ⟨_, _, _, _, _, _, _, _, _, _, h⟩ := hq5.ex; exact h.elim
                | _ => exact hq5.elim
              | exit i => obtain ⟨_, _, _, _, _, _, _, _, _, _, h⟩ := hq.ex; exact h.elim
              | ret => obtain ⟨_, _, _, _, _, _, _, _, _, _, h⟩ := hq.ex; exact h.elim
              | _ => exact hq.elim
             have hvg := ev_S F g
             rw [hg] at hvg
             generalize hevg : ev a.tmps.toList g = vg at hvg
             obtain ⟨xs, ys, rfl, ha1, ha2⟩ := hvg.f_inv
             have hyv : Rp D (ρ ++ [L]) (.func (.yield l) #[] #[]) (.y m.length) := .y (L := L) (by have := hbL []; rwa [List.append_nil] at this)
             have hargs : RpL D (ρ ++ [L]) (xs ++ [Value.func (.yield l) #[] #[]] ++ ys) (as' ++ [.y m.length] ++ cs) := ((ha1.mono (.refl D) [L]).app (.cons hyv .nil)).app (ha2.mono (.refl D) [L])
             have hrun := body_S (fi := gi) (X := X') hself hX' (Y := .it m.length _) @hY' rfl ⟨.refl D, [], by simp⟩ hgf hgc hng.1 hYf M1 hargs
             let W1 : World := (w.alloc (.deferred (some []))).alloc (.loop (rc .ready))
             have hW1 : W1.heap = h2 := rfl
             have hevg' : a.eval g = .func (.func gi) xs.toArray ys.toArray := by rw [eval_eq]; exact hevg
             refine ⟨l, [{ target := .collected w.heap.size, args := #[] }], W1, { target := .fn (.func gi) ys.toArray, args := xs.toArray ++ #[.func (.yield l) #[] #[]] }, W1, gi,
              (xs.toArray ++ #[.func (.yield l) #[] #[]]) ++ ys.toArray, W1, ?_, ?_, fun _ _ => trivial, ?_, fun hx => (by cases hx), ?_⟩
             · show (Instr.enterLoop fn a.tmps ps assign body none).run P w = _
               rw [run_enterLoop_outer]; subst hrc; rfl
             · simp only [resolve, hevg', Deferred.ofValue]
               simp [Act.eval]
             · show (callFunc gi _).run P W1 = _
               exact run_callFunc hrun.1 _ _
             · have hc := hrun.2 W1 hW1
               have ha : (xs ++ [Value.func (.yield l) #[] #[]] ++ ys).toArray = (xs.toArray ++ #[.func (.yield l) #[] #[]]) ++ ys.toArray := by apply Array.ext'; simp
               rw [ha] at hc
               refine (callsIn_of hc).mono ?_
               rintro e w3 ⟨v, rfl, hK, hS⟩
               have sW : Same w w3 := ((Same.alloc _ _).trans (Same.alloc _ _)).trans hS
               obtain ⟨D2, ρ2, m2, c2, x2, n2, M2, -, hY2⟩ := hK
               obtain ⟨hm2, hQ⟩ := isY_iff hY2
               obtain ⟨s2, rfl⟩ := n2.pre
               obtain ⟨L2, q1, q2, q3, M3, hb2⟩ := M2.recd (hbL s2) rfl rfl hm2
               have hat : w3.heap[l]? = some (.loop (rc .ready)) := M2.own q3 (List.mem_singleton_self _)
               have hat' := hat
               rw [hrc] at hat'
               refine ⟨_, _, run_endLoop hat' (by simp), ?_⟩
               refine ⟨sW.trans (Same.put _ _ _), .refl _ _, w.heap.size :: ds, D2, _, _, _, t, by show [_] ++ a.defers = _; rw [hd]; rfl, ⟨n2.le, ⟨[L] ++ s2, by simp⟩, fun b h1 h2 => ?_, fun b h1 h2 => ?_, ?_⟩, (M3.cput _).cdrop, ?_, hQ⟩
               · have hb : m.length ≠ b := by omega
                 rw [List.getElem?_set_ne hb, n2.keep b h1 (by simp; omega), List.getElem?_append_left (by rw [M.lch]; exact h2)]
               · have hb : m.length ≠ b := by omega
                 rw [mg_ms_ne hb, n2.same b h1 (by simp; omega), mg_app h2]
               · rw [ms_len]; omega
               · rw [List.append_assoc]; exact F.mono n2.le _
     · exact hh.elim
 | _ => intro r Y X hr ro Q t m D ρ chs C a w ds hX hY hrd xx hh M F hd; simp [vcC] at hh
theorem runS_S (hmix : P.follows .mixedOrders = true) (H : SH P) : ∀ n, SelfOk P (runS P H n)
 | 0 => by
   intro hX hY hYr xx hh
   exact hh.elim
 | n + 1 => by
   intro hX hY hYr xx hh M F hd
   exact vcC_S hmix (runS_S hmix H n) _ none _ _ _ _ _ _ _ _ _ _ _ _ _ [] hX hY (fun _ => rfl) xx hh M F hd
theorem frzX_S {own : Bool} {x y : V} {v : Value} (hs : frzX own m x = some (y, m')) (M : SAt D ρ m chs C h) (hv : Rp D ρ v x) : ∃ D' chs', Nx [] [] D ρ m chs D' ρ m' chs' ∧ SAt D' ρ m' chs' C h ∧ Rp D' ρ v y := by
 unfold frzX at hs
 split at hs
 · rename_i l
   cases own with
   | true => cases hs; exact ⟨D, chs, .refl, M, hv⟩
   | false =>
     simp only [cond_false] at hs
     split at hs
     · rename_i l' m1 h1
       cases hs
       obtain ⟨VS, rfl, hl⟩ := hv.t_inv
       obtain ⟨D2, c2, n2, M2, r2⟩ := frzL_S (ro := []) (hr := []) h1 M hl
       exact ⟨D2, c2, n2, M2, .t r2⟩
     · cases hs
 · cases own with
   | true => cases hs; exact ⟨D, chs, .refl, M, hv⟩
   | false => exact frzV_S (ro := []) (hr := []) hs M hv
theorem funSG (hmix : P.follows .mixedOrders = true) {H : SH P} {n : Nat} {f : FuncId} {fn : Func} {gc : Bool} (hf : P.funcs[f]? = some fn) (hn : (fn.name == "runtime.NumGoroutine") = false) {c : Code} (hc : fn.body = some c) {m : Mem} {args : List V} {Q : V → Mem → Prop}
 (hh : runS P H n .out f [] [] c (retG P gc fn (endS H.own m.length Q)) (frameG P gc fn args) m) : PRun P f m args Q := by
 intro D ρ chs C h vs M ha
 · refine (body_S (fi := f) (runS_S hmix H n) (X := fun _ _ => True) (fun _ _ _ => trivial) (Y := .out) trivial rfl trivial hf hc hn hh M ha).mono ?_
   rintro v h' ⟨D1, ρ1, m1, c1, x, n1, M1, hv, hq⟩
   obtain ⟨s, rfl⟩ := n1.pre
   unfold endS at hq
   split at hq
   · exact hq.elim
   · rename_i x1 m2 hfz
     obtain ⟨D2, c2, n2, M2, hv2⟩ := frzX_S hfz M1 hv
     generalize hix : clo m2 1000 (refsV x1 ++ (m2.take m.length).flatMap refsA) (List.range m.length) = ix at hq
     obtain ⟨hc2, hq⟩ := cond_spec hq
     simp only [Bool.and_eq_true] at hc2
     have q1 := allIn_iff hc2.1.1
     have q2 := allIn_iff hc2.1.2
     have q3 := below_iff hc2.2
     have hnd : ix.Nodup := hix ▸ clo_nodup _ _ _ List.nodup_range
     have hpre : ∃ tl, ix = List.range m.length ++ tl := hix ▸ clo_pre _ _ _
     obtain ⟨tl, rfl⟩ := hpre
     obtain ⟨c', cs, Mk, gk, Ms⟩ := M2.sub hnd q3 fun b hb c hc => q2 c (List.mem_flatMap.2 ⟨b, hb, hc⟩)
     have hρ : (List.range m.length ++ tl).map (fun b => ((ρ ++ s)[b]?).getD ⟨0, none, 0, 0, none⟩) = ρ ++ tl.map (fun b => ((ρ ++ s)[b]?).getD ⟨0, none, 0, 0, none⟩) := by
      rw [List.map_append]
      congr 1
      apply List.ext_getElem (by simp [M.len])
      intro i h1 h2
      simp only [List.getElem_map, List.getElem_range]
      rw [List.getElem?_append_left h2, List.getElem?_eq_getElem h2]; rfl
     rw [hρ] at Ms
     have hv3 := (ren_all (D := D2) (ρ := ρ ++ s) (f := fun b => posL (List.range m.length ++ tl) b 0) (ρ' := (List.range m.length ++ tl).map (fun b => ((ρ ++ s)[b]?).getD ⟨0, none, 0, 0, none⟩))).1 hv2 fun b hb L hL => by
      obtain ⟨k, h4, h5⟩ := posL_get (k := 0) (q1 b hb)
      rw [h4, Nat.zero_add, List.getElem?_map, h5, Option.map_some, hL]; rfl
     rw [hρ] at hv3
     refine ⟨D2, _, cs, _, _, n1.le.trans n2.le, Ms.mono (.refl _) (C' := C) ?_, hv3, hq⟩
     have S := Ms.st
     exact (S.perm (C' := c' ++ (cs ++ C)) (by simp only [List.flatten_append]; exact List.perm_append_comm_assoc _ _ _)).drops
theorem funS (hmix : P.follows .mixedOrders = true) {H : SH P} {n : Nat} {f : FuncId} {fn : Func} (hf : P.funcs[f]? = some fn) (hn : (fn.name == "runtime.NumGoroutine") = false) {m : Mem} {args : List V} {Q : V → Mem → Prop} (hh : vcFunS P H n f fn m args Q) : PRun P f m args Q := by
 unfold vcFunS at hh
 split at hh
 · exact hh.elim
 · rename_i c hc
   exact funSG hmix hf hn hc hh
theorem funS2 (hmix : P.follows .mixedOrders = true) {H : SH P} {n : Nat} {f : FuncId} {fn : Func} (hf : P.funcs[f]? = some fn) (hn : (fn.name == "runtime.NumGoroutine") = false) {m : Mem} {args : List V} {Q : V → Mem → Prop} {V : Prop} (hV : V = vcFunS P H n f fn m args Q) (hh : V) : PRun P f m args Q :=
 funS hmix hf hn (hV ▸ hh)
end Go.Proofs.YtaogfopaalancaaDoor
/- Lemmas for proofs of what the symbolic engine asks: lists in loops, data, ends of calls. -/
set_option linter.unusedVariables false
namespace Go.Proofs.YtaogfopaalancaaDoor
open Go Go.Proofs
structure Suf {α : Type} (L : List α) (x : Int) (l : List α) : Prop where
 k : ∃ k : Nat, x = k ∧ L.drop k = l
 b : L.length ≤ 1000000000000
section
variable {α β : Type} {L l : List α} {a : α} {x : Int} {e : α → β}
theorem Suf.lt (s : Suf L x (a :: l)) : 0 ≤ x ∧ x < L.length := by
 obtain ⟨⟨k, rfl, hk⟩, -⟩ := s
 have : k < L.length := by
  apply Decidable.byContradiction
  intro hc
  rw [List.drop_eq_nil_of_le (by omega)] at hk
  cases hk
 omega
theorem Suf.nlt (s : Suf L x []) : ¬ x < L.length := by
 obtain ⟨⟨k, rfl, hk⟩, -⟩ := s
 have := List.drop_eq_nil_iff.1 hk
 omega
theorem Suf.wr (s : Suf L x (a :: l)) : IntKind.wrap .i64 (x + 1) = x + 1 := by
 have := s.lt
 have := s.b
 exact w64 (by omega) (by omega)
theorem Suf.get (s : Suf L x (a :: l)) : L[x.toNat]? = some a := by
 obtain ⟨⟨k, rfl, hk⟩, -⟩ := s
 have := congrArg List.head? hk
 simpa [List.head?_drop] using this
theorem Suf.d1 (s : Suf L x (a :: l)) : decide (x < ((L.map e).length : Int)) = true := by
 rw [List.length_map]; exact decide_eq_true s.lt.2
theorem Suf.d0 (s : Suf L x []) : decide (x < ((L.map e).length : Int)) = false := by
 rw [List.length_map]; exact decide_eq_false s.nlt
theorem elL_of {γ : Type} {R : List γ} {r : γ} {K : γ → Prop} (h0 : 0 ≤ x) (h : R[x.toNat]? = some r) : elL R x K = K r := by
 obtain ⟨k, rfl⟩ := Int.eq_ofNat_of_zero_le h0
 simp only [Int.toNat_natCast] at h
 show (match R[k]? with | some r => K r | none => False) = K r
 rw [h]
theorem Suf.el (s : Suf L x (a :: l)) {K : β → Prop} : elL (L.map e) x K = K (e a) :=
 elL_of s.lt.1 (by rw [List.getElem?_map, s.get]; rfl)
def SufM (L : List α) (x : Int) : Nat := (L.length - x).toNat
variable {P : List α → Prop}
theorem Suf.me (s : Suf L x (a :: l)) : SufM L (x + 1) < SufM L x := by
 have := s.lt
 unfold SufM
 omega
end
structure At {α : Type} (L : List α) (x : Int) (t l : List α) : Prop where
 e : L = t ++ l
 k : x = t.length
 b : L.length ≤ 1000000000000
section
variable {α β : Type} {L l t : List α} {a : α} {x : Int} {e : α → β}
theorem At.suf (s : At L x t l) : Suf L x l := ⟨⟨t.length, s.k, by rw [s.e, List.drop_left]⟩, s.b⟩
theorem At.zero (h : L.length ≤ 1000000000000) : At L 0 [] L := ⟨rfl, rfl, h⟩
theorem At.succ (s : At L x t (a :: l)) : At L (x + 1) (t ++ [a]) l := ⟨by rw [s.e]; simp, by rw [s.k]; simp, s.b⟩
theorem At.d1 (s : At L x t (a :: l)) : decide (x < ((L.map e).length : Int)) = true := s.suf.d1
theorem At.d0 (s : At L x t []) : decide (x < ((L.map e).length : Int)) = false := s.suf.d0
theorem At.el (s : At L x t (a :: l)) {K : β → Prop} : elL (L.map e) x K = K (e a) := s.suf.el
theorem At.all (s : At L x t []) : t = L := by rw [s.e]; simp
def AtI (L : List α) (P : List α → List α → Prop) (x : Int) : Prop := ∃ t l, At L x t l ∧ P t l
theorem AtI.zero {P : List α → List α → Prop} (h : L.length ≤ 1000000000000) (h0 : P [] L) : AtI L P 0 := ⟨[], L, .zero h, h0⟩
theorem At.step {P : List α → List α → Prop} (s : At L x t (a :: l)) (h : P (t ++ [a]) l) : AtI L P (IntKind.wrap .i64 (x + 1)) ∧ SufM L (IntKind.wrap .i64 (x + 1)) < SufM L x := by
 rw [s.suf.wr]
 exact ⟨⟨_, l, s.succ, h⟩, s.suf.me⟩
end
section
variable {r : List U} {u : U} {K : Int → Prop} {n : Int} {s j : Nat}
theorem ug0 : ug (u :: r) 0 = some u := rfl
theorem ugs : ug (u :: r) (j + 1) = ug r j := rfl
theorem dI_n : dI .i64 (some (.n n)) K = K n := rfl
theorem dS_s {c : ByteArray} {K : ByteArray → Prop} : dS (some (.s c)) K = K c := rfl
end
section
variable {m : Mem} {n n' : Int} {b : Bool} {s z z' E : Nat} {r r' : List (List U)} {x : ByteArray} {p : Option (List U)}
theorem post_I {F : Int → Prop} : post [.I] [] F (.i n) m = F n := rfl
theorem post_B {F : Bool → Prop} : post [.B] [] F (.u (.b b)) m = F b := rfl
theorem post_S {F : ByteArray → Prop} : post [.S] [] F (.u (.s x)) m = F x := rfl
theorem post_L {F : List (List U) → Prop} : post [.L z] [] F (.l z r) m = F r := by
 simp only [post, resX, pkR, pkV, pk1, Nat.beq_refl, cond_true]; rfl
end
end Go.Proofs.YtaogfopaalancaaDoor
/- Own rows in cells made data at the end of a run. -/
set_option linter.unusedVariables false
namespace Go.Proofs.YtaogfopaalancaaDoor
open Go Go.Proofs
variable {P : Program} {D D' : Fz} {ρ : List Loc} {m : Mem} {chs C : List Chunk} {h : Heap}
end Go.Proofs.YtaogfopaalancaaDoor
/- Memory that one owns whole, as one object: what is told of it is a set of memories. -/
set_option linter.unusedVariables false
namespace Go.Proofs.YtaogfopaalancaaDoor
open Go Go.Proofs
variable {P : Program} {D D' : Fz} {ρ : List Loc} {m : Mem} {chs C : List Chunk} {h : Heap}
end Go.Proofs.YtaogfopaalancaaDoor
/- Own rows lent: what reads data reads an own row as well, and leaves it as it was. -/
set_option linter.unusedVariables false
namespace Go.Proofs.YtaogfopaalancaaDoor
open Go Go.Proofs
variable {P : Program} {D D' : Fz} {ρ : List Loc} {m : Mem} {chs C : List Chunk} {h : Heap}
end Go.Proofs.YtaogfopaalancaaDoor
/- Contracts of functions that leave memory alone; texts as lists of bytes. -/
set_option linter.unusedVariables false
namespace Go.Proofs.YtaogfopaalancaaDoor
open Go Go.Proofs
variable {Q : V → Mem → Prop}
theorem RpL.one {D : Fz} {ρ : List Loc} {vs : List Value} {x : V} (h : RpL D ρ vs [x]) : ∃ v, vs = [v] ∧ Rp D ρ v x := by
 cases h with | cons a b => cases b; exact ⟨_, rfl, a⟩
theorem RpL.two {D : Fz} {ρ : List Loc} {vs : List Value} {x y : V} (h : RpL D ρ vs [x, y]) : ∃ v w, vs = [v, w] ∧ Rp D ρ v x ∧ Rp D ρ w y := by
 cases h with | cons a b => cases b with | cons b c => cases c; exact ⟨_, _, rfl, a, b⟩
theorem Rp.u_inv {D : Fz} {ρ : List Loc} {v : Value} {x : U} (h : Rp D ρ v (.u x)) : Rd D v x := by cases h; assumption
theorem PRun.keep {P : Program} {g : FuncId} {args : List V}
 (hh : ∀ (D : Fz) (C : List Chunk) (h : Heap) (vs : List Value), St D C h → RpL D [] vs args → Run P g vs h fun v h' => Keep h h' ∧ ∃ x, Rp D [] v x ∧ Q x []) : PRun P g [] args Q := by
 intro D ρ chs C h vs M F
 have h1 : ρ = [] := List.eq_nil_of_length_eq_zero M.len
 have h2 : chs = [] := List.eq_nil_of_length_eq_zero M.lch
 subst h1; subst h2
 refine (hh D C h vs (by simpa using M.st) F).mono ?_
 rintro v h' ⟨k, x, hx, hQ⟩
 exact ⟨D, [], [], x, [], .refl _, ⟨rfl, rfl, fun i L ab ch h => (by simp at h), by simpa using (show St D C h by simpa using M.st).keep k⟩, hx, hQ⟩
abbrev bA (l : Bs) : ByteArray := ⟨⟨l⟩⟩
theorem bA_app (a b : Bs) : bA a ++ bA b = bA (a ++ b) := by
 apply ByteArray.ext
 apply Array.ext'
 simp
theorem bA_size (l : Bs) : ByteArray.size (bA l) = l.length := rfl
theorem bA_inj {a b : Bs} : bA a = bA b ↔ a = b := ⟨fun h => by injection h with h; injection h, fun h => h ▸ rfl⟩
theorem bA_ext (l : Bs) (i j : Nat) : ByteArray.extract (bA l) i j = bA ((l.take j).drop i) := by
 apply ByteArray.ext
 apply Array.ext'
 simp [ByteArray.data_extract, List.drop_take]
abbrev eB (l : Bs) : List U := [.s (bA l)]
theorem PRun.texts {P : Program} {g : FuncId} {args : List V} {l : List Bs} {T : TypeId}
 (hh : ∀ (D : Fz) (C : List Chunk) (h : Heap) (vs : List Value), St D C h → RpL D [] vs args → Run P g vs h fun v h' => v = .slice (some ⟨h.size, 0, none⟩) l.length l.length ∧ h' = h.push (.cells (l.map fun x => Value.string (bA x)).toArray T (0, 0)))
 (k : Q (.l 1 (l.map eB)) []) : PRun P g [] args Q := by
 intro D ρ chs C h vs M F
 have h1 : ρ = [] := List.eq_nil_of_length_eq_zero M.len
 have h2 : chs = [] := List.eq_nil_of_length_eq_zero M.lch
 subst h1; subst h2
 have S : St D C h := by simpa using M.st
 refine (hh D C h vs S F).mono ?_
 rintro v h' ⟨rfl, rfl⟩
 have S1 : St D ([(h.size, .cells (l.map fun x => Value.string (bA x)).toArray T (0, 0))] :: C) (h.push (.cells (l.map fun x => Value.string (bA x)).toArray T (0, 0))) :=
  S.nil.upd (c' := [_]) ((KB.push [] h _).mono fun x hx => by simp at hx) (by simp) (by simp) (by simp)
 obtain ⟨D', le, hD, S2⟩ := S1.freeze
 refine ⟨D', [], [], _, [], le, ⟨rfl, rfl, fun i L ab ch h => (by simp at h), by simpa using S2⟩, .u ?_, k⟩
 have := Rd.row (D := D') h.size 0 l.length (l.map fun x => Value.string (bA x)).toArray T (0, 0) (l.map eB) 1 (fun i _ => Value.string (bA (l.getD i []))) (hD (h.size, .cells (l.map fun x => Value.string (bA x)).toArray T (0, 0)) (List.mem_singleton_self _)) (by simp) (fun r hr => by obtain ⟨x, -, rfl⟩ := List.mem_map.1 hr; rfl)
  (fun i j r u hi hj => by
   rw [List.getElem?_map] at hi
   obtain ⟨x, hx, rfl⟩ := Option.map_eq_some_iff.1 hi
   cases j with
   | succ j => simp at hj
   | zero => simp only [Nat.mul_one, Nat.zero_add, Nat.add_zero, List.getElem?_toArray, List.getElem?_map, hx, List.getD, Option.getD_some, Option.map_some])
  (fun i j r u hi hj => by
   rw [List.getElem?_map] at hi
   obtain ⟨x, hx, rfl⟩ := Option.map_eq_some_iff.1 hi
   cases j with
   | succ j => simp at hj
   | zero =>
     simp only [List.getElem?_cons_zero, Option.some.injEq] at hj
     subst hj
     simp only [List.getD, hx, Option.getD_some]
     exact .str _)
 rw [List.length_map] at this
 exact this
end Go.Proofs.YtaogfopaalancaaDoor
/- What the functions do, written by program (psv.py) and held against the program by the kernel. -/
set_option linter.unusedVariables false
set_option maxRecDepth 100000
namespace Go.Proofs.YtaogfopaalancaaDoor
open Go Go.Proofs
theorem mixTd1 : Tryd.prog.follows .mixedOrders = true := by kernel_rfl
theorem S20 {n : Int} {Q : V → Mem → Prop} (hh : bif decide (n < 0) then (bif decide (n > -10) then PRun Tryd.prog 20 [] [.i (IntKind.wrap .i64 (0 - n))] (post [.S] [] (fun s1 => (ByteArray.size (ByteArray.mk #[45]) + ByteArray.size s1 < 9223372036854775808 ∧ (Q (.u (.s (ByteArray.mk #[45] ++ s1))) []) : Prop))) else (10 : Int) ≠ 0 ∧ (PRun Tryd.prog 20 [] [.i (IntKind.wrap .i64 (Int.tdiv n 10))] (post [.S] [] (fun s2 => ((10 : Int) ≠ 0 ∧ (PRun Tryd.prog 20 [] [.i (IntKind.wrap .i64 (0 - Int.tmod n 10))] (post [.S] [] (fun s3 => (ByteArray.size s2 + ByteArray.size s3 < 9223372036854775808 ∧ (Q (.u (.s (s2 ++ s3))) []) : Prop)))) : Prop))))) else (bif decide (n > 9) then (10 : Int) ≠ 0 ∧ (PRun Tryd.prog 20 [] [.i (IntKind.wrap .i64 (Int.tdiv n 10))] (post [.S] [] (fun s4 => ((10 : Int) ≠ 0 ∧ (PRun Tryd.prog 20 [] [.i (Int.tmod n 10)] (post [.S] [] (fun s5 => (ByteArray.size s4 + ByteArray.size s5 < 9223372036854775808 ∧ (Q (.u (.s (s4 ++ s5))) []) : Prop)))) : Prop)))) else Q (.u (.s (strOf [IntKind.wrap .u8 (IntKind.wrap .i64 (48 + n))]))) [])) : PRun Tryd.prog 20 [] [.i n] Q :=
 funS2 mixTd1 Tryd.func20 (by kernel_rfl) (H := ⟨[], [], [], [], [], false, 64, KN.no, false, SP.no⟩) (n := 2) (by kernel_rfl) hh
theorem S22 {s : ByteArray} {Q : V → Mem → Prop} (hh : ByteArray.size s + ByteArray.size (ByteArray.mk #[32]) < 9223372036854775808 ∧ (∃ (I1 : List (List U) → Int → Ob → Prop) (f1 : List (List U) → Int → Ob → Nat), I1 [] 0 (.si (s ++ ByteArray.mk #[32]) 0) ∧ (∀ l1 : List (List U), ∀ x1 : Int, ∀ X1 : Ob, I1 l1 x1 X1 → ∃ (s1 : ByteArray) (p1 : Nat), X1 = Ob.si s1 p1 ∧ (bif Nat.ble (p1 + 1) (ByteArray.size s1) then ((bif ((Utf8.decode s1 p1).1 : Int) != 32 then I1 l1 x1 (.si s1 (p1 + (Utf8.decode s1 p1).2)) ∧ f1 l1 x1 (.si s1 (p1 + (Utf8.decode s1 p1).2)) < f1 l1 x1 X1 else (bif decide ((p1 : Int) > x1) then 0 ≤ x1 ∧ (x1 ≤ (p1 : Int) ∧ (p1 : Int) ≤ (ByteArray.size s : Int) ∧ (apOk l1 [[.s (ByteArray.extract s (Int.toNat x1) (Int.toNat (p1 : Int)))]] ∧ (I1 (l1 ++ [[.s (ByteArray.extract s (Int.toNat x1) (Int.toNat (p1 : Int)))]]) (IntKind.wrap .i64 ((p1 : Int) + 1)) (.si s1 (p1 + (Utf8.decode s1 p1).2)) ∧ f1 (l1 ++ [[.s (ByteArray.extract s (Int.toNat x1) (Int.toNat (p1 : Int)))]]) (IntKind.wrap .i64 ((p1 : Int) + 1)) (.si s1 (p1 + (Utf8.decode s1 p1).2)) < f1 l1 x1 X1))) else I1 l1 (IntKind.wrap .i64 ((p1 : Int) + 1)) (.si s1 (p1 + (Utf8.decode s1 p1).2)) ∧ f1 l1 (IntKind.wrap .i64 ((p1 : Int) + 1)) (.si s1 (p1 + (Utf8.decode s1 p1).2)) < f1 l1 x1 X1)) : Prop) else (Q (.l 1 l1) [] : Prop))))) : PRun Tryd.prog 22 [] [.u (.s s)] Q :=
 funS2 mixTd1 Tryd.func22 (by kernel_rfl) (H := ⟨[((22, 4, 1), ⟨[(3, .one (.ow 9 1)), (4, .I)], [(0, .A)]⟩)], [], [], [], [], false, 64, KN.no, false, SP.no⟩) (n := 2) (by kernel_rfl) hh
theorem S41 {s : ByteArray} {Q : V → Mem → Prop} (hh : PRun Tryd.prog 53 [] [.u (.s s), .u (.s (ByteArray.mk #[44]))] (post [.L 1] [] (fun l1 => (bif decide ((List.length l1 : Int) > 8) then Q (.t [.l 2 [], .u (.b false)]) [] else ∃ (I1 : List (List U) → Int → Prop) (f1 : List (List U) → Int → Nat), I1 [] 0 ∧ (∀ l2 : List (List U), ∀ x1 : Int, I1 l2 x1 → (bif decide (x1 < (List.length l1 : Int)) then elL l1 x1 (fun r1 => dS (ug r1 0) (fun s1 => PRun Tryd.prog 24 [] [.u (.s s1), .u (.s (ByteArray.mk #[120]))] (post [.S, .S, .B] [] (fun s2 s3 b1 => (PRun Tryd.prog 9 [] [.u (.s s2)] (post [.I, .B] [] (fun x2 b2 => (PRun Tryd.prog 9 [] [.u (.s s3)] (post [.I, .B] [] (fun x3 b3 => (bif !b2 then Q (.t [.l 2 [], .u (.b false)]) [] else (bif !b3 then Q (.t [.l 2 [], .u (.b false)]) [] else apOk l2 [[.n x2, .n x3]] ∧ (I1 (l2 ++ [[.n x2, .n x3]]) (IntKind.wrap .i64 (x1 + 1)) ∧ f1 (l2 ++ [[.n x2, .n x3]]) (IntKind.wrap .i64 (x1 + 1)) < f1 l2 x1)) : Prop))) : Prop))) : Prop))))) else Q (.t [.l 2 l2, .u (.b true)]) [])) : Prop)))) : PRun Tryd.prog 41 [] [.u (.s s)] Q :=
 funS2 mixTd1 Tryd.func41 (by kernel_rfl) (H := ⟨[((41, 6, 0), ⟨[(5, .one (.ow 36 2)), (22, .I)], []⟩)], [], [], [], [], false, 64, KN.no, false, SP.no⟩) (n := 2) (by kernel_rfl) hh
theorem S54 {s : List (List U)} {Q : V → Mem → Prop} (hh : bif List.isEmpty s then ((Q (.l 2 []) [] : Prop) ∧ (apOk [] s ∧ (match s with | _ :: _ => (Q (.l 2 ([] ++ s)) []) | [] => (Q (.c 2 []) []) : Prop) : Prop)) else (apOk [] s ∧ (match s with | _ :: _ => (Q (.l 2 ([] ++ s)) []) | [] => (Q (.c 2 []) []) : Prop) : Prop)) : PRun Tryd.prog 54 [] [.l 2 s] Q :=
 funS2 mixTd1 Tryd.func54 (by kernel_rfl) (H := ⟨[], [], [], [], [], false, 64, KN.no, false, SP.no⟩) (n := 2) (by kernel_rfl) hh
theorem S27 {a : List (List U)} {b : List (List U)} {Q : V → Mem → Prop} (hh : bif (List.length a : Int) != (List.length b : Int) then Q (.u (.b false)) [] else ∃ (I1 : Int → Prop) (f1 : Int → Nat), I1 0 ∧ (∀ x1 : Int, I1 x1 → (bif decide (x1 < (List.length a : Int)) then (bif decide (x1 < (List.length b : Int)) then elL a x1 (fun r1 => dI .i64 (ug r1 0) (fun x2 => dI .i64 (ug r1 1) (fun x3 => elL b x1 (fun r2 => dI .i64 (ug r2 0) (fun x4 => dI .i64 (ug r2 1) (fun x5 => (bif !(x2 == x4 && (x3 == x5 && true)) then Q (.u (.b false)) [] else I1 (IntKind.wrap .i64 (x1 + 1)) ∧ f1 (IntKind.wrap .i64 (x1 + 1)) < f1 x1))))))) else Q (.u (.b true)) []) else Q (.u (.b true)) []))) : PRun Tryd.prog 27 [] [.l 2 a, .l 2 b] Q :=
 funS2 mixTd1 Tryd.func27 (by kernel_rfl) (H := ⟨[((27, 4, 0), ⟨[(5, .I)], []⟩)], [], [], [], [], false, 64, KN.no, false, SP.no⟩) (n := 2) (by kernel_rfl) hh
end Go.Proofs.YtaogfopaalancaaDoor
