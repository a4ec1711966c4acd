/- The symbolic engine, part i: regions. -/
import Derived.Test.YtalglagdgabafaaGreatHk2
import Derived.Laws.BytesString
import Derived.Lib.ConvBytes
set_option linter.unusedVariables false
namespace Go.Proofs.YtalglagdgabafaaGreat
open _root_.Array renaming getElem?_append_left → z5m, getElem?_eq_some_iff → z5k, toArray_toList → z3y
open _root_.Bool renaming and_eq_true → z17, false_eq_true → z3n, not_eq_true' → z2u, or_eq_false_iff → z49, or_eq_true → z34, true_and → z4l
open _root_.Int renaming le_refl → z2v, natCast_nonneg → z4a, ofNat_lt → z5e
open _root_.List renaming all_eq_true → z29, append_assoc → z2m, append_nil → z3a, drop_drop → z4x, drop_eq_getElem_cons → z4w, drop_eq_nil_of_le → z4n, drop_zero → z38, eq_nil_of_length_eq_zero → z3w, eq_of_mem_replicate → z5f, eraseIdx_append_of_lt_length → z4k, ext_getElem → z4m, ext_getElem? → z4o, flatten_append → z21, flatten_cons → z2n, getD_eq_getElem?_getD → z4g, getElem?_append_left → z2k, getElem?_append_right → z2t, getElem?_cons_succ → z4t, getElem?_drop → z4i, getElem?_eq_getElem → z2c, getElem?_eq_some_iff → z2a, getElem?_map → z2i, getElem?_set → z31, getElem?_set_ne → z23, getElem?_set_self → z3x, getElem?_take → z37, getElem?_take_of_lt → z6u, getElem?_toArray → z3o, getElem_mem → z4y, length_append → z2z, length_cons → z2o, length_map → z2d, length_nil → z36, length_set → z3d, length_take → z33, map_append → z28, map_cons → z2s, map_map → z3c, mem_append → z2f, mem_cons → z2e, mem_cons_of_mem → z2j, mem_cons_self → z2p, mem_filter → z3p, mem_map → z20, mem_of_getElem? → z2y, mem_of_mem_take → z5o, mem_or_eq_of_mem_set → z6v, mem_range → z35, mem_singleton → z3v, mem_singleton_self → z2x, nil_append → z3f, perm_append_comm_assoc → z3g, range → z2b, replicate → z2g, replicate_succ → z4j, set → z2q, size_toArray → z4h, take_append_drop → z4c, take_nil → z54, take_of_length_le → z5d
open _root_.Nat renaming add_assoc → z30, add_mul → z3i, add_zero → z4b, beq → z14, ble → z19, ble_eq_true_of_le → z32, eq_of_beq_eq_true → z18, le_of_ble_eq_true → z2w, le_refl → z2r, lt_of_lt_of_le → z5l, lt_or_ge → z3z, min_eq_left → z5c, mod_eq_of_lt → z57, mul_le_mul_right → z3e, mul_one → z5r, succ_mul → z24, zero_add → z2l, zero_le → z3j, zero_mul → z4v
open _root_.Option renaming getD_some → z3b, map_eq_some_iff → z3k, map_some → z3h
open _root_.Go.Result renaming andThen_ok → z2h
def elE {α : Type} (l : List α) (k : Int) : Option α :=
 match k with
 | .ofNat i => l[i]?
 | .negSucc _ => none
theorem zlr {α : Type} {l : List α} {k : Int} {r : α} {K : α → Prop} (h : elE l k = some r) (hK : K r) : elL l k K := by
 unfold elE at h
 unfold elL
 split at h
 · simp only [h]; exact hK
 · cases h
def dUE (z : Value × Nat) (o : Option U) : Option U :=
 match z.1, o with
 | .int k _, some (.i k' n) => cond (z14 (zap k) (zap k')) (some (.i k n)) none
 | .bool _, some (.b c) => some (.b c)
 | .string _, some (.s c) => some (.s c)
 | .slice .., some (.l s' c) => cond (z14 z.2 s') (some (.l z.2 c)) none
 | .pointer _, some (.p c) => some (.p c)
 | _, _ => none
theorem zai {α : Type} {c : Bool} {a : Option α} {r : α} (h : cond c a none = some r) : c = true ∧ a = some r := by
 cases c
 · cases h
 · exact ⟨rfl, h⟩
theorem zwb {z : Value × Nat} {o : Option U} {u : U} {K : U → Prop} (h : dUE z o = some u) (hK : K u) : dU z o K := by
 unfold dUE at h
 unfold dU
 split at h
 · rename_i k v k' n e
   obtain ⟨h1, h2⟩ := zai h
   cases h2
   rw [e]
   simp only [dI, zlg, h1, cond_true]; exact hK
 · rename_i e; cases h; rw [e]; exact hK
 · rename_i e; cases h; rw [e]; exact hK
 · rename_i e
   obtain ⟨h1, h2⟩ := zai h
   cases h2
   rw [e]
   simp only [dL, h1, cond_true]; exact hK
 · rename_i e; cases h; rw [e]; exact hK
 · cases h
def dUsE : List (Value × Nat) → List U → Nat → Option (List U)
 | [], _, _ => some []
 | z :: zs, r, o => match dUE z (ug r o), dUsE zs r (o + 1) with
   | some u, some us => some (u :: us)
   | _, _ => none
theorem zij : ∀ {zs : List (Value × Nat)} {r : List U} {o : Nat} {us : List U} {K : List U → Prop}, dUsE zs r o = some us → K us → dUs zs r o K
 | [], _, _, us, K, h, hK => by cases h; exact hK
 | z :: zs, r, o, us, K, h, hK => by
   simp only [dUsE] at h
   split at h
   · rename_i u us' h1 h2
     cases h
     exact zwb (K := fun u => dUs zs r (o + 1) fun us => K (u :: us)) h1 (zij h2 hK)
   · cases h
def XE {α : Type} (P : Program) : Sem α → Option α
 | .pure a => some a
 | .program k => XE P (k P)
 | .mark _ k => XE P k
 | _ => none
theorem XE_ok {α : Type} {P : Program} {s : Sem α} : ∀ {a : α} {K : α → Prop}, XE P s = some a → K a → XWp P s K := by
 induction s with
 | pure a => intro b K h hK; cases h; exact hK
 | program k ih => intro b K h hK; exact ih P h hK
 | mark m k ih => intro b K h hK; exact ih h hK
 | _ => intro b K h hK; cases h
def intE (op : BinOp) (k : IntKind) (x y : Int) : Option Value :=
 match op with
 | .add => some (.int k (k.wrap (x + y)))
 | .sub => some (.int k (k.wrap (x - y)))
 | .mul => some (.int k (k.wrap (x * y)))
 | .quo => cond (y == 0) none (some (.int k (k.wrap (x.tdiv y))))
 | .rem => cond (y == 0) none (some (.int k (x.tmod y)))
 | .eql => some (.bool (x == y))
 | .neq => some (.bool (x != y))
 | .lss => some (.bool (x < y))
 | .leq => some (.bool (x ≤ y))
 | .gtr => some (.bool (x > y))
 | .geq => some (.bool (x ≥ y))
 | .and => some (.int k (k.wrap (BitVec.ofInt k.bits x &&& BitVec.ofInt k.bits y).toNat))
 | .or => some (.int k (k.wrap (BitVec.ofInt k.bits x ||| BitVec.ofInt k.bits y).toNat))
 | .xor => some (.int k (k.wrap (BitVec.ofInt k.bits x ^^^ BitVec.ofInt k.bits y).toNat))
 | .andNot => some (.int k (k.wrap (BitVec.ofInt k.bits x &&& ~~~BitVec.ofInt k.bits y).toNat))
 | .shl => cond (decide (0 ≤ y)) (some (.int k (k.wrap (x * 2 ^ (min y.toNat k.bits))))) none
 | .shr => cond (decide (0 ≤ y)) (some (.int k (x.fdiv (2 ^ (min y.toNat k.bits))))) none
theorem zms {α : Type} {c : Bool} {a : Option α} {r : α} (h : cond c none a = some r) : c = false ∧ a = some r := by
 cases c
 · exact ⟨rfl, h⟩
 · cases h
theorem intE_ok {op : BinOp} {k : IntKind} {x y : Int} {v : Value} {K : Value → Prop} (h : intE op k x y = some v) (hK : K v) : intK op k x y K := by
 cases op <;> simp only [intE] at h <;> simp only [intK]
 case quo => obtain ⟨h1, h2⟩ := zms h; cases h2; exact ⟨by simpa using h1, hK⟩
 case rem => obtain ⟨h1, h2⟩ := zms h; cases h2; exact ⟨by simpa using h1, hK⟩
 case shl => obtain ⟨h1, h2⟩ := zai h; cases h2; exact ⟨by simpa using h1, hK⟩
 case shr => obtain ⟨h1, h2⟩ := zai h; cases h2; exact ⟨by simpa using h1, hK⟩
 all_goals (cases h; exact hK)
def strE (op : BinOp) (x y : ByteArray) : Option Value :=
 match op with
 | .add => cond (decide (x.size + y.size < 9223372036854775808)) (some (.string (x ++ y))) none
 | .eql => some (.bool (x.toList == y.toList))
 | .neq => some (.bool !(x.toList == y.toList))
 | .lss => some (.bool (Op.bytesLess x.toList y.toList))
 | .leq => some (.bool (Op.bytesLess x.toList y.toList || x.toList == y.toList))
 | .gtr => some (.bool !(Op.bytesLess x.toList y.toList || x.toList == y.toList))
 | .geq => some (.bool !(Op.bytesLess x.toList y.toList))
 | _ => none
theorem strE_ok {op : BinOp} {x y : ByteArray} {v : Value} {K : Value → Prop} (h : strE op x y = some v) (hK : K v) : strK op x y K := by
 cases op <;> simp only [strE] at h <;> simp only [strK]
 case add => obtain ⟨h1, h2⟩ := zai h; cases h2; exact ⟨by simpa using h1, hK⟩
 all_goals first | (cases h; exact hK) | cases h
def zya (op : BinOp) (z : Bool) : Option Value :=
 match op with
 | .eql => some (.bool z)
 | .neq => some (.bool !z)
 | _ => none
theorem zcu {op : BinOp} {z : Bool} {v : Value} {K : Value → Prop} (h : zya op z = some v) (hK : K v) : zeq op z K := by
 cases op <;> simp only [zya] at h <;> first | (cases h; exact hK) | cases h
def binE (P : Program) (op : BinOp) (T : TypeId) (x y : Value) : Option Value :=
 match x, y with
 | .int k a, .int k' b => match op with
   | .shl => cond (decide (0 ≤ b)) (some (.int k (k.wrap (a * 2 ^ (min b.toNat k.bits))))) none
   | .shr => cond (decide (0 ≤ b)) (some (.int k (a.fdiv (2 ^ (min b.toNat k.bits))))) none
   | op => cond (z14 (zap k) (zap k')) (intE op k a b) none
 | .string a, .string b => strE op a b
 | .bool a, .bool b => match P.underlying T with
   | some .bool => zya op (a == b)
   | _ => none
 | .agg xs, .agg ys => match P.underlying T with
   | some (.struct fs) => cond (flat P fs.toList 0 && !P.stoodInHeld T && !P.eqGuardType P.depth T)
    (cond (fits P fs.toList xs.toList && z14 xs.toList.length fs.toList.length && z14 ys.toList.length fs.toList.length)
     (match eqL xs.toList ys.toList with | some c => zya op c | none => none) none) none
   | _ => none
 | _, _ => none
theorem binE_ok {P : Program} {op : BinOp} {T : TypeId} {x y v : Value} {K : Value → Prop} (h : binE P op T x y = some v) (hK : K v) : zub P op T x y K := by
 unfold binE at h
 unfold zub
 split at h
 · rename_i k p k' q
   split at h
   · obtain ⟨h1, h2⟩ := zai h; cases h2; exact ⟨by simpa using h1, hK⟩
   · obtain ⟨h1, h2⟩ := zai h; cases h2; exact ⟨by simpa using h1, hK⟩
   · rename_i n1 n2
     obtain ⟨h1, h2⟩ := zai h
     have : zlg k k' (intK op k p q K) := by
      unfold zlg
      rw [h1]
      exact intE_ok h2 hK
     cases op <;> first | exact this | exact absurd rfl n1 | exact absurd rfl n2
 · exact strE_ok h hK
 · split at h
   · rename_i hu; simp only [hu]; exact zcu h hK
   · cases h
 · split at h
   · rename_i fs hu
     obtain ⟨h1, h2⟩ := zai h
     obtain ⟨h3, h4⟩ := zai h2
     split at h4
     · rename_i c hc
       simp only [hu, h1, h3, cond_true, hc]; exact zcu h4 hK
     · cases h4
   · cases h
 · cases h
def zi1 (z : Value × Nat) (a : V) (m : Mem) : Option V :=
 match a with
 | .r b o => match mg m b with
   | .c cells => match zbu o cells with
     | some (v :: _) => cond (zsp z v) (some v) none
     | _ => none
   | _ => none
 | .g b o w k => match mg m b with
   | .c cells => match zbu o cells with
     | some (.n k' w' l :: _) => cond (z14 w w' && z14 (zap k') 3 && isI64 z) (match elE l k with | some n => some (.u (.i .i64 n)) | none => none) none
     | _ => none
   | _ => none
 | .e b sz k o => match mg m b with
   | .w _ sz' rows => cond (z14 sz sz') (match elE rows k with
     | some r => match dUE z (ug r o) with
       | some u => some (.u u)
       | none => none
     | none => none) none
   | .cw _ sz' _ cells => cond (z14 sz sz') (match zbu (k.toNat * sz + o) cells with
     | some (v :: _) => cond (zsp z v) (some v) none
     | _ => none) none
   | _ => none
 | .q c o => match dUE z (ug c o) with
   | some u => some (.u u)
   | none => none
 | .u (.p (some c)) => match dUE z (ug c 0) with
   | some u => some (.u u)
   | none => none
 | _ => none
theorem z1a {z : Value × Nat} {a v : V} {m : Mem} {K : V → Prop} (h : zi1 z a m = some v) (hK : K v) : zlc z a m K := by
 unfold zi1 at h
 unfold zlc
 split at h
 · split at h
   · rename_i hm
     split at h
     · rename_i hd
       obtain ⟨h1, h2⟩ := zai h
       cases h2
       simp only [hm, hd, h1, cond_true]; exact hK
     · cases h
   · cases h
 · split at h
   · rename_i hm
     split at h
     · rename_i hd
       obtain ⟨h1, h2⟩ := zai h
       split at h2
       · rename_i n hn
         cases h2
         simp only [hm, hd, h1, cond_true]; exact zlr (K := fun n => K (.u (.i .i64 n))) hn hK
       · cases h2
     · cases h
   · cases h
 · split at h
   · rename_i hm
     obtain ⟨h1, h2⟩ := zai h
     split at h2
     · rename_i r hr
       split at h2
       · rename_i u hu
         cases h2
         simp only [hm, h1, cond_true]
         exact zlr (K := fun r => dU z (ug r _) fun u => K (.u u)) hr (zwb (K := fun u => K (.u u)) hu hK)
       · cases h2
     · cases h2
   · rename_i hm
     obtain ⟨h1, h2⟩ := zai h
     split at h2
     · rename_i hd
       obtain ⟨h3, h4⟩ := zai h2
       cases h4
       simp only [hm, h1, cond_true, hd, h3]; exact hK
     · cases h2
   · cases h
 · split at h
   · rename_i u hu
     cases h
     exact zwb (K := fun u => K (.u u)) hu hK
   · cases h
 · split at h
   · rename_i u hu
     cases h
     exact zwb (K := fun u => K (.u u)) hu hK
   · cases h
 · cases h
def zi0 (zs : List (Value × Nat)) (a : V) (m : Mem) : Option V :=
 match a with
 | .r b o => match mg m b with
   | .c cells => match zbu o cells with
     | some l => match zf3 zs.length l with
       | some vs => cond (shL zs vs) (some (.a vs)) none
       | none => none
     | none => none
   | _ => none
 | .e b sz k o => match mg m b with
   | .w _ sz' rows => cond (z14 sz sz') (match elE rows k with
     | some r => match dUsE zs r o with
       | some us => some (.a (us.map .u))
       | none => none
     | none => none) none
   | .cw _ sz' _ cells => cond (z14 sz sz') (match zbu (k.toNat * sz + o) cells with
     | some l => match zf3 zs.length l with
       | some vs => cond (shL zs vs) (some (.a vs)) none
       | none => none
     | none => none) none
   | _ => none
 | .q c o => match dUsE zs c o with
   | some us => some (.a (us.map .u))
   | none => none
 | .u (.p (some c)) => match dUsE zs c 0 with
   | some us => some (.a (us.map .u))
   | none => none
 | _ => none
theorem z07 {zs : List (Value × Nat)} {a v : V} {m : Mem} {K : V → Prop} (h : zi0 zs a m = some v) (hK : K v) : zmo zs a m K := by
 unfold zi0 at h
 unfold zmo
 split at h
 · split at h
   · rename_i hm
     split at h
     · rename_i hd
       split at h
       · rename_i hp
         obtain ⟨h1, h2⟩ := zai h
         cases h2
         simp only [hm, hd, hp, h1, cond_true]; exact hK
       · cases h
     · cases h
   · cases h
 · split at h
   · rename_i hm
     obtain ⟨h1, h2⟩ := zai h
     split at h2
     · rename_i r hr
       split at h2
       · rename_i us hu
         cases h2
         simp only [hm, h1, cond_true]
         exact zlr (K := fun r => dUs zs r _ fun us => K (.a (us.map .u))) hr (zij (K := fun us => K (.a (us.map .u))) hu hK)
       · cases h2
     · cases h2
   · rename_i hm
     obtain ⟨h1, h2⟩ := zai h
     split at h2
     · rename_i hd
       split at h2
       · rename_i hp
         obtain ⟨h3, h4⟩ := zai h2
         cases h4
         simp only [hm, h1, cond_true, hd, hp, h3]; exact hK
       · cases h2
     · cases h2
   · cases h
 · split at h
   · rename_i us hu
     cases h
     exact zij (K := fun us => K (.a (us.map .u))) hu hK
   · cases h
 · split at h
   · rename_i us hu
     cases h
     exact zij (K := fun us => K (.a (us.map .u))) hu hK
   · cases h
 · cases h
def zm4 (P : Program) (T : TypeId) (a : V) (m : Mem) : Option V :=
 match zoy P T with
 | some (.one z) => zi1 z a m
 | some (.many zs) => zi0 zs a m
 | none => none
theorem zqk {P : Program} {T : TypeId} {a v : V} {m : Mem} {K : V → Prop} (h : zm4 P T a m = some v) (hK : K v) : zwz P T a m K := by
 unfold zm4 at h
 unfold zwz
 split at h
 · rename_i hl; simp only [hl]; exact z1a h hK
 · rename_i hl; simp only [hl]; exact z07 h hK
 · cases h
def zj7 (x : V) (n : Nat) : Option V :=
 match x with
 | .r b o => some (.r b (zye o n))
 | .e b sz k o => some (.e b sz k (zye o n))
 | .q c o => some (.q c (zye o n))
 | .u (.p (some c)) => some (.q c n)
 | _ => none
theorem zw4 {x v : V} {n : Nat} {K : V → Prop} (h : zj7 x n = some v) (hK : K v) : zva x n K := by
 unfold zj7 at h
 unfold zva
 split at h <;> first | (cases h; exact hK) | cases h
def binSE (P : Program) (op : BinOp) (T : TypeId) (x y : V) : Option V :=
 match conc x, conc y with
 | some a, some b => match binE P op T a b with
   | some v => some (zea v)
   | none => none
 | _, _ => match y with
   | .u (.p none) => match P.underlying T with
     | some (.pointer _) => (match x with
       | .u (.p p) => match zya op p.isNone with | some v => some (zea v) | none => none
       | x => cond (zi7 x) (match zya op false with | some v => some (zea v) | none => none) none)
     | _ => none
   | .nm => match P.underlying T with
     | some (.map ..) => (match x with
       | .m _ => match zya op false with | some v => some (zea v) | none => none
       | .nm => match zya op true with | some v => some (zea v) | none => none
       | _ => none)
     | _ => none
   | _ => none
theorem binSE_ok {P : Program} {op : BinOp} {T : TypeId} {x y v : V} {K : V → Prop} (h : binSE P op T x y = some v) (hK : K v) : binS P op T x y K := by
 unfold binSE at h
 unfold binS
 split at h
 · rename_i a b ha hb
   split at h
   · rename_i u hu
     cases h
     simp only [ha, hb]; exact binE_ok (K := fun v => K (zea v)) hu hK
   · cases h
 · rename_i hn
   split
   · rename_i a b ha hb; exact absurd hb (hn a b ha)
   · split at h
     · split at h
       · rename_i hu
         simp only [hu]
         split at h
         · split at h
           · rename_i u hv; cases h; exact zcu (K := fun v => K (zea v)) hv hK
           · cases h
         · rename_i hp
           obtain ⟨h1, h2⟩ := zai h
           split at h2
           · rename_i u hv
             cases h2
             unfold zi7 at h1
             split at h1 <;> first | exact zcu (K := fun v => K (zea v)) hv hK | cases h1
           · cases h2
       · cases h
     · split at h
       · rename_i hu
         simp only [hu]
         split at h
         · split at h
           · rename_i u hv; cases h; exact zcu (K := fun v => K (zea v)) hv hK
           · cases h
         · split at h
           · rename_i u hv; cases h; exact zcu (K := fun v => K (zea v)) hv hK
           · cases h
         · cases h
       · cases h
     · cases h
def pickE (c a b : V) : Option V :=
 match c with
 | .u (.b c) => match a, b with
   | .u (.b x), .u (.b y) => some (.u (.b (cond c x y)))
   | _, _ => cond c (some a) (some b)
 | _ => none
theorem pickE_ok {c a b v : V} {K : V → Prop} (h : pickE c a b = some v) (hK : K v) : pickS c a b K := by
 unfold pickE at h
 unfold pickS
 split at h
 · rename_i c'
   split at h
   · cases h; exact hK
   · rename_i hn
     have h2 : cond c' (K a) (K b) := by cases c' <;> (cases h; exact hK)
     dsimp only
     split
     · exact (hn _ _ rfl rfl).elim
     · exact h2
 · cases h
def lenE (m : Mem) : V → Option Int
 | .u (.s x) => some x.size
 | .u (.l _ r) => some r.length
 | .c _ r => some r.length
 | .nl _ => some 0
 | .w b => match mg m b with
   | .w _ _ r => some r.length
   | .cw _ _ n _ => some n
   | _ => none
 | .m b => match mg m b with
   | .p _ _ _ r => some r.length
   | _ => none
 | .nm => some 0
 | .v _ _ _ n _ => some n
 | .sl _ _ n => some n
 | _ => none
theorem lenE_ok {m : Mem} {x : V} {n : Int} {K : Int → Prop} (h : lenE m x = some n) (hK : K n) : lenS m x K := by
 unfold lenE at h
 unfold lenS
 split at h
 · cases h; exact hK
 · cases h; exact hK
 · cases h; exact hK
 · cases h; exact hK
 · split at h
   · rename_i hm; cases h; simp only [hm]; exact hK
   · rename_i hm; cases h; simp only [hm]; exact hK
   · cases h
 · split at h
   · rename_i hm; cases h; simp only [hm]; exact hK
   · cases h
 · cases h; exact hK
 · cases h; exact hK
 · cases h; exact hK
 · cases h
def lookE (P : Program) (T : TypeId) (x k : V) (ok : Bool) (m : Mem) : Option V :=
 match mapT P T, mkOf k with
 | some (kt, zs, E, zv), some k => cond (kt.has k) (match x with
   | .m b => match mg m b with
     | .p kt' sz ag rows => cond (zxl kt kt' && z14 sz zs.length && (ag == isAg P E)) (match ze5 rows k with
       | some r => match dUsE zs r 0 with
         | some us => some (zrj ok (z0j P E (us.map .u)) true)
         | none => none
       | none => some (zrj ok zv false)) none
     | _ => none
   | .nm => some (zrj ok zv false)
   | _ => none) none
 | _, _ => none
theorem lookE_ok {P : Program} {T : TypeId} {x k v : V} {ok : Bool} {m : Mem} {K : V → Prop} (h : lookE P T x k ok m = some v) (hK : K v) : z04 P T x k ok m K := by
 unfold lookE at h
 unfold z04
 split at h
 · rename_i kt zs E zv k' h1 h2
   obtain ⟨h3, h4⟩ := zai h
   simp only [h1, h2, h3, cond_true]
   split at h4
   · split at h4
     · rename_i hm
       obtain ⟨h5, h6⟩ := zai h4
       simp only [hm, h5, cond_true]
       split at h6
       · rename_i r hr
         split at h6
         · rename_i us hu
           cases h6
           rw [hr]
           exact zij (K := fun us => K (zrj ok (z0j P E (us.map .u)) true)) hu hK
         · cases h6
       · rename_i hr
         cases h6
         rw [hr]; exact hK
     · cases h4
   · cases h4; exact hK
   · cases h4
 · cases h
def absO (o : Option Value) : Option V :=
 match o with
 | some v => some (zea v)
 | none => none
theorem zfp {o : Option Value} {v : V} (h : absO o = some v) : ∃ a, o = some a ∧ v = zea a := by
 cases o with
 | none => cases h
 | some a => cases h; exact ⟨a, rfl, rfl⟩
def leE (c : Bool) (l r : Int) : Bool := c || decide (l ≤ r)
theorem znm {c : Bool} {l r : Int} {A : Prop} (h : leE c l r = true) (hA : A) : leK c l r A := by
 unfold leK
 cases c
 · exact ⟨by simpa [leE] using h, hA⟩
 · exact hA
def viewE (P : Program) (t : List V) (e : TypeId) (lo hi mx : Option Operand) (b sz l n : Nat) (c : Bool) : Option V :=
 cond (z14 sz (zaj P e) && !z14 sz 0) (match mx, zl5 t lo 0, zl5 t hi n with
  | none, some l', some r => cond (leE lo.isNone 0 l' && (decide (l' ≤ r) && (decide (r ≤ n) && (!c || decide (r = n))))) (some (.v b sz (l + l'.toNat) (r.toNat - l'.toNat) c)) none
  | some mx, some l', some r => match evS t mx with
    | .u (.i _ k) => cond hi.isSome (cond (leE lo.isNone 0 l' && (decide (l' ≤ r) && (decide (r ≤ n) && decide (k = r)))) (some (.v b sz (l + l'.toNat) (r.toNat - l'.toNat) true)) none) none
    | _ => none
  | _, _, _ => none) none
theorem zup {P : Program} {t : List V} {e : TypeId} {lo hi mx : Option Operand} {b sz l n : Nat} {c : Bool} {v : V} {K : V → Prop} (h : viewE P t e lo hi mx b sz l n c = some v) (hK : K v) : zwt P t e lo hi mx b sz l n c K := by
 unfold viewE at h
 unfold zwt
 obtain ⟨h1, h2⟩ := zai h
 simp only [h1, cond_true]
 split at h2
 · rename_i l' r hl hr
   obtain ⟨h3, h4⟩ := zai h2
   cases h4
   simp only [z17, decide_eq_true_eq, z34, z2u] at h3
   simp only [hl, hr]
   refine znm h3.1 ⟨h3.2.1, h3.2.2.1, ?_⟩
   unfold ltK
   cases c with
   | false => exact hK
   | true => exact ⟨h3.2.2.2.resolve_left (by simp), hK⟩
 · rename_i mx' l' r hl hr
   simp only [hl, hr]
   split at h2
   · rename_i k kk hk
     obtain ⟨h3, h4⟩ := zai h2
     obtain ⟨h5, h6⟩ := zai h4
     cases h6
     simp only [z17, decide_eq_true_eq] at h5
     simp only [hk, h3, cond_true]
     exact znm h5.1 ⟨h5.2.1, h5.2.2.1, h5.2.2.2, hK⟩
   · cases h2
 · cases h2
def nilsE (op : BinOp) (r : Bool × Bool) : Option (List V) :=
 match r, zya op true, zya op false with
 | (true, false), some a, _ => some [zea a]
 | (false, true), _, some b => some [zea b]
 | (true, true), some a, some b => some [zea a, zea b]
 | _, _, _ => none
theorem nilsE_ok {op : BinOp} {r : Bool × Bool} {vs : List V} {K : V → Prop} (h : nilsE op r = some vs) (hK : ∀ v ∈ vs, K v) : nilR op r fun v => K (zea v) := by
 unfold nilsE at h
 unfold nilR
 split at h
 · rename_i a h1; cases h; exact zcu (K := fun v => K (zea v)) h1 (hK _ (by simp))
 · rename_i b h1; cases h; exact zcu (K := fun v => K (zea v)) h1 (hK _ (by simp))
 · rename_i a b h1 h2; cases h; exact ⟨zcu (K := fun v => K (zea v)) h1 (hK _ (by simp)), zcu (K := fun v => K (zea v)) h2 (hK _ (by simp))⟩
 · cases h
def ze6 (P : Program) (t : List V) (m : Mem) (o : Oper) : Option V :=
 match o.op with
 | .move x | .assign x => some (evS t x)
 | .pick c a b => pickE (evS t c) (evS t a) (evS t b)
 | .nilCheck x => match evS t x with
   | .u (.p (some c)) => some (.q c 0)
   | .f g a c => some (.f g a c)
   | x => cond (zi7 x) (some x) none
 | .binOp op T x y _ => match zke P m T (evS t x) (evS t y) with
   | some _ => none
   | none => match arrE P T (evS t x) (evS t y) with
     | some c => absO (zya op c)
     | none => binSE P op T (evS t x) (evS t y)
 | .unOp op _ x => match zlv (evS t x) with
   | some a => absO (XE P (Op.unary op a))
   | none => none
 | .convert s d x => match zlv (evS t x) with
   | some a => absO (XE P (convert s d a))
   | none => strR P s d m (evS t x)
 | .makeFunc (.func g) a c => some (.f g (a.toList.map (evS t)) (c.toList.map (evS t)))
 | .fieldAddr T x f => match P.underlying T with
   | some (.struct fs) => match fs[f]? with
     | some fd => cond (z14 (zaj P fd.type) 0) none (zj7 (evS t x) fd.offset)
     | none => none
   | _ => none
 | .field T x f => match P.underlying T, evS t x with
   | some (.struct fs), .a l => match fs[f]? with
     | some fd => match zoy P fd.type, zbu fd.offset l with
       | some (.one z), some (v :: _) => cond (zsp z v) (some v) none
       | some (.many zs), some l => match zf3 zs.length l with
         | some vs => some (.a vs)
         | none => none
       | _, _ => none
     | none => none
   | _, _ => none
 | .indexAddr T x i => match evS t i with
   | .u (.i _ i) => match P.underlying T, asD (evS t x) with
     | some (.slice e), .u (.l s rows) => cond (z14 s (zaj P e) && !z14 s 0) (match elE rows i with | some r => some (.q r 0) | none => none) none
     | some (.slice e), .c s rows => cond (z14 s (zaj P e) && !z14 s 0) (match elE rows i with | some r => some (.q r 0) | none => none) none
     | some (.slice e), .w b => match mg m b with
       | .w _ sz rows => cond (z14 sz (zaj P e) && !z14 sz 0) (cond (decide (0 ≤ i) && decide (i < rows.length)) (some (.e b sz i 0)) none) none
       | .cw _ sz n _ => cond (z14 sz (zaj P e) && !z14 sz 0) (cond (decide (0 ≤ i) && decide (i < n)) (some (.e b sz i 0)) none) none
       | _ => none
     | some (.slice e), .v b sz l n _ => cond (z14 sz (zaj P e) && !z14 sz 0) (cond (decide (0 ≤ i) && decide (i < n)) (some (.e b sz (l + i) 0)) none) none
     | some (.slice e), .sl b o n => cond (z14 (zaj P e) 0) none (match i with
       | .ofNat j => cond (z19 (j + 1) n) (some (.r b (o + j * zaj P e))) none
       | .negSucc _ => none)
     | some (.array n e), .e b sz k o => cond (z14 (zaj P e) 0) none (match i with
       | .ofNat j => cond (z19 (j + 1) n) (some (.e b sz k (o + j * zaj P e))) none
       | .negSucc _ => none)
     | some (.array n e), .r b o => match mg m b with
       | .c cells => match zbu o cells with
         | some (.n _ w _ :: _) => cond (z14 w n && z14 (zaj P e) 1) (cond (decide (0 ≤ i) && decide (i < n)) (some (.g b o w i)) none) none
         | some _ => match i with
           | .ofNat j => cond (z19 (j + 1) n) (cond (z14 (zaj P e) 0) none (some (.r b (o + j * zaj P e)))) none
           | .negSucc _ => none
         | none => none
       | _ => none
     | some (.array n e), .q c o => cond (z14 (zaj P e) 0) none (match i with
       | .ofNat j => cond (z19 (j + 1) n) (some (.q c (o + j * zaj P e))) none
       | .negSucc _ => none)
     | _, _ => none
   | _ => none
 | .index T x i => match evS t i with
   | .u (.i _ i) => match P.underlying T, evS t x with
     | some .string, .u (.s s) => cond (decide (0 ≤ i) && decide (i < s.size)) (some (.u (.i .u8 (s.data.getD i.toNat 0).toNat))) none
     | some (.array n e), .a l => match za9 P e, zpe l with
       | some zs, some us => cond (z14 us.length (n * zs.length)) (match elE (zt7 n zs.length us) i with
         | some r => match dUsE zs r 0 with
           | some vs => some (z0j P e (vs.map .u))
           | none => none
         | none => none) none
       | _, _ => none
     | _, _ => none
   | _ => none
 | .extract x i => match evS t x with
   | .t l => cond (z19 (i + 1) l.length) (some (zc7 l i)) none
   | _ => none
 | .build T ps => match P.info? T, P.underlying T with
   | some inf, some (.struct fs) => match inf.zero with
     | some (.agg cs) => cond (zio P fs.toList) (match zrw (zia P fs.toList) (zid P T (cs.toList.map zq3)) (ps.toList.map fun p => (p.1, evS t p.2)) with
       | some l => some (.a (zid P T l))
       | none => none) none
     | _ => none
   | some inf, some (.array _ e) => match inf.zero with
     | some (.agg cs) => cond (z14 (zaj P e) 0) none (match zrw (fun i => some (i * zaj P e, zaj P e)) (fixN (zhh P 9 T) (cs.toList.map zq3)) (ps.toList.map fun p => (p.1, evS t p.2)) with
       | some l => some (.a (zid P T l))
       | none => none)
     | _ => none
   | _, _ => none
 | .slice T x lo hi mx => match P.underlying T, asD (evS t x) with
   | some .string, .u (.s s) => match mx, zl5 t lo 0, zl5 t hi s.size with
     | none, some l, some r => cond (leE lo.isNone 0 l && (decide (l ≤ r) && decide (r ≤ s.size))) (some (.u (.s (s.extract l.toNat r.toNat)))) none
     | _, _, _ => none
   | some (.slice e), .u (.l s rows) => cond (z14 s (zaj P e) && !z14 s 0) (match mx, zl5 t lo 0, zl5 t hi rows.length with
     | none, some l, some r => cond (leE lo.isNone 0 l && (decide (l ≤ r) && decide (r ≤ rows.length))) (some (.u (.l s ((rows.take r.toNat).drop l.toNat)))) none
     | some mx, some l, some r => match evS t mx with
       | .u (.i _ k) => cond hi.isSome (cond (leE lo.isNone 0 l && (decide (l ≤ r) && (decide (r ≤ rows.length) && decide (k = r)))) (some (.c s ((rows.take r.toNat).drop l.toNat))) none) none
       | _ => none
     | _, _, _ => none) none
   | some (.slice e), .c s rows => cond (z14 s (zaj P e) && !z14 s 0) (match mx, zl5 t lo 0, zl5 t hi rows.length with
     | none, some l, some r => cond (leE lo.isNone 0 l && (decide (l ≤ r) && (decide (r ≤ rows.length) && decide (r = rows.length)))) (some (.c s ((rows.take r.toNat).drop l.toNat))) none
     | _, _, _ => none) none
   | some (.slice e), .w b => match mg m b with
     | .w _ sz rows => viewE P t e lo hi mx b sz 0 rows.length false
     | _ => none
   | some (.slice e), .v b sz l n c => viewE P t e lo hi mx b sz l n c
   | _, _ => none
 | .load T a => zm4 P T (evS t a) m
 | .lookup T x k ok => lookE P T (evS t x) (evS t k) ok m
 | .call c => match c.callee with
   | .builtin .len => match c.args.toList, c.argTypes.toList with
     | [x], [T] => cond (okLen (P.underlying T) (evS t x)) (match lenE m (evS t x) with | some n => some (.u (.i .i64 n)) | none => none) none
     | _, _ => none
   | .builtin .min => match zuf t c.args.toList with
     | some vs => absO (XE P (Builtin.min_ c.argTypes o.type vs.toArray))
     | none => none
   | .builtin .max => match zuf t c.args.toList with
     | some vs => absO (XE P (Builtin.max_ c.argTypes o.type vs.toArray))
     | none => none
   | _ => none
 | _ => none
theorem nzE {n : Nat} {α : Type} {a : Option α} {r : α} {A : Prop} (h : cond (z14 n 0) none a = some r) (hA : a = some r → A) : nz n A := by
 obtain ⟨h1, h2⟩ := zms h
 unfold nz
 rw [h1]
 exact hA h2
theorem zqs {P : Program} {t : List V} {m : Mem} {o : Oper} {v : V} {K : V → Prop} (h : ze6 P t m o = some v) (hK : K v) : zg2 P t m o K := by
 obtain ⟨dst, op, ty, pos, after, guard⟩ := o
 unfold ze6 at h
 unfold zg2
 cases op <;> dsimp only at h ⊢
 case move x => cases h; exact hK
 case assign x => cases h; exact hK
 case pick c a b => exact pickE_ok h hK
 case nilCheck x =>
  split at h
  · rename_i c he; cases h; rw [he]; exact hK
  · rename_i g a c he; cases h; rw [he]; exact hK
  · rename_i n1 n2
    obtain ⟨h1, h2⟩ := zai h
    cases h2
    split
    · rename_i p he
      rw [he] at h1; cases h1
    · rename_i he; rw [he] at h1; cases h1
    · rw [h1]; exact hK
 case binOp op' S x y yt =>
  split at h
  · cases h
  rename_i hnl
  rw [hnl]
  dsimp only
  split at h
  · rename_i c hc
    obtain ⟨a, h1, rfl⟩ := zfp h
    rw [hc]; exact zcu (K := fun v => K (zea v)) h1 hK
  · rename_i hc
    rw [hc]; exact binSE_ok h hK
 case unOp op' S x =>
  split at h
  · rename_i a ha
    obtain ⟨b, h1, rfl⟩ := zfp h
    rw [ha]; exact XE_ok (K := fun v => K (zea v)) h1 hK
  · cases h
 case convert s d x =>
  split at h
  · rename_i a ha
    obtain ⟨b, h1, rfl⟩ := zfp h
    rw [ha]; exact XE_ok (K := fun v => K (zea v)) h1 hK
  · rename_i ha
    rw [ha]
    dsimp only
    rw [h]; exact hK
 case makeFunc f a c =>
  cases f <;> first | (cases h; exact hK) | cases h
 case fieldAddr S x f =>
  split at h
  · rename_i fs hu
    split at h
    · rename_i fd hf
      simp only [hu, hf]
      exact nzE h fun h2 => zw4 h2 hK
    · cases h
  · cases h
 case field S x f =>
  split at h
  · rename_i fs l hu hx
    split at h
    · rename_i fd hf
      split at h
      · rename_i z v' l' hl hd
        obtain ⟨h1, h2⟩ := zai h
        cases h2
        simp only [hu, hx, hf, hl, hd, h1, cond_true]; exact hK
      · rename_i zs l' hl hd
        split at h
        · rename_i vs hp
          cases h
          simp only [hu, hx, hf, hl, hd, hp]; exact hK
        · cases h
      · cases h
    · cases h
  · cases h
 case load S a => exact zqk h hK
 case lookup S x k ok => exact lookE_ok h hK
 case extract x i =>
  split at h
  · rename_i l hl
    obtain ⟨h1, h2⟩ := zai h
    cases h2
    simp only [hl, h1, cond_true]; exact hK
  · cases h
 case indexAddr S x i =>
  split at h
  · rename_i k j hi
    simp only [hi]
    split at h
    · rename_i e s rows hu hx
      obtain ⟨h1, h2⟩ := zai h
      split at h2
      · rename_i r hr
        cases h2
        simp only [hu, hx, h1, cond_true]
        exact zlr (K := fun r => K (.q r 0)) hr hK
      · cases h2
    · rename_i e s rows hu hx
      obtain ⟨h1, h2⟩ := zai h
      split at h2
      · rename_i r hr
        cases h2
        simp only [hu, hx, h1, cond_true]
        exact zlr (K := fun r => K (.q r 0)) hr hK
      · cases h2
    · rename_i e b hu hx
      split at h
      · rename_i E sz rows hm
        obtain ⟨h1, h2⟩ := zai h
        obtain ⟨h3, h4⟩ := zai h2
        cases h4
        simp only [z17, decide_eq_true_eq] at h3
        simp only [hu, hx, hm, h1, cond_true]
        exact ⟨h3.1, h3.2, hK⟩
      · rename_i E sz n cells hm
        obtain ⟨h1, h2⟩ := zai h
        obtain ⟨h3, h4⟩ := zai h2
        cases h4
        simp only [z17, decide_eq_true_eq] at h3
        simp only [hu, hx, hm, h1, cond_true]
        exact ⟨h3.1, h3.2, hK⟩
      · cases h
    · rename_i e b sz l n c hu hx
      obtain ⟨h1, h2⟩ := zai h
      obtain ⟨h3, h4⟩ := zai h2
      cases h4
      simp only [z17, decide_eq_true_eq] at h3
      simp only [hu, hx, h1, cond_true]
      exact ⟨h3.1, h3.2, hK⟩
    · rename_i e b o n hu hx
      simp only [hu, hx]
      refine nzE h fun h2 => ?_
      unfold idxK
      split at h2
      · obtain ⟨h3, h4⟩ := zai h2
        cases h4
        simp only [h3, cond_true]; exact hK
      · cases h2
    · rename_i n e b sz k' o hu hx
      simp only [hu, hx]
      refine nzE h fun h2 => ?_
      unfold idxK
      split at h2
      · obtain ⟨h3, h4⟩ := zai h2
        cases h4
        simp only [h3, cond_true]; exact hK
      · cases h2
    · rename_i n e b o hu hx
      simp only [hu, hx]
      split at h
      · rename_i cells hm
        simp only [hm]
        split at h
        · rename_i k' w l r hd
          obtain ⟨h1, h2⟩ := zai h
          obtain ⟨h3, h4⟩ := zai h2
          cases h4
          simp only [z17, decide_eq_true_eq] at h3
          simp only [hd, h1, cond_true]
          exact ⟨h3.1, h3.2, hK⟩
        · rename_i l hn hd
          split at h
          · rename_i jj
            obtain ⟨h1, h2⟩ := zai h
            simp only [hd, h1, cond_true]
            exact nzE h2 fun h3 => by cases h3; exact hK
          · cases h
        · cases h
      · cases h
    · rename_i n e c o hu hx
      simp only [hu, hx]
      refine nzE h fun h2 => ?_
      unfold idxK
      split at h2
      · obtain ⟨h3, h4⟩ := zai h2
        cases h4
        simp only [h3, cond_true]; exact hK
      · cases h2
    · cases h
  · cases h
 case index S x i =>
  split at h
  · rename_i k j hi
    simp only [hi]
    split at h
    · rename_i s hu hx
      obtain ⟨h3, h4⟩ := zai h
      cases h4
      simp only [z17, decide_eq_true_eq] at h3
      simp only [hu, hx]
      exact ⟨h3.1, h3.2, hK⟩
    · rename_i n e l hu hx
      simp only [hu, hx]
      split at h
      · rename_i zs us hz hc
        obtain ⟨h1, h2⟩ := zai h
        simp only [hz, hc, h1, cond_true]
        split at h2
        · rename_i r hr
          split at h2
          · rename_i vs hv
            cases h2
            exact zlr (K := fun r => dUs zs r 0 fun vs => K (z0j P e (vs.map .u))) hr (zij (K := fun vs => K (z0j P e (vs.map .u))) hv hK)
          · cases h2
        · cases h2
      · cases h
    · cases h
  · cases h
 case build S ps =>
  split at h
  · rename_i inf fs hi hu
    simp only [hi, hu]
    split at h
    · rename_i cs hz
      obtain ⟨h1, h2⟩ := zai h
      simp only [hz, h1, cond_true]
      split at h2
      · rename_i l hl
        cases h2
        simp only [hl]; exact hK
      · cases h2
    · cases h
  · rename_i inf n e hi hu
    simp only [hi, hu]
    split at h
    · rename_i cs hz
      simp only [hz]
      refine nzE h fun h2 => ?_
      split at h2
      · rename_i l hl
        cases h2
        simp only [hl]; exact hK
      · cases h2
    · cases h
  · cases h
 case slice S x lo hi mx =>
  split at h
  · rename_i s hu hx
    simp only [hu, hx]
    split at h
    · rename_i l r hl hr
      obtain ⟨h3, h4⟩ := zai h
      cases h4
      simp only [z17, decide_eq_true_eq] at h3
      simp only [hl, hr]
      exact znm h3.1 ⟨h3.2.1, h3.2.2, hK⟩
    · cases h
  · rename_i e s rows hu hx
    obtain ⟨h1, h2⟩ := zai h
    simp only [hu, hx, h1, cond_true]
    split at h2
    · rename_i l r hl hr
      obtain ⟨h3, h4⟩ := zai h2
      cases h4
      simp only [z17, decide_eq_true_eq] at h3
      simp only [hl, hr]
      exact znm h3.1 ⟨h3.2.1, h3.2.2, hK⟩
    · rename_i mx l r hl hr
      simp only [hl, hr]
      split at h2
      · rename_i k kk hk
        obtain ⟨h3, h4⟩ := zai h2
        obtain ⟨h5, h6⟩ := zai h4
        cases h6
        simp only [z17, decide_eq_true_eq] at h5
        simp only [hk, h3, cond_true]
        exact znm h5.1 ⟨h5.2.1, h5.2.2.1, h5.2.2.2, hK⟩
      · cases h2
    · cases h2
  · rename_i e s rows hu hx
    obtain ⟨h1, h2⟩ := zai h
    simp only [hu, hx, h1, cond_true]
    split at h2
    · rename_i l r hl hr
      obtain ⟨h3, h4⟩ := zai h2
      cases h4
      simp only [z17, decide_eq_true_eq] at h3
      simp only [hl, hr]
      exact znm h3.1 ⟨h3.2.1, h3.2.2.1, h3.2.2.2, hK⟩
    · cases h2
  · rename_i e b hu hx
    simp only [hu, hx]
    split at h
    · rename_i hm; simp only [hm]; exact zup h hK
    · cases h
  · rename_i e b sz l n c hu hx
    simp only [hu, hx]
    exact zup h hK
  · cases h
 case call c =>
  obtain ⟨callee, args, argTypes⟩ := c
  dsimp only at h ⊢
  split at h
  · split at h
    · rename_i x S hax hat
      obtain ⟨h1, h2⟩ := zai h
      simp only [hax, hat, h1, cond_true]
      split at h2
      · rename_i n hn
        cases h2
        exact lenE_ok (K := fun n => K (.u (.i .i64 n))) hn hK
      · cases h2
    · cases h
  · split at h
    · rename_i vs ha
      obtain ⟨b, h1, rfl⟩ := zfp h
      simp only [ha]; exact XE_ok (K := fun v => K (zea v)) h1 hK
    · cases h
  · split at h
    · rename_i vs ha
      obtain ⟨b, h1, rfl⟩ := zfp h
      simp only [ha]; exact XE_ok (K := fun v => K (zea v)) h1 hK
    · cases h
  · cases h
 all_goals cases h
def zh6 (P : Program) (t : List V) (m : Mem) (o : Oper) : Option (List V) :=
 match o.op with
 | .binOp op T x y _ => match zke P m T (evS t x) (evS t y) with
   | some r => nilsE op r
   | none => match ze6 P t m o with | some v => some [v] | none => none
 | _ => match ze6 P t m o with | some v => some [v] | none => none
theorem zna {P : Program} {t : List V} {m : Mem} {o : Oper} {vs : List V} {K : V → Prop} (h : zh6 P t m o = some vs) (hK : ∀ v ∈ vs, K v) : zg2 P t m o K := by
 have one : ∀ {a : Option V}, (match a with | some v => some [v] | none => none) = some vs → a = ze6 P t m o → zg2 P t m o K := fun {a} h1 h2 => by
  cases a with
  | none => cases h1
  | some v => cases h1; exact zqs h2.symm (hK v (by simp))
 obtain ⟨dst, op, ty, pos, after, guard⟩ := o
 unfold zh6 at h
 split at h
 · rename_i op' S x y yt he
   dsimp only at he
   subst he
   split at h
   · rename_i r hr
     unfold zg2
     dsimp only
     rw [hr]
     exact nilsE_ok h hK
   · exact one h rfl
 · exact one h rfl
def zj2 (P : Program) (ro : List Nat) (T : TypeId) (a x : V) (m : Mem) : Option Mem :=
 match za9 P T, zdc P T x with
 | some zs, some xs => cond (shL zs xs && zmu P T (zcn P T x)) (match a with
   | .r b o => cond (inL ro b) none (match mg m b with
     | .c cells => match znc xs o cells with
       | some l => some (ms m b (.c l))
       | none => none
     | _ => none)
   | .g b o w k => cond (inL ro b) none (match mg m b, xs with
     | .c cells, [.u (.i .i64 y)] => match zbu o cells with
       | some (.n k' w' l :: _) => cond (z14 w w' && z14 (zap k') 3) (match znc [.n .i64 w (l.set k.toNat y)] o cells with
         | some l => some (ms m b (.c l))
         | none => none) none
       | _ => none
     | _, _ => none)
   | .e b sz k o => cond (inL ro b) none (match mg m b with
     | .cw E sz' n cells => cond (z14 sz sz') (match znc xs (k.toNat * sz + o) cells with
       | some l => some (ms m b (.cw E sz n l))
       | none => none) none
     | .w E sz' rows => cond (zmp m xs) (cond (z14 sz sz') (match znc xs (k.toNat * sz + o) (rows.flatten.map V.u) with
      | some l => some (ms m b (.cw E sz rows.length l))
      | none => none) none) (match toUs ro m xs with
      | some (us, m1) => match mg m1 b with
        | .w E sz' rows => cond (z14 sz sz') (cond (z14 o 0 && z14 us.length sz) (some (ms m1 b (.w E sz (rows.set k.toNat us))))
         (cond (z19 (o + us.length) sz) (match elE rows k with
          | some r => some (ms m1 b (.w E sz (rows.set k.toNat (usp r o us))))
          | none => none) none)) none
        | _ => none
      | none => none)
     | _ => none)
   | _ => none) none
 | _, _ => none
theorem zwy {P : Program} {ro : List Nat} {T : TypeId} {a x : V} {m m' : Mem} {K : Mem → Prop} (h : zj2 P ro T a x m = some m') (hK : K m') : zqj P true ro T a x m K := by
 unfold zj2 at h
 unfold zqj
 simp only [z4l]
 split at h
 · rename_i zs xs hz hx
   obtain ⟨h1, h2⟩ := zai h
   simp only [hz, hx, h1, cond_true]
   clear h
   split at h2
   · obtain ⟨h3, h4⟩ := zms h2
     simp only [h3, cond_false]
     split at h4
     · rename_i hm
       split at h4
       · rename_i l hl; cases h4; simp only [hm, hl]; exact hK
       · cases h4
     · cases h4
   · obtain ⟨h3, h4⟩ := zms h2
     simp only [h3, cond_false]
     split at h4
     · rename_i hm
       split at h4
       · rename_i hd
         obtain ⟨h5, h6⟩ := zai h4
         split at h6
         · rename_i l hl; cases h6; simp only [hm, hd, h5, cond_true, hl]; exact hK
         · cases h6
       · cases h4
     · cases h4
   · obtain ⟨h3, h4⟩ := zms h2
     simp only [h3, cond_false]
     split at h4
     · rename_i hm0
       obtain ⟨h5, h6⟩ := zai h4
       split at h6
       · rename_i l hl
         cases h6
         simp only [hm0, h5, cond_true, hl]; exact hK
       · cases h6
     rotate_left
     · cases h4
     rename_i hm0
     cases hkb : zmp m xs with
     | true =>
       rw [hkb] at h4
       simp only [cond_true] at h4
       obtain ⟨h5, h6⟩ := zai h4
       split at h6
       · rename_i l hl
         cases h6
         simp only [hm0, h5, cond_true, hl]; exact hK
       · cases h6
     | false =>
     rw [hkb] at h4
     simp only [cond_false] at h4
     simp only [hm0, cond_false]
     split at h4
     · rename_i us m1 hu
       simp only [hu]
       split at h4
       · rename_i hm
         obtain ⟨h5, h6⟩ := zai h4
         simp only [hm, h5, cond_true]
         generalize (z14 _ 0 && z14 us.length _) = c at h6 ⊢
         cases c
         · obtain ⟨h7, h8⟩ := zai h6
           split at h8
           · rename_i r hr
             cases h8
             simp only [cond_false, h7, cond_true]
             exact zlr (K := fun r => K (ms m1 _ (.w _ _ (z2q _ _ (usp r _ us))))) hr hK
           · cases h8
         · cases h6; exact hK
       · cases h4
     · cases h4
   · cases h2
 · cases h
def apB (a b : List (List U)) : Bool := z19 (a.length + b.length) 1000000
theorem zsf {a b : List (List U)} (h : apB a b = true) : zbo a b := z2w h
def appCE (P : Program) (ro : List Nat) (e : TypeId) (x y : V) (m : Mem) : Option (V × Mem) :=
 match y with
 | .sl b2 o n => match mg m b2 with
   | .c cells => match zbu o cells with
     | some l => match zf3 (n * zaj P e) l with
       | some new => cond (new.all isSg && !z14 n 0) (match x with
         | .nl _ => cond (z19 (0 + n) 1000000) (some (.w m.length, m ++ [.cw e (zaj P e) n new])) none
         | .w b => cond (inL ro b) none (match mg m b with
           | .cw e' s k old => cond (z14 e e' && z14 (zaj P e) s && z19 (k + n) 1000000) (some (.w m.length, ms m b .x ++ [.cw e (zaj P e) (k + n) (old ++ new)])) none
           | _ => none)
         | _ => none) none
       | none => none
     | none => none
   | _ => none
 | _ => none
theorem appCE_ok {P : Program} {ro : List Nat} {e : TypeId} {x y : V} {m : Mem} {r : V × Mem} {K : V → Mem → Prop} (h : appCE P ro e x y m = some r) (hK : K r.1 r.2) : appCS P ro e x y m K := by
 unfold appCE at h
 unfold appCS
 split at h
 · split at h
   · rename_i hm
     split at h
     · rename_i hd
       split at h
       · rename_i hp
         obtain ⟨h1, h2⟩ := zai h
         simp only [hm, hd, hp, h1, cond_true]
         split at h2
         · obtain ⟨h3, h4⟩ := zai h2; cases h4; simp only [h3, cond_true]; exact hK
         · obtain ⟨h3, h4⟩ := zms h2
           simp only [h3, cond_false]
           split at h4
           · rename_i hm1
             obtain ⟨h5, h6⟩ := zai h4
             cases h6
             simp only [hm1, h5, cond_true]; exact hK
           · cases h4
         · cases h2
       · cases h
     · cases h
   · cases h
 · cases h
def appE (P : Program) (ro : List Nat) (T : TypeId) (x y : V) (m : Mem) : Option (V × Mem) :=
 match P.underlying T with
 | some (.slice e) => cond (zo7 P T e (zaj P e)) (match y with
   | .nl _ => (match x with
     | .nl s => some (.nl s, m)
     | .u (.l s r) => some (.u (.l s r), m)
     | .c s r => some (.c s r, m)
     | .v b sz l n c => some (.v b sz l n c, m)
     | _ => none)
   | y => (match srcS m y with
     | some (s, new) => cond (z14 s (zaj P e)) (match x with
       | .nl _ => cond (apB [] new) (some (.w m.length, m ++ [.w e s new])) none
       | .w b => cond (inL ro b) none (match mg m b with
         | .w e' s' rows => cond (z14 e e' && z14 s s') (cond (apB rows new) (some (.w m.length, ms m b .x ++ [.w e s (rows ++ new)])) none) none
         | _ => none)
       | .c s' rows => cond (z14 s s') (cond (apB rows new) (match new with
         | _ :: _ => some (.w m.length, m ++ [.w e s (rows ++ new)])
         | [] => some (.c s rows, m)) none) none
       | .v b s' l n c => cond (z14 s s') (match mg m b with
         | .w e' s2 rows => cond (z14 e e' && z14 s2 s) (match new with
           | [] => some (.v b s' l n c, m)
           | _ :: _ => cond c (cond (apB ((rows.drop l).take n) new) (some (.w m.length, m ++ [.w e s ((rows.drop l).take n ++ new)])) none)
             (cond (z14 l 0 && !inL ro b) (cond (apB (rows.take n) new) (some (.w m.length, ms m b .x ++ [.w e s (rows.take n ++ new)])) none) none)) none
         | _ => none) none
       | _ => none) none
     | none => appCE P ro e x y m)) none
 | _ => none
theorem appE_ok {P : Program} {ro : List Nat} {T : TypeId} {x y : V} {m : Mem} {r : V × Mem} {K : V → Mem → Prop} (h : appE P ro T x y m = some r) (hK : K r.1 r.2) : appS P ro T x y m K := by
 unfold appE at h
 unfold appS
 split at h
 · rename_i e hu
   obtain ⟨h1, h2⟩ := zai h
   simp only [hu, h1, cond_true]
   clear h
   split at h2
   · split at h2
     · cases h2; exact hK
     · cases h2; exact hK
     · cases h2; exact hK
     · cases h2; exact hK
     · cases h2
   · rename_i hy
     split at h2
     · rename_i s new hs
       obtain ⟨h3, h4⟩ := zai h2
       clear h2
       split
       · exact (hy _ rfl).elim
       · rw [hs]
         simp only [h3, cond_true]
         split at h4
         · obtain ⟨h5, h6⟩ := zai h4; cases h6; exact ⟨zsf h5, hK⟩
         · obtain ⟨h5, h6⟩ := zms h4
           simp only [h5, cond_false]
           split at h6
           · rename_i hm
             obtain ⟨h7, h8⟩ := zai h6
             obtain ⟨h9, h10⟩ := zai h8
             cases h10
             simp only [hm, h7, cond_true]
             exact ⟨zsf h9, hK⟩
           · cases h6
         · obtain ⟨h5, h6⟩ := zai h4
           obtain ⟨h7, h8⟩ := zai h6
           simp only [h5, cond_true]
           refine ⟨zsf h7, ?_⟩
           split at h8
           · cases h8; exact hK
           · cases h8; exact hK
         · rename_i b s' l n cc
           obtain ⟨h5, h6⟩ := zai h4
           simp only [h5, cond_true]
           split at h6
           · rename_i e' s2 rows hm
             obtain ⟨h7, h8⟩ := zai h6
             simp only [hm, h7, cond_true]
             split at h8
             · cases h8; exact hK
             · cases cc with
               | true =>
                 simp only [cond_true] at h8 ⊢
                 obtain ⟨h9, h10⟩ := zai h8
                 cases h10
                 exact ⟨zsf h9, hK⟩
               | false =>
                 simp only [cond_false] at h8 ⊢
                 obtain ⟨h9, h10⟩ := zai h8
                 obtain ⟨h11, h12⟩ := zai h10
                 cases h12
                 simp only [h9, cond_true]
                 exact ⟨zsf h11, hK⟩
           · cases h6
         · cases h4
     · rename_i hs
       split
       · exact (hy _ rfl).elim
       · rw [hs]; exact appCE_ok h2 hK
 · cases h
def zts (P : Program) (ro : List Nat) (T : TypeId) (x k v : V) (m : Mem) : Option Mem :=
 match mapT P T, mkOf k, x with
 | some (kt, zs, E, _), some k, .m b => cond (kt.has k && !inL ro b) (match zdc P E v with
   | some xs => match toUs ro m xs with
     | some (us, m1) => match mg m1 b with
       | .p kt' sz ag rows => cond (zxl kt kt' && z14 sz zs.length && (ag == isAg P E) && z14 us.length sz && zmu P E (zcn P E v)) (some (ms m1 b (.p kt' sz ag (zdf rows k us)))) none
       | _ => none
     | none => none
   | none => none) none
 | _, _, _ => none
theorem zxf {P : Program} {ro : List Nat} {T : TypeId} {x k v : V} {m m' : Mem} {K : Mem → Prop} (h : zts P ro T x k v m = some m') (hK : K m') : zla P ro T x k v m K := by
 unfold zts at h
 unfold zla
 split at h
 · rename_i kt zs E zv k' b h1 h2
   obtain ⟨h3, h4⟩ := zai h
   simp only [h1, h2, h3, cond_true]
   split at h4
   · rename_i xs hx
     split at h4
     · rename_i us m1 hu
       split at h4
       · rename_i hm
         obtain ⟨h5, h6⟩ := zai h4
         cases h6
         simp only [hx, hu, hm, h5, cond_true]; exact hK
       · cases h4
     · cases h4
   · cases h4
 · cases h
def ztt (P : Program) (ro : List Nat) (T K' : TypeId) (x k : V) (m : Mem) : Option Mem :=
 match P.underlying T, znn P K', mkOf k, x with
 | some (.map K1 _), some kt, some k, .m b => cond (z14 K1 K' && kt.has k && !inL ro b) (match mg m b with
   | .p kt' sz ag rows => cond (zxl kt kt') (some (ms m b (.p kt' sz ag (zof rows k)))) none
   | _ => none) none
 | some (.map K1 _), some kt, some k, .nm => cond (z14 K1 K' && kt.has k) (some m) none
 | _, _, _, _ => none
theorem zxg {P : Program} {ro : List Nat} {T K' : TypeId} {x k : V} {m m' : Mem} {K : Mem → Prop} (h : ztt P ro T K' x k m = some m') (hK : K m') : zlb P ro T K' x k m K := by
 unfold ztt at h
 unfold zlb
 split at h
 · rename_i h1 h2 h3
   obtain ⟨h4, h5⟩ := zai h
   simp only [h1, h2, h3, h4, cond_true]
   split at h5
   · rename_i hm
     obtain ⟨h6, h7⟩ := zai h5
     cases h7
     simp only [hm, h6, cond_true]; exact hK
   · cases h5
 · rename_i h1 h2 h3
   obtain ⟨h4, h5⟩ := zai h
   cases h5
   simp only [h1, h2, h3, h4, cond_true]; exact hK
 · cases h
def clearE (P : Program) (ro : List Nat) (T : TypeId) (x : V) (m : Mem) : Option Mem :=
 match P.underlying T with
 | some (.slice e) => match x with
   | .v b sz l n _ => cond (!inL ro b && z14 sz (zaj P e) && !z14 n 0) (match mg m b, zrow P e with
     | .w E s rows, some zr => cond (z14 s sz && z14 zr.length sz) (some (ms m b (.w E s (rows.take l ++ (z2g n zr ++ rows.drop (l + n)))))) none
     | _, _ => none) none
   | _ => none
 | _ => none
theorem clearE_ok {P : Program} {ro : List Nat} {T : TypeId} {x : V} {m m' : Mem} {K : Mem → Prop} (h : clearE P ro T x m = some m') (hK : K m') : zr5 P ro T x m K := by
 unfold clearE at h
 unfold zr5
 split at h
 · rename_i e hu
   rw [hu]
   split at h
   · obtain ⟨h1, h2⟩ := zai h
     simp only [h1, cond_true]
     split at h2
     · rename_i E s rows zr hm hz
       obtain ⟨h3, h4⟩ := zai h2
       cases h4
       simp only [hm, hz, h3, cond_true]; exact hK
     · cases h2
   · cases h
 · cases h
abbrev Out := List (V × Mem)
abbrev zd7 := FuncId → List V → Mem → Option Out
def zss (x : V) (o : Option Mem) : Option (V × Mem) :=
 match o with
 | some m => some (x, m)
 | none => none
theorem zfr {x : V} {o : Option Mem} {r : V × Mem} (h : zss x o = some r) : ∃ m, o = some m ∧ r = (x, m) := by
 cases o with
 | none => cases h
 | some m => cases h; exact ⟨m, rfl, rfl⟩
def zw6 {α : Type} (o : Option α) : Option (List α) :=
 match o with
 | some r => some [r]
 | none => none
theorem zha {α : Type} {o : Option α} {l : List α} (h : zw6 o = some l) : ∃ r, o = some r ∧ l = [r] := by
 cases o with
 | none => cases h
 | some r => cases h; exact ⟨r, rfl, rfl⟩
def effD (P : Program) (ro : List Nat) (t : List V) (m : Mem) (o : Oper) : Option (V × Mem) :=
 match o.op with
 | .store T a x => zss .z (zj2 P ro T (evS t a) (evS t x) m)
 | .box T x => match zdc P T (evS t x) with
   | some xs => some (.r m.length 0, m ++ [boxA T (bdE P T) xs])
   | none => none
 | .alloc T => match (P.info? T).bind (·.zero) with
   | some z => some (.r m.length 0, m ++ [newA P T z])
   | none => none
 | .buildSlice T n ps => match P.underlying T with
   | some (.slice e) => match zrow P e with
     | some zr => cond (z19 (n * zaj P e) 16777216 && !z14 (n * zaj P e) 0 && z14 zr.length (zaj P e)) (match cond (keepT P e) none (zm5 P ro e (z2g n zr) m (ps.toList.map fun p => (p.1, evS t p.2))) with
       | some (rows, m1) => some (.w m1.length, m1 ++ [.w e (zaj P e) rows])
       | none => match zgc P e n (ps.toList.map fun p => (p.1, evS t p.2)) with
         | some l => some (.sl m.length 0 n, m ++ [.c l])
         | none => none) (cond (z14 n 0 && z14 ps.size 0) (some (.c (zaj P e) [], m)) none)
     | none => match zgc P e n (ps.toList.map fun p => (p.1, evS t p.2)) with
      | some l => cond (z19 (n * zaj P e) 16777216 && !z14 (n * zaj P e) 0) (some (.sl m.length 0 n, m ++ [.c l])) none
      | none => none
   | _ => none
 | .makeSlice T l c => match P.underlying T, evS t l, evS t c with
   | some (.slice e), .u (.i .i64 l), .u (.i .i64 c) => match zrow P e with
     | some zr => cond (zo7 P T e (zaj P e) && z14 zr.length (zaj P e)) (cond (decide (0 ≤ l) && (decide (l ≤ 1000000) && decide (c = l))) (some (.w m.length, m ++ [.w e (zaj P e) (z2g l.toNat zr)])) none) none
     | none => none
   | _, _, _ => none
 | .call c => match c.callee with
   | .builtin .append => match c.args.toList, c.argTypes.toList with
     | [x, y], [T, T'] => cond (z14 T T') (appE P ro T (evS t x) (evS t y) m) none
     | _, _ => none
   | .builtin .delete => match c.args.toList, c.argTypes.toList with
     | [x, y], [T, T'] => zss (.t []) (ztt P ro T T' (evS t x) (evS t y) m)
     | _, _ => none
   | .builtin .clear => match c.args.toList, c.argTypes.toList with
     | [x], [T] => zss (.t []) (clearE P ro T (evS t x) m)
     | _, _ => none
   | _ => none
 | .makeMap T none => match mapT P T with
   | some (kt, zs, E, _) => some (.m m.length, m ++ [.p kt zs.length (isAg P E) []])
   | none => none
 | .mapUpdate T x k v => zss .z (zts P ro T (evS t x) (evS t k) (evS t v) m)
 | _ => none
theorem z1z {P : Program} {ro : List Nat} {call : zb2} {t : List V} {m : Mem} {o : Oper} {r : V × Mem} {K : V → Mem → Prop} (h : effD P ro t m o = some r) (hK : K r.1 r.2) : effS P true ro call t m o K := by
 obtain ⟨dst, op, ty, pos, after, guard⟩ := o
 unfold effD at h
 unfold effS
 simp only [z4l]
 cases op <;> dsimp only at h ⊢
 case store S a x =>
  obtain ⟨m', h1, rfl⟩ := zfr h
  exact zwy (K := fun m' => K .z m') h1 hK
 case box S x =>
  split at h
  · rename_i xs hx; cases h; simp only [hx]; exact hK
  · cases h
 case alloc S =>
  split at h
  · rename_i z hz; cases h; simp only [hz]; exact hK
  · cases h
 case buildSlice S n ps =>
  split at h
  · rename_i e hu
    rw [hu]
    dsimp only
    split at h
    · rename_i zr hz
      rw [hz]
      dsimp only
      cases hc : (z19 (n * zaj P e) 16777216 && !z14 (n * zaj P e) 0 && z14 zr.length (zaj P e)) with
      | true =>
        rw [hc] at h
        simp only [cond_true] at h ⊢
        split at h
        · rename_i rows m1 hr
          cases h
          rw [hr]; exact hK
        · rename_i hr
          rw [hr]
          dsimp only
          split at h
          · rename_i l hl; cases h; rw [hl]; exact hK
          · cases h
      | false =>
        rw [hc] at h
        simp only [cond_false] at h ⊢
        obtain ⟨h1, h2⟩ := zai h
        cases h2
        rw [h1]; exact hK
    · rename_i hz
      rw [hz]
      dsimp only
      split at h
      · rename_i l hl
        obtain ⟨h1, h2⟩ := zai h
        cases h2
        rw [hl, h1]; exact hK
      · cases h
  · cases h
 case makeSlice S l c =>
  split at h
  · rename_i e l' c' hu hl hc
    split at h
    · rename_i zr hz
      obtain ⟨h1, h2⟩ := zai h
      obtain ⟨h3, h4⟩ := zai h2
      cases h4
      simp only [z17, decide_eq_true_eq] at h3
      simp only [hu, hl, hc, hz, h1, cond_true]
      exact ⟨h3.1, h3.2.1, h3.2.2, hK⟩
    · cases h
  · cases h
 case call c =>
  obtain ⟨callee, args, argTypes⟩ := c
  dsimp only at h ⊢
  split at h
  · split at h
    · rename_i x y S S' hax hat
      obtain ⟨h1, h2⟩ := zai h
      simp only [hax, hat, h1, cond_true]
      exact appE_ok h2 hK
    · cases h
  · split at h
    · rename_i x y S S' hax hat
      obtain ⟨m', h1, rfl⟩ := zfr h
      simp only [hax, hat]
      exact zxg (K := fun m' => K (.t []) m') h1 hK
    · cases h
  · split at h
    · rename_i x S hax hat
      obtain ⟨m', h1, rfl⟩ := zfr h
      simp only [hax, hat]
      exact clearE_ok (K := fun m' => K (.t []) m') h1 hK
    · cases h
  · cases h
 case makeMap S rr =>
  cases rr with
  | some rr => cases h
  | none =>
    dsimp only at h ⊢
    split at h
    · rename_i kt zs E zv ht; cases h; simp only [ht]; exact hK
    · cases h
 case mapUpdate S x k v =>
  obtain ⟨m', h1, rfl⟩ := zfr h
  exact zxf (K := fun m' => K .z m') h1 hK
 all_goals cases h
def effE (P : Program) (ro : List Nat) (call : zd7) (t : List V) (m : Mem) (o : Oper) : Option Out :=
 match o.op with
 | .call c => match c.callee with
   | .value f => match evS t f with
     | .f g a cc => call g (a ++ c.args.toList.map (evS t) ++ cc) m
     | _ => none
   | _ => zw6 (effD P ro t m o)
 | _ => zw6 (effD P ro t m o)
def zfq (callE : zd7) (call : zb2) : Prop := ∀ {g : FuncId} {args : List V} {m : Mem} {rs : Out} {K : V → Mem → Prop}, callE g args m = some rs → (∀ r ∈ rs, K r.1 r.2) → call g args m K
theorem effE_ok {P : Program} {ro : List Nat} {callE : zd7} {call : zb2} (hcall : zfq callE call) {t : List V} {m : Mem} {o : Oper} {rs : Out} {K : V → Mem → Prop} (h : effE P ro callE t m o = some rs) (hK : ∀ r ∈ rs, K r.1 r.2) : effS P true ro call t m o K := by
 have one : zw6 (effD P ro t m o) = some rs → effS P true ro call t m o K := fun h1 => by
  obtain ⟨r, h2, rfl⟩ := zha h1
  exact z1z h2 (hK r (by simp))
 unfold effE at h
 split at h
 · rename_i c hc
   split at h
   · rename_i f hf
     split at h
     · rename_i g a cc he
       unfold effS
       rw [hc]
       simp only [hf, he]
       exact hcall h hK
     · cases h
   · exact one h
 · exact one h
def zlj (ops : List Oper) (o : Oper) (t : List V) : Option (Bool × List V) :=
 match zcy ops o with
 | none => some (true, t)
 | some (none, _) => some (false, t)
 | some (some d, want) =>
   match zc7 t d with
   | .u (.b c) => some (cond c want (!want), zjs t d (.u (.b c)))
   | .t [] => some (false, t)
   | _ => none
theorem zcz {ops : List Oper} {o : Oper} {t t' : List V} {b : Bool} {A B : List V → Prop} (h : zlj ops o t = some (b, t')) (hK : cond b (A t') (B t')) : zli ops o t A B := by
 unfold zlj at h
 unfold zli
 split at h
 · rename_i hg; cases h; rw [hg]; exact hK
 · rename_i hg; cases h; rw [hg]; exact hK
 · rename_i d want hg
   rw [hg]
   dsimp only
   split at h
   · rename_i c hv
     cases h
     rw [hv]
     cases c <;> cases want <;> exact hK
   · rename_i hv
     cases h
     rw [hv]; exact hK
   · cases h
section
variable {P : Program} {D D' : Fz} {ρ : List Loc} {m : Mem} {chs C : List zab} {h : zac} {T : List Value} {t : List V}
theorem Rp.r_inv {v : Value} {b o : Nat} (hr : Rp D ρ v (.r b o)) : ∃ L, ρ[b]? = some L ∧ v = .pointer (some ⟨L.b, o, none⟩) := by cases hr; exact ⟨_, by assumption, rfl⟩
theorem Rp.e_inv {v : Value} {b sz o : Nat} {k : Int} (hr : Rp D ρ v (.e b sz k o)) : ∃ L p q, ρ[b]? = some L ∧ L.a = some ⟨p, q, none⟩ ∧ 0 ≤ k ∧ k < L.n ∧ v = .pointer (some ⟨p, q + k.toNat * sz + o, none⟩) := by
 cases hr; exact ⟨_, _, _, by assumption, by assumption, by assumption, by assumption, rfl⟩
theorem Rp.g_inv {v : Value} {b o w : Nat} {k : Int} (hr : Rp D ρ v (.g b o w k)) : ∃ L, ρ[b]? = some L ∧ 0 ≤ k ∧ k < w ∧ v = .pointer (some ⟨L.b, o + k.toNat, none⟩) := by
 cases hr; exact ⟨_, by assumption, by assumption, by assumption, rfl⟩
theorem Rp.q_inv {v : Value} {c : List U} {n : Nat} (hr : Rp D ρ v (.q c n)) : ∃ p o, Rd D (.pointer (some ⟨p, o, none⟩)) (.p (some c)) ∧ v = .pointer (some ⟨p, o + n, none⟩) := by
 cases hr with | q h1 h2 => subst h2; exact ⟨_, _, h1, rfl⟩
theorem Rp.p_inv {v : Value} {c : List U} (hr : Rp D ρ v (.u (.p (some c)))) : ∃ p o, Rd D (.pointer (some ⟨p, o, none⟩)) (.p (some c)) ∧ v = .pointer (some ⟨p, o, none⟩) := by
 cases hr with | u hr => cases h : hr with | pp => exact ⟨_, _, hr, rfl⟩
theorem Rp.w_inv {v : Value} {b : Nat} (hr : Rp D ρ v (.w b)) : ∃ L, ρ[b]? = some L ∧ v = .slice L.a L.n L.c := by cases hr; exact ⟨_, by assumption, rfl⟩
theorem Rp.v_inv {v : Value} {b sz l n : Nat} {c : Bool} (hr : Rp D ρ v (.v b sz l n c)) : ∃ L a cap, ρ[b]? = some L ∧ l + n ≤ L.n ∧ (l = 0 → a = L.a) ∧ (0 < n → ∃ p q, L.a = some ⟨p, q, none⟩ ∧ a = some ⟨p, q + l * sz, none⟩) ∧ n ≤ cap ∧ (c = true → cap = n) ∧ (c = false → l = 0 → cap = L.c) ∧ v = .slice a n cap := by
 cases hr; exact ⟨_, _, _, by assumption, by assumption, by assumption, by assumption, by assumption, by assumption, by assumption, rfl⟩
theorem Rp.sl_inv {v : Value} {b o n : Nat} (hr : Rp D ρ v (.sl b o n)) : ∃ L a cap, ρ[b]? = some L ∧ (0 < n → a = some ⟨L.b, o, none⟩) ∧ n ≤ cap ∧ v = .slice a n cap := by
 cases hr; exact ⟨_, _, _, by assumption, by assumption, by assumption, rfl⟩
theorem Rp.l_inv {v : Value} {sz : Nat} {rows : List (List U)} (hr : Rp D ρ v (.u (.l sz rows))) : ∃ a c, v = .slice a rows.length c ∧ Rd D (.slice a rows.length c) (.l sz rows) := by
 cases hr with | u hr => obtain ⟨a, c, rfl, -⟩ := hr.shape; exact ⟨a, c, rfl, hr⟩
theorem Rp.c_inv {v : Value} {sz : Nat} {rows : List (List U)} (hr : Rp D ρ v (.c sz rows)) : ∃ a, v = .slice a rows.length rows.length ∧ Rd D (.slice a rows.length rows.length) (.l sz rows) := by
 cases hr with | c hr => have := hr.len.1; subst this; exact ⟨_, rfl, hr⟩
theorem Rp.f_inv {v : Value} {g : FuncId} {a c : List V} (hr : Rp D ρ v (.f g a c)) : ∃ xs ys, v = .func (.func g) xs.toArray ys.toArray ∧ RpL D ρ xs a ∧ RpL D ρ ys c := by cases hr; exact ⟨_, _, rfl, by assumption, by assumption⟩
theorem Rp.a_inv {v : Value} {l : List V} (hr : Rp D ρ v (.a l)) : ∃ vs, v = .agg vs.toArray ∧ RpC D ρ vs l := by cases hr; exact ⟨_, rfl, by assumption⟩
theorem Rp.t_inv {v : Value} {l : List V} (hr : Rp D ρ v (.t l)) : ∃ vs, v = .tuple vs.toArray ∧ RpL D ρ vs l := by cases hr; exact ⟨_, rfl, by assumption⟩
theorem Rp.ptr {v : Value} {x : V} (hr : Rp D ρ v x) (hx : zi7 x = true) : ∃ a, v = .pointer (some a) := by
 unfold zi7 at hx
 split at hx <;> first | (cases hr; exact ⟨_, rfl⟩) | cases hx
theorem yp {o : Oper} {v : Value} (hh : ze7 P T o (fun u => u = v)) (w : World) : (execOp (ev T) o).run P w = .ok (.value v) w := by
 obtain ⟨u, rfl, hy⟩ := zh7 hh
 exact hy w
theorem zfx {c : Bool} {l r : Int} {A B : Prop} (hh : leK c l r A) (f : A → B) : leK c l r B := by
 cases c
 · exact ⟨hh.1, f hh.2⟩
 · exact f hh
theorem zl6 {v : Value} {k : IntKind} {n : Int} (hr : Rp D ρ v (.u (.i k n))) : v = .int k n := by cases hr with | u a => exact Rd.int_iff.1 a
theorem zqa {v : Value} {c : Bool} (hr : Rp D ρ v (.u (.b c))) : v = .bool c := by cases hr with | u a => exact Rd.bool_iff.1 a
theorem zyu {v : Value} {s : ByteArray} (hr : Rp D ρ v (.u (.s s))) : v = .string s := by cases hr with | u a => exact Rd.str_iff.1 a
theorem u_nil {v : Value} (hr : Rp D ρ v (.u (.p none))) : v = .pointer none := by cases hr with | u a => cases a; rfl
theorem zdb (F : RpL D ρ T t) {x : Option Operand} {d i : Int} (hb : zl5 t x d = some i) : bnd T x d = some i := by
 unfold zl5 at hb
 unfold bnd
 split at hb
 · exact hb
 · rename_i x
   split at hb
   · rename_i k i' he
     have := zcj F x
     rw [he] at this
     simp only [zl6 this]; exact hb
   · cases hb
theorem bin_S {op : BinOp} {S : TypeId} {x y : V} {a b : Value} {KS : V → Prop} (hs : binS P op S x y KS) (ha : Rp D ρ a x) (hb : Rp D ρ b y) : zub P op S a b fun v => KS (zea v) := by
 unfold binS at hs
 split at hs
 · rename_i a' b' h1 h2
   rw [conc_S h1 ha, conc_S h2 hb]; exact hs
 · split at hs
   · have := u_nil hb; subst this
     split at hs
     · rename_i e hu
       split at hs
       · rename_i p
         cases ha with
         | u hr =>
           cases hr with
           | pn => simp only [zub, hu]; exact hs
           | pp => simp only [zub, hu]; exact hs
       · obtain ⟨h1, h2⟩ := zaa hs
         unfold zi7 at h1
         split at h1 <;> first | (cases ha <;> (simp only [zub, hu]; exact h2)) | cases h1
     · exact hs.elim
   · cases hb with
     | nm =>
       split at hs
       · rename_i k e hu
         split at hs
         · cases ha with | m hr => simp only [zub, hu]; exact hs
         · cases ha with | nm => simp only [zub, hu]; exact hs
         · exact hs.elim
       · exact hs.elim
   · exact hs.elim
theorem Own.some_of {E sz c : Nat} {a : Option Addr} {rows : List (List U)} {ch : zab} (x : Own D E sz a c rows ch) (h : rows ≠ []) : ∃ b, a = some ⟨b, 0, none⟩ := by
 cases x with
 | nil => exact absurd rfl h
 | row b => exact ⟨b, rfl⟩
theorem nilOf_S {x : V} {v : Value} {r : Bool × Bool} (hs : nilOf m x = some r) (M : SAt D ρ m chs C h) (hv : Rp D ρ v x) : ∃ a n c, v = .slice a n c ∧ (a.isNone = true → r.1 = true) ∧ (a.isNone = false → r.2 = true) := by
 unfold nilOf at hs
 split at hs
 · cases hs; cases hv; exact ⟨_, _, _, rfl, fun _ => rfl, by simp⟩
 · rename_i sz rows
   cases hs
   obtain ⟨a, c, rfl, hr⟩ := hv.l_inv
   refine ⟨_, _, _, rfl, fun ha => ?_, fun _ => rfl⟩
   cases rows with
   | nil => rfl
   | cons r rows => obtain ⟨b, o, e, -⟩ := hr.at (i := 0) (r := r) rfl; rw [e] at ha; simp at ha
 · rename_i sz rows
   cases hs
   obtain ⟨a, rfl, hr⟩ := hv.c_inv
   refine ⟨_, _, _, rfl, fun ha => ?_, fun _ => rfl⟩
   cases rows with
   | nil => rfl
   | cons r rows => obtain ⟨b, o, e, -⟩ := hr.at (i := 0) (r := r) rfl; rw [e] at ha; simp at ha
 · rename_i b
   split at hs
   · rename_i E sz rows hm
     cases hs
     obtain ⟨L, hL, rfl⟩ := hv.w_inv
     obtain ⟨L', ch, g1, g2, g3⟩ := M.get (b := b) (by rw [hm]; simp)
     rw [hL] at g1; cases g1
     rw [hm] at g3
     cases g3 with
     | w own hn =>
       refine ⟨_, _, _, rfl, fun ha => ?_, fun _ => rfl⟩
       cases rows with
       | nil => rfl
       | cons r rows => obtain ⟨b', e⟩ := own.some_of (by simp); rw [e] at ha; simp at ha
   · cases hs
 · rename_i b sz l n c
   cases hs
   obtain ⟨L, a, cap, h1, h2, h3, h4, h5, h6, h7, rfl⟩ := hv.v_inv
   refine ⟨_, _, _, rfl, fun ha => ?_, fun _ => rfl⟩
   cases n with
   | zero => rfl
   | succ n => obtain ⟨p, q, -, e⟩ := h4 (by omega); rw [e] at ha; simp at ha
 · rename_i b o n
   cases hs
   obtain ⟨L, a, cap, h1, h2, h3, rfl⟩ := hv.sl_inv
   refine ⟨_, _, _, rfl, fun ha => ?_, fun _ => rfl⟩
   cases n with
   | zero => rfl
   | succ n => rw [h2 (by omega)] at ha; simp at ha
 · cases hs
theorem nilSl_S {op : BinOp} {S : TypeId} {x y : V} {a b : Value} {r : Bool × Bool} {K : Value → Prop} (hs : zke P m S x y = some r) (M : SAt D ρ m chs C h) (ha : Rp D ρ a x) (hb : Rp D ρ b y) (hh : nilR op r K) : zub P op S a b K := by
 unfold zke at hs
 split at hs
 · split at hs
   · rename_i e hu
     cases hb
     obtain ⟨a', n, c, rfl, h1, h2⟩ := nilOf_S hs M ha
     simp only [zub, hu]
     obtain ⟨r1, r2⟩ := r
     simp only at h1 h2
     unfold nilR at hh
     cases hn : a'.isNone with
     | true =>
       have := h1 hn
       subst this
       cases r2 with
       | true => exact hh.1
       | false => exact hh
     | false =>
       have := h2 hn
       subst this
       cases r1 with
       | true => exact hh.2
       | false => exact hh
   · cases hs
 · cases hs
theorem zlq : ∀ (a b : List Int), eqI a b = decide (a = b)
 | [], [] => by simp [eqI]
 | [], _ :: _ => by simp [eqI]
 | _ :: _, [] => by simp [eqI]
 | a :: l, b :: r => by
   simp only [eqI, zlq l r]
   by_cases h1 : a = b <;> by_cases h2 : l = r <;> simp [h1, h2]
theorem zo0 : ∀ {l : List V} {r : List Int} {vs : List Value}, zxn l = some r → RpC D ρ vs l → vs = r.map (Value.int .i64) ∧ r.length = wds l
 | [], r, vs, h, hr => by cases h; cases hr; exact ⟨rfl, rfl⟩
 | x :: l, r, vs, h, hr => by
   unfold zxn at h
   split at h
   · rename_i e; cases e
   · rename_i n l' e
     cases e
     split at h
     · rename_i r' h'
       cases h
       cases hr with
       | cons a _ b =>
         obtain ⟨h1, h2⟩ := zo0 h' b
         exact ⟨by rw [zl6 a, h1]; rfl, by simp [wds, wd, h2]; omega⟩
     · cases h
   · rename_i w xs l' e
     cases e
     split at h
     · rename_i r' h'
       cases h
       cases hr with
       | cons _ hn _ => exact absurd rfl (hn _ _ _)
       | n hl b =>
         obtain ⟨h1, h2⟩ := zo0 h' b
         exact ⟨by rw [h1]; simp, by simp [wds, wd, h2, hl]⟩
     · cases h
   · cases h
theorem arrN_run {T : TypeId} {n : Nat} (hk : arrN P T = some n) {a b : List Int} (h1 : a.length = n) (h2 : b.length = n) {w : World} : (Op.equal T (mkV (.a a)) (mkV (.a b))).run P w = .ok (decide (a = b)) w := by
 unfold arrN at hk
 split at hk
 · split at hk
   · rename_i h; cases hk; exact zqm h h1 h2
   · cases hk
 · rename_i fs hu
   cases hc : (flat P fs.toList 0 || isI P T) with
   | true => rw [hc] at hk; cases hk
   | false =>
     rw [hc] at hk
     simp only [z49] at hc
     exact zzi hk hc.2 h1 h2
 · cases hk
theorem arrE_S {op : BinOp} {S : TypeId} {x y : V} {a b : Value} {c : Bool} {K : Value → Prop} {ox oy : Operand} (hs : arrE P S x y = some c) (ha : Rp D ρ a x) (hb : Rp D ρ b y) (h : zeq op c K) :
 ∃ v, K v ∧ ∀ w, (do eqGuard op S ox oy a b; binOp op S a b : Sem Value).run P w = .ok v w := by
 unfold arrE at hs
 split at hs
 · rename_i n xs ys hk
   split at hs
   · rename_i a' b' h1 h2
     cases hc : (z14 (wds xs) n && z14 (wds ys) n && !P.eqGuardType P.depth S) with
     | false => rw [hc] at hs; cases hs
     | true =>
       rw [hc] at hs
       cases hs
       simp only [z17, z2u] at hc
       obtain ⟨vs, rfl, hx⟩ := ha.a_inv
       obtain ⟨us, rfl, hy⟩ := hb.a_inv
       obtain ⟨rfl, l1⟩ := zo0 h1 hx
       obtain ⟨rfl, l2⟩ := zo0 h2 hy
       have e1 : a'.length = n := by rw [l1]; exact z18 hc.1.1
       have e2 : b'.length = n := by rw [l2]; exact z18 hc.1.2
       have hq := hc.2
       have hg : ∀ (u v : Array Value) (w : World), (eqGuard op S ox oy (.agg u) (.agg v)).run P w = .ok () w := by
        intro u v w
        unfold eqGuard
        cases op <;> first | rfl | (simp [hq]; done) | (simp [hq]; rfl)
       obtain ⟨v, hv, hr⟩ := zie (P := P) (T := S) (x := mkV (.a a')) (y := mkV (.a b')) (z := eqI a' b') (fun w => by rw [zlq]; exact arrN_run hk e1 e2) (.inr (.inr (.inr (.inr ⟨_, rfl⟩)))) (.inr (.inr (.inr (.inr ⟨_, rfl⟩)))) h
       refine ⟨v, hv, fun w => ?_⟩
       simp only [Sem.run_bind, hg, z2h]
       exact hr w
   · cases hs
 · cases hs
theorem args_S (F : RpL D ρ T t) : ∀ {l : List Operand} {vs : List Value}, zuf t l = some vs → l.map (ev T) = vs
 | [], vs, hh => by cases hh; rfl
 | x :: l, vs, hh => by
   simp only [zuf] at hh
   split at hh
   · rename_i v vs' h1 h2
     cases hh
     rw [z2s, args_S F h2, zlu h1 (zcj F x)]
   · cases hh
theorem zr6 : ∀ {n sz : Nat} {l : List U} {i : Nat} {r : List U}, (zt7 n sz l)[i]? = some r → i < n ∧ r = (l.drop (i * sz)).take sz
 | 0, sz, l, i, r, hh => by simp [zt7] at hh
 | n + 1, sz, l, 0, r, hh => by simp [zt7] at hh; exact ⟨by omega, by simp [hh]⟩
 | n + 1, sz, l, i + 1, r, hh => by
   simp only [zt7, z4t] at hh
   obtain ⟨h1, h2⟩ := zr6 hh
   refine ⟨by omega, ?_⟩
   rw [h2, z4x, z24, Nat.add_comm sz]
theorem RdL.split {vs : List Value} {us : List U} (hr : RdL D vs us) (n : Nat) : RdL D (vs.take n) (us.take n) ∧ RdL D (vs.drop n) (us.drop n) := by
 induction n generalizing vs us with
 | zero => simp only [List.take_zero, z38]; exact ⟨.nil, hr⟩
 | succ n ih =>
   cases hr with
   | nil => simp only [z54, List.drop_nil]; exact ⟨.nil, .nil⟩
   | cons a b => obtain ⟨h1, h2⟩ := ih b; exact ⟨.cons a h1, h2⟩
theorem wl_one {S : TypeId} {z : Value} (hl : zcv P S = some (.one z)) : zaj P S = 1 := by
 obtain ⟨-, -, i, hi, hs⟩ := zdz hl
 simp [zaj, hi, hs]
theorem wl_many {S : TypeId} {cs : List Value} (hl : zcv P S = some (.many cs)) : zaj P S = cs.length := by
 obtain ⟨-, i, hi, hs⟩ := zcq hl
 simp [zaj, hi, hs]
theorem zwr {S : TypeId} {zs : List (Value × Nat)} (hz : za9 P S = some zs) : ∃ i, P.info? S = some i ∧ i.size = zs.length := by
 unfold za9 at hz
 split at hz
 · rename_i z hl; cases hz; exact (zdz (zfy hl)).2.2
 · rename_i zs' hl; cases hz; obtain ⟨cs, h1, h2⟩ := zdy hl; rw [← h2]; exact (zcq h1).2
 · cases hz
theorem zeros_lay {S : TypeId} {zs : List (Value × Nat)} (hz : za9 P S = some zs) : zaj P S = zs.length := by
 unfold za9 at hz
 split at hz
 · rename_i z hl; cases hz; exact wl_one (zfy hl)
 · rename_i zs' hl; cases hz; obtain ⟨cs, h1, h2⟩ := zdy hl; rw [wl_many h1, h2]
 · cases hz
theorem part_S {S : TypeId} {zs : List (Value × Nat)} (hz : za9 P S = some zs) {vs : List Value} {us r : List U} (hr : RdL D vs us) {i : Nat} (hi : (i + 1) * zs.length ≤ us.length) (hd : r = (us.drop (i * zs.length)).take zs.length) {r' : List U}
 (hl : r'.length = zs.length) (hg : ∀ j u, r'[j]? = some u → r[0 + j]? = some u) : ∃ v, Rp D ρ v (z0j P S (r'.map .u)) ∧ ∀ w, (part S vs.toArray (i * zs.length)).run P w = .ok v w := by
 have hrl : r.length = zs.length := by
  rw [z24] at hi
  rw [hd]; simp; omega
 have hrr : r' = r := by
  apply z4m (by rw [hl, hrl])
  intro j h1 h2
  have := hg j r'[j] (z2c h1)
  rw [z2l, z2c h2] at this
  exact (Option.some.inj this).symm
 subst hrr
 have hv := ((hr.split (i * zs.length)).2.split zs.length).1
 rw [← hd] at hv
 generalize hvs : (vs.drop (i * zs.length)).take zs.length = v' at hv
 unfold za9 at hz
 unfold z0j
 split at hz
 · rename_i z hS
   cases hz
   rw [hS]
   have hone : r'.length = 1 := hl
   obtain ⟨u, rfl⟩ := List.length_eq_one_iff.1 hone
   cases hv with
   | cons a b =>
     rename_i v vs'
     cases b
     refine ⟨v, .u a, zzf (zfy hS) ?_⟩
     have : ((vs.drop (i * [z].length)).take [z].length)[0]? = some v := by rw [hvs]; rfl
     simpa using this
 · rename_i zs' hS
   cases hz
   rw [hS]
   obtain ⟨cs, h1, h2⟩ := zdy hS
   refine ⟨.agg v'.toArray, ?_, fun w => ?_⟩
   · cases r' <;> exact .a (.ofU hv)
   · have hsp : vs = vs.take (i * zs.length) ++ (v' ++ (vs.drop (i * zs.length)).drop zs.length) := by rw [← hvs, z4c, z4c]
     have hlen : (vs.take (i * zs.length)).length = i * zs.length := by
      have := hr.len
      rw [z24] at hi
      simp; omega
     have := zze (P := P) h1 (p := vs.take (i * zs.length)) (vs := v') (s := (vs.drop (i * zs.length)).drop zs.length) (by rw [hv.len, hl, h2]) w
     rw [hlen, ← hsp] at this
     exact this
 · cases hz
theorem zwi {v : Value} {x : V} {xs : List V} (hc : znv x = some xs) (hr : Rp D ρ v x) : RpC D ρ v.cells.toList xs := by
 cases hr with
 | a h => cases hc; exact h
 | u h =>
   cases hc
   have : v.cells.toList = [v] := by cases h <;> rfl
   rw [this]; exact .cons (.u h) (by simp) .nil
 | t => cases hc
 | z => cases hc
 | r h => cases hc; exact .cons (.r h) (by simp) .nil
 | e h1 h2 h3 h4 => cases hc; exact .cons (.e h1 h2 h3 h4) (by simp) .nil
 | g h1 h2 h3 => cases hc; exact .cons (.g h1 h2 h3) (by simp) .nil
 | q h1 h2 n => cases hc; exact .cons (.q h1 h2 n) (by simp) .nil
 | w h => cases hc; exact .cons (.w h) (by simp) .nil
 | c h => cases hc; exact .cons (.c h) (by simp) .nil
 | m h => cases hc; exact .cons (.m h) (by simp) .nil
 | nm => cases hc; exact .cons .nm (by simp) .nil
 | nl => cases hc; exact .cons .nl (by simp) .nil
 | f h1 h2 => cases hc; exact .cons (.f h1 h2) (by simp) .nil
 | y h => cases hc; exact .cons (.y h) (by simp) .nil
 | v h1 h2 h3 h4 h5 h6 h7 => cases hc; exact .cons (.v h1 h2 h3 h4 h5 h6 h7) (by simp) .nil
 | sl h1 h2 h3 => cases hc; exact .cons (.sl h1 h2 h3) (by simp) .nil
theorem zo6 {place : Nat → Option (Nat × Nat)} : ∀ {ps : List (Nat × V)} {pv : List (Nat × Value)} {l l' : List V} {vs : List Value}, zrw place l ps = some l' → RpC D ρ vs l → pv.map (·.1) = ps.map (·.1) → RpL D ρ (pv.map (·.2)) (ps.map (·.2)) →
 ∃ vs', zlo place vs pv = some vs' ∧ RpC D ρ vs' l'
 | [], pv, l, l', vs, hf, hr, h1, h2 => by
   cases pv with
   | nil => cases hf; exact ⟨vs, rfl, hr⟩
   | cons _ _ => simp at h1
 | (i, x) :: ps, pv, l, l', vs, hf, hr, h1, h2 => by
   cases pv with
   | nil => simp at h1
   | cons p pv =>
     obtain ⟨i', v⟩ := p
     simp only [z2s, List.cons.injEq] at h1
     obtain ⟨rfl, h1⟩ := h1
     cases h2 with
     | cons hv h2 =>
       simp only [zrw] at hf
       split at hf
       · rename_i o s xs hp hc
         have hcc := zwi hc hv
         cases hb : z14 (wds xs) s with
         | false => rw [hb] at hf; cases hf
         | true =>
           rw [hb] at hf
           simp only [cond_true] at hf
           split at hf
           · rename_i l1 hl1
             obtain ⟨g1, g2⟩ := zu7 hcc hl1 hr
             obtain ⟨vs', g3, g4⟩ := zo6 hf g2 h1 h2
             refine ⟨vs', ?_, g4⟩
             have e1 : z14 v.cells.toList.length s = true := by rw [zst hcc]; exact hb
             simp only [zlo, hp, e1, z32 g1, Bool.and_self, cond_true]
             exact g3
           · cases hf
       · cases hf
theorem zln : ∀ {l : List V} {ss : List Nat} {vs : List Value}, RpC D ρ vs l → RpC D ρ vs (fixN ss l)
 | [], ss, vs, hr => by cases ss <;> exact hr
 | x :: l, ss, vs, hr => by
   cases hr with
   | n hl b => cases ss <;> exact .n hl (zln b)
   | cons a n b =>
     cases ss with
     | nil => cases x <;> first | exact absurd rfl (n _ _ _) | exact .cons a n b
     | cons s ss =>
       cases x <;> first
        | exact absurd rfl (n _ _ _)
        | exact .cons a n (zln b)
        | (cases a; exact .cons .nl (by simp) (zln b))
theorem zvu : ∀ {w : Nat} {l r : List V} {xs : List Int} {vs : List Value}, znq w l = some (xs, r) → RpC D ρ vs l → ∃ s, vs = xs.map (.int .i64) ++ s ∧ xs.length = w ∧ RpC D ρ s r
 | 0, l, r, xs, vs, h, hr => by simp only [znq, Option.some.injEq, Prod.mk.injEq] at h; obtain ⟨rfl, rfl⟩ := h; exact ⟨vs, rfl, rfl, hr⟩
 | w + 1, [], r, xs, vs, h, hr => by simp [znq] at h
 | w + 1, x :: l, r, xs, vs, h, hr => by
   unfold znq at h
   split at h
   · rename_i heq; cases heq
   · rename_i w' y l' heq1 heq2
     cases heq1
     cases heq2
     split at h
     · rename_i xs' r' h2
       cases h
       cases hr with
       | cons a n b =>
         obtain ⟨s, rfl, h3, h4⟩ := zvu h2 b
         exact ⟨s, by rw [zl6 a]; rfl, by simp [h3], h4⟩
     · cases h
   · cases h
theorem zlk : ∀ {ws : List Nat} {l : List V} {vs : List Value}, RpC D ρ vs l → RpC D ρ vs (zxp ws l)
 | [], l, vs, hr => hr
 | _ :: _, [], vs, hr => hr
 | w :: ws, x :: l, vs, hr => by
   simp only [zxp]
   cases hb : z14 w 1 with
   | true =>
     simp only [cond_true]
     cases hr with
     | cons a n b => exact .cons a n (zlk b)
     | n hl b => exact .n hl (zlk b)
   | false =>
     simp only [cond_false]
     split
     · cases hr with
       | cons a n b => exact absurd rfl (n _ _ _)
       | n hl b => exact .n hl (zlk b)
     · split
       · rename_i xs r h2
         obtain ⟨s, rfl, h3, h4⟩ := zvu h2 hr
         exact .n h3 (zlk h4)
       · exact hr
theorem asD_S {v : Value} {x : V} (hv : Rp D ρ v x) : Rp D ρ v (asD x) := by
 cases x <;> first | exact hv | (cases hv; exact .u (.nil _ _ _))
theorem asD_n {x : V} (h : ∀ k w l, x ≠ .n k w l) : ∀ k w l, asD x ≠ .n k w l := by
 intro k w l
 cases x <;> first | exact h k w l | simp [asD]
theorem zwa : ∀ {l : List V} {vs : List Value}, RpC D ρ vs l → RpC D ρ vs (datL l)
 | _, _, .nil => .nil
 | _, _, .cons a n b => .cons (asD_S a) (asD_n n) (zwa b)
 | _, _, .n hl b => .n hl (zwa b)
theorem datV_S {v : Value} {x : V} (hv : Rp D ρ v x) : Rp D ρ v (datV x) := by
 cases x <;> first | exact asD_S hv | (cases hv with | a h => exact .a (zwa h))
theorem zic {S : TypeId} {l : List V} {vs : List Value} (hr : RpC D ρ vs l) : RpC D ρ vs (zid P S l) := zlk (zln hr)
theorem Rd.cap {a : Option Addr} {n c sz : Nat} {rows : List (List U)} (x : Rd D (.slice a n c) (.l sz rows)) : Rd D (.slice a n n) (.l sz rows) := by
 cases x with
 | nil => exact .nil _ _ _
 | row b o c arr T f rows sz v h1 h2 h3 h4 h5 => exact .row b o _ arr T f rows sz v h1 (z2r _) h3 h4 h5
theorem Rd.part3 {a : Option Addr} {n c sz l r : Nat} {rows : List (List U)} (x : Rd D (.slice a n c) (.l sz rows)) (hl : l ≤ r) (hr : r ≤ n) : Rd D (.slice (slA a r l sz) (zi5 r l) (zi5 r l)) (.l sz ((rows.take r).drop l)) := by
 have h1 := (x.part (l := 0) (r := r) (z3j _) hr).cap
 have h2 := h1.part (l := l) (r := r) hl (z2r _)
 rw [z38, List.take_take, Nat.min_self] at h2
 exact h2
theorem zrc {S : TypeId} {kt : KT} {zs : List (Value × Nat)} {E : TypeId} {zv : V} (h : mapT P S = some (kt, zs, E, zv)) :
 ∃ K i z, P.underlying S = some (.map K E) ∧ znn P K = some kt ∧ za9 P E = some zs ∧ P.info? E = some i ∧ i.zero = some z ∧ zv = zcn P E (ofV z) := by
 unfold mapT at h
 split at h
 · rename_i K E' hu
   split at h
   · rename_i kt' zs' z' h1 h2 h3
     simp only [Option.some.injEq, Prod.mk.injEq] at h
     obtain ⟨rfl, rfl, rfl, rfl⟩ := h
     cases hi : P.info? E' with
     | none => rw [hi] at h3; cases h3
     | some i => rw [hi] at h3; exact ⟨K, i, z', hu, h1, h2, rfl, h3, rfl⟩
   · cases h
 · cases h
theorem mkIs_S : ∀ {l : List V} {r : List Int} {vs : List Value}, mkIs l = some r → RpC D ρ vs l → vs = r.map (Value.int .i64)
 | [], r, vs, h, hr => by cases h; cases hr; rfl
 | x :: l, r, vs, h, hr => by
   unfold mkIs at h
   split at h
   · rename_i e
     cases e
   · rename_i n l' e
     cases e
     split at h
     · rename_i r' h'
       cases h
       cases hr with
       | cons a _ b => rw [zl6 a, mkIs_S h' b]; rfl
     · cases h
   · cases h
theorem zvm {x : V} {k : MK} {v : Value} (h : mkOf x = some k) (hr : Rp D ρ v x) : v = mkV k := by
 unfold mkOf at h
 split at h
 · cases h; exact zl6 hr
 · cases h; exact zyu hr
 · split at h
   · rename_i l r hl
     cases h
     obtain ⟨vs, rfl, hc⟩ := hr.a_inv
     rw [mkIs_S hl hc]; rfl
   · cases h
 · cases h
theorem zfz {a b : KT} (h : zxl a b = true) : a = b := by
 cases a <;> cases b <;> simp [zxl] at h
 · rfl
 · rfl
 · rw [h]
theorem MRel.get {ag : Bool} {mv : MV} {rows : List (MK × List U)} (hr : MRel D ag mv rows) (k : MK) :
 (ze5 rows k = none ∧ zyc mv k = none) ∨ ∃ us v vs, ze5 rows k = some us ∧ zyc mv k = some v ∧ RdL D vs us ∧ cond ag (v = .agg vs.toArray) (vs = [v]) ∧ ∃ p ∈ rows, p.2 = us := by
 induction hr with
 | nil => exact .inl ⟨rfl, rfl⟩
 | cons a b _ ih =>
   rename_i k' v us vs m rows _
   simp only [ze5, zyc]
   by_cases hk : k' = k
   · simp only [hk, if_true]
     exact .inr ⟨us, v, vs, rfl, rfl, a, b, _, z2p, rfl⟩
   · simp only [hk, if_false]
     rcases ih with h | ⟨us', v', vs', h1, h2, h3, h4, p, h5, h6⟩
     · exact .inl h
     · exact .inr ⟨us', v', vs', h1, h2, h3, h4, p, z2j _ h5, h6⟩
theorem MRel.len {ag : Bool} {mv : MV} {rows : List (MK × List U)} (hr : MRel D ag mv rows) : mv.length = rows.length := by
 induction hr with
 | nil => rfl
 | cons a b _ ih => simp [ih]
theorem oneA_S {S : TypeId} {zs : List (Value × Nat)} (hz : za9 P S = some zs) {us : List U} {v : Value} {vs : List Value} (hl : us.length = zs.length) (hr : RdL D vs us) (hv : cond (isAg P S) (v = .agg vs.toArray) (vs = [v])) : Rp D ρ v (z0j P S (us.map .u)) := by
 unfold za9 at hz
 unfold isAg at hv
 unfold z0j
 split at hz
 · rename_i z hS
   cases hz
   rw [hS] at hv ⊢
   simp only [cond_false] at hv
   subst hv
   cases hr with
   | cons a b => cases b; exact .u a
 · rename_i zs' hS
   cases hz
   rw [hS] at hv ⊢
   simp only [cond_true] at hv
   subst hv
   cases us <;> exact .a (.ofU hr)
 · cases hz
theorem look_S {S : TypeId} {x k : V} {vx vk : Value} {ok : Bool} {KS : V → Prop} (hs : z04 P S x k ok m KS) (M : SAt D ρ m chs C h) (hx : Rp D ρ vx x) (hk : Rp D ρ vk k) {bs : List Nat} (hbs : ∀ b, b ∈ zae x → inL bs b = true) :
 ∃ v y, KS y ∧ Rp D ρ v y ∧ ∀ w, Hs D chs bs w → (Instr.lookup S vx vk ok).run P w = .ok v w := by
 unfold z04 at hs
 split at hs
 · rename_i kt zs E zv k' ht hk'
   obtain ⟨K, i, z, hT, hkt, hz, hi, hzz, rfl⟩ := zrc ht
   obtain ⟨hhas, hs⟩ := zaa hs
   have hvk := zvm hk' hk
   subst hvk
   have hnv : Rp D ρ z (zcn P E (ofV z)) := by
    have := ofV_S (D := D) (ρ := ρ) z
    unfold zcn
    split
    · rename_i l e; rw [e] at this; cases this with | a h => exact .a (zic h)
    · rename_i s' e
      rw [e] at this
      split
      · cases this; exact .nl
      · exact this
    · exact this
   have hres : ∀ {v : Value} {y : V} (b : Bool), Rp D ρ v y → Rp D ρ (if ok then .tuple #[v, .bool b] else v) (zrj ok y b) := by
    intro v y b hr
    cases ok
    · exact hr
    · exact .t (vs := [v, .bool b]) (.cons hr (.cons (.u (.bool b)) .nil))
   clear hk hk'
   split at hs
   · rename_i b _
     split at hs
     · rename_i kt' sz ag rows hm
       obtain ⟨hc, hs2⟩ := zaa hs
       clear hs
       simp only [z17, beq_iff_eq] at hc
       obtain ⟨⟨hc1, hc2⟩, hc3⟩ := hc
       obtain ⟨L, ch, g1, g2, g3⟩ := M.get (b := b) (by rw [hm]; simp)
       rw [hm] at g3
       cases zfz hc1
       have hsz := z18 hc2
       subst hc3
       cases hx with
       | m hL =>
         rw [g1] at hL; cases hL
         cases g3 with
         | p I R hl =>
           rename_i es clk mv
           have hrun : ∀ w, Hs D chs bs w → (Instr.lookup S (.map (some L.b)) (mkV k') ok).run P w = .ok (if ok then .tuple #[(zyc mv k').getD z, .bool (zyc mv k').isSome] else (zyc mv k').getD z) w :=
            fun w hw => run_look hT hkt hi hzz (hw _ _ (.inr ⟨b, _, hbs b (by simp [zae]), g2, by simp⟩)) I hhas ok
           rcases R.get k' with ⟨r1, r2⟩ | ⟨us, v, vs, r1, r2, r3, r4, p, r5, r6⟩
           · rw [r1] at hs2
             rw [r2] at hrun
             exact ⟨_, _, hs2, hres false hnv, hrun⟩
           · rw [r1] at hs2
             rw [r2] at hrun
             obtain ⟨us', l1, l2, hK⟩ := zf2 hs2
             have hul : us.length = zs.length := by rw [← r6, hl p r5, hsz]
             have : us' = us := by
              apply z4m (by rw [l1, hul])
              intro j h1 h2
              have := l2 j us'[j] (z2c h1)
              rw [z2l, z2c h2] at this
              exact (Option.some.inj this).symm
             subst this
             exact ⟨_, _, hK, hres true (oneA_S hz l1 r3 r4), hrun⟩
     · exact hs.elim
   · cases hx
     exact ⟨_, _, hs, hres false hnv, fun w _ => zzg hT hkt hi hzz hhas ok⟩
   · exact hs.elim
 · exact hs.elim
theorem Rd.srcF {h0 : zac} {a : Option Addr} {n c sz : Nat} {rows : List (List U)} (x : Rd D (.slice a n c) (.l sz rows)) (fz : ∀ b o, D b = some o → h0[b]? = some o) : Src D h0 sz a rows := by
 refine ⟨(x.shape).elim fun _ h => h.elim fun _ h => h.2.2, ?_⟩
 cases x with
 | nil => exact .inl rfl
 | row b o c arr T f rows sz v h1 h2 h3 h4 h5 => exact .inr ⟨b, o, v, rfl, fun i j r u hi hj => ⟨by rw [zaz (fz _ _ h1)]; exact h4 i j r u hi hj, h5 i j r u hi hj⟩⟩
theorem Own.src {E sz c : Nat} {a : Option Addr} {rows : List (List U)} {ch : zab} (x : Own D E sz a c rows ch) (hc : ∀ p ∈ ch, h[p.1]? = some p.2) : Src D h sz a rows := by
 cases x with
 | nil => exact ⟨by simp, .inl rfl⟩
 | row b c arr rows v h1 h2 h3 h4 h5 =>
   refine ⟨h3, .inr ⟨b, 0, v, rfl, fun i j r u hi hj => ⟨?_, h5 i j r u hi hj⟩⟩⟩
   rw [zaz (hc _ (z2x _)), z2l]
   exact h4 i j r u hi hj
theorem Src.part {s l n : Nat} {a a' : Option Addr} {rows : List (List U)} (x : Src D h s a rows) (hl : l + n ≤ rows.length) (ha : 0 < n → ∃ p q, a = some ⟨p, q, none⟩ ∧ a' = some ⟨p, q + l * s, none⟩) : Src D h s a' ((rows.drop l).take n) := by
 have key : ∀ {i : Nat} {r : List U}, ((rows.drop l).take n)[i]? = some r → rows[l + i]? = some r := fun hi => by
  rw [z37] at hi
  split at hi
  · rwa [z4i] at hi
  · cases hi
 refine ⟨fun r hr => x.1 r (List.mem_of_mem_drop (z5o hr)), ?_⟩
 cases n with
 | zero => left; simp
 | succ n =>
   obtain ⟨p, q, rfl, rfl⟩ := ha (by omega)
   rcases x.2 with e | ⟨b, o, w, e, hw⟩
   · rw [e] at hl; simp at hl
   · cases e
     refine .inr ⟨p, q + l * s, fun i j => w (l + i) j, rfl, fun i j r u hi hj => ?_⟩
     have := hw (l + i) j r u (key hi) hj
     rw [z3i] at this
     rw [show q + l * s + i * s + j = q + (l * s + i * s) + j by omega]
     exact this
theorem srcS_W {h0 : zac} {x : V} {v : Value} {s : Nat} {rows : List (List U)} (hs : srcS m x = some (s, rows)) (M : SAt D ρ m chs C h) (hv : Rp D ρ v x) (fz : ∀ b o, D b = some o → h0[b]? = some o) (ow : ∀ b ch p, b ∈ zae x → chs[b]? = some ch → p ∈ ch → h0[p.1]? = some p.2) : ∃ a c, v = .slice a rows.length c ∧ Src D h0 s a rows := by
 unfold srcS at hs
 split at hs
 · cases hs; obtain ⟨a, c, rfl, hr⟩ := hv.l_inv; exact ⟨a, c, rfl, hr.srcF fz⟩
 · cases hs; obtain ⟨a, rfl, hr⟩ := hv.c_inv; exact ⟨a, _, rfl, hr.srcF fz⟩
 · rename_i b
   split at hs
   · rename_i E sz rows' hm
     cases hs
     obtain ⟨L, ch, h1, h2, h3⟩ := M.get (b := b) (by rw [hm]; simp)
     obtain ⟨L', h4, rfl⟩ := hv.w_inv
     rw [h1] at h4; cases h4
     rw [hm] at h3
     cases h3 with
     | w own hn => exact ⟨_, _, by rw [hn], own.src fun p hp => ow _ _ p (by simp [zae]) h2 hp⟩
   · cases hs
 · rename_i b sz l n c
   split at hs
   · rename_i E sz' rows' hm
     cases hb : z14 sz' sz with
     | false => rw [hb] at hs; cases hs
     | true =>
       rw [hb] at hs
       cases hs
       have := z18 hb
       subst this
       obtain ⟨L, ch, h1, h2, h3⟩ := M.get (b := b) (by rw [hm]; simp)
       obtain ⟨L', a, cap, g1, g2, g3, g4, g5, g6, g7, rfl⟩ := hv.v_inv
       rw [h1] at g1; cases g1
       rw [hm] at h3
       cases h3 with
       | w own hn =>
         refine ⟨a, cap, ?_, (own.src fun p hp => ow _ _ p (by simp [zae]) h2 hp).part (by omega) g4⟩
         rw [z33, List.length_drop, z5c (by omega)]
   · cases hs
 · cases hs
theorem srcS_S {x : V} {v : Value} {s : Nat} {rows : List (List U)} (hs : srcS m x = some (s, rows)) (M : SAt D ρ m chs C h) (hv : Rp D ρ v x) : ∃ a c, v = .slice a rows.length c ∧ Src D h s a rows :=
 srcS_W hs M hv (fun b o hb => (M.st.fz b o hb).1) fun _ _ _ _ hc hp => M.own hc hp
theorem zua : ∀ {rows : List (List U)} {ns : List Int}, byteR rows = some ns → rows = ns.map fun n => [U.i .u8 n]
 | [], ns, h => by cases h; rfl
 | r :: l, ns, h => by
   unfold byteR at h
   split at h
   · rename_i heq; cases heq
   · rename_i n l' heq
     cases heq
     split at h
     · rename_i r' hr
       cases h
       rw [z2s, zua hr]
     · cases h
   · cases h
theorem zwn {w : World} {a : Option Addr} {c : Nat} {rows : List (List U)} {ns : List Int} (hrows : rows = ns.map fun n => [U.i .u8 n]) (hs : Src D w.heap 1 a rows) : (Conv.bytesToString (.slice a rows.length c)).run P w = .ok (.string (zy3 ns)) w := by
 obtain ⟨-, hsrc⟩ := hs
 cases a with
 | none =>
   rcases hsrc with h0 | ⟨b, o, f, h0, -⟩
   · rw [hrows] at h0
     have : ns = [] := by cases ns with | nil => rfl | cons n l => simp at h0
     subst this; rfl
   · cases h0
 | some ad =>
   refine run_bytesToString w ad _ c ns ?_
   have hl : rows.length = (ns.map (Value.int .u8)).length := by rw [hrows]; simp
   rw [hl]
   refine run_loadCells_list w ad _ fun j v hj => ?_
   rw [z2i] at hj
   obtain ⟨n, hn, rfl⟩ := z3k.1 hj
   have hr : rows[j]? = some [U.i .u8 n] := by rw [hrows, z2i, hn]; rfl
   rcases hsrc with h0 | ⟨b, o, f, h0, hc⟩
   · rw [h0] at hr; simp at hr
   · cases h0
     obtain ⟨g1, g2⟩ := hc j 0 _ _ hr rfl
     rw [Rd.int_iff.1 g2, z5r, z4b] at g1
     rw [za1]
     exact g1
theorem view_S {dst : Option Tmp} {S : TypeId} {x : Operand} {lo hi mx : Option Operand} {ty : TypeId} {pos : String} {after : Array Edge} {guard : Option (Nat × Bool)} {e : TypeId} {b sz l n : Nat} {c : Bool} {KS : V → Prop} (F : RpL D ρ T t) (hu : P.underlying S = some (.slice e)) (hs : zwt P t e lo hi mx b sz l n c KS) (hx : Rp D ρ (ev T x) (.v b sz l n c)) :
 ∃ v y, KS y ∧ Rp D ρ v y ∧ ∀ w, zom ⟨dst, .slice S x lo hi mx, ty, pos, after, guard⟩ = true ∨ Hs D chs (zl8 t ⟨dst, .slice S x lo hi mx, ty, pos, after, guard⟩) w → (execOp (ev T) ⟨dst, .slice S x lo hi mx, ty, pos, after, guard⟩).run P w = .ok (.value v) w := by
 unfold zwt at hs
 obtain ⟨hc, hs⟩ := zaa hs
 simp only [z17, z2u] at hc
 have hse := z18 hc.1
 subst hse
 have hne : zaj P e ≠ 0 := fun h0 => by rw [h0] at hc; simp at hc
 have hnz : ∀ {A : Prop}, A → nz (zaj P e) A := fun hA => by
  unfold nz
  rw [show z14 (zaj P e) 0 = false from hc.2]; exact hA
 obtain ⟨L, a, cap, g1, g2, g3, g4, g5, g6, g7, hv⟩ := hx.v_inv
 -- the part from lo on, of r - lo elements, with room up to k
 have part : ∀ {l' r k : Nat} {c' : Bool}, l' ≤ r → r ≤ n → r ≤ k → k ≤ cap → (c' = true → k = r) → (c' = false → l' = 0 → l = 0 → k = L.c) → Rp D ρ (.slice (slA a k l' (zaj P e)) (zi5 r l') (zi5 k l')) (.v b (zaj P e) (l + l') (r - l') c') := by
  intro l' r k c' h1 h2 h2k h3 h4 h5
  have e1 : ∀ a b : Nat, zi5 a b = a - b := fun a b => by
   unfold zi5; cases b <;> rfl
  rw [e1, e1]
  have e2 : l' = 0 → slA a k l' (zaj P e) = a := fun h0 => by subst h0; rfl
  refine .v g1 (by omega) (fun h0 => ?_) (fun h0 => ?_) (by omega) (fun h0 => by have := h4 h0; omega) (fun h0 h6 => ?_)
  · rw [e2 (by omega)]; exact g3 (by omega)
  · obtain ⟨p, q, hA, ha⟩ := g4 (by omega)
    refine ⟨p, q, hA, ?_⟩
    by_cases hl : l' = 0
    · rw [e2 hl, ha, hl, z4b]
    · have hkl : ¬ k = l' := by omega
      unfold slA
      have hb : z14 l' 0 = false := by cases l' <;> first | exact absurd rfl hl | rfl
      rw [hb]
      simp only [cond_false, if_neg hkl, ha, z3h]
      rw [z3i, z30]
  · have := h5 h0 (by omega) (by omega); omega
 split at hs
 · rename_i l' r hl hr _
   obtain ⟨h0, h1, h2, hK⟩ := zby (zdb F hl) hs
   have hrn : bnd T hi (n : Int) = some r := zdb F hr
   have hK' : KS (.v b (zaj P e) (l + l'.toNat) (r.toNat - l'.toNat) c) ∧ (c = true → r = n) := by
    unfold ltK at hK
    cases c with
    | true => exact ⟨hK.2, fun _ => hK.1⟩
    | false => exact ⟨hK, by simp⟩
   refine ⟨_, _, hK'.1, part (l' := l'.toNat) (r := r.toNat) (k := cap) (by omega) (by omega) (by omega) (z2r _) (fun h => ?_) (fun h _ h6 => g7 h h6), fun w _ => yp ?_ w⟩
   · have := g6 h; have := hK'.2 h; omega
   · simp only [ze7, hu, hv, zdb F hl, hrn]
     exact zfx hs fun hh => ⟨hh.1, by omega, hnz trivial⟩
 · rename_i mx' l' r hl hr _
   split at hs
   · rename_i k kk hm
     obtain ⟨hhi, hs3⟩ := zaa hs
     obtain ⟨h0, h1, h2, h3, hK⟩ := zby (zdb F hl) hs3
     subst h3
     have hmx : bnd T (some mx') 0 = some kk := zdb F (by simp [zl5, hm])
     refine ⟨_, _, hK, part (l' := l'.toNat) (r := kk.toNat) (k := kk.toNat) (by omega) (by omega) (z2r _) (by omega) (fun _ => rfl) (by simp), fun w _ => yp ?_ w⟩
     simp only [ze7, hu, hv, zdb F hl, zdb F hr, hmx, hhi, cond_true]
     exact zfx hs3 fun hh => ⟨hh.1, z2v _, by omega, hnz trivial⟩
   · exact hs.elim
 · exact hs.elim
theorem zz4 {o : Oper} {KS : V → Prop} (hs : zg2 P t m o KS) (M : SAt D ρ m chs C h) (F : RpL D ρ T t) :
 ∃ v x, KS x ∧ Rp D ρ v x ∧ ∀ w, zom o = true ∨ Hs D chs (zl8 t o) w → (execOp (ev T) o).run P w = .ok (.value v) w := by
 obtain ⟨dst, op, ty, pos, after, guard⟩ := o
 cases op <;> simp only [zg2] at hs
 case move x => exact ⟨_, _, hs, zcj F x, fun w _ => rfl⟩
 case assign x => exact ⟨_, _, hs, zcj F x, fun w _ => rfl⟩
 case pick c a b =>
  unfold pickS at hs
  have hc := zcj F c
  split at hs
  · rename_i c' he
    rw [he] at hc
    have hc := zqa hc
    have ha := zcj F a
    have hb := zcj F b
    split at hs
    · rename_i x y h1 h2
      rw [h1] at ha; rw [h2] at hb
      refine ⟨.bool (cond c' x y), _, hs, .u (.bool _), fun w _ => ?_⟩
      simp only [execOp, hc, zqa ha, zqa hb]
      cases c' <;> rfl
    · cases c'
      · exact ⟨_, _, hs, hb, fun w _ => by simp [execOp, hc, asBool]⟩
      · exact ⟨_, _, hs, ha, fun w _ => by simp [execOp, hc, asBool]⟩
  · exact hs.elim
 case nilCheck x =>
  have hx := zcj F x
  split at hs
  · rename_i p he
    rw [he] at hx
    obtain ⟨c, rfl, hK⟩ := zos hs
    obtain ⟨p, o, hr, hv⟩ := hx.p_inv
    exact ⟨_, _, hK, .q (o' := o) hr rfl 0, fun w _ => by simp [execOp, hv]⟩
  · rename_i g a c he
    rw [he] at hx
    obtain ⟨xs, ys, hv, -, -⟩ := hx.f_inv
    exact ⟨_, _, hs, hx, fun w _ => by simp [execOp, hv]⟩
  · obtain ⟨h1, hK⟩ := zaa hs
    refine ⟨_, _, hK, hx, fun w _ => ?_⟩
    have := hx.ptr h1
    obtain ⟨a, ha⟩ := this
    simp [execOp, ha]
 case binOp op' S x y yt =>
  split at hs
  · rename_i r hr0
    obtain ⟨v, hv, hr⟩ := zl1 (x := x) (y := y) (nilSl_S hr0 M (zcj F x) (zcj F y) hs)
    exact ⟨v, _, hv, zl3 v, fun w _ => by
     have := hr w
     simp only [execOp]
     rw [Sem.run_bind, this]
     rfl⟩
  split at hs
  · rename_i c hc
    obtain ⟨v, hv, hr⟩ := arrE_S (ox := x) (oy := y) hc (zcj F x) (zcj F y) hs
    exact ⟨v, _, hv, zl3 v, fun w _ => by
     have := hr w
     simp only [execOp]
     rw [Sem.run_bind, this]
     rfl⟩
  · obtain ⟨v, hv, hr⟩ := zl1 (x := x) (y := y) (bin_S hs (zcj F x) (zcj F y))
    exact ⟨v, _, hv, zl3 v, fun w _ => by
     have := hr w
     simp only [execOp]
     rw [Sem.run_bind, this]
     rfl⟩
 case unOp op' S x =>
  split at hs
  · rename_i a he
    obtain ⟨v, hv, hr⟩ := XWp.sound hs
    refine ⟨v, _, hv, zl3 v, fun w _ => ?_⟩
    simp only [execOp, zlu he (zcj F x)]
    rw [Sem.run_bind, hr w]; rfl
  · exact hs.elim
 case convert s d x =>
  split at hs
  · rename_i a he
    obtain ⟨v, hv, hr⟩ := XWp.sound hs
    refine ⟨v, _, hv, zl3 v, fun w _ => ?_⟩
    simp only [execOp, zlu he (zcj F x)]
    rw [Sem.run_bind, hr w]; rfl
  · split at hs
    · rename_i zz hz
      unfold strR at hz
      split at hz
      · rename_i e hA hB
        have h1 : P.underlying s = some (.slice e) := by assumption
        have h2 : P.underlying d = some .string := by assumption
        split at hz
        · rename_i rows h4 h5
          split at hz
          · rename_i ns hns
            cases hz
            refine ⟨.string (zy3 ns), _, hs, .u (.str _), fun w hw => ?_⟩
            have hw := hw.resolve_left (by simp [zom])
            obtain ⟨a, c, hv, hsrc⟩ := srcS_W (h0 := w.heap) h5 M (zcj F x) (fun b o hb => hw _ _ (.inl hb)) fun b ch p hb hc hp => hw _ _ (.inr ⟨b, ch, by rw [inL_iff]; simp [zl8, Op.operands, zam, hb], hc, hp⟩)
            simp only [execOp, hv]
            rw [Sem.run_bind, run_convert_bytes_string w s d e a _ _ h1 h4 h2, zwn (zua hns) hsrc]
            rfl
          · cases hz
        · cases hz
      · cases hz
    · exact hs.elim
 case makeFunc fn a c =>
  cases fn with
  | func g =>
    refine ⟨_, _, hs, .f (zt3 F a.toList) (zt3 F c.toList), fun w _ => ?_⟩
    have e : ∀ (l : Array Operand), l.map (ev T) = (l.toList.map (ev T)).toArray := fun l => by cases l; simp
    simp only [execOp, Instr.makeFunc, e]
    rfl
  | _ => exact hs.elim
 case fieldAddr S x f =>
  split at hs
  · rename_i fs hu
    split at hs
    · rename_i fd hfd
      obtain ⟨hz, hs⟩ := zb8 hs
      obtain ⟨i, hi, his⟩ := zbm hz
      have run : ∀ {b o : Nat} (w : World), ev T x = .pointer (some ⟨b, o, none⟩) → (execOp (ev T) ⟨dst, .fieldAddr S x f, ty, pos, after, guard⟩).run P w = .ok (.value (.pointer (some ⟨b, o + fd.offset, none⟩))) w := fun w ha => by
       simp [execOp, Instr.fieldAt, ha, run_underlying hu, hfd, Instr.sureAddr, fieldPlace, zao hi, his, hz, za1]
      have hx := zcj F x
      unfold zva at hs
      split at hs
      · rename_i b o he
        rw [he] at hx
        obtain ⟨L, h1, hv⟩ := hx.r_inv
        rw [zdm] at hs
        exact ⟨_, _, hs, .r h1, fun w _ => run w hv⟩
      · rename_i b sz k o he
        rw [he] at hx
        obtain ⟨L, p, q, h1, h2, h3, h4, hv⟩ := hx.e_inv
        rw [zdm] at hs
        exact ⟨_, _, hs, .e h1 h2 h3 h4, fun w _ => by rw [run w hv, z30]⟩
      · rename_i c o he
        rw [he] at hx
        obtain ⟨p, o', h1, hv⟩ := hx.q_inv
        rw [zdm] at hs
        exact ⟨_, _, hs, .q h1 rfl _, fun w _ => by rw [run w hv, z30]⟩
      · rename_i p he
        rw [he] at hx
        obtain ⟨c, rfl, hK⟩ := zos hs
        obtain ⟨p, o, h1, hv⟩ := hx.p_inv
        exact ⟨_, _, hK, .q h1 rfl _, fun w _ => run w hv⟩
      · exact hs.elim
    · exact hs.elim
  · exact hs.elim
 case field S x f =>
  have hx := zcj F x
  split at hs
  · rename_i fs l hu he
    rw [he] at hx
    split at hs
    · rename_i fd hfd
      obtain ⟨vs, hv, hc⟩ := hx.a_inv
      · split at hs
        · rename_i z v r hS hd
          obtain ⟨hk, hK⟩ := zaa hs
          obtain ⟨p, s, rfl, hp, hr⟩ := zc1 hd hc
          cases hr with
          | @cons vv _ vvs _ a n b =>
            refine ⟨_, _, hK, a, fun w _ => ?_⟩
            simp only [execOp, Instr.field, hv, asAgg, run_underlying hu, hfd, Sem.run_bind, z2h, Sem.run_pure]
            rw [zzf (zfy hS) (v := vv) (by simp [← hp]) w]
            rfl
          | n hl b => simp [zsp] at hk
        · rename_i zs r hS hd
          split at hs
          · rename_i vs' hv'
            obtain ⟨p, s, rfl, hp, hr⟩ := zc1 hd hc
            obtain ⟨p2, s2, rfl, hp2, hr2⟩ := zon hv' hr
            obtain ⟨cs, h1, h2⟩ := zdy hS
            refine ⟨_, _, hs, .a hr2, fun w _ => ?_⟩
            simp only [execOp, Instr.field, hv, asAgg, run_underlying hu, hfd, Sem.run_bind, z2h, Sem.run_pure]
            rw [← hp, zze h1 (by rw [hp2, h2]) w]
            rfl
          · exact hs.elim
        · exact hs.elim
    · exact hs.elim
  · exact hs.elim
 case indexAddr S x i =>
  have hx := asD_S (zcj F x)
  have hi := zcj F i
  split at hs
  · rename_i k z hei
    rw [hei] at hi
    have hi := zl6 hi
    split at hs
    · rename_i e s rows hu he
      rw [he] at hx
      obtain ⟨hc, hs2⟩ := zaa hs
      simp only [z17, z2u] at hc
      have hse := z18 hc.1
      subst hse
      obtain ⟨h0, r, hr, hK⟩ := zen hs2
      have hne : zaj P e ≠ 0 := fun h0 => by rw [h0] at hc; simp at hc
      obtain ⟨a, c, hv, hrd⟩ := hx.l_inv
      · obtain ⟨b, o, ha, hpp, -⟩ := hrd.at hr
        have hlt := (z2a.1 hr).1
        exact ⟨_, _, hK, .q hpp rfl 0, fun w _ => by simp [execOp, hv, hi, zbs hu h0 (show z < (rows.length : Int) by omega) ha hne]⟩
    · rename_i e s rows hu he
      rw [he] at hx
      obtain ⟨hc, hs2⟩ := zaa hs
      simp only [z17, z2u] at hc
      have hse := z18 hc.1
      subst hse
      obtain ⟨h0, r, hr, hK⟩ := zen hs2
      have hne : zaj P e ≠ 0 := fun h0 => by rw [h0] at hc; simp at hc
      obtain ⟨a, hv, hrd⟩ := hx.c_inv
      · obtain ⟨b, o, ha, hpp, -⟩ := hrd.at hr
        have hlt := (z2a.1 hr).1
        exact ⟨_, _, hK, .q hpp rfl 0, fun w _ => by simp [execOp, hv, hi, zbs hu h0 (show z < (rows.length : Int) by omega) ha hne]⟩
    · rename_i e b hu he
      rw [he] at hx
      split at hs
      · rename_i E sz rows hm
        obtain ⟨hc, h0, h1, hK⟩ := zaa hs
        simp only [z17, z2u] at hc
        have hse := z18 hc.1
        subst hse
        have hne : zaj P e ≠ 0 := fun h0 => by rw [h0] at hc; simp at hc
        obtain ⟨L, ch, g1, g2, g3⟩ := M.get (b := b) (by rw [hm]; simp)
        rw [hm] at g3
        obtain ⟨L', hL, hv⟩ := hx.w_inv
        · rw [g1] at hL; cases hL
          cases g3 with
          | w own hn =>
            have : ∃ p q, L.a = some ⟨p, q, none⟩ := by
             generalize L.a = A, L.c = c at own
             cases own with
             | nil => simp at h1; omega
             | row => exact ⟨_, _, rfl⟩
            obtain ⟨p, q, hA⟩ := this
            refine ⟨_, _, hK, .e g1 hA h0 (by rw [hn]; exact h1), fun w _ => ?_⟩
            simp [execOp, hv, hi, zbs hu h0 (show z < (L.n : Int) by omega) hA hne]
      · rename_i E sz n l hm
        obtain ⟨hc, h0, h1, hK⟩ := zaa hs
        simp only [z17, z2u] at hc
        have hse := z18 hc.1
        subst hse
        have hne : zaj P e ≠ 0 := fun h0 => by rw [h0] at hc; simp at hc
        obtain ⟨L, ch, g1, g2, g3⟩ := M.get (b := b) (by rw [hm]; simp)
        rw [hm] at g3
        obtain ⟨L', hL, hv⟩ := hx.w_inv
        · rw [g1] at hL; cases hL
          cases g3 with
          | cw hA hn hcc hl h5 h6 =>
            refine ⟨_, _, hK, .e g1 hA h0 (by rw [hn]; exact h1), fun w _ => ?_⟩
            simp [execOp, hv, hi, zbs hu h0 (show z < (L.n : Int) by omega) hA hne]
      · exact hs.elim
    · rename_i e b sz l n c hu he
      rw [he] at hx
      obtain ⟨hc, h0, h1, hK⟩ := zaa hs
      simp only [z17, z2u] at hc
      have hse := z18 hc.1
      subst hse
      have hne : zaj P e ≠ 0 := fun h0 => by rw [h0] at hc; simp at hc
      obtain ⟨L, a, cap, g1, g2, g3, g4, g5, g6, g7, hv⟩ := hx.v_inv
      obtain ⟨p, q, hA, ha⟩ := g4 (by omega)
      refine ⟨_, _, hK, .e g1 hA (by omega) (by omega), fun w _ => ?_⟩
      have e1 : ((l : Int) + z).toNat = l + z.toNat := by omega
      simp [execOp, hv, hi, zbs hu h0 (show z < (n : Int) by omega) ha hne, e1, z3i, z30]
    · rename_i e b o n hu he
      rw [he] at hx
      obtain ⟨hne, hs⟩ := zb8 hs
      obtain ⟨j, rfl, hj, hK⟩ := zlh hs
      obtain ⟨L, a, cap, g1, g2, g3, hv⟩ := hx.sl_inv
      refine ⟨_, _, hK, .r g1, fun w _ => ?_⟩
      have := zbs (P := P) (k := k) (c := cap) (z := (Int.ofNat j)) hu (z4a j) (show (Int.ofNat j) < (n : Int) from z5e.2 hj) (g2 (by omega)) hne w
      simp only [execOp, hv, hi]
      rw [Sem.run_bind, this]
      rfl
    · rename_i n e b sz k' o hu he
      rw [he] at hx
      obtain ⟨hne, hs⟩ := zb8 hs
      obtain ⟨j, rfl, this, hK⟩ := zlh hs
      obtain ⟨L, p, q, g1, g2, g3, g4, hv⟩ := hx.e_inv
      refine ⟨_, _, hK, .e g1 g2 g3 g4, fun w _ => ?_⟩
      have := zbe (P := P) (k := k) (z := (Int.ofNat j)) hu (z4a j) (z5e.2 this) (a := some ⟨p, q + k'.toNat * sz + o, none⟩) rfl hne w
      simp only [execOp, hv, hi]
      rw [Sem.run_bind, this]
      simp [z30]
    · rename_i n e b o hu he
      rw [he] at hx
      split at hs
      · rename_i cells hm
        obtain ⟨L, ch, g1, g2, g3⟩ := M.get (b := b) (by rw [hm]; simp)
        rw [hm] at g3
        obtain ⟨L', hL, hv⟩ := hx.r_inv
        · rw [g1] at hL; cases hL
          split at hs
          · rename_i k' w' l r hd
            obtain ⟨hc, h0, h1, hK⟩ := zaa hs
            simp only [z17] at hc
            have e1 := z18 hc.1
            have e2 := z18 hc.2
            refine ⟨_, _, hK, .g g1 h0 (by omega), fun w _ => ?_⟩
            simp [execOp, hv, hi, zbe hu h0 h1 rfl (show zaj P e ≠ 0 by omega), e2]
          · split at hs
            · rename_i j _
              obtain ⟨hc, hs⟩ := zaa hs
              obtain ⟨hne, hK⟩ := zb8 hs
              have := z2w hc
              refine ⟨_, _, hK, .r g1, fun w _ => ?_⟩
              have := zbe (P := P) (k := k) (z := (Int.ofNat j)) hu (z4a j) (z5e.2 this) (a := some ⟨L.b, o, none⟩) rfl hne w
              simp only [execOp, hv, hi]
              rw [Sem.run_bind, this]
              rfl
            · exact hs.elim
          · exact hs.elim
      · exact hs.elim
    · rename_i n e c o hu he
      rw [he] at hx
      obtain ⟨hne, hs⟩ := zb8 hs
      obtain ⟨j, rfl, this, hK⟩ := zlh hs
      obtain ⟨p, o2, hrd, hv⟩ := hx.q_inv
      refine ⟨_, _, hK, .q hrd rfl _, fun w _ => ?_⟩
      have := zbe (P := P) (k := k) (z := (Int.ofNat j)) hu (z4a j) (z5e.2 this) (a := some ⟨p, o2 + o, none⟩) rfl hne w
      simp only [execOp, hv, hi]
      rw [Sem.run_bind, this]
      simp [z30]
    · exact hs.elim
  · exact hs.elim
 case index S x i =>
  have hx := zcj F x
  have hi := zcj F i
  split at hs
  · rename_i k z hei
    rw [hei] at hi
    have hi := zl6 hi
    split at hs
    · rename_i s hu he
      rw [he] at hx
      obtain ⟨h0, h1, hK⟩ := hs
      refine ⟨_, _, hK, .u (.int _ _), fun w _ => yp ?_ w⟩
      simp only [ze7, hu, zyu hx, hi]
      exact ⟨h0, h1, trivial⟩
    · rename_i n e l hu he
      rw [he] at hx
      split at hs
      · rename_i zs us hz hcu
        obtain ⟨hc, hs⟩ := zaa hs
        have hn := z18 hc
        obtain ⟨h0, r, hr, hs⟩ := zen hs
        obtain ⟨r', hl, hg, hK⟩ := zf2 hs
        obtain ⟨vs, hv, hcc⟩ := hx.a_inv
        · have hrd := RpC.toU hcu hcc
          obtain ⟨hlt, hd⟩ := zr6 hr
          have hb : (z.toNat + 1) * zs.length ≤ us.length := by rw [hn]; exact z3e _ (by omega)
          obtain ⟨v, hv1, hrun⟩ := part_S (P := P) (ρ := ρ) hz hrd hb hd hl hg
          obtain ⟨inf, hinf, hsz⟩ := zwr hz
          refine ⟨v, _, hK, hv1, fun w _ => ?_⟩
          simp only [execOp, Instr.index, hv, hi, asIntOf, Sem.run_bind, Sem.run_pure, z2h, run_underlying hu]
          rw [if_pos ⟨h0, by omega⟩]
          simp only [Sem.run_bind, zao hinf, z2h, hsz, hrun w]
      · exact hs.elim
    · exact hs.elim
  · exact hs.elim
 case extract x i =>
  have hx := zcj F x
  split at hs
  · rename_i l he
    rw [he] at hx
    obtain ⟨hc, hK⟩ := zaa hs
    have := z2w hc
    obtain ⟨vs, hv, hl⟩ := hx.t_inv
    have hlt : i < vs.length := by rw [hl.len']; omega
    exact ⟨vs[i], _, hK, hl.at (z2c hlt), fun w _ => by simp [execOp, Instr.extract, hv, hlt]⟩
  · exact hs.elim
 case build S ps =>
  have hps : RpL D ρ ((ps.toList.map fun p => (p.1, ev T p.2)).map (·.2)) ((ps.toList.map fun p => (p.1, evS t p.2)).map (·.2)) := by
   have h := zt3 F (ps.toList.map (·.2)); rw [z3c, z3c] at h; rw [z3c, z3c]; exact h
  have hpm : (ps.toList.map fun p => (p.1, ev T p.2)).map (·.1) = (ps.toList.map fun p => (p.1, evS t p.2)).map (·.1) := by simp [z3c, Function.comp_def]
  have hpa : (ps.map fun (x : Nat × Operand) => (x.1, ev T x.2)).toList = ps.toList.map fun p => (p.1, ev T p.2) := by simp
  split at hs
  · rename_i inf fs hi hu
    split at hs
    · rename_i cs hz
      obtain ⟨hl, hs⟩ := zaa hs
      split at hs
      · rename_i l hf
        obtain ⟨vs', hf', hr⟩ := zo6 hf (zic (zgi cs.toList)) hpm hps
        refine ⟨_, _, hs, .a (zic hr), fun w _ => yp ?_ w⟩
        simp only [ze7, hu, hi, hz, hl, cond_true, hf']
      · exact hs.elim
    · exact hs.elim
  · rename_i inf n e hi hu
    split at hs
    · rename_i cs hz
      obtain ⟨hne, hs⟩ := zb8 hs
      split at hs
      · rename_i l hf
        obtain ⟨vs', hf', hr⟩ := zo6 hf (zln (zgi cs.toList)) hpm hps
        refine ⟨_, _, hs, .a (zic hr), fun w _ => ?_⟩
        obtain ⟨i2, hi2, his2⟩ := zbm hne
        have hzero : (zeroValue S).run P w = .ok (.agg cs) w := by simp [zeroValue, run_typeInfo w hi, hz]
        have hfill := zhm hf'
        simp only [z3y] at hfill
        simp only [execOp, Instr.build, Sem.run_bind, hzero, z2h, run_underlying hu, zao hi2, his2]
        show Result.andThen (Sem.run P (match Instr.fill (fun i => some (i * zaj P e, zaj P e)) cs (ps.map fun (x : Nat × Operand) => (x.1, ev T x.2)).toList with
         | some cells => pure (Value.agg cells) | _ => stuck "build: a part of the wrong size") w) _ = _
        rw [hpa, hfill]
        rfl
      · exact hs.elim
    · exact hs.elim
  · exact hs.elim
 case slice S x lo hi mx =>
  have hx := asD_S (zcj F x)
  split at hs
  · rename_i s hu he
    rw [he] at hx
    split at hs
    · rename_i l r hl hr
      have key := zfx (B := l ≤ r ∧ r ≤ s.size ∧ True) hs fun hh => ⟨hh.1, hh.2.1, trivial⟩
      refine ⟨_, _, (zby (zdb F hl) hs).2.2.2, .u (.str _), fun w _ => yp ?_ w⟩
      simp only [ze7, hu, zyu hx, zdb F hl, zdb F hr]
      exact key
    · exact hs.elim
  · rename_i e s rows hu he
    rw [he] at hx
    obtain ⟨hc, hs2⟩ := zaa hs
    simp only [z17, z2u] at hc
    have hse := z18 hc.1
    subst hse
    have hne : zaj P e ≠ 0 := fun h0 => by rw [h0] at hc; simp at hc
    have hnz : ∀ {A : Prop}, A → nz (zaj P e) A := fun hA => by
     unfold nz
     rw [show z14 (zaj P e) 0 = false from hc.2]; exact hA
    obtain ⟨a, c, hv, hrd⟩ := hx.l_inv
    have hcap := hrd.len.2
    split at hs2
    · rename_i l r hl hr
      obtain ⟨h0, h1, h2, hK⟩ := zby (zdb F hl) hs2
      have hpart := Rd.part hrd (l := l.toNat) (r := r.toNat) (by omega) (by omega)
      refine ⟨_, _, hK, .u hpart, fun w _ => yp ?_ w⟩
      simp only [ze7, hu, hv, zdb F hl, zdb F hr]
      exact zfx hs2 fun hh => ⟨hh.1, by omega, hnz trivial⟩
    · rename_i mx l r hl hr
      split at hs2
      · rename_i k kk hm
        obtain ⟨hhi, hs3⟩ := zaa hs2
        obtain ⟨h0, h1, h2, h3, hK⟩ := zby (zdb F hl) hs3
        subst h3
        have hmx : bnd T (some mx) 0 = some kk := zdb F (by simp [zl5, hm])
        refine ⟨_, _, hK, .c (a := slA a kk.toNat l.toNat (zaj P e)) (n := zi5 kk.toNat l.toNat) ?_, fun w _ => yp ?_ w⟩
        · exact hrd.part3 (by omega) (by omega)
        · simp only [ze7, hu, hv, zdb F hl, zdb F hr, hmx, hhi, cond_true]
          exact zfx hs3 fun hh => ⟨hh.1, z2v _, by omega, hnz trivial⟩
      · exact hs2.elim
    · exact hs2.elim
  · rename_i e s rows hu he
    rw [he] at hx
    obtain ⟨hc, hs2⟩ := zaa hs
    simp only [z17, z2u] at hc
    have hse := z18 hc.1
    subst hse
    have hne : zaj P e ≠ 0 := fun h0 => by rw [h0] at hc; simp at hc
    have hnz : ∀ {A : Prop}, A → nz (zaj P e) A := fun hA => by
     unfold nz
     rw [show z14 (zaj P e) 0 = false from hc.2]; exact hA
    obtain ⟨a, hv, hrd⟩ := hx.c_inv
    split at hs2
    · rename_i l r hl hr
      obtain ⟨h0, h1, h2, h3, hK⟩ := zby (zdb F hl) hs2
      have hpart := Rd.part hrd (l := l.toNat) (r := r.toNat) (by omega) (by omega)
      have e1 : r.toNat = rows.length := by omega
      refine ⟨_, _, hK, (?_ : Rp D ρ (.slice (slA a rows.length l.toNat (zaj P e)) (zi5 r.toNat l.toNat) (zi5 rows.length l.toNat)) _), fun w _ => yp ?_ w⟩
      · rw [e1] at hpart ⊢; exact .c hpart
      · simp only [ze7, hu, hv, zdb F hl, zdb F hr]
        exact zfx hs2 fun hh => ⟨hh.1, by omega, hnz trivial⟩
    · exact hs2.elim
  · rename_i e b hu he
    rw [he] at hx
    split at hs
    · rename_i E sz rows hm
      obtain ⟨L', ch, g1, g2, g3⟩ := M.get (b := b) (by rw [hm]; simp)
      obtain ⟨L, hL, hv⟩ := hx.w_inv
      rw [hL] at g1; cases g1
      rw [hm] at g3
      cases g3 with
      | w own hn =>
        have hx' : Rp D ρ (ev T x) (.v b sz 0 rows.length false) := by
         rw [hv]
         refine hn ▸ .v hL (by omega) (fun _ => rfl) (fun h0 => ?_) (by rw [hn]; exact own.len) (by simp) (fun _ _ => rfl)
         obtain ⟨p, e1⟩ := own.some_of (fun e1 => by rw [e1] at hn; simp at hn; omega)
         exact ⟨p, 0, e1, by rw [e1]; simp⟩
        exact view_S (chs := chs) F hu hs hx'
    · exact hs.elim
  · rename_i e b sz l n c hu he
    rw [he] at hx
    exact view_S (chs := chs) F hu hs hx
  · exact hs.elim
 case load S a =>
  obtain ⟨bb, oo, v, x, hv, hK, hr, hrun⟩ := zzc hs M (zcj F a) (bs := zl8 t ⟨dst, .load S a, ty, pos, after, guard⟩) fun b hb => by
   rw [inL_iff]; simp [zl8, Op.operands, zam, hb]
  exact ⟨v, x, hK, hr, fun w hw => by
   have hw := hw.resolve_left (by simp [zom, zch])
   simp [execOp, Instr.loadAt, Instr.sureAddr, hv, hrun w hw]⟩
 case lookup S x k ok =>
  obtain ⟨v, y, hK, hr, hrun⟩ := look_S hs M (zcj F x) (zcj F k) (bs := zl8 t ⟨dst, .lookup S x k ok, ty, pos, after, guard⟩) fun b hb => by
   rw [inL_iff]; simp [zl8, Op.operands, zam, hb]
  exact ⟨v, y, hK, hr, fun w hw => by
   have hw := hw.resolve_left (by simp [zom, zch])
   simp [execOp, hrun w hw]⟩
 case call c =>
  obtain ⟨callee, args, argTypes⟩ := c
  simp only at hs
  split at hs
  · split at hs
    · rename_i x S hax hat
      obtain ⟨hc, hs⟩ := zaa hs
      have hx := zcj F x
      have ha1 : args = #[x] := by rw [← z3y (xs := args), hax]
      have ha2 : argTypes = #[S] := by rw [← z3y (xs := argTypes), hat]
      subst ha1 ha2
      have sl : ∀ {a : Option Addr} {n c : Nat} {e : TypeId}, P.underlying S = some (.slice e) → ev T x = .slice a n c → ∀ w : World, (execOp (ev T) ⟨dst, .call ⟨.builtin .len, #[x], #[S]⟩, ty, pos, after, guard⟩).run P w = .ok (.value (.int .i64 n)) w :=
       fun hu hv w => by simp [execOp, resolve, invoke, Go.builtin, Builtin.len_, goInt, hv, run_underlying hu]
      unfold okLen at hc
      split at hc
      · rename_i s hu he
        rw [he] at hx hs
        refine ⟨_, _, hs, .u (.int _ _), fun w _ => ?_⟩
        simp [execOp, resolve, invoke, Go.builtin, Builtin.len_, goInt, zyu hx, run_underlying hu]
      · rename_i e s rows hu he
        rw [he] at hx hs
        obtain ⟨a, c, hv, -⟩ := hx.l_inv
        exact ⟨_, _, hs, .u (.int _ _), fun w _ => sl hu hv w⟩
      · rename_i e s rows hu he
        rw [he] at hx hs
        obtain ⟨a, hv, -⟩ := hx.c_inv
        exact ⟨_, _, hs, .u (.int _ _), fun w _ => sl hu hv w⟩
      · rename_i e hu he
        rw [he] at hx hs
        have hv : ev T x = .slice none 0 0 := by generalize ev T x = v at hx; cases hx; rfl
        exact ⟨_, _, hs, .u (.int _ _), fun w _ => sl hu hv w⟩
      · rename_i e b hu he
        rw [he] at hx hs
        obtain ⟨L, hL, hv⟩ := hx.w_inv
        simp only [lenS] at hs
        split at hs
        · rename_i E sz rows hm
          obtain ⟨L', ch, g1, g2, g3⟩ := M.get (b := b) (by rw [hm]; simp)
          rw [hL] at g1; cases g1
          rw [hm] at g3
          cases g3 with
          | w own hn => exact ⟨_, _, hs, .u (.int _ _), fun w _ => by rw [← hn]; exact sl hu hv w⟩
        · rename_i E sz n l hm
          obtain ⟨L', ch, g1, g2, g3⟩ := M.get (b := b) (by rw [hm]; simp)
          rw [hL] at g1; cases g1
          rw [hm] at g3
          cases g3 with
          | cw hA hn hc hl h5 h6 => exact ⟨_, _, hs, .u (.int _ _), fun w _ => by rw [← hn]; exact sl hu hv w⟩
        · exact hs.elim
      · rename_i e b sz l n c hu he
        rw [he] at hx hs
        obtain ⟨L, a, cap, g1, g2, g3, g4, g5, g6, g7, hv⟩ := hx.v_inv
        exact ⟨_, _, hs, .u (.int _ _), fun w _ => sl hu hv w⟩
      · rename_i e b o n hu he
        rw [he] at hx hs
        obtain ⟨L, a, cap, g1, g2, g3, hv⟩ := hx.sl_inv
        exact ⟨_, _, hs, .u (.int _ _), fun w _ => sl hu hv w⟩
      · rename_i K E b hu he
        rw [he] at hx hs
        simp only [lenS] at hs
        split at hs
        · rename_i kt sz ag rows hm
          obtain ⟨L', ch, g1, g2, g3⟩ := M.get (b := b) (by rw [hm]; simp)
          rw [hm] at g3
          generalize hv : ev T x = v at hx
          cases hx with
          | m hL =>
            rw [hL] at g1; cases g1
            cases g3 with
            | p I R hl =>
              rename_i es clk mv
              have hn : es.size = rows.length := by rw [← R.len, ← zjk I.ent]; simp
              refine ⟨_, _, hs, .u (.int _ _), fun w hw => ?_⟩
              have hw := hw.resolve_left (by simp [zom, zch])
              have hb := hw _ _ (.inr ⟨b, _, by rw [inL_iff]; simp [zl8, Op.operands, Call.operands, zam, he, zae], g2, z2x _⟩)
              simp [execOp, resolve, invoke, Go.builtin, Builtin.len_, goInt, hv, run_underlying hu, MapKept.run_getObj_map hb, hn]
        · exact hs.elim
      · rename_i K E hu he
        rw [he] at hx hs
        generalize hv : ev T x = v at hx
        cases hx
        exact ⟨_, _, hs, .u (.int _ _), fun w _ => by simp [execOp, resolve, invoke, Go.builtin, Builtin.len_, goInt, hv, run_underlying hu]⟩
      · cases hc
    · exact hs.elim
  · split at hs
    · rename_i vs ha
      obtain ⟨v, hv, hr⟩ := XWp.sound hs
      refine ⟨v, _, hv, zl3 v, fun w _ => ?_⟩
      have e : args.map (ev T) = vs.toArray := by rw [← args_S F ha]; cases args; simp
      simp [execOp, resolve, invoke, Go.builtin, e, hr w]
    · exact hs.elim
  · split at hs
    · rename_i vs ha
      obtain ⟨v, hv, hr⟩ := XWp.sound hs
      refine ⟨v, _, hv, zl3 v, fun w _ => ?_⟩
      have e : args.map (ev T) = vs.toArray := by rw [← args_S F ha]; cases args; simp
      simp [execOp, resolve, invoke, Go.builtin, e, hr w]
    · exact hs.elim
  · exact hs.elim
end
section
variable {P : Program} {D D' : Fz} {ρ : List Loc} {m : Mem} {chs C : List zab} {h h' : zac} {T : List Value} {t : List V}
theorem zb4 : ∀ (m : Mem) (b : Nat) (a : AB), (ms m b a).length = m.length
 | [], _, _ => rfl
 | _ :: _, 0, _ => rfl
 | y :: m, b + 1, a => by simp [ms, zb4 m b a]
theorem zq9 : ∀ (m : Mem) (b : Nat) (a : AB), ms m b a = m.set b a
 | [], _, _ => rfl
 | _ :: _, 0, _ => rfl
 | y :: m, b + 1, a => by simp [ms, zq9 m b a]
theorem zkk (m : Mem) (i : Nat) : mg m i = (m[i]?).getD .x := by
 induction m generalizing i with
 | nil => rfl
 | cons a m ih => cases i with
   | zero => rfl
   | succ i => simpa [mg] using ih i
theorem zbh {m : Mem} {b c : Nat} {a : AB} (hn : b ≠ c) : mg (ms m b a) c = mg m c := by rw [zkk, zkk, zq9, z23 hn]
theorem z00 {m : Mem} {b : Nat} {a : AB} (hb : b < m.length) : mg (ms m b a) b = a := by rw [zkk, zq9, z3x hb]; rfl
theorem zni {m s : Mem} {b : Nat} (hb : b < m.length) : mg (m ++ s) b = mg m b := by rw [zkk, zkk, z2k hb]
theorem set_perm {α : Type} {l : List (List α)} {i : Nat} {c c' : List α} (hi : l[i]? = some c) : (l.set i c').flatten.Perm (c' :: l.eraseIdx i).flatten := by
 have hlt := (z2a.1 hi).1
 have := zg4 (C := l.set i c') (i := i) (c := c') (by rw [z3x hlt])
 rwa [List.eraseIdx_set_eq] at this
theorem SAt.front (M : SAt D ρ m chs C h) {b : Nat} {ch : zab} (hc : chs[b]? = some ch) : St D (ch :: (chs ++ C).eraseIdx b) h := M.st.pick b (zan hc)
theorem SAt.put (M : SAt D ρ m chs C h) {b : Nat} {L : Loc} {ab : AB} {ch ch' : zab} (hL : ρ[b]? = some L) (hc : chs[b]? = some ch) {C' : List zab} (S : St D' (ch' :: (chs ++ C').eraseIdx b) h') (l : Le D D') (he : Ent D' ρ L ab ch') :
 SAt D' ρ (ms m b ab) (chs.set b ch') C' h' where
 len := by rw [zb4]; exact M.len
 lch := by rw [zb4, z3d]; exact M.lch
 ent i L' ab' ch'' h1 h2 h3 := by
  by_cases hi : b = i
  · subst hi
    have hlt : b < chs.length := (z2a.1 hc).1
    rw [zq9, z3x (by rw [← M.lch]; exact hlt)] at h2
    rw [z3x hlt] at h3
    rw [hL] at h1
    cases h1; cases h2; cases h3
    exact he
  · rw [zq9, z23 hi] at h2
    rw [z23 hi] at h3
    have := (M.ent i L' ab' ch'' h1 h2 h3).mono l []
    rwa [z3a] at this
 st := by
  have hlt : b < chs.length := (z2a.1 hc).1
  refine S.perm ?_
  have := set_perm (l := chs ++ C') (c' := ch') (zan hc)
  rw [List.set_append_left _ _ hlt] at this
  exact this.symm
theorem SAt.mono (M : SAt D ρ m chs C h) (l : Le D D') {C' : List zab} (S : St D' (chs ++ C') h') : SAt D' ρ m chs C' h' where
 len := M.len
 lch := M.lch
 ent i L ab ch h1 h2 h3 := by
  have := (M.ent i L ab ch h1 h2 h3).mono l []
  rwa [z3a] at this
 st := S
theorem SAt.push {ch : zab} (M : SAt D ρ m chs (ch :: C) h) {L : Loc} {ab : AB} (he : Ent D (ρ ++ [L]) L ab ch) : SAt D (ρ ++ [L]) (m ++ [ab]) (chs ++ [ch]) C h where
 len := by simp [M.len]
 lch := by simp [M.lch]
 ent i L' ab' ch' h1 h2 h3 := by
  have hl := M.len
  have hc := M.lch
  by_cases hi : i < m.length
  · rw [z2k (by omega)] at h1 h2 h3
    exact (M.ent i L' ab' ch' h1 h2 h3).mono (.refl D) [L]
  · have hlt := (z2a.1 h2).1
    simp at hlt
    have hi : i = m.length := by omega
    subst hi
    rw [z2t (by omega), ← hl] at h1
    rw [z2t (by omega)] at h2
    rw [z2t (by omega), ← hc] at h3
    simp at h1 h2 h3
    subst h1 h2 h3
    exact he
 st := M.st.perm (by simp [z21])
variable {ro hr : List Nat}
theorem Nx.refl : Nx ro hr D ρ m chs D ρ m chs := ⟨.refl D, ⟨[], by simp⟩, fun _ _ _ => rfl, fun _ _ _ => rfl, z2r _⟩
theorem Nx.trans {D1 D2 : Fz} {ρ1 ρ2 : List Loc} {m1 m2 : Mem} {c1 c2 : List zab} (a : Nx ro hr D ρ m chs D1 ρ1 m1 c1) (b : Nx ro hr D1 ρ1 m1 c1 D2 ρ2 m2 c2) : Nx ro hr D ρ m chs D2 ρ2 m2 c2 where
 le := a.le.trans b.le
 pre := by obtain ⟨s, rfl⟩ := a.pre; obtain ⟨s', rfl⟩ := b.pre; exact ⟨s ++ s', by simp⟩
 keep i h1 h2 := by rw [b.keep i h1 (z5l h2 a.len), a.keep i h1 h2]
 same i h1 h2 := by rw [b.same i h1 (z5l h2 a.len), a.same i h1 h2]
 len := Nat.le_trans a.len b.len
theorem zo1 {a b : List Nat} {i : Nat} (h : inL a i = true) : inL (a ++ b) i = true := by rw [inL_iff] at h ⊢; simp [h]
theorem Nx.set {b : Nat} {ab : AB} {ch : zab} (l : Le D D') (hb : inL (hr ++ ro) b = false) : Nx ro hr D ρ m chs D' ρ (ms m b ab) (chs.set b ch) where
 le := l
 pre := ⟨[], by simp⟩
 keep i h1 h2 := by rw [z23]; rintro rfl; rw [zo1 h1] at hb; cases hb
 same i h1 h2 := zbh (by rintro rfl; rw [h1] at hb; cases hb)
 len := by rw [zb4]; exact z2r _
theorem Nx.push (M : SAt D ρ m chs C h) {s : List Loc} {a : Mem} {c : List zab} (l : Le D D') : Nx ro hr D ρ m chs D' (ρ ++ s) (m ++ a) (chs ++ c) where
 le := l
 pre := ⟨s, rfl⟩
 keep i h1 h2 := z2k (by rw [M.lch]; exact h2)
 same i h1 h2 := zni h2
 len := by simp
theorem Nx.rp {D' : Fz} {ρ' : List Loc} {m' : Mem} {chs' : List zab} (n : Nx ro hr D ρ m chs D' ρ' m' chs') {v : Value} {x : V} (hv : Rp D ρ v x) : Rp D' ρ' v x := by
 obtain ⟨s, rfl⟩ := n.pre; exact hv.mono n.le s
theorem Nx.rpL {D' : Fz} {ρ' : List Loc} {m' : Mem} {chs' : List zab} (n : Nx ro hr D ρ m chs D' ρ' m' chs') {v : List Value} {x : List V} (hv : RpL D ρ v x) : RpL D' ρ' v x := by
 obtain ⟨s, rfl⟩ := n.pre; exact hv.mono n.le s
theorem Nx.rpC {D' : Fz} {ρ' : List Loc} {m' : Mem} {chs' : List zab} (n : Nx ro hr D ρ m chs D' ρ' m' chs') {v : List Value} {x : List V} (hv : RpC D ρ v x) : RpC D' ρ' v x := by
 obtain ⟨s, rfl⟩ := n.pre; exact hv.mono n.le s
theorem toU_S {v : Value} {x : V} {u : U} {m' : Mem} (hs : toU (hr ++ ro) m x = some (u, m')) (M : SAt D ρ m chs C h) (hv : Rp D ρ v x) :
 ∃ D' chs', Nx ro hr D ρ m chs D' ρ m' chs' ∧ SAt D' ρ m' chs' C h ∧ Rd D' v u := by
 unfold toU at hs
 split at hs
 · cases hs; cases hv with | u hv => exact ⟨D, chs, .refl, M, hv⟩
 · cases hs; cases hv with | c hv => exact ⟨D, chs, .refl, M, hv⟩
 · cases hs; cases hv; exact ⟨D, chs, .refl, M, .nil _ _ _⟩
 · cases hs
   obtain ⟨p, o, h1, rfl⟩ := hv.q_inv
   exact ⟨D, chs, .refl, M, h1⟩
 · rename_i b
   split at hs
   · rename_i E sz rows hm
     cases hb : inL (hr ++ ro) b with
     | true => rw [hb] at hs; cases hs
     | false =>
       rw [hb] at hs
       cases hs
       obtain ⟨L, ch, h1, h2, h3⟩ := M.get (b := b) (by rw [hm]; simp)
       obtain ⟨L', h4, rfl⟩ := hv.w_inv
       rw [h1] at h4; cases h4
       rw [hm] at h3
       cases h3 with
       | w own hn =>
         obtain ⟨D', l, S, hr⟩ := own.freeze (M.front h2)
         rw [hn]
         exact ⟨D', _, .set l hb, M.put h1 h2 S.nil l .x, hr⟩
   · cases hs
 · cases hs
theorem zut : ∀ {xs : List V} {us : List U} {vs : List Value} {m m' : Mem} {D : Fz} {chs : List zab}, toUs (hr ++ ro) m xs = some (us, m') → SAt D ρ m chs C h → RpC D ρ vs xs →
 ∃ D' chs', Nx ro hr D ρ m chs D' ρ m' chs' ∧ SAt D' ρ m' chs' C h ∧ RdL D' vs us
 | [], us, vs, m, m', D, chs, hs, M, hv => by cases hs; cases hv; exact ⟨D, chs, .refl, M, .nil⟩
 | x :: xs, us, vs, m, m', D, chs, hs, M, hv => by
   simp only [toUs] at hs
   split at hs
   · rename_i u m1 h1
     split at hs
     · rename_i us' m2 h2
       cases hs
       cases hv with
       | cons a n b =>
         obtain ⟨D1, c1, n1, M1, r1⟩ := toU_S h1 M a
         obtain ⟨D2, c2, n2, M2, r2⟩ := zut h2 M1 (n1.rpC b)
         exact ⟨D2, c2, n1.trans n2, M2, .cons (r1.mono n2.le) r2⟩
       | n hl b => simp [toU] at h1
     · cases hs
   · cases hs
theorem zfb {S : TypeId} {v : Value} {x : V} (hv : Rp D ρ v x) : Rp D ρ v (zcn P S x) := by
 unfold zcn
 split
 · cases hv with | a h => exact .a (zic h)
 · split
   · cases hv; exact .nl
   · exact hv
 · exact hv
theorem zgs {S : TypeId} {v : Value} {x : V} {xs : List V} (hc : zdc P S x = some xs) (hv : Rp D ρ v x) : RpC D ρ v.cells.toList xs := zwi hc (zfb hv)
end
section
variable {P : Program} {D D' : Fz} {ρ : List Loc} {m : Mem} {chs C : List zab} {h h' : zac} {T : List Value} {t : List V} {ro hr : List Nat}
theorem zs6 {z : Value × Nat} {v : Value} {x : V} (hk : zsp z x = true) (hv : Rp D ρ v x) : single v = true := by
 obtain ⟨z, s⟩ := z
 unfold zsp at hk
 split at hk <;> first
  | (cases hk; done)
  | (cases hv with | u hr => cases hr <;> rfl)
  | (cases hv; rfl)
theorem zh4 : ∀ {xs : List V} {zs : List (Value × Nat)} {vs : List Value}, shL zs xs = true → RpC D ρ vs xs → vs.length = zs.length ∧ ∀ v ∈ vs, single v = true
 | [], zs, vs, hk, hv => by
   cases hv
   cases zs with
   | nil => exact ⟨rfl, by simp⟩
   | cons z zs => simp [shL] at hk
 | x :: xs, zs, vs, hk, hv => by
   cases hv with
   | n hl b =>
     rename_i k w l vs
     simp only [shL, z17] at hk
     obtain ⟨⟨⟨h1, h2⟩, h3⟩, h4⟩ := hk
     have := z2w h2
     obtain ⟨g1, g2⟩ := zh4 h4 b
     refine ⟨by simp at g1 ⊢; omega, fun v hv => ?_⟩
     rcases z2f.1 hv with hv | hv
     · obtain ⟨i, -, rfl⟩ := z20.1 hv; rfl
     · exact g2 v hv
   | cons a n b =>
     cases zs with
     | nil => cases x <;> first | exact absurd rfl (n _ _ _) | simp [shL] at hk
     | cons z zs =>
       have : zsp z x = true ∧ shL zs xs = true := by cases x <;> first | exact absurd rfl (n _ _ _) | (simp only [shL, z17] at hk; exact hk)
       obtain ⟨g1, g2⟩ := zh4 this.2 b
       refine ⟨by simp [g1], fun v hv => ?_⟩
       rcases z2e.1 hv with rfl | hv
       · exact zs6 this.1 a
       · exact g2 v hv
theorem zxw {v : Value} {x : V} {xs : List V} (hc : znv x = some xs) (hn : ∀ l, x ≠ .a l) (hv : Rp D ρ v x) : v.cells.toList = [v] := by
 cases hv with
 | a => exact absurd rfl (hn _)
 | u hr => cases hr <;> rfl
 | z => cases hc
 | t => cases hc
 | _ => rfl
theorem zxx {v : Value} {l : List V} (hv : Rp D ρ v (.a l)) : ∃ vs, v = .agg vs := by obtain ⟨vs, rfl, -⟩ := hv.a_inv; exact ⟨_, rfl⟩
theorem zy4 {S : TypeId} {zs : List (Value × Nat)} (hz : za9 P S = some zs) {v : Value} {x : V} {xs : List V} (hv : Rp D ρ v x) (hc : znv x = some xs) (ha : zmu P S x = true) {b o : Nat} {K : zac → Prop} (hn : v.cells.toList.length = zs.length)
 (hK : zdr b o v.cells.toList 0 h K) : zgu P S (some ⟨b, o, none⟩) v h K := by
 unfold za9 at hz
 unfold zgu
 split at hz
 · rename_i z hl
   cases hz
   rw [zfy hl]
   have hx : ∀ l, x ≠ .a l := fun l e => by subst e; simp [zmu, hl] at ha
   rw [zxw hc hx hv] at hK
   exact hK
 · rename_i zs' hl
   cases hz
   obtain ⟨cs, h1, h2⟩ := zdy hl
   rw [h1]
   have hx : ∃ l, x = .a l := by
    unfold zmu at ha
    rw [hl] at ha
    cases x <;> first | exact ⟨_, rfl⟩ | simp at ha
   obtain ⟨l, rfl⟩ := hx
   obtain ⟨vs, rfl⟩ := zxx hv
   show cond (z14 cs.length vs.toList.length) (zdr b o vs.toList 0 h K) False
   have : z14 cs.length vs.toList.length = true := by rw [h2, ← hn]; exact Nat.beq_refl _
   rw [this]; exact hK
 · cases hz
theorem zit : ∀ (l : List U) (o : Nat) (us : List U), o + us.length ≤ l.length → usp l o us = l.take o ++ us ++ l.drop (o + us.length)
 | l, o, [], h => by cases l <;> cases o <;> simp [usp]
 | [], o, u :: us, h => by simp at h
 | x :: l, 0, u :: us, h => by
   simp only [usp]
   rw [zit l 0 us (by simp at h ⊢; omega)]
   simp
 | x :: l, o + 1, u :: us, h => by
   simp only [usp]
   rw [zit l o (u :: us) (by simp at h ⊢; omega)]
   simp [show o + 1 + (us.length + 1) = (o + (us.length + 1)) + 1 by omega]
theorem zyp (l : List U) (o : Nat) (us : List U) (h : o + us.length ≤ l.length) : (usp l o us).length = l.length := by rw [zit l o us h]; simp; omega
theorem zyq (l : List U) (o : Nat) (us : List U) (h : o + us.length ≤ l.length) (j : Nat) : (usp l o us)[j]? = if j < o then l[j]? else if j < o + us.length then us[j - o]? else l[j]? := by
 rw [zit l o us h]
 have hl : (l.take o).length = o := by simp; omega
 split
 · rename_i hj; rw [z2m, z2k (by omega), z6u hj]
 · rename_i hj
   split
   · rename_i hj2; rw [z2m, z2t (by omega), hl, z2k (by omega)]
   · rename_i hj2
     rw [z2t (by simp; omega), z4i]
     congr 1
     simp [hl]; omega
theorem Own.poke {E sz c p q i o : Nat} {a : Option Addr} {rows : List (List U)} {r us : List U} {vs : List Value} {ch : zab} {CC : List zab} {K : zac → Prop} (x : Own D E sz a c rows ch) (S : St D (ch :: CC) h) (ha : a = some ⟨p, q, none⟩) (hi : rows[i]? = some r)
 (hv : RdL D vs us) (ho : o + us.length ≤ sz) (hK : ∀ ch' h', Own D E sz a c (rows.set i (usp r o us)) ch' → St D (ch' :: CC) h' → K h') : zdr p (q + i * sz + o) vs 0 h K := by
 subst ha
 cases x with
 | row b c arr rows v h1 h2 h3 h4 h5 =>
   obtain ⟨l⟩ := arr
   have hil := (z2a.1 hi).1
   have hrl : r.length = sz := h3 r (z2y hi)
   have hsz : i * sz + sz ≤ l.length := by
    have h1' : l.length = c * sz := by simpa using h1
    rw [h1']
    have := z3e sz (show i + 1 ≤ c by omega)
    rwa [z24] at this
   have hvl := hv.len
   refine S.st0 (z32 (by omega)) (z29.2 hv.single) fun h' S' => ?_
   have hl0 : 0 + i * sz + o + 0 + vs.length ≤ l.length := by omega
   refine hK _ h' (.row p c _ _ (fun k j => if k = i ∧ o ≤ j ∧ j < o + us.length then vs.getD (j - o) undef else v k j) ?_ (by simpa using h2) ?_ ?_ ?_) S'
   · simp only [z4h, zas]; simpa using h1
   · intro r' hr'
     rcases z6v hr' with hr' | rfl
     · exact h3 r' hr'
     · rw [zyp _ _ _ (by omega), hrl]
   · intro k j r' u hk hu
     simp only [z3o]
     rw [za7 _ _ _ _ hl0]
     by_cases hki : k = i
     · subst hki
       rw [z3x hil] at hk
       cases hk
       have hj : j < sz := by have := (z2a.1 hu).1; rwa [zyp _ _ _ (by omega), hrl] at this
       rw [zyq _ _ _ (by omega)] at hu
       by_cases c1 : j < o
       · rw [if_pos (by omega), if_neg (by omega)]
         rw [if_pos c1] at hu
         simpa using h4 k j r u hi hu
       · by_cases c2 : j < o + us.length
         · rw [if_neg (by omega), if_pos (by omega), if_pos ⟨rfl, by omega, c2⟩]
           rw [show k * sz + j - (0 + k * sz + o + 0) = j - o by omega]
           have : j - o < vs.length := by omega
           simp [this]
         · rw [if_neg (by omega), if_neg (by omega), if_neg (by omega)]
           rw [if_neg c1, if_neg c2] at hu
           simpa using h4 k j r u hi hu
     · rw [z23 (Ne.symm hki)] at hk
       have hj : j < sz := by have := (z2a.1 hu).1; rwa [h3 r' (z2y hk)] at this
       have hd : k * sz + sz ≤ i * sz ∨ i * sz + sz ≤ k * sz := by
        rcases Nat.lt_or_gt_of_ne hki with hlt | hlt
        · have := z3e sz (show k + 1 ≤ i by omega); rw [z24] at this; exact .inl this
        · have := z3e sz (show i + 1 ≤ k by omega); rw [z24] at this; exact .inr this
       have := h4 k j r' u hk hu
       simp only [z3o] at this
       simp only [hki, false_and, if_false]
       rcases hd with hd | hd
       · rw [if_pos (by omega)]; exact this
       · rw [if_neg (by omega), if_neg (by omega)]; exact this
   · intro k j r' u hk hu
     by_cases hki : k = i
     · subst hki
       rw [z3x hil] at hk
       cases hk
       rw [zyq _ _ _ (by omega)] at hu
       by_cases c1 : j < o
       · rw [if_neg (by omega)]; rw [if_pos c1] at hu; exact h5 k j r u hi hu
       · by_cases c2 : j < o + us.length
         · rw [if_pos ⟨rfl, by omega, c2⟩]
           rw [if_neg c1, if_pos c2] at hu
           obtain ⟨w, hw, hr⟩ := hv.get hu
           simp only [z4g, hw, z3b]; exact hr
         · rw [if_neg (by omega)]; rw [if_neg c1, if_neg c2] at hu; exact h5 k j r u hi hu
     · rw [z23 (Ne.symm hki)] at hk
       simp only [hki, false_and, if_false]; exact h5 k j r' u hk hu
theorem usp_all (r us : List U) (h : us.length = r.length) : usp r 0 us = us := by rw [zit _ _ _ (by omega)]; simp [h]
theorem RdL.ofAt {arr : List Value} : ∀ {us : List U} {o : Nat}, (∀ j u, us[j]? = some u → ∃ v, arr[o + j]? = some v ∧ Rd D v u) → RdL D ((arr.drop o).take us.length) us
 | [], o, h => by rw [z36, List.take_zero]; exact .nil
 | u :: us, o, h => by
   obtain ⟨v, hv, hr⟩ := h 0 u rfl
   rw [z4b] at hv
   obtain ⟨hlt, e⟩ := z2a.1 hv
   rw [z4w hlt, e, z2o, List.take_succ_cons]
   exact .cons hr (RdL.ofAt fun j w hw => by
    have := h (j + 1) w (by simpa using hw)
    rwa [show o + (j + 1) = o + 1 + j by omega] at this)
theorem zv1 {sz : Nat} : ∀ {rows : List (List U)} {k : Nat} {u : U}, (∀ r ∈ rows, r.length = sz) → rows.flatten[k]? = some u → ∃ (i j : Nat) (r : List U), rows[i]? = some r ∧ r[j]? = some u ∧ k = i * sz + j
 | [], k, u, _, h => by simp at h
 | r :: rows, k, u, hs, h => by
   rw [z2n] at h
   have hr := hs r (by simp)
   by_cases hk : k < r.length
   · rw [z2k hk] at h
     exact ⟨0, k, r, rfl, h, by omega⟩
   · rw [z2t (by omega)] at h
     obtain ⟨i, j, r', h1, h2, h3⟩ := zv1 (fun r hr => hs r (by simp [hr])) h
     exact ⟨i + 1, j, r', by simpa using h1, h2, by rw [z24]; omega⟩
theorem zru {sz : Nat} : ∀ {rows : List (List U)}, (∀ r ∈ rows, r.length = sz) → rows.flatten.length = rows.length * sz
 | [], _ => by simp
 | r :: rows, hs => by rw [z2n, z2z, zru (fun r hr => hs r (by simp [hr])), hs r (by simp), z2o, z24]; omega
theorem zwu : ∀ (l : List Value) (o : Nat) (vs r : List Value), o + vs.length ≤ l.length → zar (l ++ r) o vs = zar l o vs ++ r := fun l o vs r h => by
 apply z4o
 intro j
 rw [za7 _ _ _ _ (by rw [z2z]; omega)]
 by_cases hj : j < l.length
 · have e1 : (zar l o vs ++ r)[j]? = (zar l o vs)[j]? := z2k (by rw [zas]; exact hj)
   rw [e1, za7 _ _ _ _ h, z2k hj]
 · have e1 : (zar l o vs ++ r)[j]? = r[j - l.length]? := by rw [z2t (by rw [zas]; omega), zas]
   rw [e1, if_neg (by omega), if_neg (by omega), z2t (by omega)]
theorem Own.cells {E sz c p q : Nat} {a : Option Addr} {rows : List (List U)} {ch : zab} (x : Own D E sz a c rows ch) (ha : a = some ⟨p, q, none⟩) : q = 0 ∧ ∃ vs ps : List Value, ch = [(p, .cells (vs ++ ps).toArray E (0, 0))] ∧ RpC D ρ vs (rows.flatten.map V.u) ∧ vs.length = rows.length * sz ∧ (vs ++ ps).length = c * sz ∧ rows.length ≤ c := by
 subst ha
 cases x with
 | row b c arr rows v h1 h2 h3 h4 h5 =>
   have hr : RdL D ((arr.toList.drop 0).take rows.flatten.length) rows.flatten := RdL.ofAt fun k u hu => by
    obtain ⟨i, j, r, g1, g2, rfl⟩ := zv1 h3 hu
    refine ⟨v i j, ?_, h5 i j r u g1 g2⟩
    have := h4 i j r u g1 g2
    rw [z2l]
    simpa using this
   rw [z38] at hr
   refine ⟨rfl, arr.toList.take rows.flatten.length, arr.toList.drop rows.flatten.length, ?_, .ofU hr, ?_, ?_, h2⟩
   · rw [z4c]
   · rw [hr.len, zru h3]
   · rw [z4c]; simpa using h1
theorem sStore_S {vw : Bool} {S : TypeId} {a x : V} {va vx : Value} {KS : Mem → Prop} {K : zac → Prop} (hs : zqj P vw (hr ++ ro) S a x m KS) (M : SAt D ρ m chs C h) (ha : Rp D ρ va a) (hx : Rp D ρ vx x)
 (hK : ∀ D' m' chs' h', Nx ro hr D ρ m chs D' ρ m' chs' → SAt D' ρ m' chs' C h' → KS m' → K h') : ∃ ad, va = .pointer ad ∧ zgu P S ad vx h K := by
 unfold zqj at hs
 split at hs
 · rename_i zs xs hz hvc
   obtain ⟨hk, hs2⟩ := zaa hs
   clear hs
   have hs := hs2
   clear hs2
   simp only [z17] at hk
   have hnx := zfb (P := P) (S := S) hx
   have hcx := zgs hvc hx
   obtain ⟨g1, g2⟩ := zh4 hk.1 hcx
   have sk : ∀ {b o : Nat}, zdr b o vx.cells.toList 0 h K → zgu P S (some ⟨b, o, none⟩) vx h K := fun hh => zy4 hz hnx hvc hk.2 g1 hh
   split at hs
   · rename_i b o
     cases hb : inL (hr ++ ro) b with
     | true => rw [hb] at hs; exact hs.elim
     | false =>
       rw [hb] at hs
       simp only [cond_false] at hs
       split at hs
       · rename_i cells hm
         split at hs
         · rename_i l hp
           obtain ⟨L, hL, rfl⟩ := ha.r_inv
           obtain ⟨L', ch, h1, h2, h3⟩ := M.get (b := b) (by rw [hm]; simp)
           rw [hL] at h1; cases h1
           rw [hm] at h3
           cases h3 with
           | c hc =>
             rename_i arr S'
             obtain ⟨p1, p2⟩ := zu7 hcx hp hc
             refine ⟨_, rfl, sk ((M.front h2).st0 (l := arr) (z32 (by omega)) (z29.2 g2) fun h' S' => ?_)⟩
             rw [z4b] at S'
             exact hK D _ _ h' (.set (.refl D) hb) (M.put hL h2 S' (.refl D) (.c p2)) hs
         · exact hs.elim
       · exact hs.elim
   · rename_i b o w k
     cases hb : inL (hr ++ ro) b with
     | true => rw [hb] at hs; exact hs.elim
     | false =>
       rw [hb] at hs
       simp only [cond_false] at hs
       split at hs
       · rename_i cells y hm
         split at hs
         · rename_i k' w' l r hd
           obtain ⟨hw, hs2⟩ := zaa hs
           clear hs
           simp only [z17] at hw
           have := z18 hw.1
           have hk3 : k' = .i64 := by
            have := hw.2
            cases k' <;> first | rfl | simp [zap] at this
           subst this hk3
           split at hs2
           · rename_i l' hp
             obtain ⟨L, hL, k0, k1, rfl⟩ := ha.g_inv
             obtain ⟨L', ch, h1, h2, h3⟩ := M.get (b := b) (by rw [hm]; simp)
             rw [hL] at h1; cases h1
             rw [hm] at h3
             cases h3 with
             | c hc =>
               rename_i arr S'
               have hvy : vx.cells.toList = [.int .i64 y] := by
                generalize vx.cells.toList = q at hcx
                cases hcx with
                | cons a n b => cases b; rw [zl6 a]
               obtain ⟨pp, ss, rfl, hpp, hrr⟩ := zc1 hd hc
               cases hrr with
               | cons a n b => exact absurd rfl (n _ _ _)
               | @n _ _ _ vs _ hl b =>
                 have hnew : RpC D ρ ((l.set k.toNat y).map (.int .i64)) [.n .i64 w (l.set k.toNat y)] := by
                  have := RpC.n (D := D) (ρ := ρ) (k := .i64) (w := w) (l := l.set k.toNat y) (vs := []) (xs := []) (by simp [hl]) .nil
                  simpa using this
                 obtain ⟨p1, p2⟩ := zu7 hnew hp hc
                 refine ⟨_, rfl, sk ((M.front h2).st0 (l := pp ++ (l.map (.int .i64) ++ vs)) (z32 (by rw [hvy]; simp [hpp, hl]; omega)) (z29.2 g2) fun h' S' => ?_)⟩
                 rw [z4b, hvy] at S'
                 have e : zar (pp ++ (l.map (.int .i64) ++ vs)) (o + k.toNat) [.int .i64 y] = zar (pp ++ (l.map (.int .i64) ++ vs)) o ((l.set k.toNat y).map (.int .i64)) := by
                  apply z4o
                  intro j
                  rw [za7 _ _ _ _ (by simp [hpp, hl]; omega), za7 _ _ _ _ (by simp [hpp, hl])]
                  simp only [z2d, z3d, z2o, z36, hl]
                  by_cases c1 : j < o
                  · rw [if_pos (by omega), if_pos c1]
                  · rw [if_neg c1]
                    by_cases c2 : j < o + w
                    · rw [if_pos c2, z2i, z31]
                      by_cases c3 : j = o + k.toNat
                      · subst c3
                        rw [if_neg (by omega), if_pos (by omega), if_pos (by omega), if_pos (by omega)]
                        simp
                      · have c4 : (pp ++ (l.map (Value.int .i64) ++ vs))[j]? = (l.map (Value.int .i64))[j - o]? := by
                         rw [z2t (by omega), hpp, z2k (by simp; omega)]
                        rw [if_neg (show ¬ k.toNat = j - o by omega), c4, z2i]
                        by_cases c5 : j < o + k.toNat
                        · rw [if_pos c5]
                        · rw [if_neg c5, if_neg (by omega)]
                    · rw [if_neg c2, if_neg (by omega), if_neg (by omega)]
                 rw [e] at S'
                 exact hK D _ _ h' (.set (.refl D) hb) (M.put hL h2 S' (.refl D) (.c p2)) hs2
           · exact hs2.elim
         · exact hs.elim
       · exact hs.elim
   · rename_i b sz k o
     cases hb : inL (hr ++ ro) b with
     | true => rw [hb] at hs; exact hs.elim
     | false =>
       rw [hb] at hs
       simp only [cond_false] at hs
       -- cells that are one's own, told as such
       have goC : ∀ {E n : Nat} {cells l : List V} {L : Loc} {ch : zab} {bb : Nat} {vs ps : List Value}, ρ[b]? = some L → chs[b]? = some ch → L.a = some ⟨bb, 0, none⟩ → L.n = n → ch = [(bb, .cells (vs ++ ps).toArray E (0, 0))] → RpC D ρ vs cells → vs.length = n * sz → (vs ++ ps).length = L.c * sz → n ≤ L.c →
        znc xs (k.toNat * sz + o) cells = some l → KS (ms m b (.cw E sz n l)) → ∃ ad, va = .pointer ad ∧ zgu P S ad vx h K := by
        intro E n cells l L ch bb vs ps hL h2 hA hN hch hc hlen h5 h6 hp hk
        obtain ⟨L', p, q, hL', hA', k0, k1, rfl⟩ := ha.e_inv
        rw [hL] at hL'; cases hL'
        rw [hA] at hA'; cases hA'
        subst hch
        obtain ⟨p1, p2⟩ := zu7 hcx hp hc
        refine ⟨_, rfl, sk ((M.front h2).st0 (l := vs ++ ps) (z32 (by rw [z2z]; omega)) (z29.2 g2) fun h' S' => ?_)⟩
        rw [z4b, z2l, zwu _ _ _ _ p1] at S'
        exact hK D _ _ h' (.set (.refl D) hb) (M.put hL h2 S' (.refl D) (.cw hA hN p2 (by rw [zas, hlen]) (by rw [z2z, zas, ← z2z, h5]) h6)) hk
       split at hs
       · rename_i E sz' n cells hm
         obtain ⟨hw, hs2⟩ := zaa hs
         have := z18 hw
         subst this
         split at hs2
         · rename_i l hp
           obtain ⟨L, ch, h1, h2, h3⟩ := M.get (b := b) (by rw [hm]; simp)
           rw [hm] at h3
           cases h3 with
           | cw hA hN hc hlen h5 h6 => exact goC h1 h2 hA hN rfl hc hlen h5 h6 hp hs2
         · exact hs2.elim
       rotate_left
       · exact hs.elim
       rename_i E0 sz0 rows0 hm0
       cases hkb : (vw && zmp m xs) with
       | true =>
         rw [hkb] at hs
         simp only [cond_true] at hs
         obtain ⟨hw, hs2⟩ := zaa hs
         have := z18 hw
         subst this
         split at hs2
         · rename_i l hp
           obtain ⟨L, ch, h1, h2, h3⟩ := M.get (b := b) (by rw [hm0]; simp)
           rw [hm0] at h3
           cases h3 with
           | w own hn =>
             obtain ⟨L', p, q, hL', hA', k0, k1, -⟩ := ha.e_inv
             rw [h1] at hL'; cases hL'
             obtain ⟨rfl, vs, ps, e1, e2, e3, e4, e5⟩ := own.cells (ρ := ρ) hA'
             exact goC h1 h2 hA' hn e1 e2 e3 e4 e5 hp hs2
         · exact hs2.elim
       | false =>
       rw [hkb] at hs
       simp only [cond_false] at hs
       split at hs
       · rename_i us m1 hu
         obtain ⟨D1, c1, n1, M1, r1⟩ := zut hu M hcx
         obtain ⟨L, p, q, hL, hA, k0, k1, rfl⟩ := ha.e_inv
         split at hs
         · rename_i E sz' rows hm
           obtain ⟨hw, hs2⟩ := zaa hs
           clear hs
           have := z18 hw
           subst this
           obtain ⟨L', ch, h1, h2, h3⟩ := M1.get (b := b) (by rw [hm]; simp)
           rw [hL] at h1; cases h1
           rw [hm] at h3
           cases h3 with
           | w own hn =>
             have hlt : k.toNat < rows.length := by omega
             have hrl : rows[k.toNat].length = sz := by
              generalize L.a = A, L.c = cc at own
              cases own with
              | nil => simp at hlt
              | row b c arr rows v g1 g2 g3 g4 g5 => exact g3 _ (z4y _)
             have go : ∀ r : List U, rows[k.toNat]? = some r → o + us.length ≤ sz → KS (ms m1 b (.w E sz (rows.set k.toNat (usp r o us)))) → ∃ ad, Value.pointer (some ⟨p, q + k.toNat * sz + o, none⟩) = .pointer ad ∧ zgu P S ad vx h K := fun r hr hle hk => by
              refine ⟨_, rfl, sk (own.poke (M1.front h2) hA hr r1 hle fun ch' h' own' S' => ?_)⟩
              exact hK D1 _ _ h' (n1.trans (.set (.refl _) hb)) (M1.put hL h2 S' (.refl _) (.w own' (by rw [hn, z3d]))) hk
             cases hc : (z14 o 0 && z14 us.length sz) with
             | true =>
               rw [hc] at hs2
               simp only [z17] at hc
               have e1 := z18 hc.1
               have e2 := z18 hc.2
               subst e1
               exact go _ (z2c hlt) (by omega) (by rw [usp_all _ _ (by rw [e2, hrl])]; exact hs2)
             | false =>
               rw [hc] at hs2
               obtain ⟨hle, hs3⟩ := zaa hs2
               obtain ⟨-, r, hr, hk⟩ := zen hs3
               exact go r hr (z2w hle) hk
         · exact hs.elim
       · exact hs.elim
   · exact hs.elim
 · exact hs.elim
end
section
variable {P : Program} {D D' : Fz} {ρ : List Loc} {m : Mem} {chs C : List zab} {h h' : zac} {T : List Value} {t : List V} {ro hr : List Nat}
theorem St.mid {c : zab} {A B : List zab} (S : St D (c :: (A ++ B)) h) : St D (A ++ c :: B) h := S.perm (by simp [z21]; exact z3g _ _ _)
theorem St.unmid {c : zab} {A B : List zab} (S : St D (A ++ c :: B) h) : St D (c :: (A ++ B)) h := S.perm (by simp [z21]; exact z3g _ _ _)
theorem SAt.new (M : SAt D ρ m chs C h) {c : zab} {L : Loc} {ab : AB} (S : St D' (c :: (chs ++ C)) h') (l : Le D D') (he : Ent D' (ρ ++ [L]) L ab c) : SAt D' (ρ ++ [L]) (m ++ [ab]) (chs ++ [c]) C h' := (M.mono l S.mid).push he
theorem newB_S (M : SAt D ρ m chs C h) {vs : List Value} {xs : List V} {e : TypeId} (hc : RpC D ρ vs xs) {K : Nat → zac → Prop}
 (hK : ∀ b ρ' chs' h', Nx ro hr D ρ m chs D ρ' (m ++ [.c xs]) chs' → SAt D ρ' (m ++ [.c xs]) chs' C h' → Rp D ρ' (.pointer (some ⟨b, 0, none⟩)) (.r m.length 0) → K b h') : zkg h (.cells vs.toArray e) K := by
 refine M.st.new fun b h1 S => hK b (ρ ++ [⟨b, none, 0, 0, none⟩]) (chs ++ [_]) h1 (.push M (.refl D)) (M.new S (.refl D) (.c (hc.mono (.refl D) _))) (.r (L := ⟨b, none, 0, 0, none⟩) ?_)
 rw [← M.len]; simp
theorem boxC_S {S : TypeId} {v : Value} {x : V} {xs : List V} (hc : zdc P S x = some xs) (M : SAt D ρ m chs C h) (hv : Rp D ρ v x) {K : Nat → zac → Prop}
 (hK : ∀ b ρ' chs' h', Nx ro hr D ρ m chs D ρ' (m ++ [.c xs]) chs' → SAt D ρ' (m ++ [.c xs]) chs' C h' → Rp D ρ' (.pointer (some ⟨b, 0, none⟩)) (.r m.length 0) → K b h') : zkg h (.cells v.cells S) K := by
 have := zgs hc hv
 rw [← z3y (xs := v.cells)]
 exact newB_S M this hK
theorem box_S {S : TypeId} {v : Value} {x : V} {xs : List V} (hc : zdc P S x = some xs) (M : SAt D ρ m chs C h) (hv : Rp D ρ v x) {K : Nat → zac → Prop}
 (hK : ∀ b ρ' chs' h', Nx ro hr D ρ m chs D ρ' (m ++ [boxA S (bdE P S) xs]) chs' → SAt D ρ' (m ++ [boxA S (bdE P S) xs]) chs' C h' → Rp D ρ' (.pointer (some ⟨b, 0, none⟩)) (.r m.length 0) → K b h') : zkg h (.cells v.cells S) K := by
 cases hb : bdE P S with
 | none => rw [hb] at hK; exact boxC_S hc M hv hK
 | some e =>
   rw [hb] at hK
   simp only [boxA] at hK
   unfold boxB at hK
   split at hK
   · have hr := zgs hc hv
     have hz' : v.cells = #[.pointer none, .slice none 0 0] := by
      apply Array.ext'
      generalize v.cells.toList = l at hr
      cases hr with
      | cons h1 _ h2 =>
        cases h2 with
        | cons h3 _ h4 =>
          cases h4
          cases h3
          cases h1 with
          | u hr => cases hr; rfl
     rw [hz']
     refine M.st.new fun b h1 S1 => hK b (ρ ++ [⟨b, none, 0, 0, none⟩]) (chs ++ [_]) h1 (.push M (.refl D)) (M.new S1 (.refl D) (.o ⟨fun n hn => absurd hn (by simp), _, .inl rfl, .inl ⟨rfl, rfl⟩⟩)) (.r (L := ⟨b, none, 0, 0, none⟩) ?_)
     rw [← M.len]; simp
   · exact boxC_S hc M hv hK
theorem allocC_S {S : TypeId} {z : Value} (M : SAt D ρ m chs C h) {K : Nat → zac → Prop}
 (hK : ∀ b ρ' chs' h', Nx ro hr D ρ m chs D ρ' (m ++ [.c (match ofV z with | .a l => zid P S l | x => [zcn P S x])]) chs' → SAt D ρ' (m ++ [.c (match ofV z with | .a l => zid P S l | x => [zcn P S x])]) chs' C h' → Rp D ρ' (.pointer (some ⟨b, 0, none⟩)) (.r m.length 0) → K b h') : zkg h (.cells z.cells S) K := by
 have : RpC D ρ z.cells.toList (match ofV z with | .a l => zid P S l | x => [zcn P S x]) := by
  have key : ∀ (y : Value), (∀ cs, y ≠ .agg cs) → RpC D ρ y.cells.toList (match ofV y with | .a l => zid P S l | x => [zcn P S x]) := by
   intro y hy
   have h1 := zvk (D := D) (ρ := ρ) y
   have e1 : ofV y = zq3 y := by cases y <;> first | rfl | exact absurd rfl (hy _)
   have e2 : y.cells.toList = [y] := by cases y <;> first | rfl | exact absurd rfl (hy _)
   rw [e1, e2]
   have h2 := zfb (P := P) (S := S) h1.1
   have h3 : ∀ l, zq3 y ≠ .a l := by intro l; unfold zq3; split <;> simp
   cases hx : zq3 y <;> first
    | exact absurd hx (h3 _)
    | exact absurd hx (h1.2 _ _ _)
    | (rw [hx] at h2
       refine .cons h2 ?_ .nil
       intro k w l
       unfold zcn
       split <;> (try split) <;> simp)
  cases hz : z with
  | agg cs => exact zic (zgi cs.toList)
  | _ => rw [← hz]; exact key z (by rw [hz]; simp)
 rw [← z3y (xs := z.cells)]
 exact newB_S M this hK
theorem alloc_S {S : TypeId} {z : Value} (M : SAt D ρ m chs C h) {K : Nat → zac → Prop}
 (hK : ∀ b ρ' chs' h', Nx ro hr D ρ m chs D ρ' (m ++ [newA P S z]) chs' → SAt D ρ' (m ++ [newA P S z]) chs' C h' → Rp D ρ' (.pointer (some ⟨b, 0, none⟩)) (.r m.length 0) → K b h') : zkg h (.cells z.cells S) K := by
 unfold newA at hK
 split at hK
 · rename_i e hb hz
   have hz' : z.cells = #[.pointer none, .slice none 0 0] := Array.toList_inj.1 hz
   rw [hz']
   refine M.st.new fun b h1 S1 => hK b (ρ ++ [⟨b, none, 0, 0, none⟩]) (chs ++ [_]) h1 (.push M (.refl D)) (M.new S1 (.refl D) (.o ⟨fun n hn => absurd hn (by simp), _, .inl rfl, .inl ⟨rfl, rfl⟩⟩)) (.r (L := ⟨b, none, 0, 0, none⟩) ?_)
   rw [← M.len]; simp
 · exact allocC_S M hK
theorem zo5 {sz : Nat} : ∀ {rows : List (List U)} {i j : Nat} {r : List U} {u : U}, (∀ r ∈ rows, r.length = sz) → rows[i]? = some r → r[j]? = some u → rows.flatten[i * sz + j]? = some u
 | [], i, j, r, u, hs, hi, hj => by simp at hi
 | r0 :: rows, i, j, r, u, hs, hi, hj => by
   rw [z2n]
   cases i with
   | zero =>
     simp at hi; subst hi
     have := (z2a.1 hj).1
     rw [z4v, z2l, z2k this]; exact hj
   | succ i =>
     have h0 : r0.length = sz := hs r0 (by simp)
     rw [z2t (by rw [h0, z24]; omega), h0, show (i + 1) * sz + j - sz = i * sz + j by rw [z24]; omega]
     exact zo5 (fun r hr => hs r (by simp [hr])) (by simpa using hi) hj
theorem zhl {sz : Nat} : ∀ {rows : List (List U)}, (∀ r ∈ rows, r.length = sz) → rows.flatten.length = rows.length * sz
 | [], _ => by simp
 | r :: rows, hs => by rw [z2n, z2z, zhl (fun r hr => hs r (by simp [hr])), hs r (by simp), z2o, z24]; omega
theorem Own.ofL {E sz n b : Nat} {l : List Value} {rows : List (List U)} (hr : RdL D l rows.flatten) (hs : ∀ r ∈ rows, r.length = sz) (hn : rows.length = n) : Own D E sz (some ⟨b, 0, none⟩) n rows [(b, .cells l.toArray E (0, 0))] := by
 refine .row b n l.toArray rows (fun i j => l.getD (i * sz + j) undef) ?_ (by omega) hs (fun i j r u hi hj => ?_) (fun i j r u hi hj => ?_)
 · rw [z4h, hr.len, zhl hs, hn]
 · obtain ⟨v, hv, -⟩ := hr.get (zo5 hs hi hj)
   simp [hv]
 · obtain ⟨v, hv, h2⟩ := hr.get (zo5 hs hi hj)
   simpa [hv] using h2
theorem RdL.app {a b : List Value} {x y : List U} (h1 : RdL D a x) (h2 : RdL D b y) : RdL D (a ++ b) (x ++ y) := by
 induction h1 with
 | nil => exact h2
 | cons a _ ih => exact .cons a ih
theorem zv0 {sz : Nat} : ∀ {rows : List (List U)} {i : Nat} {us : List U}, (∀ r ∈ rows, r.length = sz) → i < rows.length → us.length = sz → (rows.set i us).flatten = usp rows.flatten (i * sz) us
 | [], i, us, hs, hi, hu => by simp at hi
 | r :: rows, i, us, hs, hi, hu => by
   have h0 : r.length = sz := hs r (by simp)
   have hl := zhl hs
   have h1 := z3e sz (show i + 1 ≤ (r :: rows).length from hi)
   rw [z24] at h1
   rw [zit _ _ _ (by rw [hl, hu]; exact h1)]
   cases i with
   | zero => simp [hu, ← h0]
   | succ i =>
     rw [List.set_cons_succ, z2n, zv0 (fun r hr => hs r (by simp [hr])) (by simpa using hi) hu]
     have hl2 := zhl (rows := rows) (sz := sz) fun r hr => hs r (by simp [hr])
     have h2 := z3e sz (show i + 1 ≤ rows.length by simp at hi; omega)
     rw [z24] at h2
     rw [zit _ _ _ (by rw [hl2, hu]; exact h2), z2n]
     rw [show (i + 1) * sz = r.length + i * sz by rw [z24, h0]; omega]
     rw [List.take_append, List.drop_append]
     simp [z30, h0]
     have e1 : List.take (sz + i * sz) r = r := z5d (by omega)
     have e2 : List.drop (sz + (i * sz + us.length)) r = [] := z4n (by omega)
     rw [e1, e2, z3f]
theorem zy6 {l vs : List Value} {x us : List U} (h1 : RdL D l x) (h2 : RdL D vs us) {o : Nat} (ho : o + us.length ≤ x.length) : RdL D (zar l o vs) (usp x o us) := by
 have hl := h1.len
 have hv := h2.len
 have e : zar l o vs = l.take o ++ vs ++ l.drop (o + vs.length) := by
  apply z4o
  intro j
  rw [za7 _ _ _ _ (by omega)]
  have hlo : (l.take o).length = o := by simp; omega
  split
  · rename_i hj; rw [z2m, z2k (by omega), z6u hj]
  · split
    · rw [z2m, z2t (by omega), hlo, z2k (by omega)]
    · rw [z2t (by simp; omega), z4i]
      congr 1
      simp [hlo]; omega
 rw [e, zit _ _ _ ho, hv]
 exact ((h1.split o).1.app h2).app (h1.split _).2
theorem zu2 {e : TypeId} {sz : Nat} (hsz : zaj P e = sz) : ∀ {ps : List (Nat × V)} {pv : List (Nat × Value)} {rows rows' : List (List U)} {m m' : Mem} {D : Fz} {chs : List zab} {l : List Value}, zm5 P (hr ++ ro) e rows m ps = some (rows', m') → SAt D ρ m chs C h →
 RdL D l rows.flatten → (∀ r ∈ rows, r.length = sz) → pv.map (·.1) = ps.map (·.1) → RpL D ρ (pv.map (·.2)) (ps.map (·.2)) →
 ∃ D' chs' l', Nx ro hr D ρ m chs D' ρ m' chs' ∧ SAt D' ρ m' chs' C h ∧ RdL D' l' rows'.flatten ∧ (∀ r ∈ rows', r.length = sz) ∧ rows'.length = rows.length ∧ zlo (fun j => some (j * sz, sz)) l pv = some l'
 | [], pv, rows, rows', m, m', D, chs, l, hs, M, hl, hrs, h1, h2 => by
   cases pv with
   | nil => cases hs; exact ⟨D, chs, l, .refl, M, hl, hrs, rfl, rfl⟩
   | cons _ _ => simp at h1
 | (i, x) :: ps, pv, rows, rows', m, m', D, chs, l, hs, M, hl, hrs, h1, h2 => by
   cases pv with
   | nil => simp at h1
   | cons p pv =>
     obtain ⟨i', v⟩ := p
     simp only [z2s, List.cons.injEq] at h1
     obtain ⟨rfl, h1⟩ := h1
     cases h2 with
     | cons hv h2 =>
       have hv : Rp D ρ v x := hv
       simp only [zm5] at hs
       split at hs
       · rename_i xs hxs
         split at hs
         · rename_i us m1 hu
           cases hb : (z14 us.length (zaj P e) && z19 (i' + 1) rows.length) with
           | false => rw [hb] at hs; cases hs
           | true =>
             rw [hb] at hs
             simp only [cond_true] at hs
             simp only [z17] at hb
             have hul := z18 hb.1
             rw [hsz] at hul
             have hi := z2w hb.2
             obtain ⟨D1, c1, n1, M1, r1⟩ := zut hu M (zgs hxs hv)
             have hfl := zhl hrs
             have hle : i' * sz + us.length ≤ rows.flatten.length := by
              have := z3e sz hi
              rw [z24] at this
              omega
             have hl1 := zy6 (hl.mono n1.le) r1 hle
             rw [← zv0 hrs hi hul] at hl1
             obtain ⟨D2, c2, l', n2, M2, r2, g1, g2, g3⟩ := zu2 hsz hs M1 hl1 (fun r hr => by
              rcases z6v hr with hr | rfl
              · exact hrs r hr
              · exact hul) h1 (n1.rpL h2)
             refine ⟨D2, c2, l', n1.trans n2, M2, r2, g1, by simpa using g2, ?_⟩
             have hvl := r1.len
             have hll := hl.len
             have e1 : z14 v.cells.toList.length sz = true := by rw [hvl, hul]; exact Nat.beq_refl _
             simp only [zlo, e1, z32 (show i' * sz + v.cells.toList.length ≤ l.length by omega), Bool.and_self, cond_true]
             exact g3
         · cases hs
       · cases hs
theorem zul {e : TypeId} {zr : List U} (hz : zrow P e = some zr) : ∃ i z, P.info? e = some i ∧ i.zero = some z ∧ RdL D z.cells.toList zr := by
 unfold zrow at hz
 cases hi : P.info? e with
 | none => rw [hi] at hz; simp at hz
 | some i =>
   rw [hi] at hz
   cases hzz : i.zero with
   | none => simp [hzz] at hz
   | some z =>
     simp only [Option.bind_some, hzz] at hz
     exact ⟨i, z, rfl, hzz, RpC.toU (ρ := []) hz (zln (zgi _))⟩
theorem zjg (z : Array Value) (n sz : Nat) (hz : z.size = sz) : (z2b (n * sz)).map (fun j => z[j % z.size]!) = (z2g n z.toList).flatten := by
 induction n with
 | zero => simp
 | succ n ih =>
   have hl : (z2g n z.toList).flatten.length = n * sz := by simp [hz]
   rw [z24, List.range_add, z28, ih, List.replicate_succ', z21, List.flatten_singleton, z3c]
   congr 1
   apply z4m (by simp [hz])
   intro j h1 h2
   have hj : j < z.size := by simpa using h2
   simp [hz]
   rw [z57 (by omega)]
   simp [hj]
theorem zzv {z : List Value} {zr : List U} (hz : RdL D z zr) : ∀ n, RdL D (z2g n z).flatten (z2g n zr).flatten
 | 0 => .nil
 | n + 1 => by rw [z4j, z4j, z2n, z2n]; exact hz.app (zzv hz n)
theorem Own.takeN {E sz c n : Nat} {a : Option Addr} {rows : List (List U)} {ch : zab} (x : Own D E sz a c rows ch) : Own D E sz a c (rows.take n) ch := by
 cases x with
 | nil => rw [z54]; exact .nil
 | row b c arr rows v h1 h2 h3 h4 h5 =>
   have key : ∀ {i : Nat} {r : List U}, (rows.take n)[i]? = some r → rows[i]? = some r := fun hi => by
    rw [z37] at hi
    split at hi
    · exact hi
    · cases hi
   exact .row b c arr _ v h1 (by rw [z33]; omega) (fun r hr => h3 r (z5o hr)) (fun i j r u hi hj => h4 i j r u (key hi) hj) fun i j r u hi hj => h5 i j r u (key hi) hj
theorem zrv {zs : List Value} {sz j : Nat} (hz : zs.length = sz) (hj : j < sz) : ∀ {n i : Nat}, i < n → (z2g n zs).flatten[i * sz + j]? = zs[j]?
 | 0, i, h => by omega
 | n + 1, 0, h => by rw [z4j, z2n, z4v, z2l, z2k (by omega)]
 | n + 1, i + 1, h => by
   rw [z4j, z2n, z2t (by rw [z24]; omega), show (i + 1) * sz + j - zs.length = i * sz + j by rw [z24]; omega]
   exact zrv hz hj (by omega)
theorem z1s {zs : List Value} {sz : Nat} (hz : zs.length = sz) (n : Nat) : (z2g n zs).flatten.length = n * sz := by
 induction n with
 | zero => simp
 | succ n ih => rw [z4j, z2n, z2z, ih, hz, z24, Nat.add_comm]
theorem Own.fill {E sz c l n : Nat} {a : Option Addr} {rows : List (List U)} {zr : List U} {zs : List Value} {ch : zab} (x : Own D E sz a c rows ch) (S : St D (ch :: C) h) (hz : RdL D zs zr) (hzl : zs.length = sz) (hn : 0 < n) (hln : l + n ≤ rows.length) {K' : zac → Prop}
 (hK : ∀ ch' h', Own D E sz a c (rows.take l ++ (z2g n zr ++ rows.drop (l + n))) ch' → St D (ch' :: C) h' → K' h') : ∃ b, a = some ⟨b, 0, none⟩ ∧ zdr b (l * sz) (z2g n zs).flatten 0 h K' := by
 cases x with
 | nil => simp at hln; omega
 | row b c arr rows v h1 h2 h3 h4 h5 =>
   refine ⟨b, rfl, ?_⟩
   obtain ⟨L⟩ := arr
   have hL : L.length = c * sz := by simpa using h1
   have hfl := z1s hzl n
   have hle : (l + n) * sz ≤ L.length := by rw [hL]; exact z3e _ (by omega)
   rw [z3i] at hle
   refine S.st0 (z32 (by rw [hfl]; omega)) (z29.2 fun u hu => ?_) fun h' S' => ?_
   · obtain ⟨r, hr, hu⟩ := List.mem_flatten.1 hu
     rw [z5f hr] at hu
     exact hz.single u hu
   · have hlen : (rows.take l ++ (z2g n zr ++ rows.drop (l + n))).length = rows.length := by simp; omega
     refine hK _ h' (.row b c _ _ (fun i j => if i < l then v i j else if i < l + n then zs.getD j undef else v i j) ?_ (by rw [hlen]; exact h2) ?_ ?_ ?_) S'
     · simp only [z4h, zas]; exact hL
     · intro r hr
       rcases z2f.1 hr with hr | hr
       · exact h3 r (z5o hr)
       · rcases z2f.1 hr with hr | hr
         · rw [z5f hr, ← hz.len, hzl]
         · exact h3 r (List.mem_of_mem_drop hr)
     · intro i j r u hi hj
       have hlen2 : (rows.take l).length = l := by rw [z33]; omega
       simp only [z3o]
       rw [za7 _ _ _ _ (by rw [hfl]; omega), hfl]
       by_cases hi1 : i < l
       · rw [z2k (by omega), z37, if_pos hi1] at hi
         have hjs : j < sz := by rw [← h3 r (z2y hi)]; exact (z2a.1 hj).1
         have : i * sz + j < l * sz := by have := z3e sz (show i + 1 ≤ l by omega); rw [z24] at this; omega
         rw [if_pos (by omega), if_pos hi1]
         simpa using h4 i j r u hi hj
       · rw [z2t (by omega), hlen2] at hi
         have hge : l * sz ≤ i * sz := z3e _ (by omega)
         rw [if_neg (by omega), if_neg hi1]
         by_cases hi2 : i < l + n
         · rw [z2k (by simp; omega)] at hi
           have hr := z2y hi
           have := z5f hr
           subst this
           have hjs : j < sz := by rw [← hzl, hz.len]; exact (z2a.1 hj).1
           have hlt : i * sz + j < l * sz + n * sz := by have := z3e sz (show i + 1 ≤ l + n by omega); rw [z24, z3i] at this; omega
           rw [if_pos (by omega), if_pos hi2]
           have e1 : i * sz + j - (l * sz + 0) = (i - l) * sz + j := by rw [Nat.sub_mul]; omega
           rw [e1]
           rw [zrv hzl hjs (by omega)]
           have : j < zs.length := by omega
           rw [z2c this, z4g, z2c this]; rfl
         · rw [z2t (by simp; omega), z4i] at hi
           have e : l + n + (i - l - (z2g n zr).length) = i := by simp; omega
           rw [e] at hi
           have hge2 : l * sz + n * sz ≤ i * sz := by have := z3e sz (show l + n ≤ i by omega); rw [z3i] at this; omega
           rw [if_neg (by omega), if_neg hi2]
           simpa using h4 i j r u hi hj
     · intro i j r u hi hj
       have hlen2 : (rows.take l).length = l := by rw [z33]; omega
       by_cases hi1 : i < l
       · rw [z2k (by omega), z37, if_pos hi1] at hi
         simp only [if_pos hi1]; exact h5 i j r u hi hj
       · rw [z2t (by omega), hlen2] at hi
         simp only [if_neg hi1]
         by_cases hi2 : i < l + n
         · rw [z2k (by simp; omega)] at hi
           have := z5f (z2y hi)
           subst this
           simp only [if_pos hi2]
           obtain ⟨w, hw, hr⟩ := hz.get hj
           rw [z4g, hw]; exact hr
         · rw [z2t (by simp; omega), z4i] at hi
           have e : l + n + (i - l - (z2g n zr).length) = i := by simp; omega
           rw [e] at hi
           simp only [if_neg hi2]; exact h5 i j r u hi hj
theorem zwq {S E sz : Nat} {a a2 : Option Addr} {m n cx : Nat} {r r2 : List (List U)} {CC : List zab} {K : Value → zac → Prop} (ty : ElTy P S E sz) (hn : n = r.length) (src1 : Src D h sz a r) (M : St D CC h) (src : Src D h sz a2 r2) (hm : m = r2.length) (hne : r2 ≠ []) (hb : r.length + r2.length ≤ 1000000)
 (hK : ∀ a' c' ch' h', Own D E sz a' c' (r ++ r2) ch' → St D (ch' :: CC) h' → K (.slice a' (r ++ r2).length c') h') : znx P #[S, S] S (.slice a n n) (.slice a2 m cx) h K := by
 obtain ⟨hu, i, z, hi, hsz, hby, hby2, hz, hzs⟩ := ty
 subst hm hn
 subst hsz
 obtain ⟨hs1, hsrc1⟩ := src1
 obtain ⟨hs2, hsrc2⟩ := src
 obtain ⟨b2, o2, w2, rfl, hw2⟩ := hsrc2.resolve_left hne
 have hpos : 0 < r2.length := List.length_pos_iff.2 hne
 have new : ∀ j v, (cellsOf r2.length i.size w2)[j]? = some v → hcell h ⟨b2, o2 + j, none⟩ = some v := fun j x hx => by
  obtain ⟨k, t, hk, ht, rfl, rfl⟩ := zc3 hx
  have hr2 : r2[k].length = i.size := hs2 _ (by simp)
  have := (hw2 k t r2[k] r2[k][t] (by simp [hk]) (by simp [hr2, ht])).1
  rw [← this, z30]
 have old : ∃ w1 : Nat → Nat → Value, (∀ i' j u r', r[i']? = some r' → r'[j]? = some u → Rd D (w1 i' j) u) ∧ ∀ {K' : Array Value → zac → Prop}, K' (cellsOf r.length i.size w1).toArray h → SWp P (Builtin.firstCells i.size r.length (.slice a r.length r.length)) h K' := by
  rcases hsrc1 with rfl | ⟨b1, o1, w1, rfl, hw1⟩
  · refine ⟨fun _ _ => undef, by simp, fun hK' => ?_⟩
    cases a with
    | none => exact hK'
    | some ad =>
      show SWp P (loadCells ad (0 * i.size)) h _
      rw [z4v]; exact hK'
  · refine ⟨w1, fun i' j u r' h1 h2 => (hw1 i' j r' u h1 h2).2, fun hK' => ?_⟩
    show SWp P (loadCells ⟨b1, o1, none⟩ (r.length * i.size)) h _
    rw [← zc2 r.length i.size w1]
    refine zb1 (fun j x hx => ?_) (by simpa using hK')
    obtain ⟨k, t, hk, ht, rfl, rfl⟩ := zc3 hx
    have hr1 : r[k].length = i.size := hs1 _ (by simp)
    have := (hw1 k t r[k] r[k][t] (by simp [hk]) (by simp [hr1, ht])).1
    rw [← this, z2l, z30]
 obtain ⟨w1, hr1, old⟩ := old
 unfold znx
 have hfc : ∀ {K' : Array Value → zac → Prop}, K' (cellsOf r2.length i.size w2).toArray h → SWp P (Builtin.firstCells i.size r2.length (.slice (some ⟨b2, o2, none⟩) r2.length cx)) h K' := by
  intro K' hK'
  show SWp P (loadCells ⟨b2, o2, none⟩ (r2.length * i.size)) h K'
  rw [← zc2 r2.length i.size w2]
  exact zb1 (fun j v hv => by simpa using new j v hv) (by simpa using hK')
 show SWp P (underlying S >>= _) h K
 refine zad (zat hu ?_)
 refine zad (zd6 hi ?_)
 refine zad (zad (zat hu ?_))
 refine zad ?_
 show SWp P (Builtin.lenOf (.slice (some ⟨b2, o2, none⟩) r2.length cx) >>= _) h K
 refine zad ?_
 show SWp P (if r.length + r2.length ≤ r.length then _ else _) h K
 rw [if_neg (by omega)]
 refine zad (za2 hi ?_)
 rw [if_neg (by rintro ⟨-, h1 | h1⟩; exact absurd h1 (by simp); exact hby h1)]
 refine zad ?_
 refine zad (za2 hi ?_)
 have hcap2 : ¬ Builtin.nextslicecap (r.length + r2.length) r.length * i.bytes > 2 ^ 48 := by
  have h1 := zfc (n := r.length + r2.length) (c := r.length) (by omega)
  have h2 := Nat.mul_le_mul h1 hby2
  omega
 rw [if_neg hcap2]
 refine zad ?_
 refine ⟨fun hf => (by cases hf), fun _ t => ?_⟩
 have hge : r.length + r2.length ≤ (Question.appendCap (r.length + r2.length) r.length E).cut t := by simp [Question.cut]
 generalize (Question.appendCap (r.length + r2.length) r.length E).cut t = c' at hge ⊢
 refine zad (za2 hi ?_)
 refine zad (zgq ?_)
 refine zad (old ?_)
 refine zad ?_
 show SWp P (Builtin.firstCells i.size r2.length (.slice (some ⟨b2, o2, none⟩) r2.length cx)) h _
 refine hfc ?_
 refine zad (zjo hi hz ?_)
 show zkg h (.cells ((cellsOf r.length i.size w1).toArray ++ (cellsOf r2.length i.size w2).toArray ++ Builtin.zeroCells z.cells (c' - (r.length + r2.length))) E) (fun b h1 => K (.slice (some ⟨b, 0, none⟩) (r.length + r2.length) c') h1)
 refine M.new fun b h1 S1 => ?_
 rw [← z2z]
 refine hK _ _ _ _ (.row b c' _ (r ++ r2) (fun i' j => if i' < r.length then w1 i' j else w2 (i' - r.length) j) ?_ (by simpa using hge) (fun q hq => (z2f.1 hq).elim (hs1 q) (hs2 q)) ?_ ?_) S1
 · simp only [Array.size_append, z4h, Builtin.zeroCells, Array.size_map, Array.size_range, zc2, hzs]
   rw [← z3i, ← z3i, show r.length + r2.length + (c' - (r.length + r2.length)) = c' by omega]
 · intro k j q u hk hj
   have e1 := (z2a.1 hk).1
   have e2 := (z2a.1 hj).1
   rw [(z2f.1 (z2y hk)).elim (hs1 q) (hs2 q)] at e2
   have := zly (n := (r ++ r2).length) (sz := i.size) (fun i' j => if i' < r.length then w1 i' j else w2 (i' - r.length) j) e1 e2
   rw [z2z, ← zlz] at this
   have hlt := (z2a.1 this).1
   rw [z5m (by simpa using hlt)]
   simpa using this
 · intro k j q u hk hj
   by_cases hkl : k < r.length
   · rw [z2k hkl] at hk
     simp only [if_pos hkl]; exact hr1 k j u q hk hj
   · rw [z2t (by omega)] at hk
     simp only [if_neg hkl]; exact (hw2 _ j q u hk hj).2
theorem app_cap {S E sz : Nat} {a a2 : Option Addr} {m n cx : Nat} {r r2 : List (List U)} {CC : List zab} {K : Value → zac → Prop} (ty : ElTy P S E sz) (hx : Rd D (.slice a n n) (.l sz r)) (M : St D CC h) (src : Src D h sz a2 r2) (hm : m = r2.length) (hne : r2 ≠ []) (hb : r.length + r2.length ≤ 1000000)
 (hK : ∀ a' c' ch' h', Own D E sz a' c' (r ++ r2) ch' → St D (ch' :: CC) h' → K (.slice a' (r ++ r2).length c') h') : znx P #[S, S] S (.slice a n n) (.slice a2 m cx) h K :=
 zwq ty hx.len.1 (hx.src M) M src hm hne hb hK
def RWp {α : Type} (P : Program) (s : Sem α) (h : zac) (K : α → zac → Prop) : Prop := ∀ w : World, w.heap = h → ∃ a w', s.run P w = .ok a w' ∧ K a w'.heap ∧ Same w w'
theorem SWp.r {α : Type} {s : Sem α} {K : α → zac → Prop} (hs : SWp P s h K) : RWp P s h K := fun w hw => SWp.sound hs w hw
theorem zf0 {t : List Value} {o : Oper} {h : zac} {K : Value → zac → Prop} (hh : RWp P (execOp (ev t) o) h (zkf P K)) {a : Act} (ha : a.eval = ev t) {w : World} (hw : w.heap = h)
 {next : Act → World → Prop} {Q : Exit → Act → World → Prop} (hn : ∀ v w', K v w'.heap → Same w w' → next (a.put o.dst v) w') : o.wp P a w next Q := by
 obtain ⟨n, w', hr, hK, hS⟩ := hh w hw
 unfold Oper.wp
 rw [ha, hr]
 cases n <;> simp only [zkf] at hK
 case value v => exact hn _ _ hK hS
 case skip => exact hn _ _ hK hS
 case enter f args =>
  have h1 := hK.2 w' rfl
  simp only [z3y] at h1
  exact h1.mono fun e w'' ⟨v, he, hv, hS'⟩ => by subst he; exact hn _ _ hv (hS.trans hS')
theorem MRel.set {ag : Bool} {mv : MV} {rows : List (MK × List U)} (hr : MRel D ag mv rows) (k : MK) {v : Value} {us : List U} {vs : List Value} (h1 : RdL D vs us) (h2 : cond ag (v = .agg vs.toArray) (vs = [v])) : MRel D ag (zyb mv k v) (zdf rows k us) := by
 induction hr with
 | nil => exact .cons h1 h2 .nil
 | cons a b c ih =>
   rename_i k' v' us' vs' m rows
   simp only [zyb, zdf]
   by_cases hk : k' = k
   · simp only [hk, if_true]; exact .cons h1 h2 c
   · simp only [hk, if_false]; exact .cons a b ih
theorem MRel.del {ag : Bool} {mv : MV} {rows : List (MK × List U)} (hr : MRel D ag mv rows) (k : MK) : MRel D ag (zxi mv k) (zof rows k) := by
 induction hr with
 | nil => exact .nil
 | cons a b c ih =>
   rename_i k' v' us' vs' m rows
   simp only [zxi, zof]
   by_cases hk : k' = k
   · simp only [hk, if_true]; exact c
   · simp only [hk, if_false]; exact .cons a b ih
theorem zu5 {sz : Nat} {k : MK} {us : List U} (hu : us.length = sz) : ∀ {rows : List (MK × List U)}, (∀ r ∈ rows, r.2.length = sz) → ∀ r ∈ zdf rows k us, r.2.length = sz
 | [], _, r, hr => by simp [zdf] at hr; subst hr; exact hu
 | q :: rows, h, r, hr => by
   simp only [zdf] at hr
   split at hr
   · rcases z2e.1 hr with rfl | hr
     · exact hu
     · exact h r (by simp [hr])
   · rcases z2e.1 hr with rfl | hr
     · exact h _ (by simp)
     · exact zu5 hu (fun r' h' => h r' (by simp [h'])) r hr
theorem zoe (k : MK) : ∀ (rows : List (MK × List U)), ∀ r ∈ zof rows k, r ∈ rows
 | [], r, hr => hr
 | q :: rows, r, hr => by
   simp only [zof] at hr
   split at hr
   · exact z2j _ hr
   · rcases z2e.1 hr with rfl | hr
     · exact z2p
     · exact z2j _ (zoe k rows r hr)
theorem ag_S {E : TypeId} {v : Value} {x : V} (ha : zmu P E x = true) (hv : Rp D ρ v x) (hc : ∃ xs, znv x = some xs) : cond (isAg P E) (v = .agg v.cells.toList.toArray) (v.cells.toList = [v]) := by
 unfold zmu at ha
 unfold isAg
 split at ha
 · rename_i h1
   rw [h1]
   obtain ⟨vs, rfl, -⟩ := hv.a_inv
   simp [Value.cells]
 · cases ha
 · rename_i hl hx
   rw [hl]
   simp only [cond_false]
   obtain ⟨xs, hc⟩ := hc
   cases hv with
   | a h => exact absurd rfl (hx _)
   | z => cases hc
   | t h => cases hc
   | u h => cases h <;> rfl
   | _ => rfl
 · cases ha
theorem KB.setb {b : Nat} {o : Obj} : KB [b] h (h.setIfInBounds b o) := ⟨by simp, fun c _ hc => by
 rw [Array.getElem?_setIfInBounds_ne]; simp at hc; exact fun e => hc e.symm⟩
theorem SAt.mapPut (M : SAt D ρ m chs C h) {b : Nat} {L : Loc} {es es' : Array MapEntry} {clk clk' : Nat} {kt : KT} {sz : Nat} {ag : Bool} {rows : List (MK × List U)} {mv : MV} (hL : ρ[b]? = some L) (hc : chs[b]? = some [(L.b, .map es clk)])
 (I : MpI kt es' clk' mv) (R : MRel D ag mv rows) (hl : ∀ r ∈ rows, r.2.length = sz) : SAt D ρ (ms m b (.p kt sz ag rows)) (chs.set b [(L.b, .map es' clk')]) C (h.setIfInBounds L.b (.map es' clk')) := by
 have S := M.front hc
 have hb : h[L.b]? = some (.map es clk) := S.get (z2x _)
 have S' : St D ([(L.b, .map es' clk')] :: (chs ++ C).eraseIdx b) (h.setIfInBounds L.b (.map es' clk')) := S.upd .setb (by simp [zbl hb]) (by simp) (by simp)
 exact M.put hL hc S' (.refl D) (.p I R hl)
theorem mapUpd_S {S : TypeId} {x k v : V} {vx vk vv : Value} {KS : Mem → Prop} (hs : zla P (hr ++ ro) S x k v m KS) (M : SAt D ρ m chs C h) (hx : Rp D ρ vx x) (hk : Rp D ρ vk k) (hv : Rp D ρ vv v) :
 RWp P (Instr.mapUpdate S vx vk vv) h fun _ h' => ∃ D' m' chs', Nx ro hr D ρ m chs D' ρ m' chs' ∧ SAt D' ρ m' chs' C h' ∧ KS m' := by
 unfold zla at hs
 split at hs
 · rename_i kt zs E zv k' b ht hk'
   obtain ⟨K, i, z, hT, hkt, hz, hi, hzz, rfl⟩ := zrc ht
   obtain ⟨hc0, hs1⟩ := zaa hs
   clear hs
   simp only [z17, z2u] at hc0
   have hvk := zvm hk' hk
   subst hvk
   split at hs1
   · rename_i xs hvc
     have hcx := zgs hvc hv
     have hnx := zfb (P := P) (S := E) hv
     split at hs1
     · rename_i us m1 hu
       obtain ⟨D1, chs1, n1, M1, r1⟩ := zut hu M hcx
       split at hs1
       · rename_i kt' sz ag rows hm
         obtain ⟨hc, hs2⟩ := zaa hs1
         clear hs1
         simp only [z17, beq_iff_eq] at hc
         obtain ⟨⟨⟨⟨c1, c2⟩, c3⟩, c4⟩, c5⟩ := hc
         have := zfz c1
         subst this
         subst c3
         have hag := ag_S c5 hnx ⟨xs, hvc⟩
         obtain ⟨L, ch, g1, g2, g3⟩ := M1.get (b := b) (by rw [hm]; simp)
         rw [hm] at g3
         cases hx with
         | m hL =>
           rw [g1] at hL; cases hL
           cases g3 with
           | p I R hl =>
             rename_i es clk mv
             intro w hw
             have hb : w.heap[L.b]? = some (.map es clk) := by rw [hw]; exact M1.own g2 (z2x _)
             obtain ⟨es', clk', hrun, I'⟩ := run_upd (P := P) hT hkt hb I hc0.1 vv
             have M2 := M1.mapPut g1 g2 I' (R.set k' r1 hag) (zu5 (z18 c4) hl)
             rw [← hw] at M2
             exact ⟨_, _, hrun, ⟨D1, _, _, n1.trans (.set (.refl D1) hc0.2), M2, hs2⟩, ⟨rfl, rfl, rfl, z2r _⟩⟩
       · exact hs1.elim
     · exact hs1.elim
   · exact hs1.elim
 · exact hs.elim
theorem mapDel_S {S S' ty : TypeId} {x k : V} {vx vk : Value} {KS : Mem → Prop} (hs : zlb P (hr ++ ro) S S' x k m KS) (M : SAt D ρ m chs C h) (hx : Rp D ρ vx x) (hk : Rp D ρ vk k) :
 RWp P (Builtin.delete_ #[S, S'] ty #[vx, vk]) h fun v h' => v = .tuple #[] ∧ ∃ m' chs', Nx ro hr D ρ m chs D ρ m' chs' ∧ SAt D ρ m' chs' C h' ∧ KS m' := by
 unfold zlb at hs
 split at hs
 · rename_i K1 E kt k' b hT hkt hk'
   obtain ⟨hc0, hs1⟩ := zaa hs
   clear hs
   simp only [z17, z2u] at hc0
   have := z18 hc0.1.1
   subst this
   have hvk := zvm hk' hk
   subst hvk
   split at hs1
   · rename_i kt' sz ag rows hm
     obtain ⟨c1, hs2⟩ := zaa hs1
     clear hs1
     have := zfz c1
     subst this
     obtain ⟨L, ch, g1, g2, g3⟩ := M.get (b := b) (by rw [hm]; simp)
     rw [hm] at g3
     cases hx with
     | m hL =>
       rw [g1] at hL; cases hL
       cases g3 with
       | p I R hl =>
         rename_i es clk mv
         intro w hw
         have hb : w.heap[L.b]? = some (.map es clk) := by rw [hw]; exact M.own g2 (z2x _)
         obtain ⟨es', hrun, I'⟩ := run_del (P := P) (ty := ty) hT hkt hb I hc0.1.2
         have M2 := M.mapPut g1 g2 I' (R.del k') fun r hr => hl r (zoe _ _ r hr)
         rw [← hw] at M2
         exact ⟨_, _, hrun, ⟨rfl, _, _, .set (.refl D) hc0.2, M2, hs2⟩, ⟨rfl, rfl, rfl, z2r _⟩⟩
   · exact hs1.elim
 · rename_i K1 E kt k' hT hkt hk'
   obtain ⟨hc0, hs1⟩ := zaa hs
   simp only [z17] at hc0
   have := z18 hc0.1
   subst this
   have hvk := zvm hk' hk
   subst hvk
   cases hx
   intro w hw
   refine ⟨.tuple #[], w, ?_, ⟨rfl, m, chs, .refl, hw ▸ M, hs1⟩, .refl w⟩
   simp [Builtin.delete_, run_underlying hT, zb6 hkt hc0.2, Result.andThen]
 · exact hs.elim
theorem ztw {v : Value} {x : V} (hk : isSg x = true) (hv : Rp D ρ v x) : single v = true := by
 cases hv with
 | u hr => cases hr <;> rfl
 | a => cases hk
 | t => cases hk
 | z => cases hk
 | _ => rfl
theorem zfe : ∀ {xs : List V} {vs : List Value}, xs.all isSg = true → RpC D ρ vs xs → ∀ v ∈ vs, single v = true
 | [], _, _, hr => by cases hr; simp
 | x :: xs, _, hk, hr => by
   simp only [List.all_cons, z17] at hk
   cases hr with
   | cons a n b =>
     intro v hv
     rcases z2e.1 hv with rfl | hv
     · exact ztw hk.1 a
     · exact zfe hk.2 b v hv
   | n hl b =>
     intro v hv
     rcases z2f.1 hv with hv | hv
     · obtain ⟨_, _, rfl⟩ := z20.1 hv; rfl
     · exact zfe hk.2 b v hv
theorem zs5 {q l : List Value} (h : ∀ (j : Nat) (v : Value), q[j]? = some v → l[j]? = some v) : ∃ r, l = q ++ r := by
 refine ⟨l.drop q.length, ?_⟩
 apply z4o
 intro j
 by_cases hj : j < q.length
 · rw [z2k hj, z2c hj]
   exact h j _ (z2c hj)
 · rw [z2t (by omega), z4i, show q.length + (j - q.length) = j by omega]
theorem app_cw {S e n c k cx b2 o2 : Nat} {a : Option Addr} {cs new : List Value} {ch : zab} {CC : List zab} {K : Value → zac → Prop} (ty : ElTy P S e (zaj P e)) (os : OwnS 0 e (zaj P e) h a n c cs) (hids : ch.map (·.1) = ownB a) (St0 : St D (ch :: CC) h)
 (hk : k ≠ 0) (hnew : ∀ j v, new[j]? = some v → hcell h ⟨b2, o2 + j, none⟩ = some v) (hlen : new.length = k * zaj P e) (hsg : ∀ v ∈ new, single v = true) (hbd : n + k ≤ 1000000)
 (hK : ∀ b' c' ps h', ((cs ++ new) ++ ps).length = c' * zaj P e → (cs ++ new).length = (n + k) * zaj P e → n + k ≤ c' → St D ([(b', .cells ((cs ++ new) ++ ps).toArray e (0, 0))] :: CC) h' → K (.slice (some ⟨b', 0, none⟩) (n + k) c') h') :
 znx P #[S, S] S (.slice a n c) (.slice (some ⟨b2, o2, none⟩) k cx) h K := by
 obtain ⟨hT, i, z, hi, hsz, hby, hby2, hz, hzs⟩ := ty
 rw [← hsz] at os hlen hzs
 have hb2 : (2 * (n + k) + 512) * i.bytes ≤ 281474976710656 := by
  have := Nat.mul_le_mul (show 2 * (n + k) + 512 ≤ 2000512 by omega) hby2
  omega
 refine app_own (P := P) (T := S) (E := e) (B := 0) (new := new) hT hi hz hzs hby os (z3j _) hnew hlen hsg hb2 fun a' c' h' os' k' hmv => ?_
 rcases os' with ⟨-, h0, -⟩ | ⟨b', l, rfl, -, g2, g3, g4, g5, g6⟩
 · omega
 · obtain ⟨ps, hps⟩ := zs5 (q := cs ++ new) (l := l.toList) fun j v hj => by simpa using g6 j v hj
   have hl : l = ((cs ++ new) ++ ps).toArray := by rw [← hps]
   subst hl
   refine hK b' c' ps h' (by rw [← hsz]; simpa using g3) (by rw [← hsz]; exact g5) g4 (St0.upd (by rw [hids]; exact k') (by simpa using g2) (by simp) fun p hp => ?_)
   rw [hids]
   simp only [z3v] at hp
   subst hp
   exact hmv b' 0 rfl
theorem appCS_S {S e : TypeId} {x y : V} {vx vy : Value} {KS : V → Mem → Prop} (ty : ElTy P S e (zaj P e)) (hs : appCS P (hr ++ ro) e x y m KS) (M : SAt D ρ m chs C h) (hx : Rp D ρ vx x) (hy : Rp D ρ vy y) : znx P #[S, S] S vx vy h (zc5 ro hr D ρ m chs C KS) := by
 unfold appCS at hs
 split at hs
 · rename_i b2 o n
   split at hs
   · rename_i cells hm2
     split at hs
     · rename_i l hd
       split at hs
       · rename_i new hp
         obtain ⟨hc, hs1⟩ := zaa hs
         clear hs
         have hs := hs1
         clear hs1
         simp only [z17, z2u] at hc
         have hn : n ≠ 0 := fun h0 => by rw [h0] at hc; simp at hc
         obtain ⟨L2, a2, cap2, hL2, ha2, -, rfl⟩ := hy.sl_inv
         obtain ⟨L2', ch2, g1, g2, g3⟩ := M.get (b := b2) (by rw [hm2]; simp)
         rw [hL2] at g1; cases g1
         rw [hm2] at g3
         cases g3 with
         | c hcc =>
           rename_i arr S'
           obtain ⟨p, s, rfl, hpl, hr1⟩ := zc1 hd hcc
           obtain ⟨p2, s2, rfl, hp2, hr2⟩ := zon hp hr1
           have ha2 := ha2 (by omega)
           subst ha2
           have hcell : ∀ j v, p2[j]? = some v → hcell h ⟨L2.b, o + j, none⟩ = some v := fun j v hj => by
            rw [zaz (M.own g2 (z2x _))]
            simp only [z3o]
            rw [z2t (by omega), show o + j - p.length = j by omega]
            exact zan hj
           have hsg := zfe hc.1 hr2
           split at hs
           · cases hx
             obtain ⟨hb, hK⟩ := zaa hs
             have hb := z2w hb
             refine app_cw ty (.nil _ _ _ _) (ch := []) rfl M.st.nil hn hcell hp2 hsg hb fun b' c' ps h' q1 q2 q3 S1 => ?_
             simp only [z3f, z2l] at q1 q2 q3 S1 ⊢
             refine ⟨D, ρ ++ [⟨0, some ⟨b', 0, none⟩, n, c', none⟩], _, chs ++ [_], _, .push M (.refl D), M.new S1 (.refl D) (.cw rfl rfl (hr2.mono (.refl D) _) q2 q1 q3), .w (L := ⟨0, some ⟨b', 0, none⟩, n, c', none⟩) ?_, hK⟩
             rw [← M.len]; simp
           · rename_i b
             cases hb : inL (hr ++ ro) b with
             | true => rw [hb] at hs; exact hs.elim
             | false =>
               rw [hb] at hs
               simp only [cond_false] at hs
               split at hs
               · rename_i e' s' k old hm
                 obtain ⟨hc3, hK⟩ := zaa hs
                 simp only [z17] at hc3
                 have e1 := z18 hc3.1.1
                 have e2 := z18 hc3.1.2
                 have e3 := z2w hc3.2
                 subst e1 e2
                 obtain ⟨L, hL, rfl⟩ := hx.w_inv
                 obtain ⟨L', ch, h1, h2, h3⟩ := M.get (b := b) (by rw [hm]; simp)
                 rw [hL] at h1; cases h1
                 rw [hm] at h3
                 cases h3 with
                 | @cw _ _ _ bb vs ps _ hA hN hcc3 hlen h5 h6 =>
                   rw [hA, hN]
                   have os : OwnS 0 e (zaj P e) h (some ⟨bb, 0, none⟩) k L.c vs := .inr ⟨bb, _, rfl, z3j _, M.own h2 (z2x _), by simpa using h5, h6, hlen, fun j v hj => by simp only [z3o]; exact zan hj⟩
                   refine app_cw ty os rfl (M.front h2) hn hcell hp2 hsg e3 fun b' c' ps' h' q1 q2 q3 S1 => ?_
                   have hlt := (z2a.1 h2).1
                   generalize hch : [(b', Obj.cells ((vs ++ p2) ++ ps').toArray e (0, 0))] = ch' at S1
                   have S2 : St D ([] :: ((chs ++ (ch' :: C)).eraseIdx b)) h' := by
                    rw [z4k hlt]
                    rw [z4k hlt] at S1
                    exact S1.mid.nil
                   have M1 := M.put hL h2 S2 (.refl D) .x
                   have he : Ent D (ρ ++ [⟨0, some ⟨b', 0, none⟩, k + n, c', none⟩]) ⟨0, some ⟨b', 0, none⟩, k + n, c', none⟩ (.cw e (zaj P e) (k + n) (old ++ new)) ch' := by
                    rw [← hch]
                    exact .cw rfl rfl (RpC.mono (.refl D) _ (hcc3.app hr2)) q2 q1 q3
                   have M2 := M1.push he
                   refine ⟨D, _, _, _, _, (Nx.set (.refl D) hb).trans (.push M1 (.refl D)), M2, .w (L := ⟨0, some ⟨b', 0, none⟩, k + n, c', none⟩) ?_, hK⟩
                   rw [← M.len]; simp
               · exact hs.elim
           · exact hs.elim
       · exact hs.elim
     · exact hs.elim
   · exact hs.elim
 · exact hs.elim
theorem appS_S {S R : TypeId} {x y : V} {vx vy : Value} {KS : V → Mem → Prop} (hs : appS P (hr ++ ro) S x y m KS) (M : SAt D ρ m chs C h) (hx : Rp D ρ vx x) (hy : Rp D ρ vy y) : znx P #[S, S] S vx vy h (zc5 ro hr D ρ m chs C KS) := by
 unfold appS at hs
 split at hs
 · rename_i e hu
   obtain ⟨hty, hs2⟩ := zaa hs
   clear hs
   have ty := ElTy.of hty
   obtain ⟨hT, i, z, hi, hsz, hby, hby2, hz, hzs⟩ := ty
   split at hs2
   · -- of nothing
     cases hy
     split at hs2
     · cases hx
       exact zfn (E := e) hT hi (z2r _) ⟨D, ρ, m, chs, _, .refl, M, .nl, hs2⟩
     · obtain ⟨a, c, rfl, hr⟩ := hx.l_inv
       exact zfn (E := e) hT hi hr.len.2 ⟨D, ρ, m, chs, _, .refl, M, hx, hs2⟩
     · obtain ⟨a, rfl, hr⟩ := hx.c_inv
       exact zfn (E := e) hT hi (z2r _) ⟨D, ρ, m, chs, _, .refl, M, hx, hs2⟩
     · obtain ⟨L, a, cap, g1, g2, g3, g4, g5, g6, g7, rfl⟩ := hx.v_inv
       exact zfn (E := e) hT hi g5 ⟨D, ρ, m, chs, _, .refl, M, hx, hs2⟩
     · exact hs2.elim
   · split at hs2
     · rename_i s new hsrc
       obtain ⟨hse, hs3⟩ := zaa hs2
       clear hs2
       have := z18 hse
       subst this
       obtain ⟨a2, c2, rfl, src⟩ := srcS_S hsrc M hy
       have ty : ElTy P S e (zaj P e) := ⟨hT, i, z, hi, hsz, hby, hby2, hz, hzs⟩
       split at hs3
       · cases hx
         obtain ⟨hb, hK⟩ := hs3
         refine app_w ty .nil M.st.nil src rfl rfl hb fun a' c' ch' h' own' S' => ?_
         refine ⟨D, ρ ++ [⟨0, a', new.length, c', none⟩], _, chs ++ [ch'], _, .push M (.refl D), M.new S' (.refl D) (.w own' rfl), .w (L := ⟨0, a', new.length, c', none⟩) ?_, hK⟩
         rw [← M.len]; simp
       · rename_i b
         cases hb : inL (hr ++ ro) b with
         | true => rw [hb] at hs3; exact hs3.elim
         | false =>
           rw [hb] at hs3
           simp only [cond_false] at hs3
           split at hs3
           · rename_i e' s' rows hm
             obtain ⟨hc, hok, hK⟩ := zaa hs3
             simp only [z17] at hc
             have e1 := z18 hc.1
             have e2 := z18 hc.2
             subst e1 e2
             obtain ⟨L, hL, rfl⟩ := hx.w_inv
             obtain ⟨L', ch, h1, h2, h3⟩ := M.get (b := b) (by rw [hm]; simp)
             rw [hL] at h1; cases h1
             rw [hm] at h3
             cases h3 with
             | w own hn =>
               refine app_w ty own (M.front h2) src hn rfl hok fun a' c' ch' h' own' S' => ?_
               have hlt := (z2a.1 h2).1
               have S2 : St D ([] :: ((chs ++ (ch' :: C)).eraseIdx b)) h' := by
                rw [z4k hlt]
                rw [z4k hlt] at S'
                exact S'.mid.nil
               have M1 := M.put hL h2 S2 (.refl D) .x
               have M2 := M1.push (L := ⟨0, a', (rows ++ new).length, c', none⟩) (ab := .w e (zaj P e) (rows ++ new)) (.w own' rfl)
               refine ⟨D, _, _, _, _, (Nx.set (.refl D) hb).trans (.push M1 (.refl D)), M2, .w (L := ⟨0, a', (rows ++ new).length, c', none⟩) ?_, hK⟩
               rw [← M.len]; simp
           · exact hs3.elim
       · rename_i s' rows
         obtain ⟨hc, hok, hK⟩ := zaa hs3
         have e2 := z18 hc
         subst e2
         obtain ⟨a, rfl, hrd⟩ := hx.c_inv
         split at hK
         · rename_i r0 new'
           refine app_cap ty hrd M.st src rfl (by simp) hok fun a' c' ch' h' own' S' => ?_
           refine ⟨D, ρ ++ [⟨0, a', (rows ++ (r0 :: new')).length, c', none⟩], _, chs ++ [ch'], _, .push M (.refl D), M.new S' (.refl D) (.w own' rfl), .w (L := ⟨0, a', (rows ++ (r0 :: new')).length, c', none⟩) ?_, hK⟩
           rw [← M.len]; simp
         · exact zfn (E := e) hT hi (z2r _) ⟨D, ρ, m, chs, _, .refl, M, hx, hK⟩
       · rename_i b s' l n c
         obtain ⟨hc, hs3⟩ := zaa hs3
         have e2 := z18 hc
         subst e2
         split at hs3
         · rename_i e' s2 rows hm
           obtain ⟨hc2, hs4⟩ := zaa hs3
           clear hs3
           simp only [z17] at hc2
           have e1 := z18 hc2.1
           have e3 := z18 hc2.2
           subst e1 e3
           obtain ⟨L, a, cap, g1, g2, g3, g4, g5, g6, g7, rfl⟩ := hx.v_inv
           split at hs4
           · exact zfn (E := e) hT hi g5 ⟨D, ρ, m, chs, _, .refl, M, hx, hs4⟩
           · rename_i r0 new'
             obtain ⟨L', ch, h1, h2, h3⟩ := M.get (b := b) (by rw [hm]; simp)
             rw [g1] at h1; cases h1
             rw [hm] at h3
             cases h3 with
             | w own hn =>
               cases c with
               | true =>
                 simp only [cond_true] at hs4
                 obtain ⟨hok, hK⟩ := hs4
                 have hcap := (g6 rfl).symm
                 subst hcap
                 have sp := (own.src fun p hp => M.own h2 hp).part (by omega) g4
                 have hpl : n = ((rows.drop l).take n).length := by rw [z33, List.length_drop, z5c (by omega)]
                 refine zwq ty hpl sp M.st src rfl (by simp) hok fun a' c' ch' h' own' S' => ?_
                 refine ⟨D, ρ ++ [⟨0, a', ((rows.drop l).take n ++ (r0 :: new')).length, c', none⟩], _, chs ++ [ch'], _, .push M (.refl D), M.new S' (.refl D) (.w own' rfl), .w (L := ⟨0, a', ((rows.drop l).take n ++ (r0 :: new')).length, c', none⟩) ?_, hK⟩
                 rw [← M.len]; simp
               | false =>
                 simp only [cond_false] at hs4
                 obtain ⟨hc4, hok, hK⟩ := zaa hs4
                 simp only [z17, z2u] at hc4
                 have hl0 := z18 hc4.1
                 subst hl0
                 have ha := g3 rfl
                 have hcap := g7 rfl rfl
                 subst ha hcap
                 have hpl : n = (rows.take n).length := by rw [z33, z5c (by omega)]
                 refine app_w ty (own.takeN (n := n)) (M.front h2) src hpl rfl hok fun a' c' ch' h' own' S' => ?_
                 have hlt := (z2a.1 h2).1
                 have S2 : St D ([] :: ((chs ++ (ch' :: C)).eraseIdx b)) h' := by
                  rw [z4k hlt]
                  rw [z4k hlt] at S'
                  exact S'.mid.nil
                 have M1 := M.put g1 h2 S2 (.refl D) .x
                 have M2 := M1.push (L := ⟨0, a', (rows.take n ++ (r0 :: new')).length, c', none⟩) (ab := .w e (zaj P e) (rows.take n ++ (r0 :: new'))) (.w own' rfl)
                 refine ⟨D, _, _, _, _, (Nx.set (.refl D) hc4.2).trans (.push M1 (.refl D)), M2, .w (L := ⟨0, a', (rows.take n ++ (r0 :: new')).length, c', none⟩) ?_, hK⟩
                 rw [← M.len]; simp
         · exact hs3.elim
       · exact hs3.elim
     · exact appCS_S ⟨hT, i, z, hi, hsz, hby, hby2, hz, hzs⟩ hs2 M hx hy
 · exact hs.elim
theorem ztu {S e : TypeId} {zr : List U} {l : Int} (hu : P.underlying S = some (.slice e)) (hz : zrow P e = some zr) (hty : zo7 P S e (zaj P e) = true) (hzl : zr.length = zaj P e) (h0 : 0 ≤ l) (h1 : l ≤ 1000000) (M : SAt D ρ m chs C h) {K : Value → zac → Prop}
 (hK : ∀ b ρ' chs' h', Nx ro hr D ρ m chs D ρ' (m ++ [.w e (zaj P e) (z2g l.toNat zr)]) chs' → SAt D ρ' (m ++ [.w e (zaj P e) (z2g l.toNat zr)]) chs' C h' → Rp D ρ' (.slice (some ⟨b, 0, none⟩) l.toNat l.toNat) (.w m.length) → K (.slice (some ⟨b, 0, none⟩) l.toNat l.toNat) h') :
 SWp P (Instr.makeSlice S (.int .i64 l) (.int .i64 l)) h K := by
 obtain ⟨-, i, z, hi, hsz, hby, hby2, hiz, hzs⟩ := ElTy.of hty
 obtain ⟨i', z', hi', hiz', hzr⟩ := zul (D := D) hz
 rw [hi] at hi'; cases hi'
 rw [hiz] at hiz'; cases hiz'
 have hw : IntKind.i64.wrap l = l := w64 (by omega) (by omega)
 unfold Instr.makeSlice
 refine zad (zat hu ?_)
 refine zad ?_
 change SWp P (asInt _ >>= _) h K
 refine zad ?_
 change SWp P (typeInfo e >>= _) h K
 refine zad (za2 hi ?_)
 simp only [hw]
 have hbl : ¬ ((i.bytes : Int) * l > 2 ^ 48) := by
  have h2 : (i.bytes : Int) * l ≤ 1000 * 1000000 := Int.mul_le_mul (by omega) h1 h0 (by omega)
  omega
 rw [if_neg (by simp; omega)]
 refine zad (zgq ?_)
 refine zad (zd6 hi ?_)
 have go : ∀ arr : Array Value, arr.toList = (z2g l.toNat z.cells.toList).flatten → SWp P (do let a ← newRow e arr; pure (.slice (some a) l.toNat l.toNat)) h K := by
  intro arr harr
  show zkg h (.cells arr e) (fun b h1 => K (.slice (some ⟨b, 0, none⟩) l.toNat l.toNat) h1)
  have hr1 : RdL D arr.toList (z2g l.toNat zr).flatten := by rw [harr]; exact zzv hzr _
  refine M.st.new fun b h1 S1 => ?_
  have own : Own D e (zaj P e) (some ⟨b, 0, none⟩) l.toNat (z2g l.toNat zr) [(b, .cells arr e (0, 0))] := by
   have := Own.ofL (E := e) (b := b) (sz := zaj P e) (n := l.toNat) hr1 (fun r hr => by rw [z5f hr]; exact hzl) (by simp)
   rwa [z3y] at this
  refine hK b (ρ ++ [⟨0, some ⟨b, 0, none⟩, l.toNat, l.toNat, none⟩]) (chs ++ [_]) h1 (.push M (.refl D)) (M.new S1 (.refl D) (.w own (by simp))) (.w (L := ⟨0, some ⟨b, 0, none⟩, l.toNat, l.toNat, none⟩) ?_)
  rw [← M.len]; simp
 by_cases hn : l.toNat * i.size = 0
 · rw [if_pos hn]
   refine zad ?_
   refine go _ ?_
   rcases Nat.mul_eq_zero.1 hn with h2 | h2
   · rw [h2]; simp
   · have : z.cells.toList = [] := z3w (by rw [Array.length_toList, hzs, ← hsz, h2])
     rw [this, hn]; simp
 · rw [if_neg hn]
   refine zad (zjo hi hiz ?_)
   refine go _ ?_
   rw [← zjg z.cells l.toNat i.size (by rw [hzs, hsz])]
   simp
theorem zy8 {e : TypeId} {n : Nat} {ps : List (Nat × V)} {pv : List (Nat × Value)} {l : List V} (hl : zgc P e n ps = some l) (h1 : pv.map (·.1) = ps.map (·.1)) (h2 : RpL D ρ (pv.map (·.2)) (ps.map (·.2))) :
 ∃ i z l', P.info? e = some i ∧ i.zero = some z ∧ zlo (fun j => some (j * zaj P e, zaj P e)) ((z2b (n * i.size)).map fun j => z.cells[j % z.cells.size]!) pv = some l' ∧ RpC D ρ l' l := by
 unfold zgc zcells at hl
 cases hi : P.info? e with
 | none => rw [hi] at hl; simp at hl
 | some i =>
   rw [hi] at hl
   cases hz : i.zero with
   | none => simp [hz] at hl
   | some z =>
     simp only [Option.bind_some, hz] at hl
     cases hzb : z14 z.cells.size (zaj P e) with
     | false => rw [hzb] at hl; simp at hl
     | true =>
     rw [hzb] at hl
     simp only [cond_true] at hl
     have hzs : z.cells.size = i.size := by rw [z18 hzb]; simp [zaj, hi]
     have hrep : ∀ n : Nat, RpC D ρ (z2g n z.cells.toList).flatten (z2g n (fixN (zhh P 9 e) (z.cells.toList.map zq3))).flatten := fun n => by
      induction n with
      | zero => exact .nil
      | succ n ih => rw [z4j, z4j, z2n, z2n]; exact (zln (zgi _)).app ih
     obtain ⟨l', g1, g2⟩ := zo6 (pv := pv) hl (hrep n) (by rw [h1, z3c]; rfl) (by
      rw [z3c]
      have : ∀ (xs : List V) {vs : List Value}, RpL D ρ vs xs → RpL D ρ vs (xs.map (zcn P e)) := fun xs => by
       induction xs with
       | nil => intro vs h; cases h; exact .nil
       | cons x xs ih => intro vs h; cases h with | cons a b => exact .cons (zfb a) (ih b)
      have := this _ h2
      rw [z3c] at this
      exact this)
     exact ⟨i, z, l', rfl, hz, by rw [zjg z.cells n i.size hzs]; exact g1, g2⟩
theorem clear_S {S : TypeId} {x : V} {v : Value} {KS : Mem → Prop} {ty : TypeId} (hs : zr5 P (hr ++ ro) S x m KS) (M : SAt D ρ m chs C h) (hx : Rp D ρ v x) {K : Value → zac → Prop}
 (hK : ∀ m' chs' h', Nx ro hr D ρ m chs D ρ m' chs' → SAt D ρ m' chs' C h' → KS m' → K (.tuple #[]) h') : SWp P (Builtin.clear_ #[S] ty #[v]) h K := by
 unfold zr5 at hs
 split at hs
 · rename_i e hu
   split at hs
   · rename_i b sz l n c
     obtain ⟨hc, hs⟩ := zaa hs
     simp only [z17, z2u] at hc
     have hse := z18 hc.1.2
     have hn0 : 0 < n := by
      cases n with
      | zero => simp at hc
      | succ n => omega
     split at hs
     · rename_i E s rows zr hm hz
       obtain ⟨hc2, hk⟩ := zaa hs
       simp only [z17] at hc2
       have e1 := z18 hc2.1
       have e2 := z18 hc2.2
       subst e1
       obtain ⟨L, a, cap, g1, g2, g3, g4, g5, g6, g7, rfl⟩ := hx.v_inv
       obtain ⟨L', ch, h1, h2, h3⟩ := M.get (b := b) (by rw [hm]; simp)
       rw [g1] at h1; cases h1
       rw [hm] at h3
       obtain ⟨i, z, hi, hiz, hzr⟩ := zul (D := D) hz
       obtain ⟨p, q, hA, ha⟩ := g4 hn0
       cases h3 with
       | w own hn =>
         have hzl : z.cells.toList.length = s := by rw [hzr.len, e2]
         have hle : l + n ≤ rows.length := by omega
         have hlen : L.n = (rows.take l ++ (z2g n zr ++ rows.drop (l + n))).length := by rw [hn]; simp; omega
         obtain ⟨b', hb', hst⟩ := own.fill (M.front h2) hzr hzl hn0 hle (K' := fun h' => K (.tuple #[]) h') fun ch' h' own' S' => by
          have M2 := M.put (ab := .w E s (rows.take l ++ (z2g n zr ++ rows.drop (l + n)))) g1 h2 S' (.refl D) (.w own' hlen)
          exact hK _ _ _ (Nx.set (.refl D) hc.1.1) M2 hk
         rw [hA] at hb'; cases hb'
         subst ha
         show SWp P (underlying S >>= _) h K
         refine zad (zat hu ?_)
         obtain ⟨n, rfl⟩ : ∃ k, n = k + 1 := ⟨n - 1, by omega⟩
         refine zad (zjo hi hiz ?_)
         have hzc : (Builtin.zeroCells z.cells (n + 1)).toList = (z2g (n + 1) z.cells.toList).flatten := by
          rw [← zjg z.cells (n + 1) z.cells.size rfl]
          simp [Builtin.zeroCells]
         rw [hzc]
         rw [z2l]
         exact zad (zbd hst)
     · exact hs.elim
   · exact hs.elim
 · exact hs.elim
theorem callv_S {X : Fz → List Loc → Prop} {call : zb2} (hcall : zf9 P X ro hr call) (hx : X D ρ) {f : V} {fv : Value} {g : FuncId} {a c : List V} {as' : Array Value} {args : List V} {KS : V → Mem → Prop} {ty : TypeId} (hf : Rp D ρ fv (.f g a c)) (hs : call g (a ++ args ++ c) m KS) (M : SAt D ρ m chs C h) (ha : RpL D ρ as'.toList args) :
 ∃ first cap, fv = .func (.func g) first cap ∧ Run P g (first ++ as' ++ cap).toList h (zc5 ro hr D ρ m chs C KS) := by
 obtain ⟨xs, ys, rfl, h1, h2⟩ := hf.f_inv
 refine ⟨_, _, rfl, ?_⟩
 have : (xs.toArray ++ as' ++ ys.toArray).toList = xs ++ as'.toList ++ ys := by simp
 rw [this]
 exact hcall hx hs M ((h1.app ha).app h2)
theorem eff_S {vw : Bool} {X : Fz → List Loc → Prop} {call : zb2} (hcall : zf9 P X ro hr call) (hx : X D ρ) {o : Oper} {KS : V → Mem → Prop} (hs : effS P vw (hr ++ ro) call t m o KS) (M : SAt D ρ m chs C h) (F : RpL D ρ T t) : RWp P (execOp (ev T) o) h (zkf P (zc5 ro hr D ρ m chs C KS)) := by
 obtain ⟨dst, op, ty, pos, after, guard⟩ := o
 cases op <;> simp only [effS] at hs
 case store S a x =>
  refine SWp.r ?_
  obtain ⟨ad, hv, hk⟩ := sStore_S (K := fun h' => zc5 ro hr D ρ m chs C KS undef h') hs M (zcj F a) (zcj F x) fun D' m' chs' h' n M' hk => ⟨D', ρ, m', chs', .z, n, M', .z, hk⟩
  exact zbz (H := ⟨[], [], []⟩) (by simp only [zrx, hv]; exact hk)
 case box S x =>
  refine SWp.r ?_
  split at hs
  · rename_i xs hx
    exact zbz (H := ⟨[], [], []⟩) (by
     simp only [zrx]
     exact box_S hx M (zcj F x) fun b ρ' chs' h' n M' hv => ⟨D, ρ', _, chs', _, n, M', hv, hs⟩)
  · exact hs.elim
 case alloc S =>
  refine SWp.r ?_
  split at hs
  · rename_i z hz
    exact zbz (H := ⟨[], [], []⟩) (by
     simp only [zrx, hz]
     exact alloc_S M fun b ρ' chs' h' n M' hv => ⟨D, ρ', _, chs', _, n, M', hv, hs⟩)
  · exact hs.elim
 case buildSlice S n ps =>
  refine SWp.r ?_
  have hpm : (ps.toList.map fun p => (p.1, ev T p.2)).map (·.1) = (ps.toList.map fun p => (p.1, evS t p.2)).map (·.1) := by simp [z3c, Function.comp_def]
  have hps : RpL D ρ ((ps.toList.map fun p => (p.1, ev T p.2)).map (·.2)) ((ps.toList.map fun p => (p.1, evS t p.2)).map (·.2)) := by
   have h := zt3 F (ps.toList.map (·.2)); rw [z3c, z3c] at h; rw [z3c, z3c]; exact h
  split at hs
  · rename_i e hu
    have cellsOk : ∀ {l : List V}, zgc P e n (ps.toList.map fun p => (p.1, evS t p.2)) = some l → (z19 (n * zaj P e) 16777216 && !z14 (n * zaj P e) 0) = true → KS (.sl m.length 0 n) (m ++ [.c l]) →
     SWp P (execOp (ev T) ⟨dst, .buildSlice S n ps, ty, pos, after, guard⟩) h (zkf P (zc5 ro hr D ρ m chs C KS)) := fun {l} hl hcc hk => by
     obtain ⟨i, z, l', hi, hiz, hf, hr⟩ := zy8 (ρ := ρ) hl hpm hps
     have hsz : zaj P e = i.size := by simp [zaj, hi]
     rw [hsz] at hcc hf
     refine zbz (H := ⟨[], [], []⟩) ?_
     simp only [zrx, hu, hi, hiz, hcc, cond_true, hf]
     refine M.st.new fun b h1 S1 => ?_
     refine ⟨D, ρ ++ [⟨b, none, 0, 0, none⟩], _, chs ++ [_], _, .push M (.refl D), M.new (L := ⟨b, none, 0, 0, none⟩) S1 (.refl D) (.c (RpC.mono (.refl D) _ hr)), .sl (L := ⟨b, none, 0, 0, none⟩) ?_ (fun _ => rfl) (z2r _), hk⟩
     rw [← M.len]; simp
    split at hs
    · rename_i zr hz
      cases hc : (z19 (n * zaj P e) 16777216 && !z14 (n * zaj P e) 0 && z14 zr.length (zaj P e)) with
      | true =>
        rw [hc] at hs
        simp only [cond_true] at hs
        simp only [z17] at hc
        split at hs
        · rename_i rows m1 hr1
          have hr1 : zm5 P (hr ++ ro) e (z2g n zr) m (ps.toList.map fun p => (p.1, evS t p.2)) = some (rows, m1) := by
           cases hkt : (vw && keepT P e) with
           | true => rw [hkt] at hr1; cases hr1
           | false => rw [hkt] at hr1; exact hr1
          obtain ⟨i, z, hi, hiz, hzr⟩ := zul (D := D) hz
          have hsz : zaj P e = i.size := by simp [zaj, hi]
          have hzl : z.cells.size = i.size := by
           have := hzr.len
           rw [z18 hc.2, hsz] at this
           simpa using this
          have hzr2 : zr.length = i.size := by rw [z18 hc.2, hsz]
          obtain ⟨D1, c1, l', n1, M1, g0, g1, g2, g3⟩ := zu2 (sz := i.size) hsz hr1 M (zzv hzr n) (fun r hr => by rw [z5f hr]; exact hzr2) hpm hps
          rw [← zjg z.cells n i.size hzl] at g3
          refine zbz (H := ⟨[], [], []⟩) ?_
          have hcc : (z19 (n * i.size) 16777216 && !z14 (n * i.size) 0) = true := by rw [← hsz]; simpa using hc.1
          simp only [zrx, hu, hi, hiz, hcc, cond_true, g3]
          have hn : rows.length = n := by simpa using g2
          refine M1.st.new fun b h1 S1 => ?_
          have own : Own D1 e i.size (some ⟨b, 0, none⟩) n rows [(b, .cells l'.toArray e (0, 0))] := Own.ofL g0 g1 hn
          refine ⟨D1, ρ ++ [⟨0, some ⟨b, 0, none⟩, n, n, none⟩], _, c1 ++ [_], _, n1.trans (.push M1 (.refl _)), M1.new S1 (.refl _) (.w (L := ⟨0, some ⟨b, 0, none⟩, n, n, none⟩) (by rw [hsz]; exact own) hn.symm), .w (L := ⟨0, some ⟨b, 0, none⟩, n, n, none⟩) ?_, hs⟩
          rw [← M1.len]; simp
        · split at hs
          · rename_i l hl
            exact cellsOk hl (by simpa using hc.1) hs
          · exact hs.elim
      | false =>
        rw [hc] at hs
        simp only [cond_false] at hs
        obtain ⟨hc2, hk⟩ := zaa hs
        simp only [z17] at hc2
        have hn0 := z18 hc2.1
        have hp0 := z18 hc2.2
        have hp : ps = #[] := Array.eq_empty_of_size_eq_zero hp0
        subst hn0 hp
        obtain ⟨i, z, hi, hiz, hzr⟩ := zul (D := D) hz
        simp only [execOp, Instr.buildSlice]
        refine SWp.bind (zad (zat hu ?_))
        refine zad (zd6 hi ?_)
        rw [if_neg (by simp)]
        rw [if_pos (by simp)]
        refine zad ?_
        have hf : ∀ (f : Nat → Option (Nat × Nat)) (c : Array Value), Instr.fill f c (Array.map (fun (x : Nat × Operand) => (x.fst, ev T x.snd)) #[]).toList = some c := fun f c => by simp [Instr.fill]
        show SWp P (match Instr.fill (fun i_1 => some (i_1 * i.size, i.size)) (Array.map (fun x => (#[] : Array Value)[x % (#[] : Array Value).size]!) (Array.range (0 * i.size))) (Array.map (fun (x : Nat × Operand) => (x.fst, ev T x.snd)) #[]).toList with
         | some cells => (do let a ← newRow e cells; pure (Value.slice (some a) 0 0)) | _ => stuck "buildSlice: a part of the wrong size") h _
        rw [hf]
        refine zad ?_
        show zkg h (.cells _ e) (fun b h1 => zkf P (zc5 ro hr D ρ m chs C KS) (.value (.slice (some ⟨b, 0, none⟩) 0 0)) h1)
        refine M.st.new fun b h1 S1 => ?_
        exact ⟨D, ρ, m, chs, _, .refl, M.mono (.refl D) S1.drop, .c (.nil _ _ _), hk⟩
    · split at hs
      · rename_i l hl
        obtain ⟨hcc, hk⟩ := zaa hs
        exact cellsOk hl hcc hk
      · exact hs.elim
  · exact hs.elim
 case makeSlice S l c =>
  refine SWp.r ?_
  split at hs
  · rename_i e l' c' hu hl hc
    split at hs
    · rename_i zr hz
      obtain ⟨hcc, h0, h1, h2, hK⟩ := zaa hs
      simp only [z17] at hcc
      subst h2
      have e1 := zcj F l
      have e2 := zcj F c
      rw [hl] at e1
      rw [hc] at e2
      simp only [execOp, zl6 e1, zl6 e2]
      exact SWp.bind (ztu hu hz hcc.1 (z18 hcc.2) h0 h1 M fun b ρ' chs' h' n M' hv => ⟨D, ρ', _, chs', _, n, M', hv, hK⟩)
    · exact hs.elim
  · exact hs.elim
 case call c =>
  obtain ⟨callee, args, argTypes⟩ := c
  have hargs : args.map (ev T) = (args.toList.map (ev T)).toArray := by apply Array.ext'; rw [Array.toList_map]
  simp only at hs
  split at hs
  · rename_i f
    split at hs
    · rename_i g a cc he
      have hf := zcj F f
      rw [he] at hf
      refine SWp.r ?_
      obtain ⟨first, cap, hv, hrun⟩ := callv_S (f := .z) (ty := 0) (as' := args.map (ev T)) hcall hx hf hs M (by rw [Array.toList_map]; exact zt3 F _)
      simp only [execOp, resolve, hv, Deferred.ofValue]
      exact zpg hrun.1 hrun
    · exact hs.elim
  · split at hs
    · rename_i x y S S' hax hat
      refine SWp.r ?_
      obtain ⟨hc, hs2⟩ := zaa hs
      have := z18 hc
      subst this
      have hat : argTypes = #[S, S] := by rw [← z3y (xs := argTypes), hat]
      have hm : args.map (ev T) = #[ev T x, ev T y] := by rw [hargs, hax]; rfl
      subst hat
      have := appS_S (R := ty) hs2 M (zcj F x) (zcj F y)
      simp only [execOp, resolve, hm]
      exact SWp.bind (SWp.bind this)
    · exact hs.elim
  · split at hs
    · rename_i x y S S' hax hat
      have hat : argTypes = #[S, S'] := by rw [← z3y (xs := argTypes), hat]
      have hm : args.map (ev T) = #[ev T x, ev T y] := by rw [hargs, hax]; rfl
      subst hat
      intro w hw
      obtain ⟨v, w', hrun, ⟨rfl, m', chs', n, M', hk⟩, hS⟩ := mapDel_S (ty := ty) hs M (zcj F x) (zcj F y) w hw
      refine ⟨.value (.tuple #[]), w', ?_, ⟨D, ρ, m', chs', .t [], n, M', .t (vs := []) .nil, hk⟩, hS⟩
      simp [execOp, resolve, invoke, Go.builtin, hm, hrun, Result.andThen]
    · exact hs.elim
  · split at hs
    · rename_i x S hax hat
      refine SWp.r ?_
      have hat : argTypes = #[S] := by rw [← z3y (xs := argTypes), hat]
      have hm : args.map (ev T) = #[ev T x] := by rw [hargs, hax]; rfl
      subst hat
      have := clear_S (ty := ty) hs M (zcj F x) (K := fun v h' => zkf P (zc5 ro hr D ρ m chs C KS) (.value v) h') fun m' chs' h' n M' hk => ⟨D, ρ, m', chs', .t [], n, M', .t (vs := []) .nil, hk⟩
      simp only [execOp, resolve, hm]
      exact SWp.bind (SWp.bind this)
    · exact hs.elim
  · exact hs.elim
 case makeMap S r =>
  cases r with
  | some r => exact hs.elim
  | none =>
    simp only at hs
    split at hs
    · rename_i kt zs E zv ht
      refine SWp.r (zbz (H := ⟨[], [], []⟩) ?_)
      simp only [zrx]
      refine M.st.new fun b h1 S1 => ?_
      refine ⟨D, ρ ++ [⟨b, none, 0, 0, none⟩], _, chs ++ [_], _, .push M (.refl D), M.new S1 (.refl D) (.p (L := ⟨b, none, 0, 0, none⟩) (.nil kt) .nil (by simp)), .m (L := ⟨b, none, 0, 0, none⟩) ?_, hs⟩
      rw [← M.len]; simp
    · exact hs.elim
 case mapUpdate S x k v =>
  intro w hw
  obtain ⟨u, w', hrun, ⟨D', m', chs', n, M', hk⟩, hS⟩ := mapUpd_S hs M (zcj F x) (zcj F k) (zcj F v) w hw
  refine ⟨.skip, w', ?_, ⟨D', ρ, m', chs', .z, n, M', .z, hk⟩, hS⟩
  simp [execOp, hrun, Result.andThen]
 all_goals exact hs.elim
end
section
variable {P : Program} {D D' : Fz} {ρ : List Loc} {m : Mem} {chs C : List zab} {h h' : zac} {T : List Value} {t : List V} {ro hr : List Nat}
theorem Own.take {E sz c : Nat} {a : Option Addr} {rows : List (List U)} {ch : zab} (x : Own D E sz a c rows ch) (r : Nat) : Own D E sz a c (rows.take r) ch := by
 cases x with
 | nil => simp only [z54]; exact .nil
 | row b c arr rows v h1 h2 h3 h4 h5 =>
   have sub : ∀ {i : Nat} {q : List U}, (rows.take r)[i]? = some q → rows[i]? = some q := fun hi => by
    rw [z37] at hi; split at hi; exact hi; cases hi
   exact .row b c arr _ v h1 (by simp; omega) (fun q hq => h3 q (z5o hq)) (fun i j q u hi hj => h4 i j q u (sub hi) hj) fun i j q u hi hj => h5 i j q u (sub hi) hj
theorem frz_nums {b S : Nat} {xs : List Int} (hd : D b = some (.cells (xs.map (Value.int .i64)).toArray S (0, 0))) : Rd D (.slice (some ⟨b, 0, none⟩) xs.length xs.length) (.l 1 (xs.map ziz)) := by
 have := Rd.row (D := D) b 0 xs.length (xs.map (Value.int .i64)).toArray S (0, 0) (xs.map ziz) 1 (fun i _ => .int .i64 (xs.getD i 0)) hd (by simp) (fun r hr => by obtain ⟨x, -, rfl⟩ := z20.1 hr; rfl)
  (fun i j r u hi hj => by
   rw [z2i] at hi
   obtain ⟨x, hx, rfl⟩ := z3k.1 hi
   have : j = 0 := by cases j with | zero => rfl | succ j => simp [ziz] at hj
   subst this
   simp [hx])
  (fun i j r u hi hj => by
   rw [z2i] at hi
   obtain ⟨x, hx, rfl⟩ := z3k.1 hi
   have : j = 0 := by cases j with | zero => rfl | succ j => simp [ziz] at hj
   subst this
   simp [ziz] at hj
   subst hj
   simp only [z4g, hx, z3b]
   exact .int _ _)
 simpa using this
theorem cut_S {o : Oper} {KS : V → Mem → Prop} {p : Prop} (hc : cutS P (hr ++ ro) t m o KS = some p) (hs : p) (M : SAt D ρ m chs C h) (F : RpL D ρ T t) :
 ∃ v D' ρ' m' chs' x, Nx ro hr D ρ m chs D' ρ' m' chs' ∧ SAt D' ρ' m' chs' C h ∧ Rp D' ρ' v x ∧ KS x m' ∧ ∀ w, (execOp (ev T) o).run P w = .ok (.value v) w := by
 obtain ⟨dst, op, ty, pos, after, guard⟩ := o
 cases op <;> simp only [cutS] at hc <;> try (cases hc; done)
 case slice S x lo hi mx =>
  cases mx with
  | some mx => simp at hc
  | none =>
    simp only at hc
    have hx := zcj F x
    split at hc
    · rename_i b he
      rw [he] at hx
      split at hc
      · rename_i e E sz rows hu hm
        split at hc
        · rename_i l r hl hr'
          simp only [Option.some.injEq] at hc
          subst hc
          cases hb : (inL (hr ++ ro) b || !(z14 sz (zaj P e) && !z14 sz 0)) with
          | true => rw [hb] at hs; exact hs.elim
          | false =>
            rw [hb] at hs
            simp only [cond_false] at hs
            simp only [z49, Bool.not_eq_false', z17, z2u] at hb
            have hse := z18 hb.2.1
            subst hse
            have hne : zaj P e ≠ 0 := fun h0 => by rw [h0] at hb; simp at hb
            have hnz : ∀ {A : Prop}, A → nz (zaj P e) A := fun hA => by unfold nz; rw [hb.2.2]; exact hA
            obtain ⟨L, hL, hv⟩ := hx.w_inv
            obtain ⟨L', ch, h1, h2, h3⟩ := M.get (b := b) (by rw [hm]; simp)
            rw [hL] at h1; cases h1
            rw [hm] at h3
            cases h3 with
            | w own hn =>
              have hcap := own.len
              have hr2 : bnd T hi (L.n : Int) = some r := by rw [hn]; exact zdb F hr'
              cases lo with
              | none =>
                simp only at hs
                obtain ⟨g0, g1, hK⟩ := hs
                have M1 := M.put (C' := ch :: C) hL h2 (ch' := []) (by
                 have hlt := (z2a.1 h2).1
                 have S' := M.front h2
                 rw [z4k hlt] at S' ⊢
                 exact S'.mid.nil) (.refl D) .x
                have M2 := M1.push (L := ⟨0, L.a, r.toNat, L.c, none⟩) (ab := .w E (zaj P e) (rows.take r.toNat)) (.w (own.take _) (by simp; omega))
                refine ⟨.slice L.a r.toNat L.c, D, _, _, _, _, (Nx.set (.refl D) hb.1).trans (.push M1 (.refl D)), M2, .w (L := ⟨0, L.a, r.toNat, L.c, none⟩) (by rw [← M.len]; simp), hK, fun w => yp ?_ w⟩
                simp only [ze7, hu, hv, hr2]
                exact ⟨g0, by omega, hnz rfl⟩
              | some lo =>
                simp only at hs
                obtain ⟨g0, g1, g2, hK⟩ := hs
                obtain ⟨D', l', S', hrd⟩ := own.freeze (M.front h2)
                have hpart := hrd.part (l := l.toNat) (r := r.toNat) (by omega) (by omega)
                refine ⟨_, D', ρ, _, _, _, .set l' hb.1, M.put hL h2 S'.nil l' .x, .u hpart, hK, fun w => yp ?_ w⟩
                simp only [ze7, hu, hv, zdb F hl, hr2]
                exact ⟨g0, g1, by omega, hnz (by first | rfl | trivial)⟩
        · cases hc; exact hs.elim
      · cases hc; exact hs.elim
    · rename_i b he
      rw [he] at hx
      split at hc
      · rename_i k w xs hm
        obtain ⟨L, hL, hv⟩ := hx.r_inv
        obtain ⟨L', ch, h1, h2, h3⟩ := M.get (b := b) (by rw [hm]; simp)
        rw [hL] at h1; cases h1
        rw [hm] at h3
        cases h3 with
        | c hcc =>
          rename_i arr S'
          -- the block is frozen
          have fin : k = .i64 → inL (hr ++ ro) b = false → KS (.u (.l 1 (xs.map ziz))) (ms m b .x) → xs.length = w → (∀ wd, (execOp (ev T) ⟨dst, .slice S x none none none, ty, pos, after, guard⟩).run P wd = .ok (.value (.slice (some ⟨L.b, 0, none⟩) w w)) wd) →
           ∃ v D' ρ' m' chs' x', Nx ro hr D ρ m chs D' ρ' m' chs' ∧ SAt D' ρ' m' chs' C h ∧ Rp D' ρ' v x' ∧ KS x' m' ∧ ∀ w, (execOp (ev T) ⟨dst, .slice S x none none none, ty, pos, after, guard⟩).run P w = .ok (.value v) w := by
           intro hk hb hK hw hrun
           subst hk
           have harr : arr = xs.map (.int .i64) := by
            cases hcc with
            | cons a n b => exact absurd rfl (n _ _ _)
            | n hl b => cases b; simp
           subst harr
           obtain ⟨D', l', g, S''⟩ := (M.front h2).freeze
           refine ⟨_, D', ρ, _, _, _, .set l' hb, M.put hL h2 S''.nil l' .x, .u (frz_nums (g _ (z2x _))), hK, fun wd => ?_⟩
           rw [hrun wd, hw]
          have hlen : xs.length = w := by
           cases hcc with
           | cons a n b => exact absurd rfl (n _ _ _)
           | n hl b => exact hl
          have k3 : z14 (zap k) 3 = true → k = .i64 := fun hk => by cases k <;> first | rfl | simp [zap] at hk
          split at hc
          · rename_i n e hu
            simp only [Option.some.injEq] at hc
            subst hc
            obtain ⟨hq, hK⟩ := zaa hs
            simp only [z17, z2u] at hq
            have e1 := z18 hq.1.1.2
            have e2 := z18 hq.1.2
            refine fin (k3 hq.2) hq.1.1.1 hK hlen fun wd => yp ?_ wd
            have h0 : (0 : Int) ≤ (n : Int) := z4a n
            simp only [ze7, hu, hv, bnd]
            refine ⟨h0, z2v _, ?_⟩
            rw [e2, ← e1]
            simp [nz, slA, zi5]
          · rename_i A hu
            split at hc
            · rename_i n e hA
              simp only [Option.some.injEq] at hc
              subst hc
              obtain ⟨hq, hK⟩ := zaa hs
              simp only [z17, z2u] at hq
              have e1 := z18 hq.1.1.2
              have e2 := z18 hq.1.2
              refine fin (k3 hq.2) hq.1.1.1 hK hlen fun wd => yp ?_ wd
              have h0 : (0 : Int) ≤ (n : Int) := z4a n
              simp only [ze7, hu, hv, hA, bnd]
              refine ⟨h0, z2v _, ?_⟩
              rw [e2, ← e1]
              simp [nz, slA, zi5]
            · cases hc; exact hs.elim
          · cases hc; exact hs.elim
      · cases hc; exact hs.elim
    · cases hc
theorem znw {b : ByteArray} {i : Nat} {r : List U} (hi : (zl0 b)[i]? = some r) : ∃ c, b.data.toList[i]? = some c ∧ [U.i .u8 (c.toNat : Int)] = r := by
 unfold zl0 at hi
 rw [z2i] at hi
 exact z3k.1 hi
theorem str_S {o : Oper} {x : V} (hs : strS P t m o = some x) (M : SAt D ρ m chs C h) (F : RpL D ρ T t) (w : World) (hw : w.heap = h) :
 ∃ v w' D', (execOp (ev T) o).run P w = .ok (.value v) w' ∧ Le D D' ∧ St D' (chs ++ C) w'.heap ∧ Rp D' ρ v x ∧ Same w w' := by
 obtain ⟨dst, op, ty, pos, after, guard⟩ := o
 unfold strS at hs
 cases op <;> simp only at hs <;> try (cases hs; done)
 case convert s d y =>
  split at hs
  · rename_i sd e b h1 h2 h3
    split at hs
    · rename_i h4
      cases hs
      have hx := zcj F y
      rw [h3] at hx
      have hx := zyu hx
      have hrun : (execOp (ev T) ⟨dst, .convert s d y, ty, pos, after, guard⟩).run P w = .ok (.value (.slice (some ⟨w.heap.size, 0, none⟩) b.size (grownCap w b.size 0 e))) (Lib.bytesWorld w e b) := by
       simp only [execOp, hx]
       rw [Sem.run_bind, Lib.run_convert_string_bytes w s d e b h1 h2 h4]
       rfl
      have k : KB [] h (Lib.bytesWorld w e b).heap := by
       subst hw
       exact ⟨by rw [Lib.bytesWorld_size]; omega, fun j hj _ => Lib.bytesWorld_at_old w e b j hj⟩
      have hnew := Lib.bytesWorld_at_new w e b
      have S1 : St D ([(w.heap.size, .cells (Lib.bytesCells w e b) e ((Lib.bytesCells w e b).size, (Lib.bytesCells w e b).size + 1))] :: (chs ++ C)) (Lib.bytesWorld w e b).heap :=
       M.st.nil.upd k (by simpa using hnew) (by simp) (by simp [hw])
      obtain ⟨D', l, g, S2⟩ := S1.freeze
      refine ⟨_, _, D', hrun, l, S2, .u ?_, ⟨rfl, rfl, rfl, Nat.le_succ _⟩⟩
      have hlen : (zl0 b).length = b.size := by simp [zl0]
      rw [← hlen]
      refine .row w.heap.size 0 _ _ e _ (zl0 b) 1 (fun i _ => .int .u8 (b.data.toList.getD i 0).toNat) (g _ (z2x _)) ?_ (by simp [zl0]) (fun i j r u hi hj => ?_) fun i j r u hi hj => ?_
      · rw [hlen]; exact grownCap_ge _ _ _ _
      · obtain ⟨c, hc, rfl⟩ := znw hi
        have hib : i < b.size := by
         have := (z2a.1 hc).1
         simpa using this
        have hj0 : j = 0 := by have := (z2a.1 hj).1; simp at this; omega
        subst hj0
        rw [z2l, z5r, z4b, ← zaz hnew i]
        exact Lib.bytesWorld_cell w e b i hib
      · obtain ⟨c, hc, rfl⟩ := znw hi
        have hj0 : j = 0 := by have := (z2a.1 hj).1; simp at this; omega
        subst hj0
        cases hj
        rw [z4g, hc]
        exact .int _ _
    · cases hs
  · rename_i e hA hB
    have h1 : P.underlying s = some (.slice e) := by assumption
    have h2 : P.underlying d = some .string := by assumption
    split at hs
    · rename_i rows h4 h5
      split at hs
      · rename_i ns hns
        cases hs
        have hrows := zua hns
        obtain ⟨a, c, hv, hsrc⟩ := srcS_S h5 M (zcj F y)
        have hrun := zwn (P := P) (w := w) (c := c) hrows (by rw [hw]; exact hsrc)
        refine ⟨.string (zy3 ns), w, D, ?_, .refl D, by rw [hw]; exact M.st, .u (.str _), .refl w⟩
        simp only [execOp, hv]
        rw [Sem.run_bind, run_convert_bytes_string w s d e a _ _ h1 h4 h2, hrun]
        rfl
      · cases hs
    · cases hs
  · cases hs
theorem op_S {X : Fz → List Loc → Prop} {call : zb2} (hcall : zf9 P X ro hr call) (hx : X D ρ) {o : Oper} {KS : V → Mem → Prop} {a : Act} {w : World} {vw : Bool} (hs : opS P vw (hr ++ ro) call t m o KS) (M : SAt D ρ m chs C w.heap) (F : RpL D ρ a.tmps.toList t)
 {next : Act → World → Prop} {Q : Exit → Act → World → Prop} (hn : ∀ v w', zc5 ro hr D ρ m chs C KS v w'.heap → Same w w' → next (a.put o.dst v) w') : o.wp P a w next Q := by
 unfold opS at hs
 split at hs
 · rename_i p hc
   cases vw with
   | true =>
     have hc : strP P t m o KS = some p := hc
     unfold strP at hc
     cases ho : strO P o with
     | false => rw [ho] at hc; cases hc
     | true =>
       rw [ho] at hc
       simp only [cond_true] at hc
       split at hc
       · rename_i x hx'
         cases hc
         obtain ⟨v, w', D', hrun, l, S', r, same⟩ := str_S hx' M F w rfl
         unfold Oper.wp
         rw [zau, hrun]
         exact hn v w' ⟨D', ρ, m, chs, x, ⟨l, ⟨[], by simp⟩, fun _ _ _ => rfl, fun _ _ _ => rfl, z2r _⟩, M.mono l S', r.mono (.refl _) [] |> fun r => by rwa [z3a] at r, hs⟩ same
       · cases hc; exact hs.elim
   | false =>
     have hc : cutS P (hr ++ ro) t m o KS = some p := hc
     obtain ⟨v, D', ρ', m', chs', x, n, M', hv, hK, hrun⟩ := cut_S hc hs M F
     unfold Oper.wp
     rw [zau, hrun w]
     exact hn v w ⟨D', ρ', m', chs', x, n, M', hv, hK⟩ (.refl w)
 · cases hq : ziy o with
   | true =>
     rw [hq] at hs
     simp only [cond_true] at hs
     obtain ⟨v, x, hK, hv, hrun⟩ := zz4 hs M F
     unfold Oper.wp
     rw [zau, hrun w (.inr (M.hs _ rfl))]
     exact hn v w ⟨D, ρ, m, chs, x, .refl, M, hv, hK⟩ (.refl w)
   | false =>
     rw [hq] at hs
     simp only [cond_false] at hs
     exact zf0 (eff_S hcall hx hs M F) (zau a) rfl hn
theorem zp5 : ∀ (t : List V) (d : Nat), zjs t d (zc7 t d) = t
 | [], _ => rfl
 | _ :: _, 0 => rfl
 | y :: t, d + 1 => by simp only [zjs, zc7]; rw [zp5 t d]
theorem zt0 {ops : List Oper} {o : Oper} {a : Act} {A B : List V → Prop} (hs : zli ops o t A B) (F : RpL D ρ a.tmps.toList t) :
 (Region.wanted o (yielded ops.toArray a.tmps) = true ∧ A t) ∨ (Region.wanted o (yielded ops.toArray a.tmps) = false ∧ B t) := by
 have key : zff ops o a.tmps.toList (fun _ => A t) (fun _ => B t) := by
  unfold zli at hs
  unfold zff
  split at hs
  · rename_i hg; (try rw [hg]); exact hs
  · rename_i hg; (try rw [hg]); exact hs
  · rename_i d want hg
    (try rw [hg])
    split at hs
    · rename_i c he
      have hv := F.get d
      rw [he] at hv
      simp only [zqa hv]
      have e : zjs t d (.u (.b c)) = t := by rw [← he]; exact zp5 t d
      cases c <;> cases want <;> simp only [cond_true, cond_false] at hs ⊢ <;> (rw [e] at hs; exact hs)
    · rename_i he
      have hv := F.get d
      rw [he] at hv
      have e : zc6 a.tmps.toList d = undef := by
       generalize zc6 a.tmps.toList d = v at hv
       cases hv with
       | t h => cases h; rfl
      simp only [e, undef]
      exact hs
    · exact hs.elim
 exact zcb key
structure UpS (md : List Nat) (T : List Value) (w : World) (ro hr : List Nat) (D : Fz) (ρ : List Loc) (m : Mem) (chs C : List zab) (K : List V → Mem → Prop) (a' : Act) (w' : World) : Prop where
 df : a'.defers = []
 sm : Same w w'
 ag : Agr md T a'.tmps.toList
 ex : ∃ D' ρ' m' chs' t', Nx ro hr D ρ m chs D' ρ' m' chs' ∧ SAt D' ρ' m' chs' C w'.heap ∧ RpL D' ρ' a'.tmps.toList t' ∧ K t' m'
def wpG (P : Program) (ops : List Oper) (Q : Exit → Act → World → Prop) : Nat → List (Nat × (World → Prop)) → Array Bool → Act → World → Prop
 | 0, _, listed, a, w => Region.ready .any ops.toArray listed = [] ∧ Q .normal a w
 | n + 1, Cs, listed, a, w => (Region.ready .any ops.toArray listed = [] → Q .normal a w) ∧
   ∀ i ∈ Region.ready .any ops.toArray listed, wpOp P ops.toArray Q i (fun a' w' => (∀ c ∈ Cs, zck ops ops.length c.1 i = false → c.2 w → c.2 w') ∧ wpG P ops Q n (Cs.filter fun c => !zck ops ops.length c.1 i) (listed.setIfInBounds i true) a' w') a w
theorem zyi {ops : List Oper} {Q : Exit → Act → World → Prop} : ∀ (n : Nat) (Cs : List (Nat × (World → Prop))) (listed : Array Bool) (a : Act) (w : World), wpG P ops Q n Cs listed a w → wpAny P .any ops.toArray Q n listed a w
 | 0, _, _, _, _, h => h
 | n + 1, _, _, _, _, h => ⟨h.1, fun i hi => wpOp_mono (fun a' w' hh => zyi n _ _ a' w' hh.2) (h.2 i hi)⟩
theorem zuo {ops : List Oper} {Q : Exit → Act → World → Prop} : ∀ (n : Nat) (Cs Cs' : List (Nat × (World → Prop))) (listed : Array Bool) (a : Act) (w : World), (∀ c ∈ Cs, c ∈ Cs') → wpG P ops Q n Cs' listed a w → wpG P ops Q n Cs listed a w
 | 0, _, _, _, _, _, _, h => h
 | n + 1, Cs, Cs', listed, a, w, hs, h => ⟨h.1, fun k hk => wpOp_mono (fun a' w' hh => ⟨fun c hc => hh.1 c (hs c hc), zuo n _ _ _ _ _ (fun c hc => by
     rw [z3p] at hc ⊢; exact ⟨hs c hc.1, hc.2⟩) hh.2⟩) (h.2 k hk)⟩
theorem zjp {ops : List Oper} {Q : Exit → Act → World → Prop} {i : Nat} {oi : Oper} {v : Value} {C : World → Prop} (hi : ops[i]? = some oi)
 (hsel : ∀ (j : Nat) (o : Oper) cs b, ops[j]? = some o → o.op ≠ .select cs b) (hQ : ∀ c a w, ¬ Q (.panic c) a w) (hQo : ∀ a w, ¬ Q .outgrown a w) :
 ∀ (fuel : Nat) (Cs Cs' : List (Nat × (World → Prop))) (listed : Array Bool) (a : Act) (w : World), (∀ c ∈ Cs, c ∈ Cs') → ((∀ w, C w) ∨ (i, C) ∈ Cs') → Closed ops listed →
   (∀ j oj, ops[j]? = some oj → j ≠ i → listed.getD j true = false → (∀ e ∈ oj.after, Region.binds .any e = true → e.on ≠ i) → oi.apart ops.toArray oj = true) →
   i ∈ Region.ready .any ops.toArray listed → YieldC P ops oi v C a → C w →
   wpG P ops Q fuel Cs' (listed.setIfInBounds i true) (a.put oi.dst v) w → wpG P ops Q (fuel + 1) Cs listed a w := by
 intro fuel
 induction fuel with
 | zero =>
   intro Cs Cs' listed a w hsub hiC hcl _ hr hy hCw H
   refine ⟨fun h => (by rw [h] at hr; cases hr), fun j hj => ?_⟩
   by_cases hji : j = i
   · subst hji; exact hy.wpOp hi hCw ⟨fun _ _ _ h => h, H⟩
   · have := ready_mono hj hji
     rw [H.1] at this
     cases this
 | succ fuel ih =>
   intro Cs Cs' listed a w hsub hiC hcl hfree hr hy hCw H
   refine ⟨fun h => (by rw [h] at hr; cases hr), fun j hj => ?_⟩
   by_cases hji : j = i
   · subst hji
     refine hy.wpOp hi hCw ⟨fun _ _ _ h => h, zuo _ _ _ _ _ _ (fun c hc => hsub c (z3p.1 hc).1) H⟩
   · have h1 := H.2 j (ready_mono hj hji)
     obtain ⟨hjun, oj, hoj, hall⟩ := mem_ready.1 hj
     have hoj' : ops[j]? = some oj := by simpa using hoj
     have hiun := (mem_ready.1 hr).1
     have hil : listed.getD i false = false := by
      rcases z3z i listed.size with h' | h'
      · simp [h'] at hiun ⊢; exact hiun
      · simp [Array.getElem?_eq_none h'] at hiun
     have hnot : ∀ e ∈ oj.after, Region.binds .any e = true → e.on ≠ i := fun e he hb heq => by
      have h1 := hall e he hb
      rw [heq, hil] at h1
      cases h1
     have hnw : zck ops ops.length i j = false := by
      cases hw : zck ops ops.length i j with
      | false => rfl
      | true =>
        have := zew hcl ops.length j oj hoj' hall hw
        rw [hil] at this; cases this
     have h2 := zp3 hoj' (hfree j oj hoj' hji hjun hnot) (fun cs b => hsel i oi cs b hi) (fun cs b => hsel j oj cs b hoj') hQ hQo hy h1
     have hfree' : ∀ k ok, ops[k]? = some ok → k ≠ i → (listed.setIfInBounds j true).getD k true = false →
      (∀ e ∈ ok.after, Region.binds .any e = true → e.on ≠ i) → oi.apart ops.toArray ok = true := fun k ok hk hki hun hno => by
      refine hfree k ok hk hki ?_ hno
      by_cases hjk : j = k
      · subst hjk; exact hjun
      · rw [getD_set_ne true hjk] at hun; exact hun
     refine wpOp_mono (fun a' w' h3 => ⟨fun c hc => h3.2.1 c (hsub c hc), ih _ (Cs'.filter fun c => !zck ops ops.length c.1 j) (listed.setIfInBounds j true) a' w' (fun c hc => by rw [z3p] at hc ⊢; exact ⟨hsub c hc.1, hc.2⟩) ?_ (hcl.set hj) hfree' (ready_mono hr (Ne.symm hji)) h3.1 ?_ ?_⟩) h2
     · rcases hiC with hC | hC
       · exact .inl hC
       · exact .inr (z3p.2 ⟨hC, by simp [hnw]⟩)
     · rcases hiC with hC | hC
       · exact hC w'
       · exact h3.2.1 (i, C) hC hnw hCw
     · rw [Array.setIfInBounds_comm _ _ hji]
       exact h3.2.2
def HeldOk (D : Fz) (chs : List zab) (held : List (Nat × List Nat)) (Cs : List (Nat × (World → Prop))) : Prop :=
 ∀ c ∈ Cs, ∃ bs, (c.1, bs) ∈ held ∧ ∀ w, Hs D chs bs w → c.2 w
theorem zro {ops : List Oper} {e : Nat} : ∀ {held : List (Nat × List Nat)} {i : Nat} {bs : List Nat} {b : Nat}, (i, bs) ∈ held → zck ops ops.length i e = false → inL bs b = true → inL (zrp ops e held) b = true
 | (j, cs) :: held, i, bs, b, hm, hw, hb => by
   simp only [zrp]
   rcases z2e.1 hm with h1 | h1
   · cases h1
     rw [hw, cond_false]
     exact zo1 hb
   · have := zro h1 hw hb
     cases zck ops ops.length j e
     · rw [cond_false, inL_iff, z2f]; exact .inr (inL_iff.1 this)
     · exact this
theorem Nx.weak {hx : List Nat} {D' : Fz} {ρ' : List Loc} {m' : Mem} {chs' : List zab} (n : Nx ro (hx ++ hr) D ρ m chs D' ρ' m' chs') : Nx ro hr D ρ m chs D' ρ' m' chs' where
 le := n.le
 pre := n.pre
 keep b h1 h2 := n.keep b (by rw [inL_iff] at h1 ⊢; simp [h1]) h2
 same b h1 h2 := n.same b (by rw [inL_iff] at h1 ⊢; simp at h1 ⊢; rcases h1 with h1 | h1 <;> simp [h1]) h2
 len := n.len
theorem draw_S {vw : Bool} {X : Fz → List Loc → Prop} (hX : ∀ {D D' : Fz} {ρ : List Loc} (s : List Loc), X D ρ → Le D D' → X D' (ρ ++ s)) {call : List Nat → zb2} (hcall : ∀ hx, zf9 P X ro (hx ++ hr) (call (hx ++ hr))) {ops : List Oper} {K : List V → Mem → Prop} {md : List Nat} {Q : Exit → Act → World → Prop} (hsel : Region.noSelect ops.toArray = true)
 (hQ : ∀ c a w, ¬ Q (.panic c) a w) (hQo : ∀ a w, ¬ Q .outgrown a w) (hm : ∀ o ∈ ops, ∀ d, o.dst = some d → d ∈ md) :
 ∀ (n : Nat) (done : List Nat) (held : List (Nat × List Nat)) (Cs : List (Nat × (World → Prop))) (listed : Array Bool) (a : Act) (w : World) (t : List V) (D : Fz) (ρ : List Loc) (m : Mem) (chs : List zab), zmr P vw ro hr call ops K n done held t m → zhr ops n done = true →
   Lst ops done listed → Closed ops listed → a.defers = [] → X D ρ → SAt D ρ m chs C w.heap → RpL D ρ a.tmps.toList t → HeldOk D chs held Cs → (∀ a' w', UpS md a.tmps.toList w ro hr D ρ m chs C K a' w' → Q .normal a' w') → wpG P ops Q n Cs listed a w := by
 intro n
 induction n with
 | zero =>
   intro done held Cs listed a w t D ρ m chs hh hB hL hcl hd xx M F hH hK
   refine ⟨?_, hK a w ⟨hd, .refl w, .refl _ _, D, ρ, m, chs, t, .refl, M, F, hh⟩⟩
   simp only [zhr, z29, z35] at hB
   rw [List.eq_nil_iff_forall_not_mem]
   intro i hi
   obtain ⟨h0, o, ho, -⟩ := mem_ready.1 hi
   have hlt : i < ops.length := by
    have := (z5k.1 ho).1
    simpa using this
   rw [hL.eq i hlt, hB i hlt] at h0
   cases h0
 | succ n ih =>
   intro done held Cs listed a w t D ρ m chs hh hB hL hcl hd xx M F hH hK
   simp only [zmr] at hh
   simp only [zhr] at hB
   have sel : ∀ (j : Nat) (o : Oper) cs b, ops[j]? = some o → o.op ≠ .select cs b := fun j o cs b hj => Region.noSelect_spec hsel j o cs b (by simpa using hj)
   -- what is shown of the rest
   have rest : ∀ (i : Nat) (o : Oper) (ho : ops[i]? = some o) (hri : i ∈ Region.ready .any ops.toArray listed) (hB2 : zhr ops n (i :: done) = true) (held' : List (Nat × List Nat)) (Cs' : List (Nat × (World → Prop))) (v : Value) (x : V) (w' : World) (D' : Fz) (ρ' : List Loc) (m' : Mem) (chs' : List zab),
    zmr P vw ro hr call ops K n (i :: done) held' (zso t o.dst x) m' → Same w w' → Nx ro hr D ρ m chs D' ρ' m' chs' → SAt D' ρ' m' chs' C w'.heap → Rp D' ρ' v x → HeldOk D' chs' held' Cs' →
    wpG P ops Q n Cs' (listed.setIfInBounds i true) (a.put o.dst v) w' := fun i o ho hri hB2 held' Cs' v x w' D' ρ' m' chs' h1 hS nx M' hv hH' => by
    have hilt : i < ops.length := (z2a.1 ho).1
    have homem : o ∈ ops := z2y ho
    have hput : ∀ v, Agr md a.tmps.toList (a.put o.dst v).tmps.toList := fun v => by rw [zbb]; exact .put v fun d hd => hm o homem d hd
    refine ih (i :: done) held' Cs' _ (a.put o.dst v) w' _ D' ρ' m' chs' h1 hB2 (hL.set i hilt) (hcl.set hri) (by rw [zah]; exact hd) (by obtain ⟨s, rfl⟩ := nx.pre; exact hX s xx nx.le) M' (by rw [zbb]; exact (nx.rpL F).put hv) hH' fun a' w'' hU => ?_
    obtain ⟨D2, ρ2, m2, c2, t2, n2, r⟩ := hU.ex
    exact hK a' w'' ⟨hU.df, hS.trans hU.sm, (hput v).trans hU.ag, D2, ρ2, m2, c2, t2, nx.trans n2, r⟩
   cases hn : zq7 ops done with
   | some i =>
     obtain ⟨hrd, o, ho, hq⟩ := zng hn
     rw [hn] at hh hB
     simp only [ho, z17] at hh hB
     obtain ⟨hB1, hB2⟩ := hB
     have hri : i ∈ Region.ready .any ops.toArray listed := (zcp hL).2 hrd
     have rest := rest i o ho hri hB2
     have hfree : ∀ j oj, ops[j]? = some oj → j ≠ i → listed.getD j true = false → (∀ e ∈ oj.after, Region.binds .any e = true → e.on ≠ i) → o.apart ops.toArray oj = true := by
      intro j oj hj hji hun hno
      have hjlt : j < ops.length := (z2a.1 hj).1
      have h1 := z29.1 hB1 j (z35.2 hjlt)
      rw [hj] at h1
      rw [hL.eq j hjlt] at hun
      simp only [z34, beq_iff_eq, hji, false_or, hun, z3n, List.any_eq_true, z17] at h1
      rcases h1 with ⟨e, he, hb, hon⟩ | h1
      · exact absurd hon (hno e (by simpa using he) hb)
      · exact h1
     rcases zt0 hh F with ⟨hw, h1⟩ | ⟨hw, h1⟩
     · obtain ⟨v, x, hKx, hv, hr'⟩ := zz4 h1 M F
       cases hp : zom o with
       | true =>
         rw [hp] at hKx
         simp only [cond_true] at hKx
         exact zjp (C := fun _ => True) ho sel hQ hQo n Cs Cs listed a w (fun _ h => h) (.inl fun _ => trivial) hcl hfree hri (.inl ⟨hw, fun w' _ => by rw [zau]; exact hr' w' (.inl hp)⟩) trivial (rest held Cs v x w D ρ m chs hKx (.refl w) .refl M hv hH)
       | false =>
         rw [hp] at hKx
         simp only [cond_false] at hKx
         refine zjp (C := fun w' => (execOp (ev a.tmps.toList) o).run P w' = .ok (.value v) w') ho sel hQ hQo n Cs ((i, fun w' => (execOp (ev a.tmps.toList) o).run P w' = .ok (.value v) w') :: Cs) listed a w (fun c hc => z2j _ hc)
          (.inr (z2p ..)) hcl hfree hri (.inl ⟨hw, fun w' hw' => by rw [zau]; exact hw'⟩) (hr' w (.inr (M.hs _ rfl))) (rest _ _ v x w D ρ m chs hKx (.refl w) .refl M hv ?_)
         intro c hc
         rcases z2e.1 hc with rfl | hc
         · exact ⟨_, z2p .., fun w hw => hr' w (.inr hw)⟩
         · obtain ⟨bs, h1, h2⟩ := hH c hc
           exact ⟨bs, z2j _ h1, h2⟩
     · exact zjp (C := fun _ => True) ho sel hQ hQo n Cs Cs listed a w (fun _ h => h) (.inl fun _ => trivial) hcl hfree hri (.inr ⟨hw, rfl⟩) trivial (rest held Cs undef (.t []) w D ρ m chs h1 (.refl w) .refl M (.t .nil) hH)
   | none =>
     rw [hn] at hh hB
     simp only at hh hB
     obtain ⟨hne, hall⟩ := zik hh
     have hmem : ∀ j, j ∈ Region.ready .any ops.toArray listed → j ∈ zb7 ops done := fun j hj => by
      have hjr := (zcp hL).1 hj
      have hjlt : j < ops.length := by
       obtain ⟨oj, hoj, -⟩ := (mem_ready.1 hj).2
       have := (z5k.1 hoj).1
       simpa using this
      exact z3p.2 ⟨z35.2 hjlt, hjr⟩
     refine ⟨fun h0 => ?_, fun j hj => ?_⟩
     · cases hr : zb7 ops done with
       | nil => exact (hne hr).elim
       | cons j l =>
         have h1 : j ∈ zb7 ops done := by rw [hr]; exact z2p ..
         have h2 : j ∈ Region.ready .any ops.toArray listed := (zcp hL).2 (z3p.1 h1).2
         rw [h0] at h2; cases h2
     · have hjm := hmem j hj
       have hh := hall j hjm
       have hB := z29.1 hB j hjm
       cases ho : ops[j]? with
       | none => rw [ho] at hh; exact hh.elim
       | some o =>
         rw [ho] at hh hB
         simp only [z17, z2u, z49] at hh hB
         obtain ⟨⟨hp, hro⟩, hB2⟩ := hB
         have rest := rest j o ho hj hB2
         unfold wpOp
         simp only [z3o, ho]
         rcases zt0 hh F with ⟨hw, h1⟩ | ⟨hw, h1⟩
         · rw [if_pos hw]
           refine .inl (zf0 (eff_S (hcall _) xx h1 M F) (zau a) rfl fun v w' hP hS => ?_)
           obtain ⟨D', ρ', m', chs', x, nx, M', hv, hKx⟩ := hP
           have keep : ∀ c ∈ Cs, ∀ bs, (c.1, bs) ∈ held → zck ops ops.length c.1 j = false → ∀ b, inL bs b = true → b < chs.length → chs'[b]? = chs[b]? := fun c _ bs hbs hwt b hb hlt =>
            nx.keep b (zo1 (zro hbs hwt hb)) (by rw [← M.lch]; exact hlt)
           refine ⟨fun c hc hcw _ => ?_, ?_⟩
           · obtain ⟨bs, g1, g2⟩ := hH c hc
             refine g2 w' fun bb ob hcov => ?_
             rcases hcov with hd | ⟨b, ch, h3, h4, h5⟩
             · exact (M'.st.fz bb ob (nx.le _ _ hd)).1
             · exact M'.own (b := b) (ch := ch) (by rw [keep c hc bs g1 hcw b h3 (z2a.1 h4).1]; exact h4) h5
           · refine rest held _ v x w' D' ρ' m' chs' hKx hS nx.weak M' hv fun c hc => ?_
             rw [z3p] at hc
             have hcw : zck ops ops.length c.1 j = false := by simpa using hc.2
             obtain ⟨bs, g1, g2⟩ := hH c hc.1
             refine ⟨bs, g1, fun w2 hw2 => g2 w2 fun bb ob hcov => hw2 bb ob ?_⟩
             rcases hcov with hd | ⟨b, ch, h3, h4, h5⟩
             · exact .inl (nx.le _ _ hd)
             · exact .inr ⟨b, ch, h3, by rw [keep c hc.1 bs g1 hcw b h3 (z2a.1 h4).1]; exact h4, h5⟩
         · rw [if_neg (by rw [hw]; simp)]
           exact ⟨fun _ _ _ h => h, rest held _ undef (.t []) w D ρ m chs h1 (.refl w) .refl M (.t .nil) fun c hc => hH c (z3p.1 hc).1⟩
end
end Go.Proofs.YtalglagdgabafaaGreat
