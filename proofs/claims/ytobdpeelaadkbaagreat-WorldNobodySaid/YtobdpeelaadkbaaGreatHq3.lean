/- The symbolic engine, part h: new blocks, append, and all operations. -/
import Derived.Test.YtobdpeelaadkbaaGreatHq2
import Derived.Laws.BytesString
set_option linter.unusedVariables false
namespace Go.Proofs.YtobdpeelaadkbaaGreat
def elE {α : Type} (l : List α) (k : Int) : Option α :=
 match k with
 | .ofNat i => l[i]?
 | .negSucc _ => none
theorem zml {α : Type} {l : List α} {k : Int} {r : α} {K : α → Prop} (h : elE l k = some r) (hK : K r) : elL l k K := by
 unfold elE at h
 unfold elL
 split at h
 · simp only [h]; exact hK
 · cases h
def dUE (z : Value × Nat) (o : Option U) : Option U :=
 match z.1, o with
 | .int k _, some (.i k' n) => cond (Nat.beq (zaq k) (zaq k')) (some (.i k n)) none
 | .bool _, some (.b c) => some (.b c)
 | .string _, some (.s c) => some (.s c)
 | .slice .., some (.l s' c) => cond (Nat.beq z.2 s') (some (.l z.2 c)) none
 | .pointer _, some (.p c) => some (.p c)
 | _, _ => none
theorem zaf {α : Type} {c : Bool} {a : Option α} {r : α} (h : cond c a none = some r) : c = true ∧ a = some r := by
 cases c
 · cases h
 · exact ⟨rfl, h⟩
theorem dUE_ok {z : Value × Nat} {o : Option U} {u : U} {K : U → Prop} (h : dUE z o = some u) (hK : K u) : dU z o K := by
 unfold dUE at h
 unfold dU
 split at h
 · rename_i k v k' n e
   obtain ⟨h1, h2⟩ := zaf h
   cases h2
   rw [e]
   simp only [dI, zmb, h1, cond_true]; exact hK
 · rename_i e; cases h; rw [e]; exact hK
 · rename_i e; cases h; rw [e]; exact hK
 · rename_i e
   obtain ⟨h1, h2⟩ := zaf h
   cases h2
   rw [e]
   simp only [dL, h1, cond_true]; exact hK
 · rename_i e; cases h; rw [e]; exact hK
 · cases h
def dUsE : List (Value × Nat) → List U → Nat → Option (List U)
 | [], _, _ => some []
 | z :: zs, r, o => match dUE z (ug r o), dUsE zs r (o + 1) with
   | some u, some us => some (u :: us)
   | _, _ => none
theorem ziy : ∀ {zs : List (Value × Nat)} {r : List U} {o : Nat} {us : List U} {K : List U → Prop}, dUsE zs r o = some us → K us → dUs zs r o K
 | [], _, _, us, K, h, hK => by cases h; exact hK
 | z :: zs, r, o, us, K, h, hK => by
   simp only [dUsE] at h
   split at h
   · rename_i u us' h1 h2
     cases h
     exact dUE_ok (K := fun u => dUs zs r (o + 1) fun us => K (u :: us)) h1 (ziy h2 hK)
   · cases h
def XE {α : Type} (P : Program) : Sem α → Option α
 | .pure a => some a
 | .program k => XE P (k P)
 | .mark _ k => XE P k
 | _ => none
theorem XE_ok {α : Type} {P : Program} {s : Sem α} : ∀ {a : α} {K : α → Prop}, XE P s = some a → K a → XWp P s K := by
 induction s with
 | pure a => intro b K h hK; cases h; exact hK
 | program k ih => intro b K h hK; exact ih P h hK
 | mark m k ih => intro b K h hK; exact ih h hK
 | _ => intro b K h hK; cases h
def intE (op : BinOp) (k : IntKind) (x y : Int) : Option Value :=
 match op with
 | .add => some (.int k (k.wrap (x + y)))
 | .sub => some (.int k (k.wrap (x - y)))
 | .mul => some (.int k (k.wrap (x * y)))
 | .quo => cond (y == 0) none (some (.int k (k.wrap (x.tdiv y))))
 | .rem => cond (y == 0) none (some (.int k (x.tmod y)))
 | .eql => some (.bool (x == y))
 | .neq => some (.bool (x != y))
 | .lss => some (.bool (x < y))
 | .leq => some (.bool (x ≤ y))
 | .gtr => some (.bool (x > y))
 | .geq => some (.bool (x ≥ y))
 | .and => some (.int k (k.wrap (BitVec.ofInt k.bits x &&& BitVec.ofInt k.bits y).toNat))
 | .or => some (.int k (k.wrap (BitVec.ofInt k.bits x ||| BitVec.ofInt k.bits y).toNat))
 | .xor => some (.int k (k.wrap (BitVec.ofInt k.bits x ^^^ BitVec.ofInt k.bits y).toNat))
 | .andNot => some (.int k (k.wrap (BitVec.ofInt k.bits x &&& ~~~BitVec.ofInt k.bits y).toNat))
 | .shl => cond (decide (0 ≤ y)) (some (.int k (k.wrap (x * 2 ^ (min y.toNat k.bits))))) none
 | .shr => cond (decide (0 ≤ y)) (some (.int k (x.fdiv (2 ^ (min y.toNat k.bits))))) none
theorem zno {α : Type} {c : Bool} {a : Option α} {r : α} (h : cond c none a = some r) : c = false ∧ a = some r := by
 cases c
 · exact ⟨rfl, h⟩
 · cases h
theorem intE_ok {op : BinOp} {k : IntKind} {x y : Int} {v : Value} {K : Value → Prop} (h : intE op k x y = some v) (hK : K v) : intK op k x y K := by
 cases op <;> simp only [intE] at h <;> simp only [intK]
 case quo => obtain ⟨h1, h2⟩ := zno h; cases h2; exact ⟨by simpa using h1, hK⟩
 case rem => obtain ⟨h1, h2⟩ := zno h; cases h2; exact ⟨by simpa using h1, hK⟩
 case shl => obtain ⟨h1, h2⟩ := zaf h; cases h2; exact ⟨by simpa using h1, hK⟩
 case shr => obtain ⟨h1, h2⟩ := zaf h; cases h2; exact ⟨by simpa using h1, hK⟩
 all_goals (cases h; exact hK)
def strE (op : BinOp) (x y : ByteArray) : Option Value :=
 match op with
 | .add => cond (decide (x.size + y.size < 9223372036854775808)) (some (.string (x ++ y))) none
 | .eql => some (.bool (x.toList == y.toList))
 | .neq => some (.bool !(x.toList == y.toList))
 | .lss => some (.bool (Op.bytesLess x.toList y.toList))
 | .leq => some (.bool (Op.bytesLess x.toList y.toList || x.toList == y.toList))
 | .gtr => some (.bool !(Op.bytesLess x.toList y.toList || x.toList == y.toList))
 | .geq => some (.bool !(Op.bytesLess x.toList y.toList))
 | _ => none
theorem strE_ok {op : BinOp} {x y : ByteArray} {v : Value} {K : Value → Prop} (h : strE op x y = some v) (hK : K v) : strK op x y K := by
 cases op <;> simp only [strE] at h <;> simp only [strK]
 case add => obtain ⟨h1, h2⟩ := zaf h; cases h2; exact ⟨by simpa using h1, hK⟩
 all_goals first | (cases h; exact hK) | cases h
def nilE (op : BinOp) (z : Bool) : Option Value :=
 match op with
 | .eql => some (.bool z)
 | .neq => some (.bool !z)
 | _ => none
theorem zdk {op : BinOp} {z : Bool} {v : Value} {K : Value → Prop} (h : nilE op z = some v) (hK : K v) : ze7 op z K := by
 cases op <;> simp only [nilE] at h <;> first | (cases h; exact hK) | cases h
def binE (P : Program) (op : BinOp) (T : TypeId) (x y : Value) : Option Value :=
 match x, y with
 | .int k a, .int k' b => match op with
   | .shl => cond (decide (0 ≤ b)) (some (.int k (k.wrap (a * 2 ^ (min b.toNat k.bits))))) none
   | .shr => cond (decide (0 ≤ b)) (some (.int k (a.fdiv (2 ^ (min b.toNat k.bits))))) none
   | op => cond (Nat.beq (zaq k) (zaq k')) (intE op k a b) none
 | .string a, .string b => strE op a b
 | .bool a, .bool b => match P.underlying T with
   | some .bool => nilE op (a == b)
   | _ => none
 | .agg xs, .agg ys => match P.underlying T with
   | some (.struct fs) => cond (flat P fs.toList 0 && !P.stoodInHeld T && !P.eqGuardType P.depth T)
    (cond (fits P fs.toList xs.toList && Nat.beq xs.toList.length fs.toList.length && Nat.beq ys.toList.length fs.toList.length)
     (match eqL xs.toList ys.toList with | some c => nilE op c | none => none) none) none
   | _ => none
 | _, _ => none
theorem binE_ok {P : Program} {op : BinOp} {T : TypeId} {x y v : Value} {K : Value → Prop} (h : binE P op T x y = some v) (hK : K v) : binK P op T x y K := by
 unfold binE at h
 unfold binK
 split at h
 · rename_i k p k' q
   split at h
   · obtain ⟨h1, h2⟩ := zaf h; cases h2; exact ⟨by simpa using h1, hK⟩
   · obtain ⟨h1, h2⟩ := zaf h; cases h2; exact ⟨by simpa using h1, hK⟩
   · rename_i n1 n2
     obtain ⟨h1, h2⟩ := zaf h
     have : zmb k k' (intK op k p q K) := by
      unfold zmb
      rw [h1]
      exact intE_ok h2 hK
     cases op <;> first | exact this | exact absurd rfl n1 | exact absurd rfl n2
 · exact strE_ok h hK
 · split at h
   · rename_i hu; simp only [hu]; exact zdk h hK
   · cases h
 · split at h
   · rename_i fs hu
     obtain ⟨h1, h2⟩ := zaf h
     obtain ⟨h3, h4⟩ := zaf h2
     split at h4
     · rename_i c hc
       simp only [hu, h1, h3, cond_true, hc]; exact zdk h4 hK
     · cases h4
   · cases h
 · cases h
def zjg (z : Value × Nat) (a : V) (m : Mem) : Option V :=
 match a with
 | .r b o => match mg m b with
   | .c cells => match zb7 o cells with
     | some (v :: _) => cond (shOk z v) (some v) none
     | _ => none
   | _ => none
 | .g b o w k => match mg m b with
   | .c cells => match zb7 o cells with
     | some (.n k' w' l :: _) => cond (Nat.beq w w' && Nat.beq (zaq k') 3 && isI64 z) (match elE l k with | some n => some (.u (.i .i64 n)) | none => none) none
     | _ => none
   | _ => none
 | .e b sz k o => match mg m b with
   | .w _ sz' rows => cond (Nat.beq sz sz') (match elE rows k with
     | some r => match dUE z (ug r o) with
       | some u => some (.u u)
       | none => none
     | none => none) none
   | .cw _ sz' _ cells => cond (Nat.beq sz sz') (match zb7 (k.toNat * sz + o) cells with
     | some (v :: _) => cond (shOk z v) (some v) none
     | _ => none) none
   | _ => none
 | .q c o => match dUE z (ug c o) with
   | some u => some (.u u)
   | none => none
 | .u (.p (some c)) => match dUE z (ug c 0) with
   | some u => some (.u u)
   | none => none
 | _ => none
theorem load1E_ok {z : Value × Nat} {a v : V} {m : Mem} {K : V → Prop} (h : zjg z a m = some v) (hK : K v) : zl8 z a m K := by
 unfold zjg at h
 unfold zl8
 split at h
 · split at h
   · rename_i hm
     split at h
     · rename_i hd
       obtain ⟨h1, h2⟩ := zaf h
       cases h2
       simp only [hm, hd, h1, cond_true]; exact hK
     · cases h
   · cases h
 · split at h
   · rename_i hm
     split at h
     · rename_i hd
       obtain ⟨h1, h2⟩ := zaf h
       split at h2
       · rename_i n hn
         cases h2
         simp only [hm, hd, h1, cond_true]; exact zml (K := fun n => K (.u (.i .i64 n))) hn hK
       · cases h2
     · cases h
   · cases h
 · split at h
   · rename_i hm
     obtain ⟨h1, h2⟩ := zaf h
     split at h2
     · rename_i r hr
       split at h2
       · rename_i u hu
         cases h2
         simp only [hm, h1, cond_true]
         exact zml (K := fun r => dU z (ug r _) fun u => K (.u u)) hr (dUE_ok (K := fun u => K (.u u)) hu hK)
       · cases h2
     · cases h2
   · rename_i hm
     obtain ⟨h1, h2⟩ := zaf h
     split at h2
     · rename_i hd
       obtain ⟨h3, h4⟩ := zaf h2
       cases h4
       simp only [hm, h1, cond_true, hd, h3]; exact hK
     · cases h2
   · cases h
 · split at h
   · rename_i u hu
     cases h
     exact dUE_ok (K := fun u => K (.u u)) hu hK
   · cases h
 · split at h
   · rename_i u hu
     cases h
     exact dUE_ok (K := fun u => K (.u u)) hu hK
   · cases h
 · cases h
def zjf (zs : List (Value × Nat)) (a : V) (m : Mem) : Option V :=
 match a with
 | .r b o => match mg m b with
   | .c cells => match zb7 o cells with
     | some l => match zgl zs.length l with
       | some vs => cond (shL zs vs) (some (.a vs)) none
       | none => none
     | none => none
   | _ => none
 | .e b sz k o => match mg m b with
   | .w _ sz' rows => cond (Nat.beq sz sz') (match elE rows k with
     | some r => match dUsE zs r o with
       | some us => some (.a (us.map .u))
       | none => none
     | none => none) none
   | .cw _ sz' _ cells => cond (Nat.beq sz sz') (match zb7 (k.toNat * sz + o) cells with
     | some l => match zgl zs.length l with
       | some vs => cond (shL zs vs) (some (.a vs)) none
       | none => none
     | none => none) none
   | _ => none
 | .q c o => match dUsE zs c o with
   | some us => some (.a (us.map .u))
   | none => none
 | .u (.p (some c)) => match dUsE zs c 0 with
   | some us => some (.a (us.map .u))
   | none => none
 | _ => none
theorem loadNE_ok {zs : List (Value × Nat)} {a v : V} {m : Mem} {K : V → Prop} (h : zjf zs a m = some v) (hK : K v) : znl zs a m K := by
 unfold zjf at h
 unfold znl
 split at h
 · split at h
   · rename_i hm
     split at h
     · rename_i hd
       split at h
       · rename_i hp
         obtain ⟨h1, h2⟩ := zaf h
         cases h2
         simp only [hm, hd, hp, h1, cond_true]; exact hK
       · cases h
     · cases h
   · cases h
 · split at h
   · rename_i hm
     obtain ⟨h1, h2⟩ := zaf h
     split at h2
     · rename_i r hr
       split at h2
       · rename_i us hu
         cases h2
         simp only [hm, h1, cond_true]
         exact zml (K := fun r => dUs zs r _ fun us => K (.a (us.map .u))) hr (ziy (K := fun us => K (.a (us.map .u))) hu hK)
       · cases h2
     · cases h2
   · rename_i hm
     obtain ⟨h1, h2⟩ := zaf h
     split at h2
     · rename_i hd
       split at h2
       · rename_i hp
         obtain ⟨h3, h4⟩ := zaf h2
         cases h4
         simp only [hm, h1, cond_true, hd, hp, h3]; exact hK
       · cases h2
     · cases h2
   · cases h
 · split at h
   · rename_i us hu
     cases h
     exact ziy (K := fun us => K (.a (us.map .u))) hu hK
   · cases h
 · split at h
   · rename_i us hu
     cases h
     exact ziy (K := fun us => K (.a (us.map .u))) hu hK
   · cases h
 · cases h
def znx (P : Program) (T : TypeId) (a : V) (m : Mem) : Option V :=
 match zpq P T with
 | some (.one z) => zjg z a m
 | some (.many zs) => zjf zs a m
 | none => none
theorem sLoadE_ok {P : Program} {T : TypeId} {a v : V} {m : Mem} {K : V → Prop} (h : znx P T a m = some v) (hK : K v) : sLoad P T a m K := by
 unfold znx at h
 unfold sLoad
 split at h
 · rename_i hl; simp only [hl]; exact load1E_ok h hK
 · rename_i hl; simp only [hl]; exact loadNE_ok h hK
 · cases h
def zlo (x : V) (n : Nat) : Option V :=
 match x with
 | .r b o => some (.r b (addO o n))
 | .e b sz k o => some (.e b sz k (addO o n))
 | .q c o => some (.q c (addO o n))
 | .u (.p (some c)) => some (.q c n)
 | _ => none
theorem ptrAddE_ok {x v : V} {n : Nat} {K : V → Prop} (h : zlo x n = some v) (hK : K v) : ptrAdd x n K := by
 unfold zlo at h
 unfold ptrAdd
 split at h <;> first | (cases h; exact hK) | cases h
def binSE (P : Program) (op : BinOp) (T : TypeId) (x y : V) : Option V :=
 match conc x, conc y with
 | some a, some b => match binE P op T a b with
   | some v => some (zeu v)
   | none => none
 | _, _ => match y with
   | .u (.p none) => match P.underlying T with
     | some (.pointer _) => (match x with
       | .u (.p p) => match nilE op p.isNone with | some v => some (zeu v) | none => none
       | x => cond (zjt x) (match nilE op false with | some v => some (zeu v) | none => none) none)
     | _ => none
   | .nm => match P.underlying T with
     | some (.map ..) => (match x with
       | .m _ => match nilE op false with | some v => some (zeu v) | none => none
       | .nm => match nilE op true with | some v => some (zeu v) | none => none
       | _ => none)
     | _ => none
   | _ => none
theorem binSE_ok {P : Program} {op : BinOp} {T : TypeId} {x y v : V} {K : V → Prop} (h : binSE P op T x y = some v) (hK : K v) : binS P op T x y K := by
 unfold binSE at h
 unfold binS
 split at h
 · rename_i a b ha hb
   split at h
   · rename_i u hu
     cases h
     simp only [ha, hb]; exact binE_ok (K := fun v => K (zeu v)) hu hK
   · cases h
 · rename_i hn
   split
   · rename_i a b ha hb; exact absurd hb (hn a b ha)
   · split at h
     · split at h
       · rename_i hu
         simp only [hu]
         split at h
         · split at h
           · rename_i u hv; cases h; exact zdk (K := fun v => K (zeu v)) hv hK
           · cases h
         · rename_i hp
           obtain ⟨h1, h2⟩ := zaf h
           split at h2
           · rename_i u hv
             cases h2
             unfold zjt at h1
             split at h1 <;> first | exact zdk (K := fun v => K (zeu v)) hv hK | cases h1
           · cases h2
       · cases h
     · split at h
       · rename_i hu
         simp only [hu]
         split at h
         · split at h
           · rename_i u hv; cases h; exact zdk (K := fun v => K (zeu v)) hv hK
           · cases h
         · split at h
           · rename_i u hv; cases h; exact zdk (K := fun v => K (zeu v)) hv hK
           · cases h
         · cases h
       · cases h
     · cases h
def pickE (c a b : V) : Option V :=
 match c with
 | .u (.b c) => match a, b with
   | .u (.b x), .u (.b y) => some (.u (.b (cond c x y)))
   | _, _ => cond c (some a) (some b)
 | _ => none
theorem pickE_ok {c a b v : V} {K : V → Prop} (h : pickE c a b = some v) (hK : K v) : pickS c a b K := by
 unfold pickE at h
 unfold pickS
 split at h
 · rename_i c'
   split at h
   · cases h; exact hK
   · rename_i hn
     have h2 : cond c' (K a) (K b) := by cases c' <;> (cases h; exact hK)
     dsimp only
     split
     · exact (hn _ _ rfl rfl).elim
     · exact h2
 · cases h
def lenE (m : Mem) : V → Option Int
 | .u (.s x) => some x.size
 | .u (.l _ r) => some r.length
 | .c _ r => some r.length
 | .nl _ => some 0
 | .w b => match mg m b with
   | .w _ _ r => some r.length
   | .cw _ _ n _ => some n
   | _ => none
 | .m b => match mg m b with
   | .p _ _ _ r => some r.length
   | _ => none
 | .nm => some 0
 | .v _ _ _ n _ => some n
 | .sl _ _ n => some n
 | _ => none
theorem lenE_ok {m : Mem} {x : V} {n : Int} {K : Int → Prop} (h : lenE m x = some n) (hK : K n) : lenS m x K := by
 unfold lenE at h
 unfold lenS
 split at h
 · cases h; exact hK
 · cases h; exact hK
 · cases h; exact hK
 · cases h; exact hK
 · split at h
   · rename_i hm; cases h; simp only [hm]; exact hK
   · rename_i hm; cases h; simp only [hm]; exact hK
   · cases h
 · split at h
   · rename_i hm; cases h; simp only [hm]; exact hK
   · cases h
 · cases h; exact hK
 · cases h; exact hK
 · cases h; exact hK
 · cases h
def lookE (P : Program) (T : TypeId) (x k : V) (ok : Bool) (m : Mem) : Option V :=
 match mapT P T, mkOf k with
 | some (kt, zs, E, zv), some k => cond (kt.has k) (match x with
   | .m b => match mg m b with
     | .p kt' sz ag rows => cond (ktEq kt kt' && Nat.beq sz zs.length && (ag == isAg P E)) (match rGet rows k with
       | some r => match dUsE zs r 0 with
         | some us => some (lookR ok (oneA P E (us.map .u)) true)
         | none => none
       | none => some (lookR ok zv false)) none
     | _ => none
   | .nm => some (lookR ok zv false)
   | _ => none) none
 | _, _ => none
theorem lookE_ok {P : Program} {T : TypeId} {x k v : V} {ok : Bool} {m : Mem} {K : V → Prop} (h : lookE P T x k ok m = some v) (hK : K v) : lookS P T x k ok m K := by
 unfold lookE at h
 unfold lookS
 split at h
 · rename_i kt zs E zv k' h1 h2
   obtain ⟨h3, h4⟩ := zaf h
   simp only [h1, h2, h3, cond_true]
   split at h4
   · split at h4
     · rename_i hm
       obtain ⟨h5, h6⟩ := zaf h4
       simp only [hm, h5, cond_true]
       split at h6
       · rename_i r hr
         split at h6
         · rename_i us hu
           cases h6
           rw [hr]
           exact ziy (K := fun us => K (lookR ok (oneA P E (us.map .u)) true)) hu hK
         · cases h6
       · rename_i hr
         cases h6
         rw [hr]; exact hK
     · cases h4
   · cases h4; exact hK
   · cases h4
 · cases h
def absO (o : Option Value) : Option V :=
 match o with
 | some v => some (zeu v)
 | none => none
theorem zf5 {o : Option Value} {v : V} (h : absO o = some v) : ∃ a, o = some a ∧ v = zeu a := by
 cases o with
 | none => cases h
 | some a => cases h; exact ⟨a, rfl, rfl⟩
def leE (c : Bool) (l r : Int) : Bool := c || decide (l ≤ r)
theorem zof {c : Bool} {l r : Int} {A : Prop} (h : leE c l r = true) (hA : A) : leK c l r A := by
 unfold leK
 cases c
 · exact ⟨by simpa [leE] using h, hA⟩
 · exact hA
def viewE (P : Program) (t : List V) (e : TypeId) (lo hi mx : Option Operand) (b sz l n : Nat) (c : Bool) : Option V :=
 cond (Nat.beq sz (zah P e) && !Nat.beq sz 0) (match mx, zm1 t lo 0, zm1 t hi n with
  | none, some l', some r => cond (leE lo.isNone 0 l' && (decide (l' ≤ r) && (decide (r ≤ n) && (!c || decide (r = n))))) (some (.v b sz (l + l'.toNat) (r.toNat - l'.toNat) c)) none
  | some mx, some l', some r => match evS t mx with
    | .u (.i _ k) => cond hi.isSome (cond (leE lo.isNone 0 l' && (decide (l' ≤ r) && (decide (r ≤ n) && decide (k = r)))) (some (.v b sz (l + l'.toNat) (r.toNat - l'.toNat) true)) none) none
    | _ => none
  | _, _, _ => none) none
theorem viewE_ok {P : Program} {t : List V} {e : TypeId} {lo hi mx : Option Operand} {b sz l n : Nat} {c : Bool} {v : V} {K : V → Prop} (h : viewE P t e lo hi mx b sz l n c = some v) (hK : K v) : viewS P t e lo hi mx b sz l n c K := by
 unfold viewE at h
 unfold viewS
 obtain ⟨h1, h2⟩ := zaf h
 simp only [h1, cond_true]
 split at h2
 · rename_i l' r hl hr
   obtain ⟨h3, h4⟩ := zaf h2
   cases h4
   simp only [Bool.and_eq_true, decide_eq_true_eq, Bool.or_eq_true, Bool.not_eq_true'] at h3
   simp only [hl, hr]
   refine zof h3.1 ⟨h3.2.1, h3.2.2.1, ?_⟩
   unfold ltK
   cases c with
   | false => exact hK
   | true => exact ⟨h3.2.2.2.resolve_left (by simp), hK⟩
 · rename_i mx' l' r hl hr
   simp only [hl, hr]
   split at h2
   · rename_i k kk hk
     obtain ⟨h3, h4⟩ := zaf h2
     obtain ⟨h5, h6⟩ := zaf h4
     cases h6
     simp only [Bool.and_eq_true, decide_eq_true_eq] at h5
     simp only [hk, h3, cond_true]
     exact zof h5.1 ⟨h5.2.1, h5.2.2.1, h5.2.2.2, hK⟩
   · cases h2
 · cases h2
def nilsE (op : BinOp) (r : Bool × Bool) : Option (List V) :=
 match r, nilE op true, nilE op false with
 | (true, false), some a, _ => some [zeu a]
 | (false, true), _, some b => some [zeu b]
 | (true, true), some a, some b => some [zeu a, zeu b]
 | _, _, _ => none
theorem nilsE_ok {op : BinOp} {r : Bool × Bool} {vs : List V} {K : V → Prop} (h : nilsE op r = some vs) (hK : ∀ v ∈ vs, K v) : nilR op r fun v => K (zeu v) := by
 unfold nilsE at h
 unfold nilR
 split at h
 · rename_i a h1; cases h; exact zdk (K := fun v => K (zeu v)) h1 (hK _ (by simp))
 · rename_i b h1; cases h; exact zdk (K := fun v => K (zeu v)) h1 (hK _ (by simp))
 · rename_i a b h1 h2; cases h; exact ⟨zdk (K := fun v => K (zeu v)) h1 (hK _ (by simp)), zdk (K := fun v => K (zeu v)) h2 (hK _ (by simp))⟩
 · cases h
def zfi (P : Program) (t : List V) (m : Mem) (o : Oper) : Option V :=
 match o.op with
 | .move x | .assign x => some (evS t x)
 | .pick c a b => pickE (evS t c) (evS t a) (evS t b)
 | .nilCheck x => match evS t x with
   | .u (.p (some c)) => some (.q c 0)
   | .f g a c => some (.f g a c)
   | x => cond (zjt x) (some x) none
 | .binOp op T x y _ => match zlv P m T (evS t x) (evS t y) with
   | some _ => none
   | none => match arrE P T (evS t x) (evS t y) with
     | some c => absO (nilE op c)
     | none => binSE P op T (evS t x) (evS t y)
 | .unOp op _ x => match zmp (evS t x) with
   | some a => absO (XE P (Op.unary op a))
   | none => none
 | .convert s d x => match zmp (evS t x) with
   | some a => absO (XE P (convert s d a))
   | none => strR P s d m (evS t x)
 | .makeFunc (.func g) a c => some (.f g (a.toList.map (evS t)) (c.toList.map (evS t)))
 | .fieldAddr T x f => match P.underlying T with
   | some (.struct fs) => match fs[f]? with
     | some fd => cond (Nat.beq (zah P fd.type) 0) none (zlo (evS t x) fd.offset)
     | none => none
   | _ => none
 | .field T x f => match P.underlying T, evS t x with
   | some (.struct fs), .a l => match fs[f]? with
     | some fd => match zpq P fd.type, zb7 fd.offset l with
       | some (.one z), some (v :: _) => cond (shOk z v) (some v) none
       | some (.many zs), some l => match zgl zs.length l with
         | some vs => some (.a vs)
         | none => none
       | _, _ => none
     | none => none
   | _, _ => none
 | .indexAddr T x i => match evS t i with
   | .u (.i _ i) => match P.underlying T, asD (evS t x) with
     | some (.slice e), .u (.l s rows) => cond (Nat.beq s (zah P e) && !Nat.beq s 0) (match elE rows i with | some r => some (.q r 0) | none => none) none
     | some (.slice e), .c s rows => cond (Nat.beq s (zah P e) && !Nat.beq s 0) (match elE rows i with | some r => some (.q r 0) | none => none) none
     | some (.slice e), .w b => match mg m b with
       | .w _ sz rows => cond (Nat.beq sz (zah P e) && !Nat.beq sz 0) (cond (decide (0 ≤ i) && decide (i < rows.length)) (some (.e b sz i 0)) none) none
       | .cw _ sz n _ => cond (Nat.beq sz (zah P e) && !Nat.beq sz 0) (cond (decide (0 ≤ i) && decide (i < n)) (some (.e b sz i 0)) none) none
       | _ => none
     | some (.slice e), .v b sz l n _ => cond (Nat.beq sz (zah P e) && !Nat.beq sz 0) (cond (decide (0 ≤ i) && decide (i < n)) (some (.e b sz (l + i) 0)) none) none
     | some (.slice e), .sl b o n => cond (Nat.beq (zah P e) 0) none (match i with
       | .ofNat j => cond (Nat.ble (j + 1) n) (some (.r b (o + j * zah P e))) none
       | .negSucc _ => none)
     | some (.array n e), .e b sz k o => cond (Nat.beq (zah P e) 0) none (match i with
       | .ofNat j => cond (Nat.ble (j + 1) n) (some (.e b sz k (o + j * zah P e))) none
       | .negSucc _ => none)
     | some (.array n e), .r b o => match mg m b with
       | .c cells => match zb7 o cells with
         | some (.n _ w _ :: _) => cond (Nat.beq w n && Nat.beq (zah P e) 1) (cond (decide (0 ≤ i) && decide (i < n)) (some (.g b o w i)) none) none
         | some _ => match i with
           | .ofNat j => cond (Nat.ble (j + 1) n) (cond (Nat.beq (zah P e) 0) none (some (.r b (o + j * zah P e)))) none
           | .negSucc _ => none
         | none => none
       | _ => none
     | some (.array n e), .q c o => cond (Nat.beq (zah P e) 0) none (match i with
       | .ofNat j => cond (Nat.ble (j + 1) n) (some (.q c (o + j * zah P e))) none
       | .negSucc _ => none)
     | _, _ => none
   | _ => none
 | .index T x i => match evS t i with
   | .u (.i _ i) => match P.underlying T, evS t x with
     | some .string, .u (.s s) => cond (decide (0 ≤ i) && decide (i < s.size)) (some (.u (.i .u8 (s.data.getD i.toNat 0).toNat))) none
     | some (.array n e), .a l => match zbh P e, zp7 l with
       | some zs, some us => cond (Nat.beq us.length (n * zs.length)) (match elE (chunk n zs.length us) i with
         | some r => match dUsE zs r 0 with
           | some vs => some (oneA P e (vs.map .u))
           | none => none
         | none => none) none
       | _, _ => none
     | _, _ => none
   | _ => none
 | .extract x i => match evS t x with
   | .t l => cond (Nat.ble (i + 1) l.length) (some (zdx l i)) none
   | _ => none
 | .build T ps => match P.info? T, P.underlying T with
   | some inf, some (.struct fs) => match inf.zero with
     | some (.agg cs) => cond (zi4 P fs.toList) (match fillC (zil P fs.toList) (ziq P T (cs.toList.map ofV1)) (ps.toList.map fun p => (p.1, evS t p.2)) with
       | some l => some (.a (ziq P T l))
       | none => none) none
     | _ => none
   | some inf, some (.array _ e) => match inf.zero with
     | some (.agg cs) => cond (Nat.beq (zah P e) 0) none (match fillC (fun i => some (i * zah P e, zah P e)) (fixN (zhy P 9 T) (cs.toList.map ofV1)) (ps.toList.map fun p => (p.1, evS t p.2)) with
       | some l => some (.a (ziq P T l))
       | none => none)
     | _ => none
   | _, _ => none
 | .slice T x lo hi mx => match P.underlying T, asD (evS t x) with
   | some .string, .u (.s s) => match mx, zm1 t lo 0, zm1 t hi s.size with
     | none, some l, some r => cond (leE lo.isNone 0 l && (decide (l ≤ r) && decide (r ≤ s.size))) (some (.u (.s (s.extract l.toNat r.toNat)))) none
     | _, _, _ => none
   | some (.slice e), .u (.l s rows) => cond (Nat.beq s (zah P e) && !Nat.beq s 0) (match mx, zm1 t lo 0, zm1 t hi rows.length with
     | none, some l, some r => cond (leE lo.isNone 0 l && (decide (l ≤ r) && decide (r ≤ rows.length))) (some (.u (.l s ((rows.take r.toNat).drop l.toNat)))) none
     | some mx, some l, some r => match evS t mx with
       | .u (.i _ k) => cond hi.isSome (cond (leE lo.isNone 0 l && (decide (l ≤ r) && (decide (r ≤ rows.length) && decide (k = r)))) (some (.c s ((rows.take r.toNat).drop l.toNat))) none) none
       | _ => none
     | _, _, _ => none) none
   | some (.slice e), .c s rows => cond (Nat.beq s (zah P e) && !Nat.beq s 0) (match mx, zm1 t lo 0, zm1 t hi rows.length with
     | none, some l, some r => cond (leE lo.isNone 0 l && (decide (l ≤ r) && (decide (r ≤ rows.length) && decide (r = rows.length)))) (some (.c s ((rows.take r.toNat).drop l.toNat))) none
     | _, _, _ => none) none
   | some (.slice e), .w b => match mg m b with
     | .w _ sz rows => viewE P t e lo hi mx b sz 0 rows.length false
     | _ => none
   | some (.slice e), .v b sz l n c => viewE P t e lo hi mx b sz l n c
   | _, _ => none
 | .load T a => znx P T (evS t a) m
 | .lookup T x k ok => lookE P T (evS t x) (evS t k) ok m
 | .call c => match c.callee with
   | .builtin .len => match c.args.toList, c.argTypes.toList with
     | [x], [T] => cond (okLen (P.underlying T) (evS t x)) (match lenE m (evS t x) with | some n => some (.u (.i .i64 n)) | none => none) none
     | _, _ => none
   | .builtin .min => match argsI t c.args.toList with
     | some vs => absO (XE P (Builtin.min_ c.argTypes o.type vs.toArray))
     | none => none
   | .builtin .max => match argsI t c.args.toList with
     | some vs => absO (XE P (Builtin.max_ c.argTypes o.type vs.toArray))
     | none => none
   | _ => none
 | _ => none
theorem nzE {n : Nat} {α : Type} {a : Option α} {r : α} {A : Prop} (h : cond (Nat.beq n 0) none a = some r) (hA : a = some r → A) : nz n A := by
 obtain ⟨h1, h2⟩ := zno h
 unfold nz
 rw [h1]
 exact hA h2
theorem zln {P : Program} {t : List V} {m : Mem} {o : Oper} {v : V} {K : V → Prop} (h : zfi P t m o = some v) (hK : K v) : zhr P t m o K := by
 obtain ⟨dst, op, ty, pos, after, guard⟩ := o
 unfold zfi at h
 unfold zhr
 cases op <;> dsimp only at h ⊢
 case move x => cases h; exact hK
 case assign x => cases h; exact hK
 case pick c a b => exact pickE_ok h hK
 case nilCheck x =>
  split at h
  · rename_i c he; cases h; rw [he]; exact hK
  · rename_i g a c he; cases h; rw [he]; exact hK
  · rename_i n1 n2
    obtain ⟨h1, h2⟩ := zaf h
    cases h2
    split
    · rename_i p he
      rw [he] at h1; cases h1
    · rename_i he; rw [he] at h1; cases h1
    · rw [h1]; exact hK
 case binOp op' S x y yt =>
  split at h
  · cases h
  rename_i hnl
  rw [hnl]
  dsimp only
  split at h
  · rename_i c hc
    obtain ⟨a, h1, rfl⟩ := zf5 h
    rw [hc]; exact zdk (K := fun v => K (zeu v)) h1 hK
  · rename_i hc
    rw [hc]; exact binSE_ok h hK
 case unOp op' S x =>
  split at h
  · rename_i a ha
    obtain ⟨b, h1, rfl⟩ := zf5 h
    rw [ha]; exact XE_ok (K := fun v => K (zeu v)) h1 hK
  · cases h
 case convert s d x =>
  split at h
  · rename_i a ha
    obtain ⟨b, h1, rfl⟩ := zf5 h
    rw [ha]; exact XE_ok (K := fun v => K (zeu v)) h1 hK
  · rename_i ha
    rw [ha]
    dsimp only
    rw [h]; exact hK
 case makeFunc f a c =>
  cases f <;> first | (cases h; exact hK) | cases h
 case fieldAddr S x f =>
  split at h
  · rename_i fs hu
    split at h
    · rename_i fd hf
      simp only [hu, hf]
      exact nzE h fun h2 => ptrAddE_ok h2 hK
    · cases h
  · cases h
 case field S x f =>
  split at h
  · rename_i fs l hu hx
    split at h
    · rename_i fd hf
      split at h
      · rename_i z v' l' hl hd
        obtain ⟨h1, h2⟩ := zaf h
        cases h2
        simp only [hu, hx, hf, hl, hd, h1, cond_true]; exact hK
      · rename_i zs l' hl hd
        split at h
        · rename_i vs hp
          cases h
          simp only [hu, hx, hf, hl, hd, hp]; exact hK
        · cases h
      · cases h
    · cases h
  · cases h
 case load S a => exact sLoadE_ok h hK
 case lookup S x k ok => exact lookE_ok h hK
 case extract x i =>
  split at h
  · rename_i l hl
    obtain ⟨h1, h2⟩ := zaf h
    cases h2
    simp only [hl, h1, cond_true]; exact hK
  · cases h
 case indexAddr S x i =>
  split at h
  · rename_i k j hi
    simp only [hi]
    split at h
    · rename_i e s rows hu hx
      obtain ⟨h1, h2⟩ := zaf h
      split at h2
      · rename_i r hr
        cases h2
        simp only [hu, hx, h1, cond_true]
        exact zml (K := fun r => K (.q r 0)) hr hK
      · cases h2
    · rename_i e s rows hu hx
      obtain ⟨h1, h2⟩ := zaf h
      split at h2
      · rename_i r hr
        cases h2
        simp only [hu, hx, h1, cond_true]
        exact zml (K := fun r => K (.q r 0)) hr hK
      · cases h2
    · rename_i e b hu hx
      split at h
      · rename_i E sz rows hm
        obtain ⟨h1, h2⟩ := zaf h
        obtain ⟨h3, h4⟩ := zaf h2
        cases h4
        simp only [Bool.and_eq_true, decide_eq_true_eq] at h3
        simp only [hu, hx, hm, h1, cond_true]
        exact ⟨h3.1, h3.2, hK⟩
      · rename_i E sz n cells hm
        obtain ⟨h1, h2⟩ := zaf h
        obtain ⟨h3, h4⟩ := zaf h2
        cases h4
        simp only [Bool.and_eq_true, decide_eq_true_eq] at h3
        simp only [hu, hx, hm, h1, cond_true]
        exact ⟨h3.1, h3.2, hK⟩
      · cases h
    · rename_i e b sz l n c hu hx
      obtain ⟨h1, h2⟩ := zaf h
      obtain ⟨h3, h4⟩ := zaf h2
      cases h4
      simp only [Bool.and_eq_true, decide_eq_true_eq] at h3
      simp only [hu, hx, h1, cond_true]
      exact ⟨h3.1, h3.2, hK⟩
    · rename_i e b o n hu hx
      simp only [hu, hx]
      refine nzE h fun h2 => ?_
      unfold idxK
      split at h2
      · obtain ⟨h3, h4⟩ := zaf h2
        cases h4
        simp only [h3, cond_true]; exact hK
      · cases h2
    · rename_i n e b sz k' o hu hx
      simp only [hu, hx]
      refine nzE h fun h2 => ?_
      unfold idxK
      split at h2
      · obtain ⟨h3, h4⟩ := zaf h2
        cases h4
        simp only [h3, cond_true]; exact hK
      · cases h2
    · rename_i n e b o hu hx
      simp only [hu, hx]
      split at h
      · rename_i cells hm
        simp only [hm]
        split at h
        · rename_i k' w l r hd
          obtain ⟨h1, h2⟩ := zaf h
          obtain ⟨h3, h4⟩ := zaf h2
          cases h4
          simp only [Bool.and_eq_true, decide_eq_true_eq] at h3
          simp only [hd, h1, cond_true]
          exact ⟨h3.1, h3.2, hK⟩
        · rename_i l hn hd
          split at h
          · rename_i jj
            obtain ⟨h1, h2⟩ := zaf h
            simp only [hd, h1, cond_true]
            exact nzE h2 fun h3 => by cases h3; exact hK
          · cases h
        · cases h
      · cases h
    · rename_i n e c o hu hx
      simp only [hu, hx]
      refine nzE h fun h2 => ?_
      unfold idxK
      split at h2
      · obtain ⟨h3, h4⟩ := zaf h2
        cases h4
        simp only [h3, cond_true]; exact hK
      · cases h2
    · cases h
  · cases h
 case index S x i =>
  split at h
  · rename_i k j hi
    simp only [hi]
    split at h
    · rename_i s hu hx
      obtain ⟨h3, h4⟩ := zaf h
      cases h4
      simp only [Bool.and_eq_true, decide_eq_true_eq] at h3
      simp only [hu, hx]
      exact ⟨h3.1, h3.2, hK⟩
    · rename_i n e l hu hx
      simp only [hu, hx]
      split at h
      · rename_i zs us hz hc
        obtain ⟨h1, h2⟩ := zaf h
        simp only [hz, hc, h1, cond_true]
        split at h2
        · rename_i r hr
          split at h2
          · rename_i vs hv
            cases h2
            exact zml (K := fun r => dUs zs r 0 fun vs => K (oneA P e (vs.map .u))) hr (ziy (K := fun vs => K (oneA P e (vs.map .u))) hv hK)
          · cases h2
        · cases h2
      · cases h
    · cases h
  · cases h
 case build S ps =>
  split at h
  · rename_i inf fs hi hu
    simp only [hi, hu]
    split at h
    · rename_i cs hz
      obtain ⟨h1, h2⟩ := zaf h
      simp only [hz, h1, cond_true]
      split at h2
      · rename_i l hl
        cases h2
        simp only [hl]; exact hK
      · cases h2
    · cases h
  · rename_i inf n e hi hu
    simp only [hi, hu]
    split at h
    · rename_i cs hz
      simp only [hz]
      refine nzE h fun h2 => ?_
      split at h2
      · rename_i l hl
        cases h2
        simp only [hl]; exact hK
      · cases h2
    · cases h
  · cases h
 case slice S x lo hi mx =>
  split at h
  · rename_i s hu hx
    simp only [hu, hx]
    split at h
    · rename_i l r hl hr
      obtain ⟨h3, h4⟩ := zaf h
      cases h4
      simp only [Bool.and_eq_true, decide_eq_true_eq] at h3
      simp only [hl, hr]
      exact zof h3.1 ⟨h3.2.1, h3.2.2, hK⟩
    · cases h
  · rename_i e s rows hu hx
    obtain ⟨h1, h2⟩ := zaf h
    simp only [hu, hx, h1, cond_true]
    split at h2
    · rename_i l r hl hr
      obtain ⟨h3, h4⟩ := zaf h2
      cases h4
      simp only [Bool.and_eq_true, decide_eq_true_eq] at h3
      simp only [hl, hr]
      exact zof h3.1 ⟨h3.2.1, h3.2.2, hK⟩
    · rename_i mx l r hl hr
      simp only [hl, hr]
      split at h2
      · rename_i k kk hk
        obtain ⟨h3, h4⟩ := zaf h2
        obtain ⟨h5, h6⟩ := zaf h4
        cases h6
        simp only [Bool.and_eq_true, decide_eq_true_eq] at h5
        simp only [hk, h3, cond_true]
        exact zof h5.1 ⟨h5.2.1, h5.2.2.1, h5.2.2.2, hK⟩
      · cases h2
    · cases h2
  · rename_i e s rows hu hx
    obtain ⟨h1, h2⟩ := zaf h
    simp only [hu, hx, h1, cond_true]
    split at h2
    · rename_i l r hl hr
      obtain ⟨h3, h4⟩ := zaf h2
      cases h4
      simp only [Bool.and_eq_true, decide_eq_true_eq] at h3
      simp only [hl, hr]
      exact zof h3.1 ⟨h3.2.1, h3.2.2.1, h3.2.2.2, hK⟩
    · cases h2
  · rename_i e b hu hx
    simp only [hu, hx]
    split at h
    · rename_i hm; simp only [hm]; exact viewE_ok h hK
    · cases h
  · rename_i e b sz l n c hu hx
    simp only [hu, hx]
    exact viewE_ok h hK
  · cases h
 case call c =>
  obtain ⟨callee, args, argTypes⟩ := c
  dsimp only at h ⊢
  split at h
  · split at h
    · rename_i x S hax hat
      obtain ⟨h1, h2⟩ := zaf h
      simp only [hax, hat, h1, cond_true]
      split at h2
      · rename_i n hn
        cases h2
        exact lenE_ok (K := fun n => K (.u (.i .i64 n))) hn hK
      · cases h2
    · cases h
  · split at h
    · rename_i vs ha
      obtain ⟨b, h1, rfl⟩ := zf5 h
      simp only [ha]; exact XE_ok (K := fun v => K (zeu v)) h1 hK
    · cases h
  · split at h
    · rename_i vs ha
      obtain ⟨b, h1, rfl⟩ := zf5 h
      simp only [ha]; exact XE_ok (K := fun v => K (zeu v)) h1 hK
    · cases h
  · cases h
 all_goals cases h
def zij (P : Program) (t : List V) (m : Mem) (o : Oper) : Option (List V) :=
 match o.op with
 | .binOp op T x y _ => match zlv P m T (evS t x) (evS t y) with
   | some r => nilsE op r
   | none => match zfi P t m o with | some v => some [v] | none => none
 | _ => match zfi P t m o with | some v => some [v] | none => none
theorem zii {P : Program} {t : List V} {m : Mem} {o : Oper} {vs : List V} {K : V → Prop} (h : zij P t m o = some vs) (hK : ∀ v ∈ vs, K v) : zhr P t m o K := by
 have one : ∀ {a : Option V}, (match a with | some v => some [v] | none => none) = some vs → a = zfi P t m o → zhr P t m o K := fun {a} h1 h2 => by
  cases a with
  | none => cases h1
  | some v => cases h1; exact zln h2.symm (hK v (by simp))
 obtain ⟨dst, op, ty, pos, after, guard⟩ := o
 unfold zij at h
 split at h
 · rename_i op' S x y yt he
   dsimp only at he
   subst he
   split at h
   · rename_i r hr
     unfold zhr
     dsimp only
     rw [hr]
     exact nilsE_ok h hK
   · exact one h rfl
 · exact one h rfl
def zlf (P : Program) (ro : List Nat) (T : TypeId) (a x : V) (m : Mem) : Option Mem :=
 match zbh P T, zd2 P T x with
 | some zs, some xs => cond (shL zs xs && zns P T (zdb P T x)) (match a with
   | .r b o => cond (inL ro b) none (match mg m b with
     | .c cells => match zn3 xs o cells with
       | some l => some (ms m b (.c l))
       | none => none
     | _ => none)
   | .g b o w k => cond (inL ro b) none (match mg m b, xs with
     | .c cells, [.u (.i .i64 y)] => match zb7 o cells with
       | some (.n k' w' l :: _) => cond (Nat.beq w w' && Nat.beq (zaq k') 3) (match zn3 [.n .i64 w (l.set k.toNat y)] o cells with
         | some l => some (ms m b (.c l))
         | none => none) none
       | _ => none
     | _, _ => none)
   | .e b sz k o => cond (inL ro b) none (match mg m b with
     | .cw E sz' n cells => cond (Nat.beq sz sz') (match zn3 xs (k.toNat * sz + o) cells with
       | some l => some (ms m b (.cw E sz n l))
       | none => none) none
     | .w E sz' rows => cond (znm m xs) (cond (Nat.beq sz sz') (match zn3 xs (k.toNat * sz + o) (rows.flatten.map V.u) with
      | some l => some (ms m b (.cw E sz rows.length l))
      | none => none) none) (match toUs ro m xs with
      | some (us, m1) => match mg m1 b with
        | .w E sz' rows => cond (Nat.beq sz sz') (cond (Nat.beq o 0 && Nat.beq us.length sz) (some (ms m1 b (.w E sz (rows.set k.toNat us))))
         (cond (Nat.ble (o + us.length) sz) (match elE rows k with
          | some r => some (ms m1 b (.w E sz (rows.set k.toNat (usp r o us))))
          | none => none) none)) none
        | _ => none
      | none => none)
     | _ => none)
   | _ => none) none
 | _, _ => none
theorem sStoreE_ok {P : Program} {ro : List Nat} {T : TypeId} {a x : V} {m m' : Mem} {K : Mem → Prop} (h : zlf P ro T a x m = some m') (hK : K m') : sStore P true ro T a x m K := by
 unfold zlf at h
 unfold sStore
 simp only [Bool.true_and]
 split at h
 · rename_i zs xs hz hx
   obtain ⟨h1, h2⟩ := zaf h
   simp only [hz, hx, h1, cond_true]
   clear h
   split at h2
   · obtain ⟨h3, h4⟩ := zno h2
     simp only [h3, cond_false]
     split at h4
     · rename_i hm
       split at h4
       · rename_i l hl; cases h4; simp only [hm, hl]; exact hK
       · cases h4
     · cases h4
   · obtain ⟨h3, h4⟩ := zno h2
     simp only [h3, cond_false]
     split at h4
     · rename_i hm
       split at h4
       · rename_i hd
         obtain ⟨h5, h6⟩ := zaf h4
         split at h6
         · rename_i l hl; cases h6; simp only [hm, hd, h5, cond_true, hl]; exact hK
         · cases h6
       · cases h4
     · cases h4
   · obtain ⟨h3, h4⟩ := zno h2
     simp only [h3, cond_false]
     split at h4
     · rename_i hm0
       obtain ⟨h5, h6⟩ := zaf h4
       split at h6
       · rename_i l hl
         cases h6
         simp only [hm0, h5, cond_true, hl]; exact hK
       · cases h6
     rotate_left
     · cases h4
     rename_i hm0
     cases hkb : znm m xs with
     | true =>
       rw [hkb] at h4
       simp only [cond_true] at h4
       obtain ⟨h5, h6⟩ := zaf h4
       split at h6
       · rename_i l hl
         cases h6
         simp only [hm0, h5, cond_true, hl]; exact hK
       · cases h6
     | false =>
     rw [hkb] at h4
     simp only [cond_false] at h4
     simp only [hm0, cond_false]
     split at h4
     · rename_i us m1 hu
       simp only [hu]
       split at h4
       · rename_i hm
         obtain ⟨h5, h6⟩ := zaf h4
         simp only [hm, h5, cond_true]
         generalize (Nat.beq _ 0 && Nat.beq us.length _) = c at h6 ⊢
         cases c
         · obtain ⟨h7, h8⟩ := zaf h6
           split at h8
           · rename_i r hr
             cases h8
             simp only [cond_false, h7, cond_true]
             exact zml (K := fun r => K (ms m1 _ (.w _ _ (List.set _ _ (usp r _ us))))) hr hK
           · cases h8
         · cases h6; exact hK
       · cases h4
     · cases h4
   · cases h2
 · cases h
def apB (a b : List (List U)) : Bool := Nat.ble (a.length + b.length) 1000000
theorem apB_ok {a b : List (List U)} (h : apB a b = true) : zet a b := Nat.le_of_ble_eq_true h
def appCE (P : Program) (ro : List Nat) (e : TypeId) (x y : V) (m : Mem) : Option (V × Mem) :=
 match y with
 | .sl b2 o n => match mg m b2 with
   | .c cells => match zb7 o cells with
     | some l => match zgl (n * zah P e) l with
       | some new => cond (new.all isSg && !Nat.beq n 0) (match x with
         | .nl _ => cond (Nat.ble (0 + n) 1000000) (some (.w m.length, m ++ [.cw e (zah P e) n new])) none
         | .w b => cond (inL ro b) none (match mg m b with
           | .cw e' s k old => cond (Nat.beq e e' && Nat.beq (zah P e) s && Nat.ble (k + n) 1000000) (some (.w m.length, ms m b .x ++ [.cw e (zah P e) (k + n) (old ++ new)])) none
           | _ => none)
         | _ => none) none
       | none => none
     | none => none
   | _ => none
 | _ => none
theorem appCE_ok {P : Program} {ro : List Nat} {e : TypeId} {x y : V} {m : Mem} {r : V × Mem} {K : V → Mem → Prop} (h : appCE P ro e x y m = some r) (hK : K r.1 r.2) : appCS P ro e x y m K := by
 unfold appCE at h
 unfold appCS
 split at h
 · split at h
   · rename_i hm
     split at h
     · rename_i hd
       split at h
       · rename_i hp
         obtain ⟨h1, h2⟩ := zaf h
         simp only [hm, hd, hp, h1, cond_true]
         split at h2
         · obtain ⟨h3, h4⟩ := zaf h2; cases h4; simp only [h3, cond_true]; exact hK
         · obtain ⟨h3, h4⟩ := zno h2
           simp only [h3, cond_false]
           split at h4
           · rename_i hm1
             obtain ⟨h5, h6⟩ := zaf h4
             cases h6
             simp only [hm1, h5, cond_true]; exact hK
           · cases h4
         · cases h2
       · cases h
     · cases h
   · cases h
 · cases h
def appE (P : Program) (ro : List Nat) (T : TypeId) (x y : V) (m : Mem) : Option (V × Mem) :=
 match P.underlying T with
 | some (.slice e) => cond (zp1 P T e (zah P e)) (match y with
   | .nl _ => (match x with
     | .nl s => some (.nl s, m)
     | .u (.l s r) => some (.u (.l s r), m)
     | .c s r => some (.c s r, m)
     | .v b sz l n c => some (.v b sz l n c, m)
     | _ => none)
   | y => (match srcS m y with
     | some (s, new) => cond (Nat.beq s (zah P e)) (match x with
       | .nl _ => cond (apB [] new) (some (.w m.length, m ++ [.w e s new])) none
       | .w b => cond (inL ro b) none (match mg m b with
         | .w e' s' rows => cond (Nat.beq e e' && Nat.beq s s') (cond (apB rows new) (some (.w m.length, ms m b .x ++ [.w e s (rows ++ new)])) none) none
         | _ => none)
       | .c s' rows => cond (Nat.beq s s') (cond (apB rows new) (match new with
         | _ :: _ => some (.w m.length, m ++ [.w e s (rows ++ new)])
         | [] => some (.c s rows, m)) none) none
       | .v b s' l n c => cond (Nat.beq s s') (match mg m b with
         | .w e' s2 rows => cond (Nat.beq e e' && Nat.beq s2 s) (match new with
           | [] => some (.v b s' l n c, m)
           | _ :: _ => cond c (cond (apB ((rows.drop l).take n) new) (some (.w m.length, m ++ [.w e s ((rows.drop l).take n ++ new)])) none)
             (cond (Nat.beq l 0 && !inL ro b) (cond (apB (rows.take n) new) (some (.w m.length, ms m b .x ++ [.w e s (rows.take n ++ new)])) none) none)) none
         | _ => none) none
       | _ => none) none
     | none => appCE P ro e x y m)) none
 | _ => none
theorem appE_ok {P : Program} {ro : List Nat} {T : TypeId} {x y : V} {m : Mem} {r : V × Mem} {K : V → Mem → Prop} (h : appE P ro T x y m = some r) (hK : K r.1 r.2) : appS P ro T x y m K := by
 unfold appE at h
 unfold appS
 split at h
 · rename_i e hu
   obtain ⟨h1, h2⟩ := zaf h
   simp only [hu, h1, cond_true]
   clear h
   split at h2
   · split at h2
     · cases h2; exact hK
     · cases h2; exact hK
     · cases h2; exact hK
     · cases h2; exact hK
     · cases h2
   · rename_i hy
     split at h2
     · rename_i s new hs
       obtain ⟨h3, h4⟩ := zaf h2
       clear h2
       split
       · exact (hy _ rfl).elim
       · rw [hs]
         simp only [h3, cond_true]
         split at h4
         · obtain ⟨h5, h6⟩ := zaf h4; cases h6; exact ⟨apB_ok h5, hK⟩
         · obtain ⟨h5, h6⟩ := zno h4
           simp only [h5, cond_false]
           split at h6
           · rename_i hm
             obtain ⟨h7, h8⟩ := zaf h6
             obtain ⟨h9, h10⟩ := zaf h8
             cases h10
             simp only [hm, h7, cond_true]
             exact ⟨apB_ok h9, hK⟩
           · cases h6
         · obtain ⟨h5, h6⟩ := zaf h4
           obtain ⟨h7, h8⟩ := zaf h6
           simp only [h5, cond_true]
           refine ⟨apB_ok h7, ?_⟩
           split at h8
           · cases h8; exact hK
           · cases h8; exact hK
         · rename_i b s' l n cc
           obtain ⟨h5, h6⟩ := zaf h4
           simp only [h5, cond_true]
           split at h6
           · rename_i e' s2 rows hm
             obtain ⟨h7, h8⟩ := zaf h6
             simp only [hm, h7, cond_true]
             split at h8
             · cases h8; exact hK
             · cases cc with
               | true =>
                 simp only [cond_true] at h8 ⊢
                 obtain ⟨h9, h10⟩ := zaf h8
                 cases h10
                 exact ⟨apB_ok h9, hK⟩
               | false =>
                 simp only [cond_false] at h8 ⊢
                 obtain ⟨h9, h10⟩ := zaf h8
                 obtain ⟨h11, h12⟩ := zaf h10
                 cases h12
                 simp only [h9, cond_true]
                 exact ⟨apB_ok h11, hK⟩
           · cases h6
         · cases h4
     · rename_i hs
       split
       · exact (hy _ rfl).elim
       · rw [hs]; exact appCE_ok h2 hK
 · cases h
def mapUpdE (P : Program) (ro : List Nat) (T : TypeId) (x k v : V) (m : Mem) : Option Mem :=
 match mapT P T, mkOf k, x with
 | some (kt, zs, E, _), some k, .m b => cond (kt.has k && !inL ro b) (match zd2 P E v with
   | some xs => match toUs ro m xs with
     | some (us, m1) => match mg m1 b with
       | .p kt' sz ag rows => cond (ktEq kt kt' && Nat.beq sz zs.length && (ag == isAg P E) && Nat.beq us.length sz && zns P E (zdb P E v)) (some (ms m1 b (.p kt' sz ag (rSet rows k us)))) none
       | _ => none
     | none => none
   | none => none) none
 | _, _, _ => none
theorem mapUpdE_ok {P : Program} {ro : List Nat} {T : TypeId} {x k v : V} {m m' : Mem} {K : Mem → Prop} (h : mapUpdE P ro T x k v m = some m') (hK : K m') : zl6 P ro T x k v m K := by
 unfold mapUpdE at h
 unfold zl6
 split at h
 · rename_i kt zs E zv k' b h1 h2
   obtain ⟨h3, h4⟩ := zaf h
   simp only [h1, h2, h3, cond_true]
   split at h4
   · rename_i xs hx
     split at h4
     · rename_i us m1 hu
       split at h4
       · rename_i hm
         obtain ⟨h5, h6⟩ := zaf h4
         cases h6
         simp only [hx, hu, hm, h5, cond_true]; exact hK
       · cases h4
     · cases h4
   · cases h4
 · cases h
def mapDelE (P : Program) (ro : List Nat) (T K' : TypeId) (x k : V) (m : Mem) : Option Mem :=
 match P.underlying T, zog P K', mkOf k, x with
 | some (.map K1 _), some kt, some k, .m b => cond (Nat.beq K1 K' && kt.has k && !inL ro b) (match mg m b with
   | .p kt' sz ag rows => cond (ktEq kt kt') (some (ms m b (.p kt' sz ag (rDel rows k)))) none
   | _ => none) none
 | some (.map K1 _), some kt, some k, .nm => cond (Nat.beq K1 K' && kt.has k) (some m) none
 | _, _, _, _ => none
theorem mapDelE_ok {P : Program} {ro : List Nat} {T K' : TypeId} {x k : V} {m m' : Mem} {K : Mem → Prop} (h : mapDelE P ro T K' x k m = some m') (hK : K m') : zl7 P ro T K' x k m K := by
 unfold mapDelE at h
 unfold zl7
 split at h
 · rename_i h1 h2 h3
   obtain ⟨h4, h5⟩ := zaf h
   simp only [h1, h2, h3, h4, cond_true]
   split at h5
   · rename_i hm
     obtain ⟨h6, h7⟩ := zaf h5
     cases h7
     simp only [hm, h6, cond_true]; exact hK
   · cases h5
 · rename_i h1 h2 h3
   obtain ⟨h4, h5⟩ := zaf h
   cases h5
   simp only [h1, h2, h3, h4, cond_true]; exact hK
 · cases h
def clearE (P : Program) (ro : List Nat) (T : TypeId) (x : V) (m : Mem) : Option Mem :=
 match P.underlying T with
 | some (.slice e) => match x with
   | .v b sz l n _ => cond (!inL ro b && Nat.beq sz (zah P e) && !Nat.beq n 0) (match mg m b, zrow P e with
     | .w E s rows, some zr => cond (Nat.beq s sz && Nat.beq zr.length sz) (some (ms m b (.w E s (rows.take l ++ (List.replicate n zr ++ rows.drop (l + n)))))) none
     | _, _ => none) none
   | _ => none
 | _ => none
theorem clearE_ok {P : Program} {ro : List Nat} {T : TypeId} {x : V} {m m' : Mem} {K : Mem → Prop} (h : clearE P ro T x m = some m') (hK : K m') : clearS P ro T x m K := by
 unfold clearE at h
 unfold clearS
 split at h
 · rename_i e hu
   rw [hu]
   split at h
   · obtain ⟨h1, h2⟩ := zaf h
     simp only [h1, cond_true]
     split at h2
     · rename_i E s rows zr hm hz
       obtain ⟨h3, h4⟩ := zaf h2
       cases h4
       simp only [hm, hz, h3, cond_true]; exact hK
     · cases h2
   · cases h
 · cases h
abbrev Out := List (V × Mem)
abbrev zer := FuncId → List V → Mem → Option Out
def withM (x : V) (o : Option Mem) : Option (V × Mem) :=
 match o with
 | some m => some (x, m)
 | none => none
theorem zf6 {x : V} {o : Option Mem} {r : V × Mem} (h : withM x o = some r) : ∃ m, o = some m ∧ r = (x, m) := by
 cases o with
 | none => cases h
 | some m => cases h; exact ⟨m, rfl, rfl⟩
def one1 {α : Type} (o : Option α) : Option (List α) :=
 match o with
 | some r => some [r]
 | none => none
theorem zhv {α : Type} {o : Option α} {l : List α} (h : one1 o = some l) : ∃ r, o = some r ∧ l = [r] := by
 cases o with
 | none => cases h
 | some r => cases h; exact ⟨r, rfl, rfl⟩
def effD (P : Program) (ro : List Nat) (t : List V) (m : Mem) (o : Oper) : Option (V × Mem) :=
 match o.op with
 | .store T a x => withM .z (zlf P ro T (evS t a) (evS t x) m)
 | .box T x => match zd2 P T (evS t x) with
   | some xs => some (.r m.length 0, m ++ [boxA T (bdE P T) xs])
   | none => none
 | .alloc T => match (P.info? T).bind (·.zero) with
   | some z => some (.r m.length 0, m ++ [newA P T z])
   | none => none
 | .buildSlice T n ps => match P.underlying T with
   | some (.slice e) => match zrow P e with
     | some zr => cond (Nat.ble (n * zah P e) 16777216 && !Nat.beq (n * zah P e) 0 && Nat.beq zr.length (zah P e)) (match cond (keepT P e) none (zny P ro e (List.replicate n zr) m (ps.toList.map fun p => (p.1, evS t p.2))) with
       | some (rows, m1) => some (.w m1.length, m1 ++ [.w e (zah P e) rows])
       | none => match zgs P e n (ps.toList.map fun p => (p.1, evS t p.2)) with
         | some l => some (.sl m.length 0 n, m ++ [.c l])
         | none => none) (cond (Nat.beq n 0 && Nat.beq ps.size 0) (some (.c (zah P e) [], m)) none)
     | none => match zgs P e n (ps.toList.map fun p => (p.1, evS t p.2)) with
      | some l => cond (Nat.ble (n * zah P e) 16777216 && !Nat.beq (n * zah P e) 0) (some (.sl m.length 0 n, m ++ [.c l])) none
      | none => none
   | _ => none
 | .makeSlice T l c => match P.underlying T, evS t l, evS t c with
   | some (.slice e), .u (.i .i64 l), .u (.i .i64 c) => match zrow P e with
     | some zr => cond (zp1 P T e (zah P e) && Nat.beq zr.length (zah P e)) (cond (decide (0 ≤ l) && (decide (l ≤ 1000000) && decide (c = l))) (some (.w m.length, m ++ [.w e (zah P e) (List.replicate l.toNat zr)])) none) none
     | none => none
   | _, _, _ => none
 | .call c => match c.callee with
   | .builtin .append => match c.args.toList, c.argTypes.toList with
     | [x, y], [T, T'] => cond (Nat.beq T T') (appE P ro T (evS t x) (evS t y) m) none
     | _, _ => none
   | .builtin .delete => match c.args.toList, c.argTypes.toList with
     | [x, y], [T, T'] => withM (.t []) (mapDelE P ro T T' (evS t x) (evS t y) m)
     | _, _ => none
   | .builtin .clear => match c.args.toList, c.argTypes.toList with
     | [x], [T] => withM (.t []) (clearE P ro T (evS t x) m)
     | _, _ => none
   | _ => none
 | .makeMap T none => match mapT P T with
   | some (kt, zs, E, _) => some (.m m.length, m ++ [.p kt zs.length (isAg P E) []])
   | none => none
 | .mapUpdate T x k v => withM .z (mapUpdE P ro T (evS t x) (evS t k) (evS t v) m)
 | _ => none
theorem effD_ok {P : Program} {ro : List Nat} {call : zb8} {t : List V} {m : Mem} {o : Oper} {r : V × Mem} {K : V → Mem → Prop} (h : effD P ro t m o = some r) (hK : K r.1 r.2) : effS P true ro call t m o K := by
 obtain ⟨dst, op, ty, pos, after, guard⟩ := o
 unfold effD at h
 unfold effS
 simp only [Bool.true_and]
 cases op <;> dsimp only at h ⊢
 case store S a x =>
  obtain ⟨m', h1, rfl⟩ := zf6 h
  exact sStoreE_ok (K := fun m' => K .z m') h1 hK
 case box S x =>
  split at h
  · rename_i xs hx; cases h; simp only [hx]; exact hK
  · cases h
 case alloc S =>
  split at h
  · rename_i z hz; cases h; simp only [hz]; exact hK
  · cases h
 case buildSlice S n ps =>
  split at h
  · rename_i e hu
    rw [hu]
    dsimp only
    split at h
    · rename_i zr hz
      rw [hz]
      dsimp only
      cases hc : (Nat.ble (n * zah P e) 16777216 && !Nat.beq (n * zah P e) 0 && Nat.beq zr.length (zah P e)) with
      | true =>
        rw [hc] at h
        simp only [cond_true] at h ⊢
        split at h
        · rename_i rows m1 hr
          cases h
          rw [hr]; exact hK
        · rename_i hr
          rw [hr]
          dsimp only
          split at h
          · rename_i l hl; cases h; rw [hl]; exact hK
          · cases h
      | false =>
        rw [hc] at h
        simp only [cond_false] at h ⊢
        obtain ⟨h1, h2⟩ := zaf h
        cases h2
        rw [h1]; exact hK
    · rename_i hz
      rw [hz]
      dsimp only
      split at h
      · rename_i l hl
        obtain ⟨h1, h2⟩ := zaf h
        cases h2
        rw [hl, h1]; exact hK
      · cases h
  · cases h
 case makeSlice S l c =>
  split at h
  · rename_i e l' c' hu hl hc
    split at h
    · rename_i zr hz
      obtain ⟨h1, h2⟩ := zaf h
      obtain ⟨h3, h4⟩ := zaf h2
      cases h4
      simp only [Bool.and_eq_true, decide_eq_true_eq] at h3
      simp only [hu, hl, hc, hz, h1, cond_true]
      exact ⟨h3.1, h3.2.1, h3.2.2, hK⟩
    · cases h
  · cases h
 case call c =>
  obtain ⟨callee, args, argTypes⟩ := c
  dsimp only at h ⊢
  split at h
  · split at h
    · rename_i x y S S' hax hat
      obtain ⟨h1, h2⟩ := zaf h
      simp only [hax, hat, h1, cond_true]
      exact appE_ok h2 hK
    · cases h
  · split at h
    · rename_i x y S S' hax hat
      obtain ⟨m', h1, rfl⟩ := zf6 h
      simp only [hax, hat]
      exact mapDelE_ok (K := fun m' => K (.t []) m') h1 hK
    · cases h
  · split at h
    · rename_i x S hax hat
      obtain ⟨m', h1, rfl⟩ := zf6 h
      simp only [hax, hat]
      exact clearE_ok (K := fun m' => K (.t []) m') h1 hK
    · cases h
  · cases h
 case makeMap S rr =>
  cases rr with
  | some rr => cases h
  | none =>
    dsimp only at h ⊢
    split at h
    · rename_i kt zs E zv ht; cases h; simp only [ht]; exact hK
    · cases h
 case mapUpdate S x k v =>
  obtain ⟨m', h1, rfl⟩ := zf6 h
  exact mapUpdE_ok (K := fun m' => K .z m') h1 hK
 all_goals cases h
def effE (P : Program) (ro : List Nat) (call : zer) (t : List V) (m : Mem) (o : Oper) : Option Out :=
 match o.op with
 | .call c => match c.callee with
   | .value f => match evS t f with
     | .f g a cc => call g (a ++ c.args.toList.map (evS t) ++ cc) m
     | _ => none
   | _ => one1 (effD P ro t m o)
 | _ => one1 (effD P ro t m o)
def zef (callE : zer) (call : zb8) : Prop := ∀ {g : FuncId} {args : List V} {m : Mem} {rs : Out} {K : V → Mem → Prop}, callE g args m = some rs → (∀ r ∈ rs, K r.1 r.2) → call g args m K
theorem effE_ok {P : Program} {ro : List Nat} {callE : zer} {call : zb8} (hcall : zef callE call) {t : List V} {m : Mem} {o : Oper} {rs : Out} {K : V → Mem → Prop} (h : effE P ro callE t m o = some rs) (hK : ∀ r ∈ rs, K r.1 r.2) : effS P true ro call t m o K := by
 have one : one1 (effD P ro t m o) = some rs → effS P true ro call t m o K := fun h1 => by
  obtain ⟨r, h2, rfl⟩ := zhv h1
  exact effD_ok h2 (hK r (by simp))
 unfold effE at h
 split at h
 · rename_i c hc
   split at h
   · rename_i f hf
     split at h
     · rename_i g a cc he
       unfold effS
       rw [hc]
       simp only [hf, he]
       exact hcall h hK
     · cases h
   · exact one h
 · exact one h
def zmd (ops : List Oper) (o : Oper) (t : List V) : Option (Bool × List V) :=
 match zdq ops o with
 | none => some (true, t)
 | some (none, _) => some (false, t)
 | some (some d, want) =>
   match zdx t d with
   | .u (.b c) => some (cond c want (!want), zk5 t d (.u (.b c)))
   | .t [] => some (false, t)
   | _ => none
theorem zaw {ops : List Oper} {o : Oper} {t t' : List V} {b : Bool} {A B : List V → Prop} (h : zmd ops o t = some (b, t')) (hK : cond b (A t') (B t')) : zh0 ops o t A B := by
 unfold zmd at h
 unfold zh0
 split at h
 · rename_i hg; cases h; rw [hg]; exact hK
 · rename_i hg; cases h; rw [hg]; exact hK
 · rename_i d want hg
   rw [hg]
   dsimp only
   split at h
   · rename_i c hv
     cases h
     rw [hv]
     cases c <;> cases want <;> exact hK
   · rename_i hv
     cases h
     rw [hv]; exact hK
   · cases h
section
variable {P : Program} {D D' : Fz} {ρ : List Loc} {m : Mem} {chs C : List zac} {h : zab} {T : List Value} {t : List V}
theorem zam {α : Type} {l s : List α} {i : Nat} {x : α} (h : l[i]? = some x) : (l ++ s)[i]? = some x := by
 rw [List.getElem?_append_left (List.getElem?_eq_some_iff.1 h).1]; exact h
theorem MRel.mono {ag : Bool} {m : MV} {rows : List (MK × List U)} (hr : MRel D ag m rows) (l : Le D D') : MRel D' ag m rows := by
 induction hr with
 | nil => exact .nil
 | cons a b _ ih => exact .cons (a.mono l) b ih
section
variable (l : Le D D') (s : List Loc)
include l
theorem Rp.mono {v : Value} {x : V} (hr : Rp D ρ v x) : Rp D' (ρ ++ s) v x :=
 @Rp.rec D ρ (fun v x _ => Rp D' (ρ ++ s) v x) (fun vs xs _ => RpL D' (ρ ++ s) vs xs) (fun vs xs _ => RpC D' (ρ ++ s) vs xs)
  (fun h => .u (h.mono l)) (fun h => .r (zam h)) (fun h1 h2 h3 h4 => .e (zam h1) h2 h3 h4) (fun h1 h2 h3 => .g (zam h1) h2 h3) (fun h1 h2 n => .q (h1.mono l) h2 n) (fun h => .w (zam h)) (fun h => .c (h.mono l))
  (fun h => .m (zam h)) .nm .nl (fun _ _ a b => .f a b) (fun _ a => .a a) (fun _ a => .t a) .z (fun h => .y (zam h)) (fun h1 h2 h3 h4 h5 h6 h7 => .v (zam h1) h2 h3 h4 h5 h6 h7) (fun h1 h2 h3 => .sl (zam h1) h2 h3) .nil (fun _ _ a b => .cons a b) .nil (fun _ hn _ a b => .cons a hn b) (fun hl _ a => .n hl a) v x hr
theorem RpL.mono {v : List Value} {x : List V} (hr : RpL D ρ v x) : RpL D' (ρ ++ s) v x :=
 @RpL.rec D ρ (fun v x _ => Rp D' (ρ ++ s) v x) (fun vs xs _ => RpL D' (ρ ++ s) vs xs) (fun vs xs _ => RpC D' (ρ ++ s) vs xs)
  (fun h => .u (h.mono l)) (fun h => .r (zam h)) (fun h1 h2 h3 h4 => .e (zam h1) h2 h3 h4) (fun h1 h2 h3 => .g (zam h1) h2 h3) (fun h1 h2 n => .q (h1.mono l) h2 n) (fun h => .w (zam h)) (fun h => .c (h.mono l))
  (fun h => .m (zam h)) .nm .nl (fun _ _ a b => .f a b) (fun _ a => .a a) (fun _ a => .t a) .z (fun h => .y (zam h)) (fun h1 h2 h3 h4 h5 h6 h7 => .v (zam h1) h2 h3 h4 h5 h6 h7) (fun h1 h2 h3 => .sl (zam h1) h2 h3) .nil (fun _ _ a b => .cons a b) .nil (fun _ hn _ a b => .cons a hn b) (fun hl _ a => .n hl a) v x hr
theorem RpC.mono {v : List Value} {x : List V} (hr : RpC D ρ v x) : RpC D' (ρ ++ s) v x :=
 @RpC.rec D ρ (fun v x _ => Rp D' (ρ ++ s) v x) (fun vs xs _ => RpL D' (ρ ++ s) vs xs) (fun vs xs _ => RpC D' (ρ ++ s) vs xs)
  (fun h => .u (h.mono l)) (fun h => .r (zam h)) (fun h1 h2 h3 h4 => .e (zam h1) h2 h3 h4) (fun h1 h2 h3 => .g (zam h1) h2 h3) (fun h1 h2 n => .q (h1.mono l) h2 n) (fun h => .w (zam h)) (fun h => .c (h.mono l))
  (fun h => .m (zam h)) .nm .nl (fun _ _ a b => .f a b) (fun _ a => .a a) (fun _ a => .t a) .z (fun h => .y (zam h)) (fun h1 h2 h3 h4 h5 h6 h7 => .v (zam h1) h2 h3 h4 h5 h6 h7) (fun h1 h2 h3 => .sl (zam h1) h2 h3) .nil (fun _ _ a b => .cons a b) .nil (fun _ hn _ a b => .cons a hn b) (fun hl _ a => .n hl a) v x hr
theorem Ent.mono {L : Loc} {ab : AB} {ch : zac} (hr : Ent D ρ L ab ch) : Ent D' (ρ ++ s) L ab ch := by
 cases hr with
 | c h => exact .c (h.mono l s)
 | w o h => exact .w (o.mono l) h
 | o h => exact .o (I := _) (Ob.mono _ h l)
 | p a b c => exact .p a (b.mono l) c
 | tk h => exact .tk h
 | x => exact .x
 | cw a b h c d e => exact .cw a b (h.mono l s) c d e
end
theorem RpL.get (F : RpL D ρ T t) (i : Nat) : Rp D ρ (zd0 T i) (zdx t i) := by
 induction t generalizing T i with
 | nil => cases F; exact .z
 | cons x t ih =>
   cases F with
   | cons a b => cases i with
     | zero => exact a
     | succ i => exact ih b i
theorem RpL.set {v : Value} {x : V} (F : RpL D ρ T t) (i : Nat) (hv : Rp D ρ v x) : RpL D ρ (znk T i v) (zk5 t i x) := by
 induction t generalizing T i with
 | nil => cases F; exact .nil
 | cons y t ih =>
   cases F with
   | cons a b => cases i with
     | zero => exact .cons hv b
     | succ i => exact .cons a (ih b i)
theorem RpL.put {v : Value} {x : V} {d : Option Tmp} (F : RpL D ρ T t) (hv : Rp D ρ v x) : RpL D ρ (lput T d v) (znc t d x) := by
 cases d with
 | none => exact F
 | some i => exact F.set i hv
theorem RpL.len' {vs : List Value} {xs : List V} (F : RpL D ρ vs xs) : vs.length = xs.length := by
 induction xs generalizing vs with
 | nil => cases F; rfl
 | cons x xs ih => cases F with | cons a b => simp [ih b]
theorem RpL.at {vs : List Value} {xs : List V} (F : RpL D ρ vs xs) {i : Nat} {v : Value} (h : vs[i]? = some v) : Rp D ρ v (zdx xs i) := by
 induction xs generalizing vs i with
 | nil => cases F; simp at h
 | cons x xs ih => cases F with
   | cons a b => cases i with
     | zero => simp at h; subst h; exact a
     | succ i => exact ih b (by simpa using h)
theorem RpL.app {vs ws : List Value} {xs ys : List V} (F : RpL D ρ vs xs) (G : RpL D ρ ws ys) : RpL D ρ (vs ++ ws) (xs ++ ys) := by
 induction xs generalizing vs with
 | nil => cases F; exact G
 | cons x xs ih => cases F with | cons a b => exact .cons a (ih b)
theorem RpC.app {vs ws : List Value} {xs ys : List V} (F : RpC D ρ vs xs) (G : RpC D ρ ws ys) : RpC D ρ (vs ++ ws) (xs ++ ys) := by
 induction xs generalizing vs with
 | nil => cases F; exact G
 | cons x xs ih => cases F with
   | cons a n b => exact .cons a n (ih b)
   | n hl b => rw [List.append_assoc]; exact .n hl (ih b)
theorem ofV1_S (v : Value) : Rp D ρ v (ofV1 v) ∧ ∀ k w l, ofV1 v ≠ .n k w l := by
 unfold ofV1
 split <;> first
  | exact ⟨.u (.int _ _), by simp⟩ | exact ⟨.u (.bool _), by simp⟩ | exact ⟨.u (.str _), by simp⟩ | exact ⟨.u .pn, by simp⟩ | exact ⟨.nl, by simp⟩ | exact ⟨.nm, by simp⟩ | exact ⟨.f (xs := []) (ys := []) .nil .nil, by simp⟩ | exact ⟨.z, by simp⟩
theorem zgw : ∀ (l : List Value), RpC D ρ l (l.map ofV1)
 | [] => .nil
 | v :: l => .cons (ofV1_S v).1 (ofV1_S (D := D) (ρ := ρ) v).2 (zgw l)
theorem ofV_S (v : Value) : Rp D ρ v (ofV v) := by
 unfold ofV
 split
 · exact .a (zgw _)
 · exact (ofV1_S _).1
theorem zc4 (F : RpL D ρ T t) (x : Operand) : Rp D ρ (ev T x) (evS t x) := by
 cases x with
 | tmp i => exact F.get i
 | const v => exact ofV_S v
 | func f => exact .f (xs := []) (ys := []) .nil .nil
 | global g => exact .z
theorem evL_S (F : RpL D ρ T t) : ∀ (l : List Operand), RpL D ρ (l.map (ev T)) (l.map (evS t))
 | [] => .nil
 | x :: l => .cons (zc4 F x) (evL_S F l)
theorem zmo {v a : Value} {x : V} (h : zmp x = some a) (hr : Rp D ρ v x) : v = a := by
 unfold zmp at h
 split at h <;> cases h <;> (cases hr; rename_i hr; cases hr; rfl)
theorem concL_S : ∀ {vs as' : List Value} {xs : List V}, concL xs = some as' → RpC D ρ vs xs → vs = as'
 | vs, as', [], h, hr => by cases hr; cases h; rfl
 | vs, as', x :: xs, h, hr => by
   simp only [concL] at h
   split at h
   · rename_i a as' h1 h2
     cases h
     cases hr with
     | cons a n b => rw [zmo h1 a, concL_S h2 b]
     | n hl b => simp [zmp] at h1
   · cases h
theorem conc_S {v a : Value} {x : V} (h : conc x = some a) (hr : Rp D ρ v x) : v = a := by
 unfold conc at h
 split at h
 · split at h
   · rename_i hl
     cases h
     cases hr with
     | a hc => rw [concL_S hl hc]
   · cases h
 · exact zmo h hr
theorem zmz (v : Value) : Rp D ρ v (zeu v) := by
 unfold zeu
 split <;> first | exact .u (.int _ _) | exact .u (.bool _) | exact .u (.str _) | exact .z
theorem zdr {l r : List V} : ∀ {o : Nat} {vs : List Value}, zb7 o l = some r → RpC D ρ vs l → ∃ p s, vs = p ++ s ∧ p.length = o ∧ RpC D ρ s r := by
 induction l with
 | nil =>
   intro o vs h hr
   cases o with
   | zero => simp only [zb7, Option.some.injEq] at h; subst h; exact ⟨[], vs, rfl, rfl, hr⟩
   | succ o => simp [zb7] at h
 | cons x l ih =>
   intro o vs h hr
   cases o with
   | zero => simp only [zb7, Option.some.injEq] at h; subst h; exact ⟨[], vs, rfl, rfl, hr⟩
   | succ o =>
     simp only [zb7] at h
     cases hc : (Nat.ble (wd x) (o + 1) && !Nat.beq (wd x) 0) with
     | false => rw [hc] at h; cases h
     | true =>
       rw [hc] at h
       simp only [Bool.and_eq_true] at hc
       have hle := Nat.le_of_ble_eq_true hc.1
       cases hr with
       | cons a n b =>
         have hw : wd x = 1 := by cases x <;> first | rfl | exact absurd rfl (n _ _ _)
         rw [hw] at h
         obtain ⟨p, s, rfl, hp, hs⟩ := ih h b
         exact ⟨_ :: p, s, rfl, by simp at hp ⊢; omega, hs⟩
       | n hl b =>
         obtain ⟨p, s, rfl, hp, hs⟩ := ih h b
         refine ⟨_ ++ p, s, (List.append_assoc _ _ _).symm, ?_, hs⟩
         simp only [wd] at hle hp
         simp [hl, hp]; omega
theorem zpa {l r : List V} : ∀ {n : Nat} {vs : List Value}, zgl n l = some r → RpC D ρ vs l → ∃ p s, vs = p ++ s ∧ p.length = n ∧ RpC D ρ p r := by
 induction l generalizing r with
 | nil =>
   intro o vs h hr
   cases o with
   | zero => simp only [zgl, Option.some.injEq] at h; subst h; exact ⟨[], vs, rfl, rfl, .nil⟩
   | succ o => simp [zgl] at h
 | cons x l ih =>
   intro o vs h hr
   cases o with
   | zero => simp only [zgl, Option.some.injEq] at h; subst h; exact ⟨[], vs, rfl, rfl, .nil⟩
   | succ o =>
     simp only [zgl] at h
     cases hc : (Nat.ble (wd x) (o + 1) && !Nat.beq (wd x) 0) with
     | false => rw [hc] at h; cases h
     | true =>
       rw [hc] at h
       simp only [Bool.and_eq_true] at hc
       have hle := Nat.le_of_ble_eq_true hc.1
       simp only [cond_true] at h
       split at h
       · rename_i r' hr'
         cases h
         cases hr with
         | cons a n b =>
           have hw : wd x = 1 := by cases x <;> first | rfl | exact absurd rfl (n _ _ _)
           rw [hw] at hr'
           obtain ⟨p, s, rfl, hp, hs⟩ := ih hr' b
           exact ⟨_ :: p, s, rfl, by simp at hp ⊢; omega, .cons a n hs⟩
         | n hl b =>
           obtain ⟨p, s, rfl, hp, hs⟩ := ih hr' b
           refine ⟨_ ++ p, s, (List.append_assoc _ _ _).symm, ?_, .n hl hs⟩
           simp only [wd] at hle hp
           simp [hl, hp]; omega
       · cases h
theorem wds_len {l : List V} : ∀ {vs : List Value}, RpC D ρ vs l → vs.length = wds l := by
 induction l with
 | nil => intro vs h; cases h; rfl
 | cons x l ih =>
   intro vs h
   cases h with
   | cons a n b =>
     have hw : wd x = 1 := by cases x <;> first | rfl | exact absurd rfl (n _ _ _)
     simp only [wds, hw, List.length_cons, ih b]; omega
   | n hl b => simp [wds, wd, hl, ih b]
theorem putC_S {new l r : List V} {ns : List Value} (hn : RpC D ρ ns new) : ∀ {o : Nat} {vs : List Value}, zn3 new o l = some r → RpC D ρ vs l → o + ns.length ≤ vs.length ∧ RpC D ρ (zar vs o ns) r := by
 have sp : ∀ (a b c : List Value), a.length = b.length → zar (a ++ c) 0 b = b ++ c := by
  intro a
  induction a with
  | nil => intro b c h; cases b with | nil => cases c <;> rfl | cons _ _ => simp at h
  | cons x a ih => intro b c h; cases b with | nil => simp at h | cons y b => simp only [List.cons_append, zar]; rw [ih b c (by simpa using h)]
 have sp2 : ∀ (a c b : List Value) (k : Nat), zar (a ++ c) (a.length + k) b = a ++ zar c k b := by
  intro a c b k
  cases b with
  | nil => rw [zbu, zbu]
  | cons y b =>
    induction a with
    | nil => rw [List.nil_append, List.nil_append, List.length_nil, Nat.zero_add]
    | cons x a ih => rw [List.length_cons, show a.length + 1 + k = (a.length + k) + 1 by omega, List.cons_append, zar, ih, List.cons_append]
 induction l generalizing r with
 | nil =>
   intro o vs h hr
   cases o with
   | zero =>
     simp only [zn3] at h
     split at h
     · rename_i r' hr'
       cases h
       obtain ⟨p, s, rfl, hp, hs⟩ := zdr hr' hr
       rw [← wds_len hn] at hp
       exact ⟨by simp [hp], by rw [sp _ _ _ hp]; exact hn.app hs⟩
     · cases h
   | succ o => simp [zn3] at h
 | cons x l ih =>
   intro o vs h hr
   cases o with
   | zero =>
     simp only [zn3] at h
     split at h
     · rename_i r' hr'
       cases h
       obtain ⟨p, s, rfl, hp, hs⟩ := zdr hr' hr
       rw [← wds_len hn] at hp
       exact ⟨by simp [hp], by rw [sp _ _ _ hp]; exact hn.app hs⟩
     · cases h
   | succ o =>
     simp only [zn3] at h
     cases hc : (Nat.ble (wd x) (o + 1) && !Nat.beq (wd x) 0) with
     | false => rw [hc] at h; cases h
     | true =>
       rw [hc] at h
       simp only [Bool.and_eq_true] at hc
       have hle := Nat.le_of_ble_eq_true hc.1
       simp only [cond_true] at h
       split at h
       · rename_i r' hr'
         cases h
         cases hr with
         | cons a n b =>
           have hw : wd x = 1 := by cases x <;> first | rfl | exact absurd rfl (n _ _ _)
           rw [hw] at hr'
           obtain ⟨h1, h2⟩ := ih hr' b
           refine ⟨by simp at h1 ⊢; omega, ?_⟩
           cases ns with
           | nil => rw [zbu] at h2 ⊢; exact .cons a n h2
           | cons y ns => exact .cons a n h2
         | n hl b =>
           obtain ⟨h1, h2⟩ := ih hr' b
           simp only [wd] at h1 h2 hle
           refine ⟨by simp [hl]; omega, ?_⟩
           rw [show o + 1 = (List.map (Value.int _) _).length + (o + 1 - (List.map (Value.int _) _).length) by rw [List.length_map, hl]; omega, sp2]
           rw [List.length_map, hl]
           exact .n hl h2
       · cases h
theorem mg_eq : ∀ {m : Mem} {i : Nat}, i < m.length → m[i]? = some (mg m i)
 | [], _, h => by simp at h
 | _ :: _, 0, _ => rfl
 | _ :: m, i + 1, h => by simpa [mg] using mg_eq (m := m) (by simpa using h)
theorem mg_lt {m : Mem} {i : Nat} (h : mg m i ≠ .x) : i < m.length := by
 induction m generalizing i with
 | nil => exact absurd rfl h
 | cons a m ih => cases i with
   | zero => simp
   | succ i => have := ih (i := i) h; simp; omega
theorem SAt.get (M : SAt D ρ m chs C h) {b : Nat} (hb : mg m b ≠ .x) : ∃ L ch, ρ[b]? = some L ∧ chs[b]? = some ch ∧ Ent D ρ L (mg m b) ch := by
 have hlt := mg_lt hb
 have h1 : b < ρ.length := by rw [M.len]; exact hlt
 have h2 : b < chs.length := by rw [M.lch]; exact hlt
 exact ⟨ρ[b], chs[b], List.getElem?_eq_getElem h1, List.getElem?_eq_getElem h2, M.ent b _ _ _ (List.getElem?_eq_getElem h1) (mg_eq hlt) (List.getElem?_eq_getElem h2)⟩
theorem SAt.own (M : SAt D ρ m chs C h) {b : Nat} {ch : zac} (hc : chs[b]? = some ch) {p : Nat × Obj} (hp : p ∈ ch) : h[p.1]? = some p.2 :=
 M.st.own p (List.mem_flatten.2 ⟨ch, List.mem_append.2 (.inl (List.mem_of_getElem? hc)), hp⟩)
def Cov (D : Fz) (chs : List zac) (bs : List Nat) (bb : Nat) (ob : Obj) : Prop := D bb = some ob ∨ ∃ b ch, inL bs b = true ∧ chs[b]? = some ch ∧ (bb, ob) ∈ ch
def Hs (D : Fz) (chs : List zac) (bs : List Nat) (w : World) : Prop := ∀ bb ob, Cov D chs bs bb ob → w.heap[bb]? = some ob
theorem SAt.hs (M : SAt D ρ m chs C h) (bs : List Nat) {w : World} (hw : w.heap = h) : Hs D chs bs w := by
 rintro bb ob (hd | ⟨b, ch, -, hc, hp⟩)
 · rw [hw]; exact (M.st.fz bb ob hd).1
 · rw [hw]; exact M.own hc hp
theorem inL_iff : ∀ {l : List Nat} {b : Nat}, inL l b = true ↔ b ∈ l
 | [], b => by simp [inL]
 | x :: l, b => by
   simp only [inL, Bool.or_eq_true, List.mem_cons, inL_iff (l := l)]
   constructor
   · rintro (h | h)
     · exact .inl (Nat.eq_of_beq_eq_true h).symm
     · exact .inr h
   · rintro (rfl | h)
     · exact .inl (Nat.beq_refl _)
     · exact .inr h
end
section
variable {P : Program} {D D' : Fz} {ρ : List Loc} {m : Mem} {chs C : List zac} {h : zab} {T : List Value} {t : List V}
theorem zmc {i : Int} {n : Nat} {K : Nat → Prop} (hh : idxK i n K) : ∃ j : Nat, i = .ofNat j ∧ j < n ∧ K j := by
 unfold idxK at hh
 split at hh
 · obtain ⟨h1, h2⟩ := zaa hh
   exact ⟨_, rfl, Nat.le_of_ble_eq_true h1, h2⟩
 · exact hh.elim
theorem ze3 {α : Type} {l : List α} {k : Int} {K : α → Prop} (hh : elL l k K) : 0 ≤ k ∧ ∃ r, l[k.toNat]? = some r ∧ K r := by
 unfold elL at hh
 split at hh
 · rename_i i
   split at hh
   · rename_i r hr; exact ⟨Int.natCast_nonneg i, r, hr, hh⟩
   · exact hh.elim
 · exact hh.elim
theorem zpb {α : Type} {o : Option α} {K : α → Prop} (hh : oP o K) : ∃ c, o = some c ∧ K c := by
 unfold oP at hh
 split at hh
 · exact ⟨_, rfl, hh⟩
 · exact hh.elim
theorem zp4 {z : Value × Nat} {o : Option U} {K : U → Prop} (hh : dU z o K) : ∃ u, o = some u ∧ K u := by
 unfold dU at hh
 split at hh
 · unfold dI at hh; split at hh
   · obtain ⟨h1, h2⟩ := ze0 hh; subst h1; exact ⟨_, rfl, h2⟩
   · exact hh.elim
 · unfold dB at hh; split at hh
   · exact ⟨_, rfl, hh⟩
   · exact hh.elim
 · unfold dS at hh; split at hh
   · exact ⟨_, rfl, hh⟩
   · exact hh.elim
 · unfold dL at hh; split at hh
   · obtain ⟨h1, h2⟩ := zaa hh
     have := Nat.eq_of_beq_eq_true h1
     subst this
     exact ⟨_, rfl, h2⟩
   · exact hh.elim
 · unfold dP at hh; split at hh
   · exact ⟨_, rfl, hh⟩
   · exact hh.elim
 · exact hh.elim
theorem ug_eq : ∀ (l : List U) (i : Nat), ug l i = l[i]?
 | [], _ => by simp [ug]
 | _ :: _, 0 => rfl
 | _ :: l, i + 1 => by simp [ug, ug_eq l i]
theorem zgi : ∀ {zs : List (Value × Nat)} {r : List U} {o : Nat} {K : List U → Prop}, dUs zs r o K → ∃ us, us.length = zs.length ∧ (∀ j u, us[j]? = some u → r[o + j]? = some u) ∧ K us
 | [], r, o, K, hh => ⟨[], rfl, by simp, hh⟩
 | z :: zs, r, o, K, hh => by
   obtain ⟨u, hu, h2⟩ := zp4 hh
   obtain ⟨us, hl, hg, hK⟩ := zgi h2
   refine ⟨u :: us, by simp [hl], fun j v hv => ?_, hK⟩
   cases j with
   | zero => simp at hv; subst hv; rw [ug_eq] at hu; simpa using hu
   | succ j => have := hg j v (by simpa using hv); rw [show o + (j + 1) = o + 1 + j by omega]; exact this
theorem RpC.ofU : ∀ {vs : List Value} {us : List U}, RdL D vs us → RpC D ρ vs (us.map .u)
 | _, _, .nil => .nil
 | _, _, .cons a b => .cons (.u a) (by simp) (RpC.ofU b)
theorem RpC.toU : ∀ {us : List U} {l : List V} {vs : List Value}, zp7 l = some us → RpC D ρ vs l → RdL D vs us
 | us, [], vs, hc, hr => by cases hr; cases hc; exact .nil
 | us, x :: l, vs, hc, hr => by
   cases x with
   | u x =>
     simp only [zp7] at hc
     split at hc
     · rename_i us' hus
       cases hc
       cases hr with
       | cons a n b => cases a with | u a => exact .cons a (RpC.toU hus b)
     · cases hc
   | nl s =>
     simp only [zp7] at hc
     split at hc
     · rename_i us' hus
       cases hc
       cases hr with
       | cons a n b => cases a; exact .cons (.nil _ _ _) (RpC.toU hus b)
     · cases hc
   | _ => simp [zp7] at hc
theorem zgf {T : TypeId} {z : Value × Nat} (hl : zpq P T = some (.one z)) : zdn P T = some (.one z.1) := by
 unfold zpq at hl
 cases h1 : zdn P T with
 | none => rw [h1] at hl; simp at hl
 | some l =>
   rw [h1] at hl
   cases l with
   | one z' => cases h2 : zhy P 9 T with
     | nil => rw [h2] at hl; simp at hl
     | cons s ss => rw [h2] at hl; simp at hl; subst hl; rfl
   | many cs => cases hb : Nat.beq cs.length (zhy P 9 T).length <;> simp [hb] at hl
theorem zem {T : TypeId} {zs : List (Value × Nat)} (hl : zpq P T = some (.many zs)) : ∃ cs, zdn P T = some (.many cs) ∧ cs.length = zs.length := by
 unfold zpq at hl
 cases h1 : zdn P T with
 | none => rw [h1] at hl; simp at hl
 | some l =>
   rw [h1] at hl
   cases l with
   | one z' => cases h2 : zhy P 9 T with
     | nil => rw [h2] at hl; simp at hl
     | cons s ss => rw [h2] at hl; simp at hl
   | many cs => cases hb : Nat.beq cs.length (zhy P 9 T).length with
     | false => simp [hb] at hl
     | true =>
       simp [hb] at hl; subst hl
       have := Nat.eq_of_beq_eq_true hb
       exact ⟨cs, rfl, by simp [this]⟩
theorem zgt {S : TypeId} {z : Value} (hl : zdn P S = some (.one z)) {b o : Nat} {v : Value} {w : World} (hc : hcell w.heap ⟨b, o, none⟩ = some v) : (loadVar S ⟨b, o, none⟩).run P w = .ok v w := by
 obtain ⟨ha, -, -⟩ := zen hl
 have hv' : w.cell? ⟨b, o, none⟩ = some v := hc
 simp [loadVar, ha, Go.load, Sem.run, hv']
theorem run_ldN {S : TypeId} {cs : List Value} (hl : zdn P S = some (.many cs)) {b o : Nat} {vs : List Value} {w : World} (hn : vs.length = cs.length) (hc : ∀ j v, vs[j]? = some v → hcell w.heap ⟨b, o + j, none⟩ = some v) :
 (loadVar S ⟨b, o, none⟩).run P w = .ok (.agg vs.toArray) w := by
 obtain ⟨ha, i, hi, hs⟩ := zdg hl
 have hr : (loadCells ⟨b, o, none⟩ vs.length).run P w = .ok vs.toArray w :=
  run_loadCells_list (P := P) w ⟨b, o, none⟩ vs (fun j v hv => by rw [za3]; exact hc j v hv)
 simp [loadVar, ha, zan hi, hs, ← hn, hr]
theorem run_pt1 {S : TypeId} {z : Value} (hl : zdn P S = some (.one z)) {xs : Array Value} {i : Nat} {v : Value} (hc : xs[i]? = some v) (w : World) : (part S xs i).run P w = .ok v w := by
 obtain ⟨ha, -, -⟩ := zen hl
 simp only [part, Sem.run_bind, ha, Result.andThen_ok, Bool.false_eq_true, if_false, hc]
 rfl
theorem run_ptN {S : TypeId} {cs : List Value} (hl : zdn P S = some (.many cs)) {p vs s : List Value} (hn : vs.length = cs.length) (w : World) :
 (part S (p ++ (vs ++ s)).toArray p.length).run P w = .ok (.agg vs.toArray) w := by
 obtain ⟨ha, i, hi, hs⟩ := zdg hl
 simp only [part, Sem.run_bind, ha, Result.andThen_ok, if_true, zan hi, Sem.run_pure]
 congr 2
 simp [hs, ← hn]
theorem Rd.pp_iff {p o : Nat} {c : List U} (hr : Rd D (.pointer (some ⟨p, o, none⟩)) (.p (some c))) : ∃ (arr : Array Value) (S : TypeId) (f : Nat × Nat) (v : Nat → Value), D p = some (.cells arr S f) ∧
 (∀ j u, c[j]? = some u → arr[o + j]? = some (v j)) ∧ ∀ j u, c[j]? = some u → Rd D (v j) u := by
 cases hr with
 | pp b o arr S f us v h1 h2 h3 => exact ⟨arr, S, f, v, h1, h2, h3⟩
theorem zdp {w : World} {b : Nat} {c : Array Value} {e : TypeId} {f : Nat × Nat} (hb : w.heap[b]? = some (.cells c e f)) (o : Nat) : hcell w.heap ⟨b, o, none⟩ = c[o]? := zao hb o
theorem load1_S {S : TypeId} {z : Value × Nat} (hl : zpq P S = some (.one z)) {a : V} {va : Value} {KS : V → Prop} (hs : zl8 z a m KS) (M : SAt D ρ m chs C h) (ha : Rp D ρ va a) {bs : List Nat} (hbs : ∀ b, b ∈ zae a → inL bs b = true) :
 ∃ bb oo v x, va = .pointer (some ⟨bb, oo, none⟩) ∧ KS x ∧ Rp D ρ v x ∧ ∀ w, Hs D chs bs w → (loadVar S ⟨bb, oo, none⟩).run P w = .ok v w := by
 have hl := zgf hl
 cases a with
 | r b o =>
   simp only [zl8] at hs
   split at hs
   · rename_i cells hm
     obtain ⟨L, ch, h1, h2, h3⟩ := M.get (b := b) (by rw [hm]; simp)
     rw [hm] at h3
     cases h3 with
     | c hc =>
       rename_i arr S'
       split at hs
       · rename_i v l hd
         obtain ⟨hk, hK⟩ := zaa hs
         obtain ⟨p, s, rfl, hp, hr⟩ := zdr hd hc
         cases ha with
         | r ha =>
           rw [h1] at ha; cases ha
           cases hr with
           | cons x n y =>
             refine ⟨_, _, _, _, rfl, hK, x, fun w hw => zgt hl ?_⟩
             rw [zdp (hw L.b _ (.inr ⟨b, _, hbs b (by simp [zae]), h2, List.mem_singleton_self _⟩))]
             simp [← hp]
           | n hl' y => simp [shOk] at hk
       · exact hs.elim
   · exact hs.elim
 | g b o w k =>
   simp only [zl8] at hs
   split at hs
   · rename_i cells hm
     obtain ⟨L, ch, h1, h2, h3⟩ := M.get (b := b) (by rw [hm]; simp)
     rw [hm] at h3
     cases h3 with
     | c hc =>
       rename_i arr S'
       split at hs
       · rename_i k' w' l r hd
         obtain ⟨hk, hK⟩ := zaa hs
         simp only [Bool.and_eq_true] at hk
         obtain ⟨p, s, rfl, hp, hr⟩ := zdr hd hc
         obtain ⟨h0, n, hn, hK⟩ := ze3 hK
         have hk3 : k' = .i64 := by
          cases k' <;> first | rfl | (have := hk.1.2; simp [zaq] at this)
         subst hk3
         cases ha with
         | g ha =>
           rw [h1] at ha; cases ha
           cases hr with
           | cons x n y => exact absurd rfl (n _ _ _)
           | n hl' y =>
             refine ⟨_, _, .int .i64 n, _, rfl, hK, .u (.int _ _), fun w hw => zgt hl ?_⟩
             rw [zdp (hw L.b _ (.inr ⟨b, _, hbs b (by simp [zae]), h2, List.mem_singleton_self _⟩))]
             simp only [List.getElem?_toArray]
             rw [List.getElem?_append_right (by omega), hp, show o + k.toNat - o = k.toNat by omega]
             exact zam (by simp [hn])
       · exact hs.elim
   · exact hs.elim
 | e b sz k o =>
   simp only [zl8] at hs
   split at hs
   · rename_i E sz' rows hm
     obtain ⟨L, ch, h1, h2, h3⟩ := M.get (b := b) (by rw [hm]; simp)
     rw [hm] at h3
     obtain ⟨hk, hK⟩ := zaa hs
     have := Nat.eq_of_beq_eq_true hk
     subst this
     obtain ⟨h0, r, hr, hK⟩ := ze3 hK
     obtain ⟨u, hu, hK⟩ := zp4 hK
     rw [ug_eq] at hu
     cases ha with
     | e ha hL hk0 hk1 =>
       rename_i p q L'
       rw [h1] at ha; cases ha
       cases h3 with
       | w own hn =>
         generalize hA : L.a = A at *
         subst hL
         cases own with
         | row bb c arr rows v g1 g2 g3 g4 g5 =>
           refine ⟨_, _, _, _, rfl, hK, .u (g5 _ _ _ _ hr hu), fun w hw => zgt hl ?_⟩
           rw [zdp (hw _ _ (.inr ⟨b, _, hbs b (by simp [zae]), h2, List.mem_singleton_self _⟩)), Nat.zero_add]
           exact g4 _ _ _ _ hr hu
   · rename_i E sz' n cells hm
     obtain ⟨L, ch, h1, h2, h3⟩ := M.get (b := b) (by rw [hm]; simp)
     rw [hm] at h3
     obtain ⟨hk, hs2⟩ := zaa hs
     have := Nat.eq_of_beq_eq_true hk
     subst this
     cases ha with
     | e ha hL hk0 hk1 =>
       rename_i p q L'
       rw [h1] at ha; cases ha
       cases h3 with
       | cw hA hN hc hlen h5 h6 =>
         rw [hA] at hL; cases hL
         split at hs2
         · rename_i v l hd
           obtain ⟨hk, hK⟩ := zaa hs2
           obtain ⟨pp, s, rfl, hp, hr⟩ := zdr hd hc
           cases hr with
           | cons x n y =>
             refine ⟨_, _, _, _, rfl, hK, x, fun w hw => zgt hl ?_⟩
             rw [zdp (hw _ _ (.inr ⟨b, _, hbs b (by simp [zae]), h2, List.mem_singleton_self _⟩)), Nat.zero_add, ← hp]
             simp
           | n hl' y => simp [shOk] at hk
         · exact hs2.elim
   · exact hs.elim
 | q c o =>
   simp only [zl8] at hs
   obtain ⟨u, hu, hK⟩ := zp4 hs
   rw [ug_eq] at hu
   cases ha with
   | q hr ho =>
     rename_i p o1 o2
     subst ho
     obtain ⟨arr, S', f, v, g1, g2, g3⟩ := hr.pp_iff
     refine ⟨_, _, _, _, rfl, hK, .u (g3 _ _ hu), fun w hw => zgt hl ?_⟩
     rw [zdp (hw _ _ (.inl g1))]
     exact g2 _ _ hu
 | u x =>
   cases x with
   | p p =>
     simp only [zl8] at hs
     obtain ⟨c, rfl, hs2⟩ := zpb hs
     obtain ⟨u, hu, hK⟩ := zp4 hs2
     rw [ug_eq] at hu
     cases ha with
     | u hr =>
       cases hr with
       | pp b o arr S' f us v g1 g2 g3 =>
         refine ⟨_, _, _, _, rfl, hK, .u (g3 _ _ hu), fun w hw => zgt hl ?_⟩
         rw [zdp (hw _ _ (.inl g1))]
         exact g2 _ _ hu
   | _ => simp only [zl8] at hs
 | _ => simp only [zl8] at hs
theorem RdL.mk {us : List U} (f : Nat → Value) (hf : ∀ j u, us[j]? = some u → Rd D (f j) u) : RdL D ((List.range us.length).map f) us := RdL.of_get f hf
theorem rmap {f : Nat → Value} {n j : Nat} {v : Value} (hj : ((List.range n).map f)[j]? = some v) : j < n ∧ v = f j := by
 rw [List.getElem?_map] at hj
 obtain ⟨i, hi, rfl⟩ := Option.map_eq_some_iff.1 hj
 obtain ⟨h1, h2⟩ := List.getElem?_eq_some_iff.1 hi
 simp at h1 h2
 subst h2
 exact ⟨h1, rfl⟩
theorem loadN_S {S : TypeId} {zs : List (Value × Nat)} (hl : zpq P S = some (.many zs)) {a : V} {va : Value} {KS : V → Prop} (hs : znl zs a m KS) (M : SAt D ρ m chs C h) (ha : Rp D ρ va a) {bs : List Nat} (hbs : ∀ b, b ∈ zae a → inL bs b = true) :
 ∃ bb oo v x, va = .pointer (some ⟨bb, oo, none⟩) ∧ KS x ∧ Rp D ρ v x ∧ ∀ w, Hs D chs bs w → (loadVar S ⟨bb, oo, none⟩).run P w = .ok v w := by
 obtain ⟨cs, hl, hn⟩ := zem hl
 -- a row of cells that is frozen, or one's own
 have fin : ∀ {us : List U} {bb oo : Nat} (f : Nat → Value), us.length = zs.length → (∀ j u, us[j]? = some u → Rd D (f j) u) → (∀ j u, us[j]? = some u → ∀ w, Hs D chs bs w → hcell w.heap ⟨bb, oo + j, none⟩ = some (f j)) → KS (.a (us.map .u)) →
  ∃ v x, KS x ∧ Rp D ρ v x ∧ ∀ w, Hs D chs bs w → (loadVar S ⟨bb, oo, none⟩).run P w = .ok v w := by
  intro us bb oo f h1 h2 h3 hK
  refine ⟨_, _, hK, .a (.ofU (RdL.mk f h2)), fun w hw => run_ldN hl (by simp [h1, hn]) fun j v hv => ?_⟩
  obtain ⟨hj, rfl⟩ := rmap hv
  exact h3 j us[j] (List.getElem?_eq_getElem hj) w hw
 cases a with
 | r b o =>
   simp only [znl] at hs
   split at hs
   · rename_i cells hm
     obtain ⟨L, ch, h1, h2, h3⟩ := M.get (b := b) (by rw [hm]; simp)
     rw [hm] at h3
     cases h3 with
     | c hc =>
       rename_i arr S'
       split at hs
       · rename_i l hd
         split at hs
         · rename_i vs hv
           obtain ⟨hk, hK⟩ := zaa hs
           obtain ⟨p, s, rfl, hp, hr⟩ := zdr hd hc
           obtain ⟨p2, s2, rfl, hp2, hr⟩ := zpa hv hr
           cases ha with
           | r ha =>
             rw [h1] at ha; cases ha
             refine ⟨_, _, _, _, rfl, hK, .a hr, fun w hw => run_ldN hl (by rw [hp2, hn]) fun j v hv => ?_⟩
             rw [zdp (hw L.b _ (.inr ⟨b, _, hbs b (by simp [zae]), h2, List.mem_singleton_self _⟩))]
             simp only [List.getElem?_toArray]
             rw [List.getElem?_append_right (by omega), show o + j - p.length = j by omega]
             exact zam hv
         · exact hs.elim
       · exact hs.elim
   · exact hs.elim
 | e b sz k o =>
   simp only [znl] at hs
   split at hs
   · rename_i E sz' rows hm
     obtain ⟨L, ch, h1, h2, h3⟩ := M.get (b := b) (by rw [hm]; simp)
     rw [hm] at h3
     obtain ⟨hk, hK⟩ := zaa hs
     have := Nat.eq_of_beq_eq_true hk
     subst this
     obtain ⟨h0, r, hr, hK⟩ := ze3 hK
     obtain ⟨us, hu1, hu2, hK⟩ := zgi hK
     cases ha with
     | e ha hL hk0 hk1 =>
       rename_i p q L'
       rw [h1] at ha; cases ha
       cases h3 with
       | w own hn =>
         generalize hA : L.a = A at *
         subst hL
         cases own with
         | row bb c arr rows v g1 g2 g3 g4 g5 =>
           obtain ⟨v', x, a1, a2, a3⟩ := fin (bb := p) (oo := 0 + k.toNat * sz + o) (fun j => v k.toNat (o + j)) hu1 (fun j u hj => g5 _ _ _ _ hr (hu2 j u hj)) (fun j u hj w hw => by
            rw [zdp (hw _ _ (.inr ⟨b, _, hbs b (by simp [zae]), h2, List.mem_singleton_self _⟩)), Nat.zero_add, Nat.add_assoc]
            exact g4 _ _ _ _ hr (hu2 j u hj)) hK
           exact ⟨_, _, v', x, rfl, a1, a2, a3⟩
   · rename_i E sz' n' cells hm
     obtain ⟨L, ch, h1, h2, h3⟩ := M.get (b := b) (by rw [hm]; simp)
     rw [hm] at h3
     obtain ⟨hk, hs2⟩ := zaa hs
     have := Nat.eq_of_beq_eq_true hk
     subst this
     cases ha with
     | e ha hL hk0 hk1 =>
       rename_i p q L'
       rw [h1] at ha; cases ha
       cases h3 with
       | cw hA hN hc hlen h5 h6 =>
         rw [hA] at hL; cases hL
         split at hs2
         · rename_i l hd
           split at hs2
           · rename_i vs hv
             obtain ⟨hk, hK⟩ := zaa hs2
             obtain ⟨p, s, rfl, hp, hr⟩ := zdr hd hc
             obtain ⟨p2, s2, rfl, hp2, hr⟩ := zpa hv hr
             refine ⟨_, _, _, _, rfl, hK, .a hr, fun w hw => run_ldN hl (by rw [hp2, hn]) fun j v hv => ?_⟩
             rw [zdp (hw _ _ (.inr ⟨b, _, hbs b (by simp [zae]), h2, List.mem_singleton_self _⟩)), Nat.zero_add, ← hp]
             simp only [List.getElem?_toArray, List.append_assoc]
             rw [List.getElem?_append_right (by omega), show p.length + j - p.length = j by omega]
             exact zam hv
           · exact hs2.elim
         · exact hs2.elim
   · exact hs.elim
 | q c o =>
   simp only [znl] at hs
   obtain ⟨us, hu1, hu2, hK⟩ := zgi hs
   cases ha with
   | q hr ho =>
     rename_i p o1 o2
     subst ho
     obtain ⟨arr, S', f, v, g1, g2, g3⟩ := hr.pp_iff
     obtain ⟨v', x, a1, a2, a3⟩ := fin (bb := p) (oo := o2 + o) (fun j => v (o + j)) hu1 (fun j u hj => g3 _ _ (hu2 j u hj)) (fun j u hj w hw => by
      rw [zdp (hw _ _ (.inl g1)), Nat.add_assoc]
      exact g2 _ _ (hu2 j u hj)) hK
     exact ⟨_, _, v', x, rfl, a1, a2, a3⟩
 | u x =>
   cases x with
   | p p =>
     simp only [znl] at hs
     obtain ⟨c, rfl, hs2⟩ := zpb hs
     obtain ⟨us, hu1, hu2, hK⟩ := zgi hs2
     cases ha with
     | u hr =>
       cases hr with
       | pp b o arr S' f us' v g1 g2 g3 =>
         obtain ⟨v', x, a1, a2, a3⟩ := fin (bb := b) (oo := o) (fun j => v (0 + j)) hu1 (fun j u hj => g3 _ _ (hu2 j u hj)) (fun j u hj w hw => by
          rw [zdp (hw _ _ (.inl g1))]
          have := g2 _ _ (hu2 j u hj); rw [Nat.zero_add] at this ⊢; exact this) hK
         exact ⟨_, _, v', x, rfl, a1, a2, a3⟩
   | _ => simp only [znl] at hs
 | _ => simp only [znl] at hs
theorem sLoad_S {S : TypeId} {a : V} {va : Value} {KS : V → Prop} (hs : sLoad P S a m KS) (M : SAt D ρ m chs C h) (ha : Rp D ρ va a) {bs : List Nat} (hbs : ∀ b, b ∈ zae a → inL bs b = true) :
 ∃ bb oo v x, va = .pointer (some ⟨bb, oo, none⟩) ∧ KS x ∧ Rp D ρ v x ∧ ∀ w, Hs D chs bs w → (loadVar S ⟨bb, oo, none⟩).run P w = .ok v w := by
 unfold sLoad at hs
 split at hs
 · rename_i z hl; exact load1_S hl hs M ha hbs
 · rename_i zs hl; exact loadN_S hl hs M ha hbs
 · exact hs.elim
end
section
variable {P : Program} {D D' : Fz} {ρ : List Loc} {m : Mem} {chs C : List zac} {h : zab} {T : List Value} {t : List V}
theorem Rp.r_inv {v : Value} {b o : Nat} (hr : Rp D ρ v (.r b o)) : ∃ L, ρ[b]? = some L ∧ v = .pointer (some ⟨L.b, o, none⟩) := by cases hr; exact ⟨_, by assumption, rfl⟩
theorem Rp.e_inv {v : Value} {b sz o : Nat} {k : Int} (hr : Rp D ρ v (.e b sz k o)) : ∃ L p q, ρ[b]? = some L ∧ L.a = some ⟨p, q, none⟩ ∧ 0 ≤ k ∧ k < L.n ∧ v = .pointer (some ⟨p, q + k.toNat * sz + o, none⟩) := by
 cases hr; exact ⟨_, _, _, by assumption, by assumption, by assumption, by assumption, rfl⟩
theorem Rp.g_inv {v : Value} {b o w : Nat} {k : Int} (hr : Rp D ρ v (.g b o w k)) : ∃ L, ρ[b]? = some L ∧ 0 ≤ k ∧ k < w ∧ v = .pointer (some ⟨L.b, o + k.toNat, none⟩) := by
 cases hr; exact ⟨_, by assumption, by assumption, by assumption, rfl⟩
theorem Rp.q_inv {v : Value} {c : List U} {n : Nat} (hr : Rp D ρ v (.q c n)) : ∃ p o, Rd D (.pointer (some ⟨p, o, none⟩)) (.p (some c)) ∧ v = .pointer (some ⟨p, o + n, none⟩) := by
 cases hr with | q h1 h2 => subst h2; exact ⟨_, _, h1, rfl⟩
theorem Rp.p_inv {v : Value} {c : List U} (hr : Rp D ρ v (.u (.p (some c)))) : ∃ p o, Rd D (.pointer (some ⟨p, o, none⟩)) (.p (some c)) ∧ v = .pointer (some ⟨p, o, none⟩) := by
 cases hr with | u hr => cases h : hr with | pp => exact ⟨_, _, hr, rfl⟩
theorem Rp.w_inv {v : Value} {b : Nat} (hr : Rp D ρ v (.w b)) : ∃ L, ρ[b]? = some L ∧ v = .slice L.a L.n L.c := by cases hr; exact ⟨_, by assumption, rfl⟩
theorem Rp.v_inv {v : Value} {b sz l n : Nat} {c : Bool} (hr : Rp D ρ v (.v b sz l n c)) : ∃ L a cap, ρ[b]? = some L ∧ l + n ≤ L.n ∧ (l = 0 → a = L.a) ∧ (0 < n → ∃ p q, L.a = some ⟨p, q, none⟩ ∧ a = some ⟨p, q + l * sz, none⟩) ∧ n ≤ cap ∧ (c = true → cap = n) ∧ (c = false → l = 0 → cap = L.c) ∧ v = .slice a n cap := by
 cases hr; exact ⟨_, _, _, by assumption, by assumption, by assumption, by assumption, by assumption, by assumption, by assumption, rfl⟩
theorem Rp.sl_inv {v : Value} {b o n : Nat} (hr : Rp D ρ v (.sl b o n)) : ∃ L a cap, ρ[b]? = some L ∧ (0 < n → a = some ⟨L.b, o, none⟩) ∧ n ≤ cap ∧ v = .slice a n cap := by
 cases hr; exact ⟨_, _, _, by assumption, by assumption, by assumption, rfl⟩
theorem Rp.l_inv {v : Value} {sz : Nat} {rows : List (List U)} (hr : Rp D ρ v (.u (.l sz rows))) : ∃ a c, v = .slice a rows.length c ∧ Rd D (.slice a rows.length c) (.l sz rows) := by
 cases hr with | u hr => obtain ⟨a, c, rfl, -⟩ := hr.shape; exact ⟨a, c, rfl, hr⟩
theorem Rp.c_inv {v : Value} {sz : Nat} {rows : List (List U)} (hr : Rp D ρ v (.c sz rows)) : ∃ a, v = .slice a rows.length rows.length ∧ Rd D (.slice a rows.length rows.length) (.l sz rows) := by
 cases hr with | c hr => have := hr.len.1; subst this; exact ⟨_, rfl, hr⟩
theorem Rp.f_inv {v : Value} {g : FuncId} {a c : List V} (hr : Rp D ρ v (.f g a c)) : ∃ xs ys, v = .func (.func g) xs.toArray ys.toArray ∧ RpL D ρ xs a ∧ RpL D ρ ys c := by cases hr; exact ⟨_, _, rfl, by assumption, by assumption⟩
theorem Rp.a_inv {v : Value} {l : List V} (hr : Rp D ρ v (.a l)) : ∃ vs, v = .agg vs.toArray ∧ RpC D ρ vs l := by cases hr; exact ⟨_, rfl, by assumption⟩
theorem Rp.t_inv {v : Value} {l : List V} (hr : Rp D ρ v (.t l)) : ∃ vs, v = .tuple vs.toArray ∧ RpL D ρ vs l := by cases hr; exact ⟨_, rfl, by assumption⟩
theorem Rp.ptr {v : Value} {x : V} (hr : Rp D ρ v x) (hx : zjt x = true) : ∃ a, v = .pointer (some a) := by
 unfold zjt at hx
 split at hx <;> first | (cases hr; exact ⟨_, rfl⟩) | cases hx
theorem yp {o : Oper} {v : Value} (hh : zfj P T o (fun u => u = v)) (w : World) : (execOp (ev T) o).run P w = .ok (.value v) w := by
 obtain ⟨u, rfl, hy⟩ := zik hh
 exact hy w
theorem zge {c : Bool} {l r : Int} {A B : Prop} (hh : leK c l r A) (f : A → B) : leK c l r B := by
 cases c
 · exact ⟨hh.1, f hh.2⟩
 · exact f hh
theorem znd {v : Value} {k : IntKind} {n : Int} (hr : Rp D ρ v (.u (.i k n))) : v = .int k n := by cases hr with | u a => exact Rd.int_iff.1 a
theorem zqx {v : Value} {c : Bool} (hr : Rp D ρ v (.u (.b c))) : v = .bool c := by cases hr with | u a => exact Rd.bool_iff.1 a
theorem u_str {v : Value} {s : ByteArray} (hr : Rp D ρ v (.u (.s s))) : v = .string s := by cases hr with | u a => exact Rd.str_iff.1 a
theorem u_nil {v : Value} (hr : Rp D ρ v (.u (.p none))) : v = .pointer none := by cases hr with | u a => cases a; rfl
theorem zd1 (F : RpL D ρ T t) {x : Option Operand} {d i : Int} (hb : zm1 t x d = some i) : bnd T x d = some i := by
 unfold zm1 at hb
 unfold bnd
 split at hb
 · exact hb
 · rename_i x
   split at hb
   · rename_i k i' he
     have := zc4 F x
     rw [he] at this
     simp only [znd this]; exact hb
   · cases hb
theorem bin_S {op : BinOp} {S : TypeId} {x y : V} {a b : Value} {KS : V → Prop} (hs : binS P op S x y KS) (ha : Rp D ρ a x) (hb : Rp D ρ b y) : binK P op S a b fun v => KS (zeu v) := by
 unfold binS at hs
 split at hs
 · rename_i a' b' h1 h2
   rw [conc_S h1 ha, conc_S h2 hb]; exact hs
 · split at hs
   · have := u_nil hb; subst this
     split at hs
     · rename_i e hu
       split at hs
       · rename_i p
         cases ha with
         | u hr =>
           cases hr with
           | pn => simp only [binK, hu]; exact hs
           | pp => simp only [binK, hu]; exact hs
       · obtain ⟨h1, h2⟩ := zaa hs
         unfold zjt at h1
         split at h1 <;> first | (cases ha <;> (simp only [binK, hu]; exact h2)) | cases h1
     · exact hs.elim
   · cases hb with
     | nm =>
       split at hs
       · rename_i k e hu
         split at hs
         · cases ha with | m hr => simp only [binK, hu]; exact hs
         · cases ha with | nm => simp only [binK, hu]; exact hs
         · exact hs.elim
       · exact hs.elim
   · exact hs.elim
theorem Own.some_of {E sz c : Nat} {a : Option Addr} {rows : List (List U)} {ch : zac} (x : Own D E sz a c rows ch) (h : rows ≠ []) : ∃ b, a = some ⟨b, 0, none⟩ := by
 cases x with
 | nil => exact absurd rfl h
 | row b => exact ⟨b, rfl⟩
theorem nilOf_S {x : V} {v : Value} {r : Bool × Bool} (hs : nilOf m x = some r) (M : SAt D ρ m chs C h) (hv : Rp D ρ v x) : ∃ a n c, v = .slice a n c ∧ (a.isNone = true → r.1 = true) ∧ (a.isNone = false → r.2 = true) := by
 unfold nilOf at hs
 split at hs
 · cases hs; cases hv; exact ⟨_, _, _, rfl, fun _ => rfl, by simp⟩
 · rename_i sz rows
   cases hs
   obtain ⟨a, c, rfl, hr⟩ := hv.l_inv
   refine ⟨_, _, _, rfl, fun ha => ?_, fun _ => rfl⟩
   cases rows with
   | nil => rfl
   | cons r rows => obtain ⟨b, o, e, -⟩ := hr.at (i := 0) (r := r) rfl; rw [e] at ha; simp at ha
 · rename_i sz rows
   cases hs
   obtain ⟨a, rfl, hr⟩ := hv.c_inv
   refine ⟨_, _, _, rfl, fun ha => ?_, fun _ => rfl⟩
   cases rows with
   | nil => rfl
   | cons r rows => obtain ⟨b, o, e, -⟩ := hr.at (i := 0) (r := r) rfl; rw [e] at ha; simp at ha
 · rename_i b
   split at hs
   · rename_i E sz rows hm
     cases hs
     obtain ⟨L, hL, rfl⟩ := hv.w_inv
     obtain ⟨L', ch, g1, g2, g3⟩ := M.get (b := b) (by rw [hm]; simp)
     rw [hL] at g1; cases g1
     rw [hm] at g3
     cases g3 with
     | w own hn =>
       refine ⟨_, _, _, rfl, fun ha => ?_, fun _ => rfl⟩
       cases rows with
       | nil => rfl
       | cons r rows => obtain ⟨b', e⟩ := own.some_of (by simp); rw [e] at ha; simp at ha
   · cases hs
 · rename_i b sz l n c
   cases hs
   obtain ⟨L, a, cap, h1, h2, h3, h4, h5, h6, h7, rfl⟩ := hv.v_inv
   refine ⟨_, _, _, rfl, fun ha => ?_, fun _ => rfl⟩
   cases n with
   | zero => rfl
   | succ n => obtain ⟨p, q, -, e⟩ := h4 (by omega); rw [e] at ha; simp at ha
 · rename_i b o n
   cases hs
   obtain ⟨L, a, cap, h1, h2, h3, rfl⟩ := hv.sl_inv
   refine ⟨_, _, _, rfl, fun ha => ?_, fun _ => rfl⟩
   cases n with
   | zero => rfl
   | succ n => rw [h2 (by omega)] at ha; simp at ha
 · cases hs
theorem nilSl_S {op : BinOp} {S : TypeId} {x y : V} {a b : Value} {r : Bool × Bool} {K : Value → Prop} (hs : zlv P m S x y = some r) (M : SAt D ρ m chs C h) (ha : Rp D ρ a x) (hb : Rp D ρ b y) (hh : nilR op r K) : binK P op S a b K := by
 unfold zlv at hs
 split at hs
 · split at hs
   · rename_i e hu
     cases hb
     obtain ⟨a', n, c, rfl, h1, h2⟩ := nilOf_S hs M ha
     simp only [binK, hu]
     obtain ⟨r1, r2⟩ := r
     simp only at h1 h2
     unfold nilR at hh
     cases hn : a'.isNone with
     | true =>
       have := h1 hn
       subst this
       cases r2 with
       | true => exact hh.1
       | false => exact hh
     | false =>
       have := h2 hn
       subst this
       cases r1 with
       | true => exact hh.2
       | false => exact hh
   · cases hs
 · cases hs
theorem zp0 : ∀ (a b : List Int), eqI a b = decide (a = b)
 | [], [] => by simp [eqI]
 | [], _ :: _ => by simp [eqI]
 | _ :: _, [] => by simp [eqI]
 | a :: l, b :: r => by
   simp only [eqI, zp0 l r]
   by_cases h1 : a = b <;> by_cases h2 : l = r <;> simp [h1, h2]
theorem zps : ∀ {l : List V} {r : List Int} {vs : List Value}, intsA l = some r → RpC D ρ vs l → vs = r.map (Value.int .i64) ∧ r.length = wds l
 | [], r, vs, h, hr => by cases h; cases hr; exact ⟨rfl, rfl⟩
 | x :: l, r, vs, h, hr => by
   unfold intsA at h
   split at h
   · rename_i e; cases e
   · rename_i n l' e
     cases e
     split at h
     · rename_i r' h'
       cases h
       cases hr with
       | cons a _ b =>
         obtain ⟨h1, h2⟩ := zps h' b
         exact ⟨by rw [znd a, h1]; rfl, by simp [wds, wd, h2]; omega⟩
     · cases h
   · rename_i w xs l' e
     cases e
     split at h
     · rename_i r' h'
       cases h
       cases hr with
       | cons _ hn _ => exact absurd rfl (hn _ _ _)
       | n hl b =>
         obtain ⟨h1, h2⟩ := zps h' b
         exact ⟨by rw [h1]; simp, by simp [wds, wd, h2, hl]⟩
     · cases h
   · cases h
theorem arrN_run {T : TypeId} {n : Nat} (hk : arrN P T = some n) {a b : List Int} (h1 : a.length = n) (h2 : b.length = n) {w : World} : (Op.equal T (mkV (.a a)) (mkV (.a b))).run P w = .ok (decide (a = b)) w := by
 unfold arrN at hk
 split at hk
 · split at hk
   · rename_i h; cases hk; exact run_eqKey h h1 h2
   · cases hk
 · rename_i fs hu
   cases hc : (flat P fs.toList 0 || isI P T) with
   | true => rw [hc] at hk; cases hk
   | false =>
     rw [hc] at hk
     simp only [Bool.or_eq_false_iff] at hc
     exact run_eqNum hk hc.2 h1 h2
 · cases hk
theorem arrE_S {op : BinOp} {S : TypeId} {x y : V} {a b : Value} {c : Bool} {K : Value → Prop} {ox oy : Operand} (hs : arrE P S x y = some c) (ha : Rp D ρ a x) (hb : Rp D ρ b y) (h : ze7 op c K) :
 ∃ v, K v ∧ ∀ w, (do eqGuard op S ox oy a b; binOp op S a b : Sem Value).run P w = .ok v w := by
 unfold arrE at hs
 split at hs
 · rename_i n xs ys hk
   split at hs
   · rename_i a' b' h1 h2
     cases hc : (Nat.beq (wds xs) n && Nat.beq (wds ys) n && !P.eqGuardType P.depth S) with
     | false => rw [hc] at hs; cases hs
     | true =>
       rw [hc] at hs
       cases hs
       simp only [Bool.and_eq_true, Bool.not_eq_true'] at hc
       obtain ⟨vs, rfl, hx⟩ := ha.a_inv
       obtain ⟨us, rfl, hy⟩ := hb.a_inv
       obtain ⟨rfl, l1⟩ := zps h1 hx
       obtain ⟨rfl, l2⟩ := zps h2 hy
       have e1 : a'.length = n := by rw [l1]; exact Nat.eq_of_beq_eq_true hc.1.1
       have e2 : b'.length = n := by rw [l2]; exact Nat.eq_of_beq_eq_true hc.1.2
       have hq := hc.2
       have hg : ∀ (u v : Array Value) (w : World), (eqGuard op S ox oy (.agg u) (.agg v)).run P w = .ok () w := by
        intro u v w
        unfold eqGuard
        cases op <;> first | rfl | (simp [hq]; done) | (simp [hq]; rfl)
       obtain ⟨v, hv, hr⟩ := zir (P := P) (T := S) (x := mkV (.a a')) (y := mkV (.a b')) (z := eqI a' b') (fun w => by rw [zp0]; exact arrN_run hk e1 e2) (.inr (.inr (.inr (.inr ⟨_, rfl⟩)))) (.inr (.inr (.inr (.inr ⟨_, rfl⟩)))) h
       refine ⟨v, hv, fun w => ?_⟩
       simp only [Sem.run_bind, hg, Result.andThen_ok]
       exact hr w
   · cases hs
 · cases hs
theorem args_S (F : RpL D ρ T t) : ∀ {l : List Operand} {vs : List Value}, argsI t l = some vs → l.map (ev T) = vs
 | [], vs, hh => by cases hh; rfl
 | x :: l, vs, hh => by
   simp only [argsI] at hh
   split at hh
   · rename_i v vs' h1 h2
     cases hh
     rw [List.map_cons, args_S F h2, zmo h1 (zc4 F x)]
   · cases hh
theorem chunk_get : ∀ {n sz : Nat} {l : List U} {i : Nat} {r : List U}, (chunk n sz l)[i]? = some r → i < n ∧ r = (l.drop (i * sz)).take sz
 | 0, sz, l, i, r, hh => by simp [chunk] at hh
 | n + 1, sz, l, 0, r, hh => by simp [chunk] at hh; exact ⟨by omega, by simp [hh]⟩
 | n + 1, sz, l, i + 1, r, hh => by
   simp only [chunk, List.getElem?_cons_succ] at hh
   obtain ⟨h1, h2⟩ := chunk_get hh
   refine ⟨by omega, ?_⟩
   rw [h2, List.drop_drop, Nat.succ_mul, Nat.add_comm sz]
theorem RdL.split {vs : List Value} {us : List U} (hr : RdL D vs us) (n : Nat) : RdL D (vs.take n) (us.take n) ∧ RdL D (vs.drop n) (us.drop n) := by
 induction n generalizing vs us with
 | zero => simp only [List.take_zero, List.drop_zero]; exact ⟨.nil, hr⟩
 | succ n ih =>
   cases hr with
   | nil => simp only [List.take_nil, List.drop_nil]; exact ⟨.nil, .nil⟩
   | cons a b => obtain ⟨h1, h2⟩ := ih b; exact ⟨.cons a h1, h2⟩
theorem wl_one {S : TypeId} {z : Value} (hl : zdn P S = some (.one z)) : zah P S = 1 := by
 obtain ⟨-, -, i, hi, hs⟩ := zen hl
 simp [zah, hi, hs]
theorem wl_many {S : TypeId} {cs : List Value} (hl : zdn P S = some (.many cs)) : zah P S = cs.length := by
 obtain ⟨-, i, hi, hs⟩ := zdg hl
 simp [zah, hi, hs]
theorem zeros_info {S : TypeId} {zs : List (Value × Nat)} (hz : zbh P S = some zs) : ∃ i, P.info? S = some i ∧ i.size = zs.length := by
 unfold zbh at hz
 split at hz
 · rename_i z hl; cases hz; exact (zen (zgf hl)).2.2
 · rename_i zs' hl; cases hz; obtain ⟨cs, h1, h2⟩ := zem hl; rw [← h2]; exact (zdg h1).2
 · cases hz
theorem zeros_lay {S : TypeId} {zs : List (Value × Nat)} (hz : zbh P S = some zs) : zah P S = zs.length := by
 unfold zbh at hz
 split at hz
 · rename_i z hl; cases hz; exact wl_one (zgf hl)
 · rename_i zs' hl; cases hz; obtain ⟨cs, h1, h2⟩ := zem hl; rw [wl_many h1, h2]
 · cases hz
theorem part_S {S : TypeId} {zs : List (Value × Nat)} (hz : zbh P S = some zs) {vs : List Value} {us r : List U} (hr : RdL D vs us) {i : Nat} (hi : (i + 1) * zs.length ≤ us.length) (hd : r = (us.drop (i * zs.length)).take zs.length) {r' : List U}
 (hl : r'.length = zs.length) (hg : ∀ j u, r'[j]? = some u → r[0 + j]? = some u) : ∃ v, Rp D ρ v (oneA P S (r'.map .u)) ∧ ∀ w, (part S vs.toArray (i * zs.length)).run P w = .ok v w := by
 have hrl : r.length = zs.length := by
  rw [Nat.succ_mul] at hi
  rw [hd]; simp; omega
 have hrr : r' = r := by
  apply List.ext_getElem (by rw [hl, hrl])
  intro j h1 h2
  have := hg j r'[j] (List.getElem?_eq_getElem h1)
  rw [Nat.zero_add, List.getElem?_eq_getElem h2] at this
  exact (Option.some.inj this).symm
 subst hrr
 have hv := ((hr.split (i * zs.length)).2.split zs.length).1
 rw [← hd] at hv
 generalize hvs : (vs.drop (i * zs.length)).take zs.length = v' at hv
 unfold zbh at hz
 unfold oneA
 split at hz
 · rename_i z hS
   cases hz
   rw [hS]
   have hone : r'.length = 1 := hl
   obtain ⟨u, rfl⟩ := List.length_eq_one_iff.1 hone
   cases hv with
   | cons a b =>
     rename_i v vs'
     cases b
     refine ⟨v, .u a, run_pt1 (zgf hS) ?_⟩
     have : ((vs.drop (i * [z].length)).take [z].length)[0]? = some v := by rw [hvs]; rfl
     simpa using this
 · rename_i zs' hS
   cases hz
   rw [hS]
   obtain ⟨cs, h1, h2⟩ := zem hS
   refine ⟨.agg v'.toArray, ?_, fun w => ?_⟩
   · cases r' <;> exact .a (.ofU hv)
   · have hsp : vs = vs.take (i * zs.length) ++ (v' ++ (vs.drop (i * zs.length)).drop zs.length) := by rw [← hvs, List.take_append_drop, List.take_append_drop]
     have hlen : (vs.take (i * zs.length)).length = i * zs.length := by
      have := hr.len
      rw [Nat.succ_mul] at hi
      simp; omega
     have := run_ptN (P := P) h1 (p := vs.take (i * zs.length)) (vs := v') (s := (vs.drop (i * zs.length)).drop zs.length) (by rw [hv.len, hl, h2]) w
     rw [hlen, ← hsp] at this
     exact this
 · cases hz
theorem cellsV_S {v : Value} {x : V} {xs : List V} (hc : zom x = some xs) (hr : Rp D ρ v x) : RpC D ρ v.cells.toList xs := by
 cases hr with
 | a h => cases hc; exact h
 | u h =>
   cases hc
   have : v.cells.toList = [v] := by cases h <;> rfl
   rw [this]; exact .cons (.u h) (by simp) .nil
 | t => cases hc
 | z => cases hc
 | r h => cases hc; exact .cons (.r h) (by simp) .nil
 | e h1 h2 h3 h4 => cases hc; exact .cons (.e h1 h2 h3 h4) (by simp) .nil
 | g h1 h2 h3 => cases hc; exact .cons (.g h1 h2 h3) (by simp) .nil
 | q h1 h2 n => cases hc; exact .cons (.q h1 h2 n) (by simp) .nil
 | w h => cases hc; exact .cons (.w h) (by simp) .nil
 | c h => cases hc; exact .cons (.c h) (by simp) .nil
 | m h => cases hc; exact .cons (.m h) (by simp) .nil
 | nm => cases hc; exact .cons .nm (by simp) .nil
 | nl => cases hc; exact .cons .nl (by simp) .nil
 | f h1 h2 => cases hc; exact .cons (.f h1 h2) (by simp) .nil
 | y h => cases hc; exact .cons (.y h) (by simp) .nil
 | v h1 h2 h3 h4 h5 h6 h7 => cases hc; exact .cons (.v h1 h2 h3 h4 h5 h6 h7) (by simp) .nil
 | sl h1 h2 h3 => cases hc; exact .cons (.sl h1 h2 h3) (by simp) .nil
theorem zpy {place : Nat → Option (Nat × Nat)} : ∀ {ps : List (Nat × V)} {pv : List (Nat × Value)} {l l' : List V} {vs : List Value}, fillC place l ps = some l' → RpC D ρ vs l → pv.map (·.1) = ps.map (·.1) → RpL D ρ (pv.map (·.2)) (ps.map (·.2)) →
 ∃ vs', zmi place vs pv = some vs' ∧ RpC D ρ vs' l'
 | [], pv, l, l', vs, hf, hr, h1, h2 => by
   cases pv with
   | nil => cases hf; exact ⟨vs, rfl, hr⟩
   | cons _ _ => simp at h1
 | (i, x) :: ps, pv, l, l', vs, hf, hr, h1, h2 => by
   cases pv with
   | nil => simp at h1
   | cons p pv =>
     obtain ⟨i', v⟩ := p
     simp only [List.map_cons, List.cons.injEq] at h1
     obtain ⟨rfl, h1⟩ := h1
     cases h2 with
     | cons hv h2 =>
       simp only [fillC] at hf
       split at hf
       · rename_i o s xs hp hc
         have hcc := cellsV_S hc hv
         cases hb : Nat.beq (wds xs) s with
         | false => rw [hb] at hf; cases hf
         | true =>
           rw [hb] at hf
           simp only [cond_true] at hf
           split at hf
           · rename_i l1 hl1
             obtain ⟨g1, g2⟩ := putC_S hcc hl1 hr
             obtain ⟨vs', g3, g4⟩ := zpy hf g2 h1 h2
             refine ⟨vs', ?_, g4⟩
             have e1 : Nat.beq v.cells.toList.length s = true := by rw [wds_len hcc]; exact hb
             simp only [zmi, hp, e1, Nat.ble_eq_true_of_le g1, Bool.and_self, cond_true]
             exact g3
           · cases hf
       · cases hf
theorem zmh : ∀ {l : List V} {ss : List Nat} {vs : List Value}, RpC D ρ vs l → RpC D ρ vs (fixN ss l)
 | [], ss, vs, hr => by cases ss <;> exact hr
 | x :: l, ss, vs, hr => by
   cases hr with
   | n hl b => cases ss <;> exact .n hl (zmh b)
   | cons a n b =>
     cases ss with
     | nil => cases x <;> first | exact absurd rfl (n _ _ _) | exact .cons a n b
     | cons s ss =>
       cases x <;> first
        | exact absurd rfl (n _ _ _)
        | exact .cons a n (zmh b)
        | (cases a; exact .cons .nl (by simp) (zmh b))
theorem intsOf_S : ∀ {w : Nat} {l r : List V} {xs : List Int} {vs : List Value}, zoj w l = some (xs, r) → RpC D ρ vs l → ∃ s, vs = xs.map (.int .i64) ++ s ∧ xs.length = w ∧ RpC D ρ s r
 | 0, l, r, xs, vs, h, hr => by simp only [zoj, Option.some.injEq, Prod.mk.injEq] at h; obtain ⟨rfl, rfl⟩ := h; exact ⟨vs, rfl, rfl, hr⟩
 | w + 1, [], r, xs, vs, h, hr => by simp [zoj] at h
 | w + 1, x :: l, r, xs, vs, h, hr => by
   unfold zoj at h
   split at h
   · rename_i heq; cases heq
   · rename_i w' y l' heq1 heq2
     cases heq1
     cases heq2
     split at h
     · rename_i xs' r' h2
       cases h
       cases hr with
       | cons a n b =>
         obtain ⟨s, rfl, h3, h4⟩ := intsOf_S h2 b
         exact ⟨s, by rw [znd a]; rfl, by simp [h3], h4⟩
     · cases h
   · cases h
theorem zme : ∀ {ws : List Nat} {l : List V} {vs : List Value}, RpC D ρ vs l → RpC D ρ vs (group ws l)
 | [], l, vs, hr => hr
 | _ :: _, [], vs, hr => hr
 | w :: ws, x :: l, vs, hr => by
   simp only [group]
   cases hb : Nat.beq w 1 with
   | true =>
     simp only [cond_true]
     cases hr with
     | cons a n b => exact .cons a n (zme b)
     | n hl b => exact .n hl (zme b)
   | false =>
     simp only [cond_false]
     split
     · cases hr with
       | cons a n b => exact absurd rfl (n _ _ _)
       | n hl b => exact .n hl (zme b)
     · split
       · rename_i xs r h2
         obtain ⟨s, rfl, h3, h4⟩ := intsOf_S h2 hr
         exact .n h3 (zme h4)
       · exact hr
theorem asD_S {v : Value} {x : V} (hv : Rp D ρ v x) : Rp D ρ v (asD x) := by
 cases x <;> first | exact hv | (cases hv; exact .u (.nil _ _ _))
theorem asD_n {x : V} (h : ∀ k w l, x ≠ .n k w l) : ∀ k w l, asD x ≠ .n k w l := by
 intro k w l
 cases x <;> first | exact h k w l | simp [asD]
theorem datL_S : ∀ {l : List V} {vs : List Value}, RpC D ρ vs l → RpC D ρ vs (datL l)
 | _, _, .nil => .nil
 | _, _, .cons a n b => .cons (asD_S a) (asD_n n) (datL_S b)
 | _, _, .n hl b => .n hl (datL_S b)
theorem datV_S {v : Value} {x : V} (hv : Rp D ρ v x) : Rp D ρ v (datV x) := by
 cases x <;> first | exact asD_S hv | (cases hv with | a h => exact .a (datL_S h))
theorem zio {S : TypeId} {l : List V} {vs : List Value} (hr : RpC D ρ vs l) : RpC D ρ vs (ziq P S l) := zme (zmh hr)
theorem Rd.cap {a : Option Addr} {n c sz : Nat} {rows : List (List U)} (x : Rd D (.slice a n c) (.l sz rows)) : Rd D (.slice a n n) (.l sz rows) := by
 cases x with
 | nil => exact .nil _ _ _
 | row b o c arr T f rows sz v h1 h2 h3 h4 h5 => exact .row b o _ arr T f rows sz v h1 (Nat.le_refl _) h3 h4 h5
theorem Rd.part3 {a : Option Addr} {n c sz l r : Nat} {rows : List (List U)} (x : Rd D (.slice a n c) (.l sz rows)) (hl : l ≤ r) (hr : r ≤ n) : Rd D (.slice (slA a r l sz) (zhi r l) (zhi r l)) (.l sz ((rows.take r).drop l)) := by
 have h1 := (x.part (l := 0) (r := r) (Nat.zero_le _) hr).cap
 have h2 := h1.part (l := l) (r := r) hl (Nat.le_refl _)
 rw [List.drop_zero, List.take_take, Nat.min_self] at h2
 exact h2
theorem mapT_spec {S : TypeId} {kt : KT} {zs : List (Value × Nat)} {E : TypeId} {zv : V} (h : mapT P S = some (kt, zs, E, zv)) :
 ∃ K i z, P.underlying S = some (.map K E) ∧ zog P K = some kt ∧ zbh P E = some zs ∧ P.info? E = some i ∧ i.zero = some z ∧ zv = zdb P E (ofV z) := by
 unfold mapT at h
 split at h
 · rename_i K E' hu
   split at h
   · rename_i kt' zs' z' h1 h2 h3
     simp only [Option.some.injEq, Prod.mk.injEq] at h
     obtain ⟨rfl, rfl, rfl, rfl⟩ := h
     cases hi : P.info? E' with
     | none => rw [hi] at h3; cases h3
     | some i => rw [hi] at h3; exact ⟨K, i, z', hu, h1, h2, rfl, h3, rfl⟩
   · cases h
 · cases h
theorem mkIs_S : ∀ {l : List V} {r : List Int} {vs : List Value}, mkIs l = some r → RpC D ρ vs l → vs = r.map (Value.int .i64)
 | [], r, vs, h, hr => by cases h; cases hr; rfl
 | x :: l, r, vs, h, hr => by
   unfold mkIs at h
   split at h
   · rename_i e
     cases e
   · rename_i n l' e
     cases e
     split at h
     · rename_i r' h'
       cases h
       cases hr with
       | cons a _ b => rw [znd a, mkIs_S h' b]; rfl
     · cases h
   · cases h
theorem mkOf_S {x : V} {k : MK} {v : Value} (h : mkOf x = some k) (hr : Rp D ρ v x) : v = mkV k := by
 unfold mkOf at h
 split at h
 · cases h; exact znd hr
 · cases h; exact u_str hr
 · split at h
   · rename_i l r hl
     cases h
     obtain ⟨vs, rfl, hc⟩ := hr.a_inv
     rw [mkIs_S hl hc]; rfl
   · cases h
 · cases h
theorem zgg {a b : KT} (h : ktEq a b = true) : a = b := by
 cases a <;> cases b <;> simp [ktEq] at h
 · rfl
 · rfl
 · rw [h]
theorem MRel.get {ag : Bool} {mv : MV} {rows : List (MK × List U)} (hr : MRel D ag mv rows) (k : MK) :
 (rGet rows k = none ∧ mGet mv k = none) ∨ ∃ us v vs, rGet rows k = some us ∧ mGet mv k = some v ∧ RdL D vs us ∧ cond ag (v = .agg vs.toArray) (vs = [v]) ∧ ∃ p ∈ rows, p.2 = us := by
 induction hr with
 | nil => exact .inl ⟨rfl, rfl⟩
 | cons a b _ ih =>
   rename_i k' v us vs m rows _
   simp only [rGet, mGet]
   by_cases hk : k' = k
   · simp only [hk, if_true]
     exact .inr ⟨us, v, vs, rfl, rfl, a, b, _, List.mem_cons_self, rfl⟩
   · simp only [hk, if_false]
     rcases ih with h | ⟨us', v', vs', h1, h2, h3, h4, p, h5, h6⟩
     · exact .inl h
     · exact .inr ⟨us', v', vs', h1, h2, h3, h4, p, List.mem_cons_of_mem _ h5, h6⟩
theorem MRel.len {ag : Bool} {mv : MV} {rows : List (MK × List U)} (hr : MRel D ag mv rows) : mv.length = rows.length := by
 induction hr with
 | nil => rfl
 | cons a b _ ih => simp [ih]
theorem oneA_S {S : TypeId} {zs : List (Value × Nat)} (hz : zbh P S = some zs) {us : List U} {v : Value} {vs : List Value} (hl : us.length = zs.length) (hr : RdL D vs us) (hv : cond (isAg P S) (v = .agg vs.toArray) (vs = [v])) : Rp D ρ v (oneA P S (us.map .u)) := by
 unfold zbh at hz
 unfold isAg at hv
 unfold oneA
 split at hz
 · rename_i z hS
   cases hz
   rw [hS] at hv ⊢
   simp only [cond_false] at hv
   subst hv
   cases hr with
   | cons a b => cases b; exact .u a
 · rename_i zs' hS
   cases hz
   rw [hS] at hv ⊢
   simp only [cond_true] at hv
   subst hv
   cases us <;> exact .a (.ofU hr)
 · cases hz
theorem look_S {S : TypeId} {x k : V} {vx vk : Value} {ok : Bool} {KS : V → Prop} (hs : lookS P S x k ok m KS) (M : SAt D ρ m chs C h) (hx : Rp D ρ vx x) (hk : Rp D ρ vk k) {bs : List Nat} (hbs : ∀ b, b ∈ zae x → inL bs b = true) :
 ∃ v y, KS y ∧ Rp D ρ v y ∧ ∀ w, Hs D chs bs w → (Instr.lookup S vx vk ok).run P w = .ok v w := by
 unfold lookS at hs
 split at hs
 · rename_i kt zs E zv k' ht hk'
   obtain ⟨K, i, z, hT, hkt, hz, hi, hzz, rfl⟩ := mapT_spec ht
   obtain ⟨hhas, hs⟩ := zaa hs
   have hvk := mkOf_S hk' hk
   subst hvk
   have hnv : Rp D ρ z (zdb P E (ofV z)) := by
    have := ofV_S (D := D) (ρ := ρ) z
    unfold zdb
    split
    · rename_i l e; rw [e] at this; cases this with | a h => exact .a (zio h)
    · rename_i s' e
      rw [e] at this
      split
      · cases this; exact .nl
      · exact this
    · exact this
   have hres : ∀ {v : Value} {y : V} (b : Bool), Rp D ρ v y → Rp D ρ (if ok then .tuple #[v, .bool b] else v) (lookR ok y b) := by
    intro v y b hr
    cases ok
    · exact hr
    · exact .t (vs := [v, .bool b]) (.cons hr (.cons (.u (.bool b)) .nil))
   clear hk hk'
   split at hs
   · rename_i b _
     split at hs
     · rename_i kt' sz ag rows hm
       obtain ⟨hc, hs2⟩ := zaa hs
       clear hs
       simp only [Bool.and_eq_true, beq_iff_eq] at hc
       obtain ⟨⟨hc1, hc2⟩, hc3⟩ := hc
       obtain ⟨L, ch, g1, g2, g3⟩ := M.get (b := b) (by rw [hm]; simp)
       rw [hm] at g3
       cases zgg hc1
       have hsz := Nat.eq_of_beq_eq_true hc2
       subst hc3
       cases hx with
       | m hL =>
         rw [g1] at hL; cases hL
         cases g3 with
         | p I R hl =>
           rename_i es clk mv
           have hrun : ∀ w, Hs D chs bs w → (Instr.lookup S (.map (some L.b)) (mkV k') ok).run P w = .ok (if ok then .tuple #[(mGet mv k').getD z, .bool (mGet mv k').isSome] else (mGet mv k').getD z) w :=
            fun w hw => run_look hT hkt hi hzz (hw _ _ (.inr ⟨b, _, hbs b (by simp [zae]), g2, by simp⟩)) I hhas ok
           rcases R.get k' with ⟨r1, r2⟩ | ⟨us, v, vs, r1, r2, r3, r4, p, r5, r6⟩
           · rw [r1] at hs2
             rw [r2] at hrun
             exact ⟨_, _, hs2, hres false hnv, hrun⟩
           · rw [r1] at hs2
             rw [r2] at hrun
             obtain ⟨us', l1, l2, hK⟩ := zgi hs2
             have hul : us.length = zs.length := by rw [← r6, hl p r5, hsz]
             have : us' = us := by
              apply List.ext_getElem (by rw [l1, hul])
              intro j h1 h2
              have := l2 j us'[j] (List.getElem?_eq_getElem h1)
              rw [Nat.zero_add, List.getElem?_eq_getElem h2] at this
              exact (Option.some.inj this).symm
             subst this
             exact ⟨_, _, hK, hres true (oneA_S hz l1 r3 r4), hrun⟩
     · exact hs.elim
   · cases hx
     exact ⟨_, _, hs, hres false hnv, fun w _ => run_look0 hT hkt hi hzz hhas ok⟩
   · exact hs.elim
 · exact hs.elim
theorem Rd.srcF {h0 : zab} {a : Option Addr} {n c sz : Nat} {rows : List (List U)} (x : Rd D (.slice a n c) (.l sz rows)) (fz : ∀ b o, D b = some o → h0[b]? = some o) : Src D h0 sz a rows := by
 refine ⟨(x.shape).elim fun _ h => h.elim fun _ h => h.2.2, ?_⟩
 cases x with
 | nil => exact .inl rfl
 | row b o c arr T f rows sz v h1 h2 h3 h4 h5 => exact .inr ⟨b, o, v, rfl, fun i j r u hi hj => ⟨by rw [zao (fz _ _ h1)]; exact h4 i j r u hi hj, h5 i j r u hi hj⟩⟩
theorem Own.src {E sz c : Nat} {a : Option Addr} {rows : List (List U)} {ch : zac} (x : Own D E sz a c rows ch) (hc : ∀ p ∈ ch, h[p.1]? = some p.2) : Src D h sz a rows := by
 cases x with
 | nil => exact ⟨by simp, .inl rfl⟩
 | row b c arr rows v h1 h2 h3 h4 h5 =>
   refine ⟨h3, .inr ⟨b, 0, v, rfl, fun i j r u hi hj => ⟨?_, h5 i j r u hi hj⟩⟩⟩
   rw [zao (hc _ (List.mem_singleton_self _)), Nat.zero_add]
   exact h4 i j r u hi hj
theorem Src.part {s l n : Nat} {a a' : Option Addr} {rows : List (List U)} (x : Src D h s a rows) (hl : l + n ≤ rows.length) (ha : 0 < n → ∃ p q, a = some ⟨p, q, none⟩ ∧ a' = some ⟨p, q + l * s, none⟩) : Src D h s a' ((rows.drop l).take n) := by
 have key : ∀ {i : Nat} {r : List U}, ((rows.drop l).take n)[i]? = some r → rows[l + i]? = some r := fun hi => by
  rw [List.getElem?_take] at hi
  split at hi
  · rwa [List.getElem?_drop] at hi
  · cases hi
 refine ⟨fun r hr => x.1 r (List.mem_of_mem_drop (List.mem_of_mem_take hr)), ?_⟩
 cases n with
 | zero => left; simp
 | succ n =>
   obtain ⟨p, q, rfl, rfl⟩ := ha (by omega)
   rcases x.2 with e | ⟨b, o, w, e, hw⟩
   · rw [e] at hl; simp at hl
   · cases e
     refine .inr ⟨p, q + l * s, fun i j => w (l + i) j, rfl, fun i j r u hi hj => ?_⟩
     have := hw (l + i) j r u (key hi) hj
     rw [Nat.add_mul] at this
     rw [show q + l * s + i * s + j = q + (l * s + i * s) + j by omega]
     exact this
theorem srcS_W {h0 : zab} {x : V} {v : Value} {s : Nat} {rows : List (List U)} (hs : srcS m x = some (s, rows)) (M : SAt D ρ m chs C h) (hv : Rp D ρ v x) (fz : ∀ b o, D b = some o → h0[b]? = some o) (ow : ∀ b ch p, b ∈ zae x → chs[b]? = some ch → p ∈ ch → h0[p.1]? = some p.2) : ∃ a c, v = .slice a rows.length c ∧ Src D h0 s a rows := by
 unfold srcS at hs
 split at hs
 · cases hs; obtain ⟨a, c, rfl, hr⟩ := hv.l_inv; exact ⟨a, c, rfl, hr.srcF fz⟩
 · cases hs; obtain ⟨a, rfl, hr⟩ := hv.c_inv; exact ⟨a, _, rfl, hr.srcF fz⟩
 · rename_i b
   split at hs
   · rename_i E sz rows' hm
     cases hs
     obtain ⟨L, ch, h1, h2, h3⟩ := M.get (b := b) (by rw [hm]; simp)
     obtain ⟨L', h4, rfl⟩ := hv.w_inv
     rw [h1] at h4; cases h4
     rw [hm] at h3
     cases h3 with
     | w own hn => exact ⟨_, _, by rw [hn], own.src fun p hp => ow _ _ p (by simp [zae]) h2 hp⟩
   · cases hs
 · rename_i b sz l n c
   split at hs
   · rename_i E sz' rows' hm
     cases hb : Nat.beq sz' sz with
     | false => rw [hb] at hs; cases hs
     | true =>
       rw [hb] at hs
       cases hs
       have := Nat.eq_of_beq_eq_true hb
       subst this
       obtain ⟨L, ch, h1, h2, h3⟩ := M.get (b := b) (by rw [hm]; simp)
       obtain ⟨L', a, cap, g1, g2, g3, g4, g5, g6, g7, rfl⟩ := hv.v_inv
       rw [h1] at g1; cases g1
       rw [hm] at h3
       cases h3 with
       | w own hn =>
         refine ⟨a, cap, ?_, (own.src fun p hp => ow _ _ p (by simp [zae]) h2 hp).part (by omega) g4⟩
         rw [List.length_take, List.length_drop, Nat.min_eq_left (by omega)]
   · cases hs
 · cases hs
theorem srcS_S {x : V} {v : Value} {s : Nat} {rows : List (List U)} (hs : srcS m x = some (s, rows)) (M : SAt D ρ m chs C h) (hv : Rp D ρ v x) : ∃ a c, v = .slice a rows.length c ∧ Src D h s a rows :=
 srcS_W hs M hv (fun b o hb => (M.st.fz b o hb).1) fun _ _ _ _ hc hp => M.own hc hp
theorem byteR_S : ∀ {rows : List (List U)} {ns : List Int}, byteR rows = some ns → rows = ns.map fun n => [U.i .u8 n]
 | [], ns, h => by cases h; rfl
 | r :: l, ns, h => by
   unfold byteR at h
   split at h
   · rename_i heq; cases heq
   · rename_i n l' heq
     cases heq
     split at h
     · rename_i r' hr
       cases h
       rw [List.map_cons, byteR_S hr]
     · cases h
   · cases h
theorem bstr_run {w : World} {a : Option Addr} {c : Nat} {rows : List (List U)} {ns : List Int} (hrows : rows = ns.map fun n => [U.i .u8 n]) (hs : Src D w.heap 1 a rows) : (Conv.bytesToString (.slice a rows.length c)).run P w = .ok (.string (strOf ns)) w := by
 obtain ⟨-, hsrc⟩ := hs
 cases a with
 | none =>
   rcases hsrc with h0 | ⟨b, o, f, h0, -⟩
   · rw [hrows] at h0
     have : ns = [] := by cases ns with | nil => rfl | cons n l => simp at h0
     subst this; rfl
   · cases h0
 | some ad =>
   refine run_bytesToString w ad _ c ns ?_
   have hl : rows.length = (ns.map (Value.int .u8)).length := by rw [hrows]; simp
   rw [hl]
   refine run_loadCells_list w ad _ fun j v hj => ?_
   rw [List.getElem?_map] at hj
   obtain ⟨n, hn, rfl⟩ := Option.map_eq_some_iff.1 hj
   have hr : rows[j]? = some [U.i .u8 n] := by rw [hrows, List.getElem?_map, hn]; rfl
   rcases hsrc with h0 | ⟨b, o, f, h0, hc⟩
   · rw [h0] at hr; simp at hr
   · cases h0
     obtain ⟨g1, g2⟩ := hc j 0 _ _ hr rfl
     rw [Rd.int_iff.1 g2, Nat.mul_one, Nat.add_zero] at g1
     rw [za3]
     exact g1
theorem view_S {dst : Option Tmp} {S : TypeId} {x : Operand} {lo hi mx : Option Operand} {ty : TypeId} {pos : String} {after : Array Edge} {guard : Option (Nat × Bool)} {e : TypeId} {b sz l n : Nat} {c : Bool} {KS : V → Prop} (F : RpL D ρ T t) (hu : P.underlying S = some (.slice e)) (hs : viewS P t e lo hi mx b sz l n c KS) (hx : Rp D ρ (ev T x) (.v b sz l n c)) :
 ∃ v y, KS y ∧ Rp D ρ v y ∧ ∀ w, zjo ⟨dst, .slice S x lo hi mx, ty, pos, after, guard⟩ = true ∨ Hs D chs (znf t ⟨dst, .slice S x lo hi mx, ty, pos, after, guard⟩) w → (execOp (ev T) ⟨dst, .slice S x lo hi mx, ty, pos, after, guard⟩).run P w = .ok (.value v) w := by
 unfold viewS at hs
 obtain ⟨hc, hs⟩ := zaa hs
 simp only [Bool.and_eq_true, Bool.not_eq_true'] at hc
 have hse := Nat.eq_of_beq_eq_true hc.1
 subst hse
 have hne : zah P e ≠ 0 := fun h0 => by rw [h0] at hc; simp at hc
 have hnz : ∀ {A : Prop}, A → nz (zah P e) A := fun hA => by
  unfold nz
  rw [show Nat.beq (zah P e) 0 = false from hc.2]; exact hA
 obtain ⟨L, a, cap, g1, g2, g3, g4, g5, g6, g7, hv⟩ := hx.v_inv
 -- the part from lo on, of r - lo elements, with room up to k
 have part : ∀ {l' r k : Nat} {c' : Bool}, l' ≤ r → r ≤ n → r ≤ k → k ≤ cap → (c' = true → k = r) → (c' = false → l' = 0 → l = 0 → k = L.c) → Rp D ρ (.slice (slA a k l' (zah P e)) (zhi r l') (zhi k l')) (.v b (zah P e) (l + l') (r - l') c') := by
  intro l' r k c' h1 h2 h2k h3 h4 h5
  have e1 : ∀ a b : Nat, zhi a b = a - b := fun a b => by
   unfold zhi; cases b <;> rfl
  rw [e1, e1]
  have e2 : l' = 0 → slA a k l' (zah P e) = a := fun h0 => by subst h0; rfl
  refine .v g1 (by omega) (fun h0 => ?_) (fun h0 => ?_) (by omega) (fun h0 => by have := h4 h0; omega) (fun h0 h6 => ?_)
  · rw [e2 (by omega)]; exact g3 (by omega)
  · obtain ⟨p, q, hA, ha⟩ := g4 (by omega)
    refine ⟨p, q, hA, ?_⟩
    by_cases hl : l' = 0
    · rw [e2 hl, ha, hl, Nat.add_zero]
    · have hkl : ¬ k = l' := by omega
      unfold slA
      have hb : Nat.beq l' 0 = false := by cases l' <;> first | exact absurd rfl hl | rfl
      rw [hb]
      simp only [cond_false, if_neg hkl, ha, Option.map_some]
      rw [Nat.add_mul, Nat.add_assoc]
  · have := h5 h0 (by omega) (by omega); omega
 split at hs
 · rename_i l' r hl hr _
   obtain ⟨h0, h1, h2, hK⟩ := zcd (zd1 F hl) hs
   have hrn : bnd T hi (n : Int) = some r := zd1 F hr
   have hK' : KS (.v b (zah P e) (l + l'.toNat) (r.toNat - l'.toNat) c) ∧ (c = true → r = n) := by
    unfold ltK at hK
    cases c with
    | true => exact ⟨hK.2, fun _ => hK.1⟩
    | false => exact ⟨hK, by simp⟩
   refine ⟨_, _, hK'.1, part (l' := l'.toNat) (r := r.toNat) (k := cap) (by omega) (by omega) (by omega) (Nat.le_refl _) (fun h => ?_) (fun h _ h6 => g7 h h6), fun w _ => yp ?_ w⟩
   · have := g6 h; have := hK'.2 h; omega
   · simp only [zfj, hu, hv, zd1 F hl, hrn]
     exact zge hs fun hh => ⟨hh.1, by omega, hnz trivial⟩
 · rename_i mx' l' r hl hr _
   split at hs
   · rename_i k kk hm
     obtain ⟨hhi, hs3⟩ := zaa hs
     obtain ⟨h0, h1, h2, h3, hK⟩ := zcd (zd1 F hl) hs3
     subst h3
     have hmx : bnd T (some mx') 0 = some kk := zd1 F (by simp [zm1, hm])
     refine ⟨_, _, hK, part (l' := l'.toNat) (r := kk.toNat) (k := kk.toNat) (by omega) (by omega) (Nat.le_refl _) (by omega) (fun _ => rfl) (by simp), fun w _ => yp ?_ w⟩
     simp only [zfj, hu, hv, zd1 F hl, zd1 F hr, hmx, hhi, cond_true]
     exact zge hs3 fun hh => ⟨hh.1, Int.le_refl _, by omega, hnz trivial⟩
   · exact hs.elim
 · exact hs.elim
theorem quiet_S {o : Oper} {KS : V → Prop} (hs : zhr P t m o KS) (M : SAt D ρ m chs C h) (F : RpL D ρ T t) :
 ∃ v x, KS x ∧ Rp D ρ v x ∧ ∀ w, zjo o = true ∨ Hs D chs (znf t o) w → (execOp (ev T) o).run P w = .ok (.value v) w := by
 obtain ⟨dst, op, ty, pos, after, guard⟩ := o
 cases op <;> simp only [zhr] at hs
 case move x => exact ⟨_, _, hs, zc4 F x, fun w _ => rfl⟩
 case assign x => exact ⟨_, _, hs, zc4 F x, fun w _ => rfl⟩
 case pick c a b =>
  unfold pickS at hs
  have hc := zc4 F c
  split at hs
  · rename_i c' he
    rw [he] at hc
    have hc := zqx hc
    have ha := zc4 F a
    have hb := zc4 F b
    split at hs
    · rename_i x y h1 h2
      rw [h1] at ha; rw [h2] at hb
      refine ⟨.bool (cond c' x y), _, hs, .u (.bool _), fun w _ => ?_⟩
      simp only [execOp, hc, zqx ha, zqx hb]
      cases c' <;> rfl
    · cases c'
      · exact ⟨_, _, hs, hb, fun w _ => by simp [execOp, hc, asBool]⟩
      · exact ⟨_, _, hs, ha, fun w _ => by simp [execOp, hc, asBool]⟩
  · exact hs.elim
 case nilCheck x =>
  have hx := zc4 F x
  split at hs
  · rename_i p he
    rw [he] at hx
    obtain ⟨c, rfl, hK⟩ := zpb hs
    obtain ⟨p, o, hr, hv⟩ := hx.p_inv
    exact ⟨_, _, hK, .q (o' := o) hr rfl 0, fun w _ => by simp [execOp, hv]⟩
  · rename_i g a c he
    rw [he] at hx
    obtain ⟨xs, ys, hv, -, -⟩ := hx.f_inv
    exact ⟨_, _, hs, hx, fun w _ => by simp [execOp, hv]⟩
  · obtain ⟨h1, hK⟩ := zaa hs
    refine ⟨_, _, hK, hx, fun w _ => ?_⟩
    have := hx.ptr h1
    obtain ⟨a, ha⟩ := this
    simp [execOp, ha]
 case binOp op' S x y yt =>
  split at hs
  · rename_i r hr0
    obtain ⟨v, hv, hr⟩ := zmv (x := x) (y := y) (nilSl_S hr0 M (zc4 F x) (zc4 F y) hs)
    exact ⟨v, _, hv, zmz v, fun w _ => by
     have := hr w
     simp only [execOp]
     rw [Sem.run_bind, this]
     rfl⟩
  split at hs
  · rename_i c hc
    obtain ⟨v, hv, hr⟩ := arrE_S (ox := x) (oy := y) hc (zc4 F x) (zc4 F y) hs
    exact ⟨v, _, hv, zmz v, fun w _ => by
     have := hr w
     simp only [execOp]
     rw [Sem.run_bind, this]
     rfl⟩
  · obtain ⟨v, hv, hr⟩ := zmv (x := x) (y := y) (bin_S hs (zc4 F x) (zc4 F y))
    exact ⟨v, _, hv, zmz v, fun w _ => by
     have := hr w
     simp only [execOp]
     rw [Sem.run_bind, this]
     rfl⟩
 case unOp op' S x =>
  split at hs
  · rename_i a he
    obtain ⟨v, hv, hr⟩ := XWp.sound hs
    refine ⟨v, _, hv, zmz v, fun w _ => ?_⟩
    simp only [execOp, zmo he (zc4 F x)]
    rw [Sem.run_bind, hr w]; rfl
  · exact hs.elim
 case convert s d x =>
  split at hs
  · rename_i a he
    obtain ⟨v, hv, hr⟩ := XWp.sound hs
    refine ⟨v, _, hv, zmz v, fun w _ => ?_⟩
    simp only [execOp, zmo he (zc4 F x)]
    rw [Sem.run_bind, hr w]; rfl
  · split at hs
    · rename_i zz hz
      unfold strR at hz
      split at hz
      · rename_i e hA hB
        have h1 : P.underlying s = some (.slice e) := by assumption
        have h2 : P.underlying d = some .string := by assumption
        split at hz
        · rename_i rows h4 h5
          split at hz
          · rename_i ns hns
            cases hz
            refine ⟨.string (strOf ns), _, hs, .u (.str _), fun w hw => ?_⟩
            have hw := hw.resolve_left (by simp [zjo])
            obtain ⟨a, c, hv, hsrc⟩ := srcS_W (h0 := w.heap) h5 M (zc4 F x) (fun b o hb => hw _ _ (.inl hb)) fun b ch p hb hc hp => hw _ _ (.inr ⟨b, ch, by rw [inL_iff]; simp [znf, Op.operands, zak, hb], hc, hp⟩)
            simp only [execOp, hv]
            rw [Sem.run_bind, run_convert_bytes_string w s d e a _ _ h1 h4 h2, bstr_run (byteR_S hns) hsrc]
            rfl
          · cases hz
        · cases hz
      · cases hz
    · exact hs.elim
 case makeFunc fn a c =>
  cases fn with
  | func g =>
    refine ⟨_, _, hs, .f (evL_S F a.toList) (evL_S F c.toList), fun w _ => ?_⟩
    have e : ∀ (l : Array Operand), l.map (ev T) = (l.toList.map (ev T)).toArray := fun l => by cases l; simp
    simp only [execOp, Instr.makeFunc, e]
    rfl
  | _ => exact hs.elim
 case fieldAddr S x f =>
  split at hs
  · rename_i fs hu
    split at hs
    · rename_i fd hfd
      obtain ⟨hz, hs⟩ := zcm hs
      obtain ⟨i, hi, his⟩ := zbz hz
      have run : ∀ {b o : Nat} (w : World), ev T x = .pointer (some ⟨b, o, none⟩) → (execOp (ev T) ⟨dst, .fieldAddr S x f, ty, pos, after, guard⟩).run P w = .ok (.value (.pointer (some ⟨b, o + fd.offset, none⟩))) w := fun w ha => by
       simp [execOp, Instr.fieldAt, ha, run_underlying hu, hfd, Instr.sureAddr, fieldPlace, zan hi, his, hz, za3]
      have hx := zc4 F x
      unfold ptrAdd at hs
      split at hs
      · rename_i b o he
        rw [he] at hx
        obtain ⟨L, h1, hv⟩ := hx.r_inv
        rw [zdw] at hs
        exact ⟨_, _, hs, .r h1, fun w _ => run w hv⟩
      · rename_i b sz k o he
        rw [he] at hx
        obtain ⟨L, p, q, h1, h2, h3, h4, hv⟩ := hx.e_inv
        rw [zdw] at hs
        exact ⟨_, _, hs, .e h1 h2 h3 h4, fun w _ => by rw [run w hv, Nat.add_assoc]⟩
      · rename_i c o he
        rw [he] at hx
        obtain ⟨p, o', h1, hv⟩ := hx.q_inv
        rw [zdw] at hs
        exact ⟨_, _, hs, .q h1 rfl _, fun w _ => by rw [run w hv, Nat.add_assoc]⟩
      · rename_i p he
        rw [he] at hx
        obtain ⟨c, rfl, hK⟩ := zpb hs
        obtain ⟨p, o, h1, hv⟩ := hx.p_inv
        exact ⟨_, _, hK, .q h1 rfl _, fun w _ => run w hv⟩
      · exact hs.elim
    · exact hs.elim
  · exact hs.elim
 case field S x f =>
  have hx := zc4 F x
  split at hs
  · rename_i fs l hu he
    rw [he] at hx
    split at hs
    · rename_i fd hfd
      obtain ⟨vs, hv, hc⟩ := hx.a_inv
      · split at hs
        · rename_i z v r hS hd
          obtain ⟨hk, hK⟩ := zaa hs
          obtain ⟨p, s, rfl, hp, hr⟩ := zdr hd hc
          cases hr with
          | @cons vv _ vvs _ a n b =>
            refine ⟨_, _, hK, a, fun w _ => ?_⟩
            simp only [execOp, Instr.field, hv, asAgg, run_underlying hu, hfd, Sem.run_bind, Result.andThen_ok, Sem.run_pure]
            rw [run_pt1 (zgf hS) (v := vv) (by simp [← hp]) w]
            rfl
          | n hl b => simp [shOk] at hk
        · rename_i zs r hS hd
          split at hs
          · rename_i vs' hv'
            obtain ⟨p, s, rfl, hp, hr⟩ := zdr hd hc
            obtain ⟨p2, s2, rfl, hp2, hr2⟩ := zpa hv' hr
            obtain ⟨cs, h1, h2⟩ := zem hS
            refine ⟨_, _, hs, .a hr2, fun w _ => ?_⟩
            simp only [execOp, Instr.field, hv, asAgg, run_underlying hu, hfd, Sem.run_bind, Result.andThen_ok, Sem.run_pure]
            rw [← hp, run_ptN h1 (by rw [hp2, h2]) w]
            rfl
          · exact hs.elim
        · exact hs.elim
    · exact hs.elim
  · exact hs.elim
 case indexAddr S x i =>
  have hx := asD_S (zc4 F x)
  have hi := zc4 F i
  split at hs
  · rename_i k z hei
    rw [hei] at hi
    have hi := znd hi
    split at hs
    · rename_i e s rows hu he
      rw [he] at hx
      obtain ⟨hc, hs2⟩ := zaa hs
      simp only [Bool.and_eq_true, Bool.not_eq_true'] at hc
      have hse := Nat.eq_of_beq_eq_true hc.1
      subst hse
      obtain ⟨h0, r, hr, hK⟩ := ze3 hs2
      have hne : zah P e ≠ 0 := fun h0 => by rw [h0] at hc; simp at hc
      obtain ⟨a, c, hv, hrd⟩ := hx.l_inv
      · obtain ⟨b, o, ha, hpp, -⟩ := hrd.at hr
        have hlt := (List.getElem?_eq_some_iff.1 hr).1
        exact ⟨_, _, hK, .q hpp rfl 0, fun w _ => by simp [execOp, hv, hi, zb3 hu h0 (show z < (rows.length : Int) by omega) ha hne]⟩
    · rename_i e s rows hu he
      rw [he] at hx
      obtain ⟨hc, hs2⟩ := zaa hs
      simp only [Bool.and_eq_true, Bool.not_eq_true'] at hc
      have hse := Nat.eq_of_beq_eq_true hc.1
      subst hse
      obtain ⟨h0, r, hr, hK⟩ := ze3 hs2
      have hne : zah P e ≠ 0 := fun h0 => by rw [h0] at hc; simp at hc
      obtain ⟨a, hv, hrd⟩ := hx.c_inv
      · obtain ⟨b, o, ha, hpp, -⟩ := hrd.at hr
        have hlt := (List.getElem?_eq_some_iff.1 hr).1
        exact ⟨_, _, hK, .q hpp rfl 0, fun w _ => by simp [execOp, hv, hi, zb3 hu h0 (show z < (rows.length : Int) by omega) ha hne]⟩
    · rename_i e b hu he
      rw [he] at hx
      split at hs
      · rename_i E sz rows hm
        obtain ⟨hc, h0, h1, hK⟩ := zaa hs
        simp only [Bool.and_eq_true, Bool.not_eq_true'] at hc
        have hse := Nat.eq_of_beq_eq_true hc.1
        subst hse
        have hne : zah P e ≠ 0 := fun h0 => by rw [h0] at hc; simp at hc
        obtain ⟨L, ch, g1, g2, g3⟩ := M.get (b := b) (by rw [hm]; simp)
        rw [hm] at g3
        obtain ⟨L', hL, hv⟩ := hx.w_inv
        · rw [g1] at hL; cases hL
          cases g3 with
          | w own hn =>
            have : ∃ p q, L.a = some ⟨p, q, none⟩ := by
             generalize L.a = A, L.c = c at own
             cases own with
             | nil => simp at h1; omega
             | row => exact ⟨_, _, rfl⟩
            obtain ⟨p, q, hA⟩ := this
            refine ⟨_, _, hK, .e g1 hA h0 (by rw [hn]; exact h1), fun w _ => ?_⟩
            simp [execOp, hv, hi, zb3 hu h0 (show z < (L.n : Int) by omega) hA hne]
      · rename_i E sz n l hm
        obtain ⟨hc, h0, h1, hK⟩ := zaa hs
        simp only [Bool.and_eq_true, Bool.not_eq_true'] at hc
        have hse := Nat.eq_of_beq_eq_true hc.1
        subst hse
        have hne : zah P e ≠ 0 := fun h0 => by rw [h0] at hc; simp at hc
        obtain ⟨L, ch, g1, g2, g3⟩ := M.get (b := b) (by rw [hm]; simp)
        rw [hm] at g3
        obtain ⟨L', hL, hv⟩ := hx.w_inv
        · rw [g1] at hL; cases hL
          cases g3 with
          | cw hA hn hcc hl h5 h6 =>
            refine ⟨_, _, hK, .e g1 hA h0 (by rw [hn]; exact h1), fun w _ => ?_⟩
            simp [execOp, hv, hi, zb3 hu h0 (show z < (L.n : Int) by omega) hA hne]
      · exact hs.elim
    · rename_i e b sz l n c hu he
      rw [he] at hx
      obtain ⟨hc, h0, h1, hK⟩ := zaa hs
      simp only [Bool.and_eq_true, Bool.not_eq_true'] at hc
      have hse := Nat.eq_of_beq_eq_true hc.1
      subst hse
      have hne : zah P e ≠ 0 := fun h0 => by rw [h0] at hc; simp at hc
      obtain ⟨L, a, cap, g1, g2, g3, g4, g5, g6, g7, hv⟩ := hx.v_inv
      obtain ⟨p, q, hA, ha⟩ := g4 (by omega)
      refine ⟨_, _, hK, .e g1 hA (by omega) (by omega), fun w _ => ?_⟩
      have e1 : ((l : Int) + z).toNat = l + z.toNat := by omega
      simp [execOp, hv, hi, zb3 hu h0 (show z < (n : Int) by omega) ha hne, e1, Nat.add_mul, Nat.add_assoc]
    · rename_i e b o n hu he
      rw [he] at hx
      obtain ⟨hne, hs⟩ := zcm hs
      obtain ⟨j, rfl, hj, hK⟩ := zmc hs
      obtain ⟨L, a, cap, g1, g2, g3, hv⟩ := hx.sl_inv
      refine ⟨_, _, hK, .r g1, fun w _ => ?_⟩
      have := zb3 (P := P) (k := k) (c := cap) (z := (Int.ofNat j)) hu (Int.natCast_nonneg j) (show (Int.ofNat j) < (n : Int) from Int.ofNat_lt.2 hj) (g2 (by omega)) hne w
      simp only [execOp, hv, hi]
      rw [Sem.run_bind, this]
      rfl
    · rename_i n e b sz k' o hu he
      rw [he] at hx
      obtain ⟨hne, hs⟩ := zcm hs
      obtain ⟨j, rfl, this, hK⟩ := zmc hs
      obtain ⟨L, p, q, g1, g2, g3, g4, hv⟩ := hx.e_inv
      refine ⟨_, _, hK, .e g1 g2 g3 g4, fun w _ => ?_⟩
      have := zbp (P := P) (k := k) (z := (Int.ofNat j)) hu (Int.natCast_nonneg j) (Int.ofNat_lt.2 this) (a := some ⟨p, q + k'.toNat * sz + o, none⟩) rfl hne w
      simp only [execOp, hv, hi]
      rw [Sem.run_bind, this]
      simp [Nat.add_assoc]
    · rename_i n e b o hu he
      rw [he] at hx
      split at hs
      · rename_i cells hm
        obtain ⟨L, ch, g1, g2, g3⟩ := M.get (b := b) (by rw [hm]; simp)
        rw [hm] at g3
        obtain ⟨L', hL, hv⟩ := hx.r_inv
        · rw [g1] at hL; cases hL
          split at hs
          · rename_i k' w' l r hd
            obtain ⟨hc, h0, h1, hK⟩ := zaa hs
            simp only [Bool.and_eq_true] at hc
            have e1 := Nat.eq_of_beq_eq_true hc.1
            have e2 := Nat.eq_of_beq_eq_true hc.2
            refine ⟨_, _, hK, .g g1 h0 (by omega), fun w _ => ?_⟩
            simp [execOp, hv, hi, zbp hu h0 h1 rfl (show zah P e ≠ 0 by omega), e2]
          · split at hs
            · rename_i j _
              obtain ⟨hc, hs⟩ := zaa hs
              obtain ⟨hne, hK⟩ := zcm hs
              have := Nat.le_of_ble_eq_true hc
              refine ⟨_, _, hK, .r g1, fun w _ => ?_⟩
              have := zbp (P := P) (k := k) (z := (Int.ofNat j)) hu (Int.natCast_nonneg j) (Int.ofNat_lt.2 this) (a := some ⟨L.b, o, none⟩) rfl hne w
              simp only [execOp, hv, hi]
              rw [Sem.run_bind, this]
              rfl
            · exact hs.elim
          · exact hs.elim
      · exact hs.elim
    · rename_i n e c o hu he
      rw [he] at hx
      obtain ⟨hne, hs⟩ := zcm hs
      obtain ⟨j, rfl, this, hK⟩ := zmc hs
      obtain ⟨p, o2, hrd, hv⟩ := hx.q_inv
      refine ⟨_, _, hK, .q hrd rfl _, fun w _ => ?_⟩
      have := zbp (P := P) (k := k) (z := (Int.ofNat j)) hu (Int.natCast_nonneg j) (Int.ofNat_lt.2 this) (a := some ⟨p, o2 + o, none⟩) rfl hne w
      simp only [execOp, hv, hi]
      rw [Sem.run_bind, this]
      simp [Nat.add_assoc]
    · exact hs.elim
  · exact hs.elim
 case index S x i =>
  have hx := zc4 F x
  have hi := zc4 F i
  split at hs
  · rename_i k z hei
    rw [hei] at hi
    have hi := znd hi
    split at hs
    · rename_i s hu he
      rw [he] at hx
      obtain ⟨h0, h1, hK⟩ := hs
      refine ⟨_, _, hK, .u (.int _ _), fun w _ => yp ?_ w⟩
      simp only [zfj, hu, u_str hx, hi]
      exact ⟨h0, h1, trivial⟩
    · rename_i n e l hu he
      rw [he] at hx
      split at hs
      · rename_i zs us hz hcu
        obtain ⟨hc, hs⟩ := zaa hs
        have hn := Nat.eq_of_beq_eq_true hc
        obtain ⟨h0, r, hr, hs⟩ := ze3 hs
        obtain ⟨r', hl, hg, hK⟩ := zgi hs
        obtain ⟨vs, hv, hcc⟩ := hx.a_inv
        · have hrd := RpC.toU hcu hcc
          obtain ⟨hlt, hd⟩ := chunk_get hr
          have hb : (z.toNat + 1) * zs.length ≤ us.length := by rw [hn]; exact Nat.mul_le_mul_right _ (by omega)
          obtain ⟨v, hv1, hrun⟩ := part_S (P := P) (ρ := ρ) hz hrd hb hd hl hg
          obtain ⟨inf, hinf, hsz⟩ := zeros_info hz
          refine ⟨v, _, hK, hv1, fun w _ => ?_⟩
          simp only [execOp, Instr.index, hv, hi, asIntOf, Sem.run_bind, Sem.run_pure, Result.andThen_ok, run_underlying hu]
          rw [if_pos ⟨h0, by omega⟩]
          simp only [Sem.run_bind, zan hinf, Result.andThen_ok, hsz, hrun w]
      · exact hs.elim
    · exact hs.elim
  · exact hs.elim
 case extract x i =>
  have hx := zc4 F x
  split at hs
  · rename_i l he
    rw [he] at hx
    obtain ⟨hc, hK⟩ := zaa hs
    have := Nat.le_of_ble_eq_true hc
    obtain ⟨vs, hv, hl⟩ := hx.t_inv
    have hlt : i < vs.length := by rw [hl.len']; omega
    exact ⟨vs[i], _, hK, hl.at (List.getElem?_eq_getElem hlt), fun w _ => by simp [execOp, Instr.extract, hv, hlt]⟩
  · exact hs.elim
 case build S ps =>
  have hps : RpL D ρ ((ps.toList.map fun p => (p.1, ev T p.2)).map (·.2)) ((ps.toList.map fun p => (p.1, evS t p.2)).map (·.2)) := by
   have h := evL_S F (ps.toList.map (·.2)); rw [List.map_map, List.map_map] at h; rw [List.map_map, List.map_map]; exact h
  have hpm : (ps.toList.map fun p => (p.1, ev T p.2)).map (·.1) = (ps.toList.map fun p => (p.1, evS t p.2)).map (·.1) := by simp [List.map_map, Function.comp_def]
  have hpa : (ps.map fun (x : Nat × Operand) => (x.1, ev T x.2)).toList = ps.toList.map fun p => (p.1, ev T p.2) := by simp
  split at hs
  · rename_i inf fs hi hu
    split at hs
    · rename_i cs hz
      obtain ⟨hl, hs⟩ := zaa hs
      split at hs
      · rename_i l hf
        obtain ⟨vs', hf', hr⟩ := zpy hf (zio (zgw cs.toList)) hpm hps
        refine ⟨_, _, hs, .a (zio hr), fun w _ => yp ?_ w⟩
        simp only [zfj, hu, hi, hz, hl, cond_true, hf']
      · exact hs.elim
    · exact hs.elim
  · rename_i inf n e hi hu
    split at hs
    · rename_i cs hz
      obtain ⟨hne, hs⟩ := zcm hs
      split at hs
      · rename_i l hf
        obtain ⟨vs', hf', hr⟩ := zpy hf (zmh (zgw cs.toList)) hpm hps
        refine ⟨_, _, hs, .a (zio hr), fun w _ => ?_⟩
        obtain ⟨i2, hi2, his2⟩ := zbz hne
        have hzero : (zeroValue S).run P w = .ok (.agg cs) w := by simp [zeroValue, run_typeInfo w hi, hz]
        have hfill := zh3 hf'
        simp only [Array.toArray_toList] at hfill
        simp only [execOp, Instr.build, Sem.run_bind, hzero, Result.andThen_ok, run_underlying hu, zan hi2, his2]
        show Result.andThen (Sem.run P (match Instr.fill (fun i => some (i * zah P e, zah P e)) cs (ps.map fun (x : Nat × Operand) => (x.1, ev T x.2)).toList with
         | some cells => pure (Value.agg cells) | _ => stuck "build: a part of the wrong size") w) _ = _
        rw [hpa, hfill]
        rfl
      · exact hs.elim
    · exact hs.elim
  · exact hs.elim
 case slice S x lo hi mx =>
  have hx := asD_S (zc4 F x)
  split at hs
  · rename_i s hu he
    rw [he] at hx
    split at hs
    · rename_i l r hl hr
      have key := zge (B := l ≤ r ∧ r ≤ s.size ∧ True) hs fun hh => ⟨hh.1, hh.2.1, trivial⟩
      refine ⟨_, _, (zcd (zd1 F hl) hs).2.2.2, .u (.str _), fun w _ => yp ?_ w⟩
      simp only [zfj, hu, u_str hx, zd1 F hl, zd1 F hr]
      exact key
    · exact hs.elim
  · rename_i e s rows hu he
    rw [he] at hx
    obtain ⟨hc, hs2⟩ := zaa hs
    simp only [Bool.and_eq_true, Bool.not_eq_true'] at hc
    have hse := Nat.eq_of_beq_eq_true hc.1
    subst hse
    have hne : zah P e ≠ 0 := fun h0 => by rw [h0] at hc; simp at hc
    have hnz : ∀ {A : Prop}, A → nz (zah P e) A := fun hA => by
     unfold nz
     rw [show Nat.beq (zah P e) 0 = false from hc.2]; exact hA
    obtain ⟨a, c, hv, hrd⟩ := hx.l_inv
    have hcap := hrd.len.2
    split at hs2
    · rename_i l r hl hr
      obtain ⟨h0, h1, h2, hK⟩ := zcd (zd1 F hl) hs2
      have hpart := Rd.part hrd (l := l.toNat) (r := r.toNat) (by omega) (by omega)
      refine ⟨_, _, hK, .u hpart, fun w _ => yp ?_ w⟩
      simp only [zfj, hu, hv, zd1 F hl, zd1 F hr]
      exact zge hs2 fun hh => ⟨hh.1, by omega, hnz trivial⟩
    · rename_i mx l r hl hr
      split at hs2
      · rename_i k kk hm
        obtain ⟨hhi, hs3⟩ := zaa hs2
        obtain ⟨h0, h1, h2, h3, hK⟩ := zcd (zd1 F hl) hs3
        subst h3
        have hmx : bnd T (some mx) 0 = some kk := zd1 F (by simp [zm1, hm])
        refine ⟨_, _, hK, .c (a := slA a kk.toNat l.toNat (zah P e)) (n := zhi kk.toNat l.toNat) ?_, fun w _ => yp ?_ w⟩
        · exact hrd.part3 (by omega) (by omega)
        · simp only [zfj, hu, hv, zd1 F hl, zd1 F hr, hmx, hhi, cond_true]
          exact zge hs3 fun hh => ⟨hh.1, Int.le_refl _, by omega, hnz trivial⟩
      · exact hs2.elim
    · exact hs2.elim
  · rename_i e s rows hu he
    rw [he] at hx
    obtain ⟨hc, hs2⟩ := zaa hs
    simp only [Bool.and_eq_true, Bool.not_eq_true'] at hc
    have hse := Nat.eq_of_beq_eq_true hc.1
    subst hse
    have hne : zah P e ≠ 0 := fun h0 => by rw [h0] at hc; simp at hc
    have hnz : ∀ {A : Prop}, A → nz (zah P e) A := fun hA => by
     unfold nz
     rw [show Nat.beq (zah P e) 0 = false from hc.2]; exact hA
    obtain ⟨a, hv, hrd⟩ := hx.c_inv
    split at hs2
    · rename_i l r hl hr
      obtain ⟨h0, h1, h2, h3, hK⟩ := zcd (zd1 F hl) hs2
      have hpart := Rd.part hrd (l := l.toNat) (r := r.toNat) (by omega) (by omega)
      have e1 : r.toNat = rows.length := by omega
      refine ⟨_, _, hK, (?_ : Rp D ρ (.slice (slA a rows.length l.toNat (zah P e)) (zhi r.toNat l.toNat) (zhi rows.length l.toNat)) _), fun w _ => yp ?_ w⟩
      · rw [e1] at hpart ⊢; exact .c hpart
      · simp only [zfj, hu, hv, zd1 F hl, zd1 F hr]
        exact zge hs2 fun hh => ⟨hh.1, by omega, hnz trivial⟩
    · exact hs2.elim
  · rename_i e b hu he
    rw [he] at hx
    split at hs
    · rename_i E sz rows hm
      obtain ⟨L', ch, g1, g2, g3⟩ := M.get (b := b) (by rw [hm]; simp)
      obtain ⟨L, hL, hv⟩ := hx.w_inv
      rw [hL] at g1; cases g1
      rw [hm] at g3
      cases g3 with
      | w own hn =>
        have hx' : Rp D ρ (ev T x) (.v b sz 0 rows.length false) := by
         rw [hv]
         refine hn ▸ .v hL (by omega) (fun _ => rfl) (fun h0 => ?_) (by rw [hn]; exact own.len) (by simp) (fun _ _ => rfl)
         obtain ⟨p, e1⟩ := own.some_of (fun e1 => by rw [e1] at hn; simp at hn; omega)
         exact ⟨p, 0, e1, by rw [e1]; simp⟩
        exact view_S (chs := chs) F hu hs hx'
    · exact hs.elim
  · rename_i e b sz l n c hu he
    rw [he] at hx
    exact view_S (chs := chs) F hu hs hx
  · exact hs.elim
 case load S a =>
  obtain ⟨bb, oo, v, x, hv, hK, hr, hrun⟩ := sLoad_S hs M (zc4 F a) (bs := znf t ⟨dst, .load S a, ty, pos, after, guard⟩) fun b hb => by
   rw [inL_iff]; simp [znf, Op.operands, zak, hb]
  exact ⟨v, x, hK, hr, fun w hw => by
   have hw := hw.resolve_left (by simp [zjo, zcs])
   simp [execOp, Instr.loadAt, Instr.sureAddr, hv, hrun w hw]⟩
 case lookup S x k ok =>
  obtain ⟨v, y, hK, hr, hrun⟩ := look_S hs M (zc4 F x) (zc4 F k) (bs := znf t ⟨dst, .lookup S x k ok, ty, pos, after, guard⟩) fun b hb => by
   rw [inL_iff]; simp [znf, Op.operands, zak, hb]
  exact ⟨v, y, hK, hr, fun w hw => by
   have hw := hw.resolve_left (by simp [zjo, zcs])
   simp [execOp, hrun w hw]⟩
 case call c =>
  obtain ⟨callee, args, argTypes⟩ := c
  simp only at hs
  split at hs
  · split at hs
    · rename_i x S hax hat
      obtain ⟨hc, hs⟩ := zaa hs
      have hx := zc4 F x
      have ha1 : args = #[x] := by rw [← Array.toArray_toList (xs := args), hax]
      have ha2 : argTypes = #[S] := by rw [← Array.toArray_toList (xs := argTypes), hat]
      subst ha1 ha2
      have sl : ∀ {a : Option Addr} {n c : Nat} {e : TypeId}, P.underlying S = some (.slice e) → ev T x = .slice a n c → ∀ w : World, (execOp (ev T) ⟨dst, .call ⟨.builtin .len, #[x], #[S]⟩, ty, pos, after, guard⟩).run P w = .ok (.value (.int .i64 n)) w :=
       fun hu hv w => by simp [execOp, resolve, invoke, Go.builtin, Builtin.len_, goInt, hv, run_underlying hu]
      unfold okLen at hc
      split at hc
      · rename_i s hu he
        rw [he] at hx hs
        refine ⟨_, _, hs, .u (.int _ _), fun w _ => ?_⟩
        simp [execOp, resolve, invoke, Go.builtin, Builtin.len_, goInt, u_str hx, run_underlying hu]
      · rename_i e s rows hu he
        rw [he] at hx hs
        obtain ⟨a, c, hv, -⟩ := hx.l_inv
        exact ⟨_, _, hs, .u (.int _ _), fun w _ => sl hu hv w⟩
      · rename_i e s rows hu he
        rw [he] at hx hs
        obtain ⟨a, hv, -⟩ := hx.c_inv
        exact ⟨_, _, hs, .u (.int _ _), fun w _ => sl hu hv w⟩
      · rename_i e hu he
        rw [he] at hx hs
        have hv : ev T x = .slice none 0 0 := by generalize ev T x = v at hx; cases hx; rfl
        exact ⟨_, _, hs, .u (.int _ _), fun w _ => sl hu hv w⟩
      · rename_i e b hu he
        rw [he] at hx hs
        obtain ⟨L, hL, hv⟩ := hx.w_inv
        simp only [lenS] at hs
        split at hs
        · rename_i E sz rows hm
          obtain ⟨L', ch, g1, g2, g3⟩ := M.get (b := b) (by rw [hm]; simp)
          rw [hL] at g1; cases g1
          rw [hm] at g3
          cases g3 with
          | w own hn => exact ⟨_, _, hs, .u (.int _ _), fun w _ => by rw [← hn]; exact sl hu hv w⟩
        · rename_i E sz n l hm
          obtain ⟨L', ch, g1, g2, g3⟩ := M.get (b := b) (by rw [hm]; simp)
          rw [hL] at g1; cases g1
          rw [hm] at g3
          cases g3 with
          | cw hA hn hc hl h5 h6 => exact ⟨_, _, hs, .u (.int _ _), fun w _ => by rw [← hn]; exact sl hu hv w⟩
        · exact hs.elim
      · rename_i e b sz l n c hu he
        rw [he] at hx hs
        obtain ⟨L, a, cap, g1, g2, g3, g4, g5, g6, g7, hv⟩ := hx.v_inv
        exact ⟨_, _, hs, .u (.int _ _), fun w _ => sl hu hv w⟩
      · rename_i e b o n hu he
        rw [he] at hx hs
        obtain ⟨L, a, cap, g1, g2, g3, hv⟩ := hx.sl_inv
        exact ⟨_, _, hs, .u (.int _ _), fun w _ => sl hu hv w⟩
      · rename_i K E b hu he
        rw [he] at hx hs
        simp only [lenS] at hs
        split at hs
        · rename_i kt sz ag rows hm
          obtain ⟨L', ch, g1, g2, g3⟩ := M.get (b := b) (by rw [hm]; simp)
          rw [hm] at g3
          generalize hv : ev T x = v at hx
          cases hx with
          | m hL =>
            rw [hL] at g1; cases g1
            cases g3 with
            | p I R hl =>
              rename_i es clk mv
              have hn : es.size = rows.length := by rw [← R.len, ← zj8 I.ent]; simp
              refine ⟨_, _, hs, .u (.int _ _), fun w hw => ?_⟩
              have hw := hw.resolve_left (by simp [zjo, zcs])
              have hb := hw _ _ (.inr ⟨b, _, by rw [inL_iff]; simp [znf, Op.operands, Call.operands, zak, he, zae], g2, List.mem_singleton_self _⟩)
              simp [execOp, resolve, invoke, Go.builtin, Builtin.len_, goInt, hv, run_underlying hu, MapKept.run_getObj_map hb, hn]
        · exact hs.elim
      · rename_i K E hu he
        rw [he] at hx hs
        generalize hv : ev T x = v at hx
        cases hx
        exact ⟨_, _, hs, .u (.int _ _), fun w _ => by simp [execOp, resolve, invoke, Go.builtin, Builtin.len_, goInt, hv, run_underlying hu]⟩
      · cases hc
    · exact hs.elim
  · split at hs
    · rename_i vs ha
      obtain ⟨v, hv, hr⟩ := XWp.sound hs
      refine ⟨v, _, hv, zmz v, fun w _ => ?_⟩
      have e : args.map (ev T) = vs.toArray := by rw [← args_S F ha]; cases args; simp
      simp [execOp, resolve, invoke, Go.builtin, e, hr w]
    · exact hs.elim
  · split at hs
    · rename_i vs ha
      obtain ⟨v, hv, hr⟩ := XWp.sound hs
      refine ⟨v, _, hv, zmz v, fun w _ => ?_⟩
      have e : args.map (ev T) = vs.toArray := by rw [← args_S F ha]; cases args; simp
      simp [execOp, resolve, invoke, Go.builtin, e, hr w]
    · exact hs.elim
  · exact hs.elim
end
section
variable {P : Program} {D D' : Fz} {ρ : List Loc} {m : Mem} {chs C : List zac} {h h' : zab} {T : List Value} {t : List V}
theorem zck : ∀ (m : Mem) (b : Nat) (a : AB), (ms m b a).length = m.length
 | [], _, _ => rfl
 | _ :: _, 0, _ => rfl
 | y :: m, b + 1, a => by simp [ms, zck m b a]
theorem ms_eq : ∀ (m : Mem) (b : Nat) (a : AB), ms m b a = m.set b a
 | [], _, _ => rfl
 | _ :: _, 0, _ => rfl
 | y :: m, b + 1, a => by simp [ms, ms_eq m b a]
theorem zl5 (m : Mem) (i : Nat) : mg m i = (m[i]?).getD .x := by
 induction m generalizing i with
 | nil => rfl
 | cons a m ih => cases i with
   | zero => rfl
   | succ i => simpa [mg] using ih i
theorem zbv {m : Mem} {b c : Nat} {a : AB} (hn : b ≠ c) : mg (ms m b a) c = mg m c := by rw [zl5, zl5, ms_eq, List.getElem?_set_ne hn]
theorem mg_ms {m : Mem} {b : Nat} {a : AB} (hb : b < m.length) : mg (ms m b a) b = a := by rw [zl5, ms_eq, List.getElem?_set_self hb]; rfl
theorem zob {m s : Mem} {b : Nat} (hb : b < m.length) : mg (m ++ s) b = mg m b := by rw [zl5, zl5, List.getElem?_append_left hb]
theorem set_perm {α : Type} {l : List (List α)} {i : Nat} {c c' : List α} (hi : l[i]? = some c) : (l.set i c').flatten.Perm (c' :: l.eraseIdx i).flatten := by
 have hlt := (List.getElem?_eq_some_iff.1 hi).1
 have := zlq (C := l.set i c') (i := i) (c := c') (by rw [List.getElem?_set_self hlt])
 rwa [List.eraseIdx_set_eq] at this
theorem SAt.front (M : SAt D ρ m chs C h) {b : Nat} {ch : zac} (hc : chs[b]? = some ch) : St D (ch :: (chs ++ C).eraseIdx b) h := M.st.pick b (zam hc)
theorem SAt.put (M : SAt D ρ m chs C h) {b : Nat} {L : Loc} {ab : AB} {ch ch' : zac} (hL : ρ[b]? = some L) (hc : chs[b]? = some ch) {C' : List zac} (S : St D' (ch' :: (chs ++ C').eraseIdx b) h') (l : Le D D') (he : Ent D' ρ L ab ch') :
 SAt D' ρ (ms m b ab) (chs.set b ch') C' h' where
 len := by rw [zck]; exact M.len
 lch := by rw [zck, List.length_set]; exact M.lch
 ent i L' ab' ch'' h1 h2 h3 := by
  by_cases hi : b = i
  · subst hi
    have hlt : b < chs.length := (List.getElem?_eq_some_iff.1 hc).1
    rw [ms_eq, List.getElem?_set_self (by rw [← M.lch]; exact hlt)] at h2
    rw [List.getElem?_set_self hlt] at h3
    rw [hL] at h1
    cases h1; cases h2; cases h3
    exact he
  · rw [ms_eq, List.getElem?_set_ne hi] at h2
    rw [List.getElem?_set_ne hi] at h3
    have := (M.ent i L' ab' ch'' h1 h2 h3).mono l []
    rwa [List.append_nil] at this
 st := by
  have hlt : b < chs.length := (List.getElem?_eq_some_iff.1 hc).1
  refine S.perm ?_
  have := set_perm (l := chs ++ C') (c' := ch') (zam hc)
  rw [List.set_append_left _ _ hlt] at this
  exact this.symm
theorem SAt.mono (M : SAt D ρ m chs C h) (l : Le D D') {C' : List zac} (S : St D' (chs ++ C') h') : SAt D' ρ m chs C' h' where
 len := M.len
 lch := M.lch
 ent i L ab ch h1 h2 h3 := by
  have := (M.ent i L ab ch h1 h2 h3).mono l []
  rwa [List.append_nil] at this
 st := S
theorem SAt.push {ch : zac} (M : SAt D ρ m chs (ch :: C) h) {L : Loc} {ab : AB} (he : Ent D (ρ ++ [L]) L ab ch) : SAt D (ρ ++ [L]) (m ++ [ab]) (chs ++ [ch]) C h where
 len := by simp [M.len]
 lch := by simp [M.lch]
 ent i L' ab' ch' h1 h2 h3 := by
  have hl := M.len
  have hc := M.lch
  by_cases hi : i < m.length
  · rw [List.getElem?_append_left (by omega)] at h1 h2 h3
    exact (M.ent i L' ab' ch' h1 h2 h3).mono (.refl D) [L]
  · have hlt := (List.getElem?_eq_some_iff.1 h2).1
    simp at hlt
    have hi : i = m.length := by omega
    subst hi
    rw [List.getElem?_append_right (by omega), ← hl] at h1
    rw [List.getElem?_append_right (by omega)] at h2
    rw [List.getElem?_append_right (by omega), ← hc] at h3
    simp at h1 h2 h3
    subst h1 h2 h3
    exact he
 st := M.st.perm (by simp [List.flatten_append])
variable {ro hr : List Nat}
theorem Nx.refl : Nx ro hr D ρ m chs D ρ m chs := ⟨.refl D, ⟨[], by simp⟩, fun _ _ _ => rfl, fun _ _ _ => rfl, Nat.le_refl _⟩
theorem Nx.trans {D1 D2 : Fz} {ρ1 ρ2 : List Loc} {m1 m2 : Mem} {c1 c2 : List zac} (a : Nx ro hr D ρ m chs D1 ρ1 m1 c1) (b : Nx ro hr D1 ρ1 m1 c1 D2 ρ2 m2 c2) : Nx ro hr D ρ m chs D2 ρ2 m2 c2 where
 le := a.le.trans b.le
 pre := by obtain ⟨s, rfl⟩ := a.pre; obtain ⟨s', rfl⟩ := b.pre; exact ⟨s ++ s', by simp⟩
 keep i h1 h2 := by rw [b.keep i h1 (Nat.lt_of_lt_of_le h2 a.len), a.keep i h1 h2]
 same i h1 h2 := by rw [b.same i h1 (Nat.lt_of_lt_of_le h2 a.len), a.same i h1 h2]
 len := Nat.le_trans a.len b.len
theorem zpv {a b : List Nat} {i : Nat} (h : inL a i = true) : inL (a ++ b) i = true := by rw [inL_iff] at h ⊢; simp [h]
theorem Nx.set {b : Nat} {ab : AB} {ch : zac} (l : Le D D') (hb : inL (hr ++ ro) b = false) : Nx ro hr D ρ m chs D' ρ (ms m b ab) (chs.set b ch) where
 le := l
 pre := ⟨[], by simp⟩
 keep i h1 h2 := by rw [List.getElem?_set_ne]; rintro rfl; rw [zpv h1] at hb; cases hb
 same i h1 h2 := zbv (by rintro rfl; rw [h1] at hb; cases hb)
 len := by rw [zck]; exact Nat.le_refl _
theorem Nx.push (M : SAt D ρ m chs C h) {s : List Loc} {a : Mem} {c : List zac} (l : Le D D') : Nx ro hr D ρ m chs D' (ρ ++ s) (m ++ a) (chs ++ c) where
 le := l
 pre := ⟨s, rfl⟩
 keep i h1 h2 := List.getElem?_append_left (by rw [M.lch]; exact h2)
 same i h1 h2 := zob h2
 len := by simp
theorem Nx.rp {D' : Fz} {ρ' : List Loc} {m' : Mem} {chs' : List zac} (n : Nx ro hr D ρ m chs D' ρ' m' chs') {v : Value} {x : V} (hv : Rp D ρ v x) : Rp D' ρ' v x := by
 obtain ⟨s, rfl⟩ := n.pre; exact hv.mono n.le s
theorem Nx.rpL {D' : Fz} {ρ' : List Loc} {m' : Mem} {chs' : List zac} (n : Nx ro hr D ρ m chs D' ρ' m' chs') {v : List Value} {x : List V} (hv : RpL D ρ v x) : RpL D' ρ' v x := by
 obtain ⟨s, rfl⟩ := n.pre; exact hv.mono n.le s
theorem Nx.rpC {D' : Fz} {ρ' : List Loc} {m' : Mem} {chs' : List zac} (n : Nx ro hr D ρ m chs D' ρ' m' chs') {v : List Value} {x : List V} (hv : RpC D ρ v x) : RpC D' ρ' v x := by
 obtain ⟨s, rfl⟩ := n.pre; exact hv.mono n.le s
theorem toU_S {v : Value} {x : V} {u : U} {m' : Mem} (hs : toU (hr ++ ro) m x = some (u, m')) (M : SAt D ρ m chs C h) (hv : Rp D ρ v x) :
 ∃ D' chs', Nx ro hr D ρ m chs D' ρ m' chs' ∧ SAt D' ρ m' chs' C h ∧ Rd D' v u := by
 unfold toU at hs
 split at hs
 · cases hs; cases hv with | u hv => exact ⟨D, chs, .refl, M, hv⟩
 · cases hs; cases hv with | c hv => exact ⟨D, chs, .refl, M, hv⟩
 · cases hs; cases hv; exact ⟨D, chs, .refl, M, .nil _ _ _⟩
 · cases hs
   obtain ⟨p, o, h1, rfl⟩ := hv.q_inv
   exact ⟨D, chs, .refl, M, h1⟩
 · rename_i b
   split at hs
   · rename_i E sz rows hm
     cases hb : inL (hr ++ ro) b with
     | true => rw [hb] at hs; cases hs
     | false =>
       rw [hb] at hs
       cases hs
       obtain ⟨L, ch, h1, h2, h3⟩ := M.get (b := b) (by rw [hm]; simp)
       obtain ⟨L', h4, rfl⟩ := hv.w_inv
       rw [h1] at h4; cases h4
       rw [hm] at h3
       cases h3 with
       | w own hn =>
         obtain ⟨D', l, S, hr⟩ := own.freeze (M.front h2)
         rw [hn]
         exact ⟨D', _, .set l hb, M.put h1 h2 S.nil l .x, hr⟩
   · cases hs
 · cases hs
theorem toUs_S : ∀ {xs : List V} {us : List U} {vs : List Value} {m m' : Mem} {D : Fz} {chs : List zac}, toUs (hr ++ ro) m xs = some (us, m') → SAt D ρ m chs C h → RpC D ρ vs xs →
 ∃ D' chs', Nx ro hr D ρ m chs D' ρ m' chs' ∧ SAt D' ρ m' chs' C h ∧ RdL D' vs us
 | [], us, vs, m, m', D, chs, hs, M, hv => by cases hs; cases hv; exact ⟨D, chs, .refl, M, .nil⟩
 | x :: xs, us, vs, m, m', D, chs, hs, M, hv => by
   simp only [toUs] at hs
   split at hs
   · rename_i u m1 h1
     split at hs
     · rename_i us' m2 h2
       cases hs
       cases hv with
       | cons a n b =>
         obtain ⟨D1, c1, n1, M1, r1⟩ := toU_S h1 M a
         obtain ⟨D2, c2, n2, M2, r2⟩ := toUs_S h2 M1 (n1.rpC b)
         exact ⟨D2, c2, n1.trans n2, M2, .cons (r1.mono n2.le) r2⟩
       | n hl b => simp [toU] at h1
     · cases hs
   · cases hs
theorem zfk {S : TypeId} {v : Value} {x : V} (hv : Rp D ρ v x) : Rp D ρ v (zdb P S x) := by
 unfold zdb
 split
 · cases hv with | a h => exact .a (zio h)
 · split
   · cases hv; exact .nl
   · exact hv
 · exact hv
theorem zhe {S : TypeId} {v : Value} {x : V} {xs : List V} (hc : zd2 P S x = some xs) (hv : Rp D ρ v x) : RpC D ρ v.cells.toList xs := cellsV_S hc (zfk hv)
end
section
variable {P : Program} {D D' : Fz} {ρ : List Loc} {m : Mem} {chs C : List zac} {h h' : zab} {T : List Value} {t : List V} {ro hr : List Nat}
theorem shOk_single {z : Value × Nat} {v : Value} {x : V} (hk : shOk z x = true) (hv : Rp D ρ v x) : single v = true := by
 obtain ⟨z, s⟩ := z
 unfold shOk at hk
 split at hk <;> first
  | (cases hk; done)
  | (cases hv with | u hr => cases hr <;> rfl)
  | (cases hv; rfl)
theorem zig : ∀ {xs : List V} {zs : List (Value × Nat)} {vs : List Value}, shL zs xs = true → RpC D ρ vs xs → vs.length = zs.length ∧ ∀ v ∈ vs, single v = true
 | [], zs, vs, hk, hv => by
   cases hv
   cases zs with
   | nil => exact ⟨rfl, by simp⟩
   | cons z zs => simp [shL] at hk
 | x :: xs, zs, vs, hk, hv => by
   cases hv with
   | n hl b =>
     rename_i k w l vs
     simp only [shL, Bool.and_eq_true] at hk
     obtain ⟨⟨⟨h1, h2⟩, h3⟩, h4⟩ := hk
     have := Nat.le_of_ble_eq_true h2
     obtain ⟨g1, g2⟩ := zig h4 b
     refine ⟨by simp at g1 ⊢; omega, fun v hv => ?_⟩
     rcases List.mem_append.1 hv with hv | hv
     · obtain ⟨i, -, rfl⟩ := List.mem_map.1 hv; rfl
     · exact g2 v hv
   | cons a n b =>
     cases zs with
     | nil => cases x <;> first | exact absurd rfl (n _ _ _) | simp [shL] at hk
     | cons z zs =>
       have : shOk z x = true ∧ shL zs xs = true := by cases x <;> first | exact absurd rfl (n _ _ _) | (simp only [shL, Bool.and_eq_true] at hk; exact hk)
       obtain ⟨g1, g2⟩ := zig this.2 b
       refine ⟨by simp [g1], fun v hv => ?_⟩
       rcases List.mem_cons.1 hv with rfl | hv
       · exact shOk_single this.1 a
       · exact g2 v hv
theorem cellsV_one {v : Value} {x : V} {xs : List V} (hc : zom x = some xs) (hn : ∀ l, x ≠ .a l) (hv : Rp D ρ v x) : v.cells.toList = [v] := by
 cases hv with
 | a => exact absurd rfl (hn _)
 | u hr => cases hr <;> rfl
 | z => cases hc
 | t => cases hc
 | _ => rfl
theorem cellsV_agg {v : Value} {l : List V} (hv : Rp D ρ v (.a l)) : ∃ vs, v = .agg vs := by obtain ⟨vs, rfl, -⟩ := hv.a_inv; exact ⟨_, rfl⟩
theorem storeK_of {S : TypeId} {zs : List (Value × Nat)} (hz : zbh P S = some zs) {v : Value} {x : V} {xs : List V} (hv : Rp D ρ v x) (hc : zom x = some xs) (ha : zns P S x = true) {b o : Nat} {K : zab → Prop} (hn : v.cells.toList.length = zs.length)
 (hK : zc2 b o v.cells.toList 0 h K) : zhj P S (some ⟨b, o, none⟩) v h K := by
 unfold zbh at hz
 unfold zhj
 split at hz
 · rename_i z hl
   cases hz
   rw [zgf hl]
   have hx : ∀ l, x ≠ .a l := fun l e => by subst e; simp [zns, hl] at ha
   rw [cellsV_one hc hx hv] at hK
   exact hK
 · rename_i zs' hl
   cases hz
   obtain ⟨cs, h1, h2⟩ := zem hl
   rw [h1]
   have hx : ∃ l, x = .a l := by
    unfold zns at ha
    rw [hl] at ha
    cases x <;> first | exact ⟨_, rfl⟩ | simp at ha
   obtain ⟨l, rfl⟩ := hx
   obtain ⟨vs, rfl⟩ := cellsV_agg hv
   show cond (Nat.beq cs.length vs.toList.length) (zc2 b o vs.toList 0 h K) False
   have : Nat.beq cs.length vs.toList.length = true := by rw [h2, ← hn]; exact Nat.beq_refl _
   rw [this]; exact hK
 · cases hz
theorem zi8 : ∀ (l : List U) (o : Nat) (us : List U), o + us.length ≤ l.length → usp l o us = l.take o ++ us ++ l.drop (o + us.length)
 | l, o, [], h => by cases l <;> cases o <;> simp [usp]
 | [], o, u :: us, h => by simp at h
 | x :: l, 0, u :: us, h => by
   simp only [usp]
   rw [zi8 l 0 us (by simp at h ⊢; omega)]
   simp
 | x :: l, o + 1, u :: us, h => by
   simp only [usp]
   rw [zi8 l o (u :: us) (by simp at h ⊢; omega)]
   simp [show o + 1 + (us.length + 1) = (o + (us.length + 1)) + 1 by omega]
theorem usp_len (l : List U) (o : Nat) (us : List U) (h : o + us.length ≤ l.length) : (usp l o us).length = l.length := by rw [zi8 l o us h]; simp; omega
theorem usp_get (l : List U) (o : Nat) (us : List U) (h : o + us.length ≤ l.length) (j : Nat) : (usp l o us)[j]? = if j < o then l[j]? else if j < o + us.length then us[j - o]? else l[j]? := by
 rw [zi8 l o us h]
 have hl : (l.take o).length = o := by simp; omega
 split
 · rename_i hj; rw [List.append_assoc, List.getElem?_append_left (by omega), List.getElem?_take_of_lt hj]
 · rename_i hj
   split
   · rename_i hj2; rw [List.append_assoc, List.getElem?_append_right (by omega), hl, List.getElem?_append_left (by omega)]
   · rename_i hj2
     rw [List.getElem?_append_right (by simp; omega), List.getElem?_drop]
     congr 1
     simp [hl]; omega
theorem Own.poke {E sz c p q i o : Nat} {a : Option Addr} {rows : List (List U)} {r us : List U} {vs : List Value} {ch : zac} {CC : List zac} {K : zab → Prop} (x : Own D E sz a c rows ch) (S : St D (ch :: CC) h) (ha : a = some ⟨p, q, none⟩) (hi : rows[i]? = some r)
 (hv : RdL D vs us) (ho : o + us.length ≤ sz) (hK : ∀ ch' h', Own D E sz a c (rows.set i (usp r o us)) ch' → St D (ch' :: CC) h' → K h') : zc2 p (q + i * sz + o) vs 0 h K := by
 subst ha
 cases x with
 | row b c arr rows v h1 h2 h3 h4 h5 =>
   obtain ⟨l⟩ := arr
   have hil := (List.getElem?_eq_some_iff.1 hi).1
   have hrl : r.length = sz := h3 r (List.mem_of_getElem? hi)
   have hsz : i * sz + sz ≤ l.length := by
    have h1' : l.length = c * sz := by simpa using h1
    rw [h1']
    have := Nat.mul_le_mul_right sz (show i + 1 ≤ c by omega)
    rwa [Nat.succ_mul] at this
   have hvl := hv.len
   refine S.st0 (Nat.ble_eq_true_of_le (by omega)) (List.all_eq_true.2 hv.single) fun h' S' => ?_
   have hl0 : 0 + i * sz + o + 0 + vs.length ≤ l.length := by omega
   refine hK _ h' (.row p c _ _ (fun k j => if k = i ∧ o ≤ j ∧ j < o + us.length then vs.getD (j - o) undef else v k j) ?_ (by simpa using h2) ?_ ?_ ?_) S'
   · simp only [List.size_toArray, zas]; simpa using h1
   · intro r' hr'
     rcases List.mem_or_eq_of_mem_set hr' with hr' | rfl
     · exact h3 r' hr'
     · rw [usp_len _ _ _ (by omega), hrl]
   · intro k j r' u hk hu
     simp only [List.getElem?_toArray]
     rw [za2 _ _ _ _ hl0]
     by_cases hki : k = i
     · subst hki
       rw [List.getElem?_set_self hil] at hk
       cases hk
       have hj : j < sz := by have := (List.getElem?_eq_some_iff.1 hu).1; rwa [usp_len _ _ _ (by omega), hrl] at this
       rw [usp_get _ _ _ (by omega)] at hu
       by_cases c1 : j < o
       · rw [if_pos (by omega), if_neg (by omega)]
         rw [if_pos c1] at hu
         simpa using h4 k j r u hi hu
       · by_cases c2 : j < o + us.length
         · rw [if_neg (by omega), if_pos (by omega), if_pos ⟨rfl, by omega, c2⟩]
           rw [show k * sz + j - (0 + k * sz + o + 0) = j - o by omega]
           have : j - o < vs.length := by omega
           simp [this]
         · rw [if_neg (by omega), if_neg (by omega), if_neg (by omega)]
           rw [if_neg c1, if_neg c2] at hu
           simpa using h4 k j r u hi hu
     · rw [List.getElem?_set_ne (Ne.symm hki)] at hk
       have hj : j < sz := by have := (List.getElem?_eq_some_iff.1 hu).1; rwa [h3 r' (List.mem_of_getElem? hk)] at this
       have hd : k * sz + sz ≤ i * sz ∨ i * sz + sz ≤ k * sz := by
        rcases Nat.lt_or_gt_of_ne hki with hlt | hlt
        · have := Nat.mul_le_mul_right sz (show k + 1 ≤ i by omega); rw [Nat.succ_mul] at this; exact .inl this
        · have := Nat.mul_le_mul_right sz (show i + 1 ≤ k by omega); rw [Nat.succ_mul] at this; exact .inr this
       have := h4 k j r' u hk hu
       simp only [List.getElem?_toArray] at this
       simp only [hki, false_and, if_false]
       rcases hd with hd | hd
       · rw [if_pos (by omega)]; exact this
       · rw [if_neg (by omega), if_neg (by omega)]; exact this
   · intro k j r' u hk hu
     by_cases hki : k = i
     · subst hki
       rw [List.getElem?_set_self hil] at hk
       cases hk
       rw [usp_get _ _ _ (by omega)] at hu
       by_cases c1 : j < o
       · rw [if_neg (by omega)]; rw [if_pos c1] at hu; exact h5 k j r u hi hu
       · by_cases c2 : j < o + us.length
         · rw [if_pos ⟨rfl, by omega, c2⟩]
           rw [if_neg c1, if_pos c2] at hu
           obtain ⟨w, hw, hr⟩ := hv.get hu
           simp only [List.getD_eq_getElem?_getD, hw, Option.getD_some]; exact hr
         · rw [if_neg (by omega)]; rw [if_neg c1, if_neg c2] at hu; exact h5 k j r u hi hu
     · rw [List.getElem?_set_ne (Ne.symm hki)] at hk
       simp only [hki, false_and, if_false]; exact h5 k j r' u hk hu
theorem usp_all (r us : List U) (h : us.length = r.length) : usp r 0 us = us := by rw [zi8 _ _ _ (by omega)]; simp [h]
theorem RdL.ofAt {arr : List Value} : ∀ {us : List U} {o : Nat}, (∀ j u, us[j]? = some u → ∃ v, arr[o + j]? = some v ∧ Rd D v u) → RdL D ((arr.drop o).take us.length) us
 | [], o, h => by rw [List.length_nil, List.take_zero]; exact .nil
 | u :: us, o, h => by
   obtain ⟨v, hv, hr⟩ := h 0 u rfl
   rw [Nat.add_zero] at hv
   obtain ⟨hlt, e⟩ := List.getElem?_eq_some_iff.1 hv
   rw [List.drop_eq_getElem_cons hlt, e, List.length_cons, List.take_succ_cons]
   exact .cons hr (RdL.ofAt fun j w hw => by
    have := h (j + 1) w (by simpa using hw)
    rwa [show o + (j + 1) = o + 1 + j by omega] at this)
theorem flat_inv {sz : Nat} : ∀ {rows : List (List U)} {k : Nat} {u : U}, (∀ r ∈ rows, r.length = sz) → rows.flatten[k]? = some u → ∃ (i j : Nat) (r : List U), rows[i]? = some r ∧ r[j]? = some u ∧ k = i * sz + j
 | [], k, u, _, h => by simp at h
 | r :: rows, k, u, hs, h => by
   rw [List.flatten_cons] at h
   have hr := hs r (by simp)
   by_cases hk : k < r.length
   · rw [List.getElem?_append_left hk] at h
     exact ⟨0, k, r, rfl, h, by omega⟩
   · rw [List.getElem?_append_right (by omega)] at h
     obtain ⟨i, j, r', h1, h2, h3⟩ := flat_inv (fun r hr => hs r (by simp [hr])) h
     exact ⟨i + 1, j, r', by simpa using h1, h2, by rw [Nat.succ_mul]; omega⟩
theorem flat_lenU {sz : Nat} : ∀ {rows : List (List U)}, (∀ r ∈ rows, r.length = sz) → rows.flatten.length = rows.length * sz
 | [], _ => by simp
 | r :: rows, hs => by rw [List.flatten_cons, List.length_append, flat_lenU (fun r hr => hs r (by simp [hr])), hs r (by simp), List.length_cons, Nat.succ_mul]; omega
theorem splice_app : ∀ (l : List Value) (o : Nat) (vs r : List Value), o + vs.length ≤ l.length → zar (l ++ r) o vs = zar l o vs ++ r := fun l o vs r h => by
 apply List.ext_getElem?
 intro j
 rw [za2 _ _ _ _ (by rw [List.length_append]; omega)]
 by_cases hj : j < l.length
 · have e1 : (zar l o vs ++ r)[j]? = (zar l o vs)[j]? := List.getElem?_append_left (by rw [zas]; exact hj)
   rw [e1, za2 _ _ _ _ h, List.getElem?_append_left hj]
 · have e1 : (zar l o vs ++ r)[j]? = r[j - l.length]? := by rw [List.getElem?_append_right (by rw [zas]; omega), zas]
   rw [e1, if_neg (by omega), if_neg (by omega), List.getElem?_append_right (by omega)]
theorem Own.cells {E sz c p q : Nat} {a : Option Addr} {rows : List (List U)} {ch : zac} (x : Own D E sz a c rows ch) (ha : a = some ⟨p, q, none⟩) : q = 0 ∧ ∃ vs ps : List Value, ch = [(p, .cells (vs ++ ps).toArray E (0, 0))] ∧ RpC D ρ vs (rows.flatten.map V.u) ∧ vs.length = rows.length * sz ∧ (vs ++ ps).length = c * sz ∧ rows.length ≤ c := by
 subst ha
 cases x with
 | row b c arr rows v h1 h2 h3 h4 h5 =>
   have hr : RdL D ((arr.toList.drop 0).take rows.flatten.length) rows.flatten := RdL.ofAt fun k u hu => by
    obtain ⟨i, j, r, g1, g2, rfl⟩ := flat_inv h3 hu
    refine ⟨v i j, ?_, h5 i j r u g1 g2⟩
    have := h4 i j r u g1 g2
    rw [Nat.zero_add]
    simpa using this
   rw [List.drop_zero] at hr
   refine ⟨rfl, arr.toList.take rows.flatten.length, arr.toList.drop rows.flatten.length, ?_, .ofU hr, ?_, ?_, h2⟩
   · rw [List.take_append_drop]
   · rw [hr.len, flat_lenU h3]
   · rw [List.take_append_drop]; simpa using h1
theorem sStore_S {vw : Bool} {S : TypeId} {a x : V} {va vx : Value} {KS : Mem → Prop} {K : zab → Prop} (hs : sStore P vw (hr ++ ro) S a x m KS) (M : SAt D ρ m chs C h) (ha : Rp D ρ va a) (hx : Rp D ρ vx x)
 (hK : ∀ D' m' chs' h', Nx ro hr D ρ m chs D' ρ m' chs' → SAt D' ρ m' chs' C h' → KS m' → K h') : ∃ ad, va = .pointer ad ∧ zhj P S ad vx h K := by
 unfold sStore at hs
 split at hs
 · rename_i zs xs hz hvc
   obtain ⟨hk, hs2⟩ := zaa hs
   clear hs
   have hs := hs2
   clear hs2
   simp only [Bool.and_eq_true] at hk
   have hnx := zfk (P := P) (S := S) hx
   have hcx := zhe hvc hx
   obtain ⟨g1, g2⟩ := zig hk.1 hcx
   have sk : ∀ {b o : Nat}, zc2 b o vx.cells.toList 0 h K → zhj P S (some ⟨b, o, none⟩) vx h K := fun hh => storeK_of hz hnx hvc hk.2 g1 hh
   split at hs
   · rename_i b o
     cases hb : inL (hr ++ ro) b with
     | true => rw [hb] at hs; exact hs.elim
     | false =>
       rw [hb] at hs
       simp only [cond_false] at hs
       split at hs
       · rename_i cells hm
         split at hs
         · rename_i l hp
           obtain ⟨L, hL, rfl⟩ := ha.r_inv
           obtain ⟨L', ch, h1, h2, h3⟩ := M.get (b := b) (by rw [hm]; simp)
           rw [hL] at h1; cases h1
           rw [hm] at h3
           cases h3 with
           | c hc =>
             rename_i arr S'
             obtain ⟨p1, p2⟩ := putC_S hcx hp hc
             refine ⟨_, rfl, sk ((M.front h2).st0 (l := arr) (Nat.ble_eq_true_of_le (by omega)) (List.all_eq_true.2 g2) fun h' S' => ?_)⟩
             rw [Nat.add_zero] at S'
             exact hK D _ _ h' (.set (.refl D) hb) (M.put hL h2 S' (.refl D) (.c p2)) hs
         · exact hs.elim
       · exact hs.elim
   · rename_i b o w k
     cases hb : inL (hr ++ ro) b with
     | true => rw [hb] at hs; exact hs.elim
     | false =>
       rw [hb] at hs
       simp only [cond_false] at hs
       split at hs
       · rename_i cells y hm
         split at hs
         · rename_i k' w' l r hd
           obtain ⟨hw, hs2⟩ := zaa hs
           clear hs
           simp only [Bool.and_eq_true] at hw
           have := Nat.eq_of_beq_eq_true hw.1
           have hk3 : k' = .i64 := by
            have := hw.2
            cases k' <;> first | rfl | simp [zaq] at this
           subst this hk3
           split at hs2
           · rename_i l' hp
             obtain ⟨L, hL, k0, k1, rfl⟩ := ha.g_inv
             obtain ⟨L', ch, h1, h2, h3⟩ := M.get (b := b) (by rw [hm]; simp)
             rw [hL] at h1; cases h1
             rw [hm] at h3
             cases h3 with
             | c hc =>
               rename_i arr S'
               have hvy : vx.cells.toList = [.int .i64 y] := by
                generalize vx.cells.toList = q at hcx
                cases hcx with
                | cons a n b => cases b; rw [znd a]
               obtain ⟨pp, ss, rfl, hpp, hrr⟩ := zdr hd hc
               cases hrr with
               | cons a n b => exact absurd rfl (n _ _ _)
               | @n _ _ _ vs _ hl b =>
                 have hnew : RpC D ρ ((l.set k.toNat y).map (.int .i64)) [.n .i64 w (l.set k.toNat y)] := by
                  have := RpC.n (D := D) (ρ := ρ) (k := .i64) (w := w) (l := l.set k.toNat y) (vs := []) (xs := []) (by simp [hl]) .nil
                  simpa using this
                 obtain ⟨p1, p2⟩ := putC_S hnew hp hc
                 refine ⟨_, rfl, sk ((M.front h2).st0 (l := pp ++ (l.map (.int .i64) ++ vs)) (Nat.ble_eq_true_of_le (by rw [hvy]; simp [hpp, hl]; omega)) (List.all_eq_true.2 g2) fun h' S' => ?_)⟩
                 rw [Nat.add_zero, hvy] at S'
                 have e : zar (pp ++ (l.map (.int .i64) ++ vs)) (o + k.toNat) [.int .i64 y] = zar (pp ++ (l.map (.int .i64) ++ vs)) o ((l.set k.toNat y).map (.int .i64)) := by
                  apply List.ext_getElem?
                  intro j
                  rw [za2 _ _ _ _ (by simp [hpp, hl]; omega), za2 _ _ _ _ (by simp [hpp, hl])]
                  simp only [List.length_map, List.length_set, List.length_cons, List.length_nil, hl]
                  by_cases c1 : j < o
                  · rw [if_pos (by omega), if_pos c1]
                  · rw [if_neg c1]
                    by_cases c2 : j < o + w
                    · rw [if_pos c2, List.getElem?_map, List.getElem?_set]
                      by_cases c3 : j = o + k.toNat
                      · subst c3
                        rw [if_neg (by omega), if_pos (by omega), if_pos (by omega), if_pos (by omega)]
                        simp
                      · have c4 : (pp ++ (l.map (Value.int .i64) ++ vs))[j]? = (l.map (Value.int .i64))[j - o]? := by
                         rw [List.getElem?_append_right (by omega), hpp, List.getElem?_append_left (by simp; omega)]
                        rw [if_neg (show ¬ k.toNat = j - o by omega), c4, List.getElem?_map]
                        by_cases c5 : j < o + k.toNat
                        · rw [if_pos c5]
                        · rw [if_neg c5, if_neg (by omega)]
                    · rw [if_neg c2, if_neg (by omega), if_neg (by omega)]
                 rw [e] at S'
                 exact hK D _ _ h' (.set (.refl D) hb) (M.put hL h2 S' (.refl D) (.c p2)) hs2
           · exact hs2.elim
         · exact hs.elim
       · exact hs.elim
   · rename_i b sz k o
     cases hb : inL (hr ++ ro) b with
     | true => rw [hb] at hs; exact hs.elim
     | false =>
       rw [hb] at hs
       simp only [cond_false] at hs
       -- cells that are one's own, told as such
       have goC : ∀ {E n : Nat} {cells l : List V} {L : Loc} {ch : zac} {bb : Nat} {vs ps : List Value}, ρ[b]? = some L → chs[b]? = some ch → L.a = some ⟨bb, 0, none⟩ → L.n = n → ch = [(bb, .cells (vs ++ ps).toArray E (0, 0))] → RpC D ρ vs cells → vs.length = n * sz → (vs ++ ps).length = L.c * sz → n ≤ L.c →
        zn3 xs (k.toNat * sz + o) cells = some l → KS (ms m b (.cw E sz n l)) → ∃ ad, va = .pointer ad ∧ zhj P S ad vx h K := by
        intro E n cells l L ch bb vs ps hL h2 hA hN hch hc hlen h5 h6 hp hk
        obtain ⟨L', p, q, hL', hA', k0, k1, rfl⟩ := ha.e_inv
        rw [hL] at hL'; cases hL'
        rw [hA] at hA'; cases hA'
        subst hch
        obtain ⟨p1, p2⟩ := putC_S hcx hp hc
        refine ⟨_, rfl, sk ((M.front h2).st0 (l := vs ++ ps) (Nat.ble_eq_true_of_le (by rw [List.length_append]; omega)) (List.all_eq_true.2 g2) fun h' S' => ?_)⟩
        rw [Nat.add_zero, Nat.zero_add, splice_app _ _ _ _ p1] at S'
        exact hK D _ _ h' (.set (.refl D) hb) (M.put hL h2 S' (.refl D) (.cw hA hN p2 (by rw [zas, hlen]) (by rw [List.length_append, zas, ← List.length_append, h5]) h6)) hk
       split at hs
       · rename_i E sz' n cells hm
         obtain ⟨hw, hs2⟩ := zaa hs
         have := Nat.eq_of_beq_eq_true hw
         subst this
         split at hs2
         · rename_i l hp
           obtain ⟨L, ch, h1, h2, h3⟩ := M.get (b := b) (by rw [hm]; simp)
           rw [hm] at h3
           cases h3 with
           | cw hA hN hc hlen h5 h6 => exact goC h1 h2 hA hN rfl hc hlen h5 h6 hp hs2
         · exact hs2.elim
       rotate_left
       · exact hs.elim
       rename_i E0 sz0 rows0 hm0
       cases hkb : (vw && znm m xs) with
       | true =>
         rw [hkb] at hs
         simp only [cond_true] at hs
         obtain ⟨hw, hs2⟩ := zaa hs
         have := Nat.eq_of_beq_eq_true hw
         subst this
         split at hs2
         · rename_i l hp
           obtain ⟨L, ch, h1, h2, h3⟩ := M.get (b := b) (by rw [hm0]; simp)
           rw [hm0] at h3
           cases h3 with
           | w own hn =>
             obtain ⟨L', p, q, hL', hA', k0, k1, -⟩ := ha.e_inv
             rw [h1] at hL'; cases hL'
             obtain ⟨rfl, vs, ps, e1, e2, e3, e4, e5⟩ := own.cells (ρ := ρ) hA'
             exact goC h1 h2 hA' hn e1 e2 e3 e4 e5 hp hs2
         · exact hs2.elim
       | false =>
       rw [hkb] at hs
       simp only [cond_false] at hs
       split at hs
       · rename_i us m1 hu
         obtain ⟨D1, c1, n1, M1, r1⟩ := toUs_S hu M hcx
         obtain ⟨L, p, q, hL, hA, k0, k1, rfl⟩ := ha.e_inv
         split at hs
         · rename_i E sz' rows hm
           obtain ⟨hw, hs2⟩ := zaa hs
           clear hs
           have := Nat.eq_of_beq_eq_true hw
           subst this
           obtain ⟨L', ch, h1, h2, h3⟩ := M1.get (b := b) (by rw [hm]; simp)
           rw [hL] at h1; cases h1
           rw [hm] at h3
           cases h3 with
           | w own hn =>
             have hlt : k.toNat < rows.length := by omega
             have hrl : rows[k.toNat].length = sz := by
              generalize L.a = A, L.c = cc at own
              cases own with
              | nil => simp at hlt
              | row b c arr rows v g1 g2 g3 g4 g5 => exact g3 _ (List.getElem_mem _)
             have go : ∀ r : List U, rows[k.toNat]? = some r → o + us.length ≤ sz → KS (ms m1 b (.w E sz (rows.set k.toNat (usp r o us)))) → ∃ ad, Value.pointer (some ⟨p, q + k.toNat * sz + o, none⟩) = .pointer ad ∧ zhj P S ad vx h K := fun r hr hle hk => by
              refine ⟨_, rfl, sk (own.poke (M1.front h2) hA hr r1 hle fun ch' h' own' S' => ?_)⟩
              exact hK D1 _ _ h' (n1.trans (.set (.refl _) hb)) (M1.put hL h2 S' (.refl _) (.w own' (by rw [hn, List.length_set]))) hk
             cases hc : (Nat.beq o 0 && Nat.beq us.length sz) with
             | true =>
               rw [hc] at hs2
               simp only [Bool.and_eq_true] at hc
               have e1 := Nat.eq_of_beq_eq_true hc.1
               have e2 := Nat.eq_of_beq_eq_true hc.2
               subst e1
               exact go _ (List.getElem?_eq_getElem hlt) (by omega) (by rw [usp_all _ _ (by rw [e2, hrl])]; exact hs2)
             | false =>
               rw [hc] at hs2
               obtain ⟨hle, hs3⟩ := zaa hs2
               obtain ⟨-, r, hr, hk⟩ := ze3 hs3
               exact go r hr (Nat.le_of_ble_eq_true hle) hk
         · exact hs.elim
       · exact hs.elim
   · exact hs.elim
 · exact hs.elim
end
section
variable {P : Program} {D D' : Fz} {ρ : List Loc} {m : Mem} {chs C : List zac} {h h' : zab} {T : List Value} {t : List V} {ro hr : List Nat}
theorem St.mid {c : zac} {A B : List zac} (S : St D (c :: (A ++ B)) h) : St D (A ++ c :: B) h := S.perm (by simp [List.flatten_append]; exact List.perm_append_comm_assoc _ _ _)
theorem St.unmid {c : zac} {A B : List zac} (S : St D (A ++ c :: B) h) : St D (c :: (A ++ B)) h := S.perm (by simp [List.flatten_append]; exact List.perm_append_comm_assoc _ _ _)
theorem SAt.new (M : SAt D ρ m chs C h) {c : zac} {L : Loc} {ab : AB} (S : St D' (c :: (chs ++ C)) h') (l : Le D D') (he : Ent D' (ρ ++ [L]) L ab c) : SAt D' (ρ ++ [L]) (m ++ [ab]) (chs ++ [c]) C h' := (M.mono l S.mid).push he
theorem newB_S (M : SAt D ρ m chs C h) {vs : List Value} {xs : List V} {e : TypeId} (hc : RpC D ρ vs xs) {K : Nat → zab → Prop}
 (hK : ∀ b ρ' chs' h', Nx ro hr D ρ m chs D ρ' (m ++ [.c xs]) chs' → SAt D ρ' (m ++ [.c xs]) chs' C h' → Rp D ρ' (.pointer (some ⟨b, 0, none⟩)) (.r m.length 0) → K b h') : zhx h (.cells vs.toArray e) K := by
 refine M.st.new fun b h1 S => hK b (ρ ++ [⟨b, none, 0, 0, none⟩]) (chs ++ [_]) h1 (.push M (.refl D)) (M.new S (.refl D) (.c (hc.mono (.refl D) _))) (.r (L := ⟨b, none, 0, 0, none⟩) ?_)
 rw [← M.len]; simp
theorem boxC_S {S : TypeId} {v : Value} {x : V} {xs : List V} (hc : zd2 P S x = some xs) (M : SAt D ρ m chs C h) (hv : Rp D ρ v x) {K : Nat → zab → Prop}
 (hK : ∀ b ρ' chs' h', Nx ro hr D ρ m chs D ρ' (m ++ [.c xs]) chs' → SAt D ρ' (m ++ [.c xs]) chs' C h' → Rp D ρ' (.pointer (some ⟨b, 0, none⟩)) (.r m.length 0) → K b h') : zhx h (.cells v.cells S) K := by
 have := zhe hc hv
 rw [← Array.toArray_toList (xs := v.cells)]
 exact newB_S M this hK
theorem box_S {S : TypeId} {v : Value} {x : V} {xs : List V} (hc : zd2 P S x = some xs) (M : SAt D ρ m chs C h) (hv : Rp D ρ v x) {K : Nat → zab → Prop}
 (hK : ∀ b ρ' chs' h', Nx ro hr D ρ m chs D ρ' (m ++ [boxA S (bdE P S) xs]) chs' → SAt D ρ' (m ++ [boxA S (bdE P S) xs]) chs' C h' → Rp D ρ' (.pointer (some ⟨b, 0, none⟩)) (.r m.length 0) → K b h') : zhx h (.cells v.cells S) K := by
 cases hb : bdE P S with
 | none => rw [hb] at hK; exact boxC_S hc M hv hK
 | some e =>
   rw [hb] at hK
   simp only [boxA] at hK
   unfold boxB at hK
   split at hK
   · have hr := zhe hc hv
     have hz' : v.cells = #[.pointer none, .slice none 0 0] := by
      apply Array.ext'
      generalize v.cells.toList = l at hr
      cases hr with
      | cons h1 _ h2 =>
        cases h2 with
        | cons h3 _ h4 =>
          cases h4
          cases h3
          cases h1 with
          | u hr => cases hr; rfl
     rw [hz']
     refine M.st.new fun b h1 S1 => hK b (ρ ++ [⟨b, none, 0, 0, none⟩]) (chs ++ [_]) h1 (.push M (.refl D)) (M.new S1 (.refl D) (.o ⟨fun n hn => absurd hn (by simp), _, .inl rfl, .inl ⟨rfl, rfl⟩⟩)) (.r (L := ⟨b, none, 0, 0, none⟩) ?_)
     rw [← M.len]; simp
   · exact boxC_S hc M hv hK
theorem allocC_S {S : TypeId} {z : Value} (M : SAt D ρ m chs C h) {K : Nat → zab → Prop}
 (hK : ∀ b ρ' chs' h', Nx ro hr D ρ m chs D ρ' (m ++ [.c (match ofV z with | .a l => ziq P S l | x => [zdb P S x])]) chs' → SAt D ρ' (m ++ [.c (match ofV z with | .a l => ziq P S l | x => [zdb P S x])]) chs' C h' → Rp D ρ' (.pointer (some ⟨b, 0, none⟩)) (.r m.length 0) → K b h') : zhx h (.cells z.cells S) K := by
 have : RpC D ρ z.cells.toList (match ofV z with | .a l => ziq P S l | x => [zdb P S x]) := by
  have key : ∀ (y : Value), (∀ cs, y ≠ .agg cs) → RpC D ρ y.cells.toList (match ofV y with | .a l => ziq P S l | x => [zdb P S x]) := by
   intro y hy
   have h1 := ofV1_S (D := D) (ρ := ρ) y
   have e1 : ofV y = ofV1 y := by cases y <;> first | rfl | exact absurd rfl (hy _)
   have e2 : y.cells.toList = [y] := by cases y <;> first | rfl | exact absurd rfl (hy _)
   rw [e1, e2]
   have h2 := zfk (P := P) (S := S) h1.1
   have h3 : ∀ l, ofV1 y ≠ .a l := by intro l; unfold ofV1; split <;> simp
   cases hx : ofV1 y <;> first
    | exact absurd hx (h3 _)
    | exact absurd hx (h1.2 _ _ _)
    | (rw [hx] at h2
       refine .cons h2 ?_ .nil
       intro k w l
       unfold zdb
       split <;> (try split) <;> simp)
  cases hz : z with
  | agg cs => exact zio (zgw cs.toList)
  | _ => rw [← hz]; exact key z (by rw [hz]; simp)
 rw [← Array.toArray_toList (xs := z.cells)]
 exact newB_S M this hK
theorem alloc_S {S : TypeId} {z : Value} (M : SAt D ρ m chs C h) {K : Nat → zab → Prop}
 (hK : ∀ b ρ' chs' h', Nx ro hr D ρ m chs D ρ' (m ++ [newA P S z]) chs' → SAt D ρ' (m ++ [newA P S z]) chs' C h' → Rp D ρ' (.pointer (some ⟨b, 0, none⟩)) (.r m.length 0) → K b h') : zhx h (.cells z.cells S) K := by
 unfold newA at hK
 split at hK
 · rename_i e hb hz
   have hz' : z.cells = #[.pointer none, .slice none 0 0] := Array.toList_inj.1 hz
   rw [hz']
   refine M.st.new fun b h1 S1 => hK b (ρ ++ [⟨b, none, 0, 0, none⟩]) (chs ++ [_]) h1 (.push M (.refl D)) (M.new S1 (.refl D) (.o ⟨fun n hn => absurd hn (by simp), _, .inl rfl, .inl ⟨rfl, rfl⟩⟩)) (.r (L := ⟨b, none, 0, 0, none⟩) ?_)
   rw [← M.len]; simp
 · exact allocC_S M hK
theorem zpx {sz : Nat} : ∀ {rows : List (List U)} {i j : Nat} {r : List U} {u : U}, (∀ r ∈ rows, r.length = sz) → rows[i]? = some r → r[j]? = some u → rows.flatten[i * sz + j]? = some u
 | [], i, j, r, u, hs, hi, hj => by simp at hi
 | r0 :: rows, i, j, r, u, hs, hi, hj => by
   rw [List.flatten_cons]
   cases i with
   | zero =>
     simp at hi; subst hi
     have := (List.getElem?_eq_some_iff.1 hj).1
     rw [Nat.zero_mul, Nat.zero_add, List.getElem?_append_left this]; exact hj
   | succ i =>
     have h0 : r0.length = sz := hs r0 (by simp)
     rw [List.getElem?_append_right (by rw [h0, Nat.succ_mul]; omega), h0, show (i + 1) * sz + j - sz = i * sz + j by rw [Nat.succ_mul]; omega]
     exact zpx (fun r hr => hs r (by simp [hr])) (by simpa using hi) hj
theorem zh2 {sz : Nat} : ∀ {rows : List (List U)}, (∀ r ∈ rows, r.length = sz) → rows.flatten.length = rows.length * sz
 | [], _ => by simp
 | r :: rows, hs => by rw [List.flatten_cons, List.length_append, zh2 (fun r hr => hs r (by simp [hr])), hs r (by simp), List.length_cons, Nat.succ_mul]; omega
theorem Own.ofL {E sz n b : Nat} {l : List Value} {rows : List (List U)} (hr : RdL D l rows.flatten) (hs : ∀ r ∈ rows, r.length = sz) (hn : rows.length = n) : Own D E sz (some ⟨b, 0, none⟩) n rows [(b, .cells l.toArray E (0, 0))] := by
 refine .row b n l.toArray rows (fun i j => l.getD (i * sz + j) undef) ?_ (by omega) hs (fun i j r u hi hj => ?_) (fun i j r u hi hj => ?_)
 · rw [List.size_toArray, hr.len, zh2 hs, hn]
 · obtain ⟨v, hv, -⟩ := hr.get (zpx hs hi hj)
   simp [hv]
 · obtain ⟨v, hv, h2⟩ := hr.get (zpx hs hi hj)
   simpa [hv] using h2
theorem RdL.app {a b : List Value} {x y : List U} (h1 : RdL D a x) (h2 : RdL D b y) : RdL D (a ++ b) (x ++ y) := by
 induction h1 with
 | nil => exact h2
 | cons a _ ih => exact .cons a ih
theorem flat_set {sz : Nat} : ∀ {rows : List (List U)} {i : Nat} {us : List U}, (∀ r ∈ rows, r.length = sz) → i < rows.length → us.length = sz → (rows.set i us).flatten = usp rows.flatten (i * sz) us
 | [], i, us, hs, hi, hu => by simp at hi
 | r :: rows, i, us, hs, hi, hu => by
   have h0 : r.length = sz := hs r (by simp)
   have hl := zh2 hs
   have h1 := Nat.mul_le_mul_right sz (show i + 1 ≤ (r :: rows).length from hi)
   rw [Nat.succ_mul] at h1
   rw [zi8 _ _ _ (by rw [hl, hu]; exact h1)]
   cases i with
   | zero => simp [hu, ← h0]
   | succ i =>
     rw [List.set_cons_succ, List.flatten_cons, flat_set (fun r hr => hs r (by simp [hr])) (by simpa using hi) hu]
     have hl2 := zh2 (rows := rows) (sz := sz) fun r hr => hs r (by simp [hr])
     have h2 := Nat.mul_le_mul_right sz (show i + 1 ≤ rows.length by simp at hi; omega)
     rw [Nat.succ_mul] at h2
     rw [zi8 _ _ _ (by rw [hl2, hu]; exact h2), List.flatten_cons]
     rw [show (i + 1) * sz = r.length + i * sz by rw [Nat.succ_mul, h0]; omega]
     rw [List.take_append, List.drop_append]
     simp [Nat.add_assoc, h0]
     have e1 : List.take (sz + i * sz) r = r := List.take_of_length_le (by omega)
     have e2 : List.drop (sz + (i * sz + us.length)) r = [] := List.drop_eq_nil_of_le (by omega)
     rw [e1, e2, List.nil_append]
theorem splice_rd {l vs : List Value} {x us : List U} (h1 : RdL D l x) (h2 : RdL D vs us) {o : Nat} (ho : o + us.length ≤ x.length) : RdL D (zar l o vs) (usp x o us) := by
 have hl := h1.len
 have hv := h2.len
 have e : zar l o vs = l.take o ++ vs ++ l.drop (o + vs.length) := by
  apply List.ext_getElem?
  intro j
  rw [za2 _ _ _ _ (by omega)]
  have hlo : (l.take o).length = o := by simp; omega
  split
  · rename_i hj; rw [List.append_assoc, List.getElem?_append_left (by omega), List.getElem?_take_of_lt hj]
  · split
    · rw [List.append_assoc, List.getElem?_append_right (by omega), hlo, List.getElem?_append_left (by omega)]
    · rw [List.getElem?_append_right (by simp; omega), List.getElem?_drop]
      congr 1
      simp [hlo]; omega
 rw [e, zi8 _ _ _ ho, hv]
 exact ((h1.split o).1.app h2).app (h1.split _).2
theorem rowsOf_S {e : TypeId} {sz : Nat} (hsz : zah P e = sz) : ∀ {ps : List (Nat × V)} {pv : List (Nat × Value)} {rows rows' : List (List U)} {m m' : Mem} {D : Fz} {chs : List zac} {l : List Value}, zny P (hr ++ ro) e rows m ps = some (rows', m') → SAt D ρ m chs C h →
 RdL D l rows.flatten → (∀ r ∈ rows, r.length = sz) → pv.map (·.1) = ps.map (·.1) → RpL D ρ (pv.map (·.2)) (ps.map (·.2)) →
 ∃ D' chs' l', Nx ro hr D ρ m chs D' ρ m' chs' ∧ SAt D' ρ m' chs' C h ∧ RdL D' l' rows'.flatten ∧ (∀ r ∈ rows', r.length = sz) ∧ rows'.length = rows.length ∧ zmi (fun j => some (j * sz, sz)) l pv = some l'
 | [], pv, rows, rows', m, m', D, chs, l, hs, M, hl, hrs, h1, h2 => by
   cases pv with
   | nil => cases hs; exact ⟨D, chs, l, .refl, M, hl, hrs, rfl, rfl⟩
   | cons _ _ => simp at h1
 | (i, x) :: ps, pv, rows, rows', m, m', D, chs, l, hs, M, hl, hrs, h1, h2 => by
   cases pv with
   | nil => simp at h1
   | cons p pv =>
     obtain ⟨i', v⟩ := p
     simp only [List.map_cons, List.cons.injEq] at h1
     obtain ⟨rfl, h1⟩ := h1
     cases h2 with
     | cons hv h2 =>
       have hv : Rp D ρ v x := hv
       simp only [zny] at hs
       split at hs
       · rename_i xs hxs
         split at hs
         · rename_i us m1 hu
           cases hb : (Nat.beq us.length (zah P e) && Nat.ble (i' + 1) rows.length) with
           | false => rw [hb] at hs; cases hs
           | true =>
             rw [hb] at hs
             simp only [cond_true] at hs
             simp only [Bool.and_eq_true] at hb
             have hul := Nat.eq_of_beq_eq_true hb.1
             rw [hsz] at hul
             have hi := Nat.le_of_ble_eq_true hb.2
             obtain ⟨D1, c1, n1, M1, r1⟩ := toUs_S hu M (zhe hxs hv)
             have hfl := zh2 hrs
             have hle : i' * sz + us.length ≤ rows.flatten.length := by
              have := Nat.mul_le_mul_right sz hi
              rw [Nat.succ_mul] at this
              omega
             have hl1 := splice_rd (hl.mono n1.le) r1 hle
             rw [← flat_set hrs hi hul] at hl1
             obtain ⟨D2, c2, l', n2, M2, r2, g1, g2, g3⟩ := rowsOf_S hsz hs M1 hl1 (fun r hr => by
              rcases List.mem_or_eq_of_mem_set hr with hr | rfl
              · exact hrs r hr
              · exact hul) h1 (n1.rpL h2)
             refine ⟨D2, c2, l', n1.trans n2, M2, r2, g1, by simpa using g2, ?_⟩
             have hvl := r1.len
             have hll := hl.len
             have e1 : Nat.beq v.cells.toList.length sz = true := by rw [hvl, hul]; exact Nat.beq_refl _
             simp only [zmi, e1, Nat.ble_eq_true_of_le (show i' * sz + v.cells.toList.length ≤ l.length by omega), Bool.and_self, cond_true]
             exact g3
         · cases hs
       · cases hs
theorem zrow_S {e : TypeId} {zr : List U} (hz : zrow P e = some zr) : ∃ i z, P.info? e = some i ∧ i.zero = some z ∧ RdL D z.cells.toList zr := by
 unfold zrow at hz
 cases hi : P.info? e with
 | none => rw [hi] at hz; simp at hz
 | some i =>
   rw [hi] at hz
   cases hzz : i.zero with
   | none => simp [hzz] at hz
   | some z =>
     simp only [Option.bind_some, hzz] at hz
     exact ⟨i, z, rfl, hzz, RpC.toU (ρ := []) hz (zmh (zgw _))⟩
theorem zj3 (z : Array Value) (n sz : Nat) (hz : z.size = sz) : (List.range (n * sz)).map (fun j => z[j % z.size]!) = (List.replicate n z.toList).flatten := by
 induction n with
 | zero => simp
 | succ n ih =>
   have hl : (List.replicate n z.toList).flatten.length = n * sz := by simp [hz]
   rw [Nat.succ_mul, List.range_add, List.map_append, ih, List.replicate_succ', List.flatten_append, List.flatten_singleton, List.map_map]
   congr 1
   apply List.ext_getElem (by simp [hz])
   intro j h1 h2
   have hj : j < z.size := by simpa using h2
   simp [hz]
   rw [Nat.mod_eq_of_lt (by omega)]
   simp [hj]
theorem rep_rd {z : List Value} {zr : List U} (hz : RdL D z zr) : ∀ n, RdL D (List.replicate n z).flatten (List.replicate n zr).flatten
 | 0 => .nil
 | n + 1 => by rw [List.replicate_succ, List.replicate_succ, List.flatten_cons, List.flatten_cons]; exact hz.app (rep_rd hz n)
theorem Own.takeN {E sz c n : Nat} {a : Option Addr} {rows : List (List U)} {ch : zac} (x : Own D E sz a c rows ch) : Own D E sz a c (rows.take n) ch := by
 cases x with
 | nil => rw [List.take_nil]; exact .nil
 | row b c arr rows v h1 h2 h3 h4 h5 =>
   have key : ∀ {i : Nat} {r : List U}, (rows.take n)[i]? = some r → rows[i]? = some r := fun hi => by
    rw [List.getElem?_take] at hi
    split at hi
    · exact hi
    · cases hi
   exact .row b c arr _ v h1 (by rw [List.length_take]; omega) (fun r hr => h3 r (List.mem_of_mem_take hr)) (fun i j r u hi hj => h4 i j r u (key hi) hj) fun i j r u hi hj => h5 i j r u (key hi) hj
theorem flat_getV {zs : List Value} {sz j : Nat} (hz : zs.length = sz) (hj : j < sz) : ∀ {n i : Nat}, i < n → (List.replicate n zs).flatten[i * sz + j]? = zs[j]?
 | 0, i, h => by omega
 | n + 1, 0, h => by rw [List.replicate_succ, List.flatten_cons, Nat.zero_mul, Nat.zero_add, List.getElem?_append_left (by omega)]
 | n + 1, i + 1, h => by
   rw [List.replicate_succ, List.flatten_cons, List.getElem?_append_right (by rw [Nat.succ_mul]; omega), show (i + 1) * sz + j - zs.length = i * sz + j by rw [Nat.succ_mul]; omega]
   exact flat_getV hz hj (by omega)
theorem flat_lenV {zs : List Value} {sz : Nat} (hz : zs.length = sz) (n : Nat) : (List.replicate n zs).flatten.length = n * sz := by
 induction n with
 | zero => simp
 | succ n ih => rw [List.replicate_succ, List.flatten_cons, List.length_append, ih, hz, Nat.succ_mul, Nat.add_comm]
theorem Own.fill {E sz c l n : Nat} {a : Option Addr} {rows : List (List U)} {zr : List U} {zs : List Value} {ch : zac} (x : Own D E sz a c rows ch) (S : St D (ch :: C) h) (hz : RdL D zs zr) (hzl : zs.length = sz) (hn : 0 < n) (hln : l + n ≤ rows.length) {K' : zab → Prop}
 (hK : ∀ ch' h', Own D E sz a c (rows.take l ++ (List.replicate n zr ++ rows.drop (l + n))) ch' → St D (ch' :: C) h' → K' h') : ∃ b, a = some ⟨b, 0, none⟩ ∧ zc2 b (l * sz) (List.replicate n zs).flatten 0 h K' := by
 cases x with
 | nil => simp at hln; omega
 | row b c arr rows v h1 h2 h3 h4 h5 =>
   refine ⟨b, rfl, ?_⟩
   obtain ⟨L⟩ := arr
   have hL : L.length = c * sz := by simpa using h1
   have hfl := flat_lenV hzl n
   have hle : (l + n) * sz ≤ L.length := by rw [hL]; exact Nat.mul_le_mul_right _ (by omega)
   rw [Nat.add_mul] at hle
   refine S.st0 (Nat.ble_eq_true_of_le (by rw [hfl]; omega)) (List.all_eq_true.2 fun u hu => ?_) fun h' S' => ?_
   · obtain ⟨r, hr, hu⟩ := List.mem_flatten.1 hu
     rw [List.eq_of_mem_replicate hr] at hu
     exact hz.single u hu
   · have hlen : (rows.take l ++ (List.replicate n zr ++ rows.drop (l + n))).length = rows.length := by simp; omega
     refine hK _ h' (.row b c _ _ (fun i j => if i < l then v i j else if i < l + n then zs.getD j undef else v i j) ?_ (by rw [hlen]; exact h2) ?_ ?_ ?_) S'
     · simp only [List.size_toArray, zas]; exact hL
     · intro r hr
       rcases List.mem_append.1 hr with hr | hr
       · exact h3 r (List.mem_of_mem_take hr)
       · rcases List.mem_append.1 hr with hr | hr
         · rw [List.eq_of_mem_replicate hr, ← hz.len, hzl]
         · exact h3 r (List.mem_of_mem_drop hr)
     · intro i j r u hi hj
       have hlen2 : (rows.take l).length = l := by rw [List.length_take]; omega
       simp only [List.getElem?_toArray]
       rw [za2 _ _ _ _ (by rw [hfl]; omega), hfl]
       by_cases hi1 : i < l
       · rw [List.getElem?_append_left (by omega), List.getElem?_take, if_pos hi1] at hi
         have hjs : j < sz := by rw [← h3 r (List.mem_of_getElem? hi)]; exact (List.getElem?_eq_some_iff.1 hj).1
         have : i * sz + j < l * sz := by have := Nat.mul_le_mul_right sz (show i + 1 ≤ l by omega); rw [Nat.succ_mul] at this; omega
         rw [if_pos (by omega), if_pos hi1]
         simpa using h4 i j r u hi hj
       · rw [List.getElem?_append_right (by omega), hlen2] at hi
         have hge : l * sz ≤ i * sz := Nat.mul_le_mul_right _ (by omega)
         rw [if_neg (by omega), if_neg hi1]
         by_cases hi2 : i < l + n
         · rw [List.getElem?_append_left (by simp; omega)] at hi
           have hr := List.mem_of_getElem? hi
           have := List.eq_of_mem_replicate hr
           subst this
           have hjs : j < sz := by rw [← hzl, hz.len]; exact (List.getElem?_eq_some_iff.1 hj).1
           have hlt : i * sz + j < l * sz + n * sz := by have := Nat.mul_le_mul_right sz (show i + 1 ≤ l + n by omega); rw [Nat.succ_mul, Nat.add_mul] at this; omega
           rw [if_pos (by omega), if_pos hi2]
           have e1 : i * sz + j - (l * sz + 0) = (i - l) * sz + j := by rw [Nat.sub_mul]; omega
           rw [e1]
           rw [flat_getV hzl hjs (by omega)]
           have : j < zs.length := by omega
           rw [List.getElem?_eq_getElem this, List.getD_eq_getElem?_getD, List.getElem?_eq_getElem this]; rfl
         · rw [List.getElem?_append_right (by simp; omega), List.getElem?_drop] at hi
           have e : l + n + (i - l - (List.replicate n zr).length) = i := by simp; omega
           rw [e] at hi
           have hge2 : l * sz + n * sz ≤ i * sz := by have := Nat.mul_le_mul_right sz (show l + n ≤ i by omega); rw [Nat.add_mul] at this; omega
           rw [if_neg (by omega), if_neg hi2]
           simpa using h4 i j r u hi hj
     · intro i j r u hi hj
       have hlen2 : (rows.take l).length = l := by rw [List.length_take]; omega
       by_cases hi1 : i < l
       · rw [List.getElem?_append_left (by omega), List.getElem?_take, if_pos hi1] at hi
         simp only [if_pos hi1]; exact h5 i j r u hi hj
       · rw [List.getElem?_append_right (by omega), hlen2] at hi
         simp only [if_neg hi1]
         by_cases hi2 : i < l + n
         · rw [List.getElem?_append_left (by simp; omega)] at hi
           have := List.eq_of_mem_replicate (List.mem_of_getElem? hi)
           subst this
           simp only [if_pos hi2]
           obtain ⟨w, hw, hr⟩ := hz.get hj
           rw [List.getD_eq_getElem?_getD, hw]; exact hr
         · rw [List.getElem?_append_right (by simp; omega), List.getElem?_drop] at hi
           have e : l + n + (i - l - (List.replicate n zr).length) = i := by simp; omega
           rw [e] at hi
           simp only [if_neg hi2]; exact h5 i j r u hi hj
theorem app_capS {S E sz : Nat} {a a2 : Option Addr} {m n cx : Nat} {r r2 : List (List U)} {CC : List zac} {K : Value → zab → Prop} (ty : ElTy P S E sz) (hn : n = r.length) (src1 : Src D h sz a r) (M : St D CC h) (src : Src D h sz a2 r2) (hm : m = r2.length) (hne : r2 ≠ []) (hb : r.length + r2.length ≤ 1000000)
 (hK : ∀ a' c' ch' h', Own D E sz a' c' (r ++ r2) ch' → St D (ch' :: CC) h' → K (.slice a' (r ++ r2).length c') h') : ze5 P #[S, S] S (.slice a n n) (.slice a2 m cx) h K := by
 obtain ⟨hu, i, z, hi, hsz, hby, hby2, hz, hzs⟩ := ty
 subst hm hn
 subst hsz
 obtain ⟨hs1, hsrc1⟩ := src1
 obtain ⟨hs2, hsrc2⟩ := src
 obtain ⟨b2, o2, w2, rfl, hw2⟩ := hsrc2.resolve_left hne
 have hpos : 0 < r2.length := List.length_pos_iff.2 hne
 have new : ∀ j v, (cellsOf r2.length i.size w2)[j]? = some v → hcell h ⟨b2, o2 + j, none⟩ = some v := fun j x hx => by
  obtain ⟨k, t, hk, ht, rfl, rfl⟩ := zdt hx
  have hr2 : r2[k].length = i.size := hs2 _ (by simp)
  have := (hw2 k t r2[k] r2[k][t] (by simp [hk]) (by simp [hr2, ht])).1
  rw [← this, Nat.add_assoc]
 have old : ∃ w1 : Nat → Nat → Value, (∀ i' j u r', r[i']? = some r' → r'[j]? = some u → Rd D (w1 i' j) u) ∧ ∀ {K' : Array Value → zab → Prop}, K' (cellsOf r.length i.size w1).toArray h → SWp P (Builtin.firstCells i.size r.length (.slice a r.length r.length)) h K' := by
  rcases hsrc1 with rfl | ⟨b1, o1, w1, rfl, hw1⟩
  · refine ⟨fun _ _ => undef, by simp, fun hK' => ?_⟩
    cases a with
    | none => exact hK'
    | some ad =>
      show SWp P (loadCells ad (0 * i.size)) h _
      rw [Nat.zero_mul]; exact hK'
  · refine ⟨w1, fun i' j u r' h1 h2 => (hw1 i' j r' u h1 h2).2, fun hK' => ?_⟩
    show SWp P (loadCells ⟨b1, o1, none⟩ (r.length * i.size)) h _
    rw [← zds r.length i.size w1]
    refine zcg (fun j x hx => ?_) (by simpa using hK')
    obtain ⟨k, t, hk, ht, rfl, rfl⟩ := zdt hx
    have hr1 : r[k].length = i.size := hs1 _ (by simp)
    have := (hw1 k t r[k] r[k][t] (by simp [hk]) (by simp [hr1, ht])).1
    rw [← this, Nat.zero_add, Nat.add_assoc]
 obtain ⟨w1, hr1, old⟩ := old
 unfold ze5
 have hfc : ∀ {K' : Array Value → zab → Prop}, K' (cellsOf r2.length i.size w2).toArray h → SWp P (Builtin.firstCells i.size r2.length (.slice (some ⟨b2, o2, none⟩) r2.length cx)) h K' := by
  intro K' hK'
  show SWp P (loadCells ⟨b2, o2, none⟩ (r2.length * i.size)) h K'
  rw [← zds r2.length i.size w2]
  exact zcg (fun j v hv => by simpa using new j v hv) (by simpa using hK')
 show SWp P (underlying S >>= _) h K
 refine zad (zal hu ?_)
 refine zad (zdi hi ?_)
 refine zad (zad (zal hu ?_))
 refine zad ?_
 show SWp P (Builtin.lenOf (.slice (some ⟨b2, o2, none⟩) r2.length cx) >>= _) h K
 refine zad ?_
 show SWp P (if r.length + r2.length ≤ r.length then _ else _) h K
 rw [if_neg (by omega)]
 refine zad (za4 hi ?_)
 rw [if_neg (by rintro ⟨-, h1 | h1⟩; exact absurd h1 (by simp); exact hby h1)]
 refine zad ?_
 refine zad (za4 hi ?_)
 have hcap2 : ¬ Builtin.nextslicecap (r.length + r2.length) r.length * i.bytes > 2 ^ 48 := by
  have h1 := zfm (n := r.length + r2.length) (c := r.length) (by omega)
  have h2 := Nat.mul_le_mul h1 hby2
  omega
 rw [if_neg hcap2]
 refine zad ?_
 refine ⟨fun hf => (by cases hf), fun _ t => ?_⟩
 have hge : r.length + r2.length ≤ (Question.appendCap (r.length + r2.length) r.length E).cut t := by simp [Question.cut]
 generalize (Question.appendCap (r.length + r2.length) r.length E).cut t = c' at hge ⊢
 refine zad (za4 hi ?_)
 refine zad (zg6 ?_)
 refine zad (old ?_)
 refine zad ?_
 show SWp P (Builtin.firstCells i.size r2.length (.slice (some ⟨b2, o2, none⟩) r2.length cx)) h _
 refine hfc ?_
 refine zad (zid hi hz ?_)
 show zhx h (.cells ((cellsOf r.length i.size w1).toArray ++ (cellsOf r2.length i.size w2).toArray ++ Builtin.zeroCells z.cells (c' - (r.length + r2.length))) E) (fun b h1 => K (.slice (some ⟨b, 0, none⟩) (r.length + r2.length) c') h1)
 refine M.new fun b h1 S1 => ?_
 rw [← List.length_append]
 refine hK _ _ _ _ (.row b c' _ (r ++ r2) (fun i' j => if i' < r.length then w1 i' j else w2 (i' - r.length) j) ?_ (by simpa using hge) (fun q hq => (List.mem_append.1 hq).elim (hs1 q) (hs2 q)) ?_ ?_) S1
 · simp only [Array.size_append, List.size_toArray, Builtin.zeroCells, Array.size_map, Array.size_range, zds, hzs]
   rw [← Nat.add_mul, ← Nat.add_mul, show r.length + r2.length + (c' - (r.length + r2.length)) = c' by omega]
 · intro k j q u hk hj
   have e1 := (List.getElem?_eq_some_iff.1 hk).1
   have e2 := (List.getElem?_eq_some_iff.1 hj).1
   rw [(List.mem_append.1 (List.mem_of_getElem? hk)).elim (hs1 q) (hs2 q)] at e2
   have := zmr (n := (r ++ r2).length) (sz := i.size) (fun i' j => if i' < r.length then w1 i' j else w2 (i' - r.length) j) e1 e2
   rw [List.length_append, ← zms] at this
   have hlt := (List.getElem?_eq_some_iff.1 this).1
   rw [Array.getElem?_append_left (by simpa using hlt)]
   simpa using this
 · intro k j q u hk hj
   by_cases hkl : k < r.length
   · rw [List.getElem?_append_left hkl] at hk
     simp only [if_pos hkl]; exact hr1 k j u q hk hj
   · rw [List.getElem?_append_right (by omega)] at hk
     simp only [if_neg hkl]; exact (hw2 _ j q u hk hj).2
theorem app_cap {S E sz : Nat} {a a2 : Option Addr} {m n cx : Nat} {r r2 : List (List U)} {CC : List zac} {K : Value → zab → Prop} (ty : ElTy P S E sz) (hx : Rd D (.slice a n n) (.l sz r)) (M : St D CC h) (src : Src D h sz a2 r2) (hm : m = r2.length) (hne : r2 ≠ []) (hb : r.length + r2.length ≤ 1000000)
 (hK : ∀ a' c' ch' h', Own D E sz a' c' (r ++ r2) ch' → St D (ch' :: CC) h' → K (.slice a' (r ++ r2).length c') h') : ze5 P #[S, S] S (.slice a n n) (.slice a2 m cx) h K :=
 app_capS ty hx.len.1 (hx.src M) M src hm hne hb hK
def RWp {α : Type} (P : Program) (s : Sem α) (h : zab) (K : α → zab → Prop) : Prop := ∀ w : World, w.heap = h → ∃ a w', s.run P w = .ok a w' ∧ K a w'.heap ∧ Same w w'
theorem SWp.r {α : Type} {s : Sem α} {K : α → zab → Prop} (hs : SWp P s h K) : RWp P s h K := fun w hw => SWp.sound hs w hw
theorem zgh {t : List Value} {o : Oper} {h : zab} {K : Value → zab → Prop} (hh : RWp P (execOp (ev t) o) h (zlw P K)) {a : Act} (ha : a.eval = ev t) {w : World} (hw : w.heap = h)
 {next : Act → World → Prop} {Q : Exit → Act → World → Prop} (hn : ∀ v w', K v w'.heap → Same w w' → next (a.put o.dst v) w') : o.wp P a w next Q := by
 obtain ⟨n, w', hr, hK, hS⟩ := hh w hw
 unfold Oper.wp
 rw [ha, hr]
 cases n <;> simp only [zlw] at hK
 case value v => exact hn _ _ hK hS
 case skip => exact hn _ _ hK hS
 case enter f args =>
  have h1 := hK.2 w' rfl
  simp only [Array.toArray_toList] at h1
  exact h1.mono fun e w'' ⟨v, he, hv, hS'⟩ => by subst he; exact hn _ _ hv (hS.trans hS')
theorem MRel.set {ag : Bool} {mv : MV} {rows : List (MK × List U)} (hr : MRel D ag mv rows) (k : MK) {v : Value} {us : List U} {vs : List Value} (h1 : RdL D vs us) (h2 : cond ag (v = .agg vs.toArray) (vs = [v])) : MRel D ag (mSet mv k v) (rSet rows k us) := by
 induction hr with
 | nil => exact .cons h1 h2 .nil
 | cons a b c ih =>
   rename_i k' v' us' vs' m rows
   simp only [mSet, rSet]
   by_cases hk : k' = k
   · simp only [hk, if_true]; exact .cons h1 h2 c
   · simp only [hk, if_false]; exact .cons a b ih
theorem MRel.del {ag : Bool} {mv : MV} {rows : List (MK × List U)} (hr : MRel D ag mv rows) (k : MK) : MRel D ag (mDel mv k) (rDel rows k) := by
 induction hr with
 | nil => exact .nil
 | cons a b c ih =>
   rename_i k' v' us' vs' m rows
   simp only [mDel, rDel]
   by_cases hk : k' = k
   · simp only [hk, if_true]; exact c
   · simp only [hk, if_false]; exact .cons a b ih
theorem rSet_len {sz : Nat} {k : MK} {us : List U} (hu : us.length = sz) : ∀ {rows : List (MK × List U)}, (∀ r ∈ rows, r.2.length = sz) → ∀ r ∈ rSet rows k us, r.2.length = sz
 | [], _, r, hr => by simp [rSet] at hr; subst hr; exact hu
 | q :: rows, h, r, hr => by
   simp only [rSet] at hr
   split at hr
   · rcases List.mem_cons.1 hr with rfl | hr
     · exact hu
     · exact h r (by simp [hr])
   · rcases List.mem_cons.1 hr with rfl | hr
     · exact h _ (by simp)
     · exact rSet_len hu (fun r' h' => h r' (by simp [h'])) r hr
theorem rDel_sub (k : MK) : ∀ (rows : List (MK × List U)), ∀ r ∈ rDel rows k, r ∈ rows
 | [], r, hr => hr
 | q :: rows, r, hr => by
   simp only [rDel] at hr
   split at hr
   · exact List.mem_cons_of_mem _ hr
   · rcases List.mem_cons.1 hr with rfl | hr
     · exact List.mem_cons_self
     · exact List.mem_cons_of_mem _ (rDel_sub k rows r hr)
theorem ag_S {E : TypeId} {v : Value} {x : V} (ha : zns P E x = true) (hv : Rp D ρ v x) (hc : ∃ xs, zom x = some xs) : cond (isAg P E) (v = .agg v.cells.toList.toArray) (v.cells.toList = [v]) := by
 unfold zns at ha
 unfold isAg
 split at ha
 · rename_i h1
   rw [h1]
   obtain ⟨vs, rfl, -⟩ := hv.a_inv
   simp [Value.cells]
 · cases ha
 · rename_i hl hx
   rw [hl]
   simp only [cond_false]
   obtain ⟨xs, hc⟩ := hc
   cases hv with
   | a h => exact absurd rfl (hx _)
   | z => cases hc
   | t h => cases hc
   | u h => cases h <;> rfl
   | _ => rfl
 · cases ha
theorem KB.setb {b : Nat} {o : Obj} : KB [b] h (h.setIfInBounds b o) := ⟨by simp, fun c _ hc => by
 rw [Array.getElem?_setIfInBounds_ne]; simp at hc; exact fun e => hc e.symm⟩
theorem SAt.mapPut (M : SAt D ρ m chs C h) {b : Nat} {L : Loc} {es es' : Array MapEntry} {clk clk' : Nat} {kt : KT} {sz : Nat} {ag : Bool} {rows : List (MK × List U)} {mv : MV} (hL : ρ[b]? = some L) (hc : chs[b]? = some [(L.b, .map es clk)])
 (I : MpI kt es' clk' mv) (R : MRel D ag mv rows) (hl : ∀ r ∈ rows, r.2.length = sz) : SAt D ρ (ms m b (.p kt sz ag rows)) (chs.set b [(L.b, .map es' clk')]) C (h.setIfInBounds L.b (.map es' clk')) := by
 have S := M.front hc
 have hb : h[L.b]? = some (.map es clk) := S.get (List.mem_singleton_self _)
 have S' : St D ([(L.b, .map es' clk')] :: (chs ++ C).eraseIdx b) (h.setIfInBounds L.b (.map es' clk')) := S.upd .setb (by simp [zaz hb]) (by simp) (by simp)
 exact M.put hL hc S' (.refl D) (.p I R hl)
theorem mapUpd_S {S : TypeId} {x k v : V} {vx vk vv : Value} {KS : Mem → Prop} (hs : zl6 P (hr ++ ro) S x k v m KS) (M : SAt D ρ m chs C h) (hx : Rp D ρ vx x) (hk : Rp D ρ vk k) (hv : Rp D ρ vv v) :
 RWp P (Instr.mapUpdate S vx vk vv) h fun _ h' => ∃ D' m' chs', Nx ro hr D ρ m chs D' ρ m' chs' ∧ SAt D' ρ m' chs' C h' ∧ KS m' := by
 unfold zl6 at hs
 split at hs
 · rename_i kt zs E zv k' b ht hk'
   obtain ⟨K, i, z, hT, hkt, hz, hi, hzz, rfl⟩ := mapT_spec ht
   obtain ⟨hc0, hs1⟩ := zaa hs
   clear hs
   simp only [Bool.and_eq_true, Bool.not_eq_true'] at hc0
   have hvk := mkOf_S hk' hk
   subst hvk
   split at hs1
   · rename_i xs hvc
     have hcx := zhe hvc hv
     have hnx := zfk (P := P) (S := E) hv
     split at hs1
     · rename_i us m1 hu
       obtain ⟨D1, chs1, n1, M1, r1⟩ := toUs_S hu M hcx
       split at hs1
       · rename_i kt' sz ag rows hm
         obtain ⟨hc, hs2⟩ := zaa hs1
         clear hs1
         simp only [Bool.and_eq_true, beq_iff_eq] at hc
         obtain ⟨⟨⟨⟨c1, c2⟩, c3⟩, c4⟩, c5⟩ := hc
         have := zgg c1
         subst this
         subst c3
         have hag := ag_S c5 hnx ⟨xs, hvc⟩
         obtain ⟨L, ch, g1, g2, g3⟩ := M1.get (b := b) (by rw [hm]; simp)
         rw [hm] at g3
         cases hx with
         | m hL =>
           rw [g1] at hL; cases hL
           cases g3 with
           | p I R hl =>
             rename_i es clk mv
             intro w hw
             have hb : w.heap[L.b]? = some (.map es clk) := by rw [hw]; exact M1.own g2 (List.mem_singleton_self _)
             obtain ⟨es', clk', hrun, I'⟩ := run_upd (P := P) hT hkt hb I hc0.1 vv
             have M2 := M1.mapPut g1 g2 I' (R.set k' r1 hag) (rSet_len (Nat.eq_of_beq_eq_true c4) hl)
             rw [← hw] at M2
             exact ⟨_, _, hrun, ⟨D1, _, _, n1.trans (.set (.refl D1) hc0.2), M2, hs2⟩, ⟨rfl, rfl, rfl, Nat.le_refl _⟩⟩
       · exact hs1.elim
     · exact hs1.elim
   · exact hs1.elim
 · exact hs.elim
theorem mapDel_S {S S' ty : TypeId} {x k : V} {vx vk : Value} {KS : Mem → Prop} (hs : zl7 P (hr ++ ro) S S' x k m KS) (M : SAt D ρ m chs C h) (hx : Rp D ρ vx x) (hk : Rp D ρ vk k) :
 RWp P (Builtin.delete_ #[S, S'] ty #[vx, vk]) h fun v h' => v = .tuple #[] ∧ ∃ m' chs', Nx ro hr D ρ m chs D ρ m' chs' ∧ SAt D ρ m' chs' C h' ∧ KS m' := by
 unfold zl7 at hs
 split at hs
 · rename_i K1 E kt k' b hT hkt hk'
   obtain ⟨hc0, hs1⟩ := zaa hs
   clear hs
   simp only [Bool.and_eq_true, Bool.not_eq_true'] at hc0
   have := Nat.eq_of_beq_eq_true hc0.1.1
   subst this
   have hvk := mkOf_S hk' hk
   subst hvk
   split at hs1
   · rename_i kt' sz ag rows hm
     obtain ⟨c1, hs2⟩ := zaa hs1
     clear hs1
     have := zgg c1
     subst this
     obtain ⟨L, ch, g1, g2, g3⟩ := M.get (b := b) (by rw [hm]; simp)
     rw [hm] at g3
     cases hx with
     | m hL =>
       rw [g1] at hL; cases hL
       cases g3 with
       | p I R hl =>
         rename_i es clk mv
         intro w hw
         have hb : w.heap[L.b]? = some (.map es clk) := by rw [hw]; exact M.own g2 (List.mem_singleton_self _)
         obtain ⟨es', hrun, I'⟩ := run_del (P := P) (ty := ty) hT hkt hb I hc0.1.2
         have M2 := M.mapPut g1 g2 I' (R.del k') fun r hr => hl r (rDel_sub _ _ r hr)
         rw [← hw] at M2
         exact ⟨_, _, hrun, ⟨rfl, _, _, .set (.refl D) hc0.2, M2, hs2⟩, ⟨rfl, rfl, rfl, Nat.le_refl _⟩⟩
   · exact hs1.elim
 · rename_i K1 E kt k' hT hkt hk'
   obtain ⟨hc0, hs1⟩ := zaa hs
   simp only [Bool.and_eq_true] at hc0
   have := Nat.eq_of_beq_eq_true hc0.1
   subst this
   have hvk := mkOf_S hk' hk
   subst hvk
   cases hx
   intro w hw
   refine ⟨.tuple #[], w, ?_, ⟨rfl, m, chs, .refl, hw ▸ M, hs1⟩, .refl w⟩
   simp [Builtin.delete_, run_underlying hT, zcl hkt hc0.2, Result.andThen]
 · exact hs.elim
theorem isSg_single {v : Value} {x : V} (hk : isSg x = true) (hv : Rp D ρ v x) : single v = true := by
 cases hv with
 | u hr => cases hr <;> rfl
 | a => cases hk
 | t => cases hk
 | z => cases hk
 | _ => rfl
theorem zfq : ∀ {xs : List V} {vs : List Value}, xs.all isSg = true → RpC D ρ vs xs → ∀ v ∈ vs, single v = true
 | [], _, _, hr => by cases hr; simp
 | x :: xs, _, hk, hr => by
   simp only [List.all_cons, Bool.and_eq_true] at hk
   cases hr with
   | cons a n b =>
     intro v hv
     rcases List.mem_cons.1 hv with rfl | hv
     · exact isSg_single hk.1 a
     · exact zfq hk.2 b v hv
   | n hl b =>
     intro v hv
     rcases List.mem_append.1 hv with hv | hv
     · obtain ⟨_, _, rfl⟩ := List.mem_map.1 hv; rfl
     · exact zfq hk.2 b v hv
theorem take_of_get {q l : List Value} (h : ∀ (j : Nat) (v : Value), q[j]? = some v → l[j]? = some v) : ∃ r, l = q ++ r := by
 refine ⟨l.drop q.length, ?_⟩
 apply List.ext_getElem?
 intro j
 by_cases hj : j < q.length
 · rw [List.getElem?_append_left hj, List.getElem?_eq_getElem hj]
   exact h j _ (List.getElem?_eq_getElem hj)
 · rw [List.getElem?_append_right (by omega), List.getElem?_drop, show q.length + (j - q.length) = j by omega]
theorem app_cw {S e n c k cx b2 o2 : Nat} {a : Option Addr} {cs new : List Value} {ch : zac} {CC : List zac} {K : Value → zab → Prop} (ty : ElTy P S e (zah P e)) (os : OwnS 0 e (zah P e) h a n c cs) (hids : ch.map (·.1) = ownB a) (St0 : St D (ch :: CC) h)
 (hk : k ≠ 0) (hnew : ∀ j v, new[j]? = some v → hcell h ⟨b2, o2 + j, none⟩ = some v) (hlen : new.length = k * zah P e) (hsg : ∀ v ∈ new, single v = true) (hbd : n + k ≤ 1000000)
 (hK : ∀ b' c' ps h', ((cs ++ new) ++ ps).length = c' * zah P e → (cs ++ new).length = (n + k) * zah P e → n + k ≤ c' → St D ([(b', .cells ((cs ++ new) ++ ps).toArray e (0, 0))] :: CC) h' → K (.slice (some ⟨b', 0, none⟩) (n + k) c') h') :
 ze5 P #[S, S] S (.slice a n c) (.slice (some ⟨b2, o2, none⟩) k cx) h K := by
 obtain ⟨hT, i, z, hi, hsz, hby, hby2, hz, hzs⟩ := ty
 rw [← hsz] at os hlen hzs
 have hb2 : (2 * (n + k) + 512) * i.bytes ≤ 281474976710656 := by
  have := Nat.mul_le_mul (show 2 * (n + k) + 512 ≤ 2000512 by omega) hby2
  omega
 refine zqm (P := P) (T := S) (E := e) (B := 0) (new := new) hT hi hz hzs hby os (Nat.zero_le _) hnew hlen hsg hb2 fun a' c' h' os' k' hmv => ?_
 rcases os' with ⟨-, h0, -⟩ | ⟨b', l, rfl, -, g2, g3, g4, g5, g6⟩
 · omega
 · obtain ⟨ps, hps⟩ := take_of_get (q := cs ++ new) (l := l.toList) fun j v hj => by simpa using g6 j v hj
   have hl : l = ((cs ++ new) ++ ps).toArray := by rw [← hps]
   subst hl
   refine hK b' c' ps h' (by rw [← hsz]; simpa using g3) (by rw [← hsz]; exact g5) g4 (St0.upd (by rw [hids]; exact k') (by simpa using g2) (by simp) fun p hp => ?_)
   rw [hids]
   simp only [List.mem_singleton] at hp
   subst hp
   exact hmv b' 0 rfl
theorem appCS_S {S e : TypeId} {x y : V} {vx vy : Value} {KS : V → Mem → Prop} (ty : ElTy P S e (zah P e)) (hs : appCS P (hr ++ ro) e x y m KS) (M : SAt D ρ m chs C h) (hx : Rp D ρ vx x) (hy : Rp D ρ vy y) : ze5 P #[S, S] S vx vy h (zcy ro hr D ρ m chs C KS) := by
 unfold appCS at hs
 split at hs
 · rename_i b2 o n
   split at hs
   · rename_i cells hm2
     split at hs
     · rename_i l hd
       split at hs
       · rename_i new hp
         obtain ⟨hc, hs1⟩ := zaa hs
         clear hs
         have hs := hs1
         clear hs1
         simp only [Bool.and_eq_true, Bool.not_eq_true'] at hc
         have hn : n ≠ 0 := fun h0 => by rw [h0] at hc; simp at hc
         obtain ⟨L2, a2, cap2, hL2, ha2, -, rfl⟩ := hy.sl_inv
         obtain ⟨L2', ch2, g1, g2, g3⟩ := M.get (b := b2) (by rw [hm2]; simp)
         rw [hL2] at g1; cases g1
         rw [hm2] at g3
         cases g3 with
         | c hcc =>
           rename_i arr S'
           obtain ⟨p, s, rfl, hpl, hr1⟩ := zdr hd hcc
           obtain ⟨p2, s2, rfl, hp2, hr2⟩ := zpa hp hr1
           have ha2 := ha2 (by omega)
           subst ha2
           have hcell : ∀ j v, p2[j]? = some v → hcell h ⟨L2.b, o + j, none⟩ = some v := fun j v hj => by
            rw [zao (M.own g2 (List.mem_singleton_self _))]
            simp only [List.getElem?_toArray]
            rw [List.getElem?_append_right (by omega), show o + j - p.length = j by omega]
            exact zam hj
           have hsg := zfq hc.1 hr2
           split at hs
           · cases hx
             obtain ⟨hb, hK⟩ := zaa hs
             have hb := Nat.le_of_ble_eq_true hb
             refine app_cw ty (.nil _ _ _ _) (ch := []) rfl M.st.nil hn hcell hp2 hsg hb fun b' c' ps h' q1 q2 q3 S1 => ?_
             simp only [List.nil_append, Nat.zero_add] at q1 q2 q3 S1 ⊢
             refine ⟨D, ρ ++ [⟨0, some ⟨b', 0, none⟩, n, c', none⟩], _, chs ++ [_], _, .push M (.refl D), M.new S1 (.refl D) (.cw rfl rfl (hr2.mono (.refl D) _) q2 q1 q3), .w (L := ⟨0, some ⟨b', 0, none⟩, n, c', none⟩) ?_, hK⟩
             rw [← M.len]; simp
           · rename_i b
             cases hb : inL (hr ++ ro) b with
             | true => rw [hb] at hs; exact hs.elim
             | false =>
               rw [hb] at hs
               simp only [cond_false] at hs
               split at hs
               · rename_i e' s' k old hm
                 obtain ⟨hc3, hK⟩ := zaa hs
                 simp only [Bool.and_eq_true] at hc3
                 have e1 := Nat.eq_of_beq_eq_true hc3.1.1
                 have e2 := Nat.eq_of_beq_eq_true hc3.1.2
                 have e3 := Nat.le_of_ble_eq_true hc3.2
                 subst e1 e2
                 obtain ⟨L, hL, rfl⟩ := hx.w_inv
                 obtain ⟨L', ch, h1, h2, h3⟩ := M.get (b := b) (by rw [hm]; simp)
                 rw [hL] at h1; cases h1
                 rw [hm] at h3
                 cases h3 with
                 | @cw _ _ _ bb vs ps _ hA hN hcc3 hlen h5 h6 =>
                   rw [hA, hN]
                   have os : OwnS 0 e (zah P e) h (some ⟨bb, 0, none⟩) k L.c vs := .inr ⟨bb, _, rfl, Nat.zero_le _, M.own h2 (List.mem_singleton_self _), by simpa using h5, h6, hlen, fun j v hj => by simp only [List.getElem?_toArray]; exact zam hj⟩
                   refine app_cw ty os rfl (M.front h2) hn hcell hp2 hsg e3 fun b' c' ps' h' q1 q2 q3 S1 => ?_
                   have hlt := (List.getElem?_eq_some_iff.1 h2).1
                   generalize hch : [(b', Obj.cells ((vs ++ p2) ++ ps').toArray e (0, 0))] = ch' at S1
                   have S2 : St D ([] :: ((chs ++ (ch' :: C)).eraseIdx b)) h' := by
                    rw [List.eraseIdx_append_of_lt_length hlt]
                    rw [List.eraseIdx_append_of_lt_length hlt] at S1
                    exact S1.mid.nil
                   have M1 := M.put hL h2 S2 (.refl D) .x
                   have he : Ent D (ρ ++ [⟨0, some ⟨b', 0, none⟩, k + n, c', none⟩]) ⟨0, some ⟨b', 0, none⟩, k + n, c', none⟩ (.cw e (zah P e) (k + n) (old ++ new)) ch' := by
                    rw [← hch]
                    exact .cw rfl rfl (RpC.mono (.refl D) _ (hcc3.app hr2)) q2 q1 q3
                   have M2 := M1.push he
                   refine ⟨D, _, _, _, _, (Nx.set (.refl D) hb).trans (.push M1 (.refl D)), M2, .w (L := ⟨0, some ⟨b', 0, none⟩, k + n, c', none⟩) ?_, hK⟩
                   rw [← M.len]; simp
               · exact hs.elim
           · exact hs.elim
       · exact hs.elim
     · exact hs.elim
   · exact hs.elim
 · exact hs.elim
theorem appS_S {S R : TypeId} {x y : V} {vx vy : Value} {KS : V → Mem → Prop} (hs : appS P (hr ++ ro) S x y m KS) (M : SAt D ρ m chs C h) (hx : Rp D ρ vx x) (hy : Rp D ρ vy y) : ze5 P #[S, S] S vx vy h (zcy ro hr D ρ m chs C KS) := by
 unfold appS at hs
 split at hs
 · rename_i e hu
   obtain ⟨hty, hs2⟩ := zaa hs
   clear hs
   have ty := ElTy.of hty
   obtain ⟨hT, i, z, hi, hsz, hby, hby2, hz, hzs⟩ := ty
   split at hs2
   · -- of nothing
     cases hy
     split at hs2
     · cases hx
       exact zf2 (E := e) hT hi (Nat.le_refl _) ⟨D, ρ, m, chs, _, .refl, M, .nl, hs2⟩
     · obtain ⟨a, c, rfl, hr⟩ := hx.l_inv
       exact zf2 (E := e) hT hi hr.len.2 ⟨D, ρ, m, chs, _, .refl, M, hx, hs2⟩
     · obtain ⟨a, rfl, hr⟩ := hx.c_inv
       exact zf2 (E := e) hT hi (Nat.le_refl _) ⟨D, ρ, m, chs, _, .refl, M, hx, hs2⟩
     · obtain ⟨L, a, cap, g1, g2, g3, g4, g5, g6, g7, rfl⟩ := hx.v_inv
       exact zf2 (E := e) hT hi g5 ⟨D, ρ, m, chs, _, .refl, M, hx, hs2⟩
     · exact hs2.elim
   · split at hs2
     · rename_i s new hsrc
       obtain ⟨hse, hs3⟩ := zaa hs2
       clear hs2
       have := Nat.eq_of_beq_eq_true hse
       subst this
       obtain ⟨a2, c2, rfl, src⟩ := srcS_S hsrc M hy
       have ty : ElTy P S e (zah P e) := ⟨hT, i, z, hi, hsz, hby, hby2, hz, hzs⟩
       split at hs3
       · cases hx
         obtain ⟨hb, hK⟩ := hs3
         refine app_w ty .nil M.st.nil src rfl rfl hb fun a' c' ch' h' own' S' => ?_
         refine ⟨D, ρ ++ [⟨0, a', new.length, c', none⟩], _, chs ++ [ch'], _, .push M (.refl D), M.new S' (.refl D) (.w own' rfl), .w (L := ⟨0, a', new.length, c', none⟩) ?_, hK⟩
         rw [← M.len]; simp
       · rename_i b
         cases hb : inL (hr ++ ro) b with
         | true => rw [hb] at hs3; exact hs3.elim
         | false =>
           rw [hb] at hs3
           simp only [cond_false] at hs3
           split at hs3
           · rename_i e' s' rows hm
             obtain ⟨hc, hok, hK⟩ := zaa hs3
             simp only [Bool.and_eq_true] at hc
             have e1 := Nat.eq_of_beq_eq_true hc.1
             have e2 := Nat.eq_of_beq_eq_true hc.2
             subst e1 e2
             obtain ⟨L, hL, rfl⟩ := hx.w_inv
             obtain ⟨L', ch, h1, h2, h3⟩ := M.get (b := b) (by rw [hm]; simp)
             rw [hL] at h1; cases h1
             rw [hm] at h3
             cases h3 with
             | w own hn =>
               refine app_w ty own (M.front h2) src hn rfl hok fun a' c' ch' h' own' S' => ?_
               have hlt := (List.getElem?_eq_some_iff.1 h2).1
               have S2 : St D ([] :: ((chs ++ (ch' :: C)).eraseIdx b)) h' := by
                rw [List.eraseIdx_append_of_lt_length hlt]
                rw [List.eraseIdx_append_of_lt_length hlt] at S'
                exact S'.mid.nil
               have M1 := M.put hL h2 S2 (.refl D) .x
               have M2 := M1.push (L := ⟨0, a', (rows ++ new).length, c', none⟩) (ab := .w e (zah P e) (rows ++ new)) (.w own' rfl)
               refine ⟨D, _, _, _, _, (Nx.set (.refl D) hb).trans (.push M1 (.refl D)), M2, .w (L := ⟨0, a', (rows ++ new).length, c', none⟩) ?_, hK⟩
               rw [← M.len]; simp
           · exact hs3.elim
       · rename_i s' rows
         obtain ⟨hc, hok, hK⟩ := zaa hs3
         have e2 := Nat.eq_of_beq_eq_true hc
         subst e2
         obtain ⟨a, rfl, hrd⟩ := hx.c_inv
         split at hK
         · rename_i r0 new'
           refine app_cap ty hrd M.st src rfl (by simp) hok fun a' c' ch' h' own' S' => ?_
           refine ⟨D, ρ ++ [⟨0, a', (rows ++ (r0 :: new')).length, c', none⟩], _, chs ++ [ch'], _, .push M (.refl D), M.new S' (.refl D) (.w own' rfl), .w (L := ⟨0, a', (rows ++ (r0 :: new')).length, c', none⟩) ?_, hK⟩
           rw [← M.len]; simp
         · exact zf2 (E := e) hT hi (Nat.le_refl _) ⟨D, ρ, m, chs, _, .refl, M, hx, hK⟩
       · rename_i b s' l n c
         obtain ⟨hc, hs3⟩ := zaa hs3
         have e2 := Nat.eq_of_beq_eq_true hc
         subst e2
         split at hs3
         · rename_i e' s2 rows hm
           obtain ⟨hc2, hs4⟩ := zaa hs3
           clear hs3
           simp only [Bool.and_eq_true] at hc2
           have e1 := Nat.eq_of_beq_eq_true hc2.1
           have e3 := Nat.eq_of_beq_eq_true hc2.2
           subst e1 e3
           obtain ⟨L, a, cap, g1, g2, g3, g4, g5, g6, g7, rfl⟩ := hx.v_inv
           split at hs4
           · exact zf2 (E := e) hT hi g5 ⟨D, ρ, m, chs, _, .refl, M, hx, hs4⟩
           · rename_i r0 new'
             obtain ⟨L', ch, h1, h2, h3⟩ := M.get (b := b) (by rw [hm]; simp)
             rw [g1] at h1; cases h1
             rw [hm] at h3
             cases h3 with
             | w own hn =>
               cases c with
               | true =>
                 simp only [cond_true] at hs4
                 obtain ⟨hok, hK⟩ := hs4
                 have hcap := (g6 rfl).symm
                 subst hcap
                 have sp := (own.src fun p hp => M.own h2 hp).part (by omega) g4
                 have hpl : n = ((rows.drop l).take n).length := by rw [List.length_take, List.length_drop, Nat.min_eq_left (by omega)]
                 refine app_capS ty hpl sp M.st src rfl (by simp) hok fun a' c' ch' h' own' S' => ?_
                 refine ⟨D, ρ ++ [⟨0, a', ((rows.drop l).take n ++ (r0 :: new')).length, c', none⟩], _, chs ++ [ch'], _, .push M (.refl D), M.new S' (.refl D) (.w own' rfl), .w (L := ⟨0, a', ((rows.drop l).take n ++ (r0 :: new')).length, c', none⟩) ?_, hK⟩
                 rw [← M.len]; simp
               | false =>
                 simp only [cond_false] at hs4
                 obtain ⟨hc4, hok, hK⟩ := zaa hs4
                 simp only [Bool.and_eq_true, Bool.not_eq_true'] at hc4
                 have hl0 := Nat.eq_of_beq_eq_true hc4.1
                 subst hl0
                 have ha := g3 rfl
                 have hcap := g7 rfl rfl
                 subst ha hcap
                 have hpl : n = (rows.take n).length := by rw [List.length_take, Nat.min_eq_left (by omega)]
                 refine app_w ty (own.takeN (n := n)) (M.front h2) src hpl rfl hok fun a' c' ch' h' own' S' => ?_
                 have hlt := (List.getElem?_eq_some_iff.1 h2).1
                 have S2 : St D ([] :: ((chs ++ (ch' :: C)).eraseIdx b)) h' := by
                  rw [List.eraseIdx_append_of_lt_length hlt]
                  rw [List.eraseIdx_append_of_lt_length hlt] at S'
                  exact S'.mid.nil
                 have M1 := M.put g1 h2 S2 (.refl D) .x
                 have M2 := M1.push (L := ⟨0, a', (rows.take n ++ (r0 :: new')).length, c', none⟩) (ab := .w e (zah P e) (rows.take n ++ (r0 :: new'))) (.w own' rfl)
                 refine ⟨D, _, _, _, _, (Nx.set (.refl D) hc4.2).trans (.push M1 (.refl D)), M2, .w (L := ⟨0, a', (rows.take n ++ (r0 :: new')).length, c', none⟩) ?_, hK⟩
                 rw [← M.len]; simp
         · exact hs3.elim
       · exact hs3.elim
     · exact appCS_S ⟨hT, i, z, hi, hsz, hby, hby2, hz, hzs⟩ hs2 M hx hy
 · exact hs.elim
theorem makeSlice_S {S e : TypeId} {zr : List U} {l : Int} (hu : P.underlying S = some (.slice e)) (hz : zrow P e = some zr) (hty : zp1 P S e (zah P e) = true) (hzl : zr.length = zah P e) (h0 : 0 ≤ l) (h1 : l ≤ 1000000) (M : SAt D ρ m chs C h) {K : Value → zab → Prop}
 (hK : ∀ b ρ' chs' h', Nx ro hr D ρ m chs D ρ' (m ++ [.w e (zah P e) (List.replicate l.toNat zr)]) chs' → SAt D ρ' (m ++ [.w e (zah P e) (List.replicate l.toNat zr)]) chs' C h' → Rp D ρ' (.slice (some ⟨b, 0, none⟩) l.toNat l.toNat) (.w m.length) → K (.slice (some ⟨b, 0, none⟩) l.toNat l.toNat) h') :
 SWp P (Instr.makeSlice S (.int .i64 l) (.int .i64 l)) h K := by
 obtain ⟨-, i, z, hi, hsz, hby, hby2, hiz, hzs⟩ := ElTy.of hty
 obtain ⟨i', z', hi', hiz', hzr⟩ := zrow_S (D := D) hz
 rw [hi] at hi'; cases hi'
 rw [hiz] at hiz'; cases hiz'
 have hw : IntKind.i64.wrap l = l := w64 (by omega) (by omega)
 unfold Instr.makeSlice
 refine zad (zal hu ?_)
 refine zad ?_
 change SWp P (asInt _ >>= _) h K
 refine zad ?_
 change SWp P (typeInfo e >>= _) h K
 refine zad (za4 hi ?_)
 simp only [hw]
 have hbl : ¬ ((i.bytes : Int) * l > 2 ^ 48) := by
  have h2 : (i.bytes : Int) * l ≤ 1000 * 1000000 := Int.mul_le_mul (by omega) h1 h0 (by omega)
  omega
 rw [if_neg (by simp; omega)]
 refine zad (zg6 ?_)
 refine zad (zdi hi ?_)
 have go : ∀ arr : Array Value, arr.toList = (List.replicate l.toNat z.cells.toList).flatten → SWp P (do let a ← newRow e arr; pure (.slice (some a) l.toNat l.toNat)) h K := by
  intro arr harr
  show zhx h (.cells arr e) (fun b h1 => K (.slice (some ⟨b, 0, none⟩) l.toNat l.toNat) h1)
  have hr1 : RdL D arr.toList (List.replicate l.toNat zr).flatten := by rw [harr]; exact rep_rd hzr _
  refine M.st.new fun b h1 S1 => ?_
  have own : Own D e (zah P e) (some ⟨b, 0, none⟩) l.toNat (List.replicate l.toNat zr) [(b, .cells arr e (0, 0))] := by
   have := Own.ofL (E := e) (b := b) (sz := zah P e) (n := l.toNat) hr1 (fun r hr => by rw [List.eq_of_mem_replicate hr]; exact hzl) (by simp)
   rwa [Array.toArray_toList] at this
  refine hK b (ρ ++ [⟨0, some ⟨b, 0, none⟩, l.toNat, l.toNat, none⟩]) (chs ++ [_]) h1 (.push M (.refl D)) (M.new S1 (.refl D) (.w own (by simp))) (.w (L := ⟨0, some ⟨b, 0, none⟩, l.toNat, l.toNat, none⟩) ?_)
  rw [← M.len]; simp
 by_cases hn : l.toNat * i.size = 0
 · rw [if_pos hn]
   refine zad ?_
   refine go _ ?_
   rcases Nat.mul_eq_zero.1 hn with h2 | h2
   · rw [h2]; simp
   · have : z.cells.toList = [] := List.eq_nil_of_length_eq_zero (by rw [Array.length_toList, hzs, ← hsz, h2])
     rw [this, hn]; simp
 · rw [if_neg hn]
   refine zad (zid hi hiz ?_)
   refine go _ ?_
   rw [← zj3 z.cells l.toNat i.size (by rw [hzs, hsz])]
   simp
theorem slCells_S {e : TypeId} {n : Nat} {ps : List (Nat × V)} {pv : List (Nat × Value)} {l : List V} (hl : zgs P e n ps = some l) (h1 : pv.map (·.1) = ps.map (·.1)) (h2 : RpL D ρ (pv.map (·.2)) (ps.map (·.2))) :
 ∃ i z l', P.info? e = some i ∧ i.zero = some z ∧ zmi (fun j => some (j * zah P e, zah P e)) ((List.range (n * i.size)).map fun j => z.cells[j % z.cells.size]!) pv = some l' ∧ RpC D ρ l' l := by
 unfold zgs zcells at hl
 cases hi : P.info? e with
 | none => rw [hi] at hl; simp at hl
 | some i =>
   rw [hi] at hl
   cases hz : i.zero with
   | none => simp [hz] at hl
   | some z =>
     simp only [Option.bind_some, hz] at hl
     cases hzb : Nat.beq z.cells.size (zah P e) with
     | false => rw [hzb] at hl; simp at hl
     | true =>
     rw [hzb] at hl
     simp only [cond_true] at hl
     have hzs : z.cells.size = i.size := by rw [Nat.eq_of_beq_eq_true hzb]; simp [zah, hi]
     have hrep : ∀ n : Nat, RpC D ρ (List.replicate n z.cells.toList).flatten (List.replicate n (fixN (zhy P 9 e) (z.cells.toList.map ofV1))).flatten := fun n => by
      induction n with
      | zero => exact .nil
      | succ n ih => rw [List.replicate_succ, List.replicate_succ, List.flatten_cons, List.flatten_cons]; exact (zmh (zgw _)).app ih
     obtain ⟨l', g1, g2⟩ := zpy (pv := pv) hl (hrep n) (by rw [h1, List.map_map]; rfl) (by
      rw [List.map_map]
      have : ∀ (xs : List V) {vs : List Value}, RpL D ρ vs xs → RpL D ρ vs (xs.map (zdb P e)) := fun xs => by
       induction xs with
       | nil => intro vs h; cases h; exact .nil
       | cons x xs ih => intro vs h; cases h with | cons a b => exact .cons (zfk a) (ih b)
      have := this _ h2
      rw [List.map_map] at this
      exact this)
     exact ⟨i, z, l', rfl, hz, by rw [zj3 z.cells n i.size hzs]; exact g1, g2⟩
theorem clear_S {S : TypeId} {x : V} {v : Value} {KS : Mem → Prop} {ty : TypeId} (hs : clearS P (hr ++ ro) S x m KS) (M : SAt D ρ m chs C h) (hx : Rp D ρ v x) {K : Value → zab → Prop}
 (hK : ∀ m' chs' h', Nx ro hr D ρ m chs D ρ m' chs' → SAt D ρ m' chs' C h' → KS m' → K (.tuple #[]) h') : SWp P (Builtin.clear_ #[S] ty #[v]) h K := by
 unfold clearS at hs
 split at hs
 · rename_i e hu
   split at hs
   · rename_i b sz l n c
     obtain ⟨hc, hs⟩ := zaa hs
     simp only [Bool.and_eq_true, Bool.not_eq_true'] at hc
     have hse := Nat.eq_of_beq_eq_true hc.1.2
     have hn0 : 0 < n := by
      cases n with
      | zero => simp at hc
      | succ n => omega
     split at hs
     · rename_i E s rows zr hm hz
       obtain ⟨hc2, hk⟩ := zaa hs
       simp only [Bool.and_eq_true] at hc2
       have e1 := Nat.eq_of_beq_eq_true hc2.1
       have e2 := Nat.eq_of_beq_eq_true hc2.2
       subst e1
       obtain ⟨L, a, cap, g1, g2, g3, g4, g5, g6, g7, rfl⟩ := hx.v_inv
       obtain ⟨L', ch, h1, h2, h3⟩ := M.get (b := b) (by rw [hm]; simp)
       rw [g1] at h1; cases h1
       rw [hm] at h3
       obtain ⟨i, z, hi, hiz, hzr⟩ := zrow_S (D := D) hz
       obtain ⟨p, q, hA, ha⟩ := g4 hn0
       cases h3 with
       | w own hn =>
         have hzl : z.cells.toList.length = s := by rw [hzr.len, e2]
         have hle : l + n ≤ rows.length := by omega
         have hlen : L.n = (rows.take l ++ (List.replicate n zr ++ rows.drop (l + n))).length := by rw [hn]; simp; omega
         obtain ⟨b', hb', hst⟩ := own.fill (M.front h2) hzr hzl hn0 hle (K' := fun h' => K (.tuple #[]) h') fun ch' h' own' S' => by
          have M2 := M.put (ab := .w E s (rows.take l ++ (List.replicate n zr ++ rows.drop (l + n)))) g1 h2 S' (.refl D) (.w own' hlen)
          exact hK _ _ _ (Nx.set (.refl D) hc.1.1) M2 hk
         rw [hA] at hb'; cases hb'
         subst ha
         show SWp P (underlying S >>= _) h K
         refine zad (zal hu ?_)
         obtain ⟨n, rfl⟩ : ∃ k, n = k + 1 := ⟨n - 1, by omega⟩
         refine zad (zid hi hiz ?_)
         have hzc : (Builtin.zeroCells z.cells (n + 1)).toList = (List.replicate (n + 1) z.cells.toList).flatten := by
          rw [← zj3 z.cells (n + 1) z.cells.size rfl]
          simp [Builtin.zeroCells]
         rw [hzc]
         rw [Nat.zero_add]
         exact zad (zbo hst)
     · exact hs.elim
   · exact hs.elim
 · exact hs.elim
theorem callv_S {X : Fz → List Loc → Prop} {call : zb8} (hcall : zgr P X ro hr call) (hx : X D ρ) {f : V} {fv : Value} {g : FuncId} {a c : List V} {as' : Array Value} {args : List V} {KS : V → Mem → Prop} {ty : TypeId} (hf : Rp D ρ fv (.f g a c)) (hs : call g (a ++ args ++ c) m KS) (M : SAt D ρ m chs C h) (ha : RpL D ρ as'.toList args) :
 ∃ first cap, fv = .func (.func g) first cap ∧ Run P g (first ++ as' ++ cap).toList h (zcy ro hr D ρ m chs C KS) := by
 obtain ⟨xs, ys, rfl, h1, h2⟩ := hf.f_inv
 refine ⟨_, _, rfl, ?_⟩
 have : (xs.toArray ++ as' ++ ys.toArray).toList = xs ++ as'.toList ++ ys := by simp
 rw [this]
 exact hcall hx hs M ((h1.app ha).app h2)
theorem eff_S {vw : Bool} {X : Fz → List Loc → Prop} {call : zb8} (hcall : zgr P X ro hr call) (hx : X D ρ) {o : Oper} {KS : V → Mem → Prop} (hs : effS P vw (hr ++ ro) call t m o KS) (M : SAt D ρ m chs C h) (F : RpL D ρ T t) : RWp P (execOp (ev T) o) h (zlw P (zcy ro hr D ρ m chs C KS)) := by
 obtain ⟨dst, op, ty, pos, after, guard⟩ := o
 cases op <;> simp only [effS] at hs
 case store S a x =>
  refine SWp.r ?_
  obtain ⟨ad, hv, hk⟩ := sStore_S (K := fun h' => zcy ro hr D ρ m chs C KS undef h') hs M (zc4 F a) (zc4 F x) fun D' m' chs' h' n M' hk => ⟨D', ρ, m', chs', .z, n, M', .z, hk⟩
  exact zcf (H := ⟨[], [], []⟩) (by simp only [effK, hv]; exact hk)
 case box S x =>
  refine SWp.r ?_
  split at hs
  · rename_i xs hx
    exact zcf (H := ⟨[], [], []⟩) (by
     simp only [effK]
     exact box_S hx M (zc4 F x) fun b ρ' chs' h' n M' hv => ⟨D, ρ', _, chs', _, n, M', hv, hs⟩)
  · exact hs.elim
 case alloc S =>
  refine SWp.r ?_
  split at hs
  · rename_i z hz
    exact zcf (H := ⟨[], [], []⟩) (by
     simp only [effK, hz]
     exact alloc_S M fun b ρ' chs' h' n M' hv => ⟨D, ρ', _, chs', _, n, M', hv, hs⟩)
  · exact hs.elim
 case buildSlice S n ps =>
  refine SWp.r ?_
  have hpm : (ps.toList.map fun p => (p.1, ev T p.2)).map (·.1) = (ps.toList.map fun p => (p.1, evS t p.2)).map (·.1) := by simp [List.map_map, Function.comp_def]
  have hps : RpL D ρ ((ps.toList.map fun p => (p.1, ev T p.2)).map (·.2)) ((ps.toList.map fun p => (p.1, evS t p.2)).map (·.2)) := by
   have h := evL_S F (ps.toList.map (·.2)); rw [List.map_map, List.map_map] at h; rw [List.map_map, List.map_map]; exact h
  split at hs
  · rename_i e hu
    have cellsOk : ∀ {l : List V}, zgs P e n (ps.toList.map fun p => (p.1, evS t p.2)) = some l → (Nat.ble (n * zah P e) 16777216 && !Nat.beq (n * zah P e) 0) = true → KS (.sl m.length 0 n) (m ++ [.c l]) →
     SWp P (execOp (ev T) ⟨dst, .buildSlice S n ps, ty, pos, after, guard⟩) h (zlw P (zcy ro hr D ρ m chs C KS)) := fun {l} hl hcc hk => by
     obtain ⟨i, z, l', hi, hiz, hf, hr⟩ := slCells_S (ρ := ρ) hl hpm hps
     have hsz : zah P e = i.size := by simp [zah, hi]
     rw [hsz] at hcc hf
     refine zcf (H := ⟨[], [], []⟩) ?_
     simp only [effK, hu, hi, hiz, hcc, cond_true, hf]
     refine M.st.new fun b h1 S1 => ?_
     refine ⟨D, ρ ++ [⟨b, none, 0, 0, none⟩], _, chs ++ [_], _, .push M (.refl D), M.new (L := ⟨b, none, 0, 0, none⟩) S1 (.refl D) (.c (RpC.mono (.refl D) _ hr)), .sl (L := ⟨b, none, 0, 0, none⟩) ?_ (fun _ => rfl) (Nat.le_refl _), hk⟩
     rw [← M.len]; simp
    split at hs
    · rename_i zr hz
      cases hc : (Nat.ble (n * zah P e) 16777216 && !Nat.beq (n * zah P e) 0 && Nat.beq zr.length (zah P e)) with
      | true =>
        rw [hc] at hs
        simp only [cond_true] at hs
        simp only [Bool.and_eq_true] at hc
        split at hs
        · rename_i rows m1 hr1
          have hr1 : zny P (hr ++ ro) e (List.replicate n zr) m (ps.toList.map fun p => (p.1, evS t p.2)) = some (rows, m1) := by
           cases hkt : (vw && keepT P e) with
           | true => rw [hkt] at hr1; cases hr1
           | false => rw [hkt] at hr1; exact hr1
          obtain ⟨i, z, hi, hiz, hzr⟩ := zrow_S (D := D) hz
          have hsz : zah P e = i.size := by simp [zah, hi]
          have hzl : z.cells.size = i.size := by
           have := hzr.len
           rw [Nat.eq_of_beq_eq_true hc.2, hsz] at this
           simpa using this
          have hzr2 : zr.length = i.size := by rw [Nat.eq_of_beq_eq_true hc.2, hsz]
          obtain ⟨D1, c1, l', n1, M1, g0, g1, g2, g3⟩ := rowsOf_S (sz := i.size) hsz hr1 M (rep_rd hzr n) (fun r hr => by rw [List.eq_of_mem_replicate hr]; exact hzr2) hpm hps
          rw [← zj3 z.cells n i.size hzl] at g3
          refine zcf (H := ⟨[], [], []⟩) ?_
          have hcc : (Nat.ble (n * i.size) 16777216 && !Nat.beq (n * i.size) 0) = true := by rw [← hsz]; simpa using hc.1
          simp only [effK, hu, hi, hiz, hcc, cond_true, g3]
          have hn : rows.length = n := by simpa using g2
          refine M1.st.new fun b h1 S1 => ?_
          have own : Own D1 e i.size (some ⟨b, 0, none⟩) n rows [(b, .cells l'.toArray e (0, 0))] := Own.ofL g0 g1 hn
          refine ⟨D1, ρ ++ [⟨0, some ⟨b, 0, none⟩, n, n, none⟩], _, c1 ++ [_], _, n1.trans (.push M1 (.refl _)), M1.new S1 (.refl _) (.w (L := ⟨0, some ⟨b, 0, none⟩, n, n, none⟩) (by rw [hsz]; exact own) hn.symm), .w (L := ⟨0, some ⟨b, 0, none⟩, n, n, none⟩) ?_, hs⟩
          rw [← M1.len]; simp
        · split at hs
          · rename_i l hl
            exact cellsOk hl (by simpa using hc.1) hs
          · exact hs.elim
      | false =>
        rw [hc] at hs
        simp only [cond_false] at hs
        obtain ⟨hc2, hk⟩ := zaa hs
        simp only [Bool.and_eq_true] at hc2
        have hn0 := Nat.eq_of_beq_eq_true hc2.1
        have hp0 := Nat.eq_of_beq_eq_true hc2.2
        have hp : ps = #[] := Array.eq_empty_of_size_eq_zero hp0
        subst hn0 hp
        obtain ⟨i, z, hi, hiz, hzr⟩ := zrow_S (D := D) hz
        simp only [execOp, Instr.buildSlice]
        refine SWp.bind (zad (zal hu ?_))
        refine zad (zdi hi ?_)
        rw [if_neg (by simp)]
        rw [if_pos (by simp)]
        refine zad ?_
        have hf : ∀ (f : Nat → Option (Nat × Nat)) (c : Array Value), Instr.fill f c (Array.map (fun (x : Nat × Operand) => (x.fst, ev T x.snd)) #[]).toList = some c := fun f c => by simp [Instr.fill]
        show SWp P (match Instr.fill (fun i_1 => some (i_1 * i.size, i.size)) (Array.map (fun x => (#[] : Array Value)[x % (#[] : Array Value).size]!) (Array.range (0 * i.size))) (Array.map (fun (x : Nat × Operand) => (x.fst, ev T x.snd)) #[]).toList with
         | some cells => (do let a ← newRow e cells; pure (Value.slice (some a) 0 0)) | _ => stuck "buildSlice: a part of the wrong size") h _
        rw [hf]
        refine zad ?_
        show zhx h (.cells _ e) (fun b h1 => zlw P (zcy ro hr D ρ m chs C KS) (.value (.slice (some ⟨b, 0, none⟩) 0 0)) h1)
        refine M.st.new fun b h1 S1 => ?_
        exact ⟨D, ρ, m, chs, _, .refl, M.mono (.refl D) S1.drop, .c (.nil _ _ _), hk⟩
    · split at hs
      · rename_i l hl
        obtain ⟨hcc, hk⟩ := zaa hs
        exact cellsOk hl hcc hk
      · exact hs.elim
  · exact hs.elim
 case makeSlice S l c =>
  refine SWp.r ?_
  split at hs
  · rename_i e l' c' hu hl hc
    split at hs
    · rename_i zr hz
      obtain ⟨hcc, h0, h1, h2, hK⟩ := zaa hs
      simp only [Bool.and_eq_true] at hcc
      subst h2
      have e1 := zc4 F l
      have e2 := zc4 F c
      rw [hl] at e1
      rw [hc] at e2
      simp only [execOp, znd e1, znd e2]
      exact SWp.bind (makeSlice_S hu hz hcc.1 (Nat.eq_of_beq_eq_true hcc.2) h0 h1 M fun b ρ' chs' h' n M' hv => ⟨D, ρ', _, chs', _, n, M', hv, hK⟩)
    · exact hs.elim
  · exact hs.elim
 case call c =>
  obtain ⟨callee, args, argTypes⟩ := c
  have hargs : args.map (ev T) = (args.toList.map (ev T)).toArray := by apply Array.ext'; rw [Array.toList_map]
  simp only at hs
  split at hs
  · rename_i f
    split at hs
    · rename_i g a cc he
      have hf := zc4 F f
      rw [he] at hf
      refine SWp.r ?_
      obtain ⟨first, cap, hv, hrun⟩ := callv_S (f := .z) (ty := 0) (as' := args.map (ev T)) hcall hx hf hs M (by rw [Array.toList_map]; exact evL_S F _)
      simp only [execOp, resolve, hv, Deferred.ofValue]
      exact zqb hrun.1 hrun
    · exact hs.elim
  · split at hs
    · rename_i x y S S' hax hat
      refine SWp.r ?_
      obtain ⟨hc, hs2⟩ := zaa hs
      have := Nat.eq_of_beq_eq_true hc
      subst this
      have hat : argTypes = #[S, S] := by rw [← Array.toArray_toList (xs := argTypes), hat]
      have hm : args.map (ev T) = #[ev T x, ev T y] := by rw [hargs, hax]; rfl
      subst hat
      have := appS_S (R := ty) hs2 M (zc4 F x) (zc4 F y)
      simp only [execOp, resolve, hm]
      exact SWp.bind (SWp.bind this)
    · exact hs.elim
  · split at hs
    · rename_i x y S S' hax hat
      have hat : argTypes = #[S, S'] := by rw [← Array.toArray_toList (xs := argTypes), hat]
      have hm : args.map (ev T) = #[ev T x, ev T y] := by rw [hargs, hax]; rfl
      subst hat
      intro w hw
      obtain ⟨v, w', hrun, ⟨rfl, m', chs', n, M', hk⟩, hS⟩ := mapDel_S (ty := ty) hs M (zc4 F x) (zc4 F y) w hw
      refine ⟨.value (.tuple #[]), w', ?_, ⟨D, ρ, m', chs', .t [], n, M', .t (vs := []) .nil, hk⟩, hS⟩
      simp [execOp, resolve, invoke, Go.builtin, hm, hrun, Result.andThen]
    · exact hs.elim
  · split at hs
    · rename_i x S hax hat
      refine SWp.r ?_
      have hat : argTypes = #[S] := by rw [← Array.toArray_toList (xs := argTypes), hat]
      have hm : args.map (ev T) = #[ev T x] := by rw [hargs, hax]; rfl
      subst hat
      have := clear_S (ty := ty) hs M (zc4 F x) (K := fun v h' => zlw P (zcy ro hr D ρ m chs C KS) (.value v) h') fun m' chs' h' n M' hk => ⟨D, ρ, m', chs', .t [], n, M', .t (vs := []) .nil, hk⟩
      simp only [execOp, resolve, hm]
      exact SWp.bind (SWp.bind this)
    · exact hs.elim
  · exact hs.elim
 case makeMap S r =>
  cases r with
  | some r => exact hs.elim
  | none =>
    simp only at hs
    split at hs
    · rename_i kt zs E zv ht
      refine SWp.r (zcf (H := ⟨[], [], []⟩) ?_)
      simp only [effK]
      refine M.st.new fun b h1 S1 => ?_
      refine ⟨D, ρ ++ [⟨b, none, 0, 0, none⟩], _, chs ++ [_], _, .push M (.refl D), M.new S1 (.refl D) (.p (L := ⟨b, none, 0, 0, none⟩) (.nil kt) .nil (by simp)), .m (L := ⟨b, none, 0, 0, none⟩) ?_, hs⟩
      rw [← M.len]; simp
    · exact hs.elim
 case mapUpdate S x k v =>
  intro w hw
  obtain ⟨u, w', hrun, ⟨D', m', chs', n, M', hk⟩, hS⟩ := mapUpd_S hs M (zc4 F x) (zc4 F k) (zc4 F v) w hw
  refine ⟨.skip, w', ?_, ⟨D', ρ, m', chs', .z, n, M', .z, hk⟩, hS⟩
  simp [execOp, hrun, Result.andThen]
 all_goals exact hs.elim
end
end Go.Proofs.YtobdpeelaadkbaaGreat
