/- The symbolic engine, part d: operations that leave the memory alone are told rightly. -/
import Derived.Test.YtacglpinmpncaaaGreatHq1
set_option linter.unusedVariables false
namespace Go.Proofs.YtacglpinmpncaaaGreat
variable {bs : List Nat} {xs : List V} {vs : List Value} {b i : Nat} {α : Type} {S : TypeId} {x : V} {KS : V → Prop} {v va : Value} {z : Value × Nat} {w : World}
open _root_.Bool renaming and_eq_true → zyy, false_eq_true → z0x, or_eq_true → z1p
open _root_.Int renaming natCast_nonneg → z1h
open _root_.List renaming append_assoc → zy8, cons_append → zz6, getElem?_append_left → zy7, getElem?_append_right → zzn, getElem?_eq_getElem → zy0, getElem?_eq_some_iff → zyz, getElem?_map → zy5, getElem?_toArray → z0a, length_cons → zzg, length_map → zy2, length_nil → z0z, map → zzf, mem_append → zy6, mem_cons → zy3, mem_of_getElem? → zy4, mem_singleton_self → zzx, nil_append → zz7, range → zzh, replicate → zzi
open _root_.Nat renaming add_assoc → z0t, beq → zyw, ble → zzc, eq_of_beq_eq_true → zy1, le_of_ble_eq_true → zz0, zero_add → zze
open _root_.Option renaming map_eq_some_iff → z0e
open _root_.Go.Result renaming andThen_ok → zza
structure Loc where
 b : Nat
 a : Option Addr
 n : Nat
 c : Nat
 o : Option Obj
mutual
inductive Rp (D : Fz) (ρ : List Loc) : Value → V → Prop
 | u {v : Value} {x : U} : Rd D v x → Rp D ρ v (.u x)
 | r {b o : Nat} {L : Loc} : ρ[b]? = some L → Rp D ρ (.pointer (some ⟨L.b, o, none⟩)) (.r b o)
 | e {b sz o p q : Nat} {k : Int} {L : Loc} : ρ[b]? = some L → L.a = some ⟨p, q, none⟩ → 0 ≤ k → k < L.n → Rp D ρ (.pointer (some ⟨p, q + k.toNat * sz + o, none⟩)) (.e b sz k o)
 | g {b o w : Nat} {k : Int} {L : Loc} : ρ[b]? = some L → 0 ≤ k → k < w → Rp D ρ (.pointer (some ⟨L.b, o + k.toNat, none⟩)) (.g b o w k)
 | q {c : List U} {p o o' : Nat} : Rd D (.pointer (some ⟨p, o, none⟩)) (.p (some c)) → o' = o → ∀ n, Rp D ρ (.pointer (some ⟨p, o' + n, none⟩)) (.q c n)
 | w {b : Nat} {L : Loc} : ρ[b]? = some L → Rp D ρ (.slice L.a L.n L.c) (.w b)
 | c {a : Option Addr} {n sz : Nat} {rows : List (List U)} : Rd D (.slice a n n) (.l sz rows) → Rp D ρ (.slice a n n) (.c sz rows)
 | m {b : Nat} {L : Loc} : ρ[b]? = some L → Rp D ρ (.map (some L.b)) (.m b)
 | nm : Rp D ρ (.map none) .nm
 | nl {s : Nat} : Rp D ρ (.slice none 0 0) (.nl s)
 | f {g : FuncId} {xs ys : List Value} {a c : List V} : RpL D ρ xs a → RpL D ρ ys c → Rp D ρ (.func (.func g) xs.toArray ys.toArray) (.f g a c)
 | a {vs : List Value} {l : List V} : RpC D ρ vs l → Rp D ρ (.agg vs.toArray) (.a l)
 | t {vs : List Value} {l : List V} : RpL D ρ vs l → Rp D ρ (.tuple vs.toArray) (.t l)
 | z {v : Value} : Rp D ρ v .z
 | y {b : Nat} {L : Loc} : ρ[b]? = some L → Rp D ρ (.func (.yield L.b) #[] #[]) (.y b)
 | v {b sz l n cap : Nat} {c : Bool} {a : Option Addr} {L : Loc} : ρ[b]? = some L → l + n ≤ L.n → (l = 0 → a = L.a) → (0 < n → ∃ p q, L.a = some ⟨p, q, none⟩ ∧ a = some ⟨p, q + l * sz, none⟩) → n ≤ cap → (c = true → cap = n) → (c = false → l = 0 → cap = L.c) →
     Rp D ρ (.slice a n cap) (.v b sz l n c)
 | sl {b o n cap : Nat} {a : Option Addr} {L : Loc} : ρ[b]? = some L → (0 < n → a = some ⟨L.b, o, none⟩) → n ≤ cap → Rp D ρ (.slice a n cap) (.sl b o n)
inductive RpL (D : Fz) (ρ : List Loc) : List Value → List V → Prop
 | nil : RpL D ρ [] []
 | cons {v : Value} {x : V} {vs : List Value} {xs : List V} : Rp D ρ v x → RpL D ρ vs xs → RpL D ρ (v :: vs) (x :: xs)
inductive RpC (D : Fz) (ρ : List Loc) : List Value → List V → Prop
 | nil : RpC D ρ [] []
 | cons {v : Value} {x : V} {vs : List Value} {xs : List V} : Rp D ρ v x → (∀ k w l, x ≠ .n k w l) → RpC D ρ vs xs → RpC D ρ (v :: vs) (x :: xs)
 | n {k : IntKind} {w : Nat} {l : List Int} {vs : List Value} {xs : List V} : l.length = w → RpC D ρ vs xs → RpC D ρ (l.map (.int k) ++ vs) (.n k w l :: xs)
end
inductive MRel (D : Fz) (ag : Bool) : MV → List (MK × List U) → Prop
 | nil : MRel D ag [] []
 | cons {k : MK} {v : Value} {us : List U} {vs : List Value} {m : MV} {rows : List (MK × List U)} : RdL D vs us → cond ag (v = .agg vs.toArray) (vs = [v]) → MRel D ag m rows → MRel D ag ((k, v) :: m) ((k, us) :: rows)
inductive Ent (D : Fz) (ρ : List Loc) (L : Loc) : AB → zac → Prop
 | c {arr : List Value} {T : TypeId} {l : List V} : RpC D ρ arr l → Ent D ρ L (.c l) [(L.b, .cells arr.toArray T (0, 0))]
 | w {E sz : Nat} {rows : List (List U)} {ch : zac} : Own D E sz L.a L.c rows ch → L.n = rows.length → Ent D ρ L (.w E sz rows) ch
 | o {I : Ob} {ch : zac} : I.f D L.b ch → Ent D ρ L (.o I) ch
 | p {kt : KT} {sz : Nat} {ag : Bool} {rows : List (MK × List U)} {es : Array MapEntry} {clk : Nat} {mv : MV} : MpI kt es clk mv → MRel D ag mv rows → (∀ r ∈ rows, r.2.length = sz) → Ent D ρ L (.p kt sz ag rows) [(L.b, .map es clk)]
 | tk {ob : Obj} : L.o = some ob → Ent D ρ L .tk [(L.b, ob)]
 | x : Ent D ρ L .x []
 | cw {E sz n b : Nat} {vs ps : List Value} {l : List V} : L.a = some ⟨b, 0, none⟩ → L.n = n → RpC D ρ vs l → vs.length = n * sz → (vs ++ ps).length = L.c * sz → n ≤ L.c ∧ L.c ≤ 9223372036854775807 → Ent D ρ L (.cw E sz n l) [(b, .cells (vs ++ ps).toArray E (0, 0))]
structure SAt (D : Fz) (ρ : List Loc) (m : Mem) (chs C : List zac) (h : zaf) : Prop where
 len : ρ.length = m.length
 lch : chs.length = m.length
 ent : ∀ (i : Nat) (L : Loc) (ab : AB) (ch : zac), ρ[i]? = some L → m[i]? = some ab → chs[i]? = some ch → Ent D ρ L ab ch
 st : St D (chs ++ C) h
def PRun (P : Program) (g : FuncId) (m : Mem) (args : List V) (Q : V → Mem → Prop) : Prop :=
 ∀ (D : Fz) (ρ : List Loc) (chs C : List zac) (h : zaf) (vs : List Value), SAt D ρ m chs C h → RpL D ρ vs args →
   Run P g vs h fun v h' => ∃ (D' : Fz) (ρ' : List Loc) (chs' : List zac) (x : V) (m' : Mem), Le D D' ∧ SAt D' (ρ ++ ρ') m' chs' C h' ∧ Rp D' (ρ ++ ρ') v x ∧ Q x m'
abbrev RP.I : RP := .one (.i .i64)
abbrev RP.B : RP := .one .b
abbrev RP.L (s : Nat) : RP := .one (.l s)
def patZ : Value × Nat → Pt
 | (.int k _, _) => .i k
 | (.bool _, _) => .b
 | (.string _, _) => .s
 | (.slice .., s) => .l s
 | (.pointer _, _) => .p
 | _ => .z
def patT (P : Program) (T : TypeId) : RP :=
 match ztx P T with
 | some (.one z) => .one (patZ z)
 | some (.many zs) => .agg (zs.map patZ)
 | none => .one .z
def patC (m : Mem) : V → Pt
 | .u (.i k _) => .i k
 | .u (.b _) => .b
 | .u (.s _) => .s
 | .u (.l s _) => .l s
 | .u (.p _) => .p
 | .q _ 0 => .p
 | .c s _ => .l s
 | .nl s => .l s
 | .n _ w _ => .n w
 | .w j => match mg m j with
   | .w E sz _ => .ow E sz
   | _ => .z
 | .r j o => .r j o
 | .m j => .m j
 | .nm => .nm
 | _ => .z
def patA (m : Mem) (own : Bool) : AB → BP
 | .o _ => .A
 | .x => .X
 | .tk => .X
 | .w E sz _ => cond own (.row E sz) .X
 | .p kt sz ag _ => .mp kt sz ag
 | .c l => .c (l.map (patC m))
 | .cw .. => .X
def ztn (P : Program) : List TypeId → List V → List V
 | T :: Ts, v :: l => datV (zdf P T v) :: ztn P Ts l
 | _, l => l
def zto (P : Program) (gc : Bool) : List TypeId → List V → List V
 | T :: Ts, v :: l => cond gc (zdf P T v) (datV (zdf P T v)) :: zto P gc Ts l
 | _, l => l
def frzV (ro : List Nat) (m : Mem) : V → Option (V × Mem)
 | .w b => match toU ro m (.w b) with
   | some (u, m1) => some (.u u, m1)
   | none => none
 | .a l => match frzC m l with
   | some (l', m1) => some (.a l', m1)
   | none => none
 | v => some (v, m)
where frzC : Mem → List V → Option (List V × Mem)
 | m, [] => some ([], m)
 | m, .w b :: l => match toU ro m (.w b) with
   | some (u, m1) => match frzC m1 l with
     | some (l', m2) => some (.u u :: l', m2)
     | none => none
   | none => none
 | m, v :: l => match frzC m l with
   | some (l', m2) => some (v :: l', m2)
   | none => none
def frzL (ro : List Nat) : Mem → List V → Option (List V × Mem)
 | m, [] => some ([], m)
 | m, v :: l => match frzV ro m v with
   | some (v', m1) => match frzL ro m1 l with
     | some (l', m2) => some (v' :: l', m2)
     | none => none
   | none => none
def zjs : List Nat → Nat → Nat → Nat
 | [], _, k => k
 | x :: l, b, k => cond (zyw x b) k (zjs l b (k + 1))
def ztm : List Nat → Nat → Nat
 | [], _ => 0
 | x :: _, 0 => x
 | _ :: l, n + 1 => ztm l n
def oneV : List V → V
 | [v] => v
 | l => .t l
def roEq (ro : List Nat) (m m' : Mem) : List Nat → Prop → Prop
 | [], K => K
 | b :: ix, K => cond (inL ro b) (mg m' b = mg m b ∧ roEq ro m m' ix K) (roEq ro m m' ix K)
def resX (rs : List RP) (x : V) : List V :=
 match rs, x with
 | [_], x => [x]
 | _, .t l => l
 | _, x => [x]
def oneR (rs : List RP) (xs : List V) : V :=
 match rs with
 | [_] => oneV xs
 | _ => .t xs
def post (rs : List RP) (bs : List BP) (F : PtT Prop (rs.flatMap RP.ps ++ bs.flatMap BP.ps)) (x : V) (m' : Mem) : Prop :=
 match pkR bs.length m' rs (resX rs x) with
 | some (os, m1) => match pkB bs.length m1 bs (zzh bs.length) with
   | some (os2, _) => apP False _ F (os ++ os2)
   | none => False
 | none => False
structure KN (P : Program) where
 f : FuncId → Mem → List V → Option (V × Mem)
 ok : ∀ g m a r, f g m a = some r → PRun P g m a fun x m' => x = r.1 ∧ m' = r.2
def KN.no {P : Program} : KN P := ⟨fun _ _ _ => none, fun _ _ _ _ h => nomatch h⟩
structure Nx (ro hr : List Nat) (D : Fz) (ρ : List Loc) (m : Mem) (chs : List zac) (D' : Fz) (ρ' : List Loc) (m' : Mem) (chs' : List zac) : Prop where
 le : Le D D'
 pre : ∃ s, ρ' = ρ ++ s
 keep : ∀ b, inL hr b = true → b < m.length → chs'[b]? = chs[b]?
 same : ∀ b, inL (hr ++ ro) b = true → b < m.length → mg m' b = mg m b
 len : m.length ≤ m'.length
def zcx (ro hr : List Nat) (D : Fz) (ρ : List Loc) (m : Mem) (chs C : List zac) (KS : V → Mem → Prop) (v : Value) (h' : zaf) : Prop :=
 ∃ D' ρ' m' chs' x, Nx ro hr D ρ m chs D' ρ' m' chs' ∧ SAt D' ρ' m' chs' C h' ∧ Rp D' ρ' v x ∧ KS x m'
def zga (P : Program) (X : Fz → List Loc → Prop) (ro hr : List Nat) (call : zel) : Prop :=
 ∀ {g : FuncId} {args : List V} {m : Mem} {KS : V → Mem → Prop} {D : Fz} {ρ : List Loc} {chs C : List zac} {h : zaf} {vs : List Value}, X D ρ → call g args m KS → SAt D ρ m chs C h → RpL D ρ vs args → Run P g vs h (zcx ro hr D ρ m chs C KS)
def Stab (X : Fz → List Loc → Prop) : Prop := ∀ {D D' : Fz} {ρ : List Loc} (s : List Loc), X D ρ → Le D D' → X D' (ρ ++ s)
structure SP (P : Program) where
 f : List Nat → zel → FuncId → List V → Mem → (V → Mem → Prop) → Option Prop
 ok : ∀ {ro hr : List Nat} {X : Fz → List Loc → Prop} {call : zel}, Stab X → zga P X ro hr call → ∀ {g : FuncId} {args : List V} {m : Mem} {KS : V → Mem → Prop} {p : Prop}, f (hr ++ ro) call g args m KS = some p → p →
  ∀ {D : Fz} {ρ : List Loc} {chs C : List zac} {h : zaf} {vs : List Value}, X D ρ → SAt D ρ m chs C h → RpL D ρ vs args → Run P g vs h (zcx ro hr D ρ m chs C KS)
def SP.no {P : Program} : SP P := ⟨fun _ _ _ _ _ _ => none, fun {_ _ _ _} _ _ {_ _ _ _ _} h => by cases h⟩
structure SH (P : Program) where
 lo : List ((Nat × Nat × Nat) × Hint)
 jo : List ((Nat × Nat × Nat) × Hint)
 inl : List Nat
 ow : List Nat
 ps : List (Nat × List RP × List BP)
 own : Bool
 n : Nat
 kn : KN P
 gc : Bool
 sp : SP P
def findH : List ((Nat × Nat × Nat) × Hint) → Nat → Nat → Nat → Option Hint
 | [], _, _, _ => none
 | (k, h) :: l, f, r, n => cond (zyw k.1 f && zyw k.2.1 r && zyw k.2.2 n) (some h) (findH l f r n)
def findP : List (Nat × List RP × List BP) → Nat → Option (List RP × List BP)
 | [], _ => none
 | (k, h) :: l, g => cond (zyw k g) (some h) (findP l g)
def zdy (ix : List Nat) : List Nat → Bool
 | [] => true
 | b :: l => inL ix b && zdy ix l
def disj (hr : List Nat) : List Nat → Bool
 | [] => true
 | b :: l => !inL hr b && disj hr l
def zff (n : Nat) : List Nat → Bool
 | [] => true
 | b :: l => zzc (b + 1) n && zff n l
def zk6 (m : Mem) (ix : List Nat) : Mem := ix.map fun b => zo2 (fun b => zjs ix b 0) (mg m b)
def zx4 : Mem → Mem
 | [] => []
 | a :: m => datA a :: zx4 m
def canonK (ix : List Nat) (t : List V) (m : Mem) (K : List V → Mem → Prop) : Prop :=
 cond (zdy ix (zag t) && zdy ix (ix.flatMap fun b => za9 (mg m b)) && zff m.length ix) (K (zd0 (fun b => zjs ix b 0) t) (zk6 m ix)) False
def zjf (n : Nat) (K : List V → Mem → Prop) (t : List V) (m : Mem) : Prop :=
 cond (zzc m.length (n + 1)) (K t m) (canonK (clo m 1000 (zag t ++ (m.take n).flatMap za9) (zzh n)) t m K)
def dup2 (A : Prop) : Prop := A ∧ A
def callQ (P : Program) (kn : KN P) (g : FuncId) (m : Mem) (a : List V) (Q : V → Mem → Prop) : Prop :=
 match kn.f g m a with
 | some r => Q r.1 r.2
 | none => PRun P g m a Q
def callT (P : Program) (kn : KN P) (ro hr : List Nat) (g : FuncId) (ix : List Nat) (rs : List RP) (bs : List BP) (as' : List V) (m1 : Mem) (K : V → Mem → Prop) : Prop :=
 cond (disj hr ix && zff m1.length ix && zdy ix (zag as') && zdy ix (ix.flatMap fun b => za9 (mg m1 b)) && zyw bs.length ix.length)
  (callQ P kn g (zx4 (zk6 m1 ix)) (zd0 (fun b => zjs ix b 0) as') (post rs bs (mkP _ fun is =>
   roEq ro m1 (reB (ztm ix) (reR (ztm ix) (zcq m1 ix) rs is).2.2 bs ix (reR (ztm ix) (zcq m1 ix) rs is).2.1) ix
    (K (oneR rs (reR (ztm ix) (zcq m1 ix) rs is).1) (reB (ztm ix) (reR (ztm ix) (zcq m1 ix) rs is).2.2 bs ix (reR (ztm ix) (zcq m1 ix) rs is).2.1))))) False
def patsA (m1 : Mem) (as' : List V) (ix : List Nat) : List BP := ix.map fun b => patA (zk6 m1 ix) (inL (zag as') b) (zo2 (fun b => zjs ix b 0) (mg m1 b))
def callS (P : Program) (H : SH P) (ro hr : List Nat) (fn : Func) (g : FuncId) (args : List V) (m : Mem) (K : V → Mem → Prop) : Prop :=
 match cond (inL H.ow g) (some (ztn P fn.params.toList args, m)) (frzL (hr ++ ro) m (ztn P fn.params.toList args)) with
 | none => False
 | some (as', m1) => match findP H.ps g with
   | some ps => callT P H.kn ro hr g (clo m1 1000 (zag as') []) ps.1 ps.2 as' m1 K
   | none => callT P H.kn ro hr g (clo m1 1000 (zag as') []) (fn.resultTypes.toList.map (patT P)) (patsA m1 as' (clo m1 1000 (zag as') [])) as' m1 K
abbrev zgx := Ex → List V → Mem → Prop
def zpn (K : List V → Mem → Prop) (Q : zgx) : zgx
 | .nrm, t, h => K t h
 | .ext i, t, h => Q (.ext i) t h
 | .ret, t, h => Q .ret t h
def zyh (id : Nat) (Q : zgx) : zgx
 | .nrm, t, h => Q .nrm t h
 | .ext j, t, h => cond (zyw j id) (Q .nrm t h) (Q (.ext j) t h)
 | .ret, t, h => Q .ret t h
def resL (P : Program) : List ResultVar → List V → Mem → (List V → Prop) → Prop
 | [], _, _, K => K []
 | .tmp i :: l, t, m, K => resL P l t m fun vs => K (zhv t i :: vs)
 | .cell i T :: l, t, m, K => sLoad P T (zhv t i) m fun v => resL P l t m fun vs => K (v :: vs)
def retG (P : Program) (gc : Bool) (fn : Func) (K : V → Mem → Prop) : zgx
 | .ext _, _, _ => False
 | _, t, m => resL P fn.results.toList t m fun vs => K (oneV (zto P gc fn.resultTypes.toList vs)) m
def zf1 (P : Program) (gc : Bool) (fn : Func) (args : List V) : List V := zto P gc fn.params.toList args ++ zzi (fn.ntmps - args.length) .z
abbrev retS (P : Program) (fn : Func) (K : V → Mem → Prop) : zgx := retG P false fn K
abbrev frame0 (P : Program) (fn : Func) (args : List V) : List V := zf1 P false fn args
abbrev SelfT := Nat → List Nat → List Nat → Code → zgx → List V → Mem → Prop
def wkV : V → V
 | .nl s => .c s []
 | x => x
def gcQ (gc : Option Nat) (K : V → Mem → Prop) (x : V) (m : Mem) : Prop :=
 match gc with
 | some n => zjf n (fun t m2 => K (zhv t 0) m2 ∨ K (wkV (zhv t 0)) m2) [x] m
 | none => K x m
def zs1 (P : Program) (H : SH P) (self : SelfT) (ro hr : List Nat) : zel := fun g args m K =>
 match P.funcs[g]? with
 | none => False
 | some fn => cond (inL H.inl g)
  (match fn.body with
   | none => False
   | some c => cond (fn.name == "runtime.NumGoroutine") False (self g ro hr c (retG P H.gc fn (gcQ (cond H.gc (some m.length) none) K)) (zf1 P H.gc fn args) m))
  (callS P H ro hr fn g args m K)
def zyd (P : Program) (H : SH P) (self : SelfT) (ro hr : List Nat) : zel := fun g args m K =>
 match H.sp.f (hr ++ ro) (zs1 P H self ro hr) g args m K with
 | some p => p
 | none => zs1 P H self ro hr g args m K
def gcT (gc : Option Nat) (K : List V → Mem → Prop) (t : List V) (m : Mem) : Prop :=
 match gc with
 | some n => zjf n K t m
 | none => K t m
def rnds (gc : Option Nat) (step : zgx → List V → Mem → Prop) (Q : zgx) : Nat → List V → Mem → Prop
 | 0, _, _ => False
 | n + 1, t, m => step (zpn (gcT gc (rnds gc step Q n)) Q) t m
inductive YC where
 | out | rd | it (b : Nat) (f : List Nat → List Nat → List V → Mem → (V → Mem → Prop) → Prop)
abbrev zq2 := YC → SelfT
def YC.sub : YC → YC
 | .it b f => .it b f
 | _ => .out
def YC.h (Y : YC) (ro hr : List Nat) (b : Nat) (args : List V) (m : Mem) (K : V → Mem → Prop) : Prop :=
 match Y with
 | .it b' f => cond (zyw b b') (f ro hr args m K) False
 | _ => False
def setA : List V → List Tmp → List V → List V
 | t, p :: ps, v :: vs => setA (zph t p v) ps vs
 | t, _, _ => t
def isY (a : AB) (K : Prop) : Prop :=
 match a with
 | .tk => K
 | _ => False
theorem zxj {a : AB} {K : Prop} (h : isY a K) : a = .tk ∧ K := by
 cases a <;> first | exact ⟨rfl, h⟩ | exact h.elim
def noEx (c : Code) : Bool := match zeh c with | [] => true | _ => false
def vcC (P : Program) (H : SH P) (self : zq2) (fi : Nat) : Code → YC → List Nat → List Nat → zgx → List V → Mem → Prop
 | .skip, _, _, _, Q, t, m => Q .nrm t m
 | .region _ ops d, Y, hr, ro, Q, t, m =>
   cond (ops.toList.all fun o => !zcr o) (cond d (cond (zqs ops.toList ops.toList.length [] && Region.noSelect ops.toList.toArray) (zgt P H.gc ro hr (zyd P H (self Y.sub) ro) ops.toList (zjf m.length (Q .nrm)) ops.toList.length [] [] t m) False)
    (ztk P H.gc (hr ++ ro) (zyd P H (self Y.sub) ro hr) (Y.h ro hr) ops.toList (Q .nrm) ops.toList t m)) False
 | .seq x y, Y, hr, ro, Q, t, m =>
   match findH H.jo fi (zbq y) m.length with
   | none => vcC P H self fi x Y hr ro (zpn (vcC P H self fi y Y hr ro Q) Q) t m
   | some h => cond (disj (hr ++ ro) (h.tk t m) && zff m.length (h.bl.map (·.1))) (
     ∀ k : PtT Prop h.ps, allP h.ps (zipP (fun (A B : Prop) => A → B) h.ps (mkP h.ps fun is => vcC P H self fi y Y hr ro Q (h.st (zcc x) t m is).1 (h.st (zcc x) t m is).2) k) →
       vcC P H self fi x Y hr (zuh (h.base t m) 0 ++ ro) (zpn (fun t' m' => h.el (h.base t m) k t' m') Q) t m) False
 | .cond c x y, Y, hr, ro, Q, t, m => match evS t c with
   | .u (.b b) => cond b (vcC P H self fi x Y hr ro Q t m) (vcC P H self fi y Y hr ro Q t m)
   | _ => False
 | .block id c, Y, hr, ro, Q, t, m => vcC P H self fi c Y hr ro (zyh id Q) t m
 | .loop c, Y, hr, ro, Q, t, m =>
   match findH H.lo fi (zbq c) m.length with
   | none => rnds (cond H.gc (some m.length) none) (fun Q => vcC P H self fi c Y hr ro Q) Q H.n t m
   | some h => cond (disj (hr ++ ro) (h.tk t m) && zff m.length (h.bl.map (·.1))) (
     ∃ (I : PtT Prop h.ps) (f : PtT Nat h.ps), h.el (h.base t m) I t m ∧
       allP h.ps (zipP (fun (A B : Prop) => A → B) h.ps I (zipP (fun (n : Nat) (B : Nat → Prop) => B n) h.ps f (mkP h.ps fun is n =>
        vcC P H self fi c Y hr (zuh (h.base t m) 0 ++ ro) (zpn (fun t' m' => h.el (h.base t m) (zipP (fun (A : Prop) n' => A ∧ n' < n) h.ps I f) t' m') Q) (h.st (zcc c) t m is).1 (h.st (zcc c) t m is).2)))) False
 | .exit id, _, _, _, Q, t, m => Q (.ext id) t m
 | .ret, _, _, _, Q, t, m => Q .ret t m
 | .scope c, Y, hr, ro, Q, t, m => vcC P H self fi c Y hr ro Q t m
 | .label _, _, _, _, Q, t, m => Q .nrm t m
 | .rangeFunc g ps assign body, .out, hr, ro, Q, t, m =>
   match evS t g with
   | .f gi as' cs => match P.funcs[gi]? with
     | none => False
     | some fn => match fn.body with
       | none => False
       | some c => cond (fn.name == "runtime.NumGoroutine" || !noEx body) False (
         self (.it m.length fun ro' hr' args m1 K => isY (mg m1 m.length) (cond (zyw args.length ps.size) (vcC P H self fi assign .rd hr' ro'
          (zpn (fun t2 m2 => vcC P H self fi body .rd hr' ro' (fun e _ m3 => match e, mg m3 m.length with
           | .nrm, .x => K (.u (.b true)) (ms m3 m.length .tk)
           | _, _ => False) t2 m2) fun _ _ _ => False) (setA t ps.toList args) (ms m1 m.length .x)) False))
          gi ro hr c (retG P H.gc fn fun _ m' => isY (mg m' m.length) (Q .nrm t (ms m' m.length .x))) (zf1 P H.gc fn (as' ++ [.y m.length] ++ cs)) (m ++ [.tk]))
   | _ => False
 | _, _, _, _, _, _, _ => False
def runS (P : Program) (H : SH P) : Nat → zq2
 | 0, _, _, _, _, _, _, _, _ => False
 | n + 1, Y, fi, ro, hr, c, Q, t, m => vcC P H (runS P H n) fi c Y hr ro Q t m
def endT (Q : V → Mem → Prop) (x : V) (m : Mem) (ix : List Nat) : Prop :=
 cond (zdy ix (zae x) && zdy ix (ix.flatMap fun b => za9 (mg m b)) && zff m.length ix) (Q (zci (fun b => zjs ix b 0) x) (zk6 m ix)) False
def frzX (own : Bool) (m : Mem) : V → Option (V × Mem)
 | .t l => cond own (some (.t l, m)) (match frzL [] m l with | some (l', m1) => some (.t l', m1) | none => none)
 | x => cond own (some (x, m)) (frzV [] m x)
def endS (own : Bool) (n : Nat) (Q : V → Mem → Prop) (x : V) (m : Mem) : Prop :=
 match frzX own m x with
 | none => False
 | some (x1, m1) => endT Q x1 m1 (clo m1 1000 (zae x1 ++ (m1.take n).flatMap za9) (zzh n))
def zuz (P : Program) (H : SH P) (n : Nat) (f : FuncId) (fn : Func) (m : Mem) (args : List V) (Q : V → Mem → Prop) : Prop :=
 match fn.body with
 | none => False
 | some c => runS P H n .out f [] [] c (retS P fn (endS H.own m.length Q)) (frame0 P fn args) m
section
variable {P : Program} {D D' : Fz} {ρ : List Loc} {m : Mem} {chs C : List zac} {h : zaf} {T : List Value} {t : List V}
theorem zai {l s : List α} {x : α} (h : l[i]? = some x) : (l ++ s)[i]? = some x := by
 rw [zy7 (zyz.1 h).1]; exact h
theorem MRel.mono {ag : Bool} {m : MV} {rows : List (MK × List U)} (hr : MRel D ag m rows) (l : Le D D') : MRel D' ag m rows := by
 induction hr with
 | nil => exact .nil
 | cons a b _ ih => exact .cons (a.mono l) b ih
section
variable (l : Le D D') (s : List Loc)
include l
theorem Rp.mono (hr : Rp D ρ v x) : Rp D' (ρ ++ s) v x :=
 @Rp.rec D ρ (fun v x _ => Rp D' (ρ ++ s) v x) (fun vs xs _ => RpL D' (ρ ++ s) vs xs) (fun vs xs _ => RpC D' (ρ ++ s) vs xs)
  (fun h => .u (h.mono l)) (fun h => .r (zai h)) (fun h1 h2 h3 h4 => .e (zai h1) h2 h3 h4) (fun h1 h2 h3 => .g (zai h1) h2 h3) (fun h1 h2 n => .q (h1.mono l) h2 n) (fun h => .w (zai h)) (fun h => .c (h.mono l))
  (fun h => .m (zai h)) .nm .nl (fun _ _ a b => .f a b) (fun _ a => .a a) (fun _ a => .t a) .z (fun h => .y (zai h)) (fun h1 h2 h3 h4 h5 h6 h7 => .v (zai h1) h2 h3 h4 h5 h6 h7) (fun h1 h2 h3 => .sl (zai h1) h2 h3) .nil (fun _ _ a b => .cons a b) .nil (fun _ hn _ a b => .cons a hn b) (fun hl _ a => .n hl a) v x hr
theorem RpL.mono {v : List Value} {x : List V} (hr : RpL D ρ v x) : RpL D' (ρ ++ s) v x :=
 @RpL.rec D ρ (fun v x _ => Rp D' (ρ ++ s) v x) (fun vs xs _ => RpL D' (ρ ++ s) vs xs) (fun vs xs _ => RpC D' (ρ ++ s) vs xs)
  (fun h => .u (h.mono l)) (fun h => .r (zai h)) (fun h1 h2 h3 h4 => .e (zai h1) h2 h3 h4) (fun h1 h2 h3 => .g (zai h1) h2 h3) (fun h1 h2 n => .q (h1.mono l) h2 n) (fun h => .w (zai h)) (fun h => .c (h.mono l))
  (fun h => .m (zai h)) .nm .nl (fun _ _ a b => .f a b) (fun _ a => .a a) (fun _ a => .t a) .z (fun h => .y (zai h)) (fun h1 h2 h3 h4 h5 h6 h7 => .v (zai h1) h2 h3 h4 h5 h6 h7) (fun h1 h2 h3 => .sl (zai h1) h2 h3) .nil (fun _ _ a b => .cons a b) .nil (fun _ hn _ a b => .cons a hn b) (fun hl _ a => .n hl a) v x hr
theorem RpC.mono {v : List Value} {x : List V} (hr : RpC D ρ v x) : RpC D' (ρ ++ s) v x :=
 @RpC.rec D ρ (fun v x _ => Rp D' (ρ ++ s) v x) (fun vs xs _ => RpL D' (ρ ++ s) vs xs) (fun vs xs _ => RpC D' (ρ ++ s) vs xs)
  (fun h => .u (h.mono l)) (fun h => .r (zai h)) (fun h1 h2 h3 h4 => .e (zai h1) h2 h3 h4) (fun h1 h2 h3 => .g (zai h1) h2 h3) (fun h1 h2 n => .q (h1.mono l) h2 n) (fun h => .w (zai h)) (fun h => .c (h.mono l))
  (fun h => .m (zai h)) .nm .nl (fun _ _ a b => .f a b) (fun _ a => .a a) (fun _ a => .t a) .z (fun h => .y (zai h)) (fun h1 h2 h3 h4 h5 h6 h7 => .v (zai h1) h2 h3 h4 h5 h6 h7) (fun h1 h2 h3 => .sl (zai h1) h2 h3) .nil (fun _ _ a b => .cons a b) .nil (fun _ hn _ a b => .cons a hn b) (fun hl _ a => .n hl a) v x hr
theorem Ent.mono {L : Loc} {ab : AB} {ch : zac} (hr : Ent D ρ L ab ch) : Ent D' (ρ ++ s) L ab ch := by
 cases hr with
 | c h => exact .c (h.mono l s)
 | w o h => exact .w (o.mono l) h
 | o h => exact .o (I := _) (Ob.mono _ h l)
 | p a b c => exact .p a (b.mono l) c
 | tk h => exact .tk h
 | x => exact .x
 | cw a b h c d e => exact .cw a b (h.mono l s) c d e
end
theorem RpL.get (F : RpL D ρ T t) (i : Nat) : Rp D ρ (ze5 T i) (zhv t i) := by
 induction t generalizing T i with
 | nil => cases F; exact .z
 | cons x t ih =>
   cases F with
   | cons a b => cases i with
     | zero => exact a
     | succ i => exact ih b i
theorem RpL.set (F : RpL D ρ T t) (i : Nat) (hv : Rp D ρ v x) : RpL D ρ (zj0 T i v) (zph t i x) := by
 induction t generalizing T i with
 | nil => cases F; exact .nil
 | cons y t ih =>
   cases F with
   | cons a b => cases i with
     | zero => exact .cons hv b
     | succ i => exact .cons a (ih b i)
theorem RpL.put {d : Option Tmp} (F : RpL D ρ T t) (hv : Rp D ρ v x) : RpL D ρ (lput T d v) (vput t d x) := by
 cases d with
 | none => exact F
 | some i => exact F.set i hv
theorem RpL.len' (F : RpL D ρ vs xs) : vs.length = xs.length := by
 induction xs generalizing vs with
 | nil => cases F; rfl
 | cons x xs ih => cases F with | cons a b => simp [ih b]
theorem RpL.at (F : RpL D ρ vs xs) (h : vs[i]? = some v) : Rp D ρ v (zhv xs i) := by
 induction xs generalizing vs i with
 | nil => cases F; simp at h
 | cons x xs ih => cases F with
   | cons a b => cases i with
     | zero => simp at h; subst h; exact a
     | succ i => exact ih b (by simpa using h)
theorem RpL.app {ws : List Value} {ys : List V} (F : RpL D ρ vs xs) (G : RpL D ρ ws ys) : RpL D ρ (vs ++ ws) (xs ++ ys) := by
 induction xs generalizing vs with
 | nil => cases F; exact G
 | cons x xs ih => cases F with | cons a b => exact .cons a (ih b)
theorem RpC.app {ws : List Value} {ys : List V} (F : RpC D ρ vs xs) (G : RpC D ρ ws ys) : RpC D ρ (vs ++ ws) (xs ++ ys) := by
 induction xs generalizing vs with
 | nil => cases F; exact G
 | cons x xs ih => cases F with
   | cons a n b => exact .cons a n (ih b)
   | n hl b => rw [zy8]; exact .n hl (ih b)
theorem zr1 (v : Value) : Rp D ρ v (zp5 v) ∧ ∀ k w l, zp5 v ≠ .n k w l := by
 unfold zp5
 split <;> first
  | exact ⟨.u (.int _ _), by simp⟩ | exact ⟨.u (.bool _), by simp⟩ | exact ⟨.u (.str _), by simp⟩ | exact ⟨.u .pn, by simp⟩ | exact ⟨.nl, by simp⟩ | exact ⟨.nm, by simp⟩ | exact ⟨.f (xs := []) (ys := []) .nil .nil, by simp⟩ | exact ⟨.z, by simp⟩
theorem zfb : ∀ (l : List Value), RpC D ρ l (l.map zp5)
 | [] => .nil
 | v :: l => .cons (zr1 v).1 (zr1 (D := D) (ρ := ρ) v).2 (zfb l)
theorem ofV_S (v : Value) : Rp D ρ v (ofV v) := by
 unfold ofV
 split
 · exact .a (zfb _)
 · exact (zr1 _).1
theorem zcf (F : RpL D ρ T t) (x : Operand) : Rp D ρ (ev T x) (evS t x) := by
 cases x with
 | tmp i => exact F.get i
 | const v => exact ofV_S v
 | func f => exact .f (xs := []) (ys := []) .nil .nil
 | global g => exact .z
theorem zqp (F : RpL D ρ T t) : ∀ (l : List Operand), RpL D ρ (l.map (ev T)) (l.map (evS t))
 | [] => .nil
 | x :: l => .cons (zcf F x) (zqp F l)
theorem zi9 {a : Value} (h : zot x = some a) (hr : Rp D ρ v x) : v = a := by
 unfold zot at h
 split at h <;> cases h <;> (cases hr; rename_i hr; cases hr; rfl)
theorem zx7 : ∀ {vs as' : List Value} {xs : List V}, concL xs = some as' → RpC D ρ vs xs → vs = as'
 | vs, as', [], h, hr => by cases hr; cases h; rfl
 | vs, as', x :: xs, h, hr => by
   simp only [concL] at h
   split at h
   · rename_i a as' h1 h2
     cases h
     cases hr with
     | cons a n b => rw [zi9 h1 a, zx7 h2 b]
     | n hl b => simp [zot] at h1
   · cases h
theorem conc_S {a : Value} (h : conc x = some a) (hr : Rp D ρ v x) : v = a := by
 unfold conc at h
 split at h
 · split at h
   · rename_i hl
     cases h
     cases hr with
     | a hc => rw [zx7 hl hc]
   · cases h
 · exact zi9 h hr
theorem zjj (v : Value) : Rp D ρ v (zs6 v) := by
 unfold zs6
 split <;> first | exact .u (.int _ _) | exact .u (.bool _) | exact .u (.str _) | exact .z
theorem zcu {l r : List V} : ∀ {o : Nat} {vs : List Value}, ze1 o l = some r → RpC D ρ vs l → ∃ p s, vs = p ++ s ∧ p.length = o ∧ RpC D ρ s r := by
 induction l with
 | nil =>
   intro o vs h hr
   cases o with
   | zero => simp only [ze1, Option.some.injEq] at h; subst h; exact ⟨[], vs, rfl, rfl, hr⟩
   | succ o => simp [ze1] at h
 | cons x l ih =>
   intro o vs h hr
   cases o with
   | zero => simp only [ze1, Option.some.injEq] at h; subst h; exact ⟨[], vs, rfl, rfl, hr⟩
   | succ o =>
     simp only [ze1] at h
     cases hc : (zzc (wd x) (o + 1) && !zyw (wd x) 0) with
     | false => rw [hc] at h; cases h
     | true =>
       rw [hc] at h
       simp only [zyy] at hc
       have hle := zz0 hc.1
       cases hr with
       | cons a n b =>
         have hw : wd x = 1 := by cases x <;> first | rfl | exact absurd rfl (n _ _ _)
         rw [hw] at h
         obtain ⟨p, s, rfl, hp, hs⟩ := ih h b
         exact ⟨_ :: p, s, rfl, by simp at hp ⊢; omega, hs⟩
       | n hl b =>
         obtain ⟨p, s, rfl, hp, hs⟩ := ih h b
         refine ⟨_ ++ p, s, (zy8 _ _ _).symm, ?_, hs⟩
         simp only [wd] at hle hp
         simp [hl, hp]; omega
theorem zlh {l r : List V} : ∀ {n : Nat} {vs : List Value}, zjr n l = some r → RpC D ρ vs l → ∃ p s, vs = p ++ s ∧ p.length = n ∧ RpC D ρ p r := by
 induction l generalizing r with
 | nil =>
   intro o vs h hr
   cases o with
   | zero => simp only [zjr, Option.some.injEq] at h; subst h; exact ⟨[], vs, rfl, rfl, .nil⟩
   | succ o => simp [zjr] at h
 | cons x l ih =>
   intro o vs h hr
   cases o with
   | zero => simp only [zjr, Option.some.injEq] at h; subst h; exact ⟨[], vs, rfl, rfl, .nil⟩
   | succ o =>
     simp only [zjr] at h
     cases hc : (zzc (wd x) (o + 1) && !zyw (wd x) 0) with
     | false => rw [hc] at h; cases h
     | true =>
       rw [hc] at h
       simp only [zyy] at hc
       have hle := zz0 hc.1
       simp only [cond_true] at h
       split at h
       · rename_i r' hr'
         cases h
         cases hr with
         | cons a n b =>
           have hw : wd x = 1 := by cases x <;> first | rfl | exact absurd rfl (n _ _ _)
           rw [hw] at hr'
           obtain ⟨p, s, rfl, hp, hs⟩ := ih hr' b
           exact ⟨_ :: p, s, rfl, by simp at hp ⊢; omega, .cons a n hs⟩
         | n hl b =>
           obtain ⟨p, s, rfl, hp, hs⟩ := ih hr' b
           refine ⟨_ ++ p, s, (zy8 _ _ _).symm, ?_, .n hl hs⟩
           simp only [wd] at hle hp
           simp [hl, hp]; omega
       · cases h
theorem zpf {l : List V} : ∀ {vs : List Value}, RpC D ρ vs l → vs.length = wds l := by
 induction l with
 | nil => intro vs h; cases h; rfl
 | cons x l ih =>
   intro vs h
   cases h with
   | cons a n b =>
     have hw : wd x = 1 := by cases x <;> first | rfl | exact absurd rfl (n _ _ _)
     simp only [wds, hw, zzg, ih b]; omega
   | n hl b => simp [wds, wd, hl, ih b]
theorem zrs {new l r : List V} {ns : List Value} (hn : RpC D ρ ns new) : ∀ {o : Nat} {vs : List Value}, zuj new o l = some r → RpC D ρ vs l → o + ns.length ≤ vs.length ∧ RpC D ρ (zar vs o ns) r := by
 have sp : ∀ (a b c : List Value), a.length = b.length → zar (a ++ c) 0 b = b ++ c := by
  intro a
  induction a with
  | nil => intro b c h; cases b with | nil => cases c <;> rfl | cons _ _ => simp at h
  | cons x a ih => intro b c h; cases b with | nil => simp at h | cons y b => simp only [zz6, zar]; rw [ih b c (by simpa using h)]
 have sp2 : ∀ (a c b : List Value) (k : Nat), zar (a ++ c) (a.length + k) b = a ++ zar c k b := by
  intro a c b k
  cases b with
  | nil => rw [zbc, zbc]
  | cons y b =>
    induction a with
    | nil => rw [zz7, zz7, z0z, zze]
    | cons x a ih => rw [zzg, show a.length + 1 + k = (a.length + k) + 1 by omega, zz6, zar, ih, zz6]
 induction l generalizing r with
 | nil =>
   intro o vs h hr
   cases o with
   | zero =>
     simp only [zuj] at h
     split at h
     · rename_i r' hr'
       cases h
       obtain ⟨p, s, rfl, hp, hs⟩ := zcu hr' hr
       rw [← zpf hn] at hp
       exact ⟨by simp [hp], by rw [sp _ _ _ hp]; exact hn.app hs⟩
     · cases h
   | succ o => simp [zuj] at h
 | cons x l ih =>
   intro o vs h hr
   cases o with
   | zero =>
     simp only [zuj] at h
     split at h
     · rename_i r' hr'
       cases h
       obtain ⟨p, s, rfl, hp, hs⟩ := zcu hr' hr
       rw [← zpf hn] at hp
       exact ⟨by simp [hp], by rw [sp _ _ _ hp]; exact hn.app hs⟩
     · cases h
   | succ o =>
     simp only [zuj] at h
     cases hc : (zzc (wd x) (o + 1) && !zyw (wd x) 0) with
     | false => rw [hc] at h; cases h
     | true =>
       rw [hc] at h
       simp only [zyy] at hc
       have hle := zz0 hc.1
       simp only [cond_true] at h
       split at h
       · rename_i r' hr'
         cases h
         cases hr with
         | cons a n b =>
           have hw : wd x = 1 := by cases x <;> first | rfl | exact absurd rfl (n _ _ _)
           rw [hw] at hr'
           obtain ⟨h1, h2⟩ := ih hr' b
           refine ⟨by simp at h1 ⊢; omega, ?_⟩
           cases ns with
           | nil => rw [zbc] at h2 ⊢; exact .cons a n h2
           | cons y ns => exact .cons a n h2
         | n hl b =>
           obtain ⟨h1, h2⟩ := ih hr' b
           simp only [wd] at h1 h2 hle
           refine ⟨by simp [hl]; omega, ?_⟩
           rw [show o + 1 = (zzf (Value.int _) _).length + (o + 1 - (zzf (Value.int _) _).length) by rw [zy2, hl]; omega, sp2]
           rw [zy2, hl]
           exact .n hl h2
       · cases h
theorem znz : ∀ {m : Mem} {i : Nat}, i < m.length → m[i]? = some (mg m i)
 | [], _, h => by simp at h
 | _ :: _, 0, _ => rfl
 | _ :: m, i + 1, h => by simpa [mg] using znz (m := m) (by simpa using h)
theorem mg_lt {m : Mem} (h : mg m i ≠ .x) : i < m.length := by
 induction m generalizing i with
 | nil => exact absurd rfl h
 | cons a m ih => cases i with
   | zero => simp
   | succ i => have := ih (i := i) h; simp; omega
theorem SAt.get (M : SAt D ρ m chs C h) (hb : mg m b ≠ .x) : ∃ L ch, ρ[b]? = some L ∧ chs[b]? = some ch ∧ Ent D ρ L (mg m b) ch := by
 have hlt := mg_lt hb
 have h1 : b < ρ.length := by rw [M.len]; exact hlt
 have h2 : b < chs.length := by rw [M.lch]; exact hlt
 exact ⟨ρ[b], chs[b], zy0 h1, zy0 h2, M.ent b _ _ _ (zy0 h1) (znz hlt) (zy0 h2)⟩
theorem SAt.own (M : SAt D ρ m chs C h) {ch : zac} (hc : chs[b]? = some ch) {p : Nat × Obj} (hp : p ∈ ch) : h[p.1]? = some p.2 :=
 M.st.own p (List.mem_flatten.2 ⟨ch, zy6.2 (.inl (zy4 hc)), hp⟩)
def Cov (D : Fz) (chs : List zac) (bs : List Nat) (bb : Nat) (ob : Obj) : Prop := D bb = some ob ∨ ∃ b ch, inL bs b = true ∧ chs[b]? = some ch ∧ (bb, ob) ∈ ch
def Hs (D : Fz) (chs : List zac) (bs : List Nat) (w : World) : Prop := ∀ bb ob, Cov D chs bs bb ob → w.heap[bb]? = some ob
theorem SAt.hs (M : SAt D ρ m chs C h) (bs : List Nat) (hw : w.heap = h) : Hs D chs bs w := by
 rintro bb ob (hd | ⟨b, ch, -, hc, hp⟩)
 · rw [hw]; exact (M.st.fz bb ob hd).1
 · rw [hw]; exact M.own hc hp
theorem inL_iff : ∀ {l : List Nat} {b : Nat}, inL l b = true ↔ b ∈ l
 | [], b => by simp [inL]
 | x :: l, b => by
   simp only [inL, z1p, zy3, inL_iff (l := l)]
   constructor
   · rintro (h | h)
     · exact .inl (zy1 h).symm
     · exact .inr h
   · rintro (rfl | h)
     · exact .inl (Nat.beq_refl _)
     · exact .inr h
end
section
variable {P : Program} {D D' : Fz} {ρ : List Loc} {m : Mem} {chs C : List zac} {h : zaf} {T : List Value} {t : List V}
theorem zi2 {i : Int} {n : Nat} {K : Nat → Prop} (hh : idxK i n K) : ∃ j : Nat, i = .ofNat j ∧ j < n ∧ K j := by
 unfold idxK at hh
 split at hh
 · obtain ⟨h1, h2⟩ := zaa hh
   exact ⟨_, rfl, zz0 h1, h2⟩
 · exact hh.elim
theorem zdx {l : List α} {k : Int} {K : α → Prop} (hh : elL l k K) : 0 ≤ k ∧ ∃ r, l[k.toNat]? = some r ∧ K r := by
 unfold elL at hh
 split at hh
 · rename_i i
   split at hh
   · rename_i r hr; exact ⟨z1h i, r, hr, hh⟩
   · exact hh.elim
 · exact hh.elim
theorem zlo {o : Option α} {K : α → Prop} (hh : oP o K) : ∃ c, o = some c ∧ K c := by
 unfold oP at hh
 split at hh
 · exact ⟨_, rfl, hh⟩
 · exact hh.elim
theorem zmc {o : Option U} {K : U → Prop} (hh : dU z o K) : ∃ u, o = some u ∧ K u := by
 unfold dU at hh
 split at hh
 · unfold dI at hh; split at hh
   · obtain ⟨h1, h2⟩ := ziy hh; subst h1; exact ⟨_, rfl, h2⟩
   · exact hh.elim
 · unfold dB at hh; split at hh
   · exact ⟨_, rfl, hh⟩
   · exact hh.elim
 · unfold dS at hh; split at hh
   · exact ⟨_, rfl, hh⟩
   · exact hh.elim
 · unfold dL at hh; split at hh
   · obtain ⟨h1, h2⟩ := zaa hh
     have := zy1 h1
     subst this
     exact ⟨_, rfl, h2⟩
   · exact hh.elim
 · unfold dP at hh; split at hh
   · exact ⟨_, rfl, hh⟩
   · exact hh.elim
 · exact hh.elim
theorem zu3 : ∀ (l : List U) (i : Nat), ug l i = l[i]?
 | [], _ => by simp [ug]
 | _ :: _, 0 => rfl
 | _ :: l, i + 1 => by simp [ug, zu3 l i]
theorem zex : ∀ {zs : List (Value × Nat)} {r : List U} {o : Nat} {K : List U → Prop}, dUs zs r o K → ∃ us, us.length = zs.length ∧ (∀ j u, us[j]? = some u → r[o + j]? = some u) ∧ K us
 | [], r, o, K, hh => ⟨[], rfl, by simp, hh⟩
 | z :: zs, r, o, K, hh => by
   obtain ⟨u, hu, h2⟩ := zmc hh
   obtain ⟨us, hl, hg, hK⟩ := zex h2
   refine ⟨u :: us, by simp [hl], fun j v hv => ?_, hK⟩
   cases j with
   | zero => simp at hv; subst hv; rw [zu3] at hu; simpa using hu
   | succ j => have := hg j v (by simpa using hv); rw [show o + (j + 1) = o + 1 + j by omega]; exact this
theorem RpC.ofU : ∀ {vs : List Value} {us : List U}, RdL D vs us → RpC D ρ vs (us.map .u)
 | _, _, .nil => .nil
 | _, _, .cons a b => .cons (.u a) (by simp) (RpC.ofU b)
theorem RpC.toU : ∀ {us : List U} {l : List V} {vs : List Value}, zox l = some us → RpC D ρ vs l → RdL D vs us
 | us, [], vs, hc, hr => by cases hr; cases hc; exact .nil
 | us, x :: l, vs, hc, hr => by
   cases x with
   | u x =>
     simp only [zox] at hc
     split at hc
     · rename_i us' hus
       cases hc
       cases hr with
       | cons a n b => cases a with | u a => exact .cons a (RpC.toU hus b)
     · cases hc
   | nl s =>
     simp only [zox] at hc
     split at hc
     · rename_i us' hus
       cases hc
       cases hr with
       | cons a n b => cases a; exact .cons (.nil _ _ _) (RpC.toU hus b)
     · cases hc
   | _ => simp [zox] at hc
theorem zfv {T : TypeId} (hl : ztx P T = some (.one z)) : zc9 P T = some (.one z.1) := by
 unfold ztx at hl
 cases h1 : zc9 P T with
 | none => rw [h1] at hl; simp at hl
 | some l =>
   rw [h1] at hl
   cases l with
   | one z' => cases h2 : zgo P 9 T with
     | nil => rw [h2] at hl; simp at hl
     | cons s ss => rw [h2] at hl; simp at hl; subst hl; rfl
   | many cs => cases hb : zyw cs.length (zgo P 9 T).length <;> simp [hb] at hl
theorem zee {T : TypeId} {zs : List (Value × Nat)} (hl : ztx P T = some (.many zs)) : ∃ cs, zc9 P T = some (.many cs) ∧ cs.length = zs.length := by
 unfold ztx at hl
 cases h1 : zc9 P T with
 | none => rw [h1] at hl; simp at hl
 | some l =>
   rw [h1] at hl
   cases l with
   | one z' => cases h2 : zgo P 9 T with
     | nil => rw [h2] at hl; simp at hl
     | cons s ss => rw [h2] at hl; simp at hl
   | many cs => cases hb : zyw cs.length (zgo P 9 T).length with
     | false => simp [hb] at hl
     | true =>
       simp [hb] at hl; subst hl
       have := zy1 hb
       exact ⟨cs, rfl, by simp [this]⟩
theorem ze9 {z : Value} (hl : zc9 P S = some (.one z)) {o : Nat} (hc : hcell w.heap ⟨b, o, none⟩ = some v) : (loadVar S ⟨b, o, none⟩).run P w = .ok v w := by
 obtain ⟨ha, -, -⟩ := zef hl
 have hv' : w.cell? ⟨b, o, none⟩ = some v := hc
 simp [loadVar, ha, Go.load, Sem.run, hv']
theorem zpt {cs : List Value} (hl : zc9 P S = some (.many cs)) {o : Nat} (hn : vs.length = cs.length) (hc : ∀ j v, vs[j]? = some v → hcell w.heap ⟨b, o + j, none⟩ = some v) :
 (loadVar S ⟨b, o, none⟩).run P w = .ok (.agg vs.toArray) w := by
 obtain ⟨ha, i, hi, hs⟩ := zdg hl
 have hr : (loadCells ⟨b, o, none⟩ vs.length).run P w = .ok vs.toArray w :=
  run_loadCells_list (P := P) w ⟨b, o, none⟩ vs (fun j v hv => by rw [zay]; exact hc j v hv)
 simp [loadVar, ha, zak hi, hs, ← hn, hr]
theorem zvq {z : Value} (hl : zc9 P S = some (.one z)) {xs : Array Value} (hc : xs[i]? = some v) (w : World) : (part S xs i).run P w = .ok v w := by
 obtain ⟨ha, -, -⟩ := zef hl
 simp only [part, Sem.run_bind, ha, zza, z0x, if_false, hc]
 rfl
theorem zvp {cs : List Value} (hl : zc9 P S = some (.many cs)) {p s : List Value} (hn : vs.length = cs.length) (w : World) :
 (part S (p ++ (vs ++ s)).toArray p.length).run P w = .ok (.agg vs.toArray) w := by
 obtain ⟨ha, i, hi, hs⟩ := zdg hl
 simp only [part, Sem.run_bind, ha, zza, if_true, zak hi, Sem.run_pure]
 congr 2
 simp [hs, ← hn]
theorem Rd.pp_iff {p o : Nat} {c : List U} (hr : Rd D (.pointer (some ⟨p, o, none⟩)) (.p (some c))) : ∃ (arr : Array Value) (S : TypeId) (f : Nat × Nat) (v : Nat → Value), D p = some (.cells arr S f) ∧
 (∀ j u, c[j]? = some u → arr[o + j]? = some (v j)) ∧ ∀ j u, c[j]? = some u → Rd D (v j) u := by
 cases hr with
 | pp b o arr S f us v h1 h2 h3 => exact ⟨arr, S, f, v, h1, h2, h3⟩
theorem zcs {c : Array Value} {e : TypeId} {f : Nat × Nat} (hb : w.heap[b]? = some (.cells c e f)) (o : Nat) : hcell w.heap ⟨b, o, none⟩ = c[o]? := zaz hb o
theorem load1_S (hl : ztx P S = some (.one z)) {a : V} (hs : zly z a m KS) (M : SAt D ρ m chs C h) (ha : Rp D ρ va a) (hbs : ∀ b, b ∈ zae a → inL bs b = true) :
 ∃ bb oo v x, va = .pointer (some ⟨bb, oo, none⟩) ∧ KS x ∧ Rp D ρ v x ∧ ∀ w, Hs D chs bs w → (loadVar S ⟨bb, oo, none⟩).run P w = .ok v w := by
 have hl := zfv hl
 cases a with
 | r b o =>
   simp only [zly] at hs
   split at hs
   · rename_i cells hm
     obtain ⟨L, ch, h1, h2, h3⟩ := M.get (b := b) (by rw [hm]; simp)
     rw [hm] at h3
     cases h3 with
     | c hc =>
       rename_i arr S'
       split at hs
       · rename_i v l hd
         obtain ⟨hk, hK⟩ := zaa hs
         obtain ⟨p, s, rfl, hp, hr⟩ := zcu hd hc
         cases ha with
         | r ha =>
           rw [h1] at ha; cases ha
           cases hr with
           | cons x n y =>
             refine ⟨_, _, _, _, rfl, hK, x, fun w hw => ze9 hl ?_⟩
             rw [zcs (hw L.b _ (.inr ⟨b, _, hbs b (by simp [zae]), h2, zzx _⟩))]
             simp [← hp]
           | n hl' y => simp [shOk] at hk
       · exact hs.elim
   · exact hs.elim
 | g b o w k =>
   simp only [zly] at hs
   split at hs
   · rename_i cells hm
     obtain ⟨L, ch, h1, h2, h3⟩ := M.get (b := b) (by rw [hm]; simp)
     rw [hm] at h3
     cases h3 with
     | c hc =>
       rename_i arr S'
       split at hs
       · rename_i k' w' l r hd
         obtain ⟨hk, hK⟩ := zaa hs
         simp only [zyy] at hk
         obtain ⟨p, s, rfl, hp, hr⟩ := zcu hd hc
         obtain ⟨h0, n, hn, hK⟩ := zdx hK
         have hk3 : k' = .i64 := by
          cases k' <;> first | rfl | (have := hk.1.2; simp [zax] at this)
         subst hk3
         cases ha with
         | g ha =>
           rw [h1] at ha; cases ha
           cases hr with
           | cons x n y => exact absurd rfl (n _ _ _)
           | n hl' y =>
             refine ⟨_, _, .int .i64 n, _, rfl, hK, .u (.int _ _), fun w hw => ze9 hl ?_⟩
             rw [zcs (hw L.b _ (.inr ⟨b, _, hbs b (by simp [zae]), h2, zzx _⟩))]
             simp only [z0a]
             rw [zzn (by omega), hp, show o + k.toNat - o = k.toNat by omega]
             exact zai (by simp [hn])
       · exact hs.elim
   · exact hs.elim
 | e b sz k o =>
   simp only [zly] at hs
   split at hs
   · rename_i E sz' rows hm
     obtain ⟨L, ch, h1, h2, h3⟩ := M.get (b := b) (by rw [hm]; simp)
     rw [hm] at h3
     obtain ⟨hk, hK⟩ := zaa hs
     have := zy1 hk
     subst this
     obtain ⟨h0, r, hr, hK⟩ := zdx hK
     obtain ⟨u, hu, hK⟩ := zmc hK
     rw [zu3] at hu
     cases ha with
     | e ha hL hk0 hk1 =>
       rename_i p q L'
       rw [h1] at ha; cases ha
       cases h3 with
       | w own hn =>
         generalize hA : L.a = A at *
         generalize L.c = cc at own
         subst hL
         cases own with
         | nil => simp at hr
         | row bb c arr rows v g1 g2 g3 g4 g5 =>
           refine ⟨_, _, _, _, rfl, hK, .u (g5 _ _ _ _ hr hu), fun w hw => ze9 hl ?_⟩
           rw [zcs (hw _ _ (.inr ⟨b, _, hbs b (by simp [zae]), h2, zzx _⟩)), zze]
           exact g4 _ _ _ _ hr hu
   · rename_i E sz' n cells hm
     obtain ⟨L, ch, h1, h2, h3⟩ := M.get (b := b) (by rw [hm]; simp)
     rw [hm] at h3
     obtain ⟨hk, hs2⟩ := zaa hs
     have := zy1 hk
     subst this
     cases ha with
     | e ha hL hk0 hk1 =>
       rename_i p q L'
       rw [h1] at ha; cases ha
       cases h3 with
       | cw hA hN hc hlen h5 h6 =>
         rw [hA] at hL; cases hL
         split at hs2
         · rename_i v l hd
           obtain ⟨hk, hK⟩ := zaa hs2
           obtain ⟨pp, s, rfl, hp, hr⟩ := zcu hd hc
           cases hr with
           | cons x n y =>
             refine ⟨_, _, _, _, rfl, hK, x, fun w hw => ze9 hl ?_⟩
             rw [zcs (hw _ _ (.inr ⟨b, _, hbs b (by simp [zae]), h2, zzx _⟩)), zze, ← hp]
             simp
           | n hl' y => simp [shOk] at hk
         · exact hs2.elim
   · exact hs.elim
 | q c o =>
   simp only [zly] at hs
   obtain ⟨u, hu, hK⟩ := zmc hs
   rw [zu3] at hu
   cases ha with
   | q hr ho =>
     rename_i p o1 o2
     subst ho
     obtain ⟨arr, S', f, v, g1, g2, g3⟩ := hr.pp_iff
     refine ⟨_, _, _, _, rfl, hK, .u (g3 _ _ hu), fun w hw => ze9 hl ?_⟩
     rw [zcs (hw _ _ (.inl g1))]
     exact g2 _ _ hu
 | u x =>
   cases x with
   | p p =>
     simp only [zly] at hs
     obtain ⟨c, rfl, hs2⟩ := zlo hs
     obtain ⟨u, hu, hK⟩ := zmc hs2
     rw [zu3] at hu
     cases ha with
     | u hr =>
       cases hr with
       | pp b o arr S' f us v g1 g2 g3 =>
         refine ⟨_, _, _, _, rfl, hK, .u (g3 _ _ hu), fun w hw => ze9 hl ?_⟩
         rw [zcs (hw _ _ (.inl g1))]
         exact g2 _ _ hu
   | _ => simp only [zly] at hs
 | _ => simp only [zly] at hs
theorem RdL.mk {us : List U} (f : Nat → Value) (hf : ∀ j u, us[j]? = some u → Rd D (f j) u) : RdL D ((zzh us.length).map f) us := RdL.of_get f hf
theorem rmap {f : Nat → Value} {n j : Nat} (hj : ((zzh n).map f)[j]? = some v) : j < n ∧ v = f j := by
 rw [zy5] at hj
 obtain ⟨i, hi, rfl⟩ := z0e.1 hj
 obtain ⟨h1, h2⟩ := zyz.1 hi
 simp at h1 h2
 subst h2
 exact ⟨h1, rfl⟩
theorem loadN_S {zs : List (Value × Nat)} (hl : ztx P S = some (.many zs)) {a : V} (hs : zn8 zs a m KS) (M : SAt D ρ m chs C h) (ha : Rp D ρ va a) (hbs : ∀ b, b ∈ zae a → inL bs b = true) :
 ∃ bb oo v x, va = .pointer (some ⟨bb, oo, none⟩) ∧ KS x ∧ Rp D ρ v x ∧ ∀ w, Hs D chs bs w → (loadVar S ⟨bb, oo, none⟩).run P w = .ok v w := by
 obtain ⟨cs, hl, hn⟩ := zee hl
 -- a row of cells that is frozen, or one's own
 have fin : ∀ {us : List U} {bb oo : Nat} (f : Nat → Value), us.length = zs.length → (∀ j u, us[j]? = some u → Rd D (f j) u) → (∀ j u, us[j]? = some u → ∀ w, Hs D chs bs w → hcell w.heap ⟨bb, oo + j, none⟩ = some (f j)) → KS (.a (us.map .u)) →
  ∃ v x, KS x ∧ Rp D ρ v x ∧ ∀ w, Hs D chs bs w → (loadVar S ⟨bb, oo, none⟩).run P w = .ok v w := by
  intro us bb oo f h1 h2 h3 hK
  refine ⟨_, _, hK, .a (.ofU (RdL.mk f h2)), fun w hw => zpt hl (by simp [h1, hn]) fun j v hv => ?_⟩
  obtain ⟨hj, rfl⟩ := rmap hv
  exact h3 j us[j] (zy0 hj) w hw
 cases a with
 | r b o =>
   simp only [zn8] at hs
   split at hs
   · rename_i cells hm
     obtain ⟨L, ch, h1, h2, h3⟩ := M.get (b := b) (by rw [hm]; simp)
     rw [hm] at h3
     cases h3 with
     | c hc =>
       rename_i arr S'
       split at hs
       · rename_i l hd
         split at hs
         · rename_i vs hv
           obtain ⟨hk, hK⟩ := zaa hs
           obtain ⟨p, s, rfl, hp, hr⟩ := zcu hd hc
           obtain ⟨p2, s2, rfl, hp2, hr⟩ := zlh hv hr
           cases ha with
           | r ha =>
             rw [h1] at ha; cases ha
             refine ⟨_, _, _, _, rfl, hK, .a hr, fun w hw => zpt hl (by rw [hp2, hn]) fun j v hv => ?_⟩
             rw [zcs (hw L.b _ (.inr ⟨b, _, hbs b (by simp [zae]), h2, zzx _⟩))]
             simp only [z0a]
             rw [zzn (by omega), show o + j - p.length = j by omega]
             exact zai hv
         · exact hs.elim
       · exact hs.elim
   · exact hs.elim
 | e b sz k o =>
   simp only [zn8] at hs
   split at hs
   · rename_i E sz' rows hm
     obtain ⟨L, ch, h1, h2, h3⟩ := M.get (b := b) (by rw [hm]; simp)
     rw [hm] at h3
     obtain ⟨hk, hK⟩ := zaa hs
     have := zy1 hk
     subst this
     obtain ⟨h0, r, hr, hK⟩ := zdx hK
     obtain ⟨us, hu1, hu2, hK⟩ := zex hK
     cases ha with
     | e ha hL hk0 hk1 =>
       rename_i p q L'
       rw [h1] at ha; cases ha
       cases h3 with
       | w own hn =>
         generalize hA : L.a = A at *
         generalize L.c = cc at own
         subst hL
         cases own with
         | nil => simp at hr
         | row bb c arr rows v g1 g2 g3 g4 g5 =>
           obtain ⟨v', x, a1, a2, a3⟩ := fin (bb := p) (oo := 0 + k.toNat * sz + o) (fun j => v k.toNat (o + j)) hu1 (fun j u hj => g5 _ _ _ _ hr (hu2 j u hj)) (fun j u hj w hw => by
            rw [zcs (hw _ _ (.inr ⟨b, _, hbs b (by simp [zae]), h2, zzx _⟩)), zze, z0t]
            exact g4 _ _ _ _ hr (hu2 j u hj)) hK
           exact ⟨_, _, v', x, rfl, a1, a2, a3⟩
   · rename_i E sz' n' cells hm
     obtain ⟨L, ch, h1, h2, h3⟩ := M.get (b := b) (by rw [hm]; simp)
     rw [hm] at h3
     obtain ⟨hk, hs2⟩ := zaa hs
     have := zy1 hk
     subst this
     cases ha with
     | e ha hL hk0 hk1 =>
       rename_i p q L'
       rw [h1] at ha; cases ha
       cases h3 with
       | cw hA hN hc hlen h5 h6 =>
         rw [hA] at hL; cases hL
         split at hs2
         · rename_i l hd
           split at hs2
           · rename_i vs hv
             obtain ⟨hk, hK⟩ := zaa hs2
             obtain ⟨p, s, rfl, hp, hr⟩ := zcu hd hc
             obtain ⟨p2, s2, rfl, hp2, hr⟩ := zlh hv hr
             refine ⟨_, _, _, _, rfl, hK, .a hr, fun w hw => zpt hl (by rw [hp2, hn]) fun j v hv => ?_⟩
             rw [zcs (hw _ _ (.inr ⟨b, _, hbs b (by simp [zae]), h2, zzx _⟩)), zze, ← hp]
             simp only [z0a, zy8]
             rw [zzn (by omega), show p.length + j - p.length = j by omega]
             exact zai hv
           · exact hs2.elim
         · exact hs2.elim
   · exact hs.elim
 | q c o =>
   simp only [zn8] at hs
   obtain ⟨us, hu1, hu2, hK⟩ := zex hs
   cases ha with
   | q hr ho =>
     rename_i p o1 o2
     subst ho
     obtain ⟨arr, S', f, v, g1, g2, g3⟩ := hr.pp_iff
     obtain ⟨v', x, a1, a2, a3⟩ := fin (bb := p) (oo := o2 + o) (fun j => v (o + j)) hu1 (fun j u hj => g3 _ _ (hu2 j u hj)) (fun j u hj w hw => by
      rw [zcs (hw _ _ (.inl g1)), z0t]
      exact g2 _ _ (hu2 j u hj)) hK
     exact ⟨_, _, v', x, rfl, a1, a2, a3⟩
 | u x =>
   cases x with
   | p p =>
     simp only [zn8] at hs
     obtain ⟨c, rfl, hs2⟩ := zlo hs
     obtain ⟨us, hu1, hu2, hK⟩ := zex hs2
     cases ha with
     | u hr =>
       cases hr with
       | pp b o arr S' f us' v g1 g2 g3 =>
         obtain ⟨v', x, a1, a2, a3⟩ := fin (bb := b) (oo := o) (fun j => v (0 + j)) hu1 (fun j u hj => g3 _ _ (hu2 j u hj)) (fun j u hj w hw => by
          rw [zcs (hw _ _ (.inl g1))]
          have := g2 _ _ (hu2 j u hj); rw [zze] at this ⊢; exact this) hK
         exact ⟨_, _, v', x, rfl, a1, a2, a3⟩
   | _ => simp only [zn8] at hs
 | _ => simp only [zn8] at hs
theorem zvn {a : V} (hs : sLoad P S a m KS) (M : SAt D ρ m chs C h) (ha : Rp D ρ va a) (hbs : ∀ b, b ∈ zae a → inL bs b = true) :
 ∃ bb oo v x, va = .pointer (some ⟨bb, oo, none⟩) ∧ KS x ∧ Rp D ρ v x ∧ ∀ w, Hs D chs bs w → (loadVar S ⟨bb, oo, none⟩).run P w = .ok v w := by
 unfold sLoad at hs
 split at hs
 · rename_i z hl; exact load1_S hl hs M ha hbs
 · rename_i zs hl; exact loadN_S hl hs M ha hbs
 · exact hs.elim
end
end Go.Proofs.YtacglpinmpncaaaGreat
