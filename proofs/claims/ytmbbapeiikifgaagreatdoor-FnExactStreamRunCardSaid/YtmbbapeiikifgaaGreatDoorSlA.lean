/- The symbolic states of a Go call: data types, symbolic values, chunks of memory, and how a frame and a world are described by them. -/
import Derived.Calls
import Derived.OrdersHeld
import Derived.Laws.AppendOwn
import Derived.KernelRfl
import Derived.Test.YtmbbapeiikifgaaGreatDoorSlGl
namespace Go.Proofs.YtmbbapeiikifgaaGreatDoor
open Go
inductive Ty where
  | int (k : IntKind) | bool | str | pair (a b : Ty) | own (t : Ty)
  deriving DecidableEq
@[reducible] def Ty.T : Ty → Type
  | .int _ => Int
  | .bool => Bool
  | .str => ByteArray
  | .pair a b => a.T × b.T
  | .own t => List t.T
def Ty.sz : Ty → Nat
  | .pair a b => a.sz + b.sz
  | _ => 1
def plain : Ty → Bool
  | .own _ => false
  | .pair a b => plain a && plain b
  | _ => true
inductive C where
  | int (k : IntKind) (n : Int) | bool (b : Bool) | str (s : ByteArray)
  | ptr (o j : Nat)
  | ep (o i : Nat) (t : Ty) (x : t.T) (j : Nat)
  | vp (d : Option Nat) (t : Ty) (x : t.T) (j : Nat)
  | sl (o : Nat)
  | vw (d : Option Nat) (t : Ty) (xs : List t.T)
  | nilp | nilsl | nilfn | nilif | ifc
  | fn (f : FuncId) (caps : List (Nat × Nat))
  | mp (o : Nat)
  | er (b : Bool)
inductive PV where
  | c (x : C) | agg (xs : List C)
inductive AV where
  | p (v : PV) | tup (vs : List PV)
inductive Ob where
  | box (cs : List C)
  | row (t : Ty) (xs : List t.T)
  | mp (t : Ty) (es : List (t.T × Int)) (pd : Option t.T)
  | dead
structure St where
  T : List (Nat × AV)
  H : List Ob
abbrev CS := Nat → Nat → Prop
def Disj (X Y : CS) : Prop := ∀ k j, X k j → Y k j → False
structure Pl where
  av : Option Addr
  len : Nat
  cap : Nat
  S : CS
def SameBut (X : Nat → Prop) (o o' : Option Obj) : Prop :=
  o' = o ∨ (∃ c c' e fr, o = some (.cells c e fr) ∧ o' = some (.cells c' e fr) ∧ c'.size = c.size ∧ ∀ j, ¬ X j → c'[j]? = c[j]?) ∨
    (∃ es n es' n', o = some (.map es n) ∧ o' = some (.map es' n') ∧ X 0) ∨
    ∃ c c' e fr fr', o = some (.cells c e fr) ∧ o' = some (.cells c' e fr') ∧ c'.size = c.size ∧ ∀ j, X j
structure Keep (w w' : World) (S : CS) : Prop where
  os : w'.os = w.os
  tape : w'.tape = w.tape
  output : w'.output = w.output
  size : w.heap.size ≤ w'.heap.size
  blk : ∀ k, k < w.heap.size → SameBut (S k) w.heap[k]? w'.heap[k]?
def fresh (w : World) : CS := fun k _ => w.heap.size ≤ k
def ElemRd (S : CS) (w : World) : (t : Ty) → t.T → Nat → Nat → Prop
  | .int k, x, b, o => w.cell? ⟨b, o, none⟩ = some (.int k x) ∧ S b o
  | .bool, x, b, o => w.cell? ⟨b, o, none⟩ = some (.bool x) ∧ S b o
  | .str, x, b, o => w.cell? ⟨b, o, none⟩ = some (.string x) ∧ S b o
  | .pair a c, x, b, o => ElemRd S w a x.1 b o ∧ ElemRd S w c x.2 b (o + a.sz)
  | .own t, xs, b, o => ∃ av cap, w.cell? ⟨b, o, none⟩ = some (.slice av xs.length cap) ∧ S b o ∧ xs.length ≤ cap ∧
      (xs = [] ∨ ∃ b' o', av = some ⟨b', o', none⟩ ∧ ∀ i x, xs[i]? = some x → ElemRd S w t x b' (o' + i * t.sz))
def SlRd (S : CS) (w : World) (t : Ty) (xs : List t.T) (v : Value) : Prop :=
  ∃ av cap, v = .slice av xs.length cap ∧ xs.length ≤ cap ∧
    (xs = [] ∨ ∃ b' o', av = some ⟨b', o', none⟩ ∧ ∀ i x, xs[i]? = some x → ElemRd S w t x b' (o' + i * t.sz))
def ElemOwn (w : World) : (t : Ty) → t.T → Nat → Nat → CS → Prop
  | .int k, x, b, o, S => w.cell? ⟨b, o, none⟩ = some (.int k x) ∧ ∀ k j, ¬ S k j
  | .bool, x, b, o, S => w.cell? ⟨b, o, none⟩ = some (.bool x) ∧ ∀ k j, ¬ S k j
  | .str, x, b, o, S => w.cell? ⟨b, o, none⟩ = some (.string x) ∧ ∀ k j, ¬ S k j
  | .pair a c, x, b, o, S => ∃ S1 S2, ElemOwn w a x.1 b o S1 ∧ ElemOwn w c x.2 b (o + a.sz) S2 ∧ Disj S1 S2 ∧ ∀ k j, S k j ↔ S1 k j ∨ S2 k j
  | .own t, xs, b, o, S => ∃ av cap, w.cell? ⟨b, o, none⟩ = some (.slice av xs.length cap) ∧
      ((av = none ∧ cap = 0 ∧ xs = [] ∧ ∀ k j, ¬ S k j) ∨
       ∃ g cur e, av = some ⟨g, 0, none⟩ ∧ w.heap[g]? = some (.cells cur e (0, 0)) ∧ cur.size = cap * t.sz ∧ xs.length ≤ cap ∧
         ∃ Ss : Nat → CS, (∀ i x, xs[i]? = some x → ElemOwn w t x g (i * t.sz) (Ss i)) ∧
           (∀ i j, i < xs.length → j < xs.length → i ≠ j → Disj (Ss i) (Ss j)) ∧ (∀ i, i < xs.length → ∀ j, ¬ Ss i g j) ∧
           ∀ k j, S k j ↔ k = g ∨ ∃ i, i < xs.length ∧ Ss i k j)
def RowOwn (w : World) (t : Ty) (xs : List t.T) (p : Pl) : Prop :=
  p.len = xs.length ∧
  ((p.av = none ∧ p.cap = 0 ∧ xs = [] ∧ ∀ k j, ¬ p.S k j) ∨
   ∃ g cur e, p.av = some ⟨g, 0, none⟩ ∧ w.heap[g]? = some (.cells cur e (0, 0)) ∧ cur.size = p.cap * t.sz ∧ (xs.length ≤ p.cap ∧ p.cap ≤ 9223372036854775807) ∧
     ∃ Ss : Nat → CS, (∀ i x, xs[i]? = some x → ElemOwn w t x g (i * t.sz) (Ss i)) ∧
       (∀ i j, i < xs.length → j < xs.length → i ≠ j → Disj (Ss i) (Ss j)) ∧ (∀ i, i < xs.length → ∀ j, ¬ Ss i g j) ∧
       ∀ k j, p.S k j ↔ k = g ∨ ∃ i, i < xs.length ∧ Ss i k j)
def encW : (t : Ty) → t.T → List Value
  | .int k, x => [.int k x]
  | .bool, x => [.bool x]
  | .str, x => [.string x]
  | .pair a b, x => encW a x.1 ++ encW b x.2
  | .own _, _ => []
def keyV : (t : Ty) → t.T → Value
  | .pair a b, x => .agg (encW (.pair a b) x).toArray
  | .int k, x => .int k x
  | .bool, x => .bool x
  | .str, x => .string x
  | .own _, _ => .nilIface
def Ty.deq : (t : Ty) → DecidableEq t.T
  | .int _ => Int.instDecidableEq
  | .bool => instDecidableEqBool
  | .str => (inferInstance : DecidableEq ByteArray)
  | .pair a b => @instDecidableEqProd _ _ (Ty.deq a) (Ty.deq b)
  | .own t => @instDecidableEqList _ (Ty.deq t)
section
variable {α : Type} [DecidableEq α]
def mix : List (α × Int) → α → Nat
  | [], _ => 0
  | e :: es, x => if x = e.1 then 0 else mix es x + 1
def mget : List (α × Int) → α → Int
  | [], _ => 0
  | e :: es, x => if x = e.1 then e.2 else mget es x
def ment : List (α × Int) → α → List (α × Int)
  | [], x => [(x, 0)]
  | e :: es, x => if x = e.1 then e :: es else e :: ment es x
def mput : List (α × Int) → α → Int → List (α × Int)
  | [], x, v => [(x, v)]
  | e :: es, x, v => if x = e.1 then (e.1, v) :: es else e :: mput es x v
end
def pent {t : Ty} (es : List (t.T × Int)) : Option t.T → List (t.T × Int)
  | none => es
  | some x => @ment _ t.deq es x
def MapOwn (w : World) (t : Ty) (es : List (t.T × Int)) (p : Pl) : Prop :=
  ∃ b, p.av = some ⟨b, 0, none⟩ ∧ (∀ k j, p.S k j ↔ k = b) ∧ ∃ mes : Array MapEntry, w.heap[b]? = some (.map mes es.length) ∧ mes.size = es.length ∧
    ∀ (i : Nat) x, es[i]? = some x → ∃ e, mes[i]? = some e ∧ e.key = keyV t x.1 ∧ e.val = .int .i64 x.2 ∧ e.born = i
def zone (M : List Pl) (Z : CS) : Option Nat → CS
  | none => Z
  | some o => fun k j => ∃ p, M[o]? = some p ∧ p.S k j
def CapsRel (M : List Pl) : List (Nat × Nat) → List Value → Prop
  | [], vs => vs = []
  | (o, j) :: cs, vs => ∃ p b f r, vs = .pointer (some ⟨b, f + j, none⟩) :: r ∧ M[o]? = some p ∧ p.av = some ⟨b, f, none⟩ ∧ CapsRel M cs r
def CRel (M : List Pl) (Z : CS) (w : World) : C → Value → Prop
  | .int k n, v => v = .int k n
  | .bool b, v => v = .bool b
  | .str s, v => v = .string s
  | .ptr o j, v => ∃ p b f, M[o]? = some p ∧ p.av = some ⟨b, f, none⟩ ∧ v = .pointer (some ⟨b, f + j, none⟩)
  | .ep o i t x j, v => ∃ p b, M[o]? = some p ∧ p.av = some ⟨b, 0, none⟩ ∧ i < p.len ∧ ElemRd p.S w t x b (i * t.sz) ∧ v = .pointer (some ⟨b, i * t.sz + j, none⟩)
  | .vp d t x j, v => ∃ b f, ElemRd (zone M Z d) w t x b f ∧ v = .pointer (some ⟨b, f + j, none⟩)
  | .sl o, v => ∃ p, M[o]? = some p ∧ v = .slice p.av p.len p.cap
  | .vw d t xs, v => SlRd (zone M Z d) w t xs v
  | .nilp, v => v = .pointer none
  | .nilsl, v => v = .slice none 0 0
  | .nilfn, v => v = .nilFunc
  | .nilif, v => v = .nilIface
  | .ifc, v => ∃ t x, v = .iface t x
  | .fn f caps, v => ∃ vs : List Value, v = .func (.func f) #[] vs.toArray ∧ CapsRel M caps vs
  | .er q, v => (q = true ∧ ∃ t x, v = .iface t x) ∨ (q = false ∧ v = .nilIface)
  | .mp o, v => ∃ p b, M[o]? = some p ∧ p.av = some ⟨b, 0, none⟩ ∧ v = .map (some b)
def CsRel (M : List Pl) (Z : CS) (w : World) : List C → List Value → Prop
  | [], vs => vs = []
  | c :: cs, vs => ∃ v r, vs = v :: r ∧ CRel M Z w c v ∧ CsRel M Z w cs r
def PRel (M : List Pl) (Z : CS) (w : World) : PV → Value → Prop
  | .c x, v => CRel M Z w x v
  | .agg xs, v => ∃ vs : List Value, v = .agg vs.toArray ∧ CsRel M Z w xs vs
def PsRel (M : List Pl) (Z : CS) (w : World) : List PV → List Value → Prop
  | [], vs => vs = []
  | c :: cs, vs => ∃ v r, vs = v :: r ∧ PRel M Z w c v ∧ PsRel M Z w cs r
def ARel (M : List Pl) (Z : CS) (w : World) : AV → Value → Prop
  | .p x, v => PRel M Z w x v
  | .tup xs, v => ∃ vs : List Value, v = .tuple vs.toArray ∧ PsRel M Z w xs vs
def BoxOwn (M : List Pl) (Z : CS) (w : World) (cs : List C) (p : Pl) : Prop :=
  ∃ b f, p.av = some ⟨b, f, none⟩ ∧ (∀ k j, p.S k j ↔ k = b ∧ f ≤ j ∧ j < f + cs.length) ∧
    (∀ i, i < cs.length → w.frozen? ⟨b, f + i, none⟩ = false) ∧
    ∃ vs : List Value, CsRel M Z w cs vs ∧ ∀ i v, vs[i]? = some v → w.cell? ⟨b, f + i, none⟩ = some v
def ObRel (M : List Pl) (Z : CS) (w : World) : Ob → Pl → Prop
  | .box cs, p => BoxOwn M Z w cs p
  | .row t xs, p => RowOwn w t xs p
  | .mp t es pd, p => MapOwn w t (pent es pd) p
  | .dead, p => ∀ k j, ¬ p.S k j
def GK.Rel (w : World) (b : Nat) : GK → Prop
  | .tab k zs => ∃ e fr, w.heap[b]? = some (.cells (zs.map fun z => Value.int k z).toArray e fr)
  | .ifc => ∃ t x, w.cell? ⟨b, 0, none⟩ = some (.iface t x)
  | .num k => ∃ m, w.cell? ⟨b, 0, none⟩ = some (.int k m)
def GRel (Z : CS) (w : World) : Prop := ∀ b g, (b, g) ∈ glbs → (∀ j, Z b j) ∧ g.Rel w b
structure Env where
  P : Program
  w0 : World
  S0 : CS
  Z0 : CS
  M0 : List Pl
  n0 : Nat
  nt : Nat
  f : FuncId
  R : Ending → World → Prop
def Env.b (E : Env) : Frame := { (default : Frame) with fn := E.f, kind := .normal }
structure Rel (E : Env) (st : St) (M : List Pl) (Z : CS) (a : Act) (w : World) : Prop where
  df : a.defers = []
  nt : a.tmps.size = E.nt
  tm : ∀ d x, (d, x) ∈ st.T → ∃ v, a.tmps[d]? = some v ∧ ARel M Z w x v
  ml : M.length = st.H.length
  ob : ∀ (i : Nat) (o : Ob) (p : Pl), st.H[i]? = some o → M[i]? = some p → ObRel M Z w o p
  dj : ∀ (i j : Nat) (p q : Pl), M[i]? = some p → M[j]? = some q → i ≠ j → Disj p.S q.S
  dz : ∀ (i : Nat) (p : Pl), M[i]? = some p → Disj p.S Z
  lt : ∀ (i : Nat) (p : Pl) (k j : Nat), M[i]? = some p → p.S k j → k < w.heap.size
  zl : ∀ k j, Z k j → k < w.heap.size
  kp : Keep E.w0 w E.S0
  os : ∀ (i : Nat) (p : Pl) (k j : Nat), M[i]? = some p → p.S k j → E.S0 k j ∨ fresh E.w0 k j
  zs : ∀ k j, Z k j → E.Z0 k j ∨ E.S0 k j ∨ fresh E.w0 k j
  z0 : ∀ k j, E.Z0 k j → Z k j
  gl : GRel Z w
  g : ∀ i, i < E.n0 → ∃ p p0, M[i]? = some p ∧ E.M0[i]? = some p0 ∧ p.av = p0.av ∧ p.len = p0.len ∧ p.cap = p0.cap
def Ter (E : Env) (cs : List Frame) (todo : List Item) (a : Act) (w : World) : Prop :=
  ∃ e w' fr, E.R e w' ∧ Comes E.P (lone (E.b.at a todo) cs w) (lone fr cs w') e ∧ fr.fn = E.b.fn ∧ fr.leaving E.P w' e
def WT (E : Env) (todo : List Item) (st : St) : Prop :=
  ∀ M Z a w, Rel E st M Z a w → ∀ cs, Ter E cs todo a w
end Go.Proofs.YtmbbapeiikifgaaGreatDoor
