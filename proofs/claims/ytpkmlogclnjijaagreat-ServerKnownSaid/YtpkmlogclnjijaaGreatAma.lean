import Derived.Calls
import Derived.Laws.Sem
import Derived.Laws.Cells
import Derived.Laws.World
/-! An abstract machine for the code, and that its values and its memory stand for those of the model. -/
set_option linter.unusedVariables false

/-
The abstract machine: values as trees, memory as a partial map from names to blocks; the code in a resolved form.
-/
namespace Go.AM

abbrev APtr := Nat × List (Nat × Nat)

structure ASl where
  b : Nat
  p : List (Nat × Nat)
  i : Nat
  k : Nat
  tot : Option Nat

inductive AV where
  | sc (v : Value)
  | ptr (p : Option APtr)
  | slice (s : Option ASl) (len : Nat)
  | map (r : Option Nat)
  | func (f : Nat) (first captured : List APtr)
  | nilFunc
  | iface (t : Nat) (v : Value)
  | nilIface
  | agg (sz : List Nat) (cs : List AV)
  | arr (k : Nat) (cs : List AV)
  | tuple (vs : List AV)

instance : Inhabited AV := ⟨.tuple []⟩

abbrev AV.int (k : IntKind) (n : Int) : AV := .sc (.int k n)
abbrev AV.bool (b : Bool) : AV := .sc (.bool b)

def isSc : Value → Bool
  | .bool _ | .int _ _ | .float _ _ | .string _ => true
  | _ => false

mutual
def flat : AV → List AV
  | .agg _ cs => flats cs
  | .arr _ cs => flats cs
  | v => [v]
def flats : List AV → List AV
  | [] => []
  | c :: cs => flat c ++ flats cs
end

def AV.size : AV → Nat
  | .agg sz _ => sz.sum
  | .arr k cs => k * cs.length
  | _ => 1

def AV.isAgg : AV → Bool
  | .agg .. | .arr .. => true
  | _ => false

mutual
def wf : AV → Prop
  | .agg sz cs => cs.map AV.size = sz ∧ wfs cs
  | .arr k cs => (∀ c ∈ cs, c.size = k) ∧ wfs cs
  | .sc v => isSc v = true
  | .tuple _ => False
  | .slice none n => n = 0
  | .slice (some s) _ => s.tot.isSome ∨ s.p = []
  | _ => True
def wfs : List AV → Prop
  | [] => True
  | c :: cs => wf c ∧ wfs cs
end

/-- The part of a tree at a path; each step bears the place of the part among the cells, which must be right. -/
def getAt : AV → List (Nat × Nat) → Option AV
  | t, [] => some t
  | .agg sz cs, (i, δ) :: p => if (sz.take i).sum = δ then (cs[i]?).bind (getAt · p) else none
  | .arr k cs, (i, δ) :: p => if i * k = δ then (cs[i]?).bind (getAt · p) else none
  | _, _ :: _ => none

/-- May v stand in t's place? -/
def AV.like : AV → AV → Prop
  | .arr k cs, .arr k' cs' => k = k' ∧ cs.length = cs'.length
  | .arr _ _, _ => False
  | _, .arr _ _ => False
  | t, v => t.size = v.size
instance : (t v : AV) → Decidable (t.like v) := fun t v => by unfold AV.like; split <;> infer_instance

def setAt (v : AV) : AV → List (Nat × Nat) → Option AV
  | t, [] => if t.like v then some v else none
  | .agg sz cs, (i, δ) :: p => if (sz.take i).sum = δ then (cs[i]?).bind fun c => (setAt v c p).map fun c' => .agg sz (cs.set i c') else none
  | .arr k cs, (i, δ) :: p => if i * k = δ then (cs[i]?).bind fun c => (setAt v c p).map fun c' => .arr k (cs.set i c') else none
  | _, _ :: _ => none

inductive Blk where
  | tree (t : AV)
  | amap (es : List (AV × AV))
  /-- what may only be read: a part of a block of the model's, of which others may be parts too -/
  | ro (t : AV)

def Blk.rw : Blk → Bool
  | .ro _ => false
  | _ => true

abbrev Mem := Nat → Option Blk

structure St where
  H : Mem
  nx : Nat

def Mem.upd (H : Mem) (i : Nat) (b : Blk) : Mem := fun j => if j = i then some b else H j
def Mem.del (H : Mem) (i : Nat) : Mem := fun j => if j = i then none else H j

inductive Out where
  | val (v : AV)
  | pan (v : AV)

/-! Operands, operations. -/

inductive RX where
  | t (n : Nat)
  | k (v : Value)
  | nilp | nils | nilm | nilf | nili
  | fn (f : Nat)

abbrev Env := List (Nat × AV)
def Env.get : Env → Nat → Option AV
  | [], _ => none
  | (s, v) :: r, t => if s = t then some v else Env.get r t
def Env.put (e : Env) (d : Option Nat) (v : AV) : Env :=
  match d with
  | some d => (d, v) :: e
  | none => e
def Env.keep (e : Env) (l : List Nat) : Env := l.filterMap fun s => (e.get s).map fun v => (s, v)

def Env.ev (e : Env) : RX → Option AV
  | .t n => e.get n
  | .k v => some (.sc v)
  | .nilp => some (.ptr none)
  | .nils => some (.slice none 0)
  | .nilm => some (.map none)
  | .nilf => some .nilFunc
  | .nili => some .nilIface
  | .fn f => some (.func f [] [])
/-- no tuple -/
def Env.ev0 (e : Env) (x : RX) : Option AV :=
  match e.ev x with
  | some (.tuple _) => none
  | r => r
def Env.evs (e : Env) : List RX → Option (List AV)
  | [] => some []
  | x :: xs => (e.ev x).bind fun v => (Env.evs e xs).map fun vs => v :: vs

/-- operations that touch no memory -/
inductive QO where
  | mov (x : RX)
  | pick (c a b : RX)
  | nchk (x : RX)
  | fld (f δ : Nat) (x : RX)
  | fldv (f δ sz : Nat) (agg : Bool) (x : RX)
  | ixs (k : Nat) (x i : RX)
  | ixa (n k : Nat) (x i : RX)
  | ixv (n k : Nat) (agg : Bool) (x i : RX)
  | bin (op : BinOp) (t : Nat) (x y : RX)
  | nil (kind : Nat) (neg : Bool) (x : RX)
  | un (op : UnOp) (x : RX)
  | conv (s d : Nat) (x : RX)
  | bld (zero : AV) (parts : List (Nat × RX))
  | ext (i : Nat) (x : RX)
  | len (str : Bool) (x : RX)
  | capn (x : RX)
  | slc (k : Nat) (x : RX) (lo hi : Option RX)
  | slca (n k : Nat) (x : RX) (lo hi : Option RX)
  | mm (max : Bool) (xs : List RX)
  | mkf (f : Nat) (first captured : List RX)
  | mki (t : Nat) (x : RX)
  | xf (f : Nat) (args : List RX)

/-- operations that read memory -/
inductive RD where
  | ld (agg : Bool) (sz : Nat) (x : RX)
  | look (zero : AV) (ok : Bool) (m k : RX)
  | cvs (x : RX)
  | lenm (m : RX)

/-- operations that make a block and touch nothing else -/
inductive AL where
  | alloc (zero : AV)
  | box (x : RX)
  | bldS (k n : Nat) (zero : AV) (parts : List (Nat × RX))
  | mkS (k bytes : Nat) (zero : AV) (l c : RX)
  | mkM

/-- operations that change memory, and calls -/
inductive AC where
  | st (sz : Nat) (x v : RX)
  | mset (m k v : RX)
  | mdel (m k : RX)
  | app (keep : Bool) (k bytes : Nat) (s x : RX)
  | appz (k bytes : Nat) (zero : AV) (s n : RX)
  | cpy (k : Nat) (d s : RX)
  | callf (f : Nat) (args : List RX)
  | callv (x : RX) (args : List RX)
  | pan (x : RX)

inductive RO where
  | q (o : QO)
  | rd (o : RD)
  | al (o : AL)
  | ac (o : AC)

structure RI where
  dst : Option Nat
  gd : Option (Nat × Bool)
  op : RO

inductive RC where
  | skip | ret
  | exit (id : Nat)
  | reg (ops : List RI) (keep : List Nat)
  | draw (ops : List (Nat × RI × Nat)) (keep : List Nat)
  | seq (a b : RC)
  | cond (c : RX) (a b : RC)
  | block (id : Nat) (c : RC)
  | loop (keep : List Nat) (c : RC)
  | free (l : List Nat) (c : RC)

/-! What closed values come to. -/

def pureRun {α : Type} (P : Program) : Sem α → Option α
  | .pure a => some a
  | .program k => pureRun P (k P)
  | .mark _ k => pureRun P k
  | _ => none

def scs : List AV → Option (List Value)
  | [] => some []
  | .sc v :: r => (scs r).map (v :: ·)
  | _ => none

/-- A tree without addresses, as the model's value. -/
def pv : AV → Option Value
  | .sc v => some v
  | .agg sz cs => (scs (flat (.agg sz cs))).map fun l => .agg l.toArray
  | .arr k cs => (scs (flat (.arr k cs))).map fun l => .agg l.toArray
  | _ => none

def ofSc (v : Value) : Option AV := if isSc v then some (.sc v) else none

def pvs : List AV → Option (List Value)
  | [] => some []
  | v :: r => (pv v).bind fun x => (pvs r).map (x :: ·)

def evBin (P : Program) (op : BinOp) (t : Nat) (x y : AV) : Option AV :=
  (pv x).bind fun a => (pv y).bind fun b => (pureRun P (do eqGuard op t (.const a) (.const b) a b; binOp op t a b)).bind ofSc
def evUn (P : Program) (op : UnOp) (x : AV) : Option AV :=
  match x with
  | .sc a => (pureRun P (Op.unary op a)).bind ofSc
  | _ => none
def evConv (P : Program) (s d : Nat) (x : AV) : Option AV :=
  match x with
  | .sc a => (pureRun P (convert s d a)).bind ofSc
  | _ => none
def evMM (P : Program) (mx : Bool) (xs : List AV) : Option AV :=
  (scs xs).bind fun l => (pureRun P (if mx then Builtin.max_ #[] 0 l.toArray else Builtin.min_ #[] 0 l.toArray)).bind ofSc

/-- A function without a body. -/
def evXf (P : Program) (f : Nat) (xs : List AV) : Option AV :=
  (scs xs).bind fun l => match pureRun P (callFunc f l.toArray) with
    | some (.value r) => ofSc r
    | _ => none

/-- Held against nil: pointers (0), slices (1), functions (2), interfaces (3). -/
def AV.isNil : Nat → AV → Option Bool
  | 0, .ptr p => some p.isNone
  | 1, .slice s _ => some s.isNone
  | 2, .nilFunc => some true
  | 2, .func .. => some false
  | 3, .nilIface => some true
  | 3, .iface .. => some false
  | _, _ => none

def putParts : AV → List (Nat × AV) → Option AV
  | z, [] => some z
  | .agg sz cs, (i, v) :: r => if sz[i]? = some v.size ∧ i < cs.length then putParts (.agg sz (cs.set i v)) r else none
  | .arr k cs, (i, v) :: r => if v.size = k ∧ i < cs.length then putParts (.arr k (cs.set i v)) r else none
  | _, _ :: _ => none

def Env.parts (e : Env) : List (Nat × RX) → Option (List (Nat × AV))
  | [] => some []
  | (i, x) :: r => (e.ev0 x).bind fun v => (Env.parts e r).map fun vs => (i, v) :: vs

/-- The bound of a slice expression. -/
def bnd (e : Env) (d : Nat) (top : Nat) : Option RX → Option Nat
  | none => some d
  | some x => match e.ev x with
    | some (.sc (.int _ i)) => if 0 ≤ i ∧ i ≤ top then some i.toNat else none
    | _ => none

def aptrs : List AV → Option (List APtr)
  | [] => some []
  | .ptr (some p) :: r => (aptrs r).map (p :: ·)
  | _ => none

def evQ (P : Program) (e : Env) : QO → Option AV
  | .mov x => e.ev x
  | .pick c a b => match e.ev c with
    | some (.sc (.bool t)) => if t then e.ev a else e.ev b
    | _ => none
  | .nchk x => match e.ev x with
    | some (.ptr (some p)) => some (.ptr (some p))
    | _ => none
  | .fld f δ x => match e.ev x with
    | some (.ptr (some (b, p))) => some (.ptr (some (b, p ++ [(f, δ)])))
    | _ => none
  | .fldv f δ n g x => match e.ev x with
    | some (.agg sz cs) => if (sz.take f).sum = δ then (cs[f]?).bind fun v => if v.size = n ∧ v.isAgg = g then some v else none else none
    | _ => none
  | .ixs k x i => match e.ev x, e.ev i with
    | some (.slice (some s) n), some (.sc (.int _ i)) => if 0 ≤ i ∧ i < n ∧ s.k = k then some (.ptr (some (s.b, s.p ++ [(s.i + i.toNat, (s.i + i.toNat) * k)]))) else none
    | _, _ => none
  | .ixa n k x i => match e.ev x, e.ev i with
    | some (.ptr (some (b, p))), some (.sc (.int _ i)) => if 0 ≤ i ∧ i < n then some (.ptr (some (b, p ++ [(i.toNat, i.toNat * k)]))) else none
    | _, _ => none
  | .ixv n k g x i => match e.ev x, e.ev i with
    | some (.arr k' cs), some (.sc (.int _ i)) => if 0 ≤ i ∧ i < n ∧ k' = k then (cs[i.toNat]?).bind fun v => if v.isAgg = g then some v else none else none
    | _, _ => none
  | .bin op t x y => (e.ev x).bind fun a => (e.ev y).bind fun b => evBin P op t a b
  | .nil kd neg x => (e.ev x).bind fun a => (a.isNil kd).map fun r => .sc (.bool (r != neg))
  | .un op x => (e.ev x).bind fun a => evUn P op a
  | .conv s d x => (e.ev x).bind fun a => evConv P s d a
  | .bld z ps => (e.parts ps).bind fun l => putParts z l
  | .ext i x => match e.ev x with
    | some (.tuple vs) => vs[i]?
    | _ => none
  | .len st x => match st, e.ev x with
    | false, some (.slice _ n) => some (.int .i64 n)
    | true, some (.sc (.string s)) => some (.int .i64 s.size)
    | _, _ => none
  | .capn x => match e.ev x with
    | some (.slice none _) => some (.int .i64 0)
    | _ => none
  | .slc k x lo hi => match e.ev x with
    | some (.slice (some s) n) => if s.k = k then (bnd e n n hi).bind fun h => (bnd e 0 h lo).bind fun l => some (.slice (some { s with i := s.i + l }) (h - l)) else none
    | some (.slice none _) => (bnd e 0 0 hi).bind fun h => (bnd e 0 h lo).bind fun _ => some (.slice none 0)
    | _ => none
  | .slca n k x lo hi => match e.ev x with
    | some (.ptr (some (b, p))) => (bnd e n n hi).bind fun h => (bnd e 0 h lo).bind fun l => some (.slice (some ⟨b, p, l, k, some n⟩) (h - l))
    | _ => none
  | .mm mx xs => (e.evs xs).bind fun l => evMM P mx l
  | .mkf f a b => (e.evs a).bind fun a => (e.evs b).bind fun b => (aptrs a).bind fun a => (aptrs b).bind fun b => some (.func f a b)
  | .mki t x => (e.ev x).bind fun a => (pv a).map fun v => .iface t v
  | .xf f args => (e.evs args).bind fun l => evXf P f l

/-! Memory. -/

def ldPtr (H : Mem) (p : APtr) : Option AV :=
  match H p.1 with
  | some (.tree t) => getAt t p.2
  | some (.ro t) => getAt t p.2
  | _ => none

def ldTree (H : Mem) (agg : Bool) (sz : Nat) (p : APtr) : Option AV :=
  (ldPtr H p).bind fun v => if v.isAgg = agg ∧ v.size = sz then some v else none

def keyEq : AV → AV → Option Bool
  | .sc (.int k a), .sc (.int k' b) => if k = k' then some (a == b) else none
  | _, _ => none

/-- the place of a key, none where it is not there -/
def findK (x : AV) : List (AV × AV) → Nat → Option (Option (Nat × AV))
  | [], _ => some none
  | (k, v) :: r, i => match keyEq x k with
    | some true => some (some (i, v))
    | some false => findK x r (i + 1)
    | none => none

def AV.isInt : AV → Bool
  | .sc (.int _ _) => true
  | _ => false

def elems (H : Mem) (s : ASl) (n : Nat) : Option (List AV) :=
  match ldPtr H (s.b, s.p) with
  | some (.arr k cs) => if k = s.k ∧ s.i + n ≤ cs.length then some ((cs.drop s.i).take n) else none
  | _ => none

def bytesOf : List AV → Option (List UInt8)
  | [] => some []
  | .sc (.int .u8 n) :: r => (bytesOf r).map (UInt8.ofNat n.toNat :: ·)
  | _ => none

def evR (H : Mem) (e : Env) : RD → Option AV
  | .ld agg sz x => match e.ev x with
    | some (.ptr (some p)) => ldTree H agg sz p
    | _ => none
  | .look z ok m k => match e.ev m, e.ev k with
    | some (.map r), some kv =>
      if kv.isInt then
        match (match r with | none => some [] | some r => match H r with | some (.amap es) => some es | _ => none) with
        | some es => (findK kv es 0).map fun
          | some (_, v) => if ok then .tuple [v, .bool true] else v
          | none => if ok then .tuple [z, .bool false] else z
        | none => none
      else none
    | _, _ => none
  | .cvs x => match e.ev x with
    | some (.slice none _) => some (.sc (.string .empty))
    | some (.slice (some s) n) => if s.k = 1 then (elems H s n).bind fun l => (bytesOf l).map fun b => .sc (.string ⟨b.toArray⟩) else none
    | _ => none
  | .lenm m => match e.ev m with
    | some (.map none) => some (.int .i64 0)
    | some (.map (some r)) => match H r with
      | some (.amap es) => some (.int .i64 es.length)
      | _ => none
    | _ => none

/-- what is made: the value (given the block's name), the block -/
def evAl (e : Env) (i : Nat) : AL → Option (AV × Blk)
  | .alloc z => some (.ptr (some (i, [])), .tree z)
  | .box x => (e.ev0 x).bind fun v => if v.isAgg = true then some (.ptr (some (i, [])), .tree v) else none
  | .bldS k n z ps => (e.parts ps).bind fun l => (putParts (.arr k (List.replicate n z)) l).map fun t => (.slice (some ⟨i, [], 0, k, none⟩) n, .tree t)
  | .mkS k bytes z l c => match e.ev l, e.ev c with
    | some (.sc (.int _ l)), some (.sc (.int _ c)) =>
      if 0 ≤ l ∧ l = c ∧ bytes * l ≤ 2 ^ 47 ∧ l < 2 ^ 62 then some (.slice (some ⟨i, [], 0, k, none⟩) l.toNat, .tree (.arr k (List.replicate l.toNat z))) else none
    | _, _ => none
  | .mkM => some (.map (some i), .amap [])

def setElems (H : Mem) (s : ASl) (l : List AV) : Option Mem :=
  match H s.b with
  | some (.tree t) => match getAt t s.p with
    | some (.arr k cs) => if k = s.k ∧ s.i + l.length ≤ cs.length ∧ (l.all fun v => v.size == k) then
        (setAt (.arr k (cs.take s.i ++ l ++ cs.drop (s.i + l.length))) t s.p).map fun t' => H.upd s.b (.tree t')
      else none
    | _ => none
  | _ => none

def room (need bytes : Nat) : Prop := (need + need / 4 + 512) * bytes ≤ 2 ^ 48
instance (n b : Nat) : Decidable (room n b) := by unfold room; infer_instance

/-- append of elements; 'keep': what was appended to is left as it is, and may only be read from then on: not used -/
def evApp (st : St) (k bytes : Nat) (s : AV) (l : List AV) : Option (AV × St) :=
  match s with
  | .slice none _ => if room l.length bytes then
      (if l = [] then some (.slice none 0, st) else some (.slice (some ⟨st.nx, [], 0, k, none⟩) l.length, ⟨st.H.upd st.nx (.tree (.arr k l)), st.nx + 1⟩)) else none
  | .slice (some s) n =>
    if s.p = [] ∧ s.tot = none ∧ s.k = k ∧ room (n + l.length) bytes then
      match st.H s.b with
      | some (.tree (.arr k' cs)) => if k' = k ∧ s.i + n ≤ cs.length then
          some (.slice (some ⟨st.nx, [], 0, k, none⟩) (n + l.length), ⟨(st.H.del s.b).upd st.nx (.tree (.arr k ((cs.drop s.i).take n ++ l))), st.nx + 1⟩)
        else none
      | _ => none
    else none
  | _ => none

def srcElems (H : Mem) (k : Nat) : AV → Option (List AV)
  | .slice none _ => some []
  | .slice (some s) n => if s.k = k then elems H s n else none
  | _ => none

abbrev CallT := Nat → List AV → St → Option (Out × St)

def evA (F : CallT) (e : Env) (st : St) : AC → Option (Out × St)
  | .st sz x v => match e.ev x, e.ev0 v with
    | some (.ptr (some p)), some v => if v.size = sz then
        match st.H p.1 with
        | some (.tree t) => (setAt v t p.2).map fun t' => (.val (.tuple []), ⟨st.H.upd p.1 (.tree t'), st.nx⟩)
        | _ => none
      else none
    | _, _ => none
  | .mset m k v => match e.ev m, e.ev k, e.ev0 v with
    | some (.map (some r)), some kv, some v => if kv.isInt then
        match st.H r with
        | some (.amap es) => (findK kv es 0).map fun
          | some (i, _) => (.val (.tuple []), ⟨st.H.upd r (.amap (es.set i (kv, v))), st.nx⟩)
          | none => (.val (.tuple []), ⟨st.H.upd r (.amap (es ++ [(kv, v)])), st.nx⟩)
        | _ => none
      else none
    | _, _, _ => none
  | .mdel m k => match e.ev m, e.ev k with
    | some (.map (some r)), some kv => if kv.isInt then
        match st.H r with
        | some (.amap es) => (findK kv es 0).map fun
          | some (i, _) => (.val (.tuple []), ⟨st.H.upd r (.amap (es.eraseIdx i)), st.nx⟩)
          | none => (.val (.tuple []), st)
        | _ => none
      else none
    | _, _ => none
  | .app dropx k bytes s x => match e.ev s, e.ev x with
    | some s, some x => (srcElems st.H k x).bind fun l =>
        (evApp st k bytes s l).map fun (v, st') =>
          (.val v, if dropx then (match x with | .slice (some sx) _ => ⟨st'.H.del sx.b, st'.nx⟩ | _ => st') else st')
    | _, _ => none
  | .appz k bytes z s n => match e.ev s, e.ev n with
    | some s, some (.sc (.int _ n)) => if 0 ≤ n ∧ n < 2 ^ 62 ∧ n * bytes ≤ 2 ^ 48 then (evApp st k bytes s (List.replicate n.toNat z)).map fun (v, st') => (.val v, st') else none
    | _, _ => none
  | .cpy k d s => match e.ev d, e.ev s with
    | some (.slice none _), some (.slice _ _) => some (.val (.int .i64 0), st)
    | some (.slice (some d) n), some (.slice s m) => (srcElems st.H k (.slice s m)).bind fun l =>
        if d.k = k then (setElems st.H d (l.take n)).map fun H' => (.val (.int .i64 (min m n)), ⟨H', st.nx⟩) else none
    | _, _ => none
  | .callf f args => (e.evs args).bind fun l => F f l st
  | .callv x args => match e.ev x with
    | some (.func f a b) => (e.evs args).bind fun l => F f (a.map (fun p => .ptr (some p)) ++ l ++ b.map (fun p => .ptr (some p))) st
    | _ => none
  | .pan x => match e.ev x with
    | some (.iface t v) => some (.pan (.iface t v), st)
    | _ => none

inductive X where
  | norm
  | exit (id : Nat)
  | ret
  | pan (v : AV)

abbrev Rs := Option (X × Env × St)

/-- Is the operation done? -/
def wants (e : Env) : Option (Nat × Bool) → Option Bool
  | none => some true
  | some (s, b) => match e.get s with
    | some (.sc (.bool x)) => some (x == b)
    | some (.tuple []) => some false
    | _ => none

def evRegion (P : Program) (F : CallT) : List RI → Env → St → Rs
  | [], e, st => some (.norm, e, st)
  | o :: r, e, st => match wants e o.gd with
    | none => none
    | some false => evRegion P F r (e.put o.dst (.tuple [])) st
    | some true => match o.op with
      | .q q => (evQ P e q).bind fun v => evRegion P F r (e.put o.dst v) st
      | .rd q => (evR st.H e q).bind fun v => evRegion P F r (e.put o.dst v) st
      | .al q => (evAl e st.nx q).bind fun (v, b) => evRegion P F r (e.put o.dst v) ⟨st.H.upd st.nx b, st.nx + 1⟩
      | .ac q => match evA F e st q with
        | some (.val v, st') => evRegion P F r (e.put o.dst v) st'
        | some (.pan v, st') => some (.pan v, e, st')
        | none => none

end Go.AM

/-
How trees and memory of the abstract machine stand for values and a heap of the model.
-/
namespace Go.AM

structure Loc where
  blk : Nat
  base : Nat
  cap : Nat

abbrev Mp := Nat → Option Loc

def offs (p : List (Nat × Nat)) : Nat := (p.map (·.2)).sum

def All2 {α β : Type} (R : α → β → Prop) : List α → List β → Prop
  | [], [] => True
  | a :: as, b :: bs => R a b ∧ All2 R as bs
  | _, _ => False

section All2
variable {α β : Type} {R R' : α → β → Prop}

theorem All2.imp (h : ∀ a b, R a b → R' a b) : ∀ {l : List α} {k : List β}, All2 R l k → All2 R' l k
  | [], [], _ => trivial
  | _ :: _, _ :: _, ⟨h1, h2⟩ => ⟨h _ _ h1, All2.imp h h2⟩

theorem All2.len : ∀ {l : List α} {k : List β}, All2 R l k → l.length = k.length
  | [], [], _ => rfl
  | _ :: _, _ :: _, ⟨_, h2⟩ => by simp [All2.len h2]

theorem All2.append : ∀ {l : List α} {k : List β} {l' : List α} {k' : List β}, All2 R l k → All2 R l' k' → All2 R (l ++ l') (k ++ k')
  | [], [], _, _, _, h => h
  | _ :: _, _ :: _, _, _, ⟨h1, h2⟩, h => ⟨h1, All2.append h2 h⟩

theorem All2.split : ∀ {l l' : List α} {k : List β}, All2 R (l ++ l') k → All2 R l (k.take l.length) ∧ All2 R l' (k.drop l.length)
  | [], _, k, h => by simp [All2]; exact h
  | _ :: l, l', [], h => h.elim
  | a :: l, l', b :: k, ⟨h1, h2⟩ => by
    have := All2.split h2
    exact ⟨⟨h1, this.1⟩, this.2⟩

theorem All2.get : ∀ {l : List α} {k : List β}, All2 R l k → ∀ (i : Nat) (a : α), l[i]? = some a → ∃ b, k[i]? = some b ∧ R a b
  | [], [], _, i, a, h => by simp at h
  | x :: l, y :: k, ⟨h1, h2⟩, 0, a, h => by
    simp at h; subst h; exact ⟨y, rfl, h1⟩
  | x :: l, y :: k, ⟨h1, h2⟩, i + 1, a, h => by
    simp at h; obtain ⟨b, hb, r⟩ := All2.get h2 i a h; exact ⟨b, by simpa using hb, r⟩

theorem All2.set : ∀ {l : List α} {k : List β}, All2 R l k → ∀ (i : Nat) (a : α) (b : β), R a b → All2 R (l.set i a) (k.set i b)
  | [], [], _, i, a, b, _ => by simp [All2]
  | x :: l, y :: k, ⟨h1, h2⟩, 0, a, b, r => ⟨r, h2⟩
  | x :: l, y :: k, ⟨h1, h2⟩, i + 1, a, b, r => ⟨h1, All2.set h2 i a b r⟩

theorem All2.eraseIdx : ∀ {l : List α} {k : List β}, All2 R l k → ∀ (i : Nat), All2 R (l.eraseIdx i) (k.eraseIdx i)
  | [], [], _, i => by simp [All2]
  | x :: l, y :: k, ⟨h1, h2⟩, 0 => h2
  | x :: l, y :: k, ⟨h1, h2⟩, i + 1 => ⟨h1, All2.eraseIdx h2 i⟩

theorem All2.replicate (n : Nat) (a : α) (b : β) (h : R a b) : All2 R (List.replicate n a) (List.replicate n b) := by
  induction n with
  | zero => trivial
  | succ n ih => exact ⟨h, ih⟩

theorem All2.take : ∀ {l : List α} {k : List β}, All2 R l k → ∀ (i : Nat), All2 R (l.take i) (k.take i)
  | [], [], _, i => by simp [All2]
  | x :: l, y :: k, ⟨h1, h2⟩, 0 => by simp [All2]
  | x :: l, y :: k, ⟨h1, h2⟩, i + 1 => ⟨h1, All2.take h2 i⟩

theorem All2.drop : ∀ {l : List α} {k : List β}, All2 R l k → ∀ (i : Nat), All2 R (l.drop i) (k.drop i)
  | [], [], _, i => by simp [All2]
  | x :: l, y :: k, ⟨h1, h2⟩, 0 => ⟨h1, h2⟩
  | x :: l, y :: k, ⟨h1, h2⟩, i + 1 => All2.drop h2 i
end All2

/-- An address. -/
def RelP (m : Mp) (p : APtr) (a : Addr) : Prop := ∃ l, m p.1 = some l ∧ a = ⟨l.blk, l.base + offs p.2, none⟩

def RelPV (m : Mp) (p : APtr) (v : Value) : Prop := ∃ a, RelP m p a ∧ v = .pointer (some a)

/-- One cell. -/
def RelL (m : Mp) : AV → Value → Prop
  | .sc v, c => c = v
  | .ptr none, c => c = .pointer none
  | .ptr (some p), c => RelPV m p c
  | .slice none n, c => n = 0 ∧ c = .slice none 0 0
  | .slice (some s) n, c => ∃ l a cap, m s.b = some l ∧ c = .slice (some a) n cap ∧ n ≤ cap ∧ cap + s.i = s.tot.getD l.cap ∧ (cap ≠ 0 → a = ⟨l.blk, l.base + offs s.p + s.i * s.k, none⟩)
  | .map none, c => c = .map none
  | .map (some i), c => ∃ l, m i = some l ∧ c = .map (some l.blk)
  | .func f x y, c => ∃ x' y', c = .func (.func f) x' y' ∧ All2 (RelPV m) x x'.toList ∧ All2 (RelPV m) y y'.toList
  | .nilFunc, c => c = .nilFunc
  | .iface t v, c => c = .iface t v
  | .nilIface, c => c = .nilIface
  | _, _ => False

/-- A value that is no tuple. -/
def RelV0 (m : Mp) (v : AV) (c : Value) : Prop :=
  wf v ∧ match v with
  | .agg sz cs => ∃ cells, c = .agg cells ∧ All2 (RelL m) (flat (.agg sz cs)) cells.toList
  | .arr k cs => ∃ cells, c = .agg cells ∧ All2 (RelL m) (flat (.arr k cs)) cells.toList
  | v => RelL m v c

def RelV (m : Mp) (v : AV) (c : Value) : Prop :=
  match v with
  | .tuple vs => ∃ cs, c = .tuple cs ∧ All2 (RelV0 m) vs cs.toList
  | v => RelV0 m v c

def RelBlk (m : Mp) (w : World) (l : Loc) : Blk → Prop
  | .tree t => ∃ c e, w.heap[l.blk]? = some (.cells c e) ∧ wf t ∧ l.base + t.size ≤ c.size ∧ All2 (RelL m) (flat t) ((c.toList.drop l.base).take t.size) ∧
      (match t with | .arr k cs => cs.length ≤ l.cap ∧ l.base + l.cap * k ≤ c.size | _ => True)
  | .amap es => ∃ ms clock, w.heap[l.blk]? = some (.map ms clock) ∧ All2 (fun (x : AV × AV) (e : MapEntry) => RelV0 m x.1 e.key ∧ RelV0 m x.2 e.val) es ms.toList
  | .ro t => ∃ c e, w.heap[l.blk]? = some (.cells c e) ∧ wf t ∧ l.base + t.size ≤ c.size ∧ All2 (RelL m) (flat t) ((c.toList.drop l.base).take t.size)

structure RelH (m : Mp) (H : Mem) (w : World) : Prop where
  blk : ∀ i B, H i = some B → ∃ l, m i = some l ∧ RelBlk m w l B
  inj : ∀ i j Bi Bj li lj, H i = some Bi → H j = some Bj → m i = some li → m j = some lj → (Bi.rw = true ∨ Bj.rw = true) → li.blk = lj.blk → i = j

/-- The map grows: it stays where it was. -/
def Mp.le (m m' : Mp) : Prop := ∀ i l, m i = some l → m' i = some l

theorem Mp.le.refl (m : Mp) : m.le m := fun _ _ h => h
theorem Mp.le.trans {a b c : Mp} (h : a.le b) (h' : b.le c) : a.le c := fun i l x => h' i l (h i l x)

section mono
variable {m m' : Mp} (h : m.le m')
include h

theorem RelPV.mono {p : APtr} {v : Value} : RelPV m p v → RelPV m' p v := fun ⟨a, ⟨l, hl, ha⟩, hv⟩ => ⟨a, ⟨l, h _ _ hl, ha⟩, hv⟩

theorem RelL.mono : ∀ {v : AV} {c : Value}, RelL m v c → RelL m' v c
  | .sc _, _, x => x
  | .ptr none, _, x => x
  | .ptr (some _), _, x => RelPV.mono h x
  | .slice none _, _, x => x
  | .slice (some _) _, _, ⟨l, a, cap, hl, r⟩ => ⟨l, a, cap, h _ _ hl, r⟩
  | .map none, _, x => x
  | .map (some _), _, ⟨l, hl, r⟩ => ⟨l, h _ _ hl, r⟩
  | .func _ _ _, _, ⟨x', y', hc, hx, hy⟩ => ⟨x', y', hc, hx.imp fun _ _ => RelPV.mono h, hy.imp fun _ _ => RelPV.mono h⟩
  | .nilFunc, _, x => x
  | .iface _ _, _, x => x
  | .nilIface, _, x => x

theorem RelV0.mono {v : AV} {c : Value} (r : RelV0 m v c) : RelV0 m' v c := by
  obtain ⟨hw, r⟩ := r
  refine ⟨hw, ?_⟩
  cases v <;> first
    | exact RelL.mono h r
    | (obtain ⟨cells, hc, ha⟩ := r; exact ⟨cells, hc, ha.imp fun _ _ => RelL.mono h⟩)

theorem RelV.mono {v : AV} {c : Value} (r : RelV m v c) : RelV m' v c := by
  cases v <;> first
    | exact RelV0.mono h r
    | (obtain ⟨cs, hc, ha⟩ := r; exact ⟨cs, hc, ha.imp fun _ _ => RelV0.mono h⟩)

theorem RelBlk.mono {w w' : World} {l : Loc} {B : Blk} (hw : w'.heap[l.blk]? = w.heap[l.blk]?) (r : RelBlk m w l B) : RelBlk m' w' l B := by
  cases B with
  | tree t =>
    obtain ⟨c, e, h1, h2, h3, h4, h5⟩ := r
    exact ⟨c, e, by rw [hw]; exact h1, h2, h3, h4.imp fun _ _ => RelL.mono h, h5⟩
  | amap es =>
    obtain ⟨ms, clock, h1, h2⟩ := r
    exact ⟨ms, clock, by rw [hw]; exact h1, h2.imp fun _ _ ⟨a, b⟩ => ⟨RelV0.mono h a, RelV0.mono h b⟩⟩
  | ro t =>
    obtain ⟨c, e, h1, h2, h3, h4⟩ := r
    exact ⟨c, e, by rw [hw]; exact h1, h2, h3, h4.imp fun _ _ => RelL.mono h⟩
end mono

theorem RelBlk.lt {m : Mp} {w : World} {l : Loc} {B : Blk} (r : RelBlk m w l B) : l.blk < w.heap.size := by
  have : ∃ o, w.heap[l.blk]? = some o := by
    cases B with
    | tree t => obtain ⟨c, e, h1, _⟩ := r; exact ⟨_, h1⟩
    | amap es => obtain ⟨ms, clock, h1, _⟩ := r; exact ⟨_, h1⟩
    | ro t => obtain ⟨c, e, h1, _⟩ := r; exact ⟨_, h1⟩
  obtain ⟨o, ho⟩ := this
  exact (Array.getElem?_eq_some_iff.1 ho).1

mutual
theorem flat_len : ∀ (v : AV), wf v → (flat v).length = v.size
  | .agg sz cs, h => by
    obtain ⟨h1, h2⟩ := h
    simp only [flat, AV.size]
    rw [flats_len cs h2, h1]
  | .arr k cs, h => by
    obtain ⟨h1, h2⟩ := h
    simp only [flat, AV.size]
    rw [flats_len cs h2]
    clear h2
    induction cs with
    | nil => simp
    | cons c cs ih =>
      simp only [List.map_cons, List.sum_cons, List.length_cons]
      rw [ih (fun c hc => h1 c (List.mem_cons_of_mem _ hc)), h1 c (List.mem_cons_self ..), Nat.mul_add, Nat.mul_one, Nat.add_comm]
  | .sc _, _ => rfl
  | .ptr _, _ => rfl
  | .slice _ _, _ => rfl
  | .map _, _ => rfl
  | .func _ _ _, _ => rfl
  | .nilFunc, _ => rfl
  | .iface _ _, _ => rfl
  | .nilIface, _ => rfl
  | .tuple _, _ => rfl
theorem flats_len : ∀ (cs : List AV), wfs cs → (flats cs).length = (cs.map AV.size).sum
  | [], _ => rfl
  | c :: cs, h => by
    obtain ⟨h1, h2⟩ := h
    simp only [flats, List.length_append, List.map_cons, List.sum_cons]
    rw [flat_len c h1, flats_len cs h2]
end

theorem wfs_mem : ∀ {cs : List AV}, wfs cs ↔ ∀ c ∈ cs, wf c
  | [] => by simp [wfs]
  | c :: cs => by simp [wfs, wfs_mem (cs := cs)]

theorem flats_append : ∀ (a b : List AV), flats (a ++ b) = flats a ++ flats b
  | [], _ => rfl
  | c :: a, b => by simp [flats, flats_append a b]

theorem flats_split (cs : List AV) (i : Nat) (c : AV) (h : cs[i]? = some c) : flats cs = flats (cs.take i) ++ (flat c ++ flats (cs.drop (i + 1))) := by
  have hi : i < cs.length := (List.getElem?_eq_some_iff.1 h).1
  have hc : cs[i] = c := (List.getElem?_eq_some_iff.1 h).2
  have : cs = cs.take i ++ (c :: cs.drop (i + 1)) := by
    rw [← hc, List.getElem_cons_drop, List.take_append_drop]
  conv => lhs; rw [this]
  rw [flats_append]; rfl

end Go.AM

/-
The check: is an operation in resolved form that of the model's text? And what it does is what the model's does: operations that touch no memory.
-/
namespace Go.AM


/-- Equal closed leaves. -/
def vEq : Value → Value → Bool
  | .bool a, .bool b => a == b
  | .int k a, .int k' b => decide (k = k') && a == b
  | .float k a, .float k' b => decide (k = k') && a == b
  | .string a, .string b => decide (a.data = b.data)
  | .pointer none, .pointer none => true
  | .slice none 0 0, .slice none 0 0 => true
  | .map none, .map none => true
  | .nilFunc, .nilFunc => true
  | .nilIface, .nilIface => true
  | _, _ => false

theorem vEq_eq {a b : Value} (h : vEq a b = true) : a = b := by
  unfold vEq at h
  split at h <;> simp_all
  rename_i a b; cases a; cases b; simp_all

def chkX : Operand → RX → Bool
  | .tmp a, .t b => a == b
  | .const v, .k c => isSc c && vEq v c
  | .const v, .nilp => vEq v (.pointer none)
  | .const v, .nils => vEq v (.slice none 0 0)
  | .const v, .nilm => vEq v (.map none)
  | .const v, .nilf => vEq v .nilFunc
  | .const v, .nili => vEq v .nilIface
  | .func f, .fn g => f == g
  | _, _ => false

def chkXs : List Operand → List RX → Bool
  | [], [] => true
  | a :: as, b :: bs => chkX a b && chkXs as bs
  | _, _ => false

def chkO : Option Operand → Option RX → Bool
  | none, none => true
  | some a, some b => chkX a b
  | _, _ => false

def szOf (P : Program) (t : Nat) : Option Nat := (P.info? t).map (·.size)
def isAggT (P : Program) (t : Nat) : Option Bool := (P.underlying t).map fun | .struct _ | .array _ _ => true | _ => false

/-- The cells of a zero tree. -/
def zcells : List AV → Option (List Value)
  | [] => some []
  | .sc v :: r => (zcells r).map (v :: ·)
  | .ptr none :: r => (zcells r).map (.pointer none :: ·)
  | .slice none 0 :: r => (zcells r).map (.slice none 0 0 :: ·)
  | .map none :: r => (zcells r).map (.map none :: ·)
  | .nilFunc :: r => (zcells r).map (.nilFunc :: ·)
  | .nilIface :: r => (zcells r).map (.nilIface :: ·)
  | _ => none

def vEqs : List Value → List Value → Bool
  | [], [] => true
  | a :: as, b :: bs => vEq a b && vEqs as bs
  | _, _ => false

mutual
def wfB : AV → Bool
  | .agg sz cs => decide (cs.map AV.size = sz) && wfsB cs
  | .arr k cs => (cs.all fun c => c.size == k) && wfsB cs
  | .sc v => isSc v
  | .tuple _ => false
  | .slice none n => n == 0
  | .slice (some s) _ => s.tot.isSome || decide (s.p = [])
  | _ => true
def wfsB : List AV → Bool
  | [] => true
  | c :: cs => wfB c && wfsB cs
end

/-- Is the tree the zero of the type? -/
def zeroIs (P : Program) (t : Nat) (z : AV) : Bool :=
  wfB z && match (P.info? t).bind (·.zero), z.isAgg with
  | some (.agg cs), true => (match zcells (flat z) with | some l => vEqs cs.toList l | none => false)
  | some (.agg _), false => false
  | some v, false => (match zcells [z] with | some [c] => vEq v c | _ => false)
  | _, _ => false

def chkQ (P : Program) : Op → QO → Bool
  | .move x, .mov x' | .assign x, .mov x' => chkX x x'
  | .pick c a b, .pick c' a' b' => chkX c c' && chkX a a' && chkX b b'
  | .nilCheck x, .nchk x' => chkX x x'
  | .fieldAddr T x f, .fld f' δ x' => f == f' && chkX x x' && (match P.underlying T with
    | some (.struct fs) => (match fs[f]? with
      | some fd => fd.offset == δ && (match szOf P fd.type with | some n => n != 0 | none => false)
      | none => false)
    | _ => false)
  | .field T x f, .fldv f' δ n g x' => f == f' && chkX x x' && (match P.underlying T with
    | some (.struct fs) => (match fs[f]? with
      | some fd => fd.offset == δ && decide (szOf P fd.type = some n) && decide (isAggT P fd.type = some g)
      | none => false)
    | _ => false)
  | .indexAddr T x i, .ixs k x' i' => chkX x x' && chkX i i' && (match P.underlying T with
    | some (.slice el) => decide (szOf P el = some k)
    | _ => false)
  | .indexAddr T x i, .ixa n k x' i' => chkX x x' && chkX i i' && (match P.underlying T with
    | some (.array n' el) => n == n' && decide (szOf P el = some k)
    | _ => false)
  | .index T x i, .ixv n k g x' i' => chkX x x' && chkX i i' && (match P.underlying T with
    | some (.array n' el) => n == n' && decide (szOf P el = some k) && decide (isAggT P el = some g)
    | _ => false)
  | .binOp op t x y _, .bin op' t' x' y' => decide (op = op') && t == t' && chkX x x' && chkX y y'
  | .binOp op t x (.const c) _, .nil kd neg x' => (match op, neg with | .eql, false => true | .neq, true => true | _, _ => false) && chkX x x' && (match kd, P.underlying t with
    | 0, some (.pointer _) => vEq c (.pointer none)
    | 1, some (.slice _) => vEq c (.slice none 0 0)
    | 2, some (.func ..) => vEq c .nilFunc
    | 3, some (.interface _) => vEq c .nilIface
    | _, _ => false)
  | .unOp op _ x, .un op' x' => decide (op = op') && chkX x x'
  | .convert s d x, .conv s' d' x' => s == s' && d == d' && chkX x x'
  | .extract t i, .ext i' t' => i == i' && chkX t t'
  | .call { callee := .builtin .len, args, argTypes }, .len st x' => (match args.toList, (argTypes[0]?).bind P.underlying, st with
    | [x], some (.slice _), false | [x], some .string, true => chkX x x'
    | _, _, _ => false)
  | .call { callee := .builtin .cap, args, argTypes }, .capn x' => (match args.toList, (argTypes[0]?).bind P.underlying with
    | [x], some (.slice _) => chkX x x'
    | _, _ => false)
  | .call { callee := .builtin .min, args, .. }, .mm false xs => chkXs args.toList xs
  | .call { callee := .builtin .max, args, .. }, .mm true xs => chkXs args.toList xs
  | .slice T x lo hi none, .slc k x' lo' hi' => chkX x x' && chkO lo lo' && chkO hi hi' && (match P.underlying T with
    | some (.slice el) => decide (szOf P el = some k)
    | _ => false)
  | .slice T x lo hi none, .slca n k x' lo' hi' => chkX x x' && chkO lo lo' && chkO hi hi' && (match P.underlying T with
    | some (.array n' el) => n == n' && decide (szOf P el = some k)
    | _ => false)
  | .makeFunc (.func f) a b, .mkf f' a' b' => f == f' && chkXs a.toList a' && chkXs b.toList b'
  | .makeInterface t x, .mki t' x' => t == t' && chkX x x' && (match P.underlying t with | some (.interface _) => false | some _ => true | none => false)
  | .build T ps, .bld z ps' => zeroIs P T z && chkXs (ps.toList.map (·.2)) (ps'.map (·.2)) && decide (ps.toList.map (·.1) = ps'.map (·.1)) && (match P.underlying T, z with
    | some (.struct fs), .agg sz _ => decide (fs.toList.length = sz.length) && (fs.toList.zipIdx.all fun (f, i) => f.offset == (sz.take i).sum && decide (szOf P f.type = sz[i]?))
    | some (.array _ el), .arr k _ => decide (szOf P el = some k)
    | _, _ => false)
  | .call { callee := .value (.func f), args, .. }, .xf f' args' => f == f' && chkXs args.toList args'
  | _, _ => false

/-! -/

theorem underlying_run {P : Program} {t : Nat} {d : TypeDesc} (h : P.underlying t = some d) (w : World) : (underlying t).run P w = .ok d w := by
  simp [underlying, h]

theorem sizeOf_run {P : Program} {t n : Nat} (h : szOf P t = some n) (w : World) : (sizeOf t).run P w = .ok n w := by
  unfold szOf at h
  cases hi : P.info? t with
  | none => simp [hi] at h
  | some i => simp [hi] at h; simp [sizeOf, typeInfo, hi, h]

theorem isAgg_run {P : Program} {t : Nat} {g : Bool} (h : isAggT P t = some g) (w : World) : (isAgg t).run P w = .ok g w := by
  unfold isAggT at h
  cases hi : P.underlying t with
  | none => simp [hi] at h
  | some d => simp [hi] at h; subst h; simp only [isAgg, Sem.run_bind, underlying_run hi, Result.andThen_ok]; cases d <;> rfl

theorem pureRun_run {α : Type} {P : Program} {s : Sem α} {a : α} (h : pureRun P s = some a) (w : World) : s.run P w = .ok a w := by
  induction s with
  | pure x => simp [pureRun] at h; subst h; rfl
  | program k ih => exact ih P h
  | mark m k ih => exact ih h
  | _ => simp [pureRun] at h

theorem isSc_cases {v : Value} (h : isSc v = true) : (∃ b, v = .bool b) ∨ (∃ k n, v = .int k n) ∨ (∃ k b, v = .float k b) ∨ (∃ s, v = .string s) := by
  cases v <;> simp_all [isSc]

theorem scs_rel {m : Mp} : ∀ {l : List AV} {vs cs : List Value}, scs l = some vs → All2 (RelL m) l cs → cs = vs
  | [], vs, cs, h, r => by
    simp [scs] at h; subst h
    cases cs with
    | nil => rfl
    | cons => exact r.elim
  | .sc v :: l, vs, cs, h, r => by
    simp only [scs, Option.map_eq_some_iff] at h
    obtain ⟨vs', h', rfl⟩ := h
    cases cs with
    | nil => exact r.elim
    | cons c cs => obtain ⟨r1, r2⟩ := r; rw [scs_rel h' r2]; simp [RelL] at r1; rw [r1]
  | .ptr _ :: _, _, _, h, _ | .slice _ _ :: _, _, _, h, _ | .map _ :: _, _, _, h, _ | .func _ _ _ :: _, _, _, h, _ | .nilFunc :: _, _, _, h, _
  | .iface _ _ :: _, _, _, h, _ | .nilIface :: _, _, _, h, _ | .agg _ _ :: _, _, _, h, _ | .arr _ _ :: _, _, _, h, _ | .tuple _ :: _, _, _, h, _ => by simp [scs] at h

/-- A closed tree stands for one value. -/
theorem pv_rel {m : Mp} {v : AV} {a c : Value} (h : pv v = some a) (r : RelV m v c) : c = a := by
  cases v <;> simp only [pv, Option.some.injEq, reduceCtorEq, Option.map_eq_some_iff] at h
  · subst h; exact r.2
  all_goals
    obtain ⟨l, hl, rfl⟩ := h
    obtain ⟨_, cells, rfl, hc⟩ := r
    rw [← scs_rel hl hc]

theorem ofSc_rel {m : Mp} {a : Value} {v : AV} (h : ofSc a = some v) : RelV m v a := by
  unfold ofSc at h
  split at h
  · simp at h; subst h; exact ⟨by assumption, rfl⟩
  · simp at h

theorem scs_all {m : Mp} : ∀ {xs : List AV} {l cs : List Value}, scs xs = some l → All2 (RelV m) xs cs → cs = l
  | [], l, cs, h, r => by
    simp [scs] at h; subst h
    cases cs with
    | nil => rfl
    | cons => exact r.elim
  | .sc v :: xs, l, cs, h, r => by
    simp only [scs, Option.map_eq_some_iff] at h
    obtain ⟨l', h', rfl⟩ := h
    cases cs with
    | nil => exact r.elim
    | cons c cs => obtain ⟨r1, r2⟩ := r; rw [scs_all h' r2]; rw [r1.2]
  | .ptr _ :: _, _, _, h, _ | .slice _ _ :: _, _, _, h, _ | .map _ :: _, _, _, h, _ | .func _ _ _ :: _, _, _, h, _ | .nilFunc :: _, _, _, h, _
  | .iface _ _ :: _, _, _, h, _ | .nilIface :: _, _, _, h, _ | .agg _ _ :: _, _, _, h, _ | .arr _ _ :: _, _, _, h, _ | .tuple _ :: _, _, _, h, _ => by simp [scs] at h

/-- The operands read as the environment says. -/
def RelEnv (m : Mp) (e : Env) (tmps : Array Value) : Prop := ∀ s v, e.get s = some v → RelV m v (tmps.getD s undef)

theorem RelEnv.mono {m m' : Mp} (h : m.le m') {e : Env} {t : Array Value} (r : RelEnv m e t) : RelEnv m' e t := fun s v hv => (r s v hv).mono h

theorem chkX_rel {m : Mp} {e : Env} {a : Act} (hr : RelEnv m e a.tmps) {x : Operand} {x' : RX} {v : AV} (hc : chkX x x' = true) (hv : e.ev x' = some v) : RelV m v (a.eval x) := by
  unfold chkX at hc
  split at hc <;> simp only [Env.ev, Option.some.injEq] at hv <;> (try (simp at hc; done))
  · simp at hc; subst hc; exact hr _ _ hv
  all_goals first
    | (simp only [Bool.and_eq_true] at hc; subst hv; exact ⟨hc.1, vEq_eq hc.2⟩)
    | (subst hv; have := vEq_eq hc; subst this; exact ⟨trivial, rfl⟩)
    | (subst hv; have := vEq_eq hc; subst this; exact ⟨rfl, rfl, rfl⟩)
    | (simp at hc; subst hc; subst hv; exact ⟨trivial, #[], #[], rfl, trivial, trivial⟩)

theorem chkXs_rel {m : Mp} {e : Env} {a : Act} (hr : RelEnv m e a.tmps) : ∀ {xs : List Operand} {xs' : List RX} {vs : List AV}, chkXs xs xs' = true → e.evs xs' = some vs →
    All2 (RelV m) vs (xs.map a.eval)
  | [], [], vs, _, hv => by simp [Env.evs] at hv; subst hv; trivial
  | x :: xs, x' :: xs', vs, hc, hv => by
    simp only [chkXs, Bool.and_eq_true] at hc
    simp only [Env.evs, Option.bind_eq_some_iff, Option.map_eq_some_iff] at hv
    obtain ⟨v, h1, vs', h2, rfl⟩ := hv
    exact ⟨chkX_rel hr hc.1 h1, chkXs_rel hr hc.2 h2⟩
  | [], _ :: _, _, hc, _ | _ :: _, [], _, hc, _ => by simp [chkXs] at hc

end Go.AM

/-
Operations that touch no memory: what the machine gives, the model gives.
-/
namespace Go.AM

theorem RelV.sc {m : Mp} {v : Value} {c : Value} (h : RelV m (.sc v) c) : c = v := h.2
theorem rel_sc {m : Mp} {v : Value} (h : isSc v = true) : RelV m (.sc v) v := ⟨h, rfl⟩

theorem offs_append (p : List (Nat × Nat)) (q : List (Nat × Nat)) : offs (p ++ q) = offs p + offs q := by simp [offs]
theorem offs_one (i d : Nat) : offs [(i, d)] = d := by simp [offs]
theorem offs_nil : offs [] = 0 := rfl

theorem flats_at {m : Mp} {cs : List AV} {i : Nat} {c : AV} (hw : wfs cs) (h : cs[i]? = some c) {cells : List Value} (r : All2 (RelL m) (flats cs) cells) :
    All2 (RelL m) (flat c) ((cells.drop ((cs.take i).map AV.size).sum).take c.size) := by
  have hs := flats_split cs i c h
  rw [hs] at r
  have hw1 : wfs (cs.take i) := wfs_mem.2 fun x hx => wfs_mem.1 hw x (List.mem_of_mem_take hx)
  have hl : (flats (cs.take i)).length = ((cs.take i).map AV.size).sum := flats_len _ hw1
  have hc : wf c := wfs_mem.1 hw c (List.mem_of_getElem? h)
  have hcl := flat_len c hc
  have r2 := (All2.split r).2
  rw [hl] at r2
  have r3 := (All2.split r2).1
  rw [hcl] at r3
  exact r3

theorem agg_take {sz : List Nat} {cs : List AV} (h : cs.map AV.size = sz) (i : Nat) : ((cs.take i).map AV.size).sum = (sz.take i).sum := by
  subst h; rw [List.map_take]

theorem arr_take {k : Nat} {cs : List AV} (h : ∀ c ∈ cs, c.size = k) {i : Nat} (hi : i ≤ cs.length) : ((cs.take i).map AV.size).sum = i * k := by
  have : (cs.take i).map AV.size = List.replicate i k := by
    rw [List.eq_replicate_iff]
    refine ⟨by simp; omega, ?_⟩
    intro b hb
    obtain ⟨c, hc, rfl⟩ := List.mem_map.1 hb
    exact h c (List.mem_of_mem_take hc)
  rw [this]; simp

theorem extract_toList (a : Array Value) (i n : Nat) : (a.extract i (i + n)).toList = (a.toList.drop i).take n := by
  simp [Array.toList_extract, List.extract]

/-- A part of a struct's or an array's value. -/
theorem part_rel {m : Mp} {P : Program} {t n : Nat} {g : Bool} {c : AV} {off : Nat} {cells : Array Value} (hw : wf c) (hg : c.isAgg = g) (hn : c.size = n)
    (ht : isAggT P t = some g) (hs : szOf P t = some n) (r : All2 (RelL m) (flat c) ((cells.toList.drop off).take c.size)) :
    ∃ v, RelV m c v ∧ ∀ w, (part t cells off).run P w = .ok v w := by
  cases g with
  | true =>
    refine ⟨.agg (cells.extract off (off + n)), ?_, fun w => by simp [part, isAgg_run ht, sizeOf_run hs]⟩
    have : All2 (RelL m) (flat c) (cells.extract off (off + n)).toList := by rw [extract_toList, ← hn]; exact r
    cases c <;> simp [AV.isAgg] at hg
    · exact ⟨hw, _, rfl, this⟩
    · exact ⟨hw, _, rfl, this⟩
  | false =>
    have h1 : flat c = [c] := by cases c <;> simp [AV.isAgg] at hg <;> rfl
    have h2 : c.size = 1 := by cases c <;> simp [AV.isAgg] at hg <;> rfl
    rw [h1, h2] at r
    obtain ⟨v, hv, hr⟩ := All2.get r 0 c rfl
    have hv' : cells[off]? = some v := by
      rw [List.getElem?_take] at hv
      simp at hv
      exact hv
    refine ⟨v, ?_, fun w => by simp [part, isAgg_run ht, hv']⟩
    cases c with
    | tuple vs => simp [wf] at hw
    | agg => simp [AV.isAgg] at hg
    | arr => simp [AV.isAgg] at hg
    | _ => exact ⟨hw, hr⟩

theorem add_none (b o n : Nat) : (⟨b, o, none⟩ : Addr).add n = ⟨b, o + n, none⟩ := by
  unfold Addr.add; split <;> simp_all

theorem RelV.ptr_inv {m : Mp} {p : APtr} {c : Value} (h : RelV m (.ptr (some p)) c) : ∃ l, m p.1 = some l ∧ c = .pointer (some ⟨l.blk, l.base + offs p.2, none⟩) := by
  obtain ⟨_, a, ⟨l, hl, rfl⟩, rfl⟩ := h; exact ⟨l, hl, rfl⟩

theorem rel_ptr {m : Mp} {b : Nat} {p : List (Nat × Nat)} {l : Loc} (h : m b = some l) {a : Addr} (ha : a = ⟨l.blk, l.base + offs p, none⟩) :
    RelV m (.ptr (some (b, p))) (.pointer (some a)) := ⟨trivial, a, ⟨l, h, ha⟩, rfl⟩

theorem bound_run {m : Mp} {e : Env} {a : Act} (hr : RelEnv m e a.tmps) {d top r : Nat} {x : Operand} {x' : RX} (hc : chkX x x' = true)
    (h : bnd e d top (some x') = some r) (P : Program) (code : BoundsCode) (w : World) : (Instr.sliceBound (a.eval x) top code).run P w = .ok r w := by
  simp only [bnd] at h
  split at h
  · rename_i k i hx
    split at h
    · rename_i hi
      have := (chkX_rel hr hc hx).2
      simp only [RelL] at this
      simp at h; subst h
      rw [this]
      simp [Instr.sliceBound, asIntOf, hi]
    · simp at h
  · simp at h

theorem bnd_le {e : Env} {d top r : Nat} {x : Option RX} (h : bnd e d top x = some r) (hd : d ≤ top) : r ≤ top := by
  cases x with
  | none => simp [bnd] at h; omega
  | some x =>
    simp only [bnd] at h
    split at h
    · split at h
      · simp at h; omega
      · simp at h
    · simp at h

theorem bounds_run {m : Mp} {e : Env} {a : Act} (hr : RelEnv m e a.tmps) {len cap h l : Nat} {lo hi : Option Operand} {lo' hi' : Option RX} (hlo : chkO lo lo' = true) (hhi : chkO hi hi' = true)
    (h1 : bnd e len len hi' = some h) (h2 : bnd e 0 h lo' = some l) (hcap : len ≤ cap) (P : Program) (s : Bool) (w : World) :
    (Instr.sliceBounds s len cap (lo.map a.eval) (hi.map a.eval) none).run P w = .ok (l, h, cap) w := by
  have hh : h ≤ len := bnd_le h1 (Nat.le_refl _)
  have step2 : ∀ (code : BoundsCode), (match lo.map a.eval with | some v => Instr.sliceBound v h code | none => pure 0).run P w = .ok l w := by
    intro code
    cases lo with
    | none =>
      cases lo' with
      | none => simp [bnd] at h2; subst h2; rfl
      | some _ => simp [chkO] at hlo
    | some x =>
      cases lo' with
      | none => simp [chkO] at hlo
      | some x' => exact bound_run hr hlo h2 P code w
  have step1 : ∀ (code : BoundsCode), (match hi.map a.eval with | some v => Instr.sliceBound v cap code | none => pure len).run P w = .ok h w := by
    intro code
    cases hi with
    | none =>
      cases hi' with
      | none => simp [bnd] at h1; subst h1; rfl
      | some _ => simp [chkO] at hhi
    | some x =>
      cases hi' with
      | none => simp [chkO] at hhi
      | some x' =>
        have h1' : bnd e 0 cap (some x') = some h := by
          simp only [bnd] at h1 ⊢
          split at h1
          · split at h1
            · simp at h1
              rw [if_pos (by omega)]; simp [h1]
            · simp at h1
          · simp at h1
        exact bound_run hr hhi h1' P code w
  unfold Instr.sliceBounds
  cases hi with
  | none =>
    have := step1 .sliceB
    simp only [Option.map_none] at this
    simp only [Sem.run_bind, Sem.run_pure, Result.andThen_ok, Option.map_none]
    have e1 : len = h := by simpa using this
    subst e1
    have := step2 .sliceB
    cases lo with
    | none => simp at this ⊢; exact this
    | some x => simp only [Option.map_some] at this ⊢; simp [this]
  | some y =>
    have := step1 (if s then .sliceAcap else .sliceAlen)
    simp only [Option.map_some] at this
    simp only [Sem.run_bind, Sem.run_pure, Result.andThen_ok, Option.map_some, this]
    have := step2 .sliceB
    cases lo with
    | none => simp at this ⊢; exact this
    | some x => simp only [Option.map_some] at this ⊢; simp [this]

end Go.AM

namespace Go.AM

/-! build -/

theorem zcells_rel {m : Mp} : ∀ {l : List AV} {cs : List Value}, (∀ v ∈ l, wf v) → zcells l = some cs → All2 (RelL m) l cs
  | [], cs, _, h => by simp [zcells] at h; subst h; trivial
  | v :: l, cs, hw, h => by
    have hw' := fun v hv => hw v (List.mem_cons_of_mem _ hv)
    unfold zcells at h
    split at h <;> simp only [Option.map_eq_some_iff, reduceCtorEq, Option.some.injEq] at h
    · simp at *
    all_goals
      rename_i heq
      simp only [List.cons.injEq] at heq
      obtain ⟨rfl, rfl⟩ := heq
      obtain ⟨cs', h', rfl⟩ := h
      refine ⟨?_, zcells_rel hw' h'⟩
      simp [RelL]

mutual
theorem wfB_wf : ∀ (v : AV), wfB v = true → wf v
  | .agg sz cs, h => by
    simp only [wfB, Bool.and_eq_true, decide_eq_true_eq] at h
    exact ⟨h.1, wfsB_wfs cs h.2⟩
  | .arr k cs, h => by
    simp only [wfB, Bool.and_eq_true, List.all_eq_true, beq_iff_eq] at h
    exact ⟨h.1, wfsB_wfs cs h.2⟩
  | .sc v, h => h
  | .tuple _, h => by simp [wfB] at h
  | .slice none n, h => by
    simp only [wfB, beq_iff_eq] at h
    exact h
  | .slice (some s) n, h => by
    simp only [wfB, Bool.or_eq_true, decide_eq_true_eq] at h
    exact h
  | .ptr _, _ => trivial
  | .map _, _ => trivial
  | .func _ _ _, _ => trivial
  | .nilFunc, _ => trivial
  | .iface _ _, _ => trivial
  | .nilIface, _ => trivial
theorem wfsB_wfs : ∀ (cs : List AV), wfsB cs = true → wfs cs
  | [], _ => trivial
  | c :: cs, h => by
    simp only [wfsB, Bool.and_eq_true] at h
    exact ⟨wfB_wf c h.1, wfsB_wfs cs h.2⟩
end

mutual
theorem flat_wf : ∀ (v : AV), wf v → ∀ c ∈ flat v, wf c
  | .agg sz cs, h => fun c hc => flats_wf cs h.2 c hc
  | .arr k cs, h => fun c hc => flats_wf cs h.2 c hc
  | .sc v, h => by intro c hc; simp [flat] at hc; subst hc; exact h
  | .tuple _, h => by simp [wf] at h
  | .slice none n, h => by intro c hc; simp [flat] at hc; subst hc; exact h
  | .slice (some s) n, h => by intro c hc; simp [flat] at hc; subst hc; exact h
  | .ptr _, h => by intro c hc; simp [flat] at hc; subst hc; exact h
  | .map _, h => by intro c hc; simp [flat] at hc; subst hc; exact h
  | .func _ _ _, h => by intro c hc; simp [flat] at hc; subst hc; exact h
  | .nilFunc, h => by intro c hc; simp [flat] at hc; subst hc; exact h
  | .iface _ _, h => by intro c hc; simp [flat] at hc; subst hc; exact h
  | .nilIface, h => by intro c hc; simp [flat] at hc; subst hc; exact h
theorem flats_wf : ∀ (cs : List AV), wfs cs → ∀ c ∈ flats cs, wf c
  | [], _ => by simp [flats]
  | x :: cs, h => by
    intro c hc
    simp only [flats, List.mem_append] at hc
    rcases hc with hc | hc
    · exact flat_wf x h.1 c hc
    · exact flats_wf cs h.2 c hc
end

theorem vEqs_eq : ∀ {a b : List Value}, vEqs a b = true → a = b
  | [], [], _ => rfl
  | x :: a, y :: b, h => by
    simp only [vEqs, Bool.and_eq_true] at h
    rw [vEq_eq h.1, vEqs_eq h.2]
  | [], _ :: _, h | _ :: _, [], h => by simp [vEqs] at h

/-- The zero of a type. -/
theorem zero_rel {P : Program} {t : Nat} {z : AV} (h : zeroIs P t z = true) (m : Mp) : ∃ c, RelV0 m z c ∧ (∀ w, (zeroValue t).run P w = .ok c w) := by
  unfold zeroIs at h
  simp only [Bool.and_eq_true] at h
  obtain ⟨hw, h⟩ := h
  have hw := wfB_wf _ hw
  cases hi : P.info? t with
  | none => simp [hi] at h
  | some i =>
    simp only [hi, Option.bind_some] at h
    have hrun : ∀ v, i.zero = some v → ∀ w, (zeroValue t).run P w = .ok v w := by
      intro v hv w; simp [zeroValue, typeInfo, hi, hv]
    split at h
    · rename_i cs hz hg
      split at h
      · rename_i l hl
        have := vEqs_eq h
        refine ⟨.agg cs, ⟨hw, ?_⟩, hrun _ hz⟩
        have hr : All2 (RelL m) (flat z) cs.toList := this ▸ zcells_rel (flat_wf z hw) hl
        cases z <;> simp [AV.isAgg] at hg
        · exact ⟨cs, rfl, hr⟩
        · exact ⟨cs, rfl, hr⟩
      · simp at h
    · simp at h
    · rename_i v hne hz hg
      split at h
      · rename_i c hc
        have := vEq_eq h
        subst this
        have hr := zcells_rel (m := m) (l := [z]) (by simpa using hw) hc
        refine ⟨v, ⟨hw, ?_⟩, hrun _ hz⟩
        cases z with
        | tuple vs => simp [wf] at hw
        | agg => simp [AV.isAgg] at hg
        | arr => simp [AV.isAgg] at hg
        | _ => exact hr.1
      · simp at h
    · simp at h

theorem foldl_set (l : List Value) : ∀ (cs : Array Value) (off : Nat), off + l.length ≤ cs.size →
    ((l.zipIdx).foldl (fun (cs : Array Value) (x : Value × Nat) => cs.setIfInBounds (off + x.2) x.1) cs).toList = cs.toList.take off ++ l ++ cs.toList.drop (off + l.length) := by
  suffices H : ∀ (l : List Value) (n : Nat) (cs : Array Value) (off : Nat), off + n + l.length ≤ cs.size →
      ((l.zipIdx n).foldl (fun (cs : Array Value) (x : Value × Nat) => cs.setIfInBounds (off + x.2) x.1) cs).toList = cs.toList.take (off + n) ++ l ++ cs.toList.drop (off + n + l.length) by
    intro cs off h; have := H l 0 cs off (by simpa using h); simpa using this
  intro l
  induction l with
  | nil => intro n cs off h; simp
  | cons v l ih =>
    intro n cs off h
    simp only [List.length_cons] at h
    simp only [List.zipIdx_cons, List.foldl_cons]
    rw [show (n + 1) = n + 1 from rfl]
    have := ih (n + 1) (cs.setIfInBounds (off + n) v) off (by simp; omega)
    rw [this]
    have hlt : off + n < cs.toList.length := by simp; omega
    simp only [Array.toList_setIfInBounds, List.length_cons]
    have e1 : (cs.toList.set (off + n) v).take (off + (n + 1)) = cs.toList.take (off + n) ++ [v] := by
      rw [← Nat.add_assoc, List.take_succ_eq_append_getElem (by simpa using hlt), List.take_set_of_le (Nat.le_refl _)]
      simp
    have e2 : (cs.toList.set (off + n) v).drop (off + (n + 1) + l.length) = cs.toList.drop (off + n + (l.length + 1)) := by
      rw [List.drop_set_of_lt (by omega)]
      congr 1; omega
    rw [e1, e2]; simp

theorem cells_of {m : Mp} {v : AV} {c : Value} (h : RelV0 m v c) : All2 (RelL m) (flat v) c.cells.toList ∧ c.cells.size = v.size := by
  obtain ⟨hw, h⟩ := h
  have hl := flat_len v hw
  have key : All2 (RelL m) (flat v) c.cells.toList := by
    cases v with
    | tuple => simp [wf] at hw
    | agg sz cs => obtain ⟨cells, rfl, hr⟩ := h; exact hr
    | arr sz cs => obtain ⟨cells, rfl, hr⟩ := h; exact hr
    | sc v =>
      have hc : c = v := h
      subst hc
      have : c.cells = #[c] := by rcases isSc_cases hw with ⟨_, rfl⟩ | ⟨_, _, rfl⟩ | ⟨_, _, rfl⟩ | ⟨_, rfl⟩ <;> rfl
      rw [this]; exact ⟨rfl, trivial⟩
    | ptr p =>
      have : c.cells = #[c] := by
        cases p with
        | none => have hc : c = .pointer none := h; subst hc; rfl
        | some p => obtain ⟨a, _, rfl⟩ := h; rfl
      rw [this]; exact ⟨h, trivial⟩
    | slice s n =>
      have : c.cells = #[c] := by
        cases s with
        | none => obtain ⟨_, rfl⟩ := h; rfl
        | some p => obtain ⟨_, _, _, _, rfl, _⟩ := h; rfl
      rw [this]; exact ⟨h, trivial⟩
    | map s =>
      have : c.cells = #[c] := by
        cases s with
        | none => have hc : c = .map none := h; subst hc; rfl
        | some p => obtain ⟨_, _, rfl⟩ := h; rfl
      rw [this]; exact ⟨h, trivial⟩
    | func f x y =>
      have : c.cells = #[c] := by obtain ⟨_, _, rfl, _⟩ := h; rfl
      rw [this]; exact ⟨h, trivial⟩
    | nilFunc => have hc : c = .nilFunc := h; subst hc; exact ⟨rfl, trivial⟩
    | nilIface => have hc : c = .nilIface := h; subst hc; exact ⟨rfl, trivial⟩
    | iface t v => have hc : c = .iface t v := h; subst hc; exact ⟨rfl, trivial⟩
  refine ⟨key, ?_⟩
  have := key.len
  rw [hl] at this
  simpa using this.symm

theorem flats_set {cs : List AV} {i : Nat} {c v : AV} (h : cs[i]? = some c) : flats (cs.set i v) = flats (cs.take i) ++ (flat v ++ flats (cs.drop (i + 1))) := by
  have hi : i < cs.length := (List.getElem?_eq_some_iff.1 h).1
  have : (cs.set i v)[i]? = some v := by simp [hi]
  rw [flats_split _ i v this]
  congr 2
  · rw [List.take_set_of_le (Nat.le_refl _)]
  · rw [List.drop_set_of_lt (by omega)]

theorem wfs_set {cs : List AV} {i : Nat} {v : AV} (h : wfs cs) (hv : wf v) : wfs (cs.set i v) := by
  rw [wfs_mem] at *
  intro c hc
  rcases List.mem_or_eq_of_mem_set hc with hc | rfl
  · exact h c hc
  · exact hv

theorem set_map_size {cs : List AV} {i : Nat} {c v : AV} (h : cs[i]? = some c) (hs : v.size = c.size) : (cs.set i v).map AV.size = cs.map AV.size := by
  apply List.ext_getElem?
  intro j
  by_cases hj : i = j
  · subst hj
    have hi : i < cs.length := (List.getElem?_eq_some_iff.1 h).1
    simp [hi, hs, (List.getElem?_eq_some_iff.1 h).2]
  · simp [List.getElem?_set_ne hj]

/-- One part put into a row of trees, and into their cells. -/
theorem put_cells {m : Mp} {cs : List AV} {i : Nat} {c v : AV} {cells vc : List Value} (hw : wfs cs) (h : cs[i]? = some c) (hs : v.size = c.size) (hv : wf v) (r : All2 (RelL m) (flats cs) cells)
    (rv : All2 (RelL m) (flat v) vc) :
    All2 (RelL m) (flats (cs.set i v)) (cells.take ((cs.take i).map AV.size).sum ++ vc ++ cells.drop (((cs.take i).map AV.size).sum + vc.length)) := by
  rw [flats_set h, List.append_assoc]
  rw [flats_split cs i c h] at r
  have hw1 : wfs (cs.take i) := wfs_mem.2 fun x hx => wfs_mem.1 hw x (List.mem_of_mem_take hx)
  have hl : (flats (cs.take i)).length = ((cs.take i).map AV.size).sum := flats_len _ hw1
  have hc : wf c := wfs_mem.1 hw c (List.mem_of_getElem? h)
  have hcl := flat_len c hc
  have hvl := flat_len v hv
  have r1 := (All2.split r).1
  have r2 := (All2.split (All2.split r).2).2
  rw [hl] at r1 r2
  rw [hcl] at r2
  refine r1.append (rv.append ?_)
  have : vc.length = c.size := by rw [← rv.len, hvl, hs]
  rw [this]
  simpa [List.drop_drop, Nat.add_comm] using r2

end Go.AM

namespace Go.AM

/-! build -/

theorem flats_bound {cs : List AV} {i : Nat} {c : AV} (hw : wfs cs) (h : cs[i]? = some c) : ((cs.take i).map AV.size).sum + c.size ≤ (flats cs).length := by
  have hs := flats_split cs i c h
  have hw1 : wfs (cs.take i) := wfs_mem.2 fun x hx => wfs_mem.1 hw x (List.mem_of_mem_take hx)
  have hl : (flats (cs.take i)).length = ((cs.take i).map AV.size).sum := flats_len _ hw1
  have hc : wf c := wfs_mem.1 hw c (List.mem_of_getElem? h)
  have hcl := flat_len c hc
  rw [hs, List.length_append, List.length_append, hl, hcl]; omega

theorem fill_eq (place : Nat → Option (Nat × Nat)) : ∀ (ps : List (Nat × Value)) (cells : Array Value) (z z' : AV) (ps' : List (Nat × AV)) {m : Mp},
    wf z → z.isAgg = true → All2 (RelL m) (flat z) cells.toList → All2 (fun (a : Nat × AV) (b : Nat × Value) => a.1 = b.1 ∧ RelV0 m a.2 b.2) ps' ps →
    (∀ i sz cs, z = .agg sz cs → ∀ s, sz[i]? = some s → place i = some ((sz.take i).sum, s)) → (∀ i k cs, z = .arr k cs → place i = some (i * k, k)) →
    putParts z ps' = some z' → ∃ cells', Instr.fill place cells ps = some cells' ∧ wf z' ∧ z'.isAgg = true ∧ All2 (RelL m) (flat z') cells'.toList
  | [], cells, z, z', ps', m, hw, hg, r, hp, _, _, h => by
    cases ps' with
    | nil => simp [putParts] at h; subst h; exact ⟨cells, rfl, hw, hg, r⟩
    | cons => exact hp.elim
  | (i, c) :: ps, cells, z, z', ps', m, hw, hg, r, hp, h1, h2, h => by
    cases ps' with
    | nil => exact hp.elim
    | cons q ps' =>
      obtain ⟨j, v⟩ := q
      obtain ⟨⟨hij, hv⟩, hp'⟩ := hp
      simp only at hij hv
      subst hij
      obtain ⟨hvc, hvs⟩ := cells_of hv
      have hlen := r.len
      rw [flat_len z hw] at hlen
      cases z with
      | agg sz cs =>
        simp only [putParts] at h
        split at h
        · rename_i hc
          obtain ⟨hc1, hc2⟩ := hc
          have hplace := h1 j sz cs rfl _ hc1
          have hold : ∃ o, cs[j]? = some o := ⟨cs[j], by simp [hc2]⟩
          obtain ⟨o, ho⟩ := hold
          have hos : v.size = o.size := by
            have := hw.1
            rw [← this, List.getElem?_map, ho] at hc1
            simpa using hc1.symm
          have hput := put_cells hw.2 ho hos hv.1 r hvc
          rw [agg_take hw.1 j] at hput
          have hw' : wf (.agg sz (cs.set j v)) := ⟨by rw [set_map_size ho hos]; exact hw.1, wfs_set hw.2 hv.1⟩
          have hle : (sz.take j).sum + c.cells.size ≤ cells.size := by
            have h3 := flats_bound hw.2 ho
            have h4 := r.len
            simp only [flat] at h4
            rw [agg_take hw.1 j] at h3
            simp at h4
            omega
          have hset := foldl_set c.cells.toList cells (sz.take j).sum (by simpa using hle)
          have ih := fill_eq place ps (c.cells.toList.zipIdx.foldl (fun (cs : Array Value) (x : Value × Nat) => cs.setIfInBounds ((sz.take j).sum + x.2) x.1) cells) (.agg sz (cs.set j v)) z' ps' (m := m) hw' rfl
            (by rw [hset]; exact hput) hp' (by intro i sz' cs' he; cases he; exact h1 i sz cs rfl) (by intro i k cs' he; cases he) h
          obtain ⟨cells', hf, rest⟩ := ih
          refine ⟨cells', ?_, rest⟩
          simp only [Instr.fill, hplace]
          rw [if_neg (by simp [hvs]; omega)]
          rw [← hf]
          congr 1
          have : (c.cells.zipIdx).foldl (fun (cs : Array Value) (x : Value × Nat) => cs.setIfInBounds ((sz.take j).sum + x.2) x.1) cells = (c.cells.toList.zipIdx).foldl (fun (cs : Array Value) (x : Value × Nat) => cs.setIfInBounds ((sz.take j).sum + x.2) x.1) cells := by
            rw [← Array.foldl_toList, Array.toList_zipIdx]
          exact this
        · simp at h
      | arr k cs =>
        simp only [putParts] at h
        split at h
        · rename_i hc
          obtain ⟨hc1, hc2⟩ := hc
          have hplace := h2 j k cs rfl
          have hold : ∃ o, cs[j]? = some o := ⟨cs[j], by simp [hc2]⟩
          obtain ⟨o, ho⟩ := hold
          have hos : v.size = o.size := by rw [hc1, hw.1 o (List.mem_of_getElem? ho)]
          have hput := put_cells hw.2 ho hos hv.1 r hvc
          rw [arr_take hw.1 (by omega)] at hput
          have hw' : wf (.arr k (cs.set j v)) := ⟨by
            intro x hx
            rcases List.mem_or_eq_of_mem_set hx with hx | rfl
            · exact hw.1 x hx
            · exact hc1, wfs_set hw.2 hv.1⟩
          have hle : j * k + c.cells.size ≤ cells.size := by
            have h3 := flats_bound hw.2 ho
            have h4 := r.len
            simp only [flat] at h4
            rw [arr_take hw.1 (by omega)] at h3
            simp at h4
            omega
          have hset := foldl_set c.cells.toList cells (j * k) (by simpa using hle)
          have ih := fill_eq place ps (c.cells.toList.zipIdx.foldl (fun (cs : Array Value) (x : Value × Nat) => cs.setIfInBounds (j * k + x.2) x.1) cells) (.arr k (cs.set j v)) z' ps' (m := m) hw' rfl
            (by rw [hset]; exact hput) hp' (by intro i sz' cs' he; cases he) (by intro i k' cs' he; cases he; exact h2 i k cs rfl) h
          obtain ⟨cells', hf, rest⟩ := ih
          refine ⟨cells', ?_, rest⟩
          simp only [Instr.fill, hplace]
          rw [if_neg (by simp [hvs, hc1]; omega)]
          rw [← hf]
          congr 1
          have : (c.cells.zipIdx).foldl (fun (cs : Array Value) (x : Value × Nat) => cs.setIfInBounds (j * k + x.2) x.1) cells = (c.cells.toList.zipIdx).foldl (fun (cs : Array Value) (x : Value × Nat) => cs.setIfInBounds (j * k + x.2) x.1) cells := by
            rw [← Array.foldl_toList, Array.toList_zipIdx]
          exact this
        · simp at h
      | _ => simp [AV.isAgg] at hg

theorem ev0_rel {m : Mp} {e : Env} {a : Act} (hr : RelEnv m e a.tmps) {x : Operand} {x' : RX} {v : AV} (hc : chkX x x' = true) (hv : e.ev0 x' = some v) : RelV0 m v (a.eval x) := by
  unfold Env.ev0 at hv
  split at hv
  · simp at hv
  · rename_i hnt
    have h1 := chkX_rel hr hc hv
    cases v with
    | tuple vs => exact absurd hv (hnt vs)
    | _ => exact h1

theorem parts_rel {m : Mp} {e : Env} {a : Act} (hr : RelEnv m e a.tmps) : ∀ {ps : List (Nat × Operand)} {ps' : List (Nat × RX)} {l : List (Nat × AV)},
    chkXs (ps.map (·.2)) (ps'.map (·.2)) = true → ps.map (·.1) = ps'.map (·.1) → e.parts ps' = some l →
    All2 (fun (a : Nat × AV) (b : Nat × Value) => a.1 = b.1 ∧ RelV0 m a.2 b.2) l (ps.map fun (i, x) => (i, a.eval x))
  | [], [], l, _, _, hl => by simp [Env.parts] at hl; subst hl; trivial
  | (i, x) :: ps, (j, y) :: ps', l, hc, hi, hl => by
    simp only [List.map_cons, chkXs, Bool.and_eq_true] at hc
    simp only [List.map_cons, List.cons.injEq] at hi
    simp only [Env.parts, Option.bind_eq_some_iff, Option.map_eq_some_iff] at hl
    obtain ⟨v, hv, l', hl', rfl⟩ := hl
    exact ⟨⟨hi.1.symm, ev0_rel hr hc.1 hv⟩, parts_rel hr hc.2 hi.2 hl'⟩
  | [], _ :: _, _, hc, _, _ | _ :: _, [], _, hc, _, _ => by simp [chkXs] at hc

end Go.AM

namespace Go.AM

theorem run_fieldPlace {P : Program} {n : Nat} {fd : Field} (hs : szOf P fd.type = some n) (hn : n ≠ 0) (A : Addr) (w : World) : (fieldPlace A fd).run P w = .ok (A.add fd.offset) w := by
  simp [fieldPlace, sizeOf_run hs, hn]

section
variable {P : Program} {m : Mp} {e : Env} {a : Act} (hr : RelEnv m e a.tmps)
include hr

theorem q_pick {c x y : Operand} {c' x' y' : RX} {v : AV} (hc : chkX c c' = true) (hx : chkX x x' = true) (hy : chkX y y' = true) (h : evQ P e (.pick c' x' y') = some v) :
    ∃ r, RelV m v r ∧ ∀ w, (do pure (Next.value (if ← asBool (a.eval c) then a.eval x else a.eval y)) : Sem Next).run P w = .ok (.value r) w := by
  simp only [evQ] at h
  split at h
  · rename_i t ht
    have h1 := (chkX_rel hr hc ht).2
    simp only [RelL] at h1
    cases t
    · simp at h; exact ⟨_, chkX_rel hr hy h, fun w => by simp [h1, asBool]⟩
    · simp at h; exact ⟨_, chkX_rel hr hx h, fun w => by simp [h1, asBool]⟩
  · simp at h

theorem q_fld {T : Nat} {x : Operand} {x' : RX} {f δ n : Nat} {fs : Array Field} {fd : Field} {v : AV} (hx : chkX x x' = true) (hT : P.underlying T = some (.struct fs)) (hf : fs[f]? = some fd)
    (hδ : fd.offset = δ) (hs : szOf P fd.type = some n) (hn : n ≠ 0) (h : evQ P e (.fld f δ x') = some v) :
    ∃ r, RelV m v r ∧ ∀ w, (Instr.fieldAt T (a.eval x) f).run P w = .ok r w := by
  simp only [evQ] at h
  split at h
  · rename_i b p hp
    simp at h; subst h
    obtain ⟨l, hl, hv⟩ := (chkX_rel hr hx hp).ptr_inv
    refine ⟨.pointer (some ⟨l.blk, l.base + offs (p ++ [(f, δ)]), none⟩), rel_ptr hl rfl, fun w => ?_⟩
    simp only [Instr.fieldAt, Sem.run_bind, underlying_run hT, Result.andThen_ok, hf, hv, Instr.sureAddr, Sem.run_pure, run_fieldPlace hs hn, add_none, hδ, offs_append, offs_one, Nat.add_assoc]
  · simp at h

theorem q_fldv {T : Nat} {x : Operand} {x' : RX} {f δ n : Nat} {g : Bool} {fs : Array Field} {fd : Field} {v : AV} (hx : chkX x x' = true) (hT : P.underlying T = some (.struct fs)) (hf : fs[f]? = some fd)
    (hδ : fd.offset = δ) (hs : szOf P fd.type = some n) (hg : isAggT P fd.type = some g) (h : evQ P e (.fldv f δ n g x') = some v) :
    ∃ r, RelV m v r ∧ ∀ w, (Instr.field T (a.eval x) f).run P w = .ok r w := by
  simp only [evQ] at h
  split at h
  · rename_i sz cs hp
    split at h
    · rename_i hz
      simp only [Option.bind_eq_some_iff] at h
      obtain ⟨c, hc, h⟩ := h
      split at h
      · rename_i hk
        simp at h; subst h
        obtain ⟨hw, cells, hv, hcells⟩ := chkX_rel hr hx hp
        have hat := flats_at hw.2 hc (cells := cells.toList) hcells
        rw [agg_take hw.1, hz] at hat
        obtain ⟨r, h1, h2⟩ := part_rel (wfs_mem.1 hw.2 c (List.mem_of_getElem? hc)) hk.2 hk.1 hg hs hat
        exact ⟨r, h1, fun w => by simp [Instr.field, underlying_run hT, hf, hv, asAgg, hδ, h2]⟩
      · simp at h
    · simp at h
  · simp at h

theorem q_ixs {T k el : Nat} {x i : Operand} {x' i' : RX} {v : AV} (hx : chkX x x' = true) (hi : chkX i i' = true) (hT : P.underlying T = some (.slice el)) (hs : szOf P el = some k) (h : evQ P e (.ixs k x' i') = some v) :
    ∃ r, RelV m v r ∧ ∀ w, (Instr.indexAt T (a.eval x) (a.eval i)).run P w = .ok r w := by
  simp only [evQ] at h
  split at h
  · rename_i s n k' j hp hj
    split at h
    · rename_i hk
      obtain ⟨h0, hlt, rfl⟩ := hk
      simp at h; subst h
      obtain ⟨hw, l, A, cap, hl, hv, hn, hcap, hA⟩ := chkX_rel hr hx hp
      have hj := (chkX_rel hr hi hj).2
      simp only [RelL] at hj
      have hA := hA (by omega)
      refine ⟨.pointer (some ⟨l.blk, l.base + offs (s.p ++ [(s.i + j.toNat, (s.i + j.toNat) * s.k)]), none⟩), rel_ptr hl rfl, fun w => ?_⟩
      simp only [Instr.indexAt, Sem.run_bind, hj, asIntOf, Sem.run_pure, Result.andThen_ok, underlying_run hT, hv, hA, h0, hlt, and_self, if_true, sizeOf_run hs, add_none, offs_append, offs_one]
      simp only [Result.ok.injEq, Value.pointer.injEq, Option.some.injEq, Addr.mk.injEq, and_true, true_and]
      rw [Nat.add_mul]; omega
    · simp at h
  · simp at h

theorem q_ixa {T n k el : Nat} {x i : Operand} {x' i' : RX} {v : AV} (hx : chkX x x' = true) (hi : chkX i i' = true) (hT : P.underlying T = some (.array n el)) (hs : szOf P el = some k) (h : evQ P e (.ixa n k x' i') = some v) :
    ∃ r, RelV m v r ∧ ∀ w, (Instr.indexAt T (a.eval x) (a.eval i)).run P w = .ok r w := by
  simp only [evQ] at h
  split at h
  · rename_i b p k' j hp hj
    split at h
    · rename_i hk
      obtain ⟨h0, hlt⟩ := hk
      simp at h; subst h
      obtain ⟨l, hl, hv⟩ := (chkX_rel hr hx hp).ptr_inv
      have hj := (chkX_rel hr hi hj).2
      simp only [RelL] at hj
      refine ⟨.pointer (some ⟨l.blk, l.base + offs (p ++ [(j.toNat, j.toNat * k)]), none⟩), rel_ptr hl rfl, fun w => ?_⟩
      simp only [Instr.indexAt, Sem.run_bind, hj, asIntOf, Sem.run_pure, Result.andThen_ok, underlying_run hT, hv, Instr.sureAddr, h0, hlt, and_self, if_true, sizeOf_run hs, add_none, offs_append, offs_one, Nat.add_assoc]
    · simp at h
  · simp at h

theorem q_ixv {T n k el : Nat} {g : Bool} {x i : Operand} {x' i' : RX} {v : AV} (hx : chkX x x' = true) (hi : chkX i i' = true) (hT : P.underlying T = some (.array n el)) (hs : szOf P el = some k)
    (hg : isAggT P el = some g) (h : evQ P e (.ixv n k g x' i') = some v) :
    ∃ r, RelV m v r ∧ ∀ w, (Instr.index T (a.eval x) (a.eval i)).run P w = .ok r w := by
  simp only [evQ] at h
  split at h
  · rename_i k' cs ik j hp hj
    split at h
    · rename_i hk
      obtain ⟨h0, hlt, rfl⟩ := hk
      simp only [Option.bind_eq_some_iff] at h
      obtain ⟨c, hc, h⟩ := h
      split at h
      · rename_i hcg
        simp at h; subst h
        obtain ⟨hw, cells, hv, hcells⟩ := chkX_rel hr hx hp
        have hj := (chkX_rel hr hi hj).2
        simp only [RelL] at hj
        have hlen : j.toNat < cs.length := (List.getElem?_eq_some_iff.1 hc).1
        have hat := flats_at hw.2 hc (cells := cells.toList) hcells
        rw [arr_take hw.1 (by omega)] at hat
        have hcs := hw.1 c (List.mem_of_getElem? hc)
        obtain ⟨r, h1, h2⟩ := part_rel (wfs_mem.1 hw.2 c (List.mem_of_getElem? hc)) hcg hcs hg hs hat
        refine ⟨r, h1, fun w => ?_⟩
        simp [Instr.index, hj, asIntOf, underlying_run hT, hv, h0, hlt, sizeOf_run hs, h2]
      · simp at h
    · simp at h
  · simp at h

end

theorem pv_ne_nil {v : AV} {u : Value} (hw : wf v) (h : pv v = some u) : u ≠ .nilIface := by
  cases v <;> simp only [pv, Option.some.injEq, reduceCtorEq, Option.map_eq_some_iff] at h
  · subst h; intro hn; subst hn; exact absurd hw (by simp [wf, isSc])
  all_goals (obtain ⟨_, _, rfl⟩ := h; simp)

theorem eqGuard_closed {op : BinOp} {t : Nat} {x y x' y' : Operand} {u v : Value} (h1 : u ≠ .nilIface) : eqGuard op t x y u v = eqGuard op t x' y' u v := by
  unfold eqGuard
  cases u <;> cases v <;> first | rfl | exact absurd rfl h1

section
variable {P : Program} {m : Mp} {e : Env} {a : Act} (hr : RelEnv m e a.tmps)
include hr

omit hr in
theorem wf_of {v : AV} {c u : Value} (h : RelV m v c) (hp : pv v = some u) : wf v := by
  cases v <;> first | exact h.1 | (simp [pv] at hp)

theorem q_bin {op : BinOp} {t : Nat} {x y : Operand} {x' y' : RX} {v : AV} (hx : chkX x x' = true) (hy : chkX y y' = true) (h : evQ P e (.bin op t x' y') = some v) :
    ∃ r, RelV m v r ∧ ∀ w, (do eqGuard op t x y (a.eval x) (a.eval y); binOp op t (a.eval x) (a.eval y) : Sem Value).run P w = .ok r w := by
  simp only [evQ, Option.bind_eq_some_iff, evBin] at h
  obtain ⟨va, ha, vb, hb, u, hu, v', hv', r, hrun, hsc⟩ := h
  have ra := chkX_rel hr hx ha
  have rb := chkX_rel hr hy hb
  refine ⟨r, ofSc_rel hsc, fun w => ?_⟩
  have := pureRun_run hrun w
  rw [pv_rel hu ra, pv_rel hv' rb]
  rw [eqGuard_closed (pv_ne_nil (wf_of ra hu) hu)]
  exact this

theorem q_un {op : UnOp} {x : Operand} {x' : RX} {v : AV} (hx : chkX x x' = true) (h : evQ P e (.un op x') = some v) :
    ∃ r, RelV m v r ∧ ∀ w, (Op.unary op (a.eval x)).run P w = .ok r w := by
  simp only [evQ, Option.bind_eq_some_iff] at h
  obtain ⟨va, ha, h⟩ := h
  unfold evUn at h
  split at h
  · simp only [Option.bind_eq_some_iff] at h
    obtain ⟨r, hrun, hsc⟩ := h
    have ra := (chkX_rel hr hx ha).2
    simp only [RelL] at ra
    exact ⟨r, ofSc_rel hsc, fun w => by rw [ra]; exact pureRun_run hrun w⟩
  · simp at h

theorem q_conv {s d : Nat} {x : Operand} {x' : RX} {v : AV} (hx : chkX x x' = true) (h : evQ P e (.conv s d x') = some v) :
    ∃ r, RelV m v r ∧ ∀ w, (convert s d (a.eval x)).run P w = .ok r w := by
  simp only [evQ, Option.bind_eq_some_iff] at h
  obtain ⟨va, ha, h⟩ := h
  unfold evConv at h
  split at h
  · simp only [Option.bind_eq_some_iff] at h
    obtain ⟨r, hrun, hsc⟩ := h
    have ra := (chkX_rel hr hx ha).2
    simp only [RelL] at ra
    exact ⟨r, ofSc_rel hsc, fun w => by rw [ra]; exact pureRun_run hrun w⟩
  · simp at h

theorem q_mm {mx : Bool} {xs : List Operand} {xs' : List RX} {at_ : Array Nat} {ty : Nat} {v : AV} (hx : chkXs xs xs' = true) (h : evQ P e (.mm mx xs') = some v) :
    ∃ r, RelV m v r ∧ ∀ w, (if mx then Builtin.max_ at_ ty (xs.map a.eval).toArray else Builtin.min_ at_ ty (xs.map a.eval).toArray).run P w = .ok r w := by
  simp only [evQ, Option.bind_eq_some_iff, evMM] at h
  obtain ⟨l, hl, vs, hvs, r, hrun, hsc⟩ := h
  have := scs_all hvs (chkXs_rel hr hx hl)
  refine ⟨r, ofSc_rel hsc, fun w => ?_⟩
  rw [this]
  have := pureRun_run hrun w
  cases mx <;> exact this

theorem q_ext {i : Nat} {x : Operand} {x' : RX} {v : AV} (hx : chkX x x' = true) (h : evQ P e (.ext i x') = some v) :
    ∃ r, RelV m v r ∧ ∀ w, (Instr.extract (a.eval x) i).run P w = .ok r w := by
  simp only [evQ] at h
  split at h
  · rename_i vs hv
    obtain ⟨cs, hc, hall⟩ := chkX_rel hr hx hv
    obtain ⟨c, hci, hrel⟩ := hall.get i v h
    refine ⟨c, ?_, fun w => by rw [hc]; simp at hci; simp [Instr.extract, hci]⟩
    cases v with
    | tuple vs => exact absurd hrel.1 (by simp [wf])
    | _ => exact hrel
  · simp at h

theorem q_slc {T el n : Nat} {x : Operand} {x' : RX} {lo hi : Option Operand} {lo' hi' : Option RX} {v : AV} (hx : chkX x x' = true) (hlo : chkO lo lo' = true) (hhi : chkO hi hi' = true)
    (hT : P.underlying T = some (.slice el)) (hs : szOf P el = some n) (h : evQ P e (.slc n x' lo' hi') = some v) :
    ∃ r, RelV m v r ∧ ∀ w, (Instr.sliceAt T (a.eval x) (lo.map a.eval) (hi.map a.eval) none).run P w = .ok r w := by
  simp only [evQ] at h
  split at h
  · rename_i s k hp
    split at h
    case isFalse => simp at h
    rename_i hk
    simp only [Option.bind_eq_some_iff, Option.some.injEq] at h
    obtain ⟨hh, h1, l, h2, rfl⟩ := h
    obtain ⟨hw, L, A, cap, hl, hv, hn, hcap, hA⟩ := chkX_rel hr hx hp
    have hhle := bnd_le h1 (Nat.le_refl _)
    have hlle := bnd_le h2 (Nat.zero_le _)
    have hb := fun w => bounds_run hr hlo hhi h1 h2 hn P true w
    refine ⟨.slice (some (if cap = l then A else A.add (l * n))) (hh - l) (cap - l), ⟨hw, L, _, cap - l, hl, rfl, by omega, by simp only []; omega, fun hne => ?_⟩, fun w => ?_⟩
    · rw [if_neg (by omega), hA (by omega), add_none, hk]
      simp only [Addr.mk.injEq, and_true, true_and]
      rw [Nat.add_mul]; omega
    · simp only [Instr.sliceAt, Instr.slice, Sem.run_bind, underlying_run hT, Result.andThen_ok, hv, hb, sizeOf_run hs, Sem.run_pure]
      by_cases hcl : cap = l <;> simp [hcl]
  · rename_i k hp
    simp only [Option.bind_eq_some_iff, Option.some.injEq] at h
    obtain ⟨hh, h1, l, h2, rfl⟩ := h
    obtain ⟨hw, hk0, hv⟩ := chkX_rel hr hx hp
    have hhle := bnd_le h1 (Nat.le_refl _)
    have hlle := bnd_le h2 (Nat.zero_le _)
    have hb := fun w => bounds_run hr hlo hhi h1 h2 (Nat.le_refl 0) P true w
    have e1 : hh = 0 := by omega
    have e2 : l = 0 := by omega
    subst e1 e2
    refine ⟨.slice none 0 0, ⟨rfl, rfl, rfl⟩, fun w => ?_⟩
    simp [Instr.sliceAt, Instr.slice, underlying_run hT, hv, hb, sizeOf_run hs]
  · simp at h

theorem q_slca {T n k el : Nat} {x : Operand} {x' : RX} {lo hi : Option Operand} {lo' hi' : Option RX} {v : AV} (hx : chkX x x' = true) (hlo : chkO lo lo' = true) (hhi : chkO hi hi' = true)
    (hT : P.underlying T = some (.array n el)) (hs : szOf P el = some k) (h : evQ P e (.slca n k x' lo' hi') = some v) :
    ∃ r, RelV m v r ∧ ∀ w, (Instr.sliceAt T (a.eval x) (lo.map a.eval) (hi.map a.eval) none).run P w = .ok r w := by
  simp only [evQ] at h
  split at h
  · rename_i b p hp
    simp only [Option.bind_eq_some_iff, Option.some.injEq] at h
    obtain ⟨hh, h1, l, h2, rfl⟩ := h
    obtain ⟨L, hl, hv⟩ := (chkX_rel hr hx hp).ptr_inv
    have hhle := bnd_le h1 (Nat.le_refl _)
    have hlle := bnd_le h2 (Nat.zero_le _)
    have hb := fun w => bounds_run hr hlo hhi h1 h2 (Nat.le_refl n) P false w
    refine ⟨.slice (some (if n = l then ⟨L.blk, L.base + offs p, none⟩ else (⟨L.blk, L.base + offs p, none⟩ : Addr).add (l * k))) (hh - l) (n - l), ⟨.inl rfl, L, _, n - l, hl, rfl, by omega, by simp; omega, fun hne => by rw [if_neg (by omega), add_none]⟩, fun w => ?_⟩
    simp only [Instr.sliceAt, Sem.run_bind, underlying_run hT, Result.andThen_ok, hv, Instr.sureAddr, hb, sizeOf_run hs, Sem.run_pure]
  · simp at h

omit hr in
theorem aptrs_rel : ∀ {vs : List AV} {ps : List APtr} {cs : List Value}, aptrs vs = some ps → All2 (RelV m) vs cs → All2 (RelPV m) ps cs
  | [], ps, cs, h, r => by
    simp [aptrs] at h; subst h
    cases cs with
    | nil => trivial
    | cons => exact r.elim
  | .ptr (some p) :: vs, ps, cs, h, r => by
    simp only [aptrs, Option.map_eq_some_iff] at h
    obtain ⟨ps', h', rfl⟩ := h
    cases cs with
    | nil => exact r.elim
    | cons c cs => exact ⟨r.1.2, aptrs_rel h' r.2⟩
  | .ptr none :: _, _, _, h, _ | .sc _ :: _, _, _, h, _ | .slice _ _ :: _, _, _, h, _ | .map _ :: _, _, _, h, _ | .func _ _ _ :: _, _, _, h, _ | .nilFunc :: _, _, _, h, _
  | .iface _ _ :: _, _, _, h, _ | .nilIface :: _, _, _, h, _ | .agg _ _ :: _, _, _, h, _ | .arr _ _ :: _, _, _, h, _ | .tuple _ :: _, _, _, h, _ => by simp [aptrs] at h

end

end Go.AM

namespace Go.AM

theorem mapM_run {α β : Type} {P : Program} {w : World} (f : α → Sem β) (g : α → β) : ∀ (l : List α), (∀ x ∈ l, (f x).run P w = .ok (g x) w) → (l.mapM f).run P w = .ok (l.map g) w
  | [], _ => by simp
  | x :: l, h => by
    have ih := mapM_run f g l fun y hy => h y (List.mem_cons_of_mem _ hy)
    simp [List.mapM_cons, h x (List.mem_cons_self ..), ih]

theorem mapM_run_arr {α β : Type} {P : Program} {w : World} (f : α → Sem β) (g : α → β) (l : Array α) (h : ∀ x ∈ l.toList, (f x).run P w = .ok (g x) w) : (l.mapM f).run P w = .ok (l.map g) w := by
  rw [Array.mapM_eq_mapM_toList, Sem.run_map, mapM_run f g l.toList h]
  simp only [Result.andThen_ok, Result.ok.injEq, and_true]
  rw [← Array.toList_map]

section
variable {P : Program} {m : Mp} {e : Env} {a : Act} (hr : RelEnv m e a.tmps)
include hr

theorem q_bld_s {T : Nat} {fs : Array Field} {sz : List Nat} {cs : List AV} {v : AV} {ps : Array (Nat × Operand)} {ps' : List (Nat × RX)} (hz : zeroIs P T (.agg sz cs) = true) (hx : chkXs (ps.toList.map (·.2)) (ps'.map (·.2)) = true)
    (hi : ps.toList.map (·.1) = ps'.map (·.1)) (hT : P.underlying T = some (.struct fs))
    (hc : (decide (fs.toList.length = sz.length) && (fs.toList.zipIdx.all fun (f, i) => f.offset == (sz.take i).sum && decide (szOf P f.type = sz[i]?))) = true)
    (h : evQ P e (.bld (.agg sz cs) ps') = some v) :
    ∃ r, RelV m v r ∧ ∀ w, (Instr.build T (ps.map fun (i, x) => (i, a.eval x))).run P w = .ok r w := by
  simp only [evQ, Option.bind_eq_some_iff] at h
  obtain ⟨l, hl, hput⟩ := h
  have hrel := parts_rel hr hx hi hl
  obtain ⟨c, hcz, hrun⟩ := zero_rel hz m
  obtain ⟨hcells, _⟩ := cells_of hcz
  have hlist : (ps.map fun (x : Nat × Operand) => (x.1, a.eval x.2)).toList = ps.toList.map fun (i, x) => (i, a.eval x) := by simp
  simp only [Bool.and_eq_true, decide_eq_true_eq, List.all_eq_true, beq_iff_eq] at hc
  obtain ⟨hlen, hall⟩ := hc
  have hat : ∀ i f, fs[i]? = some f → f.offset = (sz.take i).sum ∧ szOf P f.type = sz[i]? := by
    intro i f hf
    have := hall (f, i) (by rw [List.mem_zipIdx_iff_getElem?]; simpa using hf)
    simpa using this
  have hplaces : ∀ w, (fs.mapM (fun f => do pure (f.offset, ← sizeOf f.type) : Field → Sem (Nat × Nat))).run P w = .ok (fs.map fun f => (f.offset, (szOf P f.type).getD 0)) w := by
    intro w
    refine mapM_run_arr _ _ _ ?_
    intro f hf
    obtain ⟨i, hi'⟩ := List.getElem?_of_mem hf
    have h1 := hat i f (by simpa using hi')
    have hlt : i < sz.length := by rw [← hlen]; exact (List.getElem?_eq_some_iff.1 hi').1
    have h2 : szOf P f.type = some sz[i] := by rw [h1.2]; simp [hlt]
    simp [sizeOf_run h2, h2]
  obtain ⟨cells', hfill, hw', hg', hr'⟩ := fill_eq ((fs.map fun f => (f.offset, (szOf P f.type).getD 0))[·]?) (ps.toList.map fun (i, x) => (i, a.eval x)) c.cells (.agg sz cs) v l hcz.1 rfl hcells hrel
    (by
      intro i sz' cs' he s hs
      cases he
      have hlt : i < fs.toList.length := by rw [hlen]; exact (List.getElem?_eq_some_iff.1 hs).1
      obtain ⟨f, hf⟩ : ∃ f, fs[i]? = some f := ⟨fs[i]'(by simpa using hlt), by simp at hlt; simp [hlt]⟩
      have h1 := hat i f hf
      simp only [Array.getElem?_map, hf, Option.map_some, h1.1]
      rw [h1.2, hs]; rfl)
    (by intro i k cs' he; cases he) hput
  refine ⟨.agg cells', ?_, fun w => ?_⟩
  · cases v with
    | agg => exact ⟨hw', cells', rfl, hr'⟩
    | arr => exact ⟨hw', cells', rfl, hr'⟩
    | _ => simp [AV.isAgg] at hg'
  · simp only [Instr.build, Sem.run_bind, hrun, Result.andThen_ok, underlying_run hT, hplaces]
    rw [hlist, hfill]
    rfl

theorem q_bld_a {T n el k : Nat} {cs : List AV} {v : AV} {ps : Array (Nat × Operand)} {ps' : List (Nat × RX)} (hz : zeroIs P T (.arr k cs) = true) (hx : chkXs (ps.toList.map (·.2)) (ps'.map (·.2)) = true)
    (hi : ps.toList.map (·.1) = ps'.map (·.1)) (hT : P.underlying T = some (.array n el)) (hs : szOf P el = some k)
    (h : evQ P e (.bld (.arr k cs) ps') = some v) :
    ∃ r, RelV m v r ∧ ∀ w, (Instr.build T (ps.map fun (i, x) => (i, a.eval x))).run P w = .ok r w := by
  simp only [evQ, Option.bind_eq_some_iff] at h
  obtain ⟨l, hl, hput⟩ := h
  have hrel := parts_rel hr hx hi hl
  obtain ⟨c, hcz, hrun⟩ := zero_rel hz m
  obtain ⟨hcells, _⟩ := cells_of hcz
  have hlist : (ps.map fun (x : Nat × Operand) => (x.1, a.eval x.2)).toList = ps.toList.map fun (i, x) => (i, a.eval x) := by simp
  obtain ⟨cells', hfill, hw', hg', hr'⟩ := fill_eq (fun i => some (i * k, k)) (ps.toList.map fun (i, x) => (i, a.eval x)) c.cells (.arr k cs) v l hcz.1 rfl hcells hrel
    (by intro i sz' cs' he; cases he) (by intro i k' cs' he; cases he; rfl) hput
  refine ⟨.agg cells', ?_, fun w => ?_⟩
  · cases v with
    | agg => exact ⟨hw', cells', rfl, hr'⟩
    | arr => exact ⟨hw', cells', rfl, hr'⟩
    | _ => simp [AV.isAgg] at hg'
  · simp only [Instr.build, Sem.run_bind, hrun, Result.andThen_ok, underlying_run hT, sizeOf_run hs]
    rw [hlist, hfill]
    rfl

end

theorem neq_run {op : BinOp} {t : Nat} {x : Operand} {c u : Value} {P : Program} {w : World} {r neg : Bool} (hop : (match op, neg with | .eql, false => true | .neq, true => true | _, _ => false) = true)
    (hg : ∀ op, (eqGuard op t x (.const c) u c).run P w = .ok () w) (heq : (Op.equal t u c).run P w = .ok r w) (hb1 : binOp .eql t u c = (do pure (.bool (← Op.equal t u c)))) (hb2 : binOp .neq t u c = (do pure (.bool (!(← Op.equal t u c))))) :
    (do eqGuard op t x (.const c) u c; binOp op t u c : Sem Value).run P w = .ok (.bool (r != neg)) w := by
  split at hop
  · simp [hg, hb1, heq]
  · simp [hg, hb2, heq]
  · simp at hop

theorem eqnil_run {P : Program} {t : Nat} {D : TypeDesc} {u c : Value} {r : Bool} (hT : P.underlying t = some D)
    (h : (∃ el a, D = .pointer el ∧ u = .pointer a ∧ c = .pointer none ∧ r = a.isNone) ∨ (∃ el a n k, D = .slice el ∧ u = .slice a n k ∧ c = .slice none 0 0 ∧ r = a.isNone) ∨
      (∃ ps rs v, D = .func ps rs v ∧ c = .nilFunc ∧ ((u = .nilFunc ∧ r = true) ∨ (∃ f x y, u = .func f x y ∧ r = false))) ∨
      (∃ ms, D = .interface ms ∧ c = .nilIface ∧ ((u = .nilIface ∧ r = true) ∨ (∃ t v, u = .iface t v ∧ r = false)))) (w : World) :
    (Op.equal t u c).run P w = .ok r w := by
  have key : ∀ d, (Op.equalIn (d + 1) t u c).run P w = .ok r w := by
    intro d
    rw [Op.equalIn]
    simp only [Sem.run_bind, underlying_run hT, Result.andThen_ok]
    rcases h with ⟨el, a, rfl, rfl, rfl, rfl⟩ | ⟨el, a, n, k, rfl, rfl, rfl, rfl⟩ | ⟨ps, rs, v, rfl, rfl, h⟩ | ⟨ms, rfl, rfl, h⟩
    · cases a <;> rfl
    · cases a <;> rfl
    · rcases h with ⟨rfl, rfl⟩ | ⟨f, x, y, rfl, rfl⟩ <;> rfl
    · rcases h with ⟨rfl, rfl⟩ | ⟨f, x, rfl, rfl⟩ <;> rfl
  exact key 9999

theorem guard_nil {op : BinOp} {t : Nat} {x : Operand} {c u : Value} {P : Program} (hc : ∀ cs, c ≠ .agg cs) (w : World) : (eqGuard op t x (.const c) u c).run P w = .ok () w := by
  unfold eqGuard
  cases op <;> first
    | rfl
    | (cases u <;> cases c <;> first | rfl | (simp; done) | exact absurd rfl (hc _))

section
variable {P : Program} {m : Mp} {e : Env} {a : Act} (hr : RelEnv m e a.tmps)
include hr

theorem q_nil {op : BinOp} {t kd : Nat} {neg : Bool} {x : Operand} {x' : RX} {c : Value} {v : AV} (hop : (match op, neg with | .eql, false => true | .neq, true => true | _, _ => false) = true) (hx : chkX x x' = true)
    (hc : (match kd, P.underlying t with
    | 0, some (.pointer _) => vEq c (.pointer none)
    | 1, some (.slice _) => vEq c (.slice none 0 0)
    | 2, some (.func ..) => vEq c .nilFunc
    | 3, some (.interface _) => vEq c .nilIface
    | _, _ => false) = true) (h : evQ P e (.nil kd neg x') = some v) :
    ∃ r, RelV m v r ∧ ∀ w, (do eqGuard op t x (.const c) (a.eval x) c; binOp op t (a.eval x) c : Sem Value).run P w = .ok r w := by
  simp only [evQ, Option.bind_eq_some_iff, Option.map_eq_some_iff] at h
  obtain ⟨va, ha, r, hnil, rfl⟩ := h
  have ra := chkX_rel hr hx ha
  refine ⟨.bool (r != neg), ⟨rfl, rfl⟩, fun w => ?_⟩
  split at hc
  · rename_i el hT
    have := vEq_eq hc; subst this
    cases va with
    | ptr p =>
      simp only [AV.isNil, Option.some.injEq] at hnil
      subst hnil
      cases p with
      | none =>
        have hv : a.eval x = .pointer none := ra.2
        rw [hv]
        exact neq_run hop (fun op => guard_nil (by intro cs h; cases h) w) (eqnil_run hT (.inl ⟨_, _, rfl, rfl, rfl, rfl⟩) w) rfl rfl
      | some p =>
        obtain ⟨l, hl, hv⟩ := ra.ptr_inv
        rw [hv]
        exact neq_run hop (fun op => guard_nil (by intro cs h; cases h) w) (eqnil_run hT (.inl ⟨_, _, rfl, rfl, rfl, rfl⟩) w) rfl rfl
    | _ => simp [AV.isNil] at hnil
  · rename_i el hT
    have := vEq_eq hc; subst this
    cases va with
    | slice s n =>
      simp only [AV.isNil, Option.some.injEq] at hnil
      subst hnil
      cases s with
      | none =>
        have hv : a.eval x = .slice none 0 0 := ra.2.2
        rw [hv]
        exact neq_run hop (fun op => guard_nil (by intro cs h; cases h) w) (eqnil_run hT (.inr (.inl ⟨_, _, _, _, rfl, rfl, rfl, rfl⟩)) w) rfl rfl
      | some p =>
        obtain ⟨_, l, A, cap, hl, hv, _⟩ := ra
        rw [hv]
        exact neq_run hop (fun op => guard_nil (by intro cs h; cases h) w) (eqnil_run hT (.inr (.inl ⟨_, _, _, _, rfl, rfl, rfl, rfl⟩)) w) rfl rfl
    | _ => simp [AV.isNil] at hnil
  · rename_i hT
    have := vEq_eq hc; subst this
    cases va with
    | nilFunc =>
      simp only [AV.isNil, Option.some.injEq] at hnil
      subst hnil
      have hv : a.eval x = .nilFunc := ra.2
      rw [hv]
      exact neq_run hop (fun op => guard_nil (by intro cs h; cases h) w) (eqnil_run hT (.inr (.inr (.inl ⟨_, _, _, rfl, rfl, .inl ⟨rfl, rfl⟩⟩))) w) rfl rfl
    | func f xs ys =>
      simp only [AV.isNil, Option.some.injEq] at hnil
      subst hnil
      obtain ⟨_, x1, y1, hv, _⟩ := ra
      rw [hv]
      exact neq_run hop (fun op => guard_nil (by intro cs h; cases h) w) (eqnil_run hT (.inr (.inr (.inl ⟨_, _, _, rfl, rfl, .inr ⟨_, _, _, rfl, rfl⟩⟩))) w) rfl rfl
    | _ => simp [AV.isNil] at hnil
  · rename_i hT
    have := vEq_eq hc; subst this
    cases va with
    | nilIface =>
      simp only [AV.isNil, Option.some.injEq] at hnil
      subst hnil
      have hv : a.eval x = .nilIface := ra.2
      rw [hv]
      exact neq_run hop (fun op => guard_nil (by intro cs h; cases h) w) (eqnil_run hT (.inr (.inr (.inr ⟨_, rfl, rfl, .inl ⟨rfl, rfl⟩⟩))) w) rfl rfl
    | iface t' v' =>
      simp only [AV.isNil, Option.some.injEq] at hnil
      subst hnil
      have hv : a.eval x = .iface t' v' := ra.2
      rw [hv]
      exact neq_run hop (fun op => guard_nil (by intro cs h; cases h) w) (eqnil_run hT (.inr (.inr (.inr ⟨_, rfl, rfl, .inr ⟨_, _, rfl, rfl⟩⟩))) w) rfl rfl
    | _ => simp [AV.isNil] at hnil
  · simp at hc

/-- What an operation that touches no memory gives, the model's gives. -/
theorem q_sound {o : Oper} {q : QO} {v : AV} (hc : chkQ P o.op q = true) (h : evQ P e q = some v) : ∃ c, RelV m v c ∧ ∀ w, (execOp a.eval o).run P w = .ok (.value c) w := by
  have lift : ∀ (s : Sem Value), (∃ r, RelV m v r ∧ ∀ w, s.run P w = .ok r w) → ∃ c, RelV m v c ∧ ∀ w, (do pure (Next.value (← s)) : Sem Next).run P w = .ok (.value c) w :=
    fun s ⟨r, h1, h2⟩ => ⟨r, h1, fun w => by simp [h2]⟩
  obtain ⟨dst, op, type, pos, after, guard⟩ := o
  simp only at hc
  unfold chkQ at hc
  split at hc
  case h_1 => exact ⟨_, chkX_rel hr hc h, fun w => rfl⟩
  case h_2 => exact ⟨_, chkX_rel hr hc h, fun w => rfl⟩
  case h_3 =>
    simp only [Bool.and_eq_true] at hc
    exact q_pick hr hc.1.1 hc.1.2 hc.2 h
  case h_4 =>
    simp only [evQ] at h
    split at h
    · rename_i p hp
      obtain ⟨l, hl, hv⟩ := (chkX_rel hr hc hp).ptr_inv
      simp only [Option.some.injEq] at h; subst h
      exact ⟨_, chkX_rel hr hc hp, fun w => by simp only [execOp, hv]; rfl⟩
    · simp at h
  case h_5 =>
    simp only [Bool.and_eq_true, beq_iff_eq] at hc
    obtain ⟨⟨rfl, hx⟩, hc⟩ := hc
    split at hc
    case h_2 => simp at hc
    rename_i hT
    split at hc
    case h_2 => simp at hc
    rename_i hf
    simp only [Bool.and_eq_true, beq_iff_eq] at hc
    obtain ⟨hδ, hc⟩ := hc
    split at hc
    case h_2 => simp at hc
    rename_i hs
    exact lift _ (q_fld hr hx hT hf hδ hs (by simpa using hc) h)
  case h_6 =>
    simp only [Bool.and_eq_true, beq_iff_eq] at hc
    obtain ⟨⟨rfl, hx⟩, hc⟩ := hc
    split at hc
    case h_2 => simp at hc
    rename_i hT
    split at hc
    case h_2 => simp at hc
    rename_i hf
    simp only [Bool.and_eq_true, beq_iff_eq, decide_eq_true_eq] at hc
    exact lift _ (q_fldv hr hx hT hf hc.1.1 hc.1.2 hc.2 h)
  case h_7 =>
    simp only [Bool.and_eq_true] at hc
    obtain ⟨⟨hx, hi⟩, hc⟩ := hc
    split at hc
    case h_2 => simp at hc
    rename_i hT
    exact lift _ (q_ixs hr hx hi hT (by simpa using hc) h)
  case h_8 =>
    simp only [Bool.and_eq_true] at hc
    obtain ⟨⟨hx, hi⟩, hc⟩ := hc
    split at hc
    case h_2 => simp at hc
    rename_i hT
    simp only [Bool.and_eq_true, beq_iff_eq, decide_eq_true_eq] at hc
    obtain ⟨rfl, hs⟩ := hc
    exact lift _ (q_ixa hr hx hi hT hs h)
  case h_9 =>
    simp only [Bool.and_eq_true] at hc
    obtain ⟨⟨hx, hi⟩, hc⟩ := hc
    split at hc
    case h_2 => simp at hc
    rename_i hT
    simp only [Bool.and_eq_true, beq_iff_eq, decide_eq_true_eq] at hc
    obtain ⟨⟨rfl, hs⟩, hg⟩ := hc
    exact lift _ (q_ixv hr hx hi hT hs hg h)
  case h_10 =>
    simp only [Bool.and_eq_true, beq_iff_eq, decide_eq_true_eq] at hc
    obtain ⟨⟨⟨rfl, rfl⟩, hx⟩, hy⟩ := hc
    exact lift _ (q_bin hr hx hy h)
  case h_11 =>
    simp only [Bool.and_eq_true] at hc
    exact lift _ (q_nil hr hc.1.1 hc.1.2 hc.2 h)
  case h_12 =>
    simp only [Bool.and_eq_true, decide_eq_true_eq] at hc
    obtain ⟨rfl, hx⟩ := hc
    exact lift _ (q_un hr hx h)
  case h_13 =>
    simp only [Bool.and_eq_true, beq_iff_eq] at hc
    obtain ⟨⟨rfl, rfl⟩, hx⟩ := hc
    exact lift _ (q_conv hr hx h)
  case h_14 =>
    simp only [Bool.and_eq_true, beq_iff_eq] at hc
    obtain ⟨rfl, hx⟩ := hc
    exact lift _ (q_ext hr hx h)
  case h_15 args argTypes st x' =>
    have hT : ∀ d, (argTypes[0]?).bind P.underlying = some d → ∃ t, argTypes[0]? = some t ∧ P.underlying t = some d := fun d hd => by simpa [Option.bind_eq_some_iff] using hd
    split at hc
    · rename_i x t hx ht
      obtain ⟨T, h0, hT⟩ := hT _ ht
      have ha : args = #[x] := by cases args; simp at hx; simp [hx]
      subst ha
      simp only [evQ] at h
      split at h
      · rename_i s n _ hv
        simp only [Option.some.injEq] at h; subst h
        have hlen : ∃ A c, a.eval x = .slice A n c := by
          have := chkX_rel hr hc hv
          cases s with
          | none => obtain ⟨_, hn, hv⟩ := this; exact ⟨none, 0, by rw [hv, hn]⟩
          | some s => obtain ⟨_, l, A, cap, hl, hv, _⟩ := this; exact ⟨some A, cap, hv⟩
        obtain ⟨A, c, hv⟩ := hlen
        refine ⟨.int .i64 n, ⟨rfl, rfl⟩, fun w => ?_⟩
        simp [execOp, resolve, invoke, builtin, Builtin.len_, h0, underlying_run hT, hv, goInt]
      · simp_all
      · simp at h
    · rename_i x hx ht
      obtain ⟨T, h0, hT⟩ := hT _ ht
      have ha : args = #[x] := by cases args; simp at hx; simp [hx]
      subst ha
      simp only [evQ] at h
      split at h
      · simp_all
      · rename_i b _ hv
        have hw := (chkX_rel hr hc hv).2
        simp only [RelL] at hw
        simp only [Option.some.injEq] at h; subst h
        refine ⟨.int .i64 b.size, ⟨rfl, rfl⟩, fun w => ?_⟩
        simp [execOp, resolve, invoke, builtin, Builtin.len_, h0, underlying_run hT, hw, goInt]
      · simp at h
    · simp at hc
  case h_16 args argTypes x' =>
    split at hc
    · rename_i x t hx ht
      obtain ⟨T, h0, hT⟩ : ∃ T, argTypes[0]? = some T ∧ P.underlying T = some (.slice t) := by simpa [Option.bind_eq_some_iff] using ht
      have ha : args = #[x] := by cases args; simp at hx; simp [hx]
      subst ha
      simp only [evQ] at h
      split at h
      · rename_i n hv
        simp only [Option.some.injEq] at h; subst h
        have hw := (chkX_rel hr hc hv).2.2
        refine ⟨.int .i64 0, ⟨rfl, rfl⟩, fun w => ?_⟩
        simp [execOp, resolve, invoke, builtin, Builtin.cap_, h0, underlying_run hT, hw, goInt]
      · simp at h
    · simp at hc
  case h_17 args argTypes xs =>
    obtain ⟨r, h1, h2⟩ := q_mm (at_ := argTypes) (ty := type) hr hc h
    refine ⟨r, h1, fun w => ?_⟩
    have := h2 w
    simp only [Bool.false_eq_true, if_false] at this
    have e1 : args.map a.eval = (args.toList.map a.eval).toArray := by apply Array.ext'; simp
    simp only [execOp, resolve, invoke, builtin, Sem.run_bind, Sem.run_pure, Result.andThen_ok]
    rw [e1]
    simp [this]
  case h_18 args argTypes xs =>
    obtain ⟨r, h1, h2⟩ := q_mm (at_ := argTypes) (ty := type) hr hc h
    refine ⟨r, h1, fun w => ?_⟩
    have := h2 w
    simp only [if_true] at this
    have e1 : args.map a.eval = (args.toList.map a.eval).toArray := by apply Array.ext'; simp
    simp only [execOp, resolve, invoke, builtin, Sem.run_bind, Sem.run_pure, Result.andThen_ok]
    rw [e1]
    simp [this]
  case h_19 =>
    simp only [Bool.and_eq_true] at hc
    obtain ⟨⟨⟨hx, hlo⟩, hhi⟩, hc⟩ := hc
    split at hc
    case h_2 => simp at hc
    rename_i hT
    exact lift _ (q_slc hr hx hlo hhi hT (by simpa using hc) h)
  case h_20 =>
    simp only [Bool.and_eq_true] at hc
    obtain ⟨⟨⟨hx, hlo⟩, hhi⟩, hc⟩ := hc
    split at hc
    case h_2 => simp at hc
    rename_i hT
    simp only [Bool.and_eq_true, beq_iff_eq, decide_eq_true_eq] at hc
    obtain ⟨rfl, hs⟩ := hc
    exact lift _ (q_slca hr hx hlo hhi hT hs h)
  case h_21 f x y f' x' y' =>
    simp only [Bool.and_eq_true, beq_iff_eq] at hc
    obtain ⟨⟨rfl, hx⟩, hy⟩ := hc
    simp only [evQ, Option.bind_eq_some_iff, Option.some.injEq] at h
    obtain ⟨xs, h1, ys, h2, ps, h3, qs, h4, rfl⟩ := h
    refine ⟨.func (.func f) (x.map a.eval) (y.map a.eval), ⟨trivial, _, _, rfl, ?_, ?_⟩, fun w => rfl⟩
    · simpa using aptrs_rel h3 (chkXs_rel hr hx h1)
    · simpa using aptrs_rel h4 (chkXs_rel hr hy h2)
  case h_22 t x t' x' =>
    simp only [Bool.and_eq_true, beq_iff_eq] at hc
    obtain ⟨⟨rfl, hx⟩, hc⟩ := hc
    simp only [evQ, Option.bind_eq_some_iff, Option.map_eq_some_iff] at h
    obtain ⟨va, ha, u, hu, rfl⟩ := h
    have := pv_rel hu (chkX_rel hr hx ha)
    refine ⟨.iface t u, ⟨trivial, rfl⟩, fun w => ?_⟩
    split at hc
    · simp at hc
    · rename_i d hd hT
      simp only [execOp, Instr.makeInterface, Sem.run_bind, underlying_run hT, Result.andThen_ok, this]
      cases d <;> first | rfl | exact absurd rfl (hd _)
    · simp at hc
  case h_23 =>
    simp only [Bool.and_eq_true, decide_eq_true_eq] at hc
    obtain ⟨⟨⟨hz, hx⟩, hi⟩, hc⟩ := hc
    split at hc
    · rename_i hT
      exact lift _ (q_bld_s hr hz hx hi hT hc h)
    · rename_i hT
      exact lift _ (q_bld_a hr hz hx hi hT (by simpa using hc) h)
    · simp at hc
  case h_24 f args argTypes f' args' =>
    simp only [Bool.and_eq_true, beq_iff_eq] at hc
    obtain ⟨rfl, hx⟩ := hc
    simp only [evQ, Option.bind_eq_some_iff, evXf] at h
    obtain ⟨l, hl, vs, hvs, h⟩ := h
    split at h
    · rename_i r hrun
      have h1 := scs_all hvs (chkXs_rel hr hx hl)
      refine ⟨r, ofSc_rel h, fun w => ?_⟩
      have h2 := pureRun_run hrun w
      have e1 : args.map a.eval = vs.toArray := by apply Array.ext'; simpa using h1
      simp [execOp, resolve, invoke, Deferred.ofValue, Act.eval, e1, h2]
    · simp at h
  case h_25 => simp at hc

end
end Go.AM

namespace Go.AM

/-! Parts of trees, and their cells. -/

theorem like_size {t v : AV} (h : t.like v) (ht : wf t) (hv : wf v) : t.size = v.size := by
  unfold AV.like at h
  split at h
  · obtain ⟨rfl, h⟩ := h; simp [AV.size, h]
  · exact h.elim
  · exact h.elim
  · exact h

theorem getAt_spec : ∀ (p : List (Nat × Nat)) (t v : AV), wf t → getAt t p = some v →
    wf v ∧ ∃ x y, flat t = x ++ (flat v ++ y) ∧ x.length = offs p
  | [], t, v, hw, h => by
    simp [getAt] at h; subst h
    exact ⟨hw, [], [], by simp, rfl⟩
  | (i, δ) :: p, .agg sz cs, v, hw, h => by
    simp only [getAt] at h
    split at h
    · rename_i hδ
      simp only [Option.bind_eq_some_iff] at h
      obtain ⟨c, hc, h⟩ := h
      obtain ⟨hv, x, y, hf, hx⟩ := getAt_spec p c v (wfs_mem.1 hw.2 c (List.mem_of_getElem? hc)) h
      have hl : (flats (cs.take i)).length = ((cs.take i).map AV.size).sum := flats_len _ (wfs_mem.2 fun x hx => wfs_mem.1 hw.2 x (List.mem_of_mem_take hx))
      refine ⟨hv, flats (cs.take i) ++ x, y ++ flats (cs.drop (i + 1)), ?_, ?_⟩
      · simp only [flat]; rw [flats_split cs i c hc, hf]; simp
      · simp only [List.length_append, hl, hx, offs, List.map_cons, List.sum_cons]
        rw [agg_take hw.1, hδ]
    · simp at h
  | (i, δ) :: p, .arr k cs, v, hw, h => by
    simp only [getAt] at h
    split at h
    · rename_i hδ
      simp only [Option.bind_eq_some_iff] at h
      obtain ⟨c, hc, h⟩ := h
      have hi : i < cs.length := (List.getElem?_eq_some_iff.1 hc).1
      obtain ⟨hv, x, y, hf, hx⟩ := getAt_spec p c v (wfs_mem.1 hw.2 c (List.mem_of_getElem? hc)) h
      have hl : (flats (cs.take i)).length = ((cs.take i).map AV.size).sum := flats_len _ (wfs_mem.2 fun x hx => wfs_mem.1 hw.2 x (List.mem_of_mem_take hx))
      refine ⟨hv, flats (cs.take i) ++ x, y ++ flats (cs.drop (i + 1)), ?_, ?_⟩
      · simp only [flat]; rw [flats_split cs i c hc, hf]; simp
      · simp only [List.length_append, hl, hx, offs, List.map_cons, List.sum_cons]
        rw [arr_take hw.1 (by omega), hδ]
    · simp at h
  | _ :: _, .sc _, _, _, h | _ :: _, .ptr _, _, _, h | _ :: _, .slice _ _, _, _, h | _ :: _, .map _, _, _, h | _ :: _, .func _ _ _, _, _, h | _ :: _, .nilFunc, _, _, h
  | _ :: _, .iface _ _, _, _, h | _ :: _, .nilIface, _, _, h | _ :: _, .tuple _, _, _, h => by simp [getAt] at h

theorem setAt_spec : ∀ (p : List (Nat × Nat)) (t v t' : AV), wf t → wf v → setAt v t p = some t' →
    wf t' ∧ t.like t' ∧ ∃ x o y, flat t = x ++ (o ++ y) ∧ flat t' = x ++ (flat v ++ y) ∧ x.length = offs p ∧ o.length = v.size
  | [], t, v, t', hw, hv, h => by
    simp only [setAt] at h
    split at h
    · rename_i hl
      simp at h; subst h
      exact ⟨hv, hl, [], flat t, [], by simp, by simp, rfl, by rw [flat_len t hw, like_size hl hw hv]⟩
    · simp at h
  | (i, δ) :: p, .agg sz cs, v, t', hw, hv, h => by
    simp only [setAt] at h
    split at h
    · rename_i hδ
      simp only [Option.bind_eq_some_iff, Option.map_eq_some_iff] at h
      obtain ⟨c, hc, c', h, rfl⟩ := h
      have hwc := wfs_mem.1 hw.2 c (List.mem_of_getElem? hc)
      obtain ⟨hw', hlk, x, o, y, hf, hf', hx, ho⟩ := setAt_spec p c v c' hwc hv h
      have hsz := like_size hlk hwc hw'
      have hl : (flats (cs.take i)).length = ((cs.take i).map AV.size).sum := flats_len _ (wfs_mem.2 fun x hx => wfs_mem.1 hw.2 x (List.mem_of_mem_take hx))
      refine ⟨⟨by rw [set_map_size hc hsz.symm]; exact hw.1, wfs_set hw.2 hw'⟩, rfl, flats (cs.take i) ++ x, o, y ++ flats (cs.drop (i + 1)), ?_, ?_, ?_, ho⟩
      · simp only [flat]; rw [flats_split cs i c hc, hf]; simp
      · simp only [flat]; rw [flats_set hc, hf']; simp
      · simp only [List.length_append, hl, hx, offs, List.map_cons, List.sum_cons]
        rw [agg_take hw.1, hδ]
    · simp at h
  | (i, δ) :: p, .arr k cs, v, t', hw, hv, h => by
    simp only [setAt] at h
    split at h
    · rename_i hδ
      simp only [Option.bind_eq_some_iff, Option.map_eq_some_iff] at h
      obtain ⟨c, hc, c', h, rfl⟩ := h
      have hi : i < cs.length := (List.getElem?_eq_some_iff.1 hc).1
      have hwc := wfs_mem.1 hw.2 c (List.mem_of_getElem? hc)
      obtain ⟨hw', hlk, x, o, y, hf, hf', hx, ho⟩ := setAt_spec p c v c' hwc hv h
      have hsz := like_size hlk hwc hw'
      have hl : (flats (cs.take i)).length = ((cs.take i).map AV.size).sum := flats_len _ (wfs_mem.2 fun x hx => wfs_mem.1 hw.2 x (List.mem_of_mem_take hx))
      refine ⟨⟨?_, wfs_set hw.2 hw'⟩, ⟨rfl, by simp⟩, flats (cs.take i) ++ x, o, y ++ flats (cs.drop (i + 1)), ?_, ?_, ?_, ho⟩
      · intro d hd
        rcases List.mem_or_eq_of_mem_set hd with hd | rfl
        · exact hw.1 d hd
        · rw [← hsz]; exact hw.1 c (List.mem_of_getElem? hc)
      · simp only [flat]; rw [flats_split cs i c hc, hf]; simp
      · simp only [flat]; rw [flats_set hc, hf']; simp
      · simp only [List.length_append, hl, hx, offs, List.map_cons, List.sum_cons]
        rw [arr_take hw.1 (by omega), hδ]
    · simp at h
  | _ :: _, .sc _, _, _, _, _, h | _ :: _, .ptr _, _, _, _, _, h | _ :: _, .slice _ _, _, _, _, _, h | _ :: _, .map _, _, _, _, _, h | _ :: _, .func _ _ _, _, _, _, _, h | _ :: _, .nilFunc, _, _, _, _, h
  | _ :: _, .iface _ _, _, _, _, _, h | _ :: _, .nilIface, _, _, _, _, h | _ :: _, .tuple _, _, _, _, _, h => by simp [setAt] at h

/-! Cells read and written in a row. -/

def isOne : Value → Bool
  | .agg _ | .tuple _ => false
  | _ => true


theorem loadCellsFrom_run {P : Program} {w : World} {b off : Nat} {c : Array Value} {el : TypeId} (hb : w.heap[b]? = some (.cells c el)) : ∀ (n i : Nat) (acc : Array Value), off + i + n ≤ c.size →
    (loadCellsFrom ⟨b, off, none⟩ i n acc).run P w = .ok (acc ++ ((c.toList.drop (off + i)).take n).toArray) w
  | 0, i, acc, _ => by simp [loadCellsFrom]
  | n + 1, i, acc, h => by
    have hlt : off + i < c.size := by omega
    have hcell : w.cell? ⟨b, off + i, none⟩ = some c[off + i] := by simp [World.cell?, hb, hlt]
    have hload : (load ((⟨b, off, none⟩ : Addr).add i)).run P w = .ok c[off + i] w := by
      rw [add_none]; simp [hcell]
    simp only [loadCellsFrom, Sem.run_bind, hload, Result.andThen_ok]
    rw [loadCellsFrom_run hb n (i + 1) (acc.push c[off + i]) (by omega)]
    congr 1
    have hd : c.toList.drop (off + i) = c[off + i] :: c.toList.drop (off + i + 1) := by
      rw [List.drop_eq_getElem_cons (by simpa using hlt)]; simp
    rw [hd, ← Nat.add_assoc]
    apply Array.ext'
    simp

theorem loadCells_run {P : Program} {w : World} {b off n : Nat} {c : Array Value} {el : TypeId} (hb : w.heap[b]? = some (.cells c el)) (h : off + n ≤ c.size) :
    (loadCells ⟨b, off, none⟩ n).run P w = .ok (((c.toList.drop off).take n).toArray) w := by
  have := loadCellsFrom_run (P := P) (off := off) hb n 0 #[] (by omega)
  simpa [loadCells] using this

def putList (c : List Value) (off : Nat) (vs : List Value) : List Value := c.take off ++ vs ++ c.drop (off + vs.length)

def frz : Option Obj → Nat → Bool
  | some (.cells _ _ (lo, hi)), off => lo ≤ off && off < hi
  | _, _ => false

theorem frozen_eq (w : World) (a : Addr) : w.frozen? a = frz w.heap[a.block]? a.off := by
  unfold World.frozen? frz
  split <;> simp_all

/-- What of a world does not turn. -/
structure WS (w w' : World) : Prop where
  os : w'.os = w.os
  output : w'.output = w.output
  fz : ∀ (b off : Nat), frz w'.heap[b]? off = frz w.heap[b]? off

theorem WS.refl (w : World) : WS w w := ⟨rfl, rfl, fun _ _ => rfl⟩
theorem WS.trans {a b c : World} (h : WS a b) (h' : WS b c) : WS a c := ⟨h'.os.trans h.os, h'.output.trans h.output, fun x y => (h'.fz x y).trans (h.fz x y)⟩
theorem WS.same {w w' : World} (hw : w'.heap = w.heap) (hs : w'.os = w.os ∧ w'.output = w.output) : WS w w' := ⟨hs.1, hs.2, fun _ _ => by rw [hw]⟩
theorem WS.set {w w' : World} {b : Nat} {o o' : Obj} (hb : w.heap[b]? = some o) (hw : w'.heap = w.heap.setIfInBounds b o') (hf : ∀ off, frz (some o') off = frz (some o) off) (hs : w'.os = w.os ∧ w'.output = w.output) : WS w w' := by
  refine ⟨hs.1, hs.2, fun x off => ?_⟩
  rw [hw]
  by_cases hx : b = x
  · subst hx
    have hlt := (Array.getElem?_eq_some_iff.1 hb).1
    rw [hb]; simp [hlt, hf]
  · rw [Array.getElem?_setIfInBounds_ne hx]
theorem WS.push {w w' : World} {o : Obj} (hw : w'.heap = w.heap.push o) (hf : ∀ off, frz (some o) off = false) (hs : w'.os = w.os ∧ w'.output = w.output) : WS w w' := by
  refine ⟨hs.1, hs.2, fun x off => ?_⟩
  rw [hw, Array.getElem?_push]
  split
  · rename_i hx
    rw [hf, Array.getElem?_eq_none (by omega)]; rfl
  · rfl

theorem storeCells_run {P : Program} {b off : Nat} {el : TypeId} : ∀ (vs : List Value) (i : Nat) (w : World) (c : Array Value), w.heap[b]? = some (.cells c el) → off + i + vs.length ≤ c.size → (∀ v ∈ vs, isOne v = true) →
    ∃ w', (storeCells ⟨b, off, none⟩ vs i).run P w = .ok () w' ∧ w'.heap = w.heap.setIfInBounds b (.cells (putList c.toList (off + i) vs).toArray el) ∧ w'.os = w.os ∧ w'.output = w.output
  | [], i, w, c, hb, h, _ => by
    refine ⟨w, rfl, ?_, rfl, rfl⟩
    have : (putList c.toList (off + i) []).toArray = c := by apply Array.ext'; simp [putList]
    rw [this]
    apply Array.ext_getElem?
    intro j
    by_cases hj : b = j
    · subst hj; rw [hb]; simp [(Array.getElem?_eq_some_iff.1 hb).1]
    · simp [Array.getElem?_setIfInBounds_ne hj]
  | v :: vs, i, w, c, hb, h, hv => by
    simp only [List.length_cons] at h
    have hlt : off + i < c.size := by omega
    have hcell : w.cell? ⟨b, off + i, none⟩ = some c[off + i] := by simp [World.cell?, hb, hlt]
    have hfr : w.frozen? ⟨b, off + i, none⟩ = false := by simp [World.frozen?, hb]
    have hbl : b < w.heap.size := (Array.getElem?_eq_some_iff.1 hb).1
    let w1 := w.setCell ⟨b, off + i, none⟩ v
    have hstore : (store ((⟨b, off, none⟩ : Addr).add i) v).run P w = .ok () w1 := by
      rw [add_none]
      have h1 := hv v (List.mem_cons_self ..)
      cases v <;> first | (simp [store, Sem.run, hcell, hfr, w1]; done) | (simp [isOne] at h1)
    have hb1 : w1.heap[b]? = some (.cells (c.setIfInBounds (off + i) v) el) := by
      simp [w1, World.setCell, Array.getElem?_modify, hb]
    obtain ⟨w', hrun, hheap, hos, hout⟩ := storeCells_run (P := P) (off := off) vs (i + 1) w1 (c.setIfInBounds (off + i) v) hb1 (by simp; omega) fun x hx => hv x (List.mem_cons_of_mem _ hx)
    refine ⟨w', by simp only [storeCells, Sem.run_bind, hstore, Result.andThen_ok]; exact hrun, ?_, hos, hout⟩
    rw [hheap]
    have e1 : w1.heap = w.heap.setIfInBounds b (.cells (c.setIfInBounds (off + i) v) el) := by
      apply Array.ext_getElem?
      intro j
      by_cases hj : b = j
      · subst hj; rw [hb1]; simp [hbl]
      · simp [w1, World.setCell, Array.getElem?_modify, hj, Array.getElem?_setIfInBounds_ne hj]
    rw [e1]
    have e2 : putList (c.setIfInBounds (off + i) v).toList (off + (i + 1)) vs = putList c.toList (off + i) (v :: vs) := by
      simp only [putList, Array.toList_setIfInBounds, List.length_cons]
      have hlt' : off + i < c.toList.length := by simpa using hlt
      rw [← Nat.add_assoc, List.take_succ_eq_append_getElem (by simpa using hlt), List.take_set_of_le (Nat.le_refl _)]
      rw [List.drop_set_of_lt (by omega)]
      simp only [List.getElem_set_self, List.append_assoc, List.cons_append, List.nil_append]
      rw [show off + i + 1 + vs.length = off + i + (vs.length + 1) by omega]
    rw [e2]
    apply Array.ext_getElem?
    intro j
    by_cases hj : b = j
    · subst hj; simp [hbl]
    · simp [Array.getElem?_setIfInBounds_ne hj]

end Go.AM

namespace Go.AM

/-! Memory: what is kept. -/

structure Post (m : Mp) (st : St) (w : World) (m' : Mp) (st' : St) (w' : World) : Prop where
  rel : RelH m' st'.H w'
  out : ∀ i, (i < st.nx ∨ st'.nx ≤ i) → m' i = m i
  size : w.heap.size ≤ w'.heap.size
  fr : ∀ k, k < w.heap.size → (∀ i B l, st.H i = some B → B.rw = true → m i = some l → l.blk ≠ k) → w'.heap[k]? = w.heap[k]?
  own : ∀ i B l, st'.H i = some B → B.rw = true → m' i = some l → w.heap.size ≤ l.blk ∨ ∃ j Bj lj, st.H j = some Bj ∧ Bj.rw = true ∧ m j = some lj ∧ lj.blk = l.blk
  ro : ∀ i t, st'.H i = some (.ro t) → st.H i = some (.ro t)
  ws : WS w w'
  nx : st.nx ≤ st'.nx
  dom : ∀ i, st'.H i ≠ none → st.H i ≠ none ∨ (st.nx ≤ i ∧ i < st'.nx)

/-- The names from n on, below n', are no block's. -/
def Unm (m : Mp) (n n' : Nat) : Prop := ∀ i, n ≤ i → i < n' → m i = none

theorem Unm.sub {m : Mp} {n n' k k' : Nat} (h : Unm m n n') (h1 : n ≤ k) (h2 : k' ≤ n') : Unm m k k' := fun i a b => h i (by omega) (by omega)

theorem Post.le {m : Mp} {st : St} {w : World} {m' : Mp} {st' : St} {w' : World} (h : Post m st w m' st' w') (hu : Unm m st.nx st'.nx) : m.le m' := by
  intro i l hi
  rw [h.out i ?_]
  · exact hi
  · by_cases h1 : i < st.nx
    · exact .inl h1
    · refine .inr (Nat.not_lt.1 fun h2 => ?_)
      rw [hu i (by omega) h2] at hi; simp at hi

theorem Post.refl {m : Mp} {st : St} {w w' : World} (h : RelH m st.H w) (hw : w'.heap = w.heap) (hs : w'.os = w.os ∧ w'.output = w.output := by exact ⟨rfl, rfl⟩) : Post m st w m st w' where
  rel := ⟨fun i B hi => let ⟨l, h1, h2⟩ := h.blk i B hi; ⟨l, h1, h2.mono (Mp.le.refl m) (by rw [hw])⟩, h.inj⟩
  out := fun _ _ => rfl
  size := by rw [hw]; exact Nat.le_refl _
  fr := fun k _ _ => by rw [hw]
  own := fun i B l hi hrw hl => .inr ⟨i, B, l, hi, hrw, hl, rfl⟩
  ro := fun _ _ h => h
  ws := WS.same hw hs
  nx := Nat.le_refl _
  dom := fun _ h => .inl h

theorem Post.trans {m m1 m2 : Mp} {st st1 st2 : St} {w w1 w2 : World} (h : Post m st w m1 st1 w1) (h' : Post m1 st1 w1 m2 st2 w2) : Post m st w m2 st2 w2 where
  rel := h'.rel
  out := fun i hi => by
    have h1 := h.nx
    have h2 := h'.nx
    rw [h'.out i (by omega), h.out i (by omega)]
  size := Nat.le_trans h.size h'.size
  fr := fun k hk hb => by
    have h1 := h.size
    rw [h'.fr k (by omega) fun i B l hi hrw hl he => ?_, h.fr k hk hb]
    rcases h.own i B l hi hrw hl with h2 | ⟨j, Bj, lj, hj, hjrw, hlj, hbl⟩
    · omega
    · exact hb j Bj lj hj hjrw hlj (by omega)
  own := fun i B l hi hrw hl => by
    have h1 := h.size
    rcases h'.own i B l hi hrw hl with h2 | ⟨j, Bj, lj, hj, hjrw, hlj, hbl⟩
    · exact .inl (by omega)
    · rcases h.own j Bj lj hj hjrw hlj with h2 | ⟨k, Bk, lk, hk, hkrw, hlk, hbk⟩
      · exact .inl (by omega)
      · exact .inr ⟨k, Bk, lk, hk, hkrw, hlk, by omega⟩
  ro := fun i t hi => h.ro i t (h'.ro i t hi)
  ws := h.ws.trans h'.ws
  nx := Nat.le_trans h.nx h'.nx
  dom := fun i hi => by
    have h1 := h.nx
    have h2 := h'.nx
    rcases h'.dom i hi with h3 | h3
    · rcases h.dom i h3 with h4 | h4
      · exact .inl h4
      · exact .inr (by omega)
    · exact .inr (by omega)

/-- What is forgotten does no harm. -/
theorem Post.forget {m : Mp} {st : St} {w : World} {m' : Mp} {st' : St} {w' : World} (h : Post m st w m' st' w') {H : Mem} (hs : ∀ i B, H i = some B → st'.H i = some B) : Post m st w m' ⟨H, st'.nx⟩ w' where
  rel := ⟨fun i B hi => h.rel.blk i B (hs i B hi), fun i j Bi Bj li lj hi hj => h.rel.inj i j Bi Bj li lj (hs i Bi hi) (hs j Bj hj)⟩
  out := h.out
  size := h.size
  fr := h.fr
  own := fun i B l hi hrw hl => h.own i B l (hs i B hi) hrw hl
  ro := fun i t hi => h.ro i t (hs i _ hi)
  ws := h.ws
  nx := h.nx
  dom := fun i hi => by
    cases hB : H i with
    | none => exact absurd hB hi
    | some B => exact h.dom i (by rw [hs i B hB]; simp)

theorem del_sub {H : Mem} {x i : Nat} {B : Blk} (h : H.del x i = some B) : H i = some B := by
  unfold Mem.del at h
  split at h
  · simp at h
  · exact h

theorem RelBlk.partRo {m : Mp} {w : World} {l : Loc} {t v : AV} {p : List (Nat × Nat)} (r : RelBlk m w l (.ro t)) (h : getAt t p = some v) :
    ∃ c e, w.heap[l.blk]? = some (.cells c e) ∧ l.base + offs p + v.size ≤ c.size ∧ wf v ∧ All2 (RelL m) (flat v) ((c.toList.drop (l.base + offs p)).take v.size) := by
  obtain ⟨c, e, hb, hw, hs, hr⟩ := r
  obtain ⟨hv, x, y, hf, hx⟩ := getAt_spec p t v hw h
  have hl := flat_len t hw
  have hvl := flat_len v hv
  have hlen : x.length + (v.size + y.length) = t.size := by rw [← hl, hf, ← hvl]; simp
  refine ⟨c, e, hb, by omega, hv, ?_⟩
  rw [hf] at hr
  have r1 := (All2.split (All2.split hr).2).1
  rw [hvl, hx, List.drop_take, List.drop_drop, List.take_take] at r1
  rw [Nat.min_eq_left (by omega)] at r1
  exact r1

/-- What is loaded from a block that is there. -/
theorem RelH.part {m : Mp} {H : Mem} {w : World} {p : APtr} {v : AV} (hH : RelH m H w) (h : ldPtr H p = some v) :
    ∃ l, m p.1 = some l ∧ ∃ c e, w.heap[l.blk]? = some (.cells c e) ∧ l.base + offs p.2 + v.size ≤ c.size ∧ wf v ∧ All2 (RelL m) (flat v) ((c.toList.drop (l.base + offs p.2)).take v.size) := by
  unfold ldPtr at h
  split at h
  · rename_i t ht
    obtain ⟨l, hl, hb⟩ := hH.blk _ _ ht
    have : RelBlk m w l (.tree t) := hb
    obtain ⟨c, e, hb, hw, hs, hr, _⟩ := this
    exact ⟨l, hl, RelBlk.partRo ⟨c, e, hb, hw, hs, hr⟩ h⟩
  · rename_i t ht
    obtain ⟨l, hl, hb⟩ := hH.blk _ _ ht
    exact ⟨l, hl, RelBlk.partRo hb h⟩
  · simp at h

theorem RelBlk.part {m : Mp} {w : World} {l : Loc} {t v : AV} {p : List (Nat × Nat)} (r : RelBlk m w l (.tree t)) (h : getAt t p = some v) :
    ∃ c e, w.heap[l.blk]? = some (.cells c e) ∧ l.base + offs p + v.size ≤ c.size ∧ wf v ∧ All2 (RelL m) (flat v) ((c.toList.drop (l.base + offs p)).take v.size) := by
  obtain ⟨c, e, hb, hw, hs, hr, _⟩ := r
  obtain ⟨hv, x, y, hf, hx⟩ := getAt_spec p t v hw h
  have hl := flat_len t hw
  have hvl := flat_len v hv
  have hlen : x.length + (v.size + y.length) = t.size := by rw [← hl, hf, ← hvl]; simp
  refine ⟨c, e, hb, by omega, hv, ?_⟩
  rw [hf] at hr
  have r1 := (All2.split (All2.split hr).2).1
  rw [hvl, hx, List.drop_take, List.drop_drop, List.take_take] at r1
  rw [Nat.min_eq_left (by omega)] at r1
  exact r1

theorem putList_length {c vs : List Value} {off : Nat} (h : off + vs.length ≤ c.length) : (putList c off vs).length = c.length := by
  simp [putList]; omega

theorem put_seg {L vs : List Value} {b n s o : Nat} (h : b + s ≤ L.length) (ho : vs.length = o) (hn : n + o ≤ s) :
    ((putList L (b + n) vs).drop b).take s = ((L.drop b).take s).take n ++ (vs ++ (((L.drop b).take s).drop n).drop o) := by
  subst ho
  apply List.ext_getElem?
  intro i
  simp only [putList, List.getElem?_take, List.getElem?_drop, List.getElem?_append, List.length_append, List.length_take, List.length_drop]
  repeat' split
  all_goals first
    | rfl
    | omega
    | (congr 1; omega)
    | (rw [List.getElem?_eq_none (by omega)])
    | (rw [List.getElem?_eq_none (by omega), List.getElem?_eq_none (by omega)])

theorem RelBlk.put {m : Mp} {w w' : World} {l : Loc} {t v t' : AV} {p : List (Nat × Nat)} {c : Array Value} {e : TypeId} {vs : List Value} (r : RelBlk m w l (.tree t)) (hb : w.heap[l.blk]? = some (.cells c e))
    (hv : wf v) (h : setAt v t p = some t') (hvs : All2 (RelL m) (flat v) vs) (hw' : w'.heap[l.blk]? = some (.cells (putList c.toList (l.base + offs p) vs).toArray e)) : RelBlk m w' l (.tree t') := by
  obtain ⟨c', e', hb', hw, hs, hr, hcap⟩ := r
  rw [hb] at hb'
  simp only [Option.some.injEq, Obj.cells.injEq] at hb'
  obtain ⟨rfl, rfl, _⟩ := hb'
  obtain ⟨hwt, hlk, x, o, y, hf, hf', hx, ho⟩ := setAt_spec p t v t' hw hv h
  have hl := flat_len t hw
  have hl' := flat_len t' hwt
  have hvl := flat_len v hv
  have hsz := like_size hlk hw hwt
  have hvsl := hvs.len
  have hlen : x.length + (o.length + y.length) = t.size := by rw [← hl, hf]; simp
  have hpl : (putList c.toList (l.base + offs p) vs).length = c.size := by rw [putList_length (by simp; omega)]; simp
  refine ⟨_, e, hw', hwt, by simp only [List.size_toArray, hpl]; omega, ?_, ?_⟩
  · rw [hf'] at *
    rw [hf] at hr
    have r1 := (All2.split hr).1
    have r3 := (All2.split (All2.split hr).2).2
    have e1 : ((putList c.toList (l.base + offs p) vs).drop l.base).take t'.size = ((c.toList.drop l.base).take t.size).take x.length ++ (vs ++ (((c.toList.drop l.base).take t.size).drop x.length).drop o.length) := by
      rw [← hsz, ← hx]
      exact put_seg (by simp; omega) (by omega) (by omega)
    rw [e1]
    exact r1.append (hvs.append r3)
  · cases t <;> cases t' <;> simp_all [AV.like]

end Go.AM

namespace Go.AM

def isU8 (P : Program) (t : Nat) : Bool := match P.underlying t with | some (.int .u8) => true | _ => false
def isIntT (P : Program) (t : Nat) : Bool := match P.underlying t with | some (.int _) => true | _ => false

def chkR (P : Program) : Op → RD → Bool
  | .load T x, .ld g n x' => chkX x x' && decide (isAggT P T = some g) && decide (szOf P T = some n)
  | .lookup T x i ok, .look z ok' m k => chkX x m && chkX i k && ok == ok' && (match P.underlying T with
    | some (.map key el) => isIntT P key && zeroIs P el z
    | _ => false)
  | .convert s d x, .cvs x' => chkX x x' && (match P.underlying s, P.underlying d with
    | some (.slice e), some .string => isU8 P e && decide (szOf P e = some 1)
    | _, _ => false)
  | .call { callee := .builtin .len, args, argTypes }, .lenm x' => (match args.toList, (argTypes[0]?).bind P.underlying with
    | [x], some (.map _ _) => chkX x x'
    | _, _ => false)
  | _, _ => false

section
variable {P : Program} {m : Mp} {e : Env} {a : Act} {H : Mem} {w : World} (hr : RelEnv m e a.tmps) (hH : RelH m H w)
include hr hH

theorem r_ld {T n : Nat} {g : Bool} {x : Operand} {x' : RX} {v : AV} (hx : chkX x x' = true) (hg : isAggT P T = some g) (hs : szOf P T = some n) (h : evR H e (.ld g n x') = some v) :
    ∃ c, RelV m v c ∧ (Instr.loadAt T (a.eval x)).run P w = .ok c w := by
  simp only [evR] at h
  split at h
  · rename_i p hp
    simp only [ldTree, Option.bind_eq_some_iff] at h
    obtain ⟨u, hu, h⟩ := h
    split at h
    · rename_i hc
      simp only [Option.some.injEq] at h; subst h
      obtain ⟨hag, hsz⟩ := hc
      · obtain ⟨l, hl, c, el, hb, hbd, hw, hrel⟩ := hH.part hu
        obtain ⟨l', hl', hv⟩ := (chkX_rel hr hx hp).ptr_inv
        rw [hl] at hl'; simp only [Option.some.injEq] at hl'; subst hl'
        cases g with
        | true =>
          refine ⟨.agg (((c.toList.drop (l.base + offs p.2)).take n).toArray), ?_, ?_⟩
          · rw [hsz] at hrel
            cases u <;> simp [AV.isAgg] at hag
            · exact ⟨hw, _, rfl, by simpa using hrel⟩
            · exact ⟨hw, _, rfl, by simpa using hrel⟩
          · rw [hsz] at hbd
            simp [Instr.loadAt, hv, Instr.sureAddr, loadVar, isAgg_run hg, sizeOf_run hs, loadCells_run hb hbd]
        | false =>
          have h1 : flat u = [u] := by cases u <;> simp [AV.isAgg] at hag <;> rfl
          have h2 : u.size = 1 := by cases u <;> simp [AV.isAgg] at hag <;> rfl
          rw [h1, h2] at hrel
          obtain ⟨r, hr0, hrr⟩ := All2.get hrel 0 u rfl
          have hc : c[l.base + offs p.2]? = some r := by
            rw [List.getElem?_take] at hr0
            simpa using hr0
          have hcell : w.cell? ⟨l.blk, l.base + offs p.2, none⟩ = some r := by simp [World.cell?, hb, hc]
          refine ⟨r, ?_, ?_⟩
          · cases u with
            | tuple vs => simp [wf] at hw
            | agg => simp [AV.isAgg] at hag
            | arr => simp [AV.isAgg] at hag
            | _ => exact ⟨hw, hrr⟩
          · simp [Instr.loadAt, hv, Instr.sureAddr, loadVar, isAgg_run hg, hcell]
    · simp at h
  · simp at h

omit hr hH in
theorem findK_run {keyType : Nat} {k : IntKind} {n : Int} {kk : IntKind} (hT : P.underlying keyType = some (.int kk)) : ∀ (es : List (AV × AV)) (ms : List MapEntry) (i : Nat) (r : Option (Nat × AV)),
    All2 (fun (x : AV × AV) (e : MapEntry) => RelV0 m x.1 e.key ∧ RelV0 m x.2 e.val) es ms → findK (.sc (.int k n)) es i = some r →
    ∃ r', Instr.findNow (.int kk) (.int k n) ms i = some r' ∧ (match r, r' with | none, none => True | some (j, v), some (j', c) => j = j' ∧ RelV0 m v c ∧ i ≤ j ∧ j < i + es.length | _, _ => False)
  | [], [], i, r, _, h => by simp [findK] at h; subst h; exact ⟨none, rfl, trivial⟩
  | (key, v) :: es, e :: ms, i, r, ⟨⟨hk, hv⟩, hrest⟩, h => by
    simp only [findK] at h
    simp only at hk hv
    split at h
    · rename_i hq
      simp only [Option.some.injEq] at h; subst h
      unfold keyEq at hq
      split at hq
      · rename_i k1 a1 k2 b1 heq
        simp only [AV.sc.injEq, Value.int.injEq] at heq
        obtain ⟨rfl, rfl⟩ := heq
        split at hq
        · rename_i hkk
          subst hkk
          simp only [Option.some.injEq, beq_iff_eq] at hq
          have hke : e.key = .int k b1 := hk.2
          refine ⟨some (i, e.val), ?_, rfl, hv, Nat.le_refl _, by simp⟩
          simp [Instr.findNow, Instr.sameNow, hke, hq]
        · simp at hq
      · simp at hq
    · rename_i hq
      unfold keyEq at hq
      split at hq
      · rename_i k1 a1 k2 b1 heq
        simp only [AV.sc.injEq, Value.int.injEq] at heq
        obtain ⟨rfl, rfl⟩ := heq
        split at hq
        · rename_i hkk
          subst hkk
          simp only [Option.some.injEq, beq_eq_false_iff_ne, ne_eq] at hq
          have hke : e.key = .int k b1 := hk.2
          obtain ⟨r', h1, h2⟩ := findK_run hT es ms (i + 1) r hrest h
          refine ⟨r', ?_, ?_⟩
          · simp only [Instr.findNow, Instr.sameNow, hke, if_true, beq_eq_false_iff_ne.2 hq, h1]
          · cases r <;> cases r' <;> simp_all <;> omega
        · simp at hq
      · simp at hq
    · simp at h
  | [], _ :: _, _, _, hh, _ | _ :: _, [], _, _, hh, _ => hh.elim

omit hr hH in
theorem isIntT_cases {t : Nat} (h : isIntT P t = true) : ∃ k, P.underlying t = some (.int k) := by
  unfold isIntT at h
  split at h
  · exact ⟨_, by assumption⟩
  · simp at h

omit hr hH in
theorem isInt_cases {v : AV} (h : v.isInt = true) : ∃ k n, v = .sc (.int k n) := by
  unfold AV.isInt at h
  split at h
  · exact ⟨_, _, rfl⟩
  · simp at h

omit hr hH in
theorem checkKey_run {b : Bool} {t : Nat} {k kk : IntKind} {n : Int} (hT : P.underlying t = some (.int kk)) (w : World) : (Instr.checkKey b 10000 t (.int k n)).run P w = .ok () w := by
  have : ∀ d, (Instr.checkKey b (d + 1) t (.int k n)).run P w = .ok () w := by
    intro d; rw [Instr.checkKey]; simp [underlying_run hT]
  exact this 9999

theorem r_look {T key el : Nat} {z v : AV} {ok : Bool} {x i : Operand} {x' i' : RX} (hx : chkX x x' = true) (hi : chkX i i' = true) (hT : P.underlying T = some (.map key el)) (hk : isIntT P key = true) (hz : zeroIs P el z = true)
    (h : evR H e (.look z ok x' i') = some v) : ∃ c, RelV m v c ∧ (Instr.lookup T (a.eval x) (a.eval i) ok).run P w = .ok c w := by
  obtain ⟨kk, hkk⟩ := isIntT_cases hk
  obtain ⟨zc, hzc, hzrun⟩ := zero_rel hz m
  have nt : ∀ {u : AV} {c : Value}, RelV0 m u c → RelV m u c := by
    intro u c hu; cases u <;> first | exact hu | (exact absurd hu.1 (by simp [wf]))
  simp only [evR] at h
  split at h
  · rename_i r kv hm hkv
    split at h
    · rename_i hint
      obtain ⟨k, n, rfl⟩ := isInt_cases hint
      have hkc : a.eval i = .int k n := (chkX_rel hr hi hkv).2
      have hmc := (chkX_rel hr hx hm).2
      split at h
      · rename_i es hes
        simp only [Option.map_eq_some_iff] at h
        obtain ⟨f, hf, h⟩ := h
        obtain ⟨ms, hms, hall⟩ : ∃ ms : Array MapEntry, ((a.eval x = .map none ∧ ms = #[]) ∨ (∃ b clock, a.eval x = .map (some b) ∧ w.heap[b]? = some (.map ms clock))) ∧
            All2 (fun (x : AV × AV) (e : MapEntry) => RelV0 m x.1 e.key ∧ RelV0 m x.2 e.val) es ms.toList := by
          cases r with
          | none =>
            simp only [Option.some.injEq] at hes; subst hes
            exact ⟨#[], .inl ⟨hmc, rfl⟩, trivial⟩
          | some r =>
            simp only at hes
            split at hes
            · rename_i es' hH'
              simp only [Option.some.injEq] at hes; subst hes
              obtain ⟨l, hl, hmc⟩ := hmc
              obtain ⟨l', hl', ms, clock, hb, hall⟩ := hH.blk _ _ hH'
              rw [hl] at hl'; simp only [Option.some.injEq] at hl'; subst hl'
              exact ⟨ms, .inr ⟨_, _, hmc, hb⟩, hall⟩
            · simp at hes
        obtain ⟨r', hfind, hmatch⟩ := findK_run (m := m) hkk es ms.toList 0 f hall hf
        have hfk : ∀ w, (Instr.findKey key (.int k n) ms.toList).run P w = .ok r' w := by
          intro w
          simp only [Instr.findKey, Sem.run_bind, underlying_run hkk, Result.andThen_ok, hfind]
          rfl
        have hrun : ∀ c b, (match r' with | some (_, v) => pure (v, true) | none => do pure (← zeroValue el, false) : Sem (Value × Bool)).run P w = .ok (c, b) w →
            (Instr.lookup T (a.eval x) (a.eval i) ok).run P w = .ok (if ok then .tuple #[c, .bool b] else c) w := by
          intro c b hcb
          rcases hms with ⟨hmv, rfl⟩ | ⟨bl, clock, hmv, hb⟩
          · simp only [Instr.lookup, Sem.run_bind, underlying_run hT, Result.andThen_ok, hmv, Sem.run_pure, hkc, checkKey_run hkk, hfk]
            cases r' with
            | none =>
              simp only [Sem.run_bind, Sem.run_pure, hzrun, Result.andThen_ok, Result.ok.injEq, Prod.mk.injEq, and_true] at hcb ⊢
              rw [hcb.1, hcb.2]
            | some q =>
              obtain ⟨j, q⟩ := q
              simp only [Sem.run_bind, Sem.run_pure, Result.andThen_ok, Result.ok.injEq, Prod.mk.injEq, and_true] at hcb ⊢
              rw [hcb.1, hcb.2]
          · have hgo : (getObj bl).run P w = .ok (.map ms clock) w := by simp [getObj, Sem.run, hb]
            simp only [Instr.lookup, Sem.run_bind, underlying_run hT, Result.andThen_ok, hmv, hgo, Sem.run_pure, hkc, checkKey_run hkk, hfk]
            cases r' with
            | none =>
              simp only [Sem.run_bind, Sem.run_pure, hzrun, Result.andThen_ok, Result.ok.injEq, Prod.mk.injEq, and_true] at hcb ⊢
              rw [hcb.1, hcb.2]
            | some q =>
              obtain ⟨j, q⟩ := q
              simp only [Sem.run_bind, Sem.run_pure, Result.andThen_ok, Result.ok.injEq, Prod.mk.injEq, and_true] at hcb ⊢
              rw [hcb.1, hcb.2]
        cases f with
        | none =>
          cases r' with
          | some q => exact hmatch.elim
          | none =>
            have := hrun zc false (by simp [hzrun])
            cases ok with
            | true => simp only [if_true] at h this; subst h; exact ⟨.tuple #[zc, .bool false], ⟨#[zc, .bool false], rfl, hzc, ⟨rfl, rfl⟩, trivial⟩, this⟩
            | false => simp only [Bool.false_eq_true, if_false] at h this; subst h; exact ⟨_, nt hzc, this⟩
        | some q =>
          obtain ⟨j, u⟩ := q
          cases r' with
          | none => exact hmatch.elim
          | some q =>
            obtain ⟨j', c⟩ := q
            obtain ⟨rfl, hu, _⟩ := hmatch
            have := hrun c true (by simp)
            cases ok with
            | true => simp only [if_true] at h this; subst h; exact ⟨.tuple #[c, .bool true], ⟨#[c, .bool true], rfl, hu, ⟨rfl, rfl⟩, trivial⟩, this⟩
            | false => simp only [Bool.false_eq_true, if_false] at h this; subst h; exact ⟨_, nt hu, this⟩
      · simp at h
    · simp at h
  · simp at h


omit hr in
/-- The cells of a slice's elements. -/
theorem elems_cells {s : ASl} {n k : Nat} {l : List AV} {c : Value} (hk : s.k = k) (h : elems H s n = some l) (hc : RelV m (.slice (some s) n) c) :
    ∃ A cap cells, c = .slice (some A) n cap ∧ wfs l ∧ (∀ x ∈ l, x.size = k) ∧ l.length = n ∧ All2 (RelL m) (flats l) cells ∧ ∀ w1 : World, w1.heap = w.heap → ∀ j, j ≤ n → (loadCells A (j * k)).run P w1 = .ok (cells.take (j * k)).toArray w1 := by
  obtain ⟨_, L, A, cap, hL, hv, hn, hcap, hA⟩ := hc
  unfold elems at h
  split at h
  · rename_i k' cs hp
    split at h
    · rename_i hcond
      obtain ⟨rfl, hlen⟩ := hcond
      simp only [Option.some.injEq] at h; subst h
      · obtain ⟨L', hL', cc, el, hb, hbd, hw, hrel⟩ := hH.part hp
        simp only at hL'
        rw [hL] at hL'; simp only [Option.some.injEq] at hL'; subst hL'
        have hws : wfs ((cs.drop s.i).take n) := wfs_mem.2 fun x hx => wfs_mem.1 hw.2 x (List.mem_of_mem_drop (List.mem_of_mem_take hx))
        have hsz : ∀ x ∈ (cs.drop s.i).take n, x.size = s.k := fun x hx => hw.1 x (List.mem_of_mem_drop (List.mem_of_mem_take hx))
        have hll : ((cs.drop s.i).take n).length = n := by simp; omega
        by_cases hn0 : n = 0
        · subst hn0
          exact ⟨A, cap, [], hv, hws, by rw [hk] at hsz; exact hsz, hll, by simp [flats, All2], fun w1 _ j hj => by
            have : j = 0 := Nat.le_zero.1 hj
            subst this; simp [loadCells, loadCellsFrom]⟩
        · have hA := hA (by omega)
          have hsplit : cs = cs.take s.i ++ ((cs.drop s.i).take n ++ (cs.drop s.i).drop n) := by rw [List.take_append_drop, List.take_append_drop]
          have hl1 : (flats (cs.take s.i)).length = s.i * s.k := by
            rw [flats_len _ (wfs_mem.2 fun x hx => wfs_mem.1 hw.2 x (List.mem_of_mem_take hx)), arr_take hw.1 (by omega)]
          have hl2 : (flats ((cs.drop s.i).take n)).length = n * s.k := by
            rw [flats_len _ hws]
            have := arr_take (cs := (cs.drop s.i).take n) (i := n) hsz (by omega)
            rw [List.take_of_length_le (by omega)] at this
            exact this
          simp only [flat] at hrel
          have hsize : (AV.arr s.k cs).size = s.k * cs.length := rfl
          rw [hsize] at hrel
          generalize hS : s.k * cs.length = S at hrel
          rw [hsplit, flats_append, flats_append] at hrel
          have r2 := (All2.split (All2.split hrel).2).1
          rw [hl1, hl2, List.drop_take, List.take_take, List.drop_drop] at r2
          have hle : s.i * s.k + n * s.k ≤ s.k * cs.length := by
            rw [← Nat.add_mul, Nat.mul_comm]; exact Nat.mul_le_mul_left _ hlen
          rw [Nat.min_eq_left (by omega)] at r2
          rw [hsize] at hbd
          refine ⟨A, cap, _, hv, hws, by rw [hk] at hsz; exact hsz, hll, r2, fun w1 hw1 j hj => ?_⟩
          have hjk : j * s.k ≤ n * s.k := Nat.mul_le_mul_right _ hj
          rw [hA, ← hk, List.take_take, Nat.min_eq_left hjk]
          exact loadCells_run (P := P) (off := L.base + offs s.p + s.i * s.k) (n := j * s.k) (hw1 ▸ hb) (by simp only at hbd; omega)
    · simp at h
  · simp at h

omit hr hH in
theorem bytes_rel : ∀ {l : List AV} {bs : List UInt8} {cells : List Value}, bytesOf l = some bs → All2 (RelL m) (flats l) cells → ∃ ns : List Int, cells = ns.map (.int .u8) ∧ bs = ns.map fun n => UInt8.ofNat n.toNat
  | [], bs, cells, h, r => by
    simp [bytesOf] at h; subst h
    cases cells with
    | nil => exact ⟨[], rfl, rfl⟩
    | cons => exact r.elim
  | .sc (.int .u8 n) :: l, bs, cells, h, r => by
    simp only [bytesOf, Option.map_eq_some_iff] at h
    obtain ⟨bs', h', rfl⟩ := h
    simp only [flats, flat, List.cons_append, List.nil_append] at r
    cases cells with
    | nil => exact r.elim
    | cons c cells =>
      obtain ⟨ns, rfl, rfl⟩ := bytes_rel h' r.2
      have : c = .int .u8 n := r.1
      exact ⟨n :: ns, by rw [this]; rfl, rfl⟩
  | .sc (.int .i8 _) :: _, _, _, h, _ | .sc (.int .i16 _) :: _, _, _, h, _ | .sc (.int .i32 _) :: _, _, _, h, _ | .sc (.int .i64 _) :: _, _, _, h, _
  | .sc (.int .u16 _) :: _, _, _, h, _ | .sc (.int .u32 _) :: _, _, _, h, _ | .sc (.int .u64 _) :: _, _, _, h, _ | .sc (.bool _) :: _, _, _, h, _ | .sc (.float _ _) :: _, _, _, h, _
  | .sc (.complex _ _ _) :: _, _, _, h, _ | .sc (.string _) :: _, _, _, h, _ | .sc (.pointer _) :: _, _, _, h, _ | .sc (.slice _ _ _) :: _, _, _, h, _ | .sc (.map _) :: _, _, _, h, _
  | .sc (.chan _) :: _, _, _, h, _ | .sc (.func _ _ _) :: _, _, _, h, _ | .sc .nilFunc :: _, _, _, h, _ | .sc (.iface _ _) :: _, _, _, h, _ | .sc .nilIface :: _, _, _, h, _
  | .sc (.agg _) :: _, _, _, h, _ | .sc (.tuple _) :: _, _, _, h, _
  | .ptr _ :: _, _, _, h, _ | .slice _ _ :: _, _, _, h, _ | .map _ :: _, _, _, h, _ | .func _ _ _ :: _, _, _, h, _ | .nilFunc :: _, _, _, h, _
  | .iface _ _ :: _, _, _, h, _ | .nilIface :: _, _, _, h, _ | .agg _ _ :: _, _, _, h, _ | .arr _ _ :: _, _, _, h, _ | .tuple _ :: _, _, _, h, _ => by simp [bytesOf] at h

omit hr hH in
theorem bytes_run (f : Value → ByteArray → Sem (ForInStep ByteArray)) (hf : ∀ n s, f (.int .u8 n) s = pure (.yield (s.push (UInt8.ofNat n.toNat)))) (ns : List Int) (w : World) : ∀ (acc : ByteArray),
    (forIn (ns.map (Value.int .u8)).toArray acc f).run P w = .ok ⟨acc.data ++ (ns.map fun n => UInt8.ofNat n.toNat).toArray⟩ w := by
  simp only [List.forIn_toArray]
  induction ns with
  | nil => intro acc; simp
  | cons n ns ih =>
    intro acc
    simp only [List.map_cons, List.forIn_cons, Sem.run_bind, hf, Sem.run_pure, Result.andThen_ok]
    rw [ih]
    simp [ByteArray.push]

theorem r_cvs {s d el : Nat} {x : Operand} {x' : RX} {v : AV} (hx : chkX x x' = true) (hs : P.underlying s = some (.slice el)) (hd : P.underlying d = some .string) (he : isU8 P el = true) (h : evR H e (.cvs x') = some v) :
    ∃ c, RelV m v c ∧ (convert s d (a.eval x)).run P w = .ok c w := by
  have he : P.underlying el = some (.int .u8) := by
    unfold isU8 at he; split at he
    · assumption
    · simp at he
  have hrun : ∀ A n cap, a.eval x = .slice A n cap → (convert s d (a.eval x)).run P w = (Conv.bytesToString (a.eval x)).run P w := by
    intro A n cap hv
    simp only [convert, Sem.run_bind, underlying_run hs, underlying_run hd, Result.andThen_ok, hv, underlying_run he]
  simp only [evR] at h
  split at h
  · rename_i n hv
    simp only [Option.some.injEq] at h; subst h
    obtain ⟨_, hn, hc⟩ := chkX_rel hr hx hv
    refine ⟨.string .empty, ⟨rfl, rfl⟩, ?_⟩
    rw [hrun _ _ _ hc, hc]; rfl
  · rename_i s' n hv
    split at h
    · rename_i hk
      simp only [Option.bind_eq_some_iff, Option.map_eq_some_iff] at h
      obtain ⟨l, hl, bs, hbs, rfl⟩ := h
      obtain ⟨A, cap, cells, hc, hw, hsz, hlen, hrel, hload⟩ := elems_cells (P := P) hH hk hl (chkX_rel hr hx hv)
      obtain ⟨ns, rfl, rfl⟩ := bytes_rel hbs hrel
      refine ⟨.string ⟨(ns.map fun (n : Int) => UInt8.ofNat n.toNat).toArray⟩, rel_sc rfl, ?_⟩
      rw [hrun _ _ _ hc, hc]
      simp only [Conv.bytesToString, Sem.run_bind]
      have hload := hload w rfl n (Nat.le_refl _)
      have hcl : (ns.map (Value.int .u8)).length = n := by
        rw [← hrel.len, flats_len _ hw, ← hlen]
        have := arr_take (cs := l) (i := l.length) hsz (Nat.le_refl _)
        rw [List.take_length, Nat.mul_one] at this
        exact this
      rw [Nat.mul_one, List.take_of_length_le (by omega)] at hload
      rw [hload]
      simp only [Result.andThen_ok]
      refine (congrArg (fun r => Result.andThen r _) (bytes_run (P := P) _ (fun _ _ => rfl) ns w ByteArray.empty)).trans ?_
      simp
    · simp at h
  · simp at h

theorem r_lenm {T key el : Nat} {x : Operand} {x' : RX} {v : AV} {at_ : Array Nat} (hx : chkX x x' = true) (h0 : at_[0]? = some T) (hT : P.underlying T = some (.map key el)) (h : evR H e (.lenm x') = some v) (ty : Nat) :
    ∃ c, RelV m v c ∧ (Builtin.len_ at_ ty #[a.eval x]).run P w = .ok c w := by
  simp only [evR] at h
  split at h
  · rename_i hv
    simp only [Option.some.injEq] at h; subst h
    have hc : a.eval x = .map none := (chkX_rel hr hx hv).2
    exact ⟨_, ⟨rfl, rfl⟩, by simp [Builtin.len_, h0, underlying_run hT, hc, goInt]⟩
  · rename_i r hv
    split at h
    · rename_i es hes
      simp only [Option.some.injEq] at h; subst h
      obtain ⟨_, l, hl, hc⟩ := chkX_rel hr hx hv
      obtain ⟨l', hl', ms, clock, hb, hall⟩ := hH.blk _ _ hes
      rw [hl] at hl'; simp only [Option.some.injEq] at hl'; subst hl'
      have := hall.len
      have hgo : (getObj l.blk).run P w = .ok (.map ms clock) w := by simp [getObj, Sem.run, hb]
      refine ⟨.int .i64 es.length, ⟨rfl, rfl⟩, ?_⟩
      simp [Builtin.len_, h0, underlying_run hT, hc, hgo, goInt, this]
    · simp at h
  · simp at h

/-- Operations that read memory. -/
theorem r_sound {o : Oper} {q : RD} {v : AV} (hc : chkR P o.op q = true) (h : evR H e q = some v) : ∃ c, RelV m v c ∧ (execOp a.eval o).run P w = .ok (.value c) w := by
  have lift : ∀ (s : Sem Value), (∃ r, RelV m v r ∧ s.run P w = .ok r w) → ∃ c, RelV m v c ∧ (do pure (Next.value (← s)) : Sem Next).run P w = .ok (.value c) w :=
    fun s ⟨r, h1, h2⟩ => ⟨r, h1, by simp [h2]⟩
  obtain ⟨dst, op, type, pos, after, guard⟩ := o
  simp only at hc
  unfold chkR at hc
  split at hc
  · simp only [Bool.and_eq_true, decide_eq_true_eq] at hc
    exact lift _ (r_ld hr hH hc.1.1 hc.1.2 hc.2 h)
  · simp only [Bool.and_eq_true, beq_iff_eq] at hc
    obtain ⟨⟨⟨hx, hi⟩, rfl⟩, hc⟩ := hc
    split at hc
    · rename_i hT
      simp only [Bool.and_eq_true] at hc
      exact lift _ (r_look hr hH hx hi hT hc.1 hc.2 h)
    · simp at hc
  · simp only [Bool.and_eq_true] at hc
    obtain ⟨hx, hc⟩ := hc
    split at hc
    · rename_i hs hd
      simp only [Bool.and_eq_true] at hc
      exact lift _ (r_cvs hr hH hx hs hd hc.1 h)
    · simp at hc
  · rename_i args argTypes x'
    split at hc
    · rename_i x k t hx ht
      obtain ⟨T, h0, hT⟩ : ∃ T, argTypes[0]? = some T ∧ P.underlying T = some (.map k t) := by simpa [Option.bind_eq_some_iff] using ht
      have ha : args = #[x] := by cases args; simp at hx; simp [hx]
      subst ha
      obtain ⟨c, h1, h2⟩ := r_lenm hr hH hc h0 hT h type
      exact ⟨c, h1, by simp [execOp, resolve, invoke, builtin, h2]⟩
    · simp at hc
  · simp at hc

end
end Go.AM

namespace Go.AM

def bytesT (P : Program) (t : Nat) : Option Nat := (P.info? t).map (·.bytes)

def chkL (P : Program) : Op → AL → Bool
  | .alloc T, .alloc z => zeroIs P T z
  | .box _ x, .box x' => chkX x x'
  | .buildSlice T n ps, .bldS k n' z ps' => n == n' && chkXs (ps.toList.map (·.2)) (ps'.map (·.2)) && decide (ps.toList.map (·.1) = ps'.map (·.1)) && decide (n * k ≤ 2 ^ 24) && z.size == k && (match P.underlying T with
    | some (.slice el) => decide (szOf P el = some k) && zeroIs P el z
    | _ => false)
  | .makeSlice T l c, .mkS k bytes z l' c' => chkX l l' && chkX c c' && z.size == k && (match P.underlying T with
    | some (.slice el) => decide (szOf P el = some k) && zeroIs P el z && decide (bytesT P el = some bytes)
    | _ => false)
  | .makeMap _ none, .mkM => true
  | _, _ => false

def AV.count : AV → Nat
  | .arr _ cs => cs.length
  | _ => 0

def Mp.put (m : Mp) (i : Nat) (l : Loc) : Mp := fun j => if j = i then some l else m j

theorem Mp.le_put {m : Mp} {i : Nat} {l : Loc} (h : m i = none) : m.le (m.put i l) := by
  intro j x hj
  unfold Mp.put
  split
  · rename_i he; subst he; rw [h] at hj; simp at hj
  · exact hj

/-- A new block. -/
theorem new_blk {m : Mp} {st : St} {w w' : World} {o : Obj} {B : Blk} {l : Loc} (hrw : B.rw = true) (hH : RelH m st.H w) (hu : Unm m st.nx (st.nx + 1)) (hl : l.blk = w.heap.size) (hw' : w'.heap = w.heap.push o)
    (hB : RelBlk (m.put st.nx l) w' l B) (hs : w'.os = w.os ∧ w'.output = w.output := by exact ⟨rfl, rfl⟩) (ho : ∀ off, frz (some o) off = false := by intro off; simp [frz]) : Post m st w (m.put st.nx l) ⟨st.H.upd st.nx B, st.nx + 1⟩ w' := by
  have hm : m st.nx = none := hu _ (Nat.le_refl _) (by omega)
  have hle := Mp.le_put (l := l) hm
  have old : ∀ i B', (st.H.upd st.nx B) i = some B' → i ≠ st.nx → st.H i = some B' := by
    intro i B' hi hne; simpa [Mem.upd, hne] using hi
  have get : ∀ i B' li, st.H i = some B' → (m.put st.nx l) i = some li → m i = some li ∧ li.blk < w.heap.size := by
    intro i B' li hi hli
    obtain ⟨l', hl', hblk⟩ := hH.blk i B' hi
    rw [hle i l' hl'] at hli
    simp only [Option.some.injEq] at hli; subst hli
    exact ⟨hl', hblk.lt⟩
  have heq : ∀ k, k < w.heap.size → w'.heap[k]? = w.heap[k]? := by
    intro k hk; rw [hw', Array.getElem?_push]; simp [Nat.ne_of_lt hk]
  refine ⟨⟨?_, ?_⟩, ?_, by rw [hw']; simp, fun k hk _ => heq k hk, ?_, ?_, WS.push hw' ho hs, by simp, ?_⟩
  · intro i B' hi
    by_cases hne : i = st.nx
    · subst hne
      simp only [Mem.upd, if_true, Option.some.injEq] at hi; subst hi
      exact ⟨l, by simp [Mp.put], hB⟩
    · obtain ⟨l', hl', hblk⟩ := hH.blk i B' (old i B' hi hne)
      exact ⟨l', hle i l' hl', hblk.mono hle (heq _ hblk.lt)⟩
  · intro i j Bi Bj li lj hi hj hli hlj hrr he
    by_cases h1 : i = st.nx <;> by_cases h2 : j = st.nx
    · rw [h1, h2]
    · subst h1
      have := get j Bj lj (old j Bj hj h2) hlj
      simp [Mp.put] at hli; subst hli; omega
    · subst h2
      have := get i Bi li (old i Bi hi h1) hli
      simp [Mp.put] at hlj; subst hlj; omega
    · exact hH.inj i j Bi Bj li lj (old i Bi hi h1) (old j Bj hj h2) (get i Bi li (old i Bi hi h1) hli).1 (get j Bj lj (old j Bj hj h2) hlj).1 hrr he
  · intro i hi
    unfold Mp.put
    split
    · rename_i he; subst he; simp at hi; omega
    · rfl
  · intro i B' l' hi hB' hl'
    by_cases hne : i = st.nx
    · subst hne
      simp [Mp.put] at hl'; subst hl'; exact .inl (by omega)
    · have h1 := old i B' hi hne
      exact .inr ⟨i, B', l', h1, hB', (get i B' l' h1 hl').1, rfl⟩
  · intro i t hi
    by_cases hne : i = st.nx
    · subst hne
      simp only [Mem.upd, if_true, Option.some.injEq] at hi; subst hi
      simp [Blk.rw] at hrw
    · exact old i _ hi hne
  · intro i hi
    by_cases hne : i = st.nx
    · subst hne; exact .inr (by simp)
    · left; simpa [Mem.upd, hne] using hi

theorem new_tree {m : Mp} {st : St} {w w' : World} {t : AV} {cells : Array Value} {el : TypeId} {cap : Nat} (hH : RelH m st.H w) (hu : Unm m st.nx (st.nx + 1)) (hw' : w'.heap = w.heap.push (.cells cells el))
    (hw : wf t) (hsz : t.size ≤ cells.size) (hrel : All2 (RelL m) (flat t) (cells.toList.take t.size)) (hcap : match t with | .arr k cs => cs.length ≤ cap ∧ cap * k ≤ cells.size | _ => True) (hs : w'.os = w.os ∧ w'.output = w.output := by exact ⟨rfl, rfl⟩) :
    Post m st w (m.put st.nx ⟨w.heap.size, 0, cap⟩) ⟨st.H.upd st.nx (.tree t), st.nx + 1⟩ w' := by
  have hm : m st.nx = none := hu _ (Nat.le_refl _) (by omega)
  refine new_blk rfl hH hu rfl hw' ⟨cells, el, by simp [hw'], hw, by simpa using hsz, by simpa using hrel.imp fun _ _ => RelL.mono (Mp.le_put hm), ?_⟩ hs
  cases t <;> first | trivial | simpa using hcap

theorem nt {m : Mp} {u : AV} {c : Value} (hu : RelV0 m u c) : RelV m u c := by
  cases u <;> first | exact hu | (exact absurd hu.1 (by simp [wf]))

theorem rel_new_ptr {m : Mp} {n : Nat} {l : Loc} (h : m n = some l) (hb : l.base = 0) : RelV m (.ptr (some (n, []))) (.pointer (some ⟨l.blk, 0, none⟩)) :=
  rel_ptr h (by simp [offs_nil, hb])

theorem range_map_rep {α : Type} (z : Array α) [Inhabited α] (n k : Nat) (hk : z.size = k) : ((Array.range (n * k)).map fun i => z[i % z.size]!).toList = (List.replicate n z.toList).flatten := by
  subst hk
  induction n with
  | zero => simp
  | succ n ih =>
    have e : (n + 1) * z.size = n * z.size + z.size := by rw [Nat.add_mul, Nat.one_mul]
    rw [e, List.replicate_succ', List.flatten_append, ← ih]
    simp only [Array.toList_map, Array.toList_range, List.range_add, List.map_append, List.map_map]
    congr 1
    simp only [List.flatten_cons, List.flatten_nil, List.append_nil]
    apply List.ext_getElem?
    intro i
    simp only [List.getElem?_map]
    by_cases hi : i < z.size
    · rw [List.getElem?_range hi]
      simp only [Option.map_some]
      have : (n * z.size + i) % z.size = i := by rw [Nat.add_comm, Nat.add_mul_mod_self_right, Nat.mod_eq_of_lt hi]
      simp [this, hi]
    · rw [List.getElem?_eq_none (by simp; omega), List.getElem?_eq_none (by simp; omega)]; rfl

theorem rep_rel {m : Mp} {z : AV} {cells : List Value} (hr : All2 (RelL m) (flat z) cells) (n : Nat) : All2 (RelL m) (flats (List.replicate n z)) ((List.replicate n cells).flatten) := by
  induction n with
  | zero => trivial
  | succ n ih => simp only [List.replicate_succ, flats, List.flatten_cons]; exact hr.append ih

theorem wf_rep {z : AV} (hz : wf z) (n : Nat) : wf (.arr z.size (List.replicate n z)) :=
  ⟨fun c hc => by rw [List.eq_of_mem_replicate hc], wfs_mem.2 fun c hc => by rw [List.eq_of_mem_replicate hc]; exact hz⟩

section
variable {P : Program} {m : Mp} {e : Env} {a : Act} {st : St} {w : World} (hr : RelEnv m e a.tmps) (hH : RelH m st.H w) (hu : Unm m st.nx (st.nx + 1))
include hr hH hu

def AlPost (P : Program) (m : Mp) (st : St) (w : World) (v : AV) (B : Blk) (s : Sem Value) : Prop :=
  ∃ m' w' c, s.run P w = .ok c w' ∧ RelV m' v c ∧ Post m st w m' ⟨st.H.upd st.nx B, st.nx + 1⟩ w'

omit hr in
theorem l_alloc {T : Nat} {z v : AV} {B : Blk} (hz : zeroIs P T z = true) (h : evAl e st.nx (.alloc z) = some (v, B)) : AlPost P m st w v B (Instr.alloc T true (.tuple #[])) := by
  simp only [evAl, Option.some.injEq, Prod.mk.injEq] at h
  obtain ⟨rfl, rfl⟩ := h
  obtain ⟨c, hc, hrun⟩ := zero_rel hz m
  obtain ⟨h1, h2⟩ := cells_of hc
  refine ⟨m.put st.nx ⟨w.heap.size, 0, z.count⟩, { w with heap := w.heap.push (.cells c.cells T) }, .pointer (some ⟨w.heap.size, 0, none⟩), ?_, rel_new_ptr (l := ⟨w.heap.size, 0, _⟩) (by simp [Mp.put]; rfl) rfl, ?_⟩
  · simp [Instr.alloc, hrun, newVar, newRow]
  · refine new_tree hH hu rfl hc.1 (by omega) (by rw [List.take_of_length_le (by simp; omega)]; exact h1) ?_
    cases z <;> first | trivial | (refine ⟨Nat.le_refl _, ?_⟩; rw [h2]; simp [AV.size, AV.count, Nat.mul_comm])

theorem l_box {T : Nat} {x : Operand} {x' : RX} {v : AV} {B : Blk} (hx : chkX x x' = true) (h : evAl e st.nx (.box x') = some (v, B)) : AlPost P m st w v B (Instr.box T (a.eval x)) := by
  simp only [evAl, Option.bind_eq_some_iff] at h
  obtain ⟨u, hu0, h⟩ := h
  split at h
  · simp only [Option.some.injEq, Prod.mk.injEq] at h
    obtain ⟨rfl, rfl⟩ := h
    have hc := ev0_rel hr hx hu0
    obtain ⟨h1, h2⟩ := cells_of hc
    refine ⟨m.put st.nx ⟨w.heap.size, 0, u.count⟩, { w with heap := w.heap.push (.cells (a.eval x).cells T) }, .pointer (some ⟨w.heap.size, 0, none⟩), ?_, rel_new_ptr (l := ⟨w.heap.size, 0, _⟩) (by simp [Mp.put]; rfl) rfl, ?_⟩
    · simp [Instr.box, newVar, newRow]
    · refine new_tree hH hu rfl hc.1 (by omega) (by rw [List.take_of_length_le (by simp; omega)]; exact h1) ?_
      cases u <;> first | trivial | (refine ⟨Nat.le_refl _, ?_⟩; rw [h2]; simp [AV.size, AV.count, Nat.mul_comm])
  · simp at h

omit hr in
theorem l_mkM {T : Nat} {v : AV} {B : Blk} (h : evAl e st.nx .mkM = some (v, B)) : AlPost P m st w v B (Instr.makeMap T none) := by
  simp only [evAl, Option.some.injEq, Prod.mk.injEq] at h
  obtain ⟨rfl, rfl⟩ := h
  refine ⟨m.put st.nx ⟨w.heap.size, 0, 0⟩, { w with heap := w.heap.push (.map #[] 0) }, .map (some w.heap.size), by simp [Instr.makeMap], ⟨trivial, ⟨w.heap.size, 0, 0⟩, by simp [Mp.put], rfl⟩, ?_⟩
  exact new_blk rfl hH hu rfl rfl ⟨#[], 0, by simp, trivial⟩

omit hr hH hu in
theorem rel_new_slice {m : Mp} {n k len : Nat} {l : Loc} (h : m n = some l) (hb : l.base = 0) (hc : len ≤ l.cap) : RelV m (.slice (some ⟨n, [], 0, k, none⟩) len) (.slice (some ⟨l.blk, 0, none⟩) len l.cap) :=
  ⟨.inr rfl, l, _, l.cap, h, rfl, hc, by simp, fun _ => by simp [offs_nil, hb]⟩

end

section
variable {P : Program} {m : Mp} {e : Env} {a : Act} {st : St} {w : World} (hr : RelEnv m e a.tmps) (hH : RelH m st.H w) (hu : Unm m st.nx (st.nx + 1))
include hr hH hu

theorem l_bldS {T el n k : Nat} {z v : AV} {B : Blk} {ps : Array (Nat × Operand)} {ps' : List (Nat × RX)} (hx : chkXs (ps.toList.map (·.2)) (ps'.map (·.2)) = true)
    (hi : ps.toList.map (·.1) = ps'.map (·.1)) (hn : n * k ≤ 2 ^ 24) (hzk : z.size = k) (hT : P.underlying T = some (.slice el)) (hs : szOf P el = some k) (hz : zeroIs P el z = true)
    (h : evAl e st.nx (.bldS k n z ps') = some (v, B)) : AlPost P m st w v B (Instr.buildSlice T n (ps.map fun (i, x) => (i, a.eval x))) := by
  simp only [evAl, Option.bind_eq_some_iff, Option.map_eq_some_iff, Prod.mk.injEq] at h
  obtain ⟨l, hl, t, ht, rfl, rfl⟩ := h
  have hrel := parts_rel hr hx hi hl
  obtain ⟨c, hcz, hrun⟩ := zero_rel hz m
  obtain ⟨hcells, hcsz⟩ := cells_of hcz
  have hlist : (ps.map fun (x : Nat × Operand) => (x.1, a.eval x.2)).toList = ps.toList.map fun (i, x) => (i, a.eval x) := by simp
  let cells0 : Array Value := (Array.range (n * k)).map fun i => (if n * k = 0 then #[] else c.cells)[i % (if n * k = 0 then #[] else c.cells).size]!
  have hrep : All2 (RelL m) (flat (.arr k (List.replicate n z))) cells0.toList := by
    simp only [flat]
    by_cases h0 : n * k = 0
    · have hc0 : cells0.toList = [] := by simp [cells0, h0]
      rw [hc0]
      have : flats (List.replicate n z) = [] := by
        rcases Nat.mul_eq_zero.1 h0 with h1 | h1
        · subst h1; rfl
        · have hf : flat z = [] := List.eq_nil_of_length_eq_zero (by rw [flat_len z hcz.1]; omega)
          clear h0 hn hc0 cells0 ht
          induction n with
          | zero => rfl
          | succ n ih => simp [List.replicate_succ, flats, hf, ih]
      rw [this]; simp [All2]
    · simp only [cells0, h0, if_false]
      rw [range_map_rep c.cells n k (by omega)]
      exact rep_rel hcells n
  subst hzk
  obtain ⟨cells', hfill, hw', hg', hr'⟩ := fill_eq (fun i => some (i * z.size, z.size)) (ps.toList.map fun (i, x) => (i, a.eval x)) cells0 (.arr z.size (List.replicate n z)) t l (wf_rep hcz.1 n) rfl hrep hrel
    (by intro i sz' cs' he; cases he) (by intro i k' cs' he; cases he; rfl) ht
  have hshape : ∃ cs, t = .arr z.size cs ∧ cs.length = n := by
    have key : ∀ (l : List (Nat × AV)) (cs : List AV) (t : AV), putParts (.arr z.size cs) l = some t → ∃ cs', t = .arr z.size cs' ∧ cs'.length = cs.length := by
      intro l
      induction l with
      | nil => intro cs t h; simp [putParts] at h; exact ⟨cs, h.symm, rfl⟩
      | cons q l ih =>
        intro cs t h
        obtain ⟨i, u⟩ := q
        simp only [putParts] at h
        split at h
        · obtain ⟨cs', h1, h2⟩ := ih _ _ h; exact ⟨cs', h1, by simpa using h2⟩
        · simp at h
    obtain ⟨cs', h1, h2⟩ := key l _ t ht
    exact ⟨cs', h1, by simpa using h2⟩
  obtain ⟨cs, rfl, hlen⟩ := hshape
  have hlen' := hr'.len
  rw [flat_len _ hw'] at hlen'
  simp only [AV.size, Array.length_toList] at hlen'
  refine ⟨m.put st.nx ⟨w.heap.size, 0, n⟩, { w with heap := w.heap.push (.cells cells' el) }, .slice (some ⟨w.heap.size, 0, none⟩) n n, ?_, ?_, ?_⟩
  · have hbytes : ¬ n * z.size > 2 ^ 24 := by omega
    simp only [Instr.buildSlice, Sem.run_bind, underlying_run hT, sizeOf_run hs, Result.andThen_ok, hbytes, if_false]
    by_cases h0 : n * z.size = 0
    · have hf := hfill
      simp only [cells0, h0, if_true] at hf
      simp only [h0, if_true, Sem.run_bind, Sem.run_pure, Result.andThen_ok]
      rw [hlist, hf]
      simp [newRow]
    · have hf := hfill
      simp only [cells0, h0, if_false] at hf
      simp only [h0, if_false, Sem.run_bind, Sem.run_pure, hrun, Result.andThen_ok]
      rw [hlist, hf]
      simp [newRow]
  · exact ⟨.inr rfl, ⟨w.heap.size, 0, n⟩, _, n, by simp [Mp.put], rfl, Nat.le_refl _, by simp, fun _ => by simp [offs_nil]⟩
  · exact new_tree hH hu rfl hw' (by simp [AV.size]; omega) (by rw [List.take_of_length_le (by simp [AV.size]; omega)]; exact hr') ⟨by omega, by rw [← hlen', Nat.mul_comm, ← hlen]; exact Nat.le_refl _⟩

theorem l_mkS {T el k bytes : Nat} {z v : AV} {B : Blk} {l c : Operand} {l' c' : RX} (hx : chkX l l' = true) (hy : chkX c c' = true) (hzk : z.size = k) (hT : P.underlying T = some (.slice el)) (hs : szOf P el = some k)
    (hz : zeroIs P el z = true) (hb : bytesT P el = some bytes) (h : evAl e st.nx (.mkS k bytes z l' c') = some (v, B)) : AlPost P m st w v B (Instr.makeSlice T (a.eval l) (a.eval c)) := by
  simp only [evAl] at h
  split at h
  · rename_i k1 n k2 n2 hl hc
    split at h
    · rename_i hcond
      obtain ⟨h0, rfl, hbn, hlt⟩ := hcond
      simp only [Option.some.injEq, Prod.mk.injEq] at h
      obtain ⟨rfl, rfl⟩ := h
      have hlv : a.eval l = .int k1 n := (chkX_rel hr hx hl).2
      have hcv : a.eval c = .int k2 n := (chkX_rel hr hy hc).2
      obtain ⟨zc, hcz, hrun⟩ := zero_rel hz m
      obtain ⟨hcells, hcsz⟩ := cells_of hcz
      obtain ⟨N, rfl⟩ := Int.eq_ofNat_of_zero_le h0
      subst hzk
      have hti : ∃ i, P.info? el = some i ∧ i.bytes = bytes := by simpa [bytesT] using hb
      obtain ⟨ti, hti, htb⟩ := hti
      let cells' : Array Value := (Array.range (N * z.size)).map fun i => (if N * z.size = 0 then #[] else zc.cells)[i % (if N * z.size = 0 then #[] else zc.cells).size]!
      have hrep : All2 (RelL m) (flat (.arr z.size (List.replicate N z))) cells'.toList := by
        simp only [flat]
        by_cases h0 : N * z.size = 0
        · have hc0 : cells'.toList = [] := by simp [cells', h0]
          rw [hc0]
          have : flats (List.replicate N z) = [] := by
            rcases Nat.mul_eq_zero.1 h0 with h1 | h1
            · subst h1; rfl
            · have hf : flat z = [] := List.eq_nil_of_length_eq_zero (by rw [flat_len z hcz.1]; omega)
              clear h0 hc0 hlt hbn cells' hlv hcv hl hc
              induction N with
              | zero => rfl
              | succ n ih => simp [List.replicate_succ, flats, hf, ih (by omega)]
          rw [this]; simp [All2]
        · simp only [cells', h0, if_false]
          rw [range_map_rep zc.cells N z.size (by omega)]
          exact rep_rel hcells N
      have hw' := wf_rep hcz.1 N
      have hlen' := hrep.len
      rw [flat_len _ hw'] at hlen'
      simp only [AV.size, Array.length_toList, List.length_replicate] at hlen'
      have hwrap : IntKind.i64.wrap (N : Int) = N := by
        have : (N : Int) < 2 ^ 62 := hlt
        simp [IntKind.wrap, IntKind.bits, IntKind.signed]
        omega
      refine ⟨m.put st.nx ⟨w.heap.size, 0, N⟩, { w with heap := w.heap.push (.cells cells' el) }, .slice (some ⟨w.heap.size, 0, none⟩) N N, ?_, ?_, ?_⟩
      · simp only [Instr.makeSlice, Sem.run_bind, underlying_run hT, Result.andThen_ok, hlv, hcv, asInt, asIntOf, Sem.run_pure, typeInfo, run_program, hti, htb, hwrap]
        have h1 : ¬ ((N : Int) < 0) := by omega
        have h2 : ¬ ((bytes : Int) * (N : Int) > 2 ^ 48) := by omega
        have h3 : ¬ ((N : Int) > (N : Int)) := by omega
        simp only [h1, h2, h3, decide_false, Bool.or_self, Bool.false_eq_true, if_false, Int.toNat_natCast]
        by_cases h0 : N * z.size = 0
        · simp [newRow, cells', h0, sizeOf_run hs]
        · simp [newRow, cells', h0, sizeOf_run hs, hrun]
      · exact ⟨.inr rfl, ⟨w.heap.size, 0, N⟩, ⟨w.heap.size, 0, none⟩, N, by simp [Mp.put], rfl, by simp, by simp, fun _ => by simp [offs_nil]⟩
      · simp only [Int.toNat_natCast]
        exact new_tree hH hu rfl hw' (by simp [AV.size]; omega) (by rw [List.take_of_length_le (by simp [AV.size]; omega)]; exact hrep) ⟨by simp, by rw [← hlen', Nat.mul_comm]; exact Nat.le_refl _⟩
    · simp at h
  · simp at h


/-- Operations that make a block. -/
theorem l_sound {o : Oper} {q : AL} {v : AV} {B : Blk} (hc : chkL P o.op q = true) (h : evAl e st.nx q = some (v, B)) :
    ∃ m' w' c, (execOp a.eval o).run P w = .ok (.value c) w' ∧ RelV m' v c ∧ Post m st w m' ⟨st.H.upd st.nx B, st.nx + 1⟩ w' := by
  have lift : ∀ (s : Sem Value), AlPost P m st w v B s → ∃ m' w' c, (do pure (Next.value (← s)) : Sem Next).run P w = .ok (.value c) w' ∧ RelV m' v c ∧ Post m st w m' ⟨st.H.upd st.nx B, st.nx + 1⟩ w' :=
    fun s ⟨m', w', c, h1, h2, h3⟩ => ⟨m', w', c, by simp [h1], h2, h3⟩
  obtain ⟨dst, op, type, pos, after, guard⟩ := o
  simp only at hc
  unfold chkL at hc
  split at hc
  · exact lift _ (l_alloc hH hu hc h)
  · exact lift _ (l_box hr hH hu hc h)
  · simp only [Bool.and_eq_true, decide_eq_true_eq, beq_iff_eq] at hc
    obtain ⟨⟨⟨⟨⟨rfl, hx⟩, hi⟩, hn⟩, hzk⟩, hc⟩ := hc
    split at hc
    · rename_i hT
      simp only [Bool.and_eq_true, decide_eq_true_eq] at hc
      exact lift _ (l_bldS hr hH hu hx hi hn hzk hT hc.1 hc.2 h)
    · simp at hc
  · simp only [Bool.and_eq_true, beq_iff_eq] at hc
    obtain ⟨⟨⟨hx, hy⟩, hzk⟩, hc⟩ := hc
    split at hc
    · rename_i hT
      simp only [Bool.and_eq_true, decide_eq_true_eq] at hc
      exact lift _ (l_mkS hr hH hu hx hy hzk hT hc.1.1 hc.1.2 hc.2 h)
    · simp at hc
  · exact lift _ (l_mkM hH hu h)
  · simp at hc

end
end Go.AM

namespace Go.AM

def zsz (P : Program) (t : Nat) : Option Nat := ((P.info? t).bind (·.zero)).map (·.cells.size)

def entersB (P : Program) (f : Nat) : Bool := match P.funcs[f]? with | some fn => fn.name != "runtime.NumGoroutine" && fn.body.isSome | none => false

def chkA (P : Program) : Op → AC → Bool
  | .store T x v, .st n x' v' => chkX x x' && chkX v v' && decide (szOf P T = some n)
  | .mapUpdate T m k v, .mset m' k' v' | .insert T m k v, .mset m' k' v' => chkX m m' && chkX k k' && chkX v v' && (match P.underlying T with
    | some (.map key _) => isIntT P key
    | _ => false)
  | .call { callee := .builtin .delete, args, argTypes }, .mdel m' k' => (match args.toList, (argTypes[0]?).bind P.underlying with
    | [m, k], some (.map key _) => chkX m m' && chkX k k' && isIntT P key
    | _, _ => false)
  | .call { callee := .builtin .append, args, argTypes }, .app _ k bytes s' x' => (match args.toList, (argTypes[0]?).bind P.underlying, (argTypes[1]?).bind P.underlying with
    | [s, x], some (.slice el), some d => chkX s s' && chkX x x' && decide (szOf P el = some k) && decide (bytesT P el = some bytes) && bytes != 0 && decide (zsz P el = some k) && (match d with | .int _ => false | _ => true)
    | _, _, _ => false)
  | .call { callee := .builtin .append, args, argTypes }, .appz k bytes z s' x' => (match args.toList, (argTypes[0]?).bind P.underlying, (argTypes[1]?).bind P.underlying with
    | [s, x], some (.slice el), some (.int _) => chkX s s' && chkX x x' && decide (szOf P el = some k) && decide (bytesT P el = some bytes) && bytes != 0 && zeroIs P el z && z.size == k
    | _, _, _ => false)
  | .call { callee := .builtin .copy, args, argTypes }, .cpy k d' s' => (match args.toList, (argTypes[0]?).bind P.underlying with
    | [d, s], some (.slice el) => chkX d d' && chkX s s' && decide (szOf P el = some k)
    | _, _ => false)
  | .call { callee := .value (.func f), args, .. }, .callf f' args' => f == f' && chkXs args.toList args' && entersB P f
  | .call { callee := .value x, args, .. }, .callv x' args' => chkX x x' && chkXs args.toList args'
  | .panic x, .pan x' => chkX x x'
  | _, _ => false

theorem growBy_le (n : Nat) : ∀ (r c : Nat), c ≤ n + n / 4 + 512 → Builtin.growBy n r c ≤ n + n / 4 + 512
  | 0, c, h => by simp [Builtin.growBy]; omega
  | r + 1, c, h => by
    unfold Builtin.growBy
    split
    · omega
    · exact growBy_le n r _ (by omega)

theorem nextcap_le {n c : Nat} (h : c < n) : Builtin.nextslicecap n c ≤ n + n / 4 + 512 := by
  unfold Builtin.nextslicecap
  split
  · omega
  · split
    · omega
    · exact growBy_le n 4 c (by omega)

theorem RelH.upd_same {m : Mp} {H : Mem} {w w' : World} {i : Nat} {B : Blk} {l : Loc} (h : RelH m H w) {Bi : Blk} (hBi : H i = some Bi) (hrw : Bi.rw = true) (hl : m i = some l) (hB : RelBlk m w' l B) (hw : ∀ k, k ≠ l.blk → w'.heap[k]? = w.heap[k]?) :
    RelH m (H.upd i B) w' := by
  have old : ∀ j B', (H.upd i B) j = some B' → j ≠ i → H j = some B' := by intro j B' hj hne; simpa [Mem.upd, hne] using hj
  have ex : ∀ j B', (H.upd i B) j = some B' → ∃ B'', H j = some B'' ∧ (B'.rw = true → B''.rw = true) := by
    intro j B' hj
    by_cases hne : j = i
    · subst hne; exact ⟨Bi, hBi, fun _ => hrw⟩
    · exact ⟨B', old j B' hj hne, id⟩
  refine ⟨?_, ?_⟩
  · intro j B' hj
    by_cases hne : j = i
    · subst hne
      simp only [Mem.upd, if_true, Option.some.injEq] at hj; subst hj
      exact ⟨l, hl, hB⟩
    · have h1 := old j B' hj hne
      obtain ⟨l', hl', hb⟩ := h.blk j B' h1
      refine ⟨l', hl', hb.mono (Mp.le.refl m) (hw _ fun he => hne (h.inj j i B' Bi l' l h1 hBi hl' hl (.inr hrw) he))⟩
  · intro j k Bj Bk lj lk hj hk hlj hlk hrr he
    obtain ⟨Bj', h1, r1⟩ := ex j Bj hj
    obtain ⟨Bk', h2, r2⟩ := ex k Bk hk
    exact h.inj j k Bj' Bk' lj lk h1 h2 hlj hlk (hrr.imp r1 r2) he

theorem Post.upd {m : Mp} {st : St} {w w' : World} {i : Nat} {B : Blk} {l : Loc} (h : RelH m st.H w) {Bi : Blk} (hBi : st.H i = some Bi) (hrw : Bi.rw = true) (hBrw : B.rw = true) (hl : m i = some l) (hB : RelBlk m w' l B) (hs : w'.heap.size = w.heap.size)
    (hw : ∀ k, k ≠ l.blk → w'.heap[k]? = w.heap[k]?) (hws : WS w w') : Post m st w m ⟨st.H.upd i B, st.nx⟩ w' := by
  refine ⟨h.upd_same hBi hrw hl hB hw, fun _ _ => rfl, by omega, fun k hk hb => hw k fun he => hb i Bi l hBi hrw hl he.symm, ?_, ?_, hws, Nat.le_refl _, ?_⟩
  · intro j B' l' hj hB' hl'
    right
    by_cases hne : j = i
    · subst hne; exact ⟨j, Bi, l', hBi, hrw, hl', rfl⟩
    · exact ⟨j, B', l', by simpa [Mem.upd, hne] using hj, hB', hl', rfl⟩
  · intro j t hj
    by_cases hne : j = i
    · subst hne
      simp only [Mem.upd, if_true, Option.some.injEq] at hj; subst hj
      simp [Blk.rw] at hBrw
    · simpa [Mem.upd, hne] using hj
  · intro j hj
    left
    by_cases hne : j = i
    · subst hne; rw [hBi]; simp
    · simpa [Mem.upd, hne] using hj

theorem rel_one {m : Mp} {v : AV} {c : Value} (h : RelL m v c) (hw : wf v) : isOne c = true := by
  cases v with
  | sc v => have : c = v := h; subst this; rcases isSc_cases hw with ⟨_, rfl⟩ | ⟨_, _, rfl⟩ | ⟨_, _, rfl⟩ | ⟨_, rfl⟩ <;> rfl
  | ptr p => cases p with
    | none => have : c = .pointer none := h; subst this; rfl
    | some p => obtain ⟨_, _, rfl⟩ := h; rfl
  | slice s n => cases s with
    | none => obtain ⟨_, rfl⟩ := h; rfl
    | some p => obtain ⟨_, _, _, _, rfl, _⟩ := h; rfl
  | map r => cases r with
    | none => have : c = .map none := h; subst this; rfl
    | some p => obtain ⟨_, _, rfl⟩ := h; rfl
  | func f x y => obtain ⟨_, _, rfl, _⟩ := h; rfl
  | nilFunc => have : c = .nilFunc := h; subst this; rfl
  | iface t v => have : c = .iface t v := h; subst this; rfl
  | nilIface => have : c = .nilIface := h; subst this; rfl
  | agg => exact h.elim
  | arr => exact h.elim
  | tuple => exact h.elim

theorem all2_one {m : Mp} : ∀ {l : List AV} {cs : List Value}, All2 (RelL m) l cs → (∀ v ∈ l, wf v) → ∀ c ∈ cs, isOne c = true
  | [], [], _, _, c, hc => by simp at hc
  | v :: l, x :: cs, ⟨h1, h2⟩, hw, c, hc => by
    rcases List.mem_cons.1 hc with rfl | hc
    · exact rel_one h1 (hw v (List.mem_cons_self ..))
    · exact all2_one h2 (fun v hv => hw v (List.mem_cons_of_mem _ hv)) c hc

/-- cells written: the world behind it -/
theorem store_run {P : Program} {b off : Nat} {el : TypeId} {vs : List Value} {w : World} {c : Array Value} (hb : w.heap[b]? = some (.cells c el)) (h : off + vs.length ≤ c.size) (hv : ∀ v ∈ vs, isOne v = true) :
    ∃ w', (storeCells ⟨b, off, none⟩ vs).run P w = .ok () w' ∧ w'.heap[b]? = some (.cells (putList c.toList off vs).toArray el) ∧ w'.heap.size = w.heap.size ∧ (∀ k, k ≠ b → w'.heap[k]? = w.heap[k]?) ∧ WS w w' := by
  obtain ⟨w', h1, h2, h3⟩ := storeCells_run (P := P) (off := off) vs 0 w c hb (by omega) hv
  have hlt : b < w.heap.size := (Array.getElem?_eq_some_iff.1 hb).1
  refine ⟨w', h1, ?_, by rw [h2]; simp, fun k hk => by rw [h2, Array.getElem?_setIfInBounds_ne (Ne.symm hk)], WS.set hb h2 (fun _ => rfl) h3⟩
  rw [h2]; simp [hlt]

section
variable {P : Program} {m : Mp} {e : Env} {a : Act} {st : St} {w : World} (hr : RelEnv m e a.tmps) (hH : RelH m st.H w)
include hr hH

theorem a_st {F : CallT} {T n : Nat} {x y : Operand} {x' y' : RX} {out : Out} {st' : St} (hx : chkX x x' = true) (hy : chkX y y' = true) (hs : szOf P T = some n) (h : evA F e st (.st n x' y') = some (out, st')) :
    ∃ w', (Instr.storeAt T (a.eval x) (a.eval y)).run P w = .ok () w' ∧ out = .val (.tuple []) ∧ Post m st w m st' w' := by
  simp only [evA] at h
  split at h
  · rename_i p v hp hv
    split at h
    · rename_i hvn
      split at h
      · rename_i t ht
        simp only [Option.map_eq_some_iff, Prod.mk.injEq] at h
        obtain ⟨t', ht', rfl, rfl⟩ := h
        obtain ⟨l, hl, hxv⟩ := (chkX_rel hr hx hp).ptr_inv
        obtain ⟨l', hl', hblk⟩ := hH.blk _ _ ht
        rw [hl] at hl'; simp only [Option.some.injEq] at hl'; subst hl'
        have hyv := ev0_rel hr hy hv
        obtain ⟨hcells, hcs⟩ := cells_of hyv
        have hblk0 := hblk
        obtain ⟨c, el, hb, hw, hsz, hrel, _⟩ := hblk
        obtain ⟨hwt, hlk, x1, o, y1, hf, hf', hx1, ho⟩ := setAt_spec p.2 t v t' hw hyv.1 ht'
        have hfl := flat_len t hw
        rw [hf] at hfl
        simp at hfl
        have hbound : l.base + offs p.2 + (a.eval y).cells.toList.length ≤ c.size := by simp; omega
        obtain ⟨w', hrun, hw1, hw2, hw3, hws⟩ := store_run (P := P) hb hbound (all2_one hcells (flat_wf v hyv.1))
        refine ⟨w', ?_, rfl, ?_⟩
        · simp only [Instr.storeAt, hxv, Instr.sureAddr, Sem.run_bind, Sem.run_pure, Result.andThen_ok, storeVar, sizeOf_run hs]
          rw [if_neg (by omega)]
          exact hrun
        · exact Post.upd hH ht rfl rfl hl (hblk0.put hb hyv.1 ht' hcells hw1) hw2 hw3 hws
      · simp at h
    · simp at h
  · simp at h

end
end Go.AM

namespace Go.AM

section
variable {P : Program} {m : Mp} {e : Env} {a : Act} {st : St} {w : World} (hr : RelEnv m e a.tmps) (hH : RelH m st.H w)
include hr hH

omit hr hH in
theorem keyStays {k : IntKind} {n : Int} (w : World) : (Instr.keyThatStays (.int k n) (.int k n)).run P w = .ok (.int k n) w := by
  simp [Instr.keyThatStays, Instr.sameBits]

omit hr hH in
theorem findK_key {k : IntKind} {n : Int} : ∀ (es : List (AV × AV)) (i j : Nat) (v : AV), findK (.sc (.int k n)) es i = some (some (j, v)) → ∃ v', i ≤ j ∧ es[j - i]? = some (.sc (.int k n), v')
  | [], i, j, v, h => by simp [findK] at h
  | (key, u) :: es, i, j, v, h => by
    simp only [findK] at h
    split at h
    · rename_i hq
      simp only [Option.some.injEq, Prod.mk.injEq] at h
      obtain ⟨rfl, rfl⟩ := h
      unfold keyEq at hq
      split at hq
      · rename_i k1 a1 k2 b1 heq
        simp only [AV.sc.injEq, Value.int.injEq] at heq
        obtain ⟨rfl, rfl⟩ := heq
        split at hq
        · rename_i hkk
          subst hkk
          simp only [Option.some.injEq, beq_iff_eq] at hq
          subst hq
          exact ⟨u, Nat.le_refl _, by simp⟩
        · simp at hq
      · simp at hq
    · obtain ⟨v', h1, h2⟩ := findK_key es (i + 1) j v h
      refine ⟨v', by omega, ?_⟩
      rw [show j - i = (j - (i + 1)) + 1 by omega]
      simpa using h2
    · simp at h

omit hr hH in
theorem setObj_run {b : Nat} {ms ms' : Array MapEntry} {c c' : Nat} (hb : w.heap[b]? = some (.map ms c)) : (setObj b (.map ms' c')).run P w = .ok () { w with heap := w.heap.setIfInBounds b (.map ms' c') } := by
  simp [setObj, Sem.run, hb]

omit hr in
theorem map_post {r : Nat} {es es' : List (AV × AV)} {l : Loc} {ms ms' : Array MapEntry} {c c' : Nat} (hr0 : st.H r = some (.amap es)) (hl : m r = some l) (hb : w.heap[l.blk]? = some (.map ms c))
    (hall : All2 (fun (x : AV × AV) (e : MapEntry) => RelV0 m x.1 e.key ∧ RelV0 m x.2 e.val) es' ms'.toList) :
    Post m st w m ⟨st.H.upd r (.amap es'), st.nx⟩ { w with heap := w.heap.setIfInBounds l.blk (.map ms' c') } := by
  have hlt : l.blk < w.heap.size := (Array.getElem?_eq_some_iff.1 hb).1
  refine Post.upd hH hr0 rfl rfl hl ⟨ms', c', by simp [hlt], hall⟩ (by simp) (fun k hk => by simp [Array.getElem?_setIfInBounds_ne (Ne.symm hk)]) (WS.set hb rfl (fun _ => rfl) ⟨rfl, rfl⟩)

theorem a_mset {F : CallT} {T key el : Nat} {x i y : Operand} {x' i' y' : RX} {out : Out} {st' : St} (hx : chkX x x' = true) (hi : chkX i i' = true) (hy : chkX y y' = true) (hT : P.underlying T = some (.map key el)) (hk : isIntT P key = true)
    (h : evA F e st (.mset x' i' y') = some (out, st')) :
    ∃ w', (Instr.mapUpdate T (a.eval x) (a.eval i) (a.eval y)).run P w = .ok () w' ∧ out = .val (.tuple []) ∧ Post m st w m st' w' := by
  obtain ⟨kk, hkk⟩ := isIntT_cases hk
  simp only [evA] at h
  split at h
  · rename_i r kv v hm hkv hv
    split at h
    · rename_i hint
      obtain ⟨k, n, rfl⟩ := isInt_cases hint
      have hkc : a.eval i = .int k n := (chkX_rel hr hi hkv).2
      have hyv := ev0_rel hr hy hv
      obtain ⟨_, l, hl, hmc⟩ := chkX_rel hr hx hm
      split at h
      · rename_i es hes
        obtain ⟨l', hl', ms, clock, hb, hall⟩ := hH.blk _ _ hes
        rw [hl] at hl'; simp only [Option.some.injEq] at hl'; subst hl'
        have hgo : (getObj l.blk).run P w = .ok (.map ms clock) w := by simp [getObj, Sem.run, hb]
        simp only [Option.map_eq_some_iff] at h
        obtain ⟨f, hf, h⟩ := h
        obtain ⟨r', hfind, hmatch⟩ := findK_run (m := m) hkk es ms.toList 0 f hall hf
        have hfk : (Instr.findKey key (.int k n) ms.toList).run P w = .ok r' w := by
          simp only [Instr.findKey, Sem.run_bind, underlying_run hkk, Result.andThen_ok, hfind]; rfl
        cases f with
        | none =>
          cases r' with
          | some q => exact hmatch.elim
          | none =>
            simp only [Prod.mk.injEq] at h
            obtain ⟨rfl, rfl⟩ := h
            refine ⟨{ w with heap := w.heap.setIfInBounds l.blk (.map (ms.push { key := .int k n, val := a.eval y, born := clock }) (clock + 1)) }, ?_, rfl, ?_⟩
            · simp [Instr.mapUpdate, underlying_run hT, hmc, hgo, hkc, checkKey_run hkk, hfk, setObj_run hb]
            · refine map_post hH hes hl hb ?_
              simp only [Array.toList_push]
              exact hall.append ⟨⟨⟨rfl, rfl⟩, hyv⟩, trivial⟩
        | some q =>
          obtain ⟨j, u⟩ := q
          cases r' with
          | none => exact hmatch.elim
          | some q =>
            obtain ⟨j', c⟩ := q
            obtain ⟨rfl, hu, h0, hjl⟩ := hmatch
            simp only [Prod.mk.injEq] at h
            obtain ⟨rfl, rfl⟩ := h
            obtain ⟨v', _, hkey⟩ := findK_key es 0 j u hf
            simp only [Nat.sub_zero] at hkey
            obtain ⟨me, hme, hke, _⟩ := All2.get hall j _ hkey
            have hke : me.key = .int k n := hke.2
            have hmj : ms[j]? = some me := by simpa using hme
            refine ⟨{ w with heap := w.heap.setIfInBounds l.blk (.map (ms.modify j fun e => { e with key := .int k n, val := a.eval y }) clock) }, ?_, rfl, ?_⟩
            · simp [Instr.mapUpdate, underlying_run hT, hmc, hgo, hkc, checkKey_run hkk, hfk, hmj, hke, keyStays, setObj_run hb]
            · refine map_post hH hes hl hb ?_
              have e1 : (ms.modify j fun e => { e with key := .int k n, val := a.eval y }).toList = ms.toList.set j { me with key := .int k n, val := a.eval y } := by
                apply List.ext_getElem?
                intro q
                by_cases hq : j = q
                · subst hq
                  obtain ⟨hlt, hge⟩ := Array.getElem?_eq_some_iff.1 hmj
                  simp [hlt, hge]
                · simp [hq]
              rw [e1]
              exact hall.set j _ _ ⟨⟨rfl, rfl⟩, hyv⟩
      · simp at h
    · simp at h
  · simp at h

theorem a_mdel {F : CallT} {T key el : Nat} {x i : Operand} {x' i' : RX} {out : Out} {st' : St} {at_ : Array Nat} {ty : Nat} (h0 : at_[0]? = some T) (hx : chkX x x' = true) (hi : chkX i i' = true) (hT : P.underlying T = some (.map key el)) (hk : isIntT P key = true)
    (h : evA F e st (.mdel x' i') = some (out, st')) :
    ∃ w', (Builtin.delete_ at_ ty #[a.eval x, a.eval i]).run P w = .ok (.tuple #[]) w' ∧ out = .val (.tuple []) ∧ Post m st w m st' w' := by
  obtain ⟨kk, hkk⟩ := isIntT_cases hk
  simp only [evA] at h
  split at h
  · rename_i r kv hm hkv
    split at h
    · rename_i hint
      obtain ⟨k, n, rfl⟩ := isInt_cases hint
      have hkc : a.eval i = .int k n := (chkX_rel hr hi hkv).2
      obtain ⟨_, l, hl, hmc⟩ := chkX_rel hr hx hm
      split at h
      · rename_i es hes
        obtain ⟨l', hl', ms, clock, hb, hall⟩ := hH.blk _ _ hes
        rw [hl] at hl'; simp only [Option.some.injEq] at hl'; subst hl'
        have hgo : (getObj l.blk).run P w = .ok (.map ms clock) w := by simp [getObj, Sem.run, hb]
        simp only [Option.map_eq_some_iff] at h
        obtain ⟨f, hf, h⟩ := h
        obtain ⟨r', hfind, hmatch⟩ := findK_run (m := m) hkk es ms.toList 0 f hall hf
        have hfk : (Instr.findKey key (.int k n) ms.toList).run P w = .ok r' w := by
          simp only [Instr.findKey, Sem.run_bind, underlying_run hkk, Result.andThen_ok, hfind]; rfl
        cases f with
        | none =>
          cases r' with
          | some q => exact hmatch.elim
          | none =>
            simp only [Prod.mk.injEq] at h
            obtain ⟨rfl, rfl⟩ := h
            refine ⟨{ w with heap := w.heap.setIfInBounds l.blk (.map ms clock) }, ?_, rfl, ?_⟩
            · simp [Builtin.delete_, h0, underlying_run hT, hmc, hgo, hkc, checkKey_run hkk, hfk, setObj_run hb]
            · refine Post.refl hH ?_
              apply Array.ext_getElem?
              intro q
              by_cases hq : l.blk = q
              · subst hq; rw [hb]; simp [(Array.getElem?_eq_some_iff.1 hb).1]
              · simp [Array.getElem?_setIfInBounds_ne hq]
        | some q =>
          obtain ⟨j, u⟩ := q
          cases r' with
          | none => exact hmatch.elim
          | some q =>
            obtain ⟨j', c⟩ := q
            obtain ⟨rfl, hu, h0', hjl⟩ := hmatch
            simp only [Prod.mk.injEq] at h
            obtain ⟨rfl, rfl⟩ := h
            refine ⟨{ w with heap := w.heap.setIfInBounds l.blk (.map (ms.eraseIdxIfInBounds j) clock) }, ?_, rfl, ?_⟩
            · simp [Builtin.delete_, h0, underlying_run hT, hmc, hgo, hkc, checkKey_run hkk, hfk, setObj_run hb]
            · refine map_post hH hes hl hb ?_
              have e1 : (ms.eraseIdxIfInBounds j).toList = ms.toList.eraseIdx j := by simp
              rw [e1]
              exact hall.eraseIdx j
      · simp at h
    · simp at h
  · simp at h

end
end Go.AM

namespace Go.AM

theorem RelH.heap {m : Mp} {H : Mem} {w w1 : World} (h : RelH m H w) (hw : w1.heap = w.heap) : RelH m H w1 :=
  ⟨fun i B hi => let ⟨l, h1, h2⟩ := h.blk i B hi; ⟨l, h1, h2.mono (Mp.le.refl m) (by rw [hw])⟩, h.inj⟩

theorem Post.heap {m m' : Mp} {st st' : St} {w w' w1 : World} (hw : w1.heap = w.heap) (h : Post m st w1 m' st' w') (hs : w1.os = w.os ∧ w1.output = w.output := by exact ⟨rfl, rfl⟩) : Post m st w m' st' w' :=
  ⟨h.rel, h.out, by have := h.size; rw [hw] at this; exact this, fun k hk hb => by rw [h.fr k (by rw [hw]; exact hk) hb, hw], fun i B l h1 hr h2 => by have := h.own i B l h1 hr h2; rw [hw] at this; exact this, h.ro, (WS.same hw hs).trans h.ws, h.nx, h.dom⟩

theorem flats_k {l : List AV} {k : Nat} (hw : wfs l) (hsz : ∀ y ∈ l, y.size = k) : (flats l).length = l.length * k := by
  rw [flats_len _ hw]
  have := arr_take (cs := l) (i := l.length) hsz (Nat.le_refl _)
  rw [List.take_length] at this
  exact this

section
variable {P : Program} {m : Mp} {st : St} {w : World} (hH : RelH m st.H w)
include hH

/-- The cells of what is appended or copied. -/
theorem src_cells {k : Nat} {x : AV} {c : Value} {l : List AV} (h : srcElems st.H k x = some l) (hc : RelV m x c) :
    ∃ A cap cells, c = .slice A l.length cap ∧ wfs l ∧ (∀ y ∈ l, y.size = k) ∧ All2 (RelL m) (flats l) cells ∧ cells.length = l.length * k ∧
      ∀ w1 : World, w1.heap = w.heap → ∀ j, j ≤ l.length → (Builtin.firstCells k j c).run P w1 = .ok (cells.take (j * k)).toArray w1 := by
  unfold srcElems at h
  split at h
  · rename_i n
    simp only [Option.some.injEq] at h; subst h
    obtain ⟨_, hn, rfl⟩ := hc
    exact ⟨none, 0, [], by simp, trivial, by simp, trivial, by simp, fun w1 _ j hj => by simp [Builtin.firstCells]⟩
  · rename_i s n
    split at h
    · rename_i hk
      obtain ⟨A, cap, cells, hv, hw, hsz, hlen, hrel, hload⟩ := elems_cells (P := P) hH hk h hc
      subst hlen
      exact ⟨some A, cap, cells, hv, hw, hsz, hrel, by rw [← hrel.len, flats_k hw hsz], fun w1 hw1 j hj => by rw [hv]; exact hload w1 hw1 j hj⟩
    · simp at h
  · simp at h

/-- append in its place -/
theorem app_in {k bytes n cap : Nat} {s : ASl} {A : Addr} {l : List AV} {v : AV} {st' : St} {cells : List Value} (hu : Unm m st.nx (st.nx + 1)) (hc : RelV m (.slice (some s) n) (.slice (some A) n cap))
    (hw : wfs l) (hsz : ∀ y ∈ l, y.size = k) (hrel : All2 (RelL m) (flats l) cells) (h : evApp st k bytes (.slice (some s) n) l = some (v, st')) (hfit : n + l.length ≤ cap) :
    ∃ w' m', (storeCells (A.add (n * k)) cells).run P w = .ok () w' ∧ RelV m' v (.slice (some A) (n + l.length) cap) ∧ Post m st w m' st' w' := by
  obtain ⟨_, L, A', cap', hL, hv, hn, hcap, hA⟩ := hc
  simp only [Value.slice.injEq, Option.some.injEq] at hv
  obtain ⟨rfl, _, rfl⟩ := hv
  simp only [evApp] at h
  split at h
  · rename_i hcond
    obtain ⟨hp, htot, hsk, hroom⟩ := hcond
    split at h
    · rename_i k' cs hcs
      split at h
      · rename_i hcond2
        obtain ⟨rfl, hlen⟩ := hcond2
        simp only [Option.some.injEq, Prod.mk.injEq] at h
        obtain ⟨rfl, rfl⟩ := h
        obtain ⟨L', hL', hblk⟩ := hH.blk _ _ hcs
        rw [hL] at hL'; simp only [Option.some.injEq] at hL'; subst hL'
        obtain ⟨c, el, hb, hwt, hbd, hr0, hcap0⟩ := hblk
        simp only at hcap0
        rw [htot] at hcap
        simp only [Option.getD_none] at hcap
        have hcl : cells.length = l.length * k' := by rw [← hrel.len, flats_k hw hsz]
        have hLcap : (s.i + (n + l.length)) * k' ≤ L.cap * k' := Nat.mul_le_mul_right _ (by omega)
        rw [Nat.add_mul, Nat.add_mul] at hLcap
        have hin : (s.i + n) * k' ≤ k' * cs.length := by rw [Nat.mul_comm k']; exact Nat.mul_le_mul_right _ hlen
        rw [Nat.add_mul] at hin
        have hm : m st.nx = none := hu _ (Nat.le_refl _) (by omega)
        have hne : s.b ≠ st.nx := by intro he; rw [he, hm] at hL; simp at hL
        have hle := Mp.le_put (l := ⟨L.blk, L.base + s.i * k', L.cap - s.i⟩) hm
        -- the elements that were there
        have hws : wfs ((cs.drop s.i).take n) := wfs_mem.2 fun x hx => wfs_mem.1 hwt.2 x (List.mem_of_mem_drop (List.mem_of_mem_take hx))
        have hsz0 : ∀ x ∈ (cs.drop s.i).take n, x.size = k' := fun x hx => hwt.1 x (List.mem_of_mem_drop (List.mem_of_mem_take hx))
        have hold : All2 (RelL m) (flats ((cs.drop s.i).take n)) ((c.toList.drop (L.base + s.i * k')).take (n * k')) := by
          have hsplit : cs = cs.take s.i ++ ((cs.drop s.i).take n ++ (cs.drop s.i).drop n) := by rw [List.take_append_drop, List.take_append_drop]
          have hl1 : (flats (cs.take s.i)).length = s.i * k' := by
            rw [flats_len _ (wfs_mem.2 fun x hx => wfs_mem.1 hwt.2 x (List.mem_of_mem_take hx)), arr_take hwt.1 (by omega)]
          have hl2 : (flats ((cs.drop s.i).take n)).length = n * k' := by rw [flats_k hws hsz0, show ((cs.drop s.i).take n).length = n by simp; omega]
          simp only [flat, AV.size] at hr0
          generalize hS : k' * cs.length = S at hr0
          rw [hsplit, flats_append, flats_append] at hr0
          have r2 := (All2.split (All2.split hr0).2).1
          rw [hl1, hl2, List.drop_take, List.take_take, List.drop_drop, Nat.min_eq_left (by omega)] at r2
          exact r2
        have hll : ((cs.drop s.i).take n).length = n := by simp; omega
        have hwn : wf (.arr k' ((cs.drop s.i).take n ++ l)) := ⟨fun x hx => by
          rcases List.mem_append.1 hx with hx | hx
          · exact hsz0 x hx
          · exact hsz x hx, wfs_mem.2 fun x hx => by
          rcases List.mem_append.1 hx with hx | hx
          · exact wfs_mem.1 hws x hx
          · exact wfs_mem.1 hw x hx⟩
        -- the store
        have hst : ∃ w', (storeCells (A.add (n * k')) cells).run P w = .ok () w' ∧ w'.heap[L.blk]? = some (.cells (putList c.toList (L.base + s.i * k' + n * k') cells).toArray el) ∧ w'.heap.size = w.heap.size ∧ (∀ q, q ≠ L.blk → w'.heap[q]? = w.heap[q]?) ∧ WS w w' := by
          by_cases hc0 : cap = 0
          · have hn0 : n = 0 := by omega
            have hl0 : l = [] := List.eq_nil_of_length_eq_zero (by omega)
            subst hl0
            have hcells : cells = [] := List.eq_nil_of_length_eq_zero (by simpa using hcl)
            subst hcells
            refine ⟨w, rfl, ?_, rfl, fun _ _ => rfl, WS.refl w⟩
            rw [hb]; congr 2
            apply Array.ext'; simp [putList]
          · rw [hA hc0, hp, add_none, hsk]
            simp only [offs_nil, Nat.add_zero]
            exact store_run hb (by omega) (all2_one hrel (flats_wf l hw))
        obtain ⟨w', hrun, hw1, hw2, hw3, hws'⟩ := hst
        refine ⟨w', m.put st.nx ⟨L.blk, L.base + s.i * k', L.cap - s.i⟩, hrun, ?_, ?_⟩
        · refine ⟨.inr rfl, ⟨L.blk, L.base + s.i * k', L.cap - s.i⟩, A, cap, by simp [Mp.put], rfl, hfit, by simp; omega, fun hc0 => ?_⟩
          rw [hA hc0, hp, hsk]
          simp [offs_nil]
        · have old : ∀ i B, (((st.H.del s.b).upd st.nx (.tree (.arr k' ((cs.drop s.i).take n ++ l)))) i) = some B → i ≠ st.nx → st.H i = some B ∧ i ≠ s.b := by
            intro i B hi hne'
            simp only [Mem.upd, hne', if_false, Mem.del] at hi
            split at hi
            · simp at hi
            · exact ⟨hi, by assumption⟩
          have get : ∀ i B li, st.H i = some B → i ≠ s.b → (m.put st.nx ⟨L.blk, L.base + s.i * k', L.cap - s.i⟩) i = some li → m i = some li ∧ li.blk ≠ L.blk ∧ li.blk < w.heap.size := by
            intro i B li hi hib hli
            obtain ⟨l', hl', hblk'⟩ := hH.blk i B hi
            rw [hle i l' hl'] at hli
            simp only [Option.some.injEq] at hli; subst hli
            exact ⟨hl', fun he => hib (hH.inj i s.b B _ l' L hi hcs hl' hL (.inr rfl) he), hblk'.lt⟩
          refine ⟨⟨?_, ?_⟩, ?_, by omega, fun q hq hbq => hw3 q fun he => hbq s.b _ L hcs rfl hL he.symm, ?_, ?_, hws', by simp, ?_⟩
          · intro i B hi
            by_cases hne' : i = st.nx
            · subst hne'
              simp only [Mem.upd, if_true, Option.some.injEq] at hi; subst hi
              refine ⟨⟨L.blk, L.base + s.i * k', L.cap - s.i⟩, by simp [Mp.put], _, el, hw1, hwn, ?_, ?_, ?_⟩
              · simp only [AV.size, List.size_toArray, List.length_append, hll]
                rw [putList_length (by simp; omega)]
                simp only [Array.length_toList]
                rw [Nat.mul_add, Nat.mul_comm k' n, Nat.mul_comm k' l.length]; omega
              · simp only [flat, flats_append, AV.size, List.length_append, hll]
                rw [put_seg (o := l.length * k') (by simp; rw [Nat.mul_add, Nat.mul_comm k' n, Nat.mul_comm k' l.length]; omega) hcl (by rw [Nat.mul_add, Nat.mul_comm k' n, Nat.mul_comm k' l.length]; omega)]
                have e0 : List.drop (l.length * k') (List.drop (n * k') (List.take (k' * (n + l.length)) (List.drop (L.base + s.i * k') c.toList))) = [] := by
                  apply List.eq_nil_of_length_eq_zero; simp; rw [Nat.mul_add, Nat.mul_comm k' n, Nat.mul_comm k' l.length]; omega
                rw [e0, List.append_nil, List.take_take, Nat.min_eq_left (by rw [Nat.mul_add, Nat.mul_comm k' n]; omega)]
                exact (hold.imp fun _ _ => RelL.mono hle).append (hrel.imp fun _ _ => RelL.mono hle)
              · simp only [List.length_append, hll, List.size_toArray]
                rw [putList_length (by simp; omega)]
                simp only [Array.length_toList]
                refine ⟨by omega, ?_⟩
                rw [Nat.sub_mul]; omega
            · obtain ⟨h1, h2⟩ := old i B hi hne'
              obtain ⟨l', hl', hblk'⟩ := hH.blk i B h1
              exact ⟨l', hle i l' hl', hblk'.mono hle (hw3 _ fun he => h2 (hH.inj i s.b B _ l' L h1 hcs hl' hL (.inr rfl) he))⟩
          · intro i j Bi Bj li lj hi hj hli hlj hrr he
            by_cases h1 : i = st.nx <;> by_cases h2 : j = st.nx
            · rw [h1, h2]
            · obtain ⟨h3, h4⟩ := old j Bj hj h2
              have := get j Bj lj h3 h4 hlj
              subst h1
              simp [Mp.put] at hli; subst hli; exact absurd he.symm this.2.1
            · obtain ⟨h3, h4⟩ := old i Bi hi h1
              have := get i Bi li h3 h4 hli
              subst h2
              simp [Mp.put] at hlj; subst hlj; exact absurd he this.2.1
            · obtain ⟨h3, h4⟩ := old i Bi hi h1
              obtain ⟨h5, h6⟩ := old j Bj hj h2
              exact hH.inj i j Bi Bj li lj h3 h5 (get i Bi li h3 h4 hli).1 (get j Bj lj h5 h6 hlj).1 hrr he
          · intro i hi
            unfold Mp.put
            split
            · rename_i he; subst he; simp at hi; omega
            · rfl
          · intro i B l' hi hB hl'
            right
            by_cases hne' : i = st.nx
            · subst hne'
              simp [Mp.put] at hl'; subst hl'
              exact ⟨s.b, _, L, hcs, rfl, hL, rfl⟩
            · obtain ⟨h1, h2⟩ := old i B hi hne'
              exact ⟨i, B, l', h1, hB, (get i B l' h1 h2 hl').1, rfl⟩
          · intro i t hi
            by_cases hne' : i = st.nx
            · subst hne'
              simp [Mem.upd] at hi
            · exact (old i _ hi hne').1
          · intro i hi
            by_cases hne' : i = st.nx
            · subst hne'; exact .inr (by simp)
            · left
              obtain ⟨B, hB⟩ := Option.ne_none_iff_exists'.1 hi
              rw [(old i B hB hne').1]; simp
      · simp at h
    · simp at h
  · simp at h

end
end Go.AM

namespace Go.AM

theorem evApp_some {st st' : St} {k bytes n : Nat} {s : ASl} {l : List AV} {v : AV} (h : evApp st k bytes (.slice (some s) n) l = some (v, st')) :
    ∃ cs, s.p = [] ∧ s.tot = none ∧ s.k = k ∧ room (n + l.length) bytes ∧ st.H s.b = some (.tree (.arr k cs)) ∧ s.i + n ≤ cs.length ∧
      v = .slice (some ⟨st.nx, [], 0, k, none⟩) (n + l.length) ∧ st' = ⟨(st.H.del s.b).upd st.nx (.tree (.arr k ((cs.drop s.i).take n ++ l))), st.nx + 1⟩ := by
  simp only [evApp] at h
  split at h
  · rename_i hcond
    split at h
    · rename_i k' cs hcs
      split at h
      · rename_i hcond2
        obtain ⟨rfl, hlen⟩ := hcond2
        simp only [Option.some.injEq, Prod.mk.injEq] at h
        exact ⟨cs, hcond.1, hcond.2.1, hcond.2.2.1, hcond.2.2.2, hcs, hlen, h.1.symm, h.2.symm⟩
      · simp at h
    · simp at h
  · simp at h

section
variable {P : Program} {m : Mp} {st : St} {w : World} (hH : RelH m st.H w)
include hH

/-- append into a new row -/
theorem app_new {k bytes n n0 cap : Nat} {s : AV} {c : Value} {B : Option Addr} {l : List AV} {v : AV} {st' : St} {cells : List Value} {zv : Array Value} {w1 : World} (hu : Unm m st.nx (st.nx + 1)) (hc : RelV m s c) (hcv : c = .slice B n0 cap)
    (hw : wfs l) (hsz : ∀ y ∈ l, y.size = k) (hrel : All2 (RelL m) (flats l) cells) (h : evApp st k bytes s l = some (v, st')) (hn : n0 + l.length > cap) (hw1 : w1.heap = w.heap) (hz : zv.size = k) (hnew : n0 + l.length ≤ n) (hs1 : w1.os = w.os ∧ w1.output = w.output := by exact ⟨rfl, rfl⟩) {el : TypeId} :
    ∃ old m', (Builtin.firstCells k n0 c).run P w1 = .ok old w1 ∧ RelV m' v (.slice (some ⟨w.heap.size, 0, none⟩) (n0 + l.length) n) ∧
      Post m st w m' st' { w1 with heap := w1.heap.push (.cells (old ++ cells.toArray ++ Builtin.zeroCells zv (n - (n0 + l.length))) el) } := by
  have hcl : cells.length = l.length * k := by rw [← hrel.len, flats_k hw hsz]
  -- what was there
  obtain ⟨l0, old, hl0, hw0, hsz0, hrel0, hrun, hsub⟩ : ∃ (l0 : List AV) (old : List Value), l0.length = n0 ∧ wfs l0 ∧ (∀ y ∈ l0, y.size = k) ∧ All2 (RelL m) (flats l0) old ∧ (Builtin.firstCells k n0 c).run P w1 = .ok old.toArray w1 ∧
      (v = .slice (some ⟨st.nx, [], 0, k, none⟩) (n0 + l.length) ∧ st'.nx = st.nx + 1 ∧ ∀ i Bi, st'.H i = some Bi → (st.H.upd st.nx (.tree (.arr k (l0 ++ l)))) i = some Bi) := by
    cases s with
    | slice s n1 =>
      cases s with
      | none =>
        obtain ⟨_, rfl, hcv'⟩ := hc
        rw [hcv] at hcv'
        simp only [Value.slice.injEq] at hcv'
        obtain ⟨rfl, rfl, rfl⟩ := hcv'
        simp only [evApp] at h
        split at h
        · split at h
          · rename_i hl; subst hl; simp at hn
          · simp only [Option.some.injEq, Prod.mk.injEq] at h
            obtain ⟨rfl, rfl⟩ := h
            exact ⟨[], [], rfl, trivial, by simp, trivial, by rw [hcv]; simp [Builtin.firstCells], by simp, rfl, fun i Bi hi => by simpa using hi⟩
        · simp at h
      | some s =>
        obtain ⟨cs, hp, htot, hsk, hroom, hcs, hlen, rfl, rfl⟩ := evApp_some h
        have hel : elems st.H s n1 = some ((cs.drop s.i).take n1) := by simp [elems, ldPtr, hcs, hp, getAt, hsk, hlen]
        obtain ⟨A, cap', old, hv, hw0, hsz0, hlen0, hrel0, hload⟩ := elems_cells (P := P) hH hsk hel hc
        rw [hcv] at hv
        simp only [Value.slice.injEq] at hv
        obtain ⟨rfl, rfl, rfl⟩ := hv
        have hol : old.length = n0 * k := by rw [← hrel0.len, flats_k hw0 hsz0, hlen0]
        refine ⟨(cs.drop s.i).take n0, old, hlen0, hw0, hsz0, hrel0, ?_, rfl, rfl, ?_⟩
        · have := hload w1 hw1 n0 (Nat.le_refl _)
          rw [List.take_of_length_le (by omega)] at this
          rw [hcv]; exact this
        · intro i Bi hi
          by_cases hne : i = st.nx
          · subst hne; simpa [Mem.upd] using hi
          · simp only [Mem.upd, hne, if_false] at hi ⊢
            exact del_sub hi
    | _ => simp [evApp] at h
  obtain ⟨rfl, hnx, hsub⟩ := hsub
  have hol : old.length = n0 * k := by rw [← hrel0.len, flats_k hw0 hsz0, hl0]
  have hwn : wf (.arr k (l0 ++ l)) := ⟨fun x hx => by
    rcases List.mem_append.1 hx with hx | hx
    · exact hsz0 x hx
    · exact hsz x hx, wfs_mem.2 fun x hx => by
    rcases List.mem_append.1 hx with hx | hx
    · exact wfs_mem.1 hw0 x hx
    · exact wfs_mem.1 hw x hx⟩
  have hzc : (Builtin.zeroCells zv (n - (n0 + l.length))).size = (n - (n0 + l.length)) * k := by simp [Builtin.zeroCells, hz]
  have hsize : (old.toArray ++ cells.toArray ++ Builtin.zeroCells zv (n - (n0 + l.length))).size = n * k := by
    simp only [Array.size_append, List.size_toArray, hol, hcl, hzc]
    rw [← Nat.add_mul, ← Nat.add_mul]; congr 1; omega
  have hmul : (n0 + l.length) * k ≤ n * k := Nat.mul_le_mul_right _ hnew
  have hp := new_tree (w' := { w1 with heap := w1.heap.push (.cells (old.toArray ++ cells.toArray ++ Builtin.zeroCells zv (n - (n0 + l.length))) el) }) (cells := old.toArray ++ cells.toArray ++ Builtin.zeroCells zv (n - (n0 + l.length))) (el := el) (t := .arr k (l0 ++ l)) (cap := n) hH hu (by simp only [hw1]) hwn
    (by simp only [AV.size, List.length_append, hl0, hsize]; rw [Nat.mul_comm]; exact hmul)
    (by
      simp only [AV.size, List.length_append, hl0, flat, flats_append, Array.toList_append]
      rw [List.take_append_of_le_length (by simp [hol, hcl]; rw [Nat.mul_comm, Nat.add_mul]; omega), List.take_of_length_le (by simp [hol, hcl]; rw [Nat.mul_comm k, Nat.add_mul]; omega)]
      exact hrel0.append hrel)
    ⟨by simp [hl0]; exact hnew, by rw [hsize]; exact Nat.le_refl _⟩ hs1
  have hp2 := hp.forget hsub
  rw [← hnx] at hp2
  refine ⟨old.toArray, m.put st.nx ⟨w.heap.size, 0, n⟩, hrun, ?_, hp2⟩
  exact rel_new_slice (l := ⟨w.heap.size, 0, n⟩) (by simp [Mp.put]) rfl hnew


omit hH in
theorem evApp_room {k bytes n : Nat} {s : ASl} {l : List AV} {v : AV} {st' : St} (h : evApp st k bytes (.slice (some s) n) l = some (v, st')) : room (n + l.length) bytes := by
  obtain ⟨_, _, _, _, hr, _⟩ := evApp_some h; exact hr

/-- the builtin's text behind the reading of its operands -/
def appTail (el size n0 cap : Nat) (B : Option Addr) (x : Value) (zeros : Bool) (n : Nat) (appended : Sem (Array Value)) : Sem Value := do
  let need := n0 + n
  if need ≤ cap then
    let new ← appended
    if let some a := B then storeCells (a.add (n0 * size)) new.toList
    pure (.slice B need cap)
  else
    if (need : Int) > IntKind.i64.max ∧ (zeros ∨ (← typeInfo el).bytes = 0) then runtimePanic (.error "growslice: len out of range")
    if Builtin.nextslicecap need cap * (← typeInfo el).bytes > 2 ^ 48 then (if zeros then runtimePanic (.error "growslice: len out of range") else do
      if !(← Builtin.mayShare size n0 n B x) then mark .noRoom
      unsupported (.resourceLimit "append: a slice or a string whose bytes no memory bears"))
    let newCap ← choose (.appendCap need cap el)
    askRoom (newCap * (← typeInfo el).bytes)
    let old ← Builtin.firstCells size n0 (.slice B n0 cap)
    let new ← appended
    let rest := Builtin.zeroCells (← zeroValue el).cells (newCap - need)
    pure (.slice (some (← newRow el (old ++ new ++ rest))) need newCap)

/-- append, whole: 'A' tells the cells that are appended. -/
theorem append_tail {k bytes el : Nat} {s : AV} {c x : Value} {l : List AV} {v : AV} {st' : St} {cells : List Value} {zv : Value} {zeros : Bool} {A : Sem (Array Value)} (hc : RelV m s c) (hw : wfs l) (hsz : ∀ y ∈ l, y.size = k)
    (hrel : All2 (RelL m) (flats l) cells) (h : evApp st k bytes s l = some (v, st')) (hu : Unm m st.nx st'.nx) (hb : bytesT P el = some bytes)
    (hz : ∀ w, (zeroValue el).run P w = .ok zv w) (hzk : zv.cells.size = k) (hzb : bytes ≠ 0)
    (hA : ∀ w1 : World, w1.heap = w.heap → A.run P w1 = .ok cells.toArray w1) :
    ∃ B n0 cap w' m' r, c = .slice B n0 cap ∧ (appTail el k n0 cap B x zeros l.length A).run P w = .ok r w' ∧ RelV m' v r ∧ Post m st w m' st' w' := by
  have hti : ∃ i, P.info? el = some i ∧ i.bytes = bytes := by simpa [bytesT] using hb
  obtain ⟨ti, hti, htb⟩ := hti
  obtain ⟨B, n0, cap, rfl, hroom⟩ : ∃ B n0 cap, c = .slice B n0 cap ∧ (n0 + l.length > cap → room (n0 + l.length) bytes) := by
    cases s with
    | slice s n =>
      cases s with
      | none =>
        obtain ⟨_, rfl, hv⟩ := hc
        refine ⟨none, 0, 0, hv, fun _ => ?_⟩
        simp only [evApp] at h
        split at h
        · rename_i hr; simpa using hr
        · simp at h
      | some s =>
        obtain ⟨_, L, A, cap, _, hv, _⟩ := hc
        exact ⟨some A, n, cap, hv, fun _ => evApp_room h⟩
    | _ => simp [evApp] at h
  refine ⟨B, n0, cap, ?_⟩
  unfold appTail
  by_cases hfit : n0 + l.length ≤ cap
  · simp only [hfit, if_true, Sem.run_bind, hA w rfl, Result.andThen_ok]
    cases s with
    | slice s n =>
      cases s with
      | none =>
        obtain ⟨_, rfl, hv⟩ := hc
        simp only [Value.slice.injEq] at hv
        obtain ⟨rfl, rfl, rfl⟩ := hv
        have hl : l = [] := List.eq_nil_of_length_eq_zero (by omega)
        subst hl
        simp only [evApp] at h
        split at h
        · simp only [if_true, Option.some.injEq, Prod.mk.injEq] at h
          obtain ⟨rfl, rfl⟩ := h
          exact ⟨w, m, .slice none 0 0, trivial, by simp, ⟨rfl, rfl, rfl⟩, Post.refl hH rfl⟩
        · simp at h
      | some s =>
        have hc' := hc
        obtain ⟨_, L, A, cap', _, hv, _⟩ := hc
        simp only [Value.slice.injEq] at hv
        obtain ⟨rfl, rfl, rfl⟩ := hv
        obtain ⟨cs, _, _, _, _, _, _, _, hst'⟩ := evApp_some h
        obtain ⟨w', m', hrun, h1, h2⟩ := app_in (P := P) hH (by rw [hst'] at hu; exact hu) hc' hw hsz hrel h hfit
        refine ⟨w', m', _, trivial, ?_, h1, h2⟩
        simp [hrun]
    | _ => simp [evApp] at h
  · have hroom := hroom (by omega)
    unfold room at hroom
    have hnx : st'.nx = st.nx + 1 := by
      cases s with
      | slice s n =>
        cases s with
        | none =>
          obtain ⟨_, rfl, hv⟩ := hc
          simp only [Value.slice.injEq] at hv
          obtain ⟨rfl, rfl, rfl⟩ := hv
          simp only [evApp] at h
          split at h
          · split at h
            · rename_i hl; subst hl; simp at hfit
            · simp only [Option.some.injEq, Prod.mk.injEq] at h; rw [← h.2]
          · simp at h
        | some s =>
          obtain ⟨cs, _, _, _, _, _, _, _, hst'⟩ := evApp_some h
          rw [hst']
      | _ => simp [evApp] at h
    have hcap := nextcap_le (n := n0 + l.length) (c := cap) (by omega)
    have hcapb : Builtin.nextslicecap (n0 + l.length) cap * bytes ≤ 2 ^ 48 := Nat.le_trans (Nat.mul_le_mul_right _ hcap) hroom
    have hnp : ¬ (((n0 + l.length : Nat) : Int) > IntKind.i64.max ∧ (zeros = true ∨ bytes = 0)) := by
      have h1 : n0 + l.length ≤ (n0 + l.length + (n0 + l.length) / 4 + 512) * bytes := by
        have : n0 + l.length ≤ n0 + l.length + (n0 + l.length) / 4 + 512 := by omega
        exact Nat.le_trans this (Nat.le_mul_of_pos_right _ (by omega))
      intro ⟨h2, _⟩
      have h3 : IntKind.i64.max = 9223372036854775807 := by rfl
      rw [h3] at h2
      omega
    have hnb : ¬ (Builtin.nextslicecap (n0 + l.length) cap * bytes > 2 ^ 48) := by omega
    simp only [hfit, if_false, Sem.run_bind, typeInfo, run_program, Result.andThen_ok, hti, Sem.run_pure, htb, hnp, hnb, run_choose, run_askRoom, Question.forced, Bool.false_eq_true]
    have hcut : n0 + l.length ≤ Question.cut (.appendCap (n0 + l.length) cap el) (w.tape w.drawn (.appendCap (n0 + l.length) cap el)) := by simp [Question.cut]
    generalize Question.cut (.appendCap (n0 + l.length) cap el) (w.tape w.drawn (.appendCap (n0 + l.length) cap el)) = newCap at hcut
    obtain ⟨old, m', hold, hrel', hpost⟩ := app_new (P := P) (w1 := { w with drawn := w.drawn + 1 }) (el := el) hH (by rw [hnx] at hu; exact hu) hc rfl hw hsz hrel h (by omega) rfl hzk hcut
    refine ⟨_, m', _, trivial, ?_, hrel', hpost⟩
    simp only [hold, Result.andThen_ok, hA { w with drawn := w.drawn + 1 } rfl, hz, newRow, Sem.run_bind, run_newObj, Sem.run_pure]

end
end Go.AM

namespace Go.AM

section
variable {P : Program} {m : Mp} {e : Env} {a : Act} {st : St} {w : World} (hr : RelEnv m e a.tmps) (hH : RelH m st.H w)
include hr hH

omit hr hH in
theorem zsz_cases {t k : Nat} (h : zsz P t = some k) : ∃ zv, (∀ w, (zeroValue t).run P w = .ok zv w) ∧ zv.cells.size = k := by
  unfold zsz at h
  simp only [Option.map_eq_some_iff, Option.bind_eq_some_iff] at h
  obtain ⟨zv, ⟨i, hi, hz⟩, hk⟩ := h
  exact ⟨zv, fun w => by simp [zeroValue, typeInfo, hi, hz], hk⟩

theorem a_app {F : CallT} {dropx : Bool} {k bytes sT xT el ty : Nat} {argT : Array Nat} {d : TypeDesc} {s x : Operand} {s' x' : RX} {out : Out} {st' : St} (hs' : chkX s s' = true) (hx' : chkX x x' = true)
    (h0 : argT[0]? = some sT) (hT : P.underlying sT = some (.slice el)) (hdi : (match d with | .int _ => false | _ => true) = true) (h1 : argT[1]? = some xT) (hd : P.underlying xT = some d)
    (hs : szOf P el = some k) (hb : bytesT P el = some bytes) (hb0 : bytes ≠ 0) (hz : zsz P el = some k) (h : evA F e st (.app dropx k bytes s' x') = some (out, st')) (hu : Unm m st.nx st'.nx) :
    ∃ w' m' r v, (Builtin.append_ argT ty #[a.eval s, a.eval x]).run P w = .ok r w' ∧ out = .val v ∧ RelV m' v r ∧ Post m st w m' st' w' := by
  simp only [evA] at h
  split at h
  · rename_i sv xv hsv hxv
    simp only [Option.bind_eq_some_iff, Option.map_eq_some_iff] at h
    obtain ⟨l, hl, ⟨v, st1⟩, happ, h⟩ := h
    simp only [Prod.mk.injEq] at h
    obtain ⟨rfl, hst⟩ := h
    have hsub : ∀ i B, st'.H i = some B → st1.H i = some B := by
      intro i B hi
      rw [← hst] at hi
      split at hi
      · split at hi
        · exact del_sub hi
        · exact hi
      · exact hi
    have hnx : st'.nx = st1.nx := by
      rw [← hst]
      split
      · split <;> rfl
      · rfl
    obtain ⟨zv, hzrun, hzk⟩ := zsz_cases hz
    obtain ⟨A, capx, cells, hcx, hw, hsz, hrel, hcl, hrun⟩ := src_cells (P := P) hH hl (chkX_rel hr hx' hxv)
    obtain ⟨B, n0, cap, w', m', r, hcs, hrun2, hv, hpost⟩ := append_tail (P := P) (el := el) (x := a.eval x) (zeros := false) (A := Builtin.firstCells k l.length (a.eval x)) (cells := cells) hH (chkX_rel hr hs' hsv) hw hsz hrel happ (by rw [← hnx]; exact hu) hb hzrun hzk hb0
      (fun w1 hw1 => by
        have := hrun w1 hw1 l.length (Nat.le_refl _)
        rw [List.take_of_length_le (by omega)] at this
        exact this)
    refine ⟨w', m', r, v, ?_, rfl, hv, ?_⟩
    · rw [← hrun2, hcs]
      have key : ∀ D : TypeDesc, P.underlying xT = some D → (∀ q, D ≠ .int q) → (Builtin.append_ argT ty #[.slice B n0 cap, a.eval x]).run P w = (appTail el k n0 cap B (a.eval x) false l.length (Builtin.firstCells k l.length (a.eval x))).run P w := by
        intro D hD hne
        unfold Builtin.append_
        simp only [List.getElem?_toArray, List.getElem?_cons_zero, List.getElem?_cons_succ, h0, h1]
        rw [Sem.run_bind, underlying_run hT]
        simp only [Result.andThen_ok]
        rw [Sem.run_bind, sizeOf_run hs]
        simp only [Result.andThen_ok]
        rw [Sem.run_bind, underlying_run hD]
        simp only [Result.andThen_ok]
        cases D <;> first
          | exact absurd rfl (hne _)
          | (rw [Sem.run_bind, Sem.run_pure]
             simp only [Result.andThen_ok]
             rw [if_neg Bool.false_ne_true, Sem.run_bind, hcx]
             rfl)
      exact key d hd (by intro q hq; subst hq; simp at hdi)
    · have := hpost.forget hsub
      rw [← hnx] at this
      exact this
  · simp at h

theorem a_appz {F : CallT} {k bytes sT xT el ty : Nat} {argT : Array Nat} {kk : IntKind} {z : AV} {s x : Operand} {s' x' : RX} {out : Out} {st' : St} (hs' : chkX s s' = true) (hx' : chkX x x' = true)
    (h0 : argT[0]? = some sT) (hT : P.underlying sT = some (.slice el)) (h1 : argT[1]? = some xT) (hd : P.underlying xT = some (.int kk))
    (hs : szOf P el = some k) (hb : bytesT P el = some bytes) (hb0 : bytes ≠ 0) (hz : zeroIs P el z = true) (hzk : z.size = k) (h : evA F e st (.appz k bytes z s' x') = some (out, st')) (hu : Unm m st.nx st'.nx) :
    ∃ w' m' r v, (Builtin.append_ argT ty #[a.eval s, a.eval x]).run P w = .ok r w' ∧ out = .val v ∧ RelV m' v r ∧ Post m st w m' st' w' := by
  simp only [evA] at h
  split at h
  · rename_i sv kx n hsv hxv
    split at h
    · rename_i hcond
      obtain ⟨hn0, hn1, hn2⟩ := hcond
      simp only [Option.map_eq_some_iff] at h
      obtain ⟨⟨v, st1⟩, happ, h⟩ := h
      simp only [Prod.mk.injEq] at h
      obtain ⟨rfl, rfl⟩ := h
      obtain ⟨N, rfl⟩ := Int.eq_ofNat_of_zero_le hn0
      simp only [Int.toNat_natCast] at happ
      obtain ⟨zv, hzv, hzrun⟩ := zero_rel hz m
      obtain ⟨hzc, hzs⟩ := cells_of hzv
      have hxc : a.eval x = .int kx N := (chkX_rel hr hx' hxv).2
      have hti : ∃ i, P.info? el = some i ∧ i.bytes = bytes := by simpa [bytesT] using hb
      obtain ⟨ti, hti, htb⟩ := hti
      subst hzk
      have hwr := (wf_rep hzv.1 N)
      have hll : (List.replicate N z).length = N := by simp
      obtain ⟨B, n0, cap, w', m', r, hcs, hrun2, hv, hpost⟩ := append_tail (P := P) (el := el) (x := a.eval x) (zeros := true) (l := List.replicate N z)
        (A := if N * z.size = 0 then pure #[] else do pure (Builtin.zeroCells (← zeroValue el).cells N)) (cells := (List.replicate N zv.cells.toList).flatten) hH (chkX_rel hr hs' hsv) hwr.2 hwr.1 (rep_rel hzc N) happ hu hb hzrun (by omega) hb0
        (fun w1 hw1 => by
          by_cases hN : N * z.size = 0
          · simp only [hN, if_true, Sem.run_pure]
            congr 1
            apply Array.ext'
            have : ((List.replicate N zv.cells.toList).flatten).length = 0 := by simp [hzs, hN]
            have := List.eq_nil_of_length_eq_zero this
            rw [this]
          · simp only [hN, if_false, Sem.run_bind, hzrun, Result.andThen_ok, Sem.run_pure]
            congr 1
            apply Array.ext'
            rw [Builtin.zeroCells]
            have := range_map_rep zv.cells N zv.cells.size rfl
            simpa using this)
      rw [hll] at hrun2
      refine ⟨w', m', r, v, ?_, rfl, hv, hpost⟩
      have hwrap : IntKind.i64.wrap (N : Int) = N := by
        have : (N : Int) < 2 ^ 62 := hn1
        simp [IntKind.wrap, IntKind.bits, IntKind.signed]
        omega
      have g1 : ¬ ((N : Int) < 0) := by omega
      have g2 : ¬ ((N : Int) * (bytes : Int) > 2 ^ 48) := by omega
      rw [← hrun2, hcs, hxc]
      unfold Builtin.append_
      simp only [List.getElem?_toArray, List.getElem?_cons_zero, List.getElem?_cons_succ, h0, h1]
      rw [Sem.run_bind, underlying_run hT]
      simp only [Result.andThen_ok]
      rw [Sem.run_bind, sizeOf_run hs]
      simp only [Result.andThen_ok]
      rw [Sem.run_bind, underlying_run hd]
      simp only [Result.andThen_ok]
      rw [Sem.run_bind, Sem.run_pure]
      have hai : (asInt (.int kx N)).run P w = .ok (N : Int) w := by simp [asInt, asIntOf]
      have hti' : (typeInfo el).run P w = .ok ti w := by simp [typeInfo, hti]
      rw [Result.andThen_ok]
      refine Eq.trans (congrArg (fun s => Sem.run P s w) (if_pos rfl)) ?_
      change Sem.run P _ w = _
      rw [Sem.run_bind, hai, Result.andThen_ok]
      rw [hwrap, if_neg g1, Sem.run_bind, hti', Result.andThen_ok]
      rw [htb, if_neg g2, Sem.run_bind, Sem.run_pure]
      rfl
    · simp at h
  · simp at h

end
end Go.AM

namespace Go.AM

theorem put_put {L vs : List Value} {b n s : Nat} (h : b + s ≤ L.length) (hn : n + vs.length ≤ s) :
    putList L b (((L.drop b).take s).take n ++ (vs ++ (((L.drop b).take s).drop n).drop vs.length)) = putList L (b + n) vs := by
  apply List.ext_getElem?
  intro i
  simp only [putList, List.getElem?_take, List.getElem?_drop, List.getElem?_append, List.length_append, List.length_take, List.length_drop]
  repeat' split
  all_goals first
    | rfl
    | omega
    | (congr 1; omega)
    | (rw [List.getElem?_eq_none (by omega)])
    | (rw [List.getElem?_eq_none (by omega), List.getElem?_eq_none (by omega)])

section
variable {P : Program} {m : Mp} {e : Env} {a : Act} {st : St} {w : World} (hr : RelEnv m e a.tmps) (hH : RelH m st.H w)
include hH

theorem set_elems {s : ASl} {n cap : Nat} {A : Addr} {l : List AV} {cells : List Value} {H' : Mem} (hc : RelV m (.slice (some s) n) (.slice (some A) n cap)) (hw : wfs l) (hsz : ∀ y ∈ l, y.size = s.k) (hrel : All2 (RelL m) (flats l) cells)
    (h : setElems st.H s l = some H') (hl : l.length ≤ n) : ∃ w', (storeCells A cells).run P w = .ok () w' ∧ Post m st w m ⟨H', st.nx⟩ w' := by
  obtain ⟨_, L, A', cap', hL, hv, hn, hcap, hA⟩ := hc
  simp only [Value.slice.injEq, Option.some.injEq] at hv
  obtain ⟨rfl, _, rfl⟩ := hv
  unfold setElems at h
  split at h
  · rename_i t ht
    split at h
    · rename_i k cs hg
      split at h
      · rename_i hcond
        obtain ⟨rfl, hlen, _⟩ := hcond
        simp only [Option.map_eq_some_iff] at h
        obtain ⟨t', ht', rfl⟩ := h
        obtain ⟨L', hL', hblk⟩ := hH.blk _ _ ht
        rw [hL] at hL'; simp only [Option.some.injEq] at hL'; subst hL'
        obtain ⟨c, el, hb, hbd, hwa, hr0⟩ := hblk.part hg
        have hcl : cells.length = l.length * s.k := by rw [← hrel.len, flats_k hw hsz]
        have hin : (s.i + l.length) * s.k ≤ s.k * cs.length := by rw [Nat.mul_comm s.k]; exact Nat.mul_le_mul_right _ hlen
        rw [Nat.add_mul] at hin
        have hsize : (AV.arr s.k cs).size = s.k * cs.length := rfl
        rw [hsize] at hbd hr0
        -- the new row of trees
        have hsplit : cs = cs.take s.i ++ ((cs.drop s.i).take l.length ++ (cs.drop s.i).drop l.length) := by rw [List.take_append_drop, List.take_append_drop]
        have hl1 : (flats (cs.take s.i)).length = s.i * s.k := by
          rw [flats_len _ (wfs_mem.2 fun x hx => wfs_mem.1 hwa.2 x (List.mem_of_mem_take hx)), arr_take hwa.1 (by omega)]
        have hl2 : (flats ((cs.drop s.i).take l.length)).length = l.length * s.k := by
          rw [flats_k (wfs_mem.2 fun x hx => wfs_mem.1 hwa.2 x (List.mem_of_mem_drop (List.mem_of_mem_take hx))) (fun x hx => hwa.1 x (List.mem_of_mem_drop (List.mem_of_mem_take hx))), show ((cs.drop s.i).take l.length).length = l.length by simp; omega]
        have hwn : wf (.arr s.k (cs.take s.i ++ l ++ cs.drop (s.i + l.length))) := by
          have hmem : ∀ x ∈ cs.take s.i ++ l ++ cs.drop (s.i + l.length), x ∈ cs ∨ x ∈ l := by
            intro x hx
            rcases List.mem_append.1 hx with hx | hx
            · rcases List.mem_append.1 hx with hx | hx
              · exact .inl (List.mem_of_mem_take hx)
              · exact .inr hx
            · exact .inl (List.mem_of_mem_drop hx)
          refine ⟨fun x hx => ?_, wfs_mem.2 fun x hx => ?_⟩
          · rcases hmem x hx with h | h
            · exact hwa.1 x h
            · exact hsz x h
          · rcases hmem x hx with h | h
            · exact wfs_mem.1 hwa.2 x h
            · exact wfs_mem.1 hw x h
        have hrn : All2 (RelL m) (flat (.arr s.k (cs.take s.i ++ l ++ cs.drop (s.i + l.length))))
            ((((c.toList.drop (L.base + offs s.p)).take (s.k * cs.length)).take (s.i * s.k)) ++ (cells ++ (((c.toList.drop (L.base + offs s.p)).take (s.k * cs.length)).drop (s.i * s.k)).drop cells.length)) := by
          simp only [flat, flats_append, List.append_assoc] at hr0 ⊢
          generalize hS : s.k * cs.length = S at hr0
          rw [hsplit, flats_append, flats_append] at hr0
          have r1 := (All2.split hr0).1
          have r3 := (All2.split (All2.split hr0).2).2
          rw [hl1] at r1 r3
          rw [hl2, List.drop_drop (l := cs)] at r3
          rw [hcl]
          exact r1.append (hrel.append r3)
        -- the store
        have hst : ∃ w', (storeCells A cells).run P w = .ok () w' ∧ w'.heap[L.blk]? = some (.cells (putList c.toList (L.base + offs s.p + s.i * s.k) cells).toArray el) ∧ w'.heap.size = w.heap.size ∧ (∀ q, q ≠ L.blk → w'.heap[q]? = w.heap[q]?) ∧ WS w w' := by
          by_cases hc0 : cap = 0
          · have hl0 : l = [] := List.eq_nil_of_length_eq_zero (by omega)
            subst hl0
            have hcells : cells = [] := List.eq_nil_of_length_eq_zero (by simpa using hcl)
            subst hcells
            refine ⟨w, rfl, ?_, rfl, fun _ _ => rfl, WS.refl w⟩
            rw [hb]; congr 2
            apply Array.ext'; simp [putList]
          · rw [hA hc0]
            exact store_run hb (by omega) (all2_one hrel (flats_wf l hw))
        obtain ⟨w', hrun, hw1, hw2, hw3, hws'⟩ := hst
        refine ⟨w', hrun, Post.upd hH ht rfl rfl hL ?_ hw2 hw3 hws'⟩
        refine hblk.put hb hwn ht' hrn ?_
        rw [hw1, put_put (by simp; omega) (by omega)]
      · simp at h
    · simp at h
  · simp at h

include hr

theorem a_cpy {F : CallT} {k T el ty : Nat} {argT : Array Nat} {x y : Operand} {x' y' : RX} {out : Out} {st' : St} (hx : chkX x x' = true) (hy : chkX y y' = true) (h0 : argT[0]? = some T) (hT : P.underlying T = some (.slice el)) (hs : szOf P el = some k)
    (h : evA F e st (.cpy k x' y') = some (out, st')) :
    ∃ w' r v, (Builtin.copy_ argT ty #[a.eval x, a.eval y]).run P w = .ok r w' ∧ out = .val v ∧ RelV m v r ∧ Post m st w m st' w' := by
  simp only [evA] at h
  split at h
  · rename_i nd s n hd hsv
    simp only [Option.some.injEq, Prod.mk.injEq] at h
    obtain ⟨rfl, rfl⟩ := h
    obtain ⟨_, hn0, hdc⟩ := chkX_rel hr hx hd
    have hsc : ∃ A c, a.eval y = .slice A n c := by
      have := chkX_rel hr hy hsv
      cases s with
      | none => obtain ⟨_, hn, hv⟩ := this; exact ⟨none, 0, by rw [hv, hn]⟩
      | some s => obtain ⟨_, l, A, cap, hl, hv, _⟩ := this; exact ⟨some A, cap, hv⟩
    obtain ⟨A, c, hsc⟩ := hsc
    refine ⟨w, .int .i64 0, _, ?_, rfl, ⟨rfl, rfl⟩, Post.refl hH rfl⟩
    cases A <;> simp [Builtin.copy_, h0, underlying_run hT, hdc, hsc, Builtin.lenOf, sizeOf_run hs, Builtin.firstCells, goInt, loadCells, loadCellsFrom]
  · rename_i d n s m' hd hsv
    simp only [Option.bind_eq_some_iff] at h
    obtain ⟨l, hl, h⟩ := h
    split at h
    · rename_i hk
      simp only [Option.map_eq_some_iff, Prod.mk.injEq] at h
      obtain ⟨H', hH', rfl, rfl⟩ := h
      obtain ⟨A, capx, cells, hcx, hw, hsz, hrel, hcl, hrun⟩ := src_cells (P := P) hH hl (chkX_rel hr hy hsv)
      have hml : m' = l.length := by
        have := chkX_rel hr hy hsv
        rw [hcx] at this
        cases s with
        | none => obtain ⟨_, hn, hv⟩ := this; simp only [Value.slice.injEq] at hv; omega
        | some s => obtain ⟨_, l', A', cap', _, hv, _⟩ := this; simp only [Value.slice.injEq] at hv; omega
      subst hml
      have hdr := chkX_rel hr hx hd
      have hdc : ∃ A cap, a.eval x = .slice (some A) n cap := by obtain ⟨_, _, A, cap, _, hv, _⟩ := hdr; exact ⟨A, cap, hv⟩
      obtain ⟨Ad, capd, hdc⟩ := hdc
      rw [hdc] at hdr
      have hws : wfs (l.take n) := wfs_mem.2 fun x hx => wfs_mem.1 hw x (List.mem_of_mem_take hx)
      have hszs : ∀ y ∈ l.take n, y.size = d.k := fun y hy => by rw [hk]; exact hsz y (List.mem_of_mem_take hy)
      have hmin : (l.take n).length = min l.length n := by simp [Nat.min_comm]
      have hrels : All2 (RelL m) (flats (l.take n)) (cells.take (min l.length n * k)) := by
        have hsp : l = l.take n ++ l.drop n := by simp
        rw [hsp, flats_append] at hrel
        have r1 := (All2.split hrel).1
        rw [flats_k hws hszs, hmin, hk] at r1
        exact r1
      obtain ⟨w', hst, hpost⟩ := set_elems (P := P) hH hdr hws hszs hrels hH' (by rw [hmin]; omega)
      refine ⟨w', .int .i64 (min l.length n : Nat), _, ?_, rfl, ?_, hpost⟩
      · have hmn : Nat.min l.length n = min l.length n := rfl
        simp only [Builtin.copy_, List.getElem?_toArray, List.getElem?_cons_zero, List.getElem?_cons_succ, h0, Sem.run_bind, underlying_run hT, Result.andThen_ok, hdc, hcx, Builtin.lenOf, Sem.run_pure, sizeOf_run hs]
        rw [← hcx, hmn, hrun w rfl (min l.length n) (by omega)]
        simp [hst, goInt]
      · refine ⟨rfl, ?_⟩
        simp only [RelL]
        congr 1
        omega
    · simp at h
  · simp at h

end
end Go.AM

namespace Go.AM

/-- What is asked of the calls. -/
structure FSound (P : Program) (F : CallT) : Prop where
  nx : ∀ f args st out st', F f args st = some (out, st') → st.nx ≤ st'.nx
  dom : ∀ f args st out st', F f args st = some (out, st') → ∀ y, st'.H y ≠ none → st.H y ≠ none ∨ (st.nx ≤ y ∧ y < st'.nx)
  enters : ∀ f args st out st', F f args st = some (out, st') → ∀ (cargs : Array Value) (w : World), (callFunc f cargs).run P w = .ok (.enter f cargs) w
  calls : ∀ f args st out st', F f args st = some (out, st') → ∀ (m : Mp) (w : World) (cargs : Array Value), RelH m st.H w → Unm m st.nx st'.nx → All2 (RelV m) args cargs.toList →
    Calls P f cargs w fun e w' => ∃ m', Post m st w m' st' w' ∧ match out with
      | .val v => ∃ c, e = .returned c ∧ RelV m' v c
      | .pan v => ∃ c, e = .panicked [{ v := c, recovered := false }] ∧ RelV m' v c

theorem nxA {P : Program} {F : CallT} (hF : FSound P F) {e : Env} {st st' : St} {q : AC} {o : Out} (h : evA F e st q = some (o, st')) : st.nx ≤ st'.nx := by
  have happ : ∀ {k b : Nat} {s : AV} {l : List AV} {v : AV} {st1 : St}, evApp st k b s l = some (v, st1) → st.nx ≤ st1.nx := by
    intro k b s l v st1 h
    unfold evApp at h
    (repeat' split at h) <;> simp at h <;> (obtain ⟨_, rfl⟩ := h; simp)
  cases q with
  | st sz x v => simp only [evA] at h; (repeat' split at h) <;> simp at h; obtain ⟨_, _, _, rfl⟩ := h; simp
  | mset m k v =>
    simp only [evA] at h
    (repeat' split at h) <;> simp only [Option.map_eq_some_iff, reduceCtorEq] at h
    obtain ⟨f, _, h⟩ := h
    split at h <;> simp only [Prod.mk.injEq] at h <;> (obtain ⟨_, rfl⟩ := h; simp)
  | mdel m k =>
    simp only [evA] at h
    (repeat' split at h) <;> simp only [Option.map_eq_some_iff, reduceCtorEq] at h
    obtain ⟨f, _, h⟩ := h
    split at h <;> simp only [Prod.mk.injEq] at h <;> (obtain ⟨_, rfl⟩ := h; simp)
  | app d k b s x =>
    simp only [evA] at h
    split at h
    · simp only [Option.bind_eq_some_iff, Option.map_eq_some_iff, Prod.mk.injEq] at h
      obtain ⟨l, _, ⟨v, st1⟩, h1, _, rfl⟩ := h
      have := happ h1
      simp only
      repeat' split
      all_goals exact this
    · simp at h
  | appz k b z s n =>
    simp only [evA] at h
    split at h
    · split at h
      · simp only [Option.map_eq_some_iff, Prod.mk.injEq] at h
        obtain ⟨⟨v, st1⟩, h1, _, rfl⟩ := h
        exact happ h1
      · simp at h
    · simp at h
  | cpy k d s =>
    simp only [evA] at h
    split at h
    · simp only [Option.some.injEq, Prod.mk.injEq] at h; rw [h.2]; exact Nat.le_refl _
    · simp only [Option.bind_eq_some_iff] at h
      obtain ⟨l, _, h⟩ := h
      split at h
      · simp only [Option.map_eq_some_iff, Prod.mk.injEq] at h
        obtain ⟨H', _, _, rfl⟩ := h
        exact Nat.le_refl _
      · simp at h
    · simp at h
  | callf f args =>
    simp only [evA, Option.bind_eq_some_iff] at h
    obtain ⟨l, _, h⟩ := h
    exact hF.nx _ _ _ _ _ h
  | callv x args =>
    simp only [evA] at h
    split at h
    · simp only [Option.bind_eq_some_iff] at h
      obtain ⟨l, _, h⟩ := h
      exact hF.nx _ _ _ _ _ h
    · simp at h
  | pan x =>
    simp only [evA] at h
    split at h
    · simp only [Option.some.injEq, Prod.mk.injEq] at h; rw [h.2]; exact Nat.le_refl _
    · simp at h

theorem upd_dom {H : Mem} {i y : Nat} {B : Blk} (hi : H i ≠ none) (h : (H.upd i B) y ≠ none) : H y ≠ none := by
  by_cases hy : y = i
  · subst hy; exact hi
  · simpa [Mem.upd, hy] using h

theorem del_dom {H : Mem} {i y : Nat} (h : (H.del i) y ≠ none) : H y ≠ none := by
  obtain ⟨B, hB⟩ := Option.ne_none_iff_exists'.1 h
  rw [del_sub hB]; simp

theorem domA {P : Program} {F : CallT} (hF : FSound P F) {e : Env} {st st' : St} {q : AC} {o : Out} (h : evA F e st q = some (o, st')) : ∀ y, st'.H y ≠ none → st.H y ≠ none ∨ (st.nx ≤ y ∧ y < st'.nx) := by
  have happ : ∀ {k b : Nat} {s : AV} {l : List AV} {v : AV} {st1 : St}, evApp st k b s l = some (v, st1) → ∀ y, st1.H y ≠ none → st.H y ≠ none ∨ (st.nx ≤ y ∧ y < st1.nx) := by
    intro k b s l v st1 h y hy
    unfold evApp at h
    (repeat' split at h) <;> simp at h
    · obtain ⟨_, rfl⟩ := h; exact .inl hy
    · obtain ⟨_, rfl⟩ := h
      by_cases hn : y = st.nx
      · exact .inr (by simp [hn])
      · left; simpa [Mem.upd, hn] using hy
    · obtain ⟨_, rfl⟩ := h
      by_cases hn : y = st.nx
      · exact .inr (by simp [hn])
      · left; simp only [Mem.upd, hn, if_false] at hy; exact del_dom hy
  intro y hy
  cases q with
  | st sz x v =>
    simp only [evA] at h
    (repeat' split at h) <;> simp at h
    rename_i hH
    obtain ⟨_, _, _, rfl⟩ := h
    exact .inl (upd_dom (by rw [hH]; simp) hy)
  | mset m k v =>
    simp only [evA] at h
    (repeat' split at h) <;> simp only [Option.map_eq_some_iff, reduceCtorEq] at h
    rename_i hH
    obtain ⟨f, _, h⟩ := h
    split at h <;> simp only [Prod.mk.injEq] at h <;> (obtain ⟨_, rfl⟩ := h; exact .inl (upd_dom (by rw [hH]; simp) hy))
  | mdel m k =>
    simp only [evA] at h
    (repeat' split at h) <;> simp only [Option.map_eq_some_iff, reduceCtorEq] at h
    rename_i hH
    obtain ⟨f, _, h⟩ := h
    split at h <;> simp only [Prod.mk.injEq] at h
    · obtain ⟨_, rfl⟩ := h; exact .inl (upd_dom (by rw [hH]; simp) hy)
    · obtain ⟨_, rfl⟩ := h; exact .inl hy
  | app d k b s x =>
    simp only [evA] at h
    split at h
    · simp only [Option.bind_eq_some_iff, Option.map_eq_some_iff, Prod.mk.injEq] at h
      obtain ⟨l, _, ⟨v, st1⟩, h1, _, rfl⟩ := h
      have hd : st1.H y ≠ none := by
        simp only at hy
        split at hy
        · split at hy
          · exact del_dom hy
          · exact hy
        · exact hy
      have := happ h1 y hd
      rcases this with h2 | h2
      · exact .inl h2
      · right
        simp only
        split
        · split <;> exact h2
        · exact h2
    · simp at h
  | appz k b z s n =>
    simp only [evA] at h
    split at h
    · split at h
      · simp only [Option.map_eq_some_iff, Prod.mk.injEq] at h
        obtain ⟨⟨v, st1⟩, h1, _, rfl⟩ := h
        exact happ h1 y hy
      · simp at h
    · simp at h
  | cpy k d s =>
    simp only [evA] at h
    split at h
    · simp only [Option.some.injEq, Prod.mk.injEq] at h; rw [← h.2] at hy; exact .inl hy
    · simp only [Option.bind_eq_some_iff] at h
      obtain ⟨l, _, h⟩ := h
      split at h
      · simp only [Option.map_eq_some_iff, Prod.mk.injEq] at h
        obtain ⟨H', hH', _, rfl⟩ := h
        unfold setElems at hH'
        (repeat' split at hH') <;> simp only [Option.map_eq_some_iff, reduceCtorEq] at hH'

        obtain ⟨t', _, rfl⟩ := hH'
        exact .inl (upd_dom (by rw [‹st.H _ = some (Blk.tree _)›]; simp) hy)
      · simp at h
    · simp at h
  | callf f args =>
    simp only [evA, Option.bind_eq_some_iff] at h
    obtain ⟨l, _, h⟩ := h
    exact hF.dom _ _ _ _ _ h y hy
  | callv x args =>
    simp only [evA] at h
    split at h
    · simp only [Option.bind_eq_some_iff] at h
      obtain ⟨l, _, h⟩ := h
      exact hF.dom _ _ _ _ _ h y hy
    · simp at h
  | pan x =>
    simp only [evA] at h
    split at h
    · simp only [Option.some.injEq, Prod.mk.injEq] at h; rw [← h.2] at hy; exact .inl hy
    · simp at h

/-- What becomes of an actor. -/
def ActPost (m : Mp) (st : St) (w : World) (st' : St) (o : Oper) (a : Act) (out : Out) (next : Act → World → Prop) (Q : Exit → Act → World → Prop) : Prop :=
  ∀ m' w' c, Post m st w m' st' w' → match out with
    | .val v => RelV m' v c → next (a.put o.dst c) w'
    | .pan v => RelV m' v c → Q (.panic [{ v := c, recovered := false }]) a w'

section
variable {P : Program} {F : CallT} (hF : FSound P F) {m : Mp} {e : Env} {a : Act} {st : St} {w : World} (hr : RelEnv m e a.tmps) (hH : RelH m st.H w)
include hF hr hH

omit hr in
theorem call_sound {f : Nat} {args : List AV} {cargs : Array Value} {out : Out} {st' : St} {o : Oper} {next : Act → World → Prop} {Q : Exit → Act → World → Prop} (h : F f args st = some (out, st')) (hu : Unm m st.nx st'.nx)
    (ha : All2 (RelV m) args cargs.toList) (hpost : ActPost m st w st' o a out next Q) : o.upon P a next Q (.ok (.enter f cargs) w) := by
  rw [Oper.upon_enter]
  refine (hF.calls f args st out st' h m w cargs hH hu ha).mono ?_
  rintro ed w' ⟨m', hp, hm⟩
  cases out with
  | val v => obtain ⟨c, rfl, hv⟩ := hm; exact hpost m' w' c hp hv
  | pan v => obtain ⟨c, rfl, hv⟩ := hm; exact hpost m' w' c hp hv

theorem a_sound {o : Oper} {q : AC} {out : Out} {st' : St} {next : Act → World → Prop} {Q : Exit → Act → World → Prop} (hc : chkA P o.op q = true) (h : evA F e st q = some (out, st')) (hu : Unm m st.nx st'.nx)
    (hpost : ActPost m st w st' o a out next Q) : o.wp P a w next Q := by
  have undefv : ∀ m' : Mp, RelV m' (.tuple []) undef := fun m' => ⟨#[], rfl, trivial⟩
  unfold Oper.wp
  obtain ⟨dst, op, type, pos, after, guard⟩ := o
  simp only at hc
  unfold chkA at hc
  split at hc
  · rename_i T x v n x' v'
    simp only [Bool.and_eq_true, decide_eq_true_eq] at hc
    obtain ⟨w', hrun, rfl, hp⟩ := a_st hr hH hc.1.1 hc.1.2 hc.2 h
    have : (execOp a.eval { dst, op := .store T x v, type, pos, after, guard }).run P w = .ok .skip w' := by simp [execOp, hrun]
    rw [this, Oper.upon_skip]
    exact hpost m w' undef hp (undefv m)
  · rename_i T m0 k0 v0 m1 k1 v1
    simp only [Bool.and_eq_true] at hc
    obtain ⟨⟨⟨hx, hi⟩, hy⟩, hc⟩ := hc
    split at hc
    · rename_i hT
      obtain ⟨w', hrun, rfl, hp⟩ := a_mset hr hH hx hi hy hT hc h
      have : (execOp a.eval { dst, op := .mapUpdate T m0 k0 v0, type, pos, after, guard }).run P w = .ok .skip w' := by simp [execOp, hrun]
      rw [this, Oper.upon_skip]
      exact hpost m w' undef hp (undefv m)
    · simp at hc
  · rename_i T m0 k0 v0 m1 k1 v1
    simp only [Bool.and_eq_true] at hc
    obtain ⟨⟨⟨hx, hi⟩, hy⟩, hc⟩ := hc
    split at hc
    · rename_i hT
      obtain ⟨w', hrun, rfl, hp⟩ := a_mset hr hH hx hi hy hT hc h
      have : (execOp a.eval { dst, op := .insert T m0 k0 v0, type, pos, after, guard }).run P w = .ok .skip w' := by simp [execOp, hrun]
      rw [this, Oper.upon_skip]
      exact hpost m w' undef hp (undefv m)
    · simp at hc
  · rename_i args argTypes m' k'
    split at hc
    · rename_i x i key el hx0 ht
      obtain ⟨T, h0, hT⟩ : ∃ T, argTypes[0]? = some T ∧ P.underlying T = some (.map key el) := by simpa [Option.bind_eq_some_iff] using ht
      have ha : args = #[x, i] := by cases args; simp at hx0; simp [hx0]
      subst ha
      simp only [Bool.and_eq_true] at hc
      obtain ⟨w', hrun, rfl, hp⟩ := a_mdel (ty := type) hr hH h0 hc.1.1 hc.1.2 hT hc.2 h
      have : (execOp a.eval { dst, op := .call { callee := .builtin .delete, args := #[x, i], argTypes }, type, pos, after, guard }).run P w = .ok (.value (.tuple #[])) w' := by
        simp [execOp, resolve, invoke, builtin, hrun]
      rw [this, Oper.upon_value]
      exact hpost m w' undef hp (undefv m)
    · simp at hc
  · rename_i args argTypes dx k bytes s' x'
    split at hc
    · rename_i s x el d hx0 ht hd
      obtain ⟨T, h0, hT⟩ : ∃ T, argTypes[0]? = some T ∧ P.underlying T = some (.slice el) := by simpa [Option.bind_eq_some_iff] using ht
      obtain ⟨T1, h1, hT1⟩ : ∃ T, argTypes[1]? = some T ∧ P.underlying T = some d := by simpa [Option.bind_eq_some_iff] using hd
      have ha : args = #[s, x] := by cases args; simp at hx0; simp [hx0]
      subst ha
      simp only [Bool.and_eq_true, decide_eq_true_eq, bne_iff_ne] at hc
      obtain ⟨⟨⟨⟨⟨⟨hs', hx'⟩, hs⟩, hb⟩, hb0⟩, hz⟩, hdi⟩ := hc
      obtain ⟨w', m', r, v, hrun, rfl, hv, hp⟩ := a_app (ty := type) hr hH hs' hx' h0 hT hdi h1 hT1 hs hb hb0 hz h hu
      have : (execOp a.eval { dst, op := .call { callee := .builtin .append, args := #[s, x], argTypes }, type, pos, after, guard }).run P w = .ok (.value r) w' := by
        simp [execOp, resolve, invoke, builtin, hrun]
      rw [this, Oper.upon_value]
      exact hpost m' w' r hp hv
    · simp at hc
  · rename_i args argTypes k bytes z s' x'
    split at hc
    · rename_i s x el d hx0 ht hd
      obtain ⟨T, h0, hT⟩ : ∃ T, argTypes[0]? = some T ∧ P.underlying T = some (.slice el) := by simpa [Option.bind_eq_some_iff] using ht
      obtain ⟨T1, h1, hT1⟩ : ∃ T, argTypes[1]? = some T ∧ P.underlying T = some (.int d) := by simpa [Option.bind_eq_some_iff] using hd
      have ha : args = #[s, x] := by cases args; simp at hx0; simp [hx0]
      subst ha
      simp only [Bool.and_eq_true, decide_eq_true_eq, beq_iff_eq, bne_iff_ne] at hc
      obtain ⟨⟨⟨⟨⟨⟨hs', hx'⟩, hs⟩, hb⟩, hb0⟩, hz⟩, hzk⟩ := hc
      obtain ⟨w', m', r, v, hrun, rfl, hv, hp⟩ := a_appz (ty := type) hr hH hs' hx' h0 hT h1 hT1 hs hb hb0 hz hzk h hu
      have : (execOp a.eval { dst, op := .call { callee := .builtin .append, args := #[s, x], argTypes }, type, pos, after, guard }).run P w = .ok (.value r) w' := by
        simp [execOp, resolve, invoke, builtin, hrun]
      rw [this, Oper.upon_value]
      exact hpost m' w' r hp hv
    · simp at hc
  · rename_i args argTypes k d' s'
    split at hc
    · rename_i d s el hx0 ht
      obtain ⟨T, h0, hT⟩ : ∃ T, argTypes[0]? = some T ∧ P.underlying T = some (.slice el) := by simpa [Option.bind_eq_some_iff] using ht
      have ha : args = #[d, s] := by cases args; simp at hx0; simp [hx0]
      subst ha
      simp only [Bool.and_eq_true, decide_eq_true_eq] at hc
      obtain ⟨w', r, v, hrun, rfl, hv, hp⟩ := a_cpy (ty := type) hr hH hc.1.1 hc.1.2 h0 hT hc.2 h
      have : (execOp a.eval { dst, op := .call { callee := .builtin .copy, args := #[d, s], argTypes }, type, pos, after, guard }).run P w = .ok (.value r) w' := by
        simp [execOp, resolve, invoke, builtin, hrun]
      rw [this, Oper.upon_value]
      exact hpost m w' r hp hv
    · simp at hc
  · rename_i f args argTypes f' args'
    simp only [Bool.and_eq_true, beq_iff_eq] at hc
    obtain ⟨⟨rfl, hx⟩, hen⟩ := hc
    simp only [evA, Option.bind_eq_some_iff] at h
    obtain ⟨l, hl, h⟩ := h
    have : (execOp a.eval { dst, op := .call { callee := .value (.func f), args, argTypes }, type, pos, after, guard }).run P w = .ok (.enter f (args.map a.eval)) w := by
      have := hF.enters f l st out st' h (args.map a.eval) w
      simp [execOp, resolve, invoke, Deferred.ofValue, Act.eval, this]
    rw [this]
    exact call_sound hF hH h hu (by simpa using chkXs_rel hr hx hl) hpost
  · rename_i x args argTypes x' args'
    simp only [Bool.and_eq_true] at hc
    simp only [evA] at h
    split at h
    · rename_i f p q hx
      simp only [Option.bind_eq_some_iff] at h
      obtain ⟨l, hl, h⟩ := h
      obtain ⟨_, x1, y1, hxc, hp, hq⟩ := chkX_rel hr hc.1 hx
      have : (execOp a.eval { dst, op := .call { callee := .value x, args, argTypes }, type, pos, after, guard }).run P w = .ok (.enter f (x1 ++ args.map a.eval ++ y1)) w := by
        have := hF.enters f _ st out st' h (x1 ++ args.map a.eval ++ y1) w
        simp only [execOp, resolve, hxc, Deferred.ofValue, invoke, Sem.run_bind, Sem.run_pure, Result.andThen_ok]
        simpa using this
      rw [this]
      refine call_sound hF hH h hu ?_ hpost
      have conv : ∀ {ps : List APtr} {cs : List Value}, All2 (RelPV m) ps cs → All2 (RelV m) (ps.map fun p => .ptr (some p)) cs := by
        intro ps
        induction ps with
        | nil =>
          intro cs h
          cases cs with
          | nil => trivial
          | cons => exact h.elim
        | cons p ps ih =>
          intro cs h
          cases cs with
          | nil => exact h.elim
          | cons c cs => exact ⟨⟨trivial, h.1⟩, ih h.2⟩
      simp only [Array.toList_append, Array.toList_map]
      exact ((conv hp).append (chkXs_rel hr hc.2 hl)).append (conv hq)
    · simp at h
  · rename_i x x'
    simp only [evA] at h
    split at h
    · rename_i t v hx
      simp only [Option.some.injEq, Prod.mk.injEq] at h
      obtain ⟨rfl, rfl⟩ := h
      have hxv := chkX_rel hr hc hx
      have hxc : a.eval x = .iface t v := hxv.2
      have : (execOp a.eval { dst, op := .panic x, type, pos, after, guard }).run P w = .halt (.panic (a.eval x)) w := by
        simp [execOp, hxc, Instr.panic]
      rw [this, Oper.upon_panic]
      exact hpost m w _ (Post.refl hH rfl) hxv
    · simp at h
  · simp at hc

end
end Go.AM

namespace Go.AM

/-! Regions in the order of their text. -/

def chkOp (P : Program) (o : Op) : RO → Bool
  | .q q => chkQ P o q
  | .rd q => chkR P o q
  | .al q => chkL P o q
  | .ac q => chkA P o q

/-- the slot whose value a guard asks for -/
def guardSlot (ops : Array Oper) (o : Oper) : Option (Option (Nat × Bool)) :=
  match o.guard with
  | none => some none
  | some (j, b) => ((ops[j]?).bind (·.dst)).map fun s => some (s, b)

def chkI (P : Program) (N : Nat) (ops : Array Oper) (i : Nat) (r : RI) : Bool :=
  match ops[i]? with
  | none => false
  | some o => decide (o.dst = r.dst) && (match r.dst with | some d => decide (d < N) | none => true) && decide (guardSlot ops o = some r.gd) && chkOp P o.op r.op

def chkIs (P : Program) (N : Nat) (ops : Array Oper) : List Nat → List RI → Bool
  | [], [] => true
  | i :: is, r :: rs => chkI P N ops i r && chkIs P N ops is rs
  | _, _ => false

theorem chkI_spec {P : Program} {N : Nat} {ops : Array Oper} {i : Nat} {r : RI} (h : chkI P N ops i r = true) :
    ∃ o, ops[i]? = some o ∧ o.dst = r.dst ∧ (∀ d, r.dst = some d → d < N) ∧ guardSlot ops o = some r.gd ∧ chkOp P o.op r.op = true := by
  unfold chkI at h
  split at h
  · simp at h
  · rename_i o ho
    simp only [Bool.and_eq_true, decide_eq_true_eq] at h
    refine ⟨o, ho, h.1.1.1, fun d hd => ?_, h.1.2, h.2⟩
    have := h.1.1.2
    rw [hd] at this
    simpa using this

theorem wants_spec {m : Mp} {e : Env} {tmps : Array Value} {ops : Array Oper} {o : Oper} {g : Option (Nat × Bool)} {b : Bool} (hr : RelEnv m e tmps) (hg : guardSlot ops o = some g) (h : wants e g = some b) :
    Region.wanted o (yielded ops tmps) = b := by
  unfold guardSlot at hg
  cases hgo : o.guard with
  | none =>
    rw [hgo] at hg
    simp only [Option.some.injEq] at hg; subst hg
    simp only [wants, Option.some.injEq] at h; subst h
    simp [Region.wanted, hgo]
  | some jb =>
    obtain ⟨j, want⟩ := jb
    rw [hgo] at hg
    simp only [Option.map_eq_some_iff] at hg
    obtain ⟨s, hs, rfl⟩ := hg
    simp only [wants] at h
    simp only [Region.wanted, hgo, yielded, hs, Option.bind_some]
    split at h
    · rename_i x hx
      simp only [Option.some.injEq] at h; subst h
      have := (hr s _ hx).2
      simp only [RelL] at this
      have hget : tmps[s]? = some (.bool x) := by
        rw [Array.getD_eq_getD_getElem?] at this
        cases hq : tmps[s]? with
        | none => rw [hq] at this; simp [undef] at this
        | some v => rw [hq] at this; simp at this; rw [this]
      rw [hget]
      simp only
      cases x <;> cases want <;> rfl
    · rename_i hx
      simp only [Option.some.injEq] at h; subst h
      obtain ⟨cs, hc, hall⟩ := hr s _ hx
      have hget : tmps[s]? = none ∨ ∃ cs, tmps[s]? = some (.tuple cs) := by
        rw [Array.getD_eq_getD_getElem?] at hc
        cases hq : tmps[s]? with
        | none => exact .inl rfl
        | some v => rw [hq] at hc; simp at hc; exact .inr ⟨cs, by rw [hc]⟩
      rcases hget with hget | ⟨cs', hget⟩ <;> rw [hget] <;> rfl
    · simp at h

theorem RelEnv.put {m : Mp} {e : Env} {a : Act} {v : AV} {c : Value} {d : Option Nat} (hr : RelEnv m e a.tmps) (hv : RelV m v c) (hd : ∀ s, d = some s → s < a.tmps.size) : RelEnv m (e.put d v) (a.put d c).tmps := by
  cases d with
  | none => exact hr
  | some d =>
    have hd := hd d rfl
    intro s u hu
    simp only [Env.put, Env.get] at hu
    simp only [Act.put]
    split at hu
    · rename_i hs
      subst hs
      simp only [Option.some.injEq] at hu; subst hu
      simpa [Array.getD_eq_getD_getElem?, hd] using hv
    · rename_i hs
      have := hr s u hu
      simpa [Array.getD_eq_getD_getElem?, Array.getElem?_setIfInBounds_ne hs] using this

theorem put_size (a : Act) (d : Option Nat) (c : Value) : (a.put d c).tmps.size = a.tmps.size := by
  cases d <;> simp [Act.put]
theorem put_defers (a : Act) (d : Option Nat) (c : Value) : (a.put d c).defers = a.defers := by
  cases d <;> simp [Act.put]

def RelX (m : Mp) : X → Exit → Prop
  | .norm, .normal => True
  | .exit i, .exit j => i = j
  | .ret, .ret => True
  | .pan v, .panic ch => ∃ c, RelV m v c ∧ ch = [{ v := c, recovered := false }]
  | _, _ => False

/-- What a piece of code leaves. -/
def Good (m : Mp) (st : St) (w : World) (x : X) (e' : Env) (st' : St) (a : Act) (ex : Exit) (a' : Act) (w' : World) : Prop :=
  ∃ m', Post m st w m' st' w' ∧ RelX m' x ex ∧ RelEnv m' e' a'.tmps ∧ a'.tmps.size = a.tmps.size ∧ a'.defers = a.defers

theorem evRegion_nx {P : Program} {F : CallT} (hF : FSound P F) : ∀ (l : List RI) (e : Env) (st : St) (x : X) (e' : Env) (st' : St), evRegion P F l e st = some (x, e', st') → st.nx ≤ st'.nx
  | [], e, st, x, e', st', h => by simp [evRegion] at h; rw [h.2.2]; exact Nat.le_refl _
  | o :: r, e, st, x, e', st', h => by
    simp only [evRegion] at h
    split at h
    · simp at h
    · exact evRegion_nx hF r _ _ _ _ _ h
    · split at h
      · simp only [Option.bind_eq_some_iff] at h
        obtain ⟨v, _, h⟩ := h
        exact evRegion_nx hF r _ _ _ _ _ h
      · simp only [Option.bind_eq_some_iff] at h
        obtain ⟨v, _, h⟩ := h
        exact evRegion_nx hF r _ _ _ _ _ h
      · simp only [Option.bind_eq_some_iff] at h
        obtain ⟨⟨v, b⟩, _, h⟩ := h
        have := evRegion_nx hF r _ _ _ _ _ h
        simp at this; omega
      · split at h
        · rename_i hq
          have h1 := nxA hF hq
          have h2 := evRegion_nx hF r _ _ _ _ _ h
          omega
        · rename_i hq
          have h1 := nxA hF hq
          simp only [Option.some.injEq, Prod.mk.injEq] at h
          rw [← h.2.2]; exact h1
        · simp at h

theorem wpOps_cons {P : Program} {ops : Array Oper} {Q : Exit → Act → World → Prop} {i : Nat} {rest : List Nat} {a : Act} {w : World} {o : Oper} (ho : ops[i]? = some o) {b : Bool} (hw : Region.wanted o (yielded ops a.tmps) = b)
    (h : if b then o.wp P a w (wpOps P ops Q rest) Q else wpOps P ops Q rest (a.put o.dst undef) w) : wpOps P ops Q (i :: rest) a w := by
  simp only [wpOps, ho, hw]
  cases b
  · simpa using h
  · simp only [if_true] at h ⊢; exact .inl h

theorem region_sound {P : Program} {F : CallT} (hF : FSound P F) {ops : Array Oper} {N : Nat} : ∀ (l : List RI) (is : List Nat) (m : Mp) (e : Env) (st : St) (a : Act) (w : World) (x : X) (e' : Env) (st' : St) (Q : Exit → Act → World → Prop),
    chkIs P N ops is l = true → evRegion P F l e st = some (x, e', st') → RelEnv m e a.tmps → a.tmps.size = N → RelH m st.H w → Unm m st.nx st'.nx →
    (∀ ex a' w', Good m st w x e' st' a ex a' w' → Q ex a' w') → wpOps P ops Q is a w
  | [], [], m, e, st, a, w, x, e', st', Q, _, h, hr, hN, hH, hu, hQ => by
    simp only [evRegion, Option.some.injEq, Prod.mk.injEq] at h
    obtain ⟨rfl, rfl, rfl⟩ := h
    exact hQ _ _ _ ⟨m, Post.refl hH rfl, trivial, hr, rfl, rfl⟩
  | [], _ :: _, _, _, _, _, _, _, _, _, _, hc, _, _, _, _, _, _ => by simp [chkIs] at hc
  | _ :: _, [], _, _, _, _, _, _, _, _, _, hc, _, _, _, _, _, _ => by simp [chkIs] at hc
  | r :: l, i :: is, m, e, st, a, w, x, e', st', Q, hc, h, hr, hN, hH, hu, hQ => by
    simp only [chkIs, Bool.and_eq_true] at hc
    obtain ⟨o, ho, hdst, hdN, hg, hop⟩ := chkI_spec hc.1
    have hds : ∀ s, o.dst = some s → s < a.tmps.size := fun s hs => by rw [hN]; exact hdN s (by rw [← hdst]; exact hs)
    have good : ∀ {m1 : Mp} {st1 : St} {w1 : World} {a1 : Act}, Post m st w m1 st1 w1 → a1.tmps.size = a.tmps.size → a1.defers = a.defers → ∀ ex a' w', Good m1 st1 w1 x e' st' a1 ex a' w' → Q ex a' w' := by
      rintro m1 st1 w1 a1 hp hs hd ex a' w' ⟨m', hp', hx, he, h1, h2⟩
      exact hQ ex a' w' ⟨m', hp.trans hp', hx, he, by rw [h1, hs], by rw [h2, hd]⟩
    simp only [evRegion] at h
    split at h
    · simp at h
    · rename_i hw
      refine wpOps_cons ho (wants_spec hr hg hw) ?_
      simp only [Bool.false_eq_true, if_false]
      have hu0 : RelV m (.tuple []) undef := ⟨#[], rfl, trivial⟩
      rw [← hdst] at h
      exact region_sound hF l is m _ st _ w x e' st' Q hc.2 h (hr.put hu0 hds) (by rw [put_size, hN]) hH hu (good (Post.refl hH rfl) (put_size ..) (put_defers ..))
    · rename_i hw
      refine wpOps_cons ho (wants_spec hr hg hw) ?_
      simp only [if_true]
      rw [← hdst] at h
      split at h
      · rename_i q hq
        rw [hq] at hop
        simp only [Option.bind_eq_some_iff] at h
        obtain ⟨v, hv, h⟩ := h
        obtain ⟨c, hc1, hrun⟩ := q_sound hr (o := o) hop hv
        unfold Oper.wp
        rw [hrun w, Oper.upon_value]
        exact region_sound hF l is m _ st _ w x e' st' Q hc.2 h (hr.put hc1 hds) (by rw [put_size, hN]) hH hu (good (Post.refl hH rfl) (put_size ..) (put_defers ..))
      · rename_i q hq
        rw [hq] at hop
        simp only [Option.bind_eq_some_iff] at h
        obtain ⟨v, hv, h⟩ := h
        obtain ⟨c, hc1, hrun⟩ := r_sound hr hH (o := o) hop hv
        unfold Oper.wp
        rw [hrun, Oper.upon_value]
        exact region_sound hF l is m _ st _ w x e' st' Q hc.2 h (hr.put hc1 hds) (by rw [put_size, hN]) hH hu (good (Post.refl hH rfl) (put_size ..) (put_defers ..))
      · rename_i q hq
        rw [hq] at hop
        simp only [Option.bind_eq_some_iff] at h
        obtain ⟨⟨v, B⟩, hv, h⟩ := h
        have hnx := evRegion_nx hF _ _ _ _ _ _ h
        simp only at hnx
        have hu1 : Unm m st.nx (st.nx + 1) := hu.sub (Nat.le_refl _) hnx
        obtain ⟨m', w', c, hrun, hc1, hp⟩ := l_sound hr hH hu1 (o := o) hop hv
        unfold Oper.wp
        rw [hrun, Oper.upon_value]
        have hle := hp.le hu1
        refine region_sound hF l is m' _ ⟨st.H.upd st.nx B, st.nx + 1⟩ _ w' x e' st' Q hc.2 h ((hr.mono hle).put hc1 hds) (by rw [put_size, hN]) hp.rel ?_ (good hp (put_size ..) (put_defers ..))
        intro j h1 h2
        simp only at h1
        rw [hp.out j (.inr h1)]
        exact hu j (by omega) h2
      · rename_i q hq
        rw [hq] at hop
        split at h
        · rename_i v st1 hv
          have hnx1 := nxA hF hv
          have hnx := evRegion_nx hF _ _ _ _ _ _ h
          refine a_sound hF hr hH hop hv (hu.sub (Nat.le_refl _) hnx) ?_
          intro m' w' c hp hc1
          have hle := hp.le (hu.sub (Nat.le_refl _) hnx)
          refine region_sound hF l is m' _ st1 _ w' x e' st' Q hc.2 h ((hr.mono hle).put hc1 hds) (by rw [put_size, hN]) hp.rel ?_ (good hp (put_size ..) (put_defers ..))
          intro j h1 h2
          rw [hp.out j (.inr h1)]
          exact hu j (by omega) h2
        · rename_i v st1 hv
          simp only [Option.some.injEq, Prod.mk.injEq] at h
          obtain ⟨rfl, rfl, rfl⟩ := h
          refine a_sound hF hr hH hop hv hu ?_
          intro m' w' c hp hc1
          have hle := hp.le hu
          exact hQ _ _ _ ⟨m', hp, ⟨c, hc1, rfl⟩, hr.mono hle, rfl, rfl⟩
        · simp at h

end Go.AM

