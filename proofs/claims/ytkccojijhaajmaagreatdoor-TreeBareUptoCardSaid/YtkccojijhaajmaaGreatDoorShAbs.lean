/-
An interpreter for the translated code on deep values: the functions of a program are run on numbers, lists of bytes, structs as flat lists of cells and read-only slices as lists; only what pointers and a function's own slices point to lies in a small list of blocks.
-/
import Derived.Calls
import GoSem.Dispatch
set_option linter.unusedSimpArgs false
set_option linter.unusedVariables false
set_option linter.unusedSectionVars false
namespace Sh
open Go

/-- A mark that keeps what it names from being rewritten in place. -/
structure Tg {α : Type} (a : α) : Type where

/-- a branch -/
def br {α : Type} (b : Bool) (x y : Option α) (_ : Tg x := {}) (_ : Tg y := {}) : Option α := match b with | true => x | false => y
/-- only if the check holds -/
def ckR {α : Type} (b : Bool) (x : Option α) (_ : Tg x := {}) : Option α := match b with | true => x | false => none
def bindR {α β : Type} (r : Option β) (k : β → Option α) (_ : Tg k := {}) : Option α := r.bind k
def _root_.Option.bnd {α β : Type} (r : Option β) (k : β → Option α) : Option α := bindR r k
def _root_.Option.mpd {α β : Type} (r : Option β) (k : β → α) : Option α := bindR r fun v => some (k v)

/-- Abstract values: 'dsl' a slice that is only read, 'lsl' a slice of a live block, 'addr' a place in what is only read. -/
inductive AV where
  | int (k : IntKind) (n : Int)
  | bool (b : Bool)
  | str (s : List UInt8)
  | nilp
  | nils
  | ptr (id off : Nat)
  | lsl (id off len : Nat) (cap : Option Nat) (es : Nat)
  | dsl (xs : List AV)
  | addr (c : List AV) (off : Nat)
  | agg (c : List AV)
  | tup (c : List AV)
  | top
  deriving Inhabited

/-- A live block: its cells; 'op': more cells may lie behind them; 'leaf': no cell points to a live block. -/
structure Blk where
  c : List AV
  op : Bool
  leaf : Bool
  ty : Option TypeId

abbrev Heap := List (Option Blk)
abbrev Res := Option (AV × Heap)
/-- A frame: the newest value of a slot stands first. -/
abbrev Fr := List (Nat × AV)

def Fr.get : Fr → Nat → AV
  | [], _ => .top
  | (j, v) :: r, i => if j = i then v else Fr.get r i

/-- a byte as a cell -/
def u8 (b : UInt8) : AV := .int .u8 b.toNat

/-- what lies in cells -/
def AV.cells : AV → Option (List AV)
  | .agg c => some c
  | .tup _ | .top => none
  | v => some [v]

def ofCell : Value → AV
  | .int k n => .int k n
  | .bool b => .bool b
  | .string s => .str s.data.toList
  | .pointer none => .nilp
  | .slice none 0 0 => .nils
  | _ => .top

def oneC : Value → Bool
  | .agg _ | .tuple _ => false
  | _ => true

def ofVal : Value → AV
  | .agg c => match c.toList.all oneC with | true => .agg (c.toList.map ofCell) | false => .top
  | v => ofCell v

def opv (t : Fr) : Operand → AV
  | .tmp i => t.get i
  | .const v => ofVal v
  | _ => .top

inductive LK where
  | bad | other | struct | array | slice | string | bool | ptr
  deriving DecidableEq

/-- kinds of cells that are compared -/
inductive CK where
  | int | bool | str
  deriving DecidableEq

/-- A type's layout: its kind, cells, zero value, fields (offset, size, type), element's cells, length, element; 'feq': values are equal just if their cells are. -/
structure Lay where
  kind : LK
  size : Nat
  zero : Option AV
  offs : List (Nat × Nat × Nat)
  es : Nat
  n : Nat
  et : Nat
  feq : Option (List (Nat × CK))
  eb : Nat

/-- The cells of values that are equal just if their cells are: so many of each kind. -/
def flatFs (F : TypeId → Option (List (Nat × CK))) (P : Program) : List Field → Nat → Option (List (Nat × CK))
  | [], _ => some []
  | f :: r, n => (F f.type).bind fun l => if f.name ≠ "_" ∧ f.offset = n ∧ 0 < (l.map (·.1)).sum ∧ (P.info? f.type).any (·.size == (l.map (·.1)).sum) then (flatFs F P r (n + (l.map (·.1)).sum)).map (l ++ ·) else none

def flat (P : Program) : Nat → TypeId → Option (List (Nat × CK))
  | 0, _ => none
  | d + 1, t => match P.underlying t with
    | some (.int _) => some [(1, .int)]
    | some .bool => some [(1, .bool)]
    | some .string => some [(1, .str)]
    | some (.struct fs) => match P.stoodInHeld t with
      | true => none
      | false => flatFs (flat P d) P fs.toList 0
    | some (.array n e) => match flat P d e with
      | some [(1, k)] => if (P.info? e).any (·.size == 1) then some [(n, k)] else none
      | _ => none
    | _ => none

def flatEq (P : Program) (t : TypeId) : Option (List (Nat × CK)) :=
  match P.eqGuardType P.depth t with
  | true => none
  | false => flat P 8 t

def lay (P : Program) (t : TypeId) : Lay :=
  let sz (u : TypeId) : Nat := ((P.info? u).map (·.size)).getD 0
  let z := ((P.info? t).bind (·.zero)).map ofVal
  match P.underlying t with
  | some (.struct fs) => ⟨match fs.toList.all fun f => (P.info? f.type).isSome with | true => .struct | false => .bad, sz t, z, fs.toList.map fun f => (f.offset, sz f.type, f.type), 0, 0, 0, flatEq P t, 0⟩
  | some (.array n e) => ⟨match (P.info? e).isSome with | true => .array | false => .bad, sz t, z, [], sz e, n, e, flatEq P t, 0⟩
  | some (.slice e) => ⟨match (P.info? e).isSome with | true => .slice | false => .bad, sz t, z, [], sz e, 0, e, none, ((P.info? e).map (·.bytes)).getD 0⟩
  | some .bool => ⟨.bool, sz t, z, [], 0, 0, 0, none, 0⟩
  | some (.pointer _) => ⟨.ptr, sz t, z, [], 0, 0, 0, none, 0⟩
  | some .string => ⟨.string, sz t, z, [], 0, 0, 0, none, 0⟩
  | none => ⟨.bad, sz t, z, [], 0, 0, 0, none, 0⟩
  | _ => ⟨.other, sz t, z, [], 0, 0, 0, none, 0⟩

def hget (h : Heap) (id : Nat) : Option Blk := (h[id]?).getD none

/-- n cells from off on. -/
def getr (c : List AV) (off n : Nat) : Option (List AV) := if off + n ≤ c.length then some ((c.drop off).take n) else none

def putr (c : List AV) (off : Nat) (v : List AV) : Option (List AV) :=
  if off + v.length ≤ c.length then some (c.take off ++ (v ++ c.drop (off + v.length))) else none

/-- what a load of a type gives of cells. -/
def ldc (l : Lay) (c : List AV) (off : Nat) : Option AV :=
  match l.kind with
  | .struct | .array => (getr c off l.size).mpd .agg
  | .bad => none
  | _ => c[off]?

/-- which live blocks a cell names -/
def AV.ref : AV → Option Nat
  | .ptr i _ | .lsl i _ _ _ _ => some i
  | _ => none

def refs : List AV → List Nat
  | [] => []
  | v :: r => match v.ref with
    | some i => i :: refs r
    | none => refs r

def AV.refs : AV → List Nat
  | .agg c => Sh.refs c
  | .tup c => c.flatMap fun | .agg c => Sh.refs c | v => Sh.refs [v]
  | v => Sh.refs [v]

def Blk.refs (b : Blk) : List Nat := match b.leaf with | true => [] | false => Sh.refs b.c

/-- the live blocks that can be reached, each once, in the order in which they are met -/
def reach (h : Heap) : Nat → List Nat → List Nat → List Nat
  | _, [], seen => seen
  | 0, _ :: _, seen => seen
  | n + 1, i :: todo, seen =>
    match seen.contains i with
    | true => reach h n todo seen
    | false => match hget h i with
      | some b => reach h n (todo ++ b.refs) (seen ++ [i])
      | none => reach h n todo seen

def AV.ren1 (m : Nat → Option Nat) : AV → AV
  | .ptr i o => match m i with | some j => .ptr j o | none => .top
  | .lsl i o n c e => match m i with | some j => .lsl j o n c e | none => .top
  | v => v

def AV.renV (m : Nat → Option Nat) : AV → AV
  | .agg c => .agg (c.map (AV.ren1 m))
  | v => v.ren1 m

def AV.ren (m : Nat → Option Nat) : AV → AV
  | .agg c => .agg (c.map (AV.ren1 m))
  | .tup c => .tup (c.map (AV.renV m))
  | v => v.ren1 m

def Blk.ren (m : Nat → Option Nat) (b : Blk) : Blk :=
  match b.leaf with
  | true => b
  | false => { b with c := b.c.map (AV.ren1 m) }

/-- for each, or not at all -/
def mapO {α β : Type} (g : α → Option β) : List α → Option (List β)
  | [] => some []
  | a :: r => (g a).bnd fun b => (mapO g r).bnd fun l => some (b :: l)

def idx (l : List Nat) (i : Nat) : Option Nat := l.findIdx? (· == i)

/-- elements of so many cells each -/
def chunks (es : Nat) : Nat → List AV → List AV
  | 0, _ => []
  | n + 1, c => .agg (c.take es) :: chunks es n (c.drop es)

def chunk (es n : Nat) (c : List AV) : List AV :=
  match es with
  | 1 => c
  | es => chunks es n c

/-- all elements have so many cells -/
def elOK (es : Nat) : AV → Bool
  | .agg c => es != 1 && c.length == es
  | .tup _ | .top => false
  | _ => es == 1
def esOK (es : Nat) (xs : List AV) : Bool := xs.all (elOK es)
/-- cells that are elements by themselves -/
def ckOK (es : Nat) (c : List AV) : Bool := match es with
  | 1 => esOK 1 c
  | _ => true

/-- a cell that names no own slice, as what is only read -/
def deepO : AV → Option (AV × List Nat)
  | .nils => some (.dsl [], [])
  | .lsl _ _ _ _ _ => none
  | .ptr _ _ => none
  | .agg _ => none
  | .tup _ => none
  | v => some (v, [])

/-- cell by cell -/
def deepA (g : AV → Option (AV × List Nat)) : List AV → Option (List AV × List Nat)
  | [] => some ([], [])
  | v :: r => (g v).bnd fun x => (deepA g r).bnd fun y => some (x.1 :: y.1, x.2 ++ y.2)

/-- a cell as what is only read (n: how deep), and the blocks that it takes -/
def deep1 (h : Heap) : Nat → AV → Option (AV × List Nat)
  | 0, v => deepO v
  | n + 1, v => match v with
    | .lsl i o len _ es => (hget h i).bnd fun b => (getr b.c o (len * es)).bnd fun c =>
      match es with
      | 0 => none
      | es + 1 => match b.leaf with
        | true => match ckOK (es + 1) c with
          | true => some (.dsl (chunk (es + 1) len c), [i])
          | false => none
        | false => (deepA (deep1 h n) c).bnd fun r => match ckOK (es + 1) r.1 with
          | true => some (.dsl (chunk (es + 1) len r.1), i :: r.2)
          | false => none
    | .nils => deepO .nils
    | .ptr i o => deepO (.ptr i o)
    | .agg c => deepO (.agg c)
    | .tup c => deepO (.tup c)
    | .int k i => deepO (.int k i)
    | .bool b => deepO (.bool b)
    | .str s => deepO (.str s)
    | .nilp => deepO .nilp
    | .dsl x => deepO (.dsl x)
    | .addr c o => deepO (.addr c o)
    | .top => deepO .top

/-- cells -/
def deepL (h : Heap) (n : Nat) (c : List AV) : Option (List AV × List Nat) := deepA (deep1 h n) c

/-- a value, no tuple -/
def deepV (h : Heap) : AV → Option (AV × List Nat)
  | .agg c => (deepL h 4 c).bnd fun r => some (.agg r.1, r.2)
  | v => deep1 h 4 v

def deepVs (h : Heap) : List AV → Option (List AV × List Nat)
  | [] => some ([], [])
  | v :: r => (deepV h v).bnd fun x => (deepVs h r).bnd fun y => some (x.1 :: y.1, x.2 ++ y.2)

def deep (h : Heap) : AV → Option (AV × List Nat)
  | .tup c => (deepVs h c).bnd fun r => some (.tup r.1, r.2)
  | v => deepV h v

def AV.isD : AV → Bool
  | .dsl _ | .addr _ _ => true
  | _ => false

/-- does a value hold what is only read? -/
def AV.hasD1 : AV → Bool
  | .agg c => c.any AV.isD
  | v => v.isD

def AV.hasD : AV → Bool
  | .agg c => c.any AV.isD
  | .tup c => c.any AV.hasD1
  | v => v.isD

def aarith (op : BinOp) (k : IntKind) (a b : Int) : Option AV :=
  match op with
  | .add => some (.int k (k.wrap (a + b)))
  | .sub => some (.int k (k.wrap (a - b)))
  | .mul => some (.int k (k.wrap (a * b)))
  | .quo => if b = 0 then none else some (.int k (k.wrap (a.tdiv b)))
  | .rem => if b = 0 then none else some (.int k (a.tmod b))
  | .and => some (.int k (k.wrap (BitVec.ofInt k.bits a &&& BitVec.ofInt k.bits b).toNat))
  | .or => some (.int k (k.wrap (BitVec.ofInt k.bits a ||| BitVec.ofInt k.bits b).toNat))
  | .xor => some (.int k (k.wrap (BitVec.ofInt k.bits a ^^^ BitVec.ofInt k.bits b).toNat))
  | .andNot => some (.int k (k.wrap (BitVec.ofInt k.bits a &&& ~~~BitVec.ofInt k.bits b).toNat))
  | .lss => some (.bool (decide (a < b)))
  | .leq => some (.bool (decide (a ≤ b)))
  | .gtr => some (.bool (decide (b < a)))
  | .geq => some (.bool (decide (b ≤ a)))
  | .eql => some (.bool (a == b))
  | .neq => some (.bool (a != b))
  | _ => none

/-- cells of one kind -/
def aeqK (k : CK) : List AV → List AV → Option Bool
  | [], [] => some true
  | .int i a :: x, .int j b :: y => if k = .int ∧ i = j then (aeqK k x y).mpd fun d => (a == b) && d else none
  | .str a :: x, .str b :: y => if k = .str then (aeqK k x y).mpd fun d => (a == b) && d else none
  | .bool a :: x, .bool b :: y => if k = .bool then (aeqK k x y).mpd fun d => (a == b) && d else none
  | _, _ => none

/-- cell by cell -/
def aeqs : List (Nat × CK) → List AV → List AV → Option Bool
  | [], [], [] => some true
  | p :: r, x, y => if p.1 ≤ x.length ∧ p.1 ≤ y.length then (aeqK p.2 (x.take p.1) (y.take p.1)).bnd fun c => (aeqs r (x.drop p.1) (y.drop p.1)).mpd fun d => c && d else none
  | _, _, _ => none

/-- '==' or '!=' -/
def eqNe (op : BinOp) (b : Bool) : Option AV :=
  match op with
  | .eql => some (.bool b)
  | .neq => some (.bool (!b))
  | _ => none

def strMax : Nat := 9223372036854775807

def abin (l : Lay) (op : BinOp) (a b : AV) : Option AV :=
  match a, b with
  | .int k a, .int j b => match op with
    | .shl => if b < 0 then none else some (.int k (k.wrap (a * 2 ^ (min b.toNat k.bits))))
    | .shr => if b < 0 then none else some (.int k (a.fdiv (2 ^ (min b.toNat k.bits))))
    | op => if k = j then aarith op k a b else none
  | .str a, .str b => match op with
    | .add => if a.length + b.length ≤ strMax then some (.str (a ++ b)) else none
    | .eql => some (.bool (a == b))
    | .neq => some (.bool (!(a == b)))
    | _ => none
  | .bool a, .bool b => if l.kind = .bool then eqNe op (a == b) else none
  | .agg a, .agg b => l.feq.bnd fun q => (aeqs q a b).bnd fun c => eqNe op c
  | .nils, .nils => if l.kind = .slice then eqNe op true else none
  | .nilp, .nilp => if l.kind = .ptr then eqNe op true else none
  | .ptr _ _, .nilp => if l.kind = .ptr then eqNe op false else none
  | .dsl (_ :: _), .nils => if l.kind = .slice then eqNe op false else none
  | _, _ => none

def aun (op : UnOp) : AV → Option AV
  | .bool b => match op with | .not => some (.bool (!b)) | _ => none
  | .int k n => match op with
    | .neg => aarith .sub k 0 n
    | .xor => aarith .xor k (if k.signed then -1 else k.max) n
    | _ => none
  | _ => none

def alen (l : Lay) : AV → Option Nat
  | .str s => if l.kind = .string then some s.length else none
  | .dsl xs => if l.kind = .slice then some xs.length else none
  | .nils => if l.kind = .slice then some 0 else none
  | .lsl _ _ n _ _ => if l.kind = .slice then some n else none
  | .agg _ | .ptr _ _ | .addr _ _ => if l.kind = .array then some l.n else none
  | _ => none

def aidx (i : Int) (n : Nat) : Option Nat := if 0 ≤ i ∧ i < n then some i.toNat else none
/-- a slice's bound -/
def abnd (i : Int) (n : Nat) : Option Nat := if 0 ≤ i ∧ i ≤ n then some i.toNat else none

def optInt : Option AV → Option (Option Int)
  | none => some none
  | some (.int _ n) => some (some n)
  | _ => none

def aindexAddr (l : Lay) (x : AV) (i : Int) : Option AV :=
  match x with
  | .dsl xs => if l.kind = .slice then (aidx i xs.length).bnd fun k => (xs[k]?).bnd fun v => v.cells.bnd fun c => if c.length = l.es then some (.addr c 0) else none else none
  | .lsl id off n _ es => if l.kind = .slice ∧ es = l.es then (aidx i n).mpd fun k => .ptr id (off + k * l.es) else none
  | .ptr id off => if l.kind = .array then (aidx i l.n).mpd fun k => .ptr id (off + k * l.es) else none
  | .addr c off => if l.kind = .array then (aidx i l.n).mpd fun k => .addr c (off + k * l.es) else none
  | _ => none

/-- the cells of all elements -/
def cellsOf (es : Nat) (xs : List AV) : List AV := match es with
  | 1 => xs
  | _ => xs.flatMap fun v => v.cells.getD []

/-- low and high bound of a slice of length n and capacity m -/
def abnds (lo hi : Option Int) (n m : Nat) : Option (Nat × Nat) :=
  (match hi with | none => some n | some i => abnd i m).bnd fun h => (match lo with | none => some 0 | some i => abnd i h).mpd fun l => (l, h)

/-- What an operation comes to: its value, the blocks that it looked at, those that it leaves otherwise, new ones. -/
structure Eff where
  v : AV
  rd : List Nat := []
  wr : List (Nat × Option Blk) := []
  new : List (Option Blk) := []

def Eff.of (v : AV) : Option Eff := some { v := v }

def aslice (h : Heap) (l : Lay) (x : AV) (lo hi : Option Int) : Option Eff :=
  match x with
  | .str s => if l.kind = .string then (abnds lo hi s.length s.length).mpd fun r => { v := .str ((s.take r.2).drop r.1) } else none
  | .dsl xs => if l.kind = .slice ∧ esOK l.es xs then (abnds lo hi xs.length xs.length).mpd fun r => { v := .dsl ((xs.take r.2).drop r.1) } else none
  | .nils => if l.kind = .slice then (abnds lo hi 0 0).mpd fun _ => { v := .nils } else none
  | .lsl id off n cap es => if l.kind = .slice ∧ es = l.es then (abnds lo hi n (cap.getD n)).mpd fun r => { v := .lsl id (off + r.1 * es) (r.2 - r.1) (cap.map (· - r.1)) es } else none
  | .ptr id off => (hget h id).bnd fun b => if l.kind = .array ∧ l.es ≠ 0 ∧ l.n ≠ 0 ∧ off + l.n * l.es ≤ b.c.length then (abnds lo hi l.n l.n).mpd fun r => { v := .lsl id (off + r.1 * l.es) (r.2 - r.1) (some (l.n - r.1)) l.es, rd := [id] } else none
  | _ => none

def fillc (place : Nat → Option (Nat × Nat)) (c : List AV) : List (Nat × AV) → Option (List AV)
  | [] => some c
  | (i, v) :: r => (place i).bnd fun (off, size) => v.cells.bnd fun vc => if vc.length = size then (putr c off vc).bnd fun c' => fillc place c' r else none

/-- the cells of an appended or copied source: at most n elements; and the blocks looked at -/
def srcCells (h : Heap) (es : Nat) (x : AV) : Option (List AV × List Nat) :=
  match x with
  | .str s => if es = 1 then some (s.map u8, []) else none
  | .nils => some ([], [])
  | .dsl xs => if esOK es xs then some (cellsOf es xs, []) else none
  | .lsl j o m _ es' => if es' = es then (hget h j).bnd fun b => (getr b.c o (m * es)).bnd fun c => match b.leaf with
      | true => some (c, [j])
      | false => none else none
  | _ => none

/-- may it be appended to such a slice? -/
def appOK (l lx : Lay) (z : Option AV) : Bool :=
  decide (l.kind = .slice) && decide (l.es ≠ 0) && decide (l.eb ≠ 0) && (decide (lx.kind = .slice) || decide (lx.kind = .string)) && z.any fun z => z.cells.any fun c => c.length == l.es

/-- the tag of a new variable: its type, if it looks like a Builder -/
def tagA (z : Option AV) (T : TypeId) : Option TypeId := match z with
  | some (.agg [.nilp, .nils]) => some T
  | _ => none
/-- the tag of an appended row of bytes -/
def tagS (eb : Nat) (et : TypeId) : Option TypeId := match eb with
  | 1 => some et
  | _ => none
def keepT (et : TypeId) : Option TypeId → Option TypeId
  | some T => if T = et then some T else none
  | none => none

/-- a new block behind an append -/
def freshE (base es eb : Nat) (ty : Option TypeId) (c old : List AV) (n : Nat) (rd : List Nat) (wr : List (Nat × Option Blk)) : Option Eff :=
  ckR (decide ((n + c.length / es) * eb ≤ 140737488355328)) <| some { v := .lsl base 0 (n + c.length / es) none es, rd := rd, wr := wr, new := [some ⟨old ++ c, true, true, ty⟩] }

def aappend (h : Heap) (base : Nat) (es eb et : Nat) (s x : AV) : Option Eff :=
  (srcCells h es x).bnd fun (c, rd) =>
    match s with
    | .nils => br c.isEmpty (some { v := .nils, rd := rd }) (freshE base es eb (tagS eb et) c [] 0 rd [])
    | .lsl i o n cap es' => if es' = es then (hget h i).bnd fun b =>
        match b.leaf with
        | true => match cap with
          | some cap => br (decide (n + c.length / es ≤ cap))
              ((putr b.c (o + n * es) c).bnd fun c' => some { v := .lsl i o (n + c.length / es) (some cap) es, rd := i :: rd, wr := [(i, some { b with c := c' })] })
              (match rd.contains i with
              | true => none
              | false => (getr b.c o (n * es)).bnd fun old => freshE base es eb (keepT et b.ty) c old n (i :: rd) [])
          | none => match b.op && (o == 0) && (b.c.length == n * es) && !(rd.contains i) with
            | true => freshE base es eb (keepT et b.ty) c b.c n (i :: rd) [(i, none)]
            | false => none
        | false => none else none
    | _ => none

def acopy (h : Heap) (es : Nat) (d s : AV) : Option Eff :=
  match d with
  | .lsl i o n _ es' => if es' = es then (srcCells h es s).bnd fun (c, rd) => (hget h i).bnd fun b =>
      let m := min (c.length / es) n
      match b.leaf || (refs (c.take (m * es))).isEmpty with
      | true => (putr b.c o (c.take (m * es))).bnd fun c' => some { v := .int .i64 m, rd := i :: rd, wr := [(i, some { b with c := c' })] }
      | false => none else none
  | .nils => (srcCells h es s).bnd fun (_, rd) => some { v := .int .i64 0, rd := rd }
  | _ => none

def bytesOf : List AV → Option (List UInt8)
  | [] => some []
  | .int .u8 n :: r => (bytesOf r).mpd fun l => UInt8.ofNat n.toNat :: l
  | _ => none

def aconv (P : Program) (h : Heap) (base : Nat) (src dst : TypeId) (x : AV) : Option Eff :=
  match x with
  | .int _ n => match P.underlying src, P.underlying dst with
    | some _, some (.int k) => Eff.of (.int k (k.wrap n))
    | _, _ => none
  | .str s => match P.underlying src, P.underlying dst with
    | some .string, some .string => Eff.of (.str s)
    | some .string, some (.slice e) => match P.underlying e with
      | some (.int .u8) => if (P.info? e).any (·.size == 1) then br s.isEmpty (Eff.of (.dsl [])) (some { v := .lsl base 0 s.length none 1, new := [some ⟨s.map u8, true, true, none⟩] }) else none
      | _ => none
    | _, _ => none
  | .dsl xs => match P.underlying src, P.underlying dst with
    | some (.slice e), some .string => match P.underlying e with
      | some (.int .u8) => (bytesOf xs).bnd fun l => Eff.of (.str l)
      | _ => none
    | _, _ => none
  | .nils => match P.underlying src, P.underlying dst with
    | some (.slice e), some .string => match P.underlying e with
      | some (.int .u8) => Eff.of (.str [])
      | _ => none
    | _, _ => none
  | .lsl i o n _ es => match P.underlying src, P.underlying dst with
    | some (.slice e), some .string => match P.underlying e with
      | some (.int .u8) => if es = 1 then (hget h i).bnd fun b => (getr b.c o n).bnd fun c => (bytesOf c).bnd fun l => some { v := .str l, rd := [i] } else none
      | _ => none
    | _, _ => none
  | _ => none

/-- cells that may be laid into a block: into a leaf none that points to a live block -/
def fits (leaf : Bool) (c : List AV) : Bool := !leaf || (refs c).isEmpty

def isLeaf (c : List AV) : Bool := (refs c).isEmpty

/-- so many times -/
def repc (n : Nat) (zc : List AV) : List AV := match zc with
  | [v] => List.replicate n v
  | _ => (List.replicate n zc).flatten

/-- An operation that calls no function of Go. -/
def eff (P : Program) (o : Oper) (t : Fr) (h : Heap) (base : Nat) : Option Eff :=
  match o.op with
  | .move x | .assign x => Eff.of (opv t x)
  | .pick c a b => match opv t c with
    | .bool true => Eff.of (opv t a)
    | .bool false => Eff.of (opv t b)
    | _ => none
  | .alloc T => (lay P T).zero.bnd fun z => z.cells.bnd fun c => some { v := .ptr base 0, new := [some ⟨c, false, false, tagA (lay P T).zero T⟩] }
  | .box _ x => (opv t x).cells.bnd fun c => some { v := .ptr base 0, new := [some ⟨c, false, false, none⟩] }
  | .nilCheck x => match opv t x with
    | .ptr i o => Eff.of (.ptr i o)
    | .addr c o => Eff.of (.addr c o)
    | _ => none
  | .fieldAddr S x f => ((lay P S).offs[f]?).bnd fun d => match d.2.1 with
    | 0 => none
    | _ + 1 => match opv t x with
      | .ptr i o => Eff.of (.ptr i (o + d.1))
      | .addr c o => Eff.of (.addr c (o + d.1))
      | _ => none
  | .load T a => match opv t a with
    | .ptr i o => (hget h i).bnd fun b => (ldc (lay P T) b.c o).bnd fun v => some { v := v, rd := [i] }
    | .addr c o => (ldc (lay P T) c o).bnd Eff.of
    | _ => none
  | .store T a x => match opv t a with
    | .ptr i o => (hget h i).bnd fun b => (opv t x).cells.bnd fun vc =>
        match fits b.leaf vc with
        | true => if vc.length = (lay P T).size ∧ vc.length ≠ 0 then (putr b.c o vc).bnd fun c => some { v := .top, rd := [i], wr := [(i, some { b with c := c })] } else none
        | false => none
    | _ => none
  | .build T ps => (lay P T).zero.bnd fun z => z.cells.bnd fun zc => match (lay P T).kind with
    | .struct => (fillc (fun i => ((lay P T).offs[i]?).map fun d => (d.1, d.2.1)) zc (ps.toList.map fun p => (p.1, opv t p.2))).bnd fun c => Eff.of (.agg c)
    | .array => (fillc (fun i => some (i * (lay P T).es, (lay P T).es)) zc (ps.toList.map fun p => (p.1, opv t p.2))).bnd fun c => Eff.of (.agg c)
    | _ => none
  | .buildSlice T n ps => match (lay P T).kind with
    | .slice => match (lay P T).es with
      | 0 => none
      | es => ((lay P (lay P T).et).zero.bnd fun z => z.cells.bnd fun zc => if zc.length ≠ 0 ∧ n * es ≤ 16777216 then (fillc (fun i => some (i * es, es)) (List.replicate (n * es) .top) (ps.toList.map fun p => (p.1, opv t p.2))).bnd fun c =>
          some { v := .lsl base 0 n (some n) es, new := [some ⟨c, false, isLeaf c, none⟩] } else none)
    | _ => none
  | .makeSlice T l c => match opv t l, opv t c with
    | .int .i64 l, .int .i64 c => match (lay P T).kind with
      | .slice => (lay P (lay P T).et).zero.bnd fun z => z.cells.bnd fun zc =>
        if 0 ≤ l ∧ l ≤ c ∧ c * (lay P T).eb ≤ 140737488355328 ∧ c ≤ 140737488355328 ∧ zc.length = (lay P T).es ∧ 0 < zc.length then
          some { v := .lsl base 0 l.toNat (some c.toNat) (lay P T).es, new := [some ⟨repc c.toNat zc, false, isLeaf zc, none⟩] }
        else none
      | _ => none
    | _, _ => none
  | .extract x i => match opv t x with
    | .tup vs => (vs[i]?).bnd Eff.of
    | _ => none
  | .field S x f => match opv t x with
    | .agg c => ((lay P S).offs[f]?).bnd fun d => (ldc (lay P d.2.2) c d.1).bnd Eff.of
    | _ => none
  | .index S x i => match opv t x, opv t i with
    | .str s, .int _ i => if (lay P S).kind = .string then (aidx i s.length).bnd fun k => (s[k]?).bnd fun b => Eff.of (u8 b) else none
    | .agg c, .int _ i => if (lay P S).kind = .array then (aidx i (lay P S).n).bnd fun k => (ldc (lay P (lay P S).et) c (k * (lay P S).es)).bnd Eff.of else none
    | _, _ => none
  | .indexAddr S x i => match opv t i with
    | .int _ i => (aindexAddr (lay P S) (opv t x) i).bnd Eff.of
    | _ => none
  | .binOp op T x y _ => (abin (lay P T) op (opv t x) (opv t y)).bnd Eff.of
  | .unOp op _ x => (aun op (opv t x)).bnd Eff.of
  | .convert src dst x => aconv P h base src dst (opv t x)
  | .slice S x lo hi none => (optInt (lo.map (opv t))).bnd fun lo => (optInt (hi.map (opv t))).bnd fun hi => aslice h (lay P S) (opv t x) lo hi
  | .call c => match c.callee with
    | .builtin .len => match c.args.toList with
      | [x] => match c.argTypes.toList with
        | [T] => (alen (lay P T) (opv t x)).bnd fun n => Eff.of (.int .i64 n)
        | _ => none
      | _ => none
    | .builtin .append => match c.args.toList with
      | [s, x] => match c.argTypes.toList with
        | [T, U] => match appOK (lay P T) (lay P U) (lay P (lay P T).et).zero with
          | true => aappend h base (lay P T).es (lay P T).eb (lay P T).et (opv t s) (opv t x)
          | false => none
        | _ => none
      | _ => none
    | .builtin .copy => match c.args.toList with
      | [d, s] => match c.argTypes.toList with
        | [T, U] => match appOK (lay P T) (lay P U) (lay P (lay P T).et).zero with
          | true => acopy h (lay P T).es (opv t d) (opv t s)
          | false => none
        | _ => none
      | _ => none
    | .builtin .max => match c.args.toList.map (opv t) with
      | [.int k a, .int j b] => if k = j then Eff.of (.int k (if a < b then b else a)) else none
      | _ => none
    | .builtin .min => match c.args.toList.map (opv t) with
      | [.int k a, .int j b] => if k = j then Eff.of (.int k (if b < a then b else a)) else none
      | _ => none
    | _ => none
  | _ => none

/-- How a function takes its arguments (true: live) and gives its results. -/
structure Mode where
  live : List Bool
  res : Bool

/-- What is known of the program's functions besides their code: their modes, those that are given by what they compute, and the slots that a loop keeps (function, enclosing block). -/
structure Ctx where
  P : Program
  mode : FuncId → Mode
  prim : FuncId → Option (List AV → Heap → Res)
  keep : FuncId → Nat → List Nat

/-- the arguments as the callee takes them; and the blocks that are lent for reading -/
def lend (h : Heap) : List Bool → List AV → Option (List AV × List Nat)
  | _, [] => some ([], [])
  | true :: m, v :: r => (lend h m r).bnd fun a => some (v :: a.1, a.2)
  | m, v :: r => (deep h v).bnd fun d => (lend h m.tail r).bnd fun a => some (d.1 :: a.1, d.2 ++ a.2)

structure Prep where
  args : List AV
  heap : Heap
  ids : List Nat
  lent : List Nat

def fuelR (h : Heap) : Nat := 4 * h.length + 40

def prep (m : Mode) (args : List AV) (h : Heap) : Option Prep :=
  (lend h m.live args).bnd fun a =>
    let ids := reach h (fuelR h) (a.1.flatMap AV.refs) []
    match a.2.any ids.contains with
    | true => none
    | false => some { args := a.1.map (AV.ren (idx ids)), heap := ids.map fun i => (hget h i).map (Blk.ren (idx ids)), ids := ids, lent := a.2 }

/-- the callee's numbers as the caller's -/
def backId (ids : List Nat) (base : Nat) (i : Nat) : Option Nat :=
  match ids[i]? with
  | some j => some j
  | none => some (base + (i - ids.length))

def zipWr : List Nat → Heap → List (Nat × Option Blk)
  | i :: r, b :: h => (i, b) :: zipWr r h
  | _, _ => []

def back (p : Prep) (base : Nat) (r : AV × Heap) : Option Eff :=
  match decide (p.ids.length ≤ r.2.length) with
  | false => none
  | true =>
    let hh := r.2.map fun b => b.map (Blk.ren (backId p.ids base))
    let kill := match p.lent with
      | [] => []
      | l => match r.1.hasD || r.2.any (fun b => b.any fun b => b.c.any AV.isD) with
        | true => l.map fun i => (i, (none : Option Blk))
        | false => []
    some { v := r.1.ren (backId p.ids base), rd := p.ids ++ p.lent, wr := zipWr p.ids hh ++ kill, new := hh.drop p.ids.length }

section
variable (cx : Ctx) (call : FuncId → List AV → Heap → Res)

/-- An own slice of what names own slices is made one of what is only read; these are gone. -/
def frz (h : Heap) (e : Eff) : Eff :=
  match e.new, e.rd, e.wr with
  | [some ⟨c, false, _, none⟩], [], [] => match deepL h 4 c with
    | some r => { v := e.v, rd := r.2, wr := r.2.map fun i => (i, none), new := [some ⟨r.1, false, true, none⟩] }
    | none => e
  | _, _, _ => e

/-- An operation: the functions by 'call'. -/
def exec (o : Oper) (t : Fr) (h : Heap) (base : Nat) : Option Eff :=
  match o.op with
  | .call { callee := .value (.func f), args, .. } =>
    bindR (prep (cx.mode f) (args.toList.map (opv t)) h) fun p => bindR (call f p.args p.heap) fun r => back p base r
  | .buildSlice _ _ _ => (eff cx.P o t h base).map (frz h)
  | _ => eff cx.P o t h base

def sett (t : Fr) : Option Tmp → AV → Fr
  | some d, v => (d, v) :: t
  | none, _ => t

def puth (h : Heap) : List (Nat × Option Blk) → Heap
  | [] => h
  | (i, b) :: r => puth (h.set i b) r

/-- the slots of the operations that are done, the newest first -/
def sets (ds : List (Nat × Tmp)) (n : Nat) : Option Tmp → List (Nat × Tmp)
  | some d => (n, d) :: ds
  | none => ds

def lookT : List (Nat × Tmp) → Nat → Option Tmp
  | [], _ => none
  | (i, d) :: r, j => if i = j then some d else lookT r j

/-- Operation by operation; what each looked at is handed on. -/
def runOps {α : Type} (n : Nat) (ds : List (Nat × Tmp)) : (os : List Oper) → Fr → Heap → List (Eff × Nat) → (K : Fr → Heap → List (Eff × Nat) → Option α) → (_ : Tg os := {}) → (_ : Tg K := {}) → Option α
  | [], t, h, lg, K, _, _ => K t h lg
  | o :: os, t, h, lg, K, _, _ =>
    match o.guard with
    | none => bindR (exec cx call o t h h.length) fun r => runOps (n + 1) (sets ds n o.dst) os (sett t o.dst r.v) (puth h r.wr ++ r.new) ((r, h.length) :: lg) K
    | some (j, want) => match lookT ds j with
      | some g => match t.get g with
        | .bool b => br (b == want)
            (bindR (exec cx call o ((g, .bool want) :: t) h h.length) fun r => runOps (n + 1) (sets ds n o.dst) os (sett ((g, .bool want) :: t) o.dst r.v) (puth h r.wr ++ r.new) ((r, h.length) :: lg) K)
            (runOps (n + 1) (sets ds n o.dst) os (sett ((g, .bool (!want)) :: t) o.dst (.tup [])) h (({ v := .tup [] }, h.length) :: lg) K)
        | .tup [] => runOps (n + 1) (sets ds n o.dst) os (sett ((g, .tup []) :: t) o.dst (.tup [])) h (({ v := .tup [] }, h.length) :: lg) K
        | _ => none
      | none => none

end

/-- the operations that must come ahead of each -/
def ahead (ops : List Oper) : List (List Nat) :=
  ops.foldl (fun acc o => acc ++ [o.after.toList.foldl (fun s e => if Region.binds .any e then (e.on :: (acc.getD e.on []) ++ s).eraseDups else s) []]) []

def Oper.looks (ds : List (Option Tmp)) (o : Oper) : List Tmp :=
  (o.op.operands.toList.filterMap fun | .tmp t => some t | _ => none) ++
  (match o.guard with | some (g, _) => ((ds[g]?).getD none).toList | none => [])

/-- what an operation of a region looks at and leaves -/
structure Foot where
  rd : List Nat
  wr : List Nat

def Foot.of (e : Eff × Nat) : Foot := ⟨e.1.rd, e.1.wr.map (·.1) ++ (List.range e.1.new.length).map (e.2 + ·)⟩

/-- may the two change places? -/
def apart (ds : List (Option Tmp)) (o p : Oper) (a b : Foot) : Bool :=
  (match o.dst with | some d => !(Oper.looks ds p).contains d && p.dst != some d | none => true) &&
  (match p.dst with | some d => !(Oper.looks ds o).contains d | none => true) &&
  a.wr.all (fun i => !b.rd.contains i) && b.wr.all (fun i => !a.rd.contains i)

/-- whatever isn't ordered may change places -/
def regOK (ops : List Oper) (lg : List (Eff × Nat)) : Bool :=
  let ds := ops.map (·.dst)
  let ah := ahead ops
  let lg := lg.reverse
  (List.range ops.length).all fun j => ((ops[j]?).any fun o => o.after.toList.all fun e => !Region.binds .any e || decide (e.on < j)) && (List.range j).all fun i =>
    ((ah[j]?).getD []).contains i ||
    (match ops[i]?, ops[j]?, lg[i]?, lg[j]? with
     | some o, some p, some a, some b => apart ds o p (.of a) (.of b)
     | _, _, _, _ => false)

/-- what the first n blocks point to -/
def firstRefs (h : Heap) (n : Nat) : List Nat :=
  (List.range n).flatMap fun i => match hget h i with
    | some b => b.refs
    | none => []

/-- the kept slots, and the blocks that they and the first n ones reach, in a new order behind the first n ones -/
def canon (n : Nat) (keep : List Nat) (t : Fr) (h : Heap) : Fr × Heap :=
  let vs := keep.map t.get
  let ids := reach h (fuelR h) (firstRefs h n ++ vs.flatMap AV.refs) (List.range n)
  (keep.zip (vs.map (AV.ren (idx ids))), ids.map fun i => (hget h i).map (Blk.ren (idx ids)))

abbrev Kont := Exit → Fr → Heap → Option (AV × Heap)

section
variable (cx : Ctx) (f : FuncId) (call : FuncId → List AV → Heap → Res) (loop : (Fr → Heap → Kont → Option (AV × Heap)) → Nat → List Nat → Fr → Heap → Kont → Option (AV × Heap)) (n0 : Nat)

def Kont.seq (next : Fr → Heap → Option (AV × Heap)) (K : Kont) : Kont := fun e t h => match e with | .normal => next t h | e => K e t h
def Kont.block (id : Nat) (K : Kont) : Kont := fun e t h => match e with | .exit j => if j = id then K .normal t h else K (.exit j) t h | e => K e t h

def code (blk : Nat) : (c : Code) → Fr → Heap → (K : Kont) → (_ : Tg c := {}) → (_ : Tg K := {}) → Option (AV × Heap)
  | .skip, t, h, K, _, _ => K .normal t h
  | .region _ ops false, t, h, K, _, _ => runOps cx call 0 [] ops.toList t h [] fun t h _ => K .normal t h
  | .region _ ops true, t, h, K, _, _ => runOps cx call 0 [] ops.toList t h [] fun t h lg => ckR (regOK ops.toList lg) (K .normal t h)
  | .seq a b, t, h, K, _, _ => code blk a t h (K.seq fun t h => code blk b t h K)
  | .cond c a b, t, h, K, _, _ => match opv t c with
    | .bool v => br v (code blk a t h K) (code blk b t h K)
    | _ => none
  | .block id c, t, h, K, _, _ => code id c t h (K.block id)
  | .loop c, t, h, K, _, _ => loop (fun t h K => code blk c t h K) n0 (cx.keep f blk) t h K
  | .exit id, t, h, K, _, _ => K (.exit id) t h
  | .ret, t, h, K, _, _ => K .ret t h
  | _, _, _, _, _, _ => none

/-- the results of a function -/
def results1 (t : Fr) (h : Heap) : ResultVar → Option AV
  | .tmp i => match t.get i with | .tup _ => none | v => some v
  | .cell a T => match t.get a with
    | .ptr i o => (hget h i).bnd fun b => ldc (lay cx.P T) b.c o
    | _ => none

def killAll (h : Heap) : List Nat → Heap
  | [] => h
  | i :: r => killAll (h.set i none) r

/-- one result, or some -/
def oneOf : List AV → AV
  | [v] => v
  | vs => .tup vs

def finish (n : Nat) (rs : List ResultVar) (t : Fr) (h : Heap) : Res :=
  (mapO (results1 cx t h) rs).bnd fun vs =>
    let v := oneOf vs
    (match (cx.mode f).res with
      | true => some (v, h)
      | false => (deep h v).bnd fun d => some (d.1, killAll h d.2)).bnd fun r =>
    let ids := reach r.2 (fuelR r.2) (firstRefs r.2 n ++ r.1.refs) (List.range n)
    some (r.1.ren (idx ids), ids.map fun i => (hget r.2 i).map (Blk.ren (idx ids)))

def frame0 (args : List AV) : Fr := (List.range args.length).zip args

/-- what stands behind a body -/
def fin (n : Nat) (rs : List ResultVar) : Kont := fun e t h => match e with
  | .normal | .ret => finish cx f n rs t h
  | _ => none

def body (args : List AV) (h : Heap) : Res :=
  match cx.prim f with
  | some g => g args h
  | none => match cx.P.funcs[f]? with
    | none => none
    | some fn => match fn.body with
      | none => none
      | some c => code cx f call loop h.length 0 c (frame0 args) h (fin cx f h.length fn.results.toList)

theorem body_of {fn : Func} {c : Code} (hp : cx.prim f = none) (hf : cx.P.funcs[f]? = some fn) (hb : fn.body = some c) (args : List AV) (h : Heap) :
    body cx f call loop args h = code cx f call loop h.length 0 c (frame0 args) h (fin cx f h.length fn.results.toList) := by
  simp only [body, hp, hf, hb]
end

/-- a loop of at most n rounds -/
def loopN : Nat → (Fr → Heap → Kont → Option (AV × Heap)) → Nat → List Nat → Fr → Heap → Kont → Option (AV × Heap)
  | 0, _, _, _, _, _, _ => none
  | n + 1, F, n0, keep, t, h, K => bindR (some (canon n0 keep t h)) fun s => F s.1 s.2 (K.seq fun t h => loopN n F n0 keep t h K)

/-- calls, to depth n -/
def callN (cx : Ctx) : Nat → FuncId → List AV → Heap → Res
  | 0, _, _, _ => none
  | n + 1, f, args, h => body cx f (callN cx n) (loopN n) args h

end Sh
