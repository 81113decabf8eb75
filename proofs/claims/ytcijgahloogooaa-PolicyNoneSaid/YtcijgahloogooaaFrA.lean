/- The frame, part A: an abstract evaluator for loaded Go functions over trees and owned blocks. Definitions alone. -/
import Derived.Calls
namespace Go.Proofs.Sg

/-! ### Data -/
/-- One cell of data that has no address: a plain value, a slice that nobody writes, a function with captured variables that nobody writes. -/
inductive T where
  | v (x : Value)
  | sl (n : Nat) (cs : List T)
  | fn (f : Nat) (caps : List T)
  deriving Inhabited

/-- One cell. -/
inductive C where
  | t (x : T)
  | ptr (id off : Nat)
  | own (id e off len : Nat)
  | tp (cs : List T)
  | clo (f : Nat) (caps : List (Nat × Nat))
  | mp (id : Nat)
  | any
  deriving Inhabited

/-- What a temporary holds. -/
inductive V where
  | c (x : C)
  | agg (cs : List C)
  | tup (vs : List (Bool × List C))
  deriving Inhabited

abbrev V.p (x : Value) : V := .c (.t (.v x))
abbrev C.p (x : Value) : C := .t (.v x)
abbrev V.int (k : IntKind) (n : Int) : V := .c (.t (.v (.int k n)))
abbrev V.bool (b : Bool) : V := .c (.t (.v (.bool b)))

/-- A block. -/
inductive Blk where
  | box (cs : List C)
  | arr (e : Nat) (cs : List T)
  | frz (cs : List T)
  | map (ka va : Bool) (es : List (List T × List T))
  | gone
  deriving Inhabited

/-! ### A tree of numbered things -/
inductive Tr (α : Type) where
  | leaf
  | node (x : Option α) (l r : Tr α)
  deriving Inhabited

def Tr.get {α : Type} : Tr α → Nat → Option α
  | .leaf, _ => none
  | .node x l r, i => if i = 0 then x else if i % 2 = 1 then Tr.get l (i / 2) else Tr.get r ((i - 1) / 2)

def Tr.setF {α : Type} : Nat → Tr α → Nat → α → Tr α
  | 0, t, _, _ => t
  | f + 1, .leaf, i, a => if i = 0 then .node (some a) .leaf .leaf else if i % 2 = 1 then .node none (Tr.setF f .leaf (i / 2) a) .leaf else .node none .leaf (Tr.setF f .leaf ((i - 1) / 2) a)
  | f + 1, .node x l r, i, a => if i = 0 then .node (some a) l r else if i % 2 = 1 then .node x (Tr.setF f l (i / 2) a) r else .node x l (Tr.setF f r ((i - 1) / 2) a)

def Tr.set {α : Type} (t : Tr α) (i : Nat) (a : α) : Tr α := Tr.setF (i + 1) t i a

/-! ### Slim code -/
inductive Opd where
  | t (i : Nat)
  | k (x : Value)
  | f (f : Nat)

inductive Cv where
  | int (k : IntKind)
  | str
  | same

inductive Ins where
  | mov (x : Opd)
  | pick (c a b : Opd)
  | alloc (z : List Value)
  | box (x : Opd)
  | build (z : List Value) (ps : List (Nat × Nat × Opd))
  | bsl (e : Nat) (z : List Value) (n : Nat) (ps : List (Nat × Opd))
  | load (n : Nat) (agg : Bool) (x : Opd)
  | store (n : Nat) (x y : Opd)
  | bin (o : BinOp) (x y : Opd)
  | beq (neg : Bool) (x y : Opd)
  | nileq (ptr neg : Bool) (x y : Opd)
  | eqs (n : Nat) (neg : Bool) (x y : Opd)
  | un (o : UnOp) (x : Opd)
  | conv (c : Cv) (x : Opd)
  | mkfn (f : Nat) (caps : List Opd)
  | mkmap (ka va : Bool)
  | mksl (e bytes : Nat) (z : List Value) (l c : Opd)
  | slc (e : Nat) (x : Opd) (lo hi : Option Opd)
  | fld (off : Nat) (x : Opd)
  | getf (off n : Nat) (agg : Bool) (x : Opd)
  | idx (e : Nat) (x i : Opd)
  | idxA (len e : Nat) (x i : Opd)
  | at_ (len e : Nat) (agg : Bool) (x i : Opd)
  | ats (x i : Opd)
  | ext (x : Opd) (i : Nat)
  | len (str : Bool) (x : Opd)
  | app (e bytes : Nat) (x y : Opd)
  | copy (e : Nat) (x y : Opd)
  | clear (e : Nat) (z : List Value) (x : Opd)
  | mlen (x : Opd)
  | look (kn : Nat) (z : List Value) (ok : Bool) (m k : Opd)
  | upd (kn vn : Nat) (m k v : Opd)
  | del (kn : Nat) (m k : Opd)
  | call (f : Nat) (xs : List Opd)
  | callv (x : Opd) (xs : List Opd)
  | mm (mx : Bool) (x y : Opd)
  | nilc (x : Opd)

structure Op1 where
  dst : Option Nat
  ins : Ins
  guard : Option (Nat × Bool) := none     -- a slot

inductive SC where
  | skip
  | reg (ops : List Op1)
  | drw (ops : List (Op1 × List Nat × Bool))
  | seq (a b : SC)
  | cond (x : Opd) (a b : SC)
  | block (id : Nat) (c : SC)
  | loop (c : SC)
  | exit (id : Nat)
  | ret

inductive Rs where
  | tmp (t : Nat)
  | cell (t n : Nat) (agg : Bool)

structure SFn where
  np : Nat
  res : List Rs
  body : SC

inductive Ex where
  | norm
  | exit (id : Nat)
  | ret

/-! ### Plain operations -/
def bin1 (o : BinOp) : Value → Value → Option Value
  | .int k a, .int k' b =>
    match o with
    | .shl => if b < 0 then none else some (.int k (k.wrap (a * 2 ^ (min b.toNat k.bits))))
    | .shr => if b < 0 then none else some (.int k (a.fdiv (2 ^ (min b.toNat k.bits))))
    | _ =>
      if k = k' then
        match o with
        | .add => some (.int k (k.wrap (a + b)))
        | .sub => some (.int k (k.wrap (a - b)))
        | .mul => some (.int k (k.wrap (a * b)))
        | .quo => if b = 0 then none else some (.int k (k.wrap (a.tdiv b)))
        | .rem => if b = 0 then none else some (.int k (a.tmod b))
        | .and => some (.int k (k.wrap ((BitVec.ofInt k.bits a &&& BitVec.ofInt k.bits b).toNat)))
        | .or => some (.int k (k.wrap ((BitVec.ofInt k.bits a ||| BitVec.ofInt k.bits b).toNat)))
        | .xor => some (.int k (k.wrap ((BitVec.ofInt k.bits a ^^^ BitVec.ofInt k.bits b).toNat)))
        | .andNot => some (.int k (k.wrap ((BitVec.ofInt k.bits a &&& ~~~ BitVec.ofInt k.bits b).toNat)))
        | .eql => some (.bool (a == b))
        | .neq => some (.bool (a != b))
        | .lss => some (.bool (a < b))
        | .leq => some (.bool (a ≤ b))
        | .gtr => some (.bool (a > b))
        | .geq => some (.bool (a ≥ b))
        | _ => none
      else none
  | .string a, .string b =>
    match o with
    | .eql => some (.bool (a.toList == b.toList))
    | .neq => some (.bool (!(a.toList == b.toList)))
    | _ => none
  | _, _ => none

def un1 (o : UnOp) : Value → Option Value
  | .int k n =>
    match o with
    | .neg => some (.int k (k.wrap (0 - n)))
    | .xor => some (.int k (k.wrap ((BitVec.ofInt k.bits (if k.signed then -1 else k.max) ^^^ BitVec.ofInt k.bits n).toNat)))
    | _ => none
  | .bool b => match o with
    | .not => some (.bool (!b))
    | _ => none
  | _ => none

/-- Is a value one that a tree's cell may hold: no address in it, and of one cell? -/
def plain : Value → Bool
  | .bool _ | .int _ _ | .float _ _ | .string _ | .nilFunc | .nilIface | .pointer none | .map none | .slice none 0 0 => true
  | _ => false

/-- Are two plain keys the same? -/
def eqv : Value → Value → Option Bool
  | .int k a, .int k' b => if k = k' then some (a == b) else none
  | .bool a, .bool b => some (a == b)
  | .string a, .string b => some (a.toList == b.toList)
  | _, _ => none

def eqT : List T → List T → Option Bool
  | [], [] => some true
  | .v a :: as, .v b :: bs =>
    match eqv a b with
    | none => none
    | some false => some false
    | some true => eqT as bs
  | _, _ => none

abbrev Look := Nat → Option Blk

/-- The cells of a slice's array, and which block was no tree yet. -/
def arrOf (lk : Look) (id : Nat) : Option (List T × Bool) :=
  match lk id with
  | some (.frz cs) => some (cs, false)
  | some (.arr _ cs) => some (cs, true)
  | _ => none

/-- A cell as a tree; the blocks that it leads to and that are no trees yet. -/
def toT (lk : Look) : C → Option (T × List (Nat × Blk))
  | .t x => some (x, [])
  | .own id e off len =>
    match arrOf lk id with
    | some (cs, b) => if off + len * e ≤ cs.length then some (.sl len ((cs.drop off).take (len * e)), if b then [(id, .frz cs)] else []) else none
    | none => none
  | .clo f caps =>
    match caps with
    | [(id, 0)] =>
      match lk id with
      | some (.box [.t x]) => some (.fn f [x], [(id, .frz [x])])
      | some (.frz [x]) => some (.fn f [x], [])
      | _ => none
    | _ => none
  | _ => none

def toTs (lk : Look) : List C → Option (List T × List (Nat × Blk))
  | [] => some ([], [])
  | c :: cs =>
    match toT lk c with
    | none => none
    | some (x, u) =>
      match toTs lk cs with
      | none => none
      | some (xs, us) => some (x :: xs, u ++ us)

/-- A whole value as trees. -/
def toV (lk : Look) : V → Option (V × List (Nat × Blk))
  | .c x => match toT lk x with
    | some (t, u) => some (.c (.t t), u)
    | none => none
  | .agg cs => match toTs lk cs with
    | some (ts, u) => some (.agg (ts.map .t), u)
    | none => none
  | .tup _ => none

def toVs (lk : Look) : List V → Option (List V × List (Nat × Blk))
  | [] => some ([], [])
  | c :: cs =>
    match toV lk c with
    | none => none
    | some (x, u) =>
      match toVs lk cs with
      | none => none
      | some (xs, us) => some (x :: xs, u ++ us)

/-- Has a result no slice in it? -/
def T.scalar : T → Bool
  | .v _ => true
  | _ => false
def C.scalar : C → Bool
  | .t x => x.scalar
  | _ => false
def V.scalar : V → Bool
  | .c x => x.scalar
  | .agg cs => cs.all C.scalar
  | .tup vs => vs.all fun v => v.2.all C.scalar

def V.cells : V → List C
  | .c x => [x]
  | .agg cs => cs
  | .tup _ => []

def mk (agg : Bool) (cs : List C) : Option V :=
  if agg then some (.agg cs) else match cs with
    | [c] => some (.c c)
    | _ => none

/-- What is bounded: a length times bytes. -/
def room (n bytes : Nat) : Bool := n * bytes ≤ 35184372088832    -- 2^45

/-- The room that the source of an append has. -/
def srcOf (lk : Look) (e : Nat) : V → Option (Nat × List T)
  | .c (.t (.sl m cs)) => if m * e ≤ cs.length then some (m, cs.take (m * e)) else none
  | .c (.t (.v (.slice none 0 0))) => some (0, [])
  | .c (.own id e' off len) =>
    if e = e' then
      match arrOf lk id with
      | some (cs, _) => if off + len * e ≤ cs.length then some (len, (cs.drop off).take (len * e)) else none
      | none => none
    else none
  | _ => none

def intOf : V → Option Int
  | .c (.t (.v (.int _ n))) => some n
  | _ => none

def lenOf : V → Option Nat
  | .c (.t (.sl n _)) => some n
  | .c (.t (.v (.slice none 0 0))) => some 0
  | .c (.own _ _ _ len) => some len
  | _ => none

def bytesOf : List T → Option (List UInt8)
  | [] => some []
  | .v (.int .u8 n) :: r => (bytesOf r).map (UInt8.ofNat n.toNat :: ·)
  | _ => none

def ptrsOf : List V → Option (List (Nat × Nat))
  | [] => some []
  | .c (.ptr id off) :: r => (ptrsOf r).map ((id, off) :: ·)
  | _ => none

def findM (k : List T) : List (List T × List T) → Option (Option (List T))
  | [] => some none
  | (k', v) :: es =>
    match eqT k k' with
    | none => none
    | some true => some (some v)
    | some false => findM k es

def updM (k v : List T) : List (List T × List T) → Option (List (List T × List T))
  | [] => some [(k, v)]
  | (k', v') :: es =>
    match eqT k k' with
    | none => none
    | some true => some ((k, v) :: es)
    | some false => match updM k v es with
      | some r => some ((k', v') :: r)
      | none => none

def delM (k : List T) : List (List T × List T) → Option (List (List T × List T))
  | [] => some []
  | (k', v') :: es =>
    match eqT k k' with
    | none => none
    | some true => some es
    | some false => match delM k es with
      | some r => some ((k', v') :: r)
      | none => none

/-- Is a slice (a pointer) held against nil? -/
def nilEq (ptr : Bool) (x y : V) : Option Bool :=
  if ptr then match x, y with
    | .c (.ptr _ _), .c (.t (.v (.pointer none))) => some false
    | .c (.tp _), .c (.t (.v (.pointer none))) => some false
    | .c (.t (.v (.pointer none))), .c (.t (.v (.pointer none))) => some true
    | _, _ => none
  else match x, y with
    | .c (.t (.v (.slice none 0 0))), .c (.t (.v (.slice none 0 0))) => some true
    | .c (.own _ _ _ _), .c (.t (.v (.slice none 0 0))) => some false
    | .c (.t (.sl _ _)), .c (.t (.v (.slice none 0 0))) => some false
    | _, _ => none

def eqC : List C → List C → Option Bool
  | [], [] => some true
  | .t (.v a) :: as, .t (.v b) :: bs =>
    match eqv a b with
    | none => none
    | some false => some false
    | some true => eqC as bs
  | _, _ => none

def C.ok : C → Bool
  | .any => false
  | _ => true

/-- The cells of what may lie in memory. -/
def V.mem : V → Option (List C)
  | .c x => if x.ok then some [x] else none
  | .agg cs => if cs.all C.ok then some cs else none
  | .tup _ => none

/-- The cells of a struct with some parts set. -/
def fillC (cs : List C) : List (Nat × Nat × V) → Option (List C)
  | [] => some cs
  | (off, n, v) :: ps => match v.mem with
    | some vs => if vs.length = n && decide (off + n ≤ cs.length) then fillC (cs.take off ++ vs ++ cs.drop (off + n)) ps else none
    | none => none

/-- A bound of a cut. -/
def bnd (rd : Opd → V) (dflt : Int) : Option Opd → Option Int
  | none => some dflt
  | some o => intOf (rd o)

/-- The cells of a value of one cell, or of a struct. -/
def shaped (agg : Bool) (n : Nat) (x : V) : Option (List C) :=
  if agg then match x with
    | .agg cs => if cs.length = n && cs.all C.ok then some cs else none
    | _ => none
  else match x with
    | .c c => if c.ok then some [c] else none
    | _ => none

/-- A key: plain cells. -/
def plains : List C → Option (List T)
  | [] => some []
  | .t (.v x) :: cs => match plains cs with
    | some r => some (.v x :: r)
    | none => none
  | _ => none
def keyOf (agg : Bool) (n : Nat) (x : V) : Option (List T) :=
  match shaped agg n x with
  | some cs => plains cs
  | none => none

abbrev Out := Option (V × List (Nat × Blk) × Nat)

/-- The answer of an operation that calls nothing: its value, the blocks that it writes, how many blocks there are behind it ('k': ahead of it). -/
def evIns (lk : Look) (k : Nat) (rd : Opd → V) : Ins → Out
  | .mov x => some (rd x, [], k)
  | .pick c a b => match rd c with
    | .c (.t (.v (.bool t))) => some (if t then rd a else rd b, [], k)
    | _ => none
  | .alloc z => some (.c (.ptr k 0), [(k, .box (z.map C.p))], k + 1)
  | .box x => match (rd x).mem with
    | some cs => some (.c (.ptr k 0), [(k, .box cs)], k + 1)
    | none => none
  | .build z ps => match fillC (z.map C.p) (ps.map fun p => (p.1, p.2.1, rd p.2.2)) with
    | some cs => some (.agg cs, [], k)
    | none => none
  | .bsl e z n ps => match fillC ((List.replicate n (z.map C.p)).flatten) (ps.map fun p => (p.1 * e, e, rd p.2)) with
    | some cs => match toTs lk cs with
      | some (ts, u) => some (.c (.own k e 0 n), u ++ [(k, .arr e ts)], k + 1)
      | none => none
    | none => none
  | .load n agg x => match rd x with
    | .c (.ptr id off) => match lk id with
      | some (.box cs) => if off + n ≤ cs.length then (mk agg ((cs.drop off).take n)).map (·, [], k) else none
      | some (.arr _ cs) => if off + n ≤ cs.length then (mk agg (((cs.drop off).take n).map .t)).map (·, [], k) else none
      | some (.frz cs) => if off + n ≤ cs.length then (mk agg (((cs.drop off).take n).map .t)).map (·, [], k) else none
      | _ => none
    | .c (.tp cs) => if n ≤ cs.length then (mk agg ((cs.take n).map .t)).map (·, [], k) else none
    | _ => none
  | .store n x y => match rd x with
    | .c (.ptr id off) => match (rd y).mem with
      | some ys =>
        if ys.length = n then
          match lk id with
          | some (.box cs) => if off + n ≤ cs.length then some (.c .any, [(id, .box (cs.take off ++ ys ++ cs.drop (off + n)))], k) else none
          | some (.arr e cs) => if off + n ≤ cs.length then
              match toTs lk ys with
              | some (ts, u) => if u.all (fun q => decide (q.1 ≠ id)) then some (.c .any, u ++ [(id, .arr e (cs.take off ++ ts ++ cs.drop (off + n)))], k) else none
              | none => none
            else none
          | _ => none
        else none
      | none => none
    | _ => none
  | .bin o x y => match rd x, rd y with
    | .c (.t (.v a)), .c (.t (.v b)) => match bin1 o a b with
      | some r => some (V.p r, [], k)
      | none => none
    | _, _ => none
  | .beq neg x y => match rd x, rd y with
    | .c (.t (.v (.bool a))), .c (.t (.v (.bool b))) => some (V.bool (if neg then !(a == b) else a == b), [], k)
    | _, _ => none
  | .nileq ptr neg x y => match nilEq ptr (rd x) (rd y) with
    | some b => some (V.bool (if neg then !b else b), [], k)
    | none => none
  | .eqs n neg x y => match rd x, rd y with
    | .agg a, .agg b => if a.length = n then (eqC a b).map fun r => (V.bool (if neg then !r else r), [], k) else none
    | _, _ => none
  | .un o x => match rd x with
    | .c (.t (.v a)) => (un1 o a).map fun r => (V.p r, [], k)
    | _ => none
  | .conv c x => match c with
    | .int kd => match rd x with
      | .c (.t (.v (.int _ n))) => some (V.int kd (kd.wrap n), [], k)
      | _ => none
    | .same => match rd x with
      | .c (.t (.v (.string s))) => some (V.p (.string s), [], k)
      | _ => none
    | .str => match srcOf lk 1 (rd x) with
      | some (_, cs) => (bytesOf cs).map fun l => (V.p (.string ⟨l.toArray⟩), [], k)
      | none => none
  | .mkfn f caps => (ptrsOf (caps.map rd)).map fun l => (V.c (.clo f l), [], k)
  | .mkmap ka va => some (.c (.mp k), [(k, .map ka va [])], k + 1)
  | .mksl e bytes z l c => match intOf (rd l), intOf (rd c) with
    | some l, some c => if 0 ≤ l && l ≤ c && room c.toNat bytes && room c.toNat 1 then some (.c (.own k e 0 l.toNat), [(k, .arr e ((List.replicate c.toNat (z.map T.v)).flatten))], k + 1) else none
    | _, _ => none
  | .slc e x lo hi => match lenOf (rd x) with
    | none => none
    | some n =>
      match bnd rd 0 lo, bnd rd n hi with
      | some l, some h =>
        if 0 ≤ l && l ≤ h && h ≤ n then
          match rd x with
          | .c (.t (.sl _ cs)) => if n * e ≤ cs.length then some (.c (.t (.sl (h - l).toNat ((cs.drop (l.toNat * e)).take ((h - l).toNat * e)))), [], k) else none
          | .c (.t (.v (.slice none 0 0))) => some (rd x, [], k)
          | .c (.own id e' off _) => if e = e' then (if l = h then some (.c (.t (.sl 0 [])), [], k) else some (.c (.own id e (off + l.toNat * e) (h - l).toNat), [], k)) else none
          | _ => none
        else none
      | _, _ => none
  | .fld o x => match rd x with
    | .c (.ptr id off) => some (.c (.ptr id (off + o)), [], k)
    | .c (.tp cs) => some (.c (.tp (cs.drop o)), [], k)
    | _ => none
  | .getf o n agg x => match rd x with
    | .agg cs => if o + n ≤ cs.length then (mk agg ((cs.drop o).take n)).map (·, [], k) else none
    | _ => none
  | .idx e x i => match intOf (rd i) with
    | some i => match rd x with
      | .c (.t (.sl n cs)) => if 0 ≤ i && i < n && decide ((i.toNat + 1) * e ≤ cs.length) && decide (0 < e) then some (.c (.tp (cs.drop (i.toNat * e))), [], k) else none
      | .c (.own id e' off len) => if 0 ≤ i && i < len && e = e' then some (.c (.ptr id (off + i.toNat * e)), [], k) else none
      | _ => none
    | none => none
  | .idxA len e x i => match intOf (rd i) with
    | some i => match rd x with
      | .c (.ptr id off) => if 0 ≤ i && i < len then some (.c (.ptr id (off + i.toNat * e)), [], k) else none
      | _ => none
    | none => none
  | .at_ len e agg x i => match intOf (rd i) with
    | some i => match rd x with
      | .agg cs => if 0 ≤ i && i < len && decide (i.toNat * e + e ≤ cs.length) then (mk agg ((cs.drop (i.toNat * e)).take e)).map (·, [], k) else none
      | _ => none
    | none => none
  | .ats x i => match intOf (rd i) with
    | some i => match rd x with
      | .c (.t (.v (.string s))) => if 0 ≤ i then (s.data.toList[i.toNat]?).map fun b => (V.int .u8 b.toNat, [], k) else none
      | _ => none
    | none => none
  | .ext x i => match rd x with
    | .tup vs => match vs[i]? with
      | some (agg, cs) => (mk agg cs).map (·, [], k)
      | none => none
    | _ => none
  | .len str x => if str then (match rd x with
      | .c (.t (.v (.string s))) => some (V.int .i64 s.size, [], k)
      | _ => none)
    else (lenOf (rd x)).map fun n => (V.int .i64 n, [], k)
  | .app e bytes x y => match srcOf lk e (rd y) with
    | none => none
    | some (m, new) =>
      if m = 0 then (match rd x with
        | .c (.t (.v (.slice none 0 0))) => some (rd x, [], k)
        | .c (.own id e' off len) => some (.c (.own id e' off len), [], k)
        | .c (.t (.sl n cs)) => some (.c (.t (.sl n cs)), [], k)
        | _ => none)
      else match rd x with
        | .c (.t (.v (.slice none 0 0))) => if room m bytes then some (.c (.own k e 0 m), [(k, .arr e new)], k + 1) else none
        | .c (.own id e' 0 len) => match lk id with
          | some (.arr e'' cs) => if e = e' && e = e'' && decide (len * e ≤ cs.length) && room (len + m) bytes then some (.c (.own k e 0 (len + m)), [(id, .gone), (k, .arr e (cs.take (len * e) ++ new))], k + 1) else none
          | _ => none
        | _ => none
  | .copy e x y => match rd x with
    | .c (.own id e' off len) => match srcOf lk e (rd y) with
      | some (m, src) => match lk id with
        | some (.arr e'' cs) => if e = e' && e = e'' && decide (off + len * e ≤ cs.length) then
            some (V.int .i64 (min m len), [(id, .arr e (cs.take off ++ src.take (min m len * e) ++ cs.drop (off + min m len * e)))], k) else none
        | _ => none
      | none => none
    | _ => none
  | .clear e z x => match rd x with
    | .c (.own id e' off len) => match lk id with
      | some (.arr e'' cs) => if e = e' && e = e'' && decide (off + len * e ≤ cs.length) then
          some (.c .any, [(id, .arr e (cs.take off ++ (List.replicate len (z.map T.v)).flatten ++ cs.drop (off + len * e)))], k) else none
      | _ => none
    | _ => none
  | .mlen x => match rd x with
    | .c (.mp id) => match lk id with
      | some (.map _ _ es) => some (V.int .i64 es.length, [], k)
      | _ => none
    | _ => none
  | .look kn z ok m key => match rd m with
    | .c (.mp id) => match lk id with
      | some (.map ka va es) => match keyOf ka kn (rd key) with
        | some ts => match findM ts es with
          | some r => match mk va ((r.getD (z.map T.v)).map .t) with
            | some v => if ok then some (.tup [(va, v.cells), (false, [C.p (.bool r.isSome)])], [], k) else some (v, [], k)
            | none => none
          | none => none
        | none => none
      | _ => none
    | _ => none
  | .upd kn vn m key x => match rd m with
    | .c (.mp id) => match lk id with
      | some (.map ka va es) => match keyOf ka kn (rd key), shaped va vn (rd x) with
        | some ks, some xc => match toTs lk xc with
          | some (vs, u) => match updM ks vs es with
            | some es' => some (.c .any, u ++ [(id, .map ka va es')], k)
            | none => none
          | none => none
        | _, _ => none
      | _ => none
    | _ => none
  | .del kn m key => match rd m with
    | .c (.mp id) => match lk id with
      | some (.map ka va es) => match keyOf ka kn (rd key) with
        | some ks => match delM ks es with
          | some es' => some (.c .any, [(id, .map ka va es')], k)
          | none => none
        | none => none
      | _ => none
    | _ => none
  | .mm mx x y => match rd x, rd y with
    | .c (.t (.v (.int kd a))), .c (.t (.v (.int k' b))) => if kd = k' then some (V.int kd (if mx then (if a < b then b else a) else (if b < a then b else a)), [], k) else none
    | _, _ => none
  | .nilc x => match rd x with
    | .c (.ptr id off) => some (.c (.ptr id off), [], k)
    | .c (.tp cs) => some (.c (.tp cs), [], k)
    | .c (.clo f caps) => some (.c (.clo f caps), [], k)
    | .c (.t (.fn f caps)) => some (.c (.t (.fn f caps)), [], k)
    | _ => none
  | .call _ _ => none
  | .callv _ _ => none

/-! ### Regions, code, functions -/
structure S where
  tm : Tr V
  st : Tr Blk
  n : Nat

def S.rd (s : S) : Opd → V
  | .t i => match s.tm.get i with
    | some v => v
    | none => .c .any
  | .k x => .c (.t (.v x))
  | .f f => .c (.t (.fn f []))

def putAll (st : Tr Blk) : List (Nat × Blk) → Tr Blk
  | [] => st
  | (i, b) :: u => putAll (st.set i b) u

def put (tm : Tr V) (d : Option Nat) (v : V) : Tr V :=
  match d with
  | some i => tm.set i v
  | none => tm

def C.shift (k : Nat) : C → C
  | .ptr id off => .ptr (k + id) off
  | .own id e off len => .own (k + id) e off len
  | .clo f caps => .clo f (caps.map fun p => (k + p.1, p.2))
  | .mp id => .mp (k + id)
  | c => c
def V.shift (k : Nat) : V → V
  | .c x => .c (x.shift k)
  | .agg cs => .agg (cs.map (C.shift k))
  | .tup vs => .tup (vs.map fun p => (p.1, p.2.map (C.shift k)))
def Blk.shift (k : Nat) : Blk → Blk
  | .box cs => .box (cs.map (C.shift k))
  | b => b

def news (k : Nat) : List Blk → List (Nat × Blk)
  | [] => []
  | b :: bs => (k, b) :: news (k + 1) bs

/-- What calls answer: alone (over trees, in a store of their own), or in the caller's store. -/
structure K where
  iso : Nat → List V → Option (V × List Blk)
  shr : Nat → Bool
  run : Nat → List V → Tr Blk → Nat → Option (V × Tr Blk × Nat)

def evCall (kk : K) (lk : Look) (k : Nat) (f : Nat) (args : List V) : Out :=
  match toVs lk args with
  | none => none
  | some (ts, u) =>
    match kk.iso f ts with
    | none => none
    | some (r, nb) => if r.scalar && nb.isEmpty then some (r, [], k) else some (r.shift k, u ++ news k (nb.map (Blk.shift k)), k + nb.length)

/-- One operation that is wanted. -/
def evOp (kk : K) (s : S) (ins : Ins) : Option (V × Tr Blk × Nat) :=
  match ins with
  | .call f xs =>
    if kk.shr f then kk.run f (xs.map s.rd) s.st s.n
    else match evCall kk s.st.get s.n f (xs.map s.rd) with
      | some (v, u, n) => some (v, putAll s.st u, n)
      | none => none
  | .callv x xs =>
    match s.rd x with
    | .c (.clo f caps) => kk.run f (xs.map s.rd ++ caps.map fun p => V.c (.ptr p.1 p.2)) s.st s.n
    | .c (.t (.fn f caps)) => kk.run f (xs.map s.rd ++ caps.map fun t => V.c (.tp [t])) s.st s.n
    | _ => none
  | ins => match evIns s.st.get s.n s.rd ins with
    | some (v, u, n) => some (v, putAll s.st u, n)
    | none => none

def wantedS (s : S) : Option (Nat × Bool) → Option Bool
  | none => some true
  | some (t, b) => match s.tm.get t with
    | some (.c (.t (.v (.bool b')))) => some (b' == b)
    | some (.tup []) => some false
    | _ => none

def evOps (kk : K) : List Op1 → S → Option S
  | [], s => some s
  | o :: os, s =>
    match wantedS s o.guard with
    | none => none
    | some false => evOps kk os { s with tm := put s.tm o.dst (.tup []) }
    | some true =>
      match evOp kk s o.ins with
      | none => none
      | some (v, st, n) => evOps kk os { tm := put s.tm o.dst v, st, n }

/-! ### Regions that are run in any order -/
def C.ids : C → List Nat
  | .ptr id _ => [id]
  | .own id _ _ _ => [id]
  | .clo _ caps => caps.map (·.1)
  | .mp id => [id]
  | _ => []
def V.ids : V → List Nat
  | .c x => x.ids
  | .agg cs => cs.flatMap C.ids
  | .tup vs => vs.flatMap fun p => p.2.flatMap C.ids

def Ins.opds : Ins → List Opd
  | .mov x | .box x | .load _ _ x | .un _ x | .conv _ x | .fld _ x | .getf _ _ _ x | .ext x _ | .len _ x | .clear _ _ x | .mlen x | .nilc x => [x]
  | .pick a b c | .upd _ _ a b c => [a, b, c]
  | .alloc _ | .mkmap _ _ => []
  | .build _ ps => ps.map (·.2.2)
  | .bsl _ _ _ ps => ps.map (·.2)
  | .store _ x y | .bin _ x y | .beq _ x y | .nileq _ _ x y | .eqs _ _ x y | .mksl _ _ _ x y | .idx _ x y | .idxA _ _ x y | .at_ _ _ _ x y | .ats x y | .app _ _ x y | .copy _ x y | .look _ _ _ x y | .del _ x y | .mm _ x y => [x, y]
  | .slc _ x lo hi => x :: (lo.toList ++ hi.toList)
  | .mkfn _ xs | .call _ xs => xs
  | .callv x xs => x :: xs

/-- May an operation look at blocks? -/
def Ins.reads : Ins → Bool
  | .load _ _ _ | .store _ _ _ | .conv .str _ | .bsl _ _ _ _ | .app _ _ _ _ | .copy _ _ _ | .clear _ _ _ | .mlen _ | .look _ _ _ _ _ | .upd _ _ _ _ _ | .del _ _ _ | .call _ _ | .callv _ _ => true
  | _ => false
/-- May it write blocks, or make some? -/
def Ins.writes : Ins → Bool
  | .alloc _ | .box _ | .bsl _ _ _ _ | .store _ _ _ | .mkmap _ _ | .mksl _ _ _ _ _ | .app _ _ _ _ | .copy _ _ _ | .clear _ _ _ | .upd _ _ _ _ _ | .del _ _ _ | .call _ _ | .callv _ _ => true
  | _ => false

def evOpU (kk : K) (s : S) (ins : Ins) : Out :=
  match ins with
  | .call f xs => if kk.shr f then none else evCall kk s.st.get s.n f (xs.map s.rd)
  | .callv _ _ => none
  | ins => evIns s.st.get s.n s.rd ins

/-- What an operation looked at and wrote. -/
structure Foot where
  j : Nat
  rds : List Nat
  kys : List Nat

def clash (a b : List Nat) : Bool := a.any fun x => b.contains x

def footOf (s : S) (i : Nat) (ins : Ins) (u : List (Nat × Blk)) : Foot :=
  ⟨i, if ins.reads then ins.opds.flatMap fun x => (s.rd x).ids else [], u.map (·.1)⟩

def Foot.free (a b : Foot) : Bool := !clash a.kys b.rds && !clash a.kys b.kys && !clash a.rds b.kys

def freeOf (f : Foot) (chk : List Nat) (fs : List Foot) : Bool := chk.all fun j => fs.all fun g => g.j != j || f.free g

def evDrw (kk : K) : Nat → List (Op1 × List Nat × Bool) → List Foot → S → Option S
  | _, [], _, s => some s
  | i, (o, chk, rc) :: os, fs, s =>
    match wantedS s o.guard with
    | none => none
    | some false => evDrw kk (i + 1) os fs { s with tm := put s.tm o.dst (.tup []) }
    | some true =>
      match evOpU kk s o.ins with
      | none => none
      | some (v, u, n) =>
        if freeOf (footOf s i o.ins u) chk fs && u.all (fun p => decide (p.1 < n)) && decide (s.n ≤ n) then
          evDrw kk (i + 1) os (if rc then footOf s i o.ins u :: fs else fs) { tm := put s.tm o.dst v, st := putAll s.st u, n }
        else none

def iter (n : Nat) (g : S → Option (Ex × S)) : S → Option (Ex × S) :=
  match n with
  | 0 => fun _ => none
  | n + 1 => fun s => match g s with
    | some (.norm, s') => iter n g s'
    | r => r

def evC (kk : K) (L : Nat) : SC → S → Option (Ex × S)
  | .skip, s => some (.norm, s)
  | .reg ops, s => (evOps kk ops s).map (.norm, ·)
  | .drw ops, s => (evDrw kk 0 ops [] s).map (.norm, ·)
  | .seq a b, s => match evC kk L a s with
    | some (.norm, s') => evC kk L b s'
    | r => r
  | .cond x a b, s => match s.rd x with
    | .c (.t (.v (.bool t))) => if t then evC kk L a s else evC kk L b s
    | _ => none
  | .block id c, s => match evC kk L c s with
    | some (.exit j, s') => if j = id then some (.norm, s') else some (.exit j, s')
    | r => r
  | .loop c, s => iter L (evC kk L c) s
  | .exit id, s => some (.exit id, s)
  | .ret, s => some (.ret, s)

def args0 (i : Nat) : List V → Tr V → Tr V
  | [], t => t
  | v :: vs, t => args0 (i + 1) vs (t.set i v)

def res1 (s : S) : Rs → Option (Bool × List C)
  | .tmp t => match s.tm.get t with
    | some (.c x) => some (false, [x])
    | some (.agg cs) => some (true, cs)
    | _ => none
  | .cell t n agg => match s.tm.get t with
    | some (.c (.ptr id off)) => match s.st.get id with
      | some (.box cs) => if off + n ≤ cs.length then some (agg, (cs.drop off).take n) else none
      | _ => none
    | _ => none

def ress (s : S) : List Rs → Option (List (Bool × List C))
  | [] => some []
  | r :: rs => match res1 s r with
    | none => none
    | some x => (ress s rs).map (x :: ·)

def resV (s : S) (rs : List Rs) : Option V :=
  match ress s rs with
  | some [(agg, cs)] => mk agg cs
  | some l => some (.tup l)
  | none => none

/-- A body, run in a store. -/
def evBody (kk : K) (L : Nat) (fn : SFn) (args : List V) (st : Tr Blk) (n : Nat) : Option (V × Tr Blk × Nat) :=
  if args.length = fn.np then
    match evC kk L fn.body { tm := args0 0 args .leaf, st, n } with
    | some (.norm, s) => (resV s fn.res).map fun v => (v, s.st, s.n)
    | some (.ret, s) => (resV s fn.res).map fun v => (v, s.st, s.n)
    | _ => none
  else none

/-- What a result leads to, numbered anew. -/
def posOf (i : Nat) (j : Nat) : List Nat → Option Nat
  | [] => none
  | x :: xs => if x = i then some j else posOf i (j + 1) xs

def extC (st : Tr Blk) (ids : List Nat) : C → Option (C × List Nat)
  | .t x => some (.t x, ids)
  | .own id e off len =>
    match st.get id with
    | some (.frz cs) => if off + len * e ≤ cs.length then some (.t (.sl len ((cs.drop off).take (len * e))), ids) else none
    | some (.arr _ _) => match posOf id 0 ids with
      | some j => some (.own j e off len, ids)
      | none => some (.own ids.length e off len, ids ++ [id])
    | _ => none
  | .ptr id off =>
    match st.get id with
    | some (.box _) => match posOf id 0 ids with
      | some j => some (.ptr j off, ids)
      | none => some (.ptr ids.length off, ids ++ [id])
    | _ => none
  | _ => none

def extCs (st : Tr Blk) (ids : List Nat) : List C → Option (List C × List Nat)
  | [] => some ([], ids)
  | c :: cs => match extC st ids c with
    | none => none
    | some (c', ids') => match extCs st ids' cs with
      | none => none
      | some (cs', ids'') => some (c' :: cs', ids'')

def extTs (st : Tr Blk) (ids : List Nat) : List (Bool × List C) → Option (List (Bool × List C) × List Nat)
  | [] => some ([], ids)
  | c :: cs => match extCs st ids c.2 with
    | none => none
    | some (c', ids') => match extTs st ids' cs with
      | none => none
      | some (cs', ids'') => some ((c.1, c') :: cs', ids'')

def extV (st : Tr Blk) : V → Option (V × List Nat)
  | .c x => (extC st [] x).map fun p => (.c p.1, p.2)
  | .agg cs => (extCs st [] cs).map fun p => (.agg p.1, p.2)
  | .tup vs => (extTs st [] vs).map fun p => (.tup p.1, p.2)

/-- The blocks of these numbers; what they lead to is looked for so often. -/
def extB (st : Tr Blk) : Nat → List Nat → List Nat → Option (List Blk)
  | 0, _, _ => none
  | _ + 1, _, [] => some []
  | f + 1, ids, i :: rest => match st.get i with
    | some (.arr e cs) => (extB st f ids rest).map (.arr e cs :: ·)
    | some (.box cs) => match extCs st ids cs with
      | none => none
      | some (cs', ids') => (extB st f ids' (rest ++ ids'.drop ids.length)).map (.box cs' :: ·)
    | _ => none

/-- A result that is a function with one captured variable. -/
def cloV (st : Tr Blk) : V → Option V
  | .c (.clo f [(id, 0)]) => match st.get id with
    | some (.box [.t x]) => some (.c (.t (.fn f [x])))
    | _ => none
  | _ => none

/-! ### A result that nobody writes any more -/
def toRs (lk : Look) : List (Bool × List C) → Option (List (Bool × List C))
  | [] => some []
  | c :: r => match toTs lk c.2 with
    | none => none
    | some (ts, _) => match toRs lk r with
      | none => none
      | some xs => some ((c.1, ts.map .t) :: xs)
def toR (lk : Look) : V → Option V
  | .c x => match toT lk x with
    | some (t, _) => some (.c (.t t))
    | none => none
  | .agg cs => match toTs lk cs with
    | some (ts, _) => some (.agg (ts.map .t))
    | none => none
  | .tup vs => match toRs lk vs with
    | some xs => some (.tup xs)
    | none => none
def frzR (z : Bool) (x : Option (V × List Blk)) : Option (V × List Blk) :=
  if z then match x with
    | some (r, nb) => match toR (putAll .leaf (news 0 nb)).get r with
      | some t => some (t, [])
      | none => none
    | none => none
  else x

/-- 'frz f g': are g's results trees where f calls it? -/
structure Env where
  fn : Nat → Option SFn
  prim : Nat → Option (List V → Option (V × List Blk))
  shr : Nat → Bool
  L : Nat
  frz : Nat → Nat → Bool

/-- The answer of a body that was run alone: as trees, or with its blocks. -/
def finF (z : Bool) (st : Tr Blk) (v : V) : Option (V × List Blk) :=
  if z then match toR st.get v with
    | some t => some (t, [])
    | none => none
  else match cloV st v with
    | some r => some (r, [])
    | none => match extV st v with
      | none => none
      | some (v', ids) => (extB st (ids.length + 8) ids ids).map (v', ·)

mutual
/-- A call that is alone; 'z': its answer as trees. -/
def evF (E : Env) : Nat → Bool → Nat → List V → Option (V × List Blk)
  | 0, _, _, _ => none
  | m + 1, z, f, args =>
    match E.prim f with
    | some p => frzR z (p args)
    | none =>
      match E.fn f with
      | none => none
      | some fn =>
        match evBody { iso := fun g ts => evF E m (E.frz f g) g ts, shr := E.shr, run := evR E m } E.L fn args .leaf 0 with
        | none => none
        | some (v, st, _) => finF z st v
/-- A call in the caller's store. -/
def evR (E : Env) : Nat → Nat → List V → Tr Blk → Nat → Option (V × Tr Blk × Nat)
  | 0, _, _, _, _ => none
  | m + 1, f, args, st, n =>
    match E.fn f with
    | none => none
    | some fn => evBody { iso := fun g ts => evF E m (E.frz f g) g ts, shr := E.shr, run := evR E m } E.L fn args st n
end

end Go.Proofs.Sg
