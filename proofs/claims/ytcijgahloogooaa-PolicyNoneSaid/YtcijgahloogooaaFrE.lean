/- The frame, part E: slim code out of loaded code. -/
import Derived.Test.YtcijgahloogooaaFrD
namespace Go.Proofs.Sg

def slimO : Operand → Option Opd
  | .tmp t => some (.t t)
  | .const v => if plain v then some (.k v) else none
  | .func f => some (.f f)
  | .global _ => none

def slimOs : List Operand → Option (List Opd)
  | [] => some []
  | x :: xs => match slimO x, slimOs xs with
    | some y, some ys => some (y :: ys)
    | _, _ => none

def slimOO : Option Operand → Option (Option Opd)
  | none => some none
  | some x => (slimO x).map some

/-- Is a struct one whose fields are all plain cells, each told by '=='? -/
def flat (tt : TT) (k : Nat) : List Field → Bool
  | [] => true
  | f :: fs => (match tt f.type with
    | some d => (match d.desc with | .int _ | .bool | .string => true | _ => false) && d.size == 1
    | none => false) && f.name != "_" && f.offset == k && flat tt (k + 1) fs

/-- May keys be of this type? -/
def keyable (tt : TT) (d : TD) : Bool := match d.desc with
  | .int _ | .bool | .string => true
  | .struct fs => flat tt 0 fs.toList && d.eqok && d.size == fs.size
  | _ => false

def slimPs (tt : TT) (fs : List Field) : List (Nat × Operand) → Option (List (Nat × Nat × Opd))
  | [] => some []
  | (i, x) :: ps => match fs[i]? with
    | none => none
    | some f => match tt f.type, slimO x, slimPs tt fs ps with
      | some d, some y, some r => some ((f.offset, d.size, y) :: r)
      | _, _, _ => none

def slimPs' : List (Nat × Operand) → Option (List (Nat × Opd))
  | [] => some []
  | (i, x) :: ps => match slimO x, slimPs' ps with
    | some y, some r => some ((i, y) :: r)
    | _, _ => none

def allTypes (tt : TT) : List Field → Bool
  | [] => true
  | f :: fs => (tt f.type).isSome && allTypes tt fs

def slimI (tt : TT) : Op → Option Ins
  | .move x | .assign x => (slimO x).map .mov
  | .pick c a b => match slimO c, slimO a, slimO b with
    | some c, some a, some b => some (.pick c a b)
    | _, _, _ => none
  | .alloc t => match tt t with
    | some d => d.zero.map .alloc
    | none => none
  | .box _ x => (slimO x).map .box
  | .build t ps => match tt t with
    | some d => match d.desc, d.zero with
      | .struct fs, some z => if allTypes tt fs.toList then (slimPs tt fs.toList ps.toList).map (.build z) else none
      | _, _ => none
    | none => none
  | .buildSlice t n ps => match tt t with
    | some d => match d.desc with
      | .slice e => match tt e with
        | some de => match de.zero with
          | some z => if n * de.size ≤ 16777216 && 0 < de.size then (slimPs' ps.toList).map (.bsl de.size z n) else none
          | none => none
        | none => none
      | _ => none
    | none => none
  | .load t x => match tt t, slimO x with
    | some d, some x => some (.load d.size d.agg x)
    | _, _ => none
  | .store t x y => match tt t, slimO x, slimO y with
    | some d, some x, some y => some (.store d.size x y)
    | _, _, _ => none
  | .binOp o t x y _ => match tt t, slimO x, slimO y with
    | some d, some x, some y =>
      match o, d.desc with
      | .eql, .struct fs => if flat tt 0 fs.toList && d.eqok then some (.eqs fs.size false x y) else none
      | .neq, .struct fs => if flat tt 0 fs.toList && d.eqok then some (.eqs fs.size true x y) else none
      | o, .int _ => some (.bin o x y)
      | .shl, _ | .shr, _ => none
      | o, .string => some (.bin o x y)
      | .eql, .bool => some (.beq false x y)
      | .neq, .bool => some (.beq true x y)
      | .eql, .slice _ => some (.nileq false false x y)
      | .neq, .slice _ => some (.nileq false true x y)
      | .eql, .pointer _ => some (.nileq true false x y)
      | .neq, .pointer _ => some (.nileq true true x y)
      | _, _ => none
    | _, _, _ => none
  | .unOp o _ x => (slimO x).map (.un o)
  | .convert s t x => match tt s, tt t, slimO x with
    | some ds, some dt, some x =>
      match ds.desc, dt.desc with
      | .int _, .int k => some (.conv (.int k) x)
      | .string, .string => some (.conv .same x)
      | .slice e, .string => match tt e with
        | some de => match de.desc with
          | .int .u8 => if de.size = 1 then some (.conv .str x) else none
          | _ => none
        | none => none
      | _, _ => none
    | _, _, _ => none
  | .makeFunc (.func f) first caps => if first.isEmpty then (slimOs caps.toList).map (.mkfn f) else none
  | .makeMap t none => match tt t with
    | some d => match d.desc with
      | .map tk e => match tt tk, tt e with
        | some dk, some de => some (.mkmap dk.agg de.agg)
        | _, _ => none
      | _ => none
    | none => none
  | .makeSlice t l c => match tt t with
    | some d => match d.desc with
      | .slice e => match tt e with
        | some de => match de.zero, slimO l, slimO c with
          | some z, some l, some c => if 0 < de.size then some (.mksl de.size de.bytes z l c) else none
          | _, _, _ => none
        | none => none
      | _ => none
    | none => none
  | .slice t x lo hi none => match tt t with
    | some d => match d.desc with
      | .slice e => match tt e, slimO x, slimOO lo, slimOO hi with
        | some de, some x, some lo, some hi => if 0 < de.size then some (.slc de.size x lo hi) else none
        | _, _, _, _ => none
      | _ => none
    | none => none
  | .fieldAddr t x i => match tt t with
    | some d => match d.desc with
      | .struct fs => match fs[i]? with
        | some f => match tt f.type, slimO x with
          | some df, some x => if 0 < df.size then some (.fld f.offset x) else none
          | _, _ => none
        | none => none
      | _ => none
    | none => none
  | .field t x i => match tt t with
    | some d => match d.desc with
      | .struct fs => match fs[i]? with
        | some f => match tt f.type, slimO x with
          | some df, some x => some (.getf f.offset df.size df.agg x)
          | _, _ => none
        | none => none
      | _ => none
    | none => none
  | .indexAddr t x i => match tt t, slimO x, slimO i with
    | some d, some x, some i => match d.desc with
      | .slice e => match tt e with
        | some de => if 0 < de.size then some (.idx de.size x i) else none
        | none => none
      | .array n e => match tt e with
        | some de => if 0 < de.size && 1 < n then some (.idxA n de.size x i) else none
        | none => none
      | _ => none
    | _, _, _ => none
  | .index t x i => match tt t, slimO x, slimO i with
    | some d, some x, some i => match d.desc with
      | .array n e => match tt e with
        | some de => some (.at_ n de.size de.agg x i)
        | none => none
      | .string => some (.ats x i)
      | _ => none
    | _, _, _ => none
  | .extract x i => (slimO x).map (.ext · i)
  | .lookup t m k ok => match tt t with
    | some d => match d.desc with
      | .map tk e => match tt tk, tt e, slimO m, slimO k with
        | some dk, some de, some m, some k => match de.zero with
          | some z => if keyable tt dk then some (.look dk.size z ok m k) else none
          | none => none
        | _, _, _, _ => none
      | _ => none
    | none => none
  | .mapUpdate t m k x => match tt t with
    | some d => match d.desc with
      | .map tk e => match tt tk, tt e, slimO m, slimO k, slimO x with
        | some dk, some de, some m, some k, some x => if keyable tt dk then some (.upd dk.size de.size m k x) else none
        | _, _, _, _, _ => none
      | _ => none
    | none => none
  | .nilCheck x => (slimO x).map .nilc
  | .call c => match c.callee with
    | .value (.func f) => (slimOs c.args.toList).map (.call f)
    | .value x => match slimO x, slimOs c.args.toList with
      | some x, some xs => some (.callv x xs)
      | _, _ => none
    | .builtin b => match b, c.argTypes.toList, c.args.toList with
      | .len, t :: _, [x] => match tt t, slimO x with
        | some d, some x => match d.desc with
          | .slice _ => some (.len false x)
          | .string => some (.len true x)
          | .map _ _ => some (.mlen x)
          | _ => none
        | _, _ => none
      | .append, [t, u], [x, y] => match tt t, tt u, slimO x, slimO y with
        | some d, some du, some x, some y => match d.desc, du.desc with
          | .slice e, .slice _ => match tt e with
            | some de => match de.zero with
              | some _ => if 0 < de.size && 0 < de.bytes && t = u then some (.app de.size de.bytes x y) else none
              | none => none
            | none => none
          | _, _ => none
        | _, _, _, _ => none
      | .copy, [t, u], [x, y] => match tt t, tt u, slimO x, slimO y with
        | some d, some du, some x, some y => match d.desc, du.desc with
          | .slice e, .slice _ => match tt e with
            | some de => if 0 < de.size then some (.copy de.size x y) else none
            | none => none
          | _, _ => none
        | _, _, _, _ => none
      | .clear, [t], [x] => match tt t, slimO x with
        | some d, some x => match d.desc with
          | .slice e => match tt e with
            | some de => match de.zero with
              | some z => if 0 < de.size then some (.clear de.size z x) else none
              | none => none
            | none => none
          | _ => none
        | _, _ => none
      | .delete, t :: _, [m, k] => match tt t with
        | some d => match d.desc with
          | .map tk _ => match tt tk, slimO m, slimO k with
            | some dk, some m, some k => if keyable tt dk then some (.del dk.size m k) else none
            | _, _, _ => none
          | _ => none
        | none => none
      | .max, _, [x, y] => match slimO x, slimO y with
        | some x, some y => some (.mm true x y)
        | _, _ => none
      | .min, _, [x, y] => match slimO x, slimO y with
        | some x, some y => some (.mm false x y)
        | _, _ => none
      | _, _, _ => none
    | _ => none
  | _ => none

/-- What the frame has not proved. -/
def hard : Ins → Bool
  | .eqs _ _ _ _ | .mlen _ | .look _ _ _ _ _ | .upd _ _ _ _ _ | .del _ _ _ => true
  | _ => false

/-- The slot of an operation's answer. -/
def dstOf (ops : Array Oper) (j : Nat) : Option Nat := (ops[j]?).bind (·.dst)

def okDst (nt : Nat) : Option Nat → Bool
  | some d => decide (d < nt)
  | none => true

def slimOp (tt : TT) (nt : Nat) (ops : Array Oper) (o : Oper) : Option Op1 :=
  match slimI tt o.op with
  | none => none
  | some i =>
    if !hard i && okDst nt o.dst then
      match o.guard with
      | none => some ⟨o.dst, i, none⟩
      | some (j, b) => match dstOf ops j with
        | some s => some ⟨o.dst, i, some (s, b)⟩
        | none => none
    else none

def slimOps (tt : TT) (nt : Nat) (ops : Array Oper) : List Oper → Option (List Op1)
  | [] => some []
  | o :: os => match slimOp tt nt ops o, slimOps tt nt ops os with
    | some x, some xs => some (x :: xs)
    | _, _ => none

end Go.Proofs.Sg
