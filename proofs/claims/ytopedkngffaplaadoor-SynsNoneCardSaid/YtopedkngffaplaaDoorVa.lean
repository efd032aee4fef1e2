/- The interpreter: its definitions, and what its values and blocks stand for in the model. -/
import Derived.Orders
import Derived.Below
import Derived.Laws.World
import Derived.Deep.Draws
import Derived.Laws.AppendOwn
set_option linter.all false
set_option linter.unusedVariables false
set_option linter.unusedSectionVars false
set_option linter.unusedSimpArgs false
section SViCore
/- A pure interpreter of the model's Code over abstract values: slices that are only read are lists (views), own memory is a list of blocks. Definitions only. -/
namespace Go.Vi
noncomputable section
open Go

inductive AV where
  | undef
  | bool (b : Bool)
  | int (k : IntKind) (n : Int)
  | str (s : List UInt8)
  | nilp
  | ptr (b c : Nat)
  | rptr (b ver i c : Nat)
  | vptr (x : AV) (c : Nat)
  | nils
  | view (xs : List AV) (exact : Bool)
  | row (b ver hs off len : Nat)
  | agg (cs : List AV)
  | tup (vs : List AV)
  | fn (f : FuncId) (cap : List AV)
  | nilf
  | iface (t : TypeId) (v : AV)
  | nili
  | iter (b : Nat)
  deriving Inhabited

inductive Blk where
  | dead
  | box (cs : List AV)
  | fbox (cs : List AV)
  | row (sz : Nat) (xs : List AV) (ver fz : Nat)
  | iter (s : List UInt8) (pos : Nat)
  deriving Inhabited

abbrev Env := List AV
abbrev Heap := List Blk
abbrev R := Option (AV × Heap)

def AV.cells : AV → List AV
  | .agg cs => cs
  | v => [v]

/-- no address of own memory in it, seen shallowly (views hold none) -/
def refFree : AV → Bool
  | .bool _ => true
  | .int _ _ => true
  | .str _ => true
  | .nilp => true
  | .nils => true
  | .view _ _ => true
  | .nilf => true
  | .nili => true
  | .undef => false
  | .ptr _ _ => false
  | .rptr _ _ _ _ => false
  | .vptr _ _ => false
  | .row _ _ _ _ _ => false
  | .fn _ _ => false
  | .agg _ => false
  | .tup _ => false
  | .iface _ _ => false
  | .iter _ => false
def refFreeL : List AV → Bool
  | [] => true
  | c :: cs => refFree c && refFreeL cs
def refFreeC (v : AV) : Bool := refFreeL v.cells

mutual
/-- all addresses of own memory in it are below n -/
def refOk (n : Nat) : AV → Bool
  | .ptr b _ => decide (b < n)
  | .rptr b _ _ _ => decide (b < n)
  | .row b _ _ _ _ => decide (b < n)
  | .iter b => decide (b < n)
  | .agg cs => refOkL n cs
  | .tup cs => refOkL n cs
  | .fn _ cs => refOkL n cs
  | .iface _ v => refOk n v
  | .undef => true
  | .bool _ => true
  | .int _ _ => true
  | .str _ => true
  | .nilp => true
  | .vptr _ _ => true
  | .nils => true
  | .view _ _ => true
  | .nilf => true
  | .nili => true
def refOkL (n : Nat) : List AV → Bool
  | [] => true
  | c :: cs => refOk n c && refOkL n cs
end

mutual
/-- own rows in it become views -/
def frz : AV → Heap → Option (AV × Heap)
  | .row b ver hs off len, H => match H[b]? with
    | some (.row sz xs ver' fz) => if ver = ver' ∧ off + len ≤ xs.length then some (.view ((xs.drop off).take len) false, H.set b (.row sz xs ver' (max fz (off + len)))) else none
    | _ => none
  | .nils, H => some (.view [] false, H)
  | .view xs _, H => some (.view xs false, H)
  | .agg cs, H => match frzL cs H with
    | some (cs', H') => some (.agg cs', H')
    | none => none
  | .tup cs, H => match frzL cs H with
    | some (cs', H') => some (.tup cs', H')
    | none => none
  | .fn f cs, H => match frzL cs H with
    | some (cs', H') => some (.fn f cs', H')
    | none => none
  | .iface t v, H => match frz v H with
    | some (v', H') => some (.iface t v', H')
    | none => none
  | .ptr .., _ => none
  | .rptr .., _ => none
  | .vptr .., _ => none
  | .iter .., _ => none
  | .undef, H => some (.undef, H)
  | .bool b, H => some (.bool b, H)
  | .int k n, H => some (.int k n, H)
  | .str s, H => some (.str s, H)
  | .nilp, H => some (.nilp, H)
  | .nilf, H => some (.nilf, H)
  | .nili, H => some (.nili, H)
def frzL : List AV → Heap → Option (List AV × Heap)
  | [], H => some ([], H)
  | c :: cs, H => match frz c H with
    | some (c', H1) => match frzL cs H1 with
      | some (cs', H2) => some (c' :: cs', H2)
      | none => none
    | none => none
end

mutual
/-- what lies in one cell and holds no address of own memory -/
def pureC : AV → Bool
  | .bool _ => true
  | .int _ _ => true
  | .str _ => true
  | .nilp => true
  | .nils => true
  | .view xs _ => pureL xs
  | .nilf => true
  | .nili => true
  | .iface _ v => pureE v
  | .fn _ cs => pureL cs
  | .undef => false
  | .ptr _ _ => false
  | .rptr _ _ _ _ => false
  | .vptr _ _ => false
  | .row _ _ _ _ _ => false
  | .agg _ => false
  | .tup _ => false
  | .iter _ => false
def pureE : AV → Bool
  | .agg cs => pureCs cs
  | .bool _ => true
  | .int _ _ => true
  | .str _ => true
  | .nilp => true
  | .nils => true
  | .view xs _ => pureL xs
  | .nilf => true
  | .nili => true
  | .iface _ v => pureE v
  | .fn _ cs => pureL cs
  | .undef => false
  | .ptr _ _ => false
  | .rptr _ _ _ _ => false
  | .vptr _ _ => false
  | .row _ _ _ _ _ => false
  | .tup _ => false
  | .iter _ => false
def pureCs : List AV → Bool
  | [] => true
  | c :: cs => pureC c && pureCs cs
def pureL : List AV → Bool
  | [] => true
  | c :: cs => pureE c && pureL cs
end

/-- may lie in one cell -/
def okCell : AV → Bool
  | .undef => false
  | .agg _ => false
  | .tup _ => false
  | .bool _ => true
  | .int _ _ => true
  | .str _ => true
  | .nilp => true
  | .ptr _ _ => true
  | .rptr _ _ _ _ => true
  | .vptr _ _ => true
  | .nils => true
  | .view _ _ => true
  | .row _ _ _ _ _ => true
  | .fn _ _ => false
  | .nilf => true
  | .iface _ _ => false
  | .nili => true
  | .iter _ => true
def okCells : List AV → Bool
  | [] => true
  | c :: cs => okCell c && okCells cs

def aval0 : Value → AV
  | .bool b => .bool b
  | .int k n => .int k n
  | .string s => .str s.data.toList
  | .pointer none => .nilp
  | .slice _ 0 0 => .nils
  | .nilFunc => .nilf
  | .nilIface => .nili
  | _ => .undef
def aval : Value → AV
  | .agg cs => .agg (cs.toList.map aval0)
  | v => aval0 v

def ev (env : Env) : Operand → AV
  | .tmp t => (env[t]?).getD .undef
  | .const c => aval c
  | .func f => .fn f []
  | .global _ => .undef

/-! types -/
def szOf (P : Program) (t : TypeId) : Option Nat := (P.info? t).map (·.size)
def isAggT (P : Program) (t : TypeId) : Option Bool := (P.underlying t).map fun
  | .struct _ | .array _ _ => true
  | _ => false
/-- (aggregate?, cells) -/
def shp (P : Program) (t : TypeId) : Option (Bool × Nat) := match isAggT P t, szOf P t with
  | some a, some n => some (a, n)
  | _, _ => none
def fieldAt (P : Program) (s : TypeId) (f : Nat) : Option (Nat × Bool × Nat) := match P.underlying s with
  | some (.struct fs) => match fs[f]? with
    | some fd => match shp P fd.type with
      | some (a, n) => if n = 0 then none else some (fd.offset, a, n)
      | none => none
    | none => none
  | _ => none
def zeroC (P : Program) (t : TypeId) : Option (List AV) := match (P.info? t).bind (·.zero) with
  | some z => some (z.cells.toList.map aval0)
  | none => none
inductive Ix where
  | sl (sz : Nat) (bytes : Nat) | arr (n sz : Nat) | str
def ixOf (P : Program) (t : TypeId) : Option Ix := match P.underlying t with
  | some (.slice e) => match P.info? e with
    | some i => match i.zero with
      | some z => if z.cells.size = i.size then some (.sl i.size i.bytes) else none
      | none => none
    | none => none
  | some (.array n e) => match szOf P e with | some s => some (.arr n s) | none => none
  | some .string => some .str
  | _ => none

/-! memory -/
def sub (agg : Bool) (c n : Nat) : AV → Option AV
  | .agg cs => if agg then (if c + n ≤ cs.length then some (.agg ((cs.drop c).take n)) else none) else cs[c]?
  | x => if agg then none else if c = 0 then some x else none

def getAt (H : Heap) (agg : Bool) (n : Nat) : AV → Option AV
  | .ptr b c => match H[b]? with
    | some (.box cs) => sub agg c n (.agg cs)
    | some (.fbox cs) => sub agg c n (.agg cs)
    | _ => none
  | .rptr b ver i c => match H[b]? with
    | some (.row _ xs ver' _) => if ver = ver' then (match xs[i]? with | some x => sub agg c n x | none => none) else none
    | _ => none
  | .vptr x c => sub agg c n x
  | _ => none

def splice (cs : List AV) (c : Nat) (d : List AV) : List AV := cs.take c ++ d ++ cs.drop (c + d.length)
def setSub (x v : AV) (c : Nat) : Option AV := match x with
  | .agg cs => if c + v.cells.length ≤ cs.length then some (.agg (splice cs c v.cells)) else none
  | _ => match v with
    | .agg _ => none
    | _ => if c = 0 then some v else none

def keepsOk (ns : List Nat) (b : Nat) (cs : List AV) : Bool := match ns with
  | [] => true
  | n :: ns => (decide (n ≤ b) || refOkL n cs) && keepsOk ns b cs

def setAt (H : Heap) (ns : List Nat) (n : Nat) (a v : AV) : Option Heap :=
  if v.cells.length = n ∧ okCells v.cells = true then match a with
  | .ptr b c => match H[b]? with
    | some (.box cs) => if c + n ≤ cs.length ∧ keepsOk ns b v.cells = true then some (H.set b (.box (splice cs c v.cells))) else none
    | _ => none
  | .rptr b ver i c => match H[b]? with
    | some (.row sz xs ver' fz) => if ver = ver' ∧ fz ≤ i ∧ refFreeC v = true then (match xs[i]? with
        | some x => match setSub x v c with
          | some x' => some (H.set b (.row sz (xs.set i x') ver' fz))
          | none => none
        | none => none) else none
    | _ => none
  | _ => none
  else none

/-- the nil slices among cells become own rows -/
def ownNils (n : Nat) : List AV → List AV × List Blk
  | [] => ([], [])
  | .nils :: cs => match ownNils (n + 1) cs with | (cs', bs) => (.row n 0 0 0 0 :: cs', .row 0 [] 0 0 :: bs)
  | c :: cs => match ownNils n cs with | (cs', bs) => (c :: cs', bs)

def newBox (H : Heap) (cs : List AV) : AV × Heap := match ownNils (H.length + 1) cs with
  | (cs', bs) => (.ptr H.length 0, H ++ .box cs' :: bs)

def maxRoom : Nat := 4294967296

def elemsOf (H : Heap) : AV → Option (List AV)
  | .nils => some []
  | .view xs _ => some xs
  | .row b ver hs off len => match H[b]? with
    | some (.row _ xs ver' _) => if ver = ver' ∧ off + len ≤ xs.length then some ((xs.drop off).take len) else none
    | _ => none
  | .str s => some (s.map fun c => .int .u8 c.toNat)
  | _ => none

/-- each element has so many cells -/
def allLen (sz : Nat) : List AV → Bool
  | [] => true
  | y :: ys => decide (y.cells.length = sz) && allLen sz ys

def appendTo (H : Heap) (sz bytes : Nat) (s : AV) (ys : List AV) : Option (AV × Heap) :=
  if bytes ≤ 4096 ∧ 0 < sz ∧ allLen sz ys = true then match s with
  | .nils => if ys.length ≤ maxRoom then some (.row H.length 0 sz 0 ys.length, H ++ [.row sz ys 0 0]) else none
  | .view xs true => if xs.length + ys.length ≤ maxRoom ∧ (xs = [] ∨ ys ≠ []) ∧ allLen sz xs = true then some (.row H.length 0 sz 0 (xs.length + ys.length), H ++ [.row sz (xs ++ ys) 0 0]) else none
  | .row b ver hs off len => match H[b]? with
    | some (.row sz' xs ver' fz) => if ver = ver' ∧ (sz' = sz ∨ sz' = 0) ∧ off = 0 ∧ fz ≤ len ∧ len ≤ xs.length ∧ len + ys.length ≤ maxRoom then some (.row b (ver + 1) sz 0 (len + ys.length), H.set b (.row sz (xs.take len ++ ys) (ver + 1) fz)) else none
    | _ => none
  | _ => none
  else none

def bnd (d : Int) : Option AV → Option Int
  | none => some d
  | some (.int _ n) => some n
  | _ => none

/-- a slice's bounds within n, and whether its room is cut off at its end -/
def bnds (n : Nat) (lo hi mx : Option AV) : Option (Nat × Nat × Bool) := match bnd 0 lo, bnd n hi with
  | some l, some h => if 0 ≤ l ∧ l ≤ h ∧ h ≤ n then (match mx with
      | none => some (l.toNat, h.toNat, false)
      | some (.int _ m) => if hi.isSome = true ∧ m = h then some (l.toNat, h.toNat, true) else none
      | some _ => none) else none
  | _, _ => none

def cut {α : Type} (xs : List α) (l h : Nat) : List α := (xs.drop l).take (h - l)

def sliceOf (P : Program) (H : Heap) (t : TypeId) (x : AV) (lo hi mx : Option AV) : Option (AV × Heap) :=
  match ixOf P t with
  | some .str => match x with
    | .str s => match bnds s.length lo hi mx with
      | some (l, h, false) => some (.str (cut s l h), H)
      | _ => none
    | _ => none
  | some (.sl sz _) => match x with
    | .nils => match bnds 0 lo hi mx with
      | some _ => some (.nils, H)
      | none => none
    | .view xs _ => match bnds xs.length lo hi mx with
      | some (l, h, ex) => if l = 0 ∨ allLen sz xs = true then some (.view (cut xs l h) ex, H) else none
      | none => none
    | .row b ver hs off len => match bnds len lo hi mx with
      | some (l, h, false) => if l = 0 ∨ hs = sz then some (.row b ver hs (off + l) (h - l), H) else none
      | some (l, h, true) => if l = 0 ∨ hs = sz then (match frz (.row b ver hs off h) H with
        | some (.view xs _, H') => some (.view (cut xs l h) true, H')
        | _ => none) else none
      | none => none
    | _ => none
  | some (.arr n sz) => match x with
    | .ptr b c => match bnds n lo hi mx with
      | some (l, h, ex) => match H[b]? with
        | some (.box cs) => if sz = 1 ∧ c + n ≤ cs.length ∧ refFreeL cs = true then some (.view (cut ((cs.drop c).take n) l h) ex, H.set b (.fbox cs)) else none
        | some (.fbox cs) => if sz = 1 ∧ c + n ≤ cs.length ∧ refFreeL cs = true then some (.view (cut ((cs.drop c).take n) l h) ex, H) else none
        | _ => none
      | none => none
    | _ => none
  | none => none

def indexAddrOf (P : Program) (t : TypeId) (x : AV) (i : Int) : Option AV :=
  match ixOf P t, x with
  | some (.sl sz _), .view xs _ => if 0 ≤ i ∧ i < xs.length then (match xs[i.toNat]? with | some y => if y.cells.length = sz then some (.vptr y 0) else none | none => none) else none
  | some (.sl sz _), .row b ver hs off len => if 0 ≤ i ∧ i < len ∧ hs = sz then some (.rptr b ver (off + i.toNat) 0) else none
  | some (.arr n sz), .ptr b c => if 0 ≤ i ∧ i < n then some (.ptr b (c + i.toNat * sz)) else none
  | some (.arr n sz), .vptr y c => if 0 ≤ i ∧ i < n then some (.vptr y (c + i.toNat * sz)) else none
  | some (.arr n sz), .rptr b ver j c => if 0 ≤ i ∧ i < n then some (.rptr b ver j (c + i.toNat * sz)) else none
  | _, _ => none

def elemShp (P : Program) (t : TypeId) : Option (Bool × Nat) := match P.underlying t with
  | some (.array _ e) => shp P e
  | _ => none
def indexOf (P : Program) (t : TypeId) (x : AV) (i : Int) : Option AV :=
  match ixOf P t, x with
  | some .str, .str s => if 0 ≤ i then (match s[i.toNat]? with | some c => some (.int .u8 c.toNat) | none => none) else none
  | some (.arr n _), .agg cs => if 0 ≤ i ∧ i < n ∧ elemShp P t = some (false, 1) then cs[i.toNat]? else none
  | _, _ => none

def addCell (a : AV) (d : Nat) : Option AV := match a with
  | .ptr b c => some (.ptr b (c + d))
  | .rptr b ver i c => some (.rptr b ver i (c + d))
  | .vptr x c => some (.vptr x (c + d))
  | _ => none

def bitsOp (op : BinOp) (k : IntKind) (x y : Int) : Option Int :=
  let a := BitVec.ofInt k.bits x
  let b := BitVec.ofInt k.bits y
  match op with
  | .and => some (k.wrap (a &&& b).toNat)
  | .or => some (k.wrap (a ||| b).toNat)
  | .xor => some (k.wrap (a ^^^ b).toNat)
  | .andNot => some (k.wrap (a &&& ~~~b).toNat)
  | _ => none

def intOp (op : BinOp) (k : IntKind) (x y : Int) : Option AV :=
  match op with
  | .add => some (.int k (k.wrap (x + y)))
  | .sub => some (.int k (k.wrap (x - y)))
  | .mul => some (.int k (k.wrap (x * y)))
  | .quo => if y = 0 then none else some (.int k (k.wrap (x.tdiv y)))
  | .rem => if y = 0 then none else some (.int k (x.tmod y))
  | .shl => if y < 0 then none else some (.int k (k.wrap (x * 2 ^ (min y.toNat k.bits))))
  | .shr => if y < 0 then none else some (.int k (x.fdiv (2 ^ (min y.toNat k.bits))))
  | .eql => some (.bool (x == y))
  | .neq => some (.bool (x != y))
  | .lss => some (.bool (decide (x < y)))
  | .leq => some (.bool (decide (x ≤ y)))
  | .gtr => some (.bool (decide (x > y)))
  | .geq => some (.bool (decide (x ≥ y)))
  | op => match bitsOp op k x y with | some n => some (.int k n) | none => none

def strOp (op : BinOp) (x y : List UInt8) : Option AV :=
  match op with
  | .add => if x.length + y.length ≤ maxRoom then some (.str (x ++ y)) else none
  | .eql => some (.bool (x == y))
  | .neq => some (.bool !(x == y))
  | .lss => some (.bool (Op.bytesLess x y))
  | _ => none

inductive Kd where
  | b | i | s
def plainFs (f : TypeId → Option (List Kd)) : List Field → Nat → Option (List Kd)
  | [], _ => some []
  | fd :: fs, o => if fd.name = "_" ∨ fd.offset ≠ o then none else match f fd.type with
    | some ks => match plainFs f fs (o + ks.length) with
      | some r => some (ks ++ r)
      | none => none
    | none => none
def plainU (P : Program) (f : TypeId → Option (List Kd)) (t : TypeId) : Option (List Kd) := match P.underlying t with
  | some .bool => some [.b]
  | some (.int _) => some [.i]
  | some .string => some [.s]
  | some (.struct fs) => if P.stoodInHeld t = true then none else plainFs f fs.toList 0
  | some (.array n e) => match f e with
    | some ks => some (List.replicate n ks).flatten
    | none => none
  | _ => none
/-- the kinds of cells of a type of whole numbers, bools and strings, laid one behind the other -/
def plainK (P : Program) : Nat → TypeId → Option (List Kd)
  | 0, _ => none
  | d + 1, t => match plainU P (plainK P d) t with
    | some ks => if szOf P t = some ks.length ∧ 0 < ks.length then some ks else none
    | none => none
def plainOk (P : Program) (t : TypeId) : Option (List Kd) := if P.eqGuardType P.depth t = true then none else if isAggT P t = some true then plainK P 20 t else none
/-- cells of these kinds held against each other -/
def eqK : List Kd → List AV → List AV → Option Bool
  | [], [], [] => some true
  | .b :: ks, .bool x :: cs, .bool y :: ds => match eqK ks cs ds with | some r => some ((x == y) && r) | none => none
  | .i :: ks, .int k x :: cs, .int k' y :: ds => if k = k' then (match eqK ks cs ds with | some r => some ((x == y) && r) | none => none) else none
  | .s :: ks, .str x :: cs, .str y :: ds => match eqK ks cs ds with | some r => some ((x == y) && r) | none => none
  | _, _, _ => none

def isBoolT (P : Program) (t : TypeId) : Bool := match P.underlying t with
  | some .bool => true
  | _ => false
def binOpOf (P : Program) (op : BinOp) (t : TypeId) (x y : AV) : Option AV :=
  match x, y with
  | .int k a, .int k' b => match op with
    | .shl | .shr => intOp op k a b
    | _ => if k = k' then intOp op k a b else none
  | .str a, .str b => strOp op a b
  | .bool a, .bool b => if isBoolT P t = true then (match op with
    | .eql => some (.bool (a == b))
    | .neq => some (.bool !(a == b))
    | _ => none) else none
  | .agg cs, .agg ds => match plainOk P t with
    | some ks => match op, eqK ks cs ds with
      | .eql, some b => some (.bool b)
      | .neq, some b => some (.bool !b)
      | _, _ => none
    | none => none
  | _, _ => none

def unOpOf (op : UnOp) (x : AV) : Option AV :=
  match op, x with
  | .not, .bool b => some (.bool !b)
  | .neg, .int k n => some (.int k (k.wrap (0 - n)))
  | _, _ => none

def runesOf : List AV → Option (List UInt8)
  | [] => some []
  | .int .i32 n :: cs => match runesOf cs with | some l => some ((Utf8.encode n).data.toList ++ l) | none => none
  | _ => none
def bytesOf : List AV → Option (List UInt8)
  | [] => some []
  | .int .u8 n :: cs => match bytesOf cs with | some l => some (UInt8.ofNat n.toNat :: l) | none => none
  | _ => none

inductive Cv where
  | int (k : IntKind) | string | bytes | ofBytes | ofRunes
def cvOf (P : Program) (src dst : TypeId) : Option Cv :=
  match P.underlying src, P.underlying dst with
  | some (.int _), some (.int k) => some (.int k)
  | some (.slice e), some .string => match P.underlying e with
    | some (.int .u8) => some .ofBytes
    | some (.int .i32) => some .ofRunes
    | _ => none
  | some .string, some .string => some .string
  | some (.int _), some .string => some .string
  | some .string, some (.slice e) => match P.underlying e with
    | some (.int .u8) => some .bytes
    | _ => none
  | _, _ => none
def isStr : AV → Bool
  | .str _ => true
  | _ => false
def convertOf (P : Program) (H : Heap) (src dst : TypeId) (x : AV) : Option (AV × Heap) :=
  match cvOf P src dst, x with
  | some (.int k), .int _ n => some (.int k (k.wrap n), H)
  | some .string, .str s => some (.str s, H)
  | some .string, .int _ n => some (.str (Utf8.encode n).data.toList, H)
  | some .bytes, .str s => if s.length ≤ maxRoom then some (.view (s.map fun c => .int .u8 c.toNat) false, H) else none
  | some .ofBytes, x => if isStr x = true then none else match elemsOf H x with
    | some l => match bytesOf l with | some s => some (.str s, H) | none => none
    | none => none
  | some .ofRunes, x => if isStr x = true then none else match elemsOf H x with
    | some l => match runesOf l with | some s => some (.str s, H) | none => none
    | none => none
  | _, _ => none

/-- where the fields lie, and how many cells each has -/
def placesOf (P : Program) (t : TypeId) : Option (List (Nat × Nat)) := match P.underlying t with
  | some (.struct fs) => fs.toList.mapM fun f => (P.info? f.type).map fun i => (f.offset, i.size)
  | _ => none
/-- its cells are its value's -/
def solid : AV → Bool
  | .undef => false
  | .tup _ => false
  | .bool _ => true
  | .int _ _ => true
  | .str _ => true
  | .nilp => true
  | .ptr _ _ => true
  | .rptr _ _ _ _ => true
  | .vptr _ _ => true
  | .nils => true
  | .view _ _ => true
  | .row _ _ _ _ _ => true
  | .agg _ => true
  | .fn _ _ => true
  | .nilf => true
  | .iface _ _ => true
  | .nili => true
  | .iter _ => true
def solidL : List (Nat × AV) → Bool
  | [] => true
  | p :: ps => solid p.2 && solidL ps
def fillC (pl : List (Nat × Nat)) (cs : List AV) : List (Nat × AV) → Option (List AV)
  | [] => some cs
  | (i, v) :: r => match pl[i]? with
    | some (d, n) => if v.cells.length = n ∧ d + n ≤ cs.length then fillC pl (splice cs d v.cells) r else none
    | none => none
def cellsOfL : List (Nat × AV) → List AV
  | [] => []
  | p :: ps => p.2.cells ++ cellsOfL ps
def allSz (s : Nat) : List (Nat × AV) → Bool
  | [] => true
  | p :: ps => decide (p.2.cells.length = s) && allSz s ps
def inOrder (i : Nat) : List (Nat × AV) → Bool
  | [] => true
  | p :: ps => decide (p.1 = i) && inOrder (i + 1) ps
def buildOf (P : Program) (t : TypeId) (parts : List (Nat × AV)) : Option AV :=
  if solidL parts = true then match zeroC P t with
  | some z => match ixOf P t with
    | some (.arr n s) => if inOrder 0 parts = true ∧ parts.length = n ∧ allSz s parts = true ∧ z.length = n * s then some (.agg (cellsOfL parts)) else none
    | some _ => none
    | none => match placesOf P t with
      | some pl => match fillC pl z parts with
        | some cs => some (.agg cs)
        | none => none
      | none => none
  | none => none
  else none

def intArgs : List AV → Option (List (IntKind × Int))
  | [] => some []
  | .int k n :: l => match intArgs l with | some r => some ((k, n) :: r) | none => none
  | _ => none

def lenOf (P : Program) (t : TypeId) (x : AV) : Option AV :=
  match ixOf P t, x with
  | some .str, .str s => some (.int .i64 s.length)
  | some (.arr n _), _ => some (.int .i64 n)
  | some (.sl _ _), .nils => some (.int .i64 0)
  | some (.sl _ _), .view xs _ => some (.int .i64 xs.length)
  | some (.sl _ _), .row _ _ _ _ len => some (.int .i64 len)
  | _, _ => none

def builtinOf (P : Program) (H : Heap) (b : Builtin) (ts : Array TypeId) (args : List AV) : Option (AV × Heap) :=
  match b, args with
  | .len, [x] => match ts[0]? with
    | some t => match lenOf P t x with | some v => some (v, H) | none => none
    | none => none
  | .append, [s, x] => match ts[0]? with
    | some t => match ixOf P t with
      | some (.sl sz bytes) => match elemsOf H x, ts[1]? with
        | some ys, some u => match ixOf P u with
          | some _ => appendTo H sz bytes s ys
          | none => none
        | _, _ => none
      | _ => none
    | none => none
  | .max, .int k a :: [.int _ b] => some (.int k (if b > a then b else a), H)
  | .min, .int k a :: [.int _ b] => some (.int k (if b < a then b else a), H)
  | _, _ => none

def evsL (env : Env) : List (Nat × Operand) → List (Nat × AV)
  | [] => []
  | p :: ps => (p.1, ev env p.2) :: evsL env ps
def evlL (env : Env) : List Operand → List AV
  | [] => []
  | p :: ps => ev env p :: evlL env ps
def evs (env : Env) (ps : Array (Nat × Operand)) : List (Nat × AV) := evsL env ps.toList
def evl (env : Env) (ps : Array Operand) : List AV := evlL env ps.toList

def moveOf (env : Env) (H : Heap) : Operand → AV × Heap
  | .const (.slice _ 0 0) => (.row H.length 0 0 0 0, H ++ [.row 0 [] 0 0])
  | .const (.bool b) => (.bool b, H)
  | .const (.int k n) => (.int k n, H)
  | .const (.string s) => (.str s.data.toList, H)
  | .const v => (aval v, H)
  | .tmp t => ((env[t]?).getD .undef, H)
  | .func f => (.fn f [], H)
  | .global _ => (.undef, H)

/-- an operation that calls no Go function -/
def aop (P : Program) (ns : List Nat) (env : Env) (H : Heap) (o : Oper) : Option (AV × Heap) :=
  match o.op with
  | .move x => some (moveOf env H x)
  | .assign x => some (moveOf env H x)
  | .pick c a b => match ev env c with
    | .bool t => some (if t then ev env a else ev env b, H)
    | _ => none
  | .alloc t => match zeroC P t with
    | some cs => some (newBox H cs)
    | none => none
  | .box _ x => if solid (ev env x) = true then some (newBox H (ev env x).cells) else none
  | .load t a => match shp P t with
    | some (g, n) => match getAt H g n (ev env a) with | some v => some (v, H) | none => none
    | none => none
  | .store t a x => match szOf P t with
    | some n => match setAt H ns n (ev env a) (ev env x) with | some H' => some (.tup [], H') | none => none
    | none => none
  | .nilCheck x => match ev env x with
    | .ptr b c => some (.ptr b c, H)
    | .rptr b v i c => some (.rptr b v i c, H)
    | .vptr x c => some (.vptr x c, H)
    | .fn f cs => some (.fn f cs, H)
    | _ => none
  | .binOp op t x y _ => match binOpOf P op t (ev env x) (ev env y) with | some v => some (v, H) | none => none
  | .unOp op _ x => match unOpOf op (ev env x) with | some v => some (v, H) | none => none
  | .convert s d x => convertOf P H s d (ev env x)
  | .build t ps => match buildOf P t (evs env ps) with | some v => some (v, H) | none => none
  | .buildSlice t n ps => match ixOf P t with
    | some (.sl sz _) => if 0 < sz ∧ n * sz ≤ 1048576 ∧ inOrder 0 (evs env ps) = true ∧ (evs env ps).length = n ∧ allSz sz (evs env ps) = true ∧ okCells (cellsOfL (evs env ps)) = true then
        match frzL ((evs env ps).map (·.2)) H with
        | some (xs, H') => some (.row H'.length 0 sz 0 n, H' ++ [.row sz xs 0 0])
        | none => none
      else none
    | _ => none
  | .makeFunc (.func f) first cs => if first.isEmpty then some (.fn f (evl env cs), H) else none
  | .makeSlice t l c => match ixOf P t, ev env l, ev env c with
    | some (.sl sz bytes), .int _ l, .int _ c => match P.underlying t with
      | some (.slice e) => match zeroC P e with
        | some z => if l = c ∧ 0 ≤ l ∧ l ≤ 4294967296 ∧ bytes ≤ 4096 ∧ 0 < sz ∧ z.length = sz ∧ refFreeL z = true then
            (match isAggT P e with
             | some g => if (g || sz == 1) = false then none else some (.row H.length 0 sz 0 l.toNat, H ++ [.row sz (List.replicate l.toNat (if g then .agg z else (z.head?).getD .undef)) 0 0])
             | none => none) else none
        | none => none
      | _ => none
    | _, _, _ => none
  | .slice t x lo hi mx => sliceOf P H t (ev env x) (lo.map (ev env)) (hi.map (ev env)) (mx.map (ev env))
  | .fieldAddr s x f => match fieldAt P s f with
    | some (d, _, _) => match addCell (ev env x) d with | some v => some (v, H) | none => none
    | none => none
  | .field s x f => match fieldAt P s f, ev env x with
    | some (d, g, n), .agg cs => match sub g d n (.agg cs) with | some v => some (v, H) | none => none
    | _, _ => none
  | .indexAddr t x i => match ev env i with
    | .int _ i => match indexAddrOf P t (ev env x) i with | some v => some (v, H) | none => none
    | _ => none
  | .index t x i => match ev env i with
    | .int _ i => match indexOf P t (ev env x) i with | some v => some (v, H) | none => none
    | _ => none
  | .range t x => match ixOf P t, ev env x with
    | some .str, .str s => some (.iter H.length, H ++ [.iter s 0])
    | _, _ => none
  | .next it true => match ev env it with
    | .iter b => match H[b]? with
      | some (.iter s pos) => if pos < s.length then
          (match Utf8.decode ⟨s.toArray⟩ pos with
           | (c, w) => some (.tup [.bool true, .int .i64 pos, .int .i32 c], H.set b (.iter s (pos + w))))
        else some (.tup [.bool false], H)
      | _ => none
    | _ => none
  | .extract t i => match ev env t with
    | .tup vs => match vs[i]? with | some v => some (v, H) | none => none
    | _ => none
  | .call { callee := .builtin b, args, argTypes } => builtinOf P H b argTypes (evl env args)
  | _ => none

structure Cfg where
  P : Program
  inl : FuncId → Bool
  prim : FuncId → List AV → Option AV
  rounds : Nat

inductive Ex where
  | normal | exit (id : Nat) | ret
/-- how a piece of code ends -/
inductive Res where
  | ok (e : Ex) (env : Env) (H : Heap)
  | fail
/-- what a call comes to -/
inductive VRes where
  | ok (v : AV) (H : Heap)
  | fail

abbrev Callee' := List Nat → FuncId → List AV → Heap → VRes

def putE (env : Env) (d : Option Tmp) (v : AV) : Env := match d with
  | some d => env.set d v
  | none => env

/-- is the operation wanted? -/
def wantE (ops : Array Oper) (env : Env) (o : Oper) : Option Bool := match o.guard with
  | none => some true
  | some (j, w) => match (ops[j]?).bind (·.dst) with
    | some t => match env[t]? with
      | some (.bool b) => some (b == w)
      | some (.tup []) => some false
      | _ => none
    | none => none

def aoper (P : Program) (call : Callee') (ns : List Nat) (env : Env) (H : Heap) (o : Oper) : VRes :=
  match o.op with
  | .call { callee := .value f, args, .. } => match ev env f with
    | .fn f cap => call ns f (evl env args ++ cap) H
    | _ => .fail
  | _ => match aop P ns env H o with
    | some (v, H') => .ok v H'
    | none => .fail

def aops (P : Program) (call : Callee') (ns : List Nat) (all : Array Oper) : List Oper → Env → Heap → Res
  | [], env, H => .ok .normal env H
  | o :: os, env, H => match wantE all env o with
    | some true => match aoper P call ns env H o with
      | .ok v H' => aops P call ns all os (putE env o.dst v) H'
      | .fail => .fail
    | some false => aops P call ns all os (putE env o.dst (.tup [])) H
    | none => .fail

/-! a region whose order is open: what each operation touches -/
def refs1 : AV → List Nat
  | .ptr b _ => [b]
  | .rptr b _ _ _ => [b]
  | .row b _ _ _ _ => [b]
  | .iter b => [b]
  | .agg cs => refsL cs
  | .tup cs => refsL cs
  | .fn _ cs => refsL cs
  | .iface _ v => refs1 v
  | .undef => []
  | .bool _ => []
  | .int _ _ => []
  | .str _ => []
  | .nilp => []
  | .vptr _ _ => []
  | .nils => []
  | .view _ _ => []
  | .nilf => []
  | .nili => []
where refsL : List AV → List Nat
  | [] => []
  | c :: cs => refs1 c ++ refsL cs

structure Touch where
  at_ : Nat
  reads : List Nat
  writes : List Nat
  loud : Bool
  keep : Nat → Bool

abbrev noKeep : Nat → Bool := fun _ => false
def news (n m : Nat) : List Nat := List.range' n (m - n)
def touch (inl : FuncId → Bool) (env : Env) (n m : Nat) (at_ : Nat) (o : Oper) : Touch := match o.op with
  | .load _ a => ⟨at_, refs1 (ev env a), [], false, noKeep⟩
  | .store _ a _ => ⟨at_, refs1 (ev env a), refs1 (ev env a), false, noKeep⟩
  | .slice _ x _ _ none => match ev env x with
    | .ptr b _ => ⟨at_, [b], [b], false, noKeep⟩
    | _ => ⟨at_, [], [], false, noKeep⟩
  | .slice _ x _ _ (some _) => ⟨at_, refs1 (ev env x), refs1 (ev env x), false, noKeep⟩
  | .convert _ _ x => ⟨at_, refs1 (ev env x), news n m, false, noKeep⟩
  | .next it _ => ⟨at_, refs1 (ev env it), refs1 (ev env it), false, noKeep⟩
  | .buildSlice _ _ ps => ⟨at_, refs1.refsL ((evs env ps).map (·.2)), refs1.refsL ((evs env ps).map (·.2)) ++ news n m, false, noKeep⟩
  | .call { callee := .builtin .append, args, .. } => ⟨at_, refs1.refsL (evl env args), refs1.refsL (evl env args) ++ news n m, false, noKeep⟩
  | .call { callee := .builtin _, .. } => ⟨at_, [], [], false, noKeep⟩
  | .call { callee := .value f, args, .. } => match ev env f with
    | .fn f cap => ⟨at_, refs1.refsL (evl env args ++ cap), refs1.refsL (evl env args ++ cap), inl f, noKeep⟩
    | _ => ⟨at_, [], [], true, noKeep⟩
  | _ => ⟨at_, [], news n m, false, noKeep⟩

open Classical in
/-- a loud step (a call on the caller's blocks) leaves alone the blocks that it did not change -/
noncomputable def ease (t : Touch) (H H' : Heap) : Touch := { t with keep := fun b => t.loud && decide (b < H.length ∧ H'[b]? = H[b]?) }
abbrev Log := List Touch
def put1 (t : Touch) (log : Log) : Log := if t.reads.isEmpty && t.writes.isEmpty && !t.loud then log else t :: log
def meets (a b : List Nat) : Bool := a.any fun x => b.contains x
def clash (a b : Touch) : Bool := (a.loud && b.loud) || (a.loud && (!b.writes.isEmpty || b.reads.any fun x => !a.keep x)) || (b.loud && (!a.writes.isEmpty || a.reads.any fun x => !b.keep x)) || meets a.writes b.reads || meets a.reads b.writes || meets a.writes b.writes
/-- does i come ahead of j in every order? -/
def prec (all : Array Oper) : Nat → Nat → Nat → Bool
  | 0, _, _ => false
  | n + 1, i, j => match all[j]? with
    | some o => o.after.toList.any fun e => Region.binds .any e && (e.on == i || prec all n i e.on)
    | none => false
def logOk (all : Array Oper) : Log → Bool
  | [] => true
  | t :: log => (log.all fun t' => !clash t' t || prec all all.size t'.at_ t.at_) && logOk all log

def adraw (P : Program) (inl : FuncId → Bool) (call : Callee') (ns : List Nat) (all : Array Oper) : Nat → List Oper → Env → Heap → Log → Res
  | _, [], env, H, log => if logOk all log = true then .ok .normal env H else .fail
  | j, o :: os, env, H, log => match wantE all env o with
    | some true => match aoper P call ns env H o with
      | .ok v H' => adraw P inl call ns all (j + 1) os (putE env o.dst v) H' (put1 (ease (touch inl env H.length H'.length j o) H H') log)
      | .fail => .fail
    | some false => adraw P inl call ns all (j + 1) os (putE env o.dst (.tup [])) H log
    | none => .fail

def scrubV (n : Nat) (v : AV) : AV := if refOk n v = true then v else .undef
def scrub (n : Nat) (env : Env) : Env := env.map (scrubV n)

def loopN (run : List Nat → Env → Heap → Res) (ns : List Nat) : Nat → Env → Heap → Res
  | 0, _, _ => .fail
  | f + 1, env, H => match run (H.length :: ns) env H with
    | .ok .normal env' H' => loopN run ns f (scrub H.length env') (H'.take H.length)
    | .ok .ret env' H' => .ok .ret env' H'
    | .ok (.exit i) env' H' => .ok (.exit i) env' H'
    | .fail => .fail

def aexec (C : Cfg) (call : Callee') : Code → List Nat → Env → Heap → Res
  | .skip, _, env, H => .ok .normal env H
  | .region _ ops false, n0, env, H => aops C.P call n0 ops ops.toList env H
  | .region _ ops true, n0, env, H => adraw C.P C.inl call n0 ops 0 ops.toList env H []
  | .seq a b, n0, env, H => match aexec C call a n0 env H with
    | .ok .normal env' H' => aexec C call b n0 env' H'
    | .ok .ret env' H' => .ok .ret env' H'
    | .ok (.exit i) env' H' => .ok (.exit i) env' H'
    | .fail => .fail
  | .cond c t e, n0, env, H => match ev env c with
    | .bool true => aexec C call t n0 env H
    | .bool false => aexec C call e n0 env H
    | _ => .fail
  | .block id b, n0, env, H => match aexec C call b n0 env H with
    | .ok (.exit i) env' H' => if i = id then .ok .normal env' H' else .ok (.exit i) env' H'
    | .ok .normal env' H' => .ok .normal env' H'
    | .ok .ret env' H' => .ok .ret env' H'
    | .fail => .fail
  | .loop b, n0, env, H => loopN (aexec C call b) n0 C.rounds env H
  | .exit i, _, env, H => .ok (.exit i) env H
  | .ret, _, env, H => .ok .ret env H
  | _, _, _, _ => .fail

def getRes (P : Program) (env : Env) (H : Heap) : List ResultVar → Option (List AV)
  | [] => some []
  | .tmp t :: r => match env[t]? with
    | some v => match getRes P env H r with
      | some l => some (v :: l)
      | none => none
    | none => none
  | .cell t ty :: r => match env[t]? with
    | some a => match shp P ty with
      | some (g, n) => match getAt H g n a with
        | some v => match getRes P env H r with
          | some l => some (v :: l)
          | none => none
        | none => none
      | none => none
    | none => none
def packRes : List AV → AV
  | [v] => v
  | vs => .tup vs

mutual
/-- rows that were made go out under new numbers -/
def expo (n0 : Nat) (H : Heap) : AV → List (Nat × Blk) → Option (AV × List (Nat × Blk))
  | .row b ver hs off len, acc => if b < n0 then some (.row b ver hs off len, acc) else match acc.findIdx? (·.1 == b) with
    | some i => some (.row (n0 + i) ver hs off len, acc)
    | none => match H[b]? with
      | some (.row sz xs ver' fz) => if ver = ver' then some (.row (n0 + acc.length) ver hs off len, acc ++ [(b, .row sz xs ver' fz)]) else none
      | _ => none
  | .agg cs, acc => match expoL n0 H cs acc with | some (cs', acc') => some (.agg cs', acc') | none => none
  | .tup cs, acc => match expoL n0 H cs acc with | some (cs', acc') => some (.tup cs', acc') | none => none
  | .ptr b c, acc => if b < n0 then some (.ptr b c, acc) else none
  | .rptr b v i c, acc => if b < n0 then some (.rptr b v i c, acc) else none
  | .iter _, _ => none
  | .fn f cs, acc => if refOkL n0 cs = true then some (.fn f cs, acc) else none
  | .iface t v, acc => if refOk n0 v = true then some (.iface t v, acc) else none
  | .undef, acc => some (.undef, acc)
  | .bool b, acc => some (.bool b, acc)
  | .int k n, acc => some (.int k n, acc)
  | .str s, acc => some (.str s, acc)
  | .nilp, acc => some (.nilp, acc)
  | .vptr x c, acc => some (.vptr x c, acc)
  | .nils, acc => some (.nils, acc)
  | .view xs e, acc => some (.view xs e, acc)
  | .nilf, acc => some (.nilf, acc)
  | .nili, acc => some (.nili, acc)
def expoL (n0 : Nat) (H : Heap) : List AV → List (Nat × Blk) → Option (List AV × List (Nat × Blk))
  | [], acc => some ([], acc)
  | c :: cs, acc => match expo n0 H c acc with
    | some (c', acc1) => match expoL n0 H cs acc1 with
      | some (cs', acc2) => some (c' :: cs', acc2)
      | none => none
    | none => none
end

def env0 (fn : Func) (args : List AV) : Env := args ++ List.replicate (fn.ntmps - args.length) (.tup [])

def results' (P : Program) (fn : Func) (env : Env) (H : Heap) : Option AV := match getRes P env H fn.results.toList with
  | some l => some (packRes l)
  | none => none

def leaveInl (P : Program) (fn : Func) (n0 : Nat) (env : Env) (H : Heap) : VRes := match results' P fn env H with
  | some v => match expo n0 H v [] with
    | some (v, new) => .ok v (H.take n0 ++ new.map (·.2))
    | none => .fail
  | none => .fail
def leaveVal (P : Program) (fn : Func) (env : Env) (H : Heap) : Option AV := match results' P fn env H with
  | some v => match frz v H with
    | some (v, _) => some v
    | none => none
  | none => none

/-- for each operation of a region the ones that come ahead of it in every order, as bits -/
def befL : List Oper → List Nat → List Nat
  | [], acc => acc
  | o :: os, acc => befL os (acc ++ [o.after.toList.foldl (fun s e => if Region.binds .any e then s ||| 2 ^ e.on ||| acc.getD e.on 0 else s) 0])
/-- what is bound is written ahead; operations that look at one temporary are ordered -/
def regOk (ops : Array Oper) : Bool := let bl := befL ops.toList []
  (List.range ops.size).all fun j => match ops[j]? with
    | some y => (y.after.toList.all fun e => decide (e.on < j) || !Region.binds .any e) && (List.range j).all fun i => match ops[i]? with
      | some x => (bl.getD j 0).testBit i || x.apart ops y
      | none => true
    | none => true
/-- each region whose order is open -/
def statOk : Code → Bool
  | .region _ ops true => regOk ops
  | .seq a b => statOk a && statOk b
  | .cond _ a b => statOk a && statOk b
  | .block _ b => statOk b
  | .loop b => statOk b
  | _ => true

/-- a function's code, if it may be run so -/
def okCode (P : Program) (f : FuncId) : Option Code := match P.funcs[f]? with
  | none => none
  | some fn => match fn.body with
    | none => none
    | some code => if statOk code = true ∧ (fn.name == "runtime.NumGoroutine") = false then some code else none

/-- what a function of values answers -/
def vcall (C : Cfg) (call : Callee') (f : FuncId) (args : List AV) : Option AV := match C.prim f args with
  | some v => some v
  | none => match C.P.funcs[f]?, okCode C.P f with
    | some fn, some code => match aexec C call code [] (env0 fn args) [] with
      | .ok .normal env H => leaveVal C.P fn env H
      | .ok .ret env H => leaveVal C.P fn env H
      | .ok (.exit _) _ _ => none
      | .fail => none
    | _, _ => none

/-- a callee that works on the caller's own memory -/
def icall (C : Cfg) (call : Callee') (ns : List Nat) (f : FuncId) (args : List AV) (H : Heap) : VRes := match C.P.funcs[f]?, okCode C.P f with
  | some fn, some code => match aexec C call code (H.length :: ns) (env0 fn args) H with
    | .ok .normal env H' => leaveInl C.P fn H.length env H'
    | .ok .ret env H' => leaveInl C.P fn H.length env H'
    | .ok (.exit _) _ _ => .fail
    | .fail => .fail
  | _, _ => .fail

def acall (C : Cfg) : Nat → Callee'
  | 0, _, _, _, _ => .fail
  | n + 1, ns, f, args, H => if C.inl f = true then icall C (acall C n) ns f args H
    else match frzL args H with
      | none => .fail
      | some (args', H1) => match vcall C (acall C n) f args' with
        | some v => .ok v H1
        | none => .fail

end
end Go.Vi
end SViCore
section SViRel
/- What an abstract value says of a value of the model's, and of the memory. -/
namespace Go.Vi
open Go

structure Mem where
  w : World
  σ : Nat → Nat → Option (Option (Nat × Nat))
  kept : Nat → Nat → Prop

def flat : List AV → List AV
  | [] => []
  | x :: xs => x.cells ++ flat xs

theorem flat_append (xs ys : List AV) : flat (xs ++ ys) = flat xs ++ flat ys := by
  induction xs with
  | nil => rfl
  | cons x xs ih => simp [flat, ih]

/-- cells c, one behind the other, hold what vals says, and stay -/
def Lies (M : Mem) (g o : Nat) (vals : List Value) : Prop := ∀ j v, vals[j]? = some v → M.w.cell? ⟨g, o + j, none⟩ = some v ∧ M.kept g (o + j)

inductive VR (M : Mem) : AV → Value → Prop
  | undef (x : Value) : VR M .undef x
  | bool (b : Bool) : VR M (.bool b) (.bool b)
  | int (k : IntKind) (n : Int) : VR M (.int k n) (.int k n)
  | str (s : List UInt8) : VR M (.str s) (.string ⟨s.toArray⟩)
  | nilp : VR M .nilp (.pointer none)
  | ptr {b c g z : Nat} (h : M.σ b 0 = some (some (g, z))) : VR M (.ptr b c) (.pointer (some ⟨g, c, none⟩))
  | rptr {b ver i c g sz : Nat} (h : M.σ b ver = some (some (g, sz))) : VR M (.rptr b ver i c) (.pointer (some ⟨g, i * sz + c, none⟩))
  | vptr (y : AV) (c g o : Nat) (vals : List Value) (hl : vals.length = y.cells.length) (hc : Lies M g o vals)
      (hr : ∀ (j : Nat) u v, y.cells[j]? = some u → vals[j]? = some v → VR M u v) (hp : pureE y = true) : VR M (.vptr y c) (.pointer (some ⟨g, o + c, none⟩))
  | nils (a : Option Addr) : VR M .nils (.slice a 0 0)
  | view0 (e : Bool) (a : Option Addr) (cap : Nat) (h : e = true → cap = 0) : VR M (.view [] e) (.slice a 0 cap)
  | view (xs : List AV) (e : Bool) (g o sz cap : Nat) (vals : List Value) (h0 : 0 < sz) (hs : ∀ x ∈ xs, x.cells.length = sz) (hl : vals.length = (flat xs).length)
      (hc : Lies M g o vals) (hr : ∀ (j : Nat) u v, (flat xs)[j]? = some u → vals[j]? = some v → VR M u v) (hp : pureL xs = true)
      (hcap : xs.length ≤ cap) (he : e = true → cap = xs.length) : VR M (.view xs e) (.slice (some ⟨g, o, none⟩) xs.length cap)
  | row0 {b ver hs : Nat} (a : Option Addr) (h : M.σ b ver = some none) : VR M (.row b ver hs 0 0) (.slice a 0 0)
  | rowE {b ver hs off : Nat} (a : Option Addr) (h : M.σ b ver ≠ none) : VR M (.row b ver hs off 0) (.slice a 0 0)
  | row {b ver off len cap g sz n : Nat} (h : M.σ b ver = some (some (g, sz))) (h0 : 0 < sz) (hn : ∃ e, M.w.shape? g = some (e, n)) (hcap : (off + cap) * sz = n) (hle : len ≤ cap) :
      VR M (.row b ver sz off len) (.slice (some ⟨g, off * sz, none⟩) len cap)
  | agg (cs : List AV) (vs : List Value) (hl : vs.length = cs.length) (hr : ∀ (j : Nat) u v, cs[j]? = some u → vs[j]? = some v → VR M u v) : VR M (.agg cs) (.agg vs.toArray)
  | tup (cs : List AV) (vs : List Value) (hl : vs.length = cs.length) (hr : ∀ (j : Nat) u v, cs[j]? = some u → vs[j]? = some v → VR M u v) : VR M (.tup cs) (.tuple vs.toArray)
  | fn (f : FuncId) (cs : List AV) (vs : List Value) (hl : vs.length = cs.length) (hr : ∀ (j : Nat) u v, cs[j]? = some u → vs[j]? = some v → VR M u v) : VR M (.fn f cs) (.func (.func f) #[] vs.toArray)
  | nilf : VR M .nilf .nilFunc
  | iface (t : TypeId) (v : AV) (x : Value) (h : VR M v x) : VR M (.iface t v) (.iface t x)
  | nili : VR M .nili .nilIface
  | iter {b g : Nat} (h : M.σ b 0 = some (some (g, 0))) : VR M (.iter b) (.pointer (some ⟨g, 0, none⟩))

/-- elementwise -/
def VRs (M : Mem) (cs : List AV) (vs : List Value) : Prop := vs.length = cs.length ∧ ∀ (j : Nat) u v, cs[j]? = some u → vs[j]? = some v → VR M u v

theorem VRs.nil (M : Mem) : VRs M [] [] := ⟨rfl, fun _ _ _ h => by simp at h⟩
theorem VRs.cons {M : Mem} {c : AV} {v : Value} {cs : List AV} {vs : List Value} (h : VR M c v) (hs : VRs M cs vs) : VRs M (c :: cs) (v :: vs) :=
  ⟨by simp [hs.1], fun j u x hu hx => by
    cases j with
    | zero => simp at hu hx; subst hu; subst hx; exact h
    | succ j => simp at hu hx; exact hs.2 j u x hu hx⟩
theorem VRs.inv {M : Mem} {c : AV} {cs : List AV} {vs : List Value} (h : VRs M (c :: cs) vs) : ∃ v vs', vs = v :: vs' ∧ VR M c v ∧ VRs M cs vs' := by
  obtain ⟨hl, hr⟩ := h
  cases vs with
  | nil => simp at hl
  | cons v vs => exact ⟨v, vs, rfl, hr 0 c v rfl rfl, by simpa using hl, fun j u x hu hx => hr (j + 1) u x (by simpa using hu) (by simpa using hx)⟩
theorem VRs.inv0 {M : Mem} {vs : List Value} (h : VRs M [] vs) : vs = [] := by cases vs with | nil => rfl | cons _ _ => simp [VRs] at h
theorem VRs.append {M : Mem} {cs ds : List AV} {vs xs : List Value} (h : VRs M cs vs) (h' : VRs M ds xs) : VRs M (cs ++ ds) (vs ++ xs) := by
  induction cs generalizing vs with
  | nil => rw [h.inv0]; simpa using h'
  | cons c cs ih =>
    obtain ⟨v, vs', rfl, h1, h2⟩ := h.inv
    exact VRs.cons h1 (ih h2)
theorem VRs.take {M : Mem} {cs : List AV} {vs : List Value} (h : VRs M cs vs) (n : Nat) : VRs M (cs.take n) (vs.take n) :=
  ⟨by simp [h.1], fun j u x hu hx => by
    rw [List.getElem?_take] at hu hx
    split at hu
    · rename_i hj; rw [if_pos hj] at hx; exact h.2 j u x hu hx
    · simp at hu⟩
theorem VRs.drop {M : Mem} {cs : List AV} {vs : List Value} (h : VRs M cs vs) (n : Nat) : VRs M (cs.drop n) (vs.drop n) :=
  ⟨by simp [h.1], fun j u x hu hx => by
    rw [List.getElem?_drop] at hu hx
    exact h.2 _ u x hu hx⟩
theorem VRs.get {M : Mem} {cs : List AV} {vs : List Value} (h : VRs M cs vs) {j : Nat} {u : AV} (hu : cs[j]? = some u) : ∃ v, vs[j]? = some v ∧ VR M u v := by
  have hj : j < vs.length := by
    have := (List.getElem?_eq_some_iff.1 hu).1
    rw [h.1]; exact this
  exact ⟨vs[j], List.getElem?_eq_getElem hj, h.2 j u _ hu (List.getElem?_eq_getElem hj)⟩
theorem VRs.set {M : Mem} {cs : List AV} {vs : List Value} (h : VRs M cs vs) (j : Nat) {u : AV} {v : Value} (hv : VR M u v) : VRs M (cs.set j u) (vs.set j v) :=
  ⟨by simp [h.1], fun i a x ha hx => by
    rw [List.getElem?_set] at ha hx
    by_cases hij : j = i
    · subst hij
      simp only [if_true] at ha hx
      split at ha
      · split at hx
        · cases ha; cases hx; exact hv
        · cases hx
      · cases ha
    · rw [if_neg hij] at ha hx
      exact h.2 i a x ha hx⟩

/-- Memory goes on: what is placed stays placed, shapes stay, what stays stays. -/
structure Ext (M M' : Mem) : Prop where
  σ : ∀ b v x, M.σ b v = some x → M'.σ b v = some x
  shape : ∀ g s, M.w.shape? g = some s → M'.w.shape? g = some s
  kept : ∀ g o, M.kept g o → M'.kept g o
  cell : ∀ g o v, M.kept g o → M.w.cell? ⟨g, o, none⟩ = some v → M'.w.cell? ⟨g, o, none⟩ = some v
  size : M.w.heap.size ≤ M'.w.heap.size

theorem Ext.refl (M : Mem) : Ext M M := ⟨fun _ _ _ h => h, fun _ _ h => h, fun _ _ h => h, fun _ _ _ _ h => h, Nat.le_refl _⟩
theorem Ext.trans {M M1 M2 : Mem} (h : Ext M M1) (h' : Ext M1 M2) : Ext M M2 :=
  ⟨fun b v x hx => h'.σ b v x (h.σ b v x hx), fun g s hs => h'.shape g s (h.shape g s hs), fun g o ho => h'.kept g o (h.kept g o ho),
   fun g o v hp hv => h'.cell g o v (h.kept g o hp) (h.cell g o v hp hv), Nat.le_trans h.size h'.size⟩

theorem Lies.ext {M M' : Mem} {g o : Nat} {vals : List Value} (h : Lies M g o vals) (hE : Ext M M') : Lies M' g o vals :=
  fun j v hv => ⟨hE.cell _ _ _ (h j v hv).2 (h j v hv).1, hE.kept _ _ (h j v hv).2⟩

theorem VR.ext {M M' : Mem} (hE : Ext M M') {a : AV} {x : Value} (h : VR M a x) : VR M' a x := by
  induction h with
  | undef x => exact .undef x
  | bool b => exact .bool b
  | int k n => exact .int k n
  | str s => exact .str s
  | nilp => exact .nilp
  | ptr h => exact .ptr (hE.σ _ _ _ h)
  | rptr h => exact .rptr (hE.σ _ _ _ h)
  | vptr y c g o vals hl hc _ hp ih => exact .vptr y c g o vals hl (hc.ext hE) ih hp
  | nils a => exact .nils a
  | view0 e a cap h => exact .view0 e a cap h
  | view xs e g o sz cap vals h0 hs hl hc _ hp hcap he ih => exact .view xs e g o sz cap vals h0 hs hl (hc.ext hE) ih hp hcap he
  | row0 a h => exact .row0 a (hE.σ _ _ _ h)
  | rowE a h =>
    refine .rowE a ?_
    intro hn
    rename_i b ver hs off
    cases hs : M.σ b ver with
    | none => exact h hs
    | some y => rw [hE.σ _ _ _ hs] at hn; cases hn
  | row h h0 hn hcap hle =>
    obtain ⟨e, hn⟩ := hn
    exact .row (hE.σ _ _ _ h) h0 ⟨e, hE.shape _ _ hn⟩ hcap hle
  | agg cs vs hl _ ih => exact .agg cs vs hl ih
  | tup cs vs hl _ ih => exact .tup cs vs hl ih
  | fn f cs vs hl _ ih => exact .fn f cs vs hl ih
  | nilf => exact .nilf
  | iface t v x _ ih => exact .iface t v x ih
  | nili => exact .nili
  | iter h => exact .iter (hE.σ _ _ _ h)

theorem VRs.ext {M M' : Mem} (hE : Ext M M') {cs : List AV} {vs : List Value} (h : VRs M cs vs) : VRs M' cs vs :=
  ⟨h.1, fun j u v hu hv => (h.2 j u v hu hv).ext hE⟩

/-- a value that holds no address of own memory does not hang on where that lies -/
def SameView (M M' : Mem) : Prop := (∀ g o, M.kept g o → M'.kept g o) ∧ (∀ g o v, M.kept g o → M.w.cell? ⟨g, o, none⟩ = some v → M'.w.cell? ⟨g, o, none⟩ = some v)

theorem pureCs_get {cs : List AV} (h : pureCs cs = true) {j : Nat} {u : AV} (hu : cs[j]? = some u) : pureC u = true := by
  induction cs generalizing j with
  | nil => simp at hu
  | cons c cs ih =>
    simp only [pureCs, Bool.and_eq_true] at h
    cases j with
    | zero => simp at hu; subst hu; exact h.1
    | succ j => exact ih h.2 (by simpa using hu)
theorem pureL_get {cs : List AV} (h : pureL cs = true) {j : Nat} {u : AV} (hu : cs[j]? = some u) : pureE u = true := by
  induction cs generalizing j with
  | nil => simp at hu
  | cons c cs ih =>
    simp only [pureL, Bool.and_eq_true] at h
    cases j with
    | zero => simp at hu; subst hu; exact h.1
    | succ j => exact ih h.2 (by simpa using hu)
theorem pureE_of_C {u : AV} (h : pureC u = true) : pureE u = true := by
  cases u <;> simp_all [pureC, pureE]
theorem pureE_cells {x : AV} (h : pureE x = true) : pureCs x.cells = true := by
  cases x <;> simp_all [pureE, AV.cells, pureCs, pureC]
theorem pureCs_append {cs ds : List AV} : pureCs (cs ++ ds) = (pureCs cs && pureCs ds) := by
  induction cs with
  | nil => simp [pureCs]
  | cons c cs ih => simp [pureCs, ih, Bool.and_assoc]
theorem pureL_append {cs ds : List AV} : pureL (cs ++ ds) = (pureL cs && pureL ds) := by
  induction cs with
  | nil => simp [pureL]
  | cons c cs ih => simp [pureL, ih, Bool.and_assoc]
theorem pureL_flat {xs : List AV} (h : pureL xs = true) : pureCs (flat xs) = true := by
  induction xs with
  | nil => rfl
  | cons x xs ih =>
    simp only [pureL, Bool.and_eq_true] at h
    simp [flat, pureCs_append, pureE_cells h.1, ih h.2]
theorem pureL_mem {xs : List AV} (h : pureL xs = true) {x : AV} (hx : x ∈ xs) : pureE x = true := by
  obtain ⟨j, hj, rfl⟩ := List.mem_iff_getElem.1 hx
  exact pureL_get h (List.getElem?_eq_getElem hj)

theorem VR.pure {M M' : Mem} (hE : SameView M M') {a : AV} {x : Value} (h : VR M a x) : pureE a = true → VR M' a x := by
  induction h with
  | undef x => intro _; exact .undef x
  | bool b => intro _; exact .bool b
  | int k n => intro _; exact .int k n
  | str s => intro _; exact .str s
  | nilp => intro _; exact .nilp
  | ptr h => intro hp; simp [pureE] at hp
  | rptr h => intro hp; simp [pureE] at hp
  | vptr y c g o vals hl hc _ hp ih => intro hp; simp [pureE] at hp
  | nils a => intro _; exact .nils a
  | view0 e a cap h => intro _; exact .view0 e a cap h
  | view xs e g o sz cap vals h0 hs hl hc _ hp hcap he ih =>
    intro _
    exact .view xs e g o sz cap vals h0 hs hl (fun j v hv => ⟨hE.2 _ _ _ (hc j v hv).2 (hc j v hv).1, hE.1 _ _ (hc j v hv).2⟩)
      (fun j u v hu hv => ih j u v hu hv (pureE_of_C (pureCs_get (pureL_flat hp) hu))) hp hcap he
  | row0 a h => intro hp; simp [pureE] at hp
  | rowE a h => intro hp; simp [pureE] at hp
  | row h h0 hn hcap hle => intro hp; simp [pureE] at hp
  | agg cs vs hl _ ih =>
    intro hp
    exact .agg cs vs hl (fun j u v hu hv => ih j u v hu hv (pureE_of_C (pureCs_get (by simpa [pureE] using hp) hu)))
  | tup cs vs hl _ ih => intro hp; simp [pureE] at hp
  | fn f cs vs hl _ ih =>
    intro hp
    exact .fn f cs vs hl (fun j u v hu hv => ih j u v hu hv (pureL_get (by simpa [pureE] using hp) hu))
  | nilf => intro _; exact .nilf
  | iface t v x _ ih => intro hp; exact .iface t v x (ih (by simpa [pureE] using hp))
  | nili => intro _; exact .nili
  | iter h => intro hp; simp [pureE] at hp

/-- forgetting where blocks from n on lie -/
def Mem.below (M : Mem) (n : Nat) : Mem := { M with σ := fun b v => if b < n then M.σ b v else none }

theorem below_of {M : Mem} {n b v : Nat} {x : Option (Option (Nat × Nat))} (hp : b < n) (h : M.σ b v = x) : (M.below n).σ b v = x := (if_pos hp).trans h

theorem refOkL_get {n : Nat} {cs : List AV} (h : refOkL n cs = true) {j : Nat} {u : AV} (hu : cs[j]? = some u) : refOk n u = true := by
  induction cs generalizing j with
  | nil => simp at hu
  | cons c cs ih =>
    simp only [refOkL, Bool.and_eq_true] at h
    cases j with
    | zero => simp at hu; subst hu; exact h.1
    | succ j => exact ih h.2 (by simpa using hu)

theorem sameView_below (M : Mem) (n : Nat) : SameView M (M.below n) := ⟨fun _ _ h => h, fun _ _ _ _ h => h⟩

theorem VR.forget {M : Mem} (n : Nat) {a : AV} {x : Value} (h : VR M a x) : refOk n a = true → VR (M.below n) a x := by
  induction h with
  | undef x => intro _; exact .undef x
  | bool b => intro _; exact .bool b
  | int k n => intro _; exact .int k n
  | str s => intro _; exact .str s
  | nilp => intro _; exact .nilp
  | ptr h => intro hp; simp only [refOk, decide_eq_true_eq] at hp; exact .ptr (below_of hp h)
  | rptr h => intro hp; simp only [refOk, decide_eq_true_eq] at hp; exact .rptr (below_of hp h)
  | vptr y c g o vals hl hc hr hp ih =>
    intro _
    exact .vptr y c g o vals hl hc (fun j u v hu hv => (hr j u v hu hv).pure (sameView_below M n) (pureE_of_C (pureCs_get (pureE_cells hp) hu))) hp
  | nils a => intro _; exact .nils a
  | view0 e a cap h => intro _; exact .view0 e a cap h
  | view xs e g o sz cap vals h0 hs hl hc hr hp hcap he ih =>
    intro _
    exact .view xs e g o sz cap vals h0 hs hl hc (fun j u v hu hv => (hr j u v hu hv).pure (sameView_below M n) (pureE_of_C (pureCs_get (pureL_flat hp) hu))) hp hcap he
  | row0 a h => intro hp; simp only [refOk, decide_eq_true_eq] at hp; exact .row0 a (below_of hp h)
  | rowE a h => intro hp; simp only [refOk, decide_eq_true_eq] at hp; exact .rowE a (by rw [below_of hp rfl]; exact h)
  | row h h0 hn hcap hle => intro hp; simp only [refOk, decide_eq_true_eq] at hp; exact .row (below_of hp h) h0 hn hcap hle
  | agg cs vs hl _ ih => intro hp; exact .agg cs vs hl (fun j u v hu hv => ih j u v hu hv (refOkL_get (by simpa [refOk] using hp) hu))
  | tup cs vs hl _ ih => intro hp; exact .tup cs vs hl (fun j u v hu hv => ih j u v hu hv (refOkL_get (by simpa [refOk] using hp) hu))
  | fn f cs vs hl _ ih => intro hp; exact .fn f cs vs hl (fun j u v hu hv => ih j u v hu hv (refOkL_get (by simpa [refOk] using hp) hu))
  | nilf => intro _; exact .nilf
  | iface t v x _ ih => intro hp; exact .iface t v x (ih (by simpa [refOk] using hp))
  | nili => intro _; exact .nili
  | iter h => intro hp; simp only [refOk, decide_eq_true_eq] at hp; exact .iter (below_of hp h)

end Go.Vi
end SViRel
section SViHeap
/- The abstract heap against the model's memory; how each kind of step carries it on. -/
namespace Go.Vi
open Go Go.RowKit

def gAt (M : Mem) (b v : Nat) : Option Nat := match M.σ b v with
  | some (some (g, _)) => some g
  | _ => none
def gOf (M : Mem) (b : Nat) : Blk → Option Nat
  | .dead => none
  | .box _ => gAt M b 0
  | .fbox _ => gAt M b 0
  | .row _ _ ver _ => gAt M b ver
  | .iter _ _ => gAt M b 0

def BR (M : Mem) (b : Nat) : Blk → Prop
  | .dead => True
  | .box cs => ∃ g z vals ty, M.σ b 0 = some (some (g, z)) ∧ M.w.heap[g]? = some (.cells (List.toArray vals) ty (0, 0)) ∧ VRs M cs vals ∧ ∀ o, ¬ M.kept g o
  | .fbox cs => ∃ g z vals ty, M.σ b 0 = some (some (g, z)) ∧ M.w.heap[g]? = some (.cells (List.toArray vals) ty (0, 0)) ∧ VRs M cs vals ∧ (∀ o, o < cs.length → M.kept g o) ∧ refOkL 0 cs = true
  | .row sz xs ver fz => fz ≤ xs.length ∧ pureL xs = true ∧ (∀ x ∈ xs, x.cells.length = sz) ∧ (∀ v, ver < v → M.σ b v = none) ∧
      ((M.σ b ver = some none ∧ xs = []) ∨ ∃ g vals ty cap, M.σ b ver = some (some (g, sz)) ∧ 0 < sz ∧ M.w.heap[g]? = some (.cells (List.toArray vals) ty (0, 0)) ∧
        vals.length = cap * sz ∧ xs.length ≤ cap ∧ VRs M (flat xs) (vals.take (flat xs).length) ∧ (∀ o, fz * sz ≤ o → ¬ M.kept g o) ∧ (∀ o, o < fz * sz → M.kept g o))
  | .iter s pos => ∃ g, M.σ b 0 = some (some (g, 0)) ∧ M.w.heap[g]? = some (.stringIter ⟨s.toArray⟩ pos)

/-- cells that were laid ahead of the run, and what they hold -/
class Glob where
  base : List (Nat × Nat × Value)
  shapes : List (Nat × TypeId × Nat)
variable [Glob]
structure HR (B : Nat) (M : Mem) (H : Heap) : Prop where
  blk : ∀ b x, H[b]? = some x → BR M b x
  apart : ∀ b b' x x' g, H[b]? = some x → H[b']? = some x' → gOf M b x = some g → gOf M b' x' = some g → b = b'
  dom : ∀ b v y, M.σ b v = some y → b < H.length
  low : ∀ b v g s, M.σ b v = some (some (g, s)) → B ≤ g ∧ g < M.w.heap.size
  kept : ∀ g o, M.kept g o → g < M.w.heap.size
  base : (∀ x ∈ Glob.base, M.kept x.1 x.2.1 ∧ M.w.cell? ⟨x.1, x.2.1, none⟩ = some x.2.2) ∧ ∀ x ∈ Glob.shapes, M.w.shape? x.1 = some x.2

theorem HR.base_ext {B : Nat} {M M' : Mem} {H : Heap} (h : HR B M H) (hE : Ext M M') : (∀ x ∈ Glob.base, M'.kept x.1 x.2.1 ∧ M'.w.cell? ⟨x.1, x.2.1, none⟩ = some x.2.2) ∧ ∀ x ∈ Glob.shapes, M'.w.shape? x.1 = some x.2 :=
  ⟨fun x hx => ⟨hE.kept _ _ (h.base.1 x hx).1, hE.cell _ _ _ (h.base.1 x hx).1 (h.base.1 x hx).2⟩, fun x hx => hE.shape _ _ (h.base.2 x hx)⟩
/-- what is no current block of ours is as it was -/
structure Step (B : Nat) (M : Mem) (H : Heap) (M' : Mem) : Prop where
  ext : Ext M M'
  below : Below B M.w M'.w
  frame : ∀ g, g < M.w.heap.size → (∀ b x, H[b]? = some x → gOf M b x ≠ some g) → M'.w.heap[g]? = M.w.heap[g]? ∧ ∀ o, M'.kept g o ↔ M.kept g o

theorem Step.refl (B : Nat) (M : Mem) (H : Heap) : Step B M H M := ⟨Ext.refl M, Below.refl _ _, fun _ _ _ => ⟨rfl, fun _ => Iff.rfl⟩⟩

/-- the current blocks behind a step are the elder ones, or new -/
structure Onto (M : Mem) (H : Heap) (M' : Mem) (H' : Heap) : Prop where
  blk : ∀ b x g, H'[b]? = some x → gOf M' b x = some g → M.w.heap.size ≤ g ∨ ∃ x0, H[b]? = some x0 ∧ gOf M b x0 = some g
  dead : ∀ b, H[b]? = some .dead → H'[b]? = some .dead ∧ ∀ v, M'.σ b v = M.σ b v

theorem Onto.refl (M : Mem) (H : Heap) : Onto M H M H := ⟨fun _ x _ hx hg => .inr ⟨x, hx, hg⟩, fun _ h => ⟨h, fun _ => rfl⟩⟩
theorem Onto.trans {M M1 M2 : Mem} {H H1 H2 : Heap} (h : Onto M H M1 H1) (h' : Onto M1 H1 M2 H2) (hs : M.w.heap.size ≤ M1.w.heap.size) : Onto M H M2 H2 := by
  refine ⟨fun b x g hx hg => ?_, fun b hb => ?_⟩
  · rcases h'.blk b x g hx hg with h1 | ⟨x0, h1, h2⟩
    · exact .inl (Nat.le_trans hs h1)
    · exact h.blk b x0 g h1 h2
  · obtain ⟨h1, h2⟩ := h.dead b hb
    obtain ⟨h3, h4⟩ := h'.dead b h1
    exact ⟨h3, fun v => (h4 v).trans (h2 v)⟩
theorem Step.trans {B : Nat} {M M1 M2 : Mem} {H H1 : Heap} (h : Step B M H M1) (ho : Onto M H M1 H1) (h' : Step B M1 H1 M2) : Step B M H M2 := by
  refine ⟨h.ext.trans h'.ext, h.below.trans h'.below, fun g hg hn => ?_⟩
  obtain ⟨h1, h2⟩ := h.frame g hg hn
  have hg1 : g < M1.w.heap.size := Nat.lt_of_lt_of_le hg h.ext.size
  have hn1 : ∀ b x, H1[b]? = some x → gOf M1 b x ≠ some g := by
    intro b x hx he
    rcases ho.blk b x g hx he with h3 | ⟨x0, h3, h4⟩
    · omega
    · exact hn b x0 h3 h4
  obtain ⟨h3, h4⟩ := h'.frame g hg1 hn1
  exact ⟨h3.trans h1, fun o => (h4 o).trans (h2 o)⟩

theorem gAt_some {M : Mem} {b v g : Nat} : gAt M b v = some g ↔ ∃ s, M.σ b v = some (some (g, s)) := by
  unfold gAt
  constructor
  · intro h
    split at h
    · rename_i g' s hs; injection h with h; subst h; exact ⟨s, hs⟩
    · cases h
  · rintro ⟨s, hs⟩; simp [hs]

theorem gOf_σ {M : Mem} {b : Nat} {x : Blk} {g : Nat} (h : gOf M b x = some g) : ∃ v s, M.σ b v = some (some (g, s)) := by
  cases x with
  | dead => cases h
  | box cs => obtain ⟨s, hs⟩ := gAt_some.1 h; exact ⟨_, s, hs⟩
  | fbox cs => obtain ⟨s, hs⟩ := gAt_some.1 h; exact ⟨_, s, hs⟩
  | row sz xs ver fz => obtain ⟨s, hs⟩ := gAt_some.1 h; exact ⟨_, s, hs⟩
  | iter s p => obtain ⟨s, hs⟩ := gAt_some.1 h; exact ⟨_, s, hs⟩

/-- where a block's own place is as it was, and its σ too, what is said of it goes on -/
theorem BR.carry {M M' : Mem} (hE : Ext M M') {b : Nat} {x : Blk} (h : BR M b x) (hσ : ∀ v, M.σ b v = none → M'.σ b v = none)
    (hg : ∀ g, gOf M b x = some g → M'.w.heap[g]? = M.w.heap[g]? ∧ ∀ o, M'.kept g o ↔ M.kept g o) : BR M' b x := by
  cases x with
  | dead => trivial
  | box cs =>
    obtain ⟨g, z, vals, ty, h1, h2, h3, h4⟩ := h
    obtain ⟨e1, e2⟩ := hg g (gAt_some.2 ⟨z, h1⟩)
    exact ⟨g, z, vals, ty, hE.σ _ _ _ h1, e1.trans h2, h3.ext hE, fun o ho => h4 o ((e2 o).1 ho)⟩
  | fbox cs =>
    obtain ⟨g, z, vals, ty, h1, h2, h3, h4, h5⟩ := h
    obtain ⟨e1, e2⟩ := hg g (gAt_some.2 ⟨z, h1⟩)
    exact ⟨g, z, vals, ty, hE.σ _ _ _ h1, e1.trans h2, h3.ext hE, fun o ho => (e2 o).2 (h4 o ho), h5⟩
  | row sz xs ver fz =>
    obtain ⟨h0, hp, hs, hv, h⟩ := h
    refine ⟨h0, hp, hs, fun v hlt => hσ v (hv v hlt), ?_⟩
    rcases h with ⟨h1, h2⟩ | ⟨g, vals, ty, cap, h1, hz, h2, h3, h4, h5, h6, h7⟩
    · exact .inl ⟨hE.σ _ _ _ h1, h2⟩
    · obtain ⟨e1, e2⟩ := hg g (gAt_some.2 ⟨sz, h1⟩)
      exact .inr ⟨g, vals, ty, cap, hE.σ _ _ _ h1, hz, e1.trans h2, h3, h4, h5.ext hE, fun o ho hk => h6 o ho ((e2 o).1 hk), fun o ho => (e2 o).2 (h7 o ho)⟩
  | iter s pos =>
    obtain ⟨g, h1, h2⟩ := h
    obtain ⟨e1, _⟩ := hg g (gAt_some.2 ⟨0, h1⟩)
    exact ⟨g, hE.σ _ _ _ h1, e1.trans h2⟩

theorem gOf_carry {M M' : Mem} (hE : Ext M M') {b : Nat} {x : Blk} (h : BR M b x) {g : Nat} (hg : gOf M' b x = some g) : gOf M b x = some g := by
  have key : ∀ v y, M.σ b v = some y → gAt M' b v = some g → gAt M b v = some g := by
    intro v y hy hgv
    obtain ⟨s, hs⟩ := gAt_some.1 hgv
    rw [hE.σ _ _ _ hy] at hs
    injection hs with hs
    subst hs
    exact gAt_some.2 ⟨s, hy⟩
  cases x with
  | dead => cases hg
  | box cs => obtain ⟨g', z, vals, ty, h1, _⟩ := h; exact key 0 _ h1 hg
  | fbox cs => obtain ⟨g', z, vals, ty, h1, _⟩ := h; exact key 0 _ h1 hg
  | row sz xs ver fz =>
    obtain ⟨_, _, _, _, h⟩ := h
    rcases h with ⟨h1, _⟩ | ⟨g', vals, ty, cap, h1, _⟩
    · exact key ver _ h1 hg
    · exact key ver _ h1 hg
  | iter s pos => obtain ⟨g', h1, _⟩ := h; exact key 0 _ h1 hg
theorem gOf_ext {M M' : Mem} (hE : Ext M M') {b : Nat} {x : Blk} {g : Nat} (hg : gOf M b x = some g) : gOf M' b x = some g := by
  have key : ∀ v, gAt M b v = some g → gAt M' b v = some g := by
    intro v hv
    obtain ⟨s, hs⟩ := gAt_some.1 hv
    exact gAt_some.2 ⟨s, hE.σ _ _ _ hs⟩
  cases x with
  | dead => cases hg
  | box cs => exact key _ hg
  | fbox cs => exact key _ hg
  | row sz xs ver fz => exact key _ hg
  | iter s pos => exact key _ hg

/-! ### the world alone moves: nothing of it but the count of draws -/
theorem step_same {B : Nat} {M : Mem} {H : Heap} (h : HR B M H) {w' : World} (hh : w'.heap = M.w.heap) (ho : w'.os = M.w.os) (ht : w'.tape = M.w.tape) (hout : w'.output = M.w.output) :
    Ext M { M with w := w' } ∧ Step B M H { M with w := w' } ∧ HR B { M with w := w' } H ∧ Onto M H { M with w := w' } H := by
  have hc : ∀ a, w'.cell? a = M.w.cell? a := fun a => by simp [World.cell?, hh]
  have hE : Ext M { M with w := w' } := ⟨fun _ _ _ h => h, fun g s hs => by simpa [World.shape?, hh] using hs, fun _ _ h => h, fun g o v _ hv => by rw [hc]; exact hv, by simp [hh]⟩
  refine ⟨hE, ⟨hE, ⟨ho, ht, hout, by simp [hh], fun k _ => by simp [hh]⟩, fun g _ _ => ⟨by simp [hh], fun _ => Iff.rfl⟩⟩, ?_, ⟨fun b x g hx hg => .inr ⟨x, hx, hg⟩, fun b hb => ⟨hb, fun _ => rfl⟩⟩⟩
  exact ⟨fun b x hx => (h.blk b x hx).carry hE (fun _ h => h) (fun g _ => ⟨by simp [hh], fun _ => Iff.rfl⟩), fun b b' x x' g h1 h2 h3 h4 => h.apart b b' x x' g h1 h2 h3 h4,
    h.dom, fun b v g s hs => by simpa [hh] using h.low b v g s hs, fun g o hk => by simpa [hh] using h.kept g o hk, h.base_ext hE⟩

/-! ### a new block -/
def Mem.put (M : Mem) (w : World) (b v : Nat) (y : Option (Nat × Nat)) : Mem := { M with w := w, σ := fun b' v' => if b' = b ∧ v' = v then some y else M.σ b' v' }

theorem put_self (M : Mem) (w : World) (b v : Nat) (y : Option (Nat × Nat)) : (M.put w b v y).σ b v = some y := by simp [Mem.put]
theorem put_other {M : Mem} {w : World} {b v b' v' : Nat} {y : Option (Nat × Nat)} (h : ¬ (b' = b ∧ v' = v)) : (M.put w b v y).σ b' v' = M.σ b' v' := by simp [Mem.put, h]

theorem ext_put {M : Mem} {w' : World} {b v : Nat} {y : Option (Nat × Nat)} (hn : M.σ b v = none) (hs : ∀ g s, M.w.shape? g = some s → w'.shape? g = some s)
    (hc : ∀ g o u, M.kept g o → M.w.cell? ⟨g, o, none⟩ = some u → w'.cell? ⟨g, o, none⟩ = some u) (hz : M.w.heap.size ≤ w'.heap.size) : Ext M (M.put w' b v y) := by
  refine ⟨fun b' v' x hx => ?_, hs, fun _ _ h => h, hc, hz⟩
  by_cases h : b' = b ∧ v' = v
  · obtain ⟨rfl, rfl⟩ := h; rw [hn] at hx; cases hx
  · rw [put_other h]; exact hx

theorem shape_old {w w' : World} (h : ∀ g, g < w.heap.size → w'.heap[g]? = w.heap[g]?) : ∀ g s, w.shape? g = some s → w'.shape? g = some s := by
  intro g s hs
  have hlt : g < w.heap.size := by
    rcases Nat.lt_or_ge g w.heap.size with h | h
    · exact h
    · simp [World.shape?, Array.getElem?_eq_none h] at hs
  simpa [World.shape?, h g hlt] using hs
theorem cell_old {w w' : World} (h : ∀ g, g < w.heap.size → w'.heap[g]? = w.heap[g]?) : ∀ g o u, w.cell? ⟨g, o, none⟩ = some u → w'.cell? ⟨g, o, none⟩ = some u := by
  intro g o u hu
  have hlt := World.block_lt_of_cell? w _ hu
  simpa [World.cell?, h g hlt] using hu

/-- A new own block, at the heap's end; w' holds one block more. -/
theorem new_block {B : Nat} {M : Mem} {H : Heap} (h : HR B M H) (hB : B ≤ M.w.heap.size) {w' : World} (hold : ∀ g, g < M.w.heap.size → w'.heap[g]? = M.w.heap[g]?)
    (hsz : M.w.heap.size < w'.heap.size) (ho : w'.os = M.w.os) (ht : w'.tape = M.w.tape) (hout : w'.output = M.w.output) (x : Blk) (s : Nat)
    (hx : BR (M.put w' H.length 0 (some (M.w.heap.size, s))) H.length x) :
    Step B M H (M.put w' H.length 0 (some (M.w.heap.size, s))) ∧ HR B (M.put w' H.length 0 (some (M.w.heap.size, s))) (H ++ [x]) ∧
      Onto M H (M.put w' H.length 0 (some (M.w.heap.size, s))) (H ++ [x]) := by
  have hn : ∀ v, M.σ H.length v = none := fun v => by
    cases hq : M.σ H.length v with
    | none => rfl
    | some y => have := h.dom _ _ _ hq; omega
  have hE : Ext M (M.put w' H.length 0 (some (M.w.heap.size, s))) := ext_put (hn 0) (shape_old hold) (fun g o u _ hu => cell_old hold g o u hu) (Nat.le_of_lt hsz)
  have hget : ∀ b y, (H ++ [x])[b]? = some y → (b < H.length ∧ H[b]? = some y) ∨ (b = H.length ∧ y = x) := by
    intro b y hb
    rcases Nat.lt_trichotomy b H.length with hlt | heq | hgt
    · left; rw [List.getElem?_append_left hlt] at hb; exact ⟨hlt, hb⟩
    · right; subst heq; simp at hb; exact ⟨rfl, hb.symm⟩
    · rw [List.getElem?_eq_none (by simp; omega)] at hb; cases hb
  have hnew : ∀ y g, y = x → gOf (M.put w' H.length 0 (some (M.w.heap.size, s))) H.length y = some g → g = M.w.heap.size := by
    intro y g _ hg
    obtain ⟨v, s', hs'⟩ := gOf_σ hg
    by_cases hv : v = 0
    · subst hv; rw [put_self] at hs'; simp at hs'; exact hs'.1.symm
    · rw [put_other (by simp [hv]), hn] at hs'; cases hs'
  have holdg : ∀ b y g, H[b]? = some y → gOf (M.put w' H.length 0 (some (M.w.heap.size, s))) b y = some g → gOf M b y = some g ∧ g < M.w.heap.size := by
    intro b y g hb hg
    have h1 := gOf_carry hE (h.blk b y hb) hg
    obtain ⟨v, s', hs'⟩ := gOf_σ h1
    exact ⟨h1, (h.low _ _ _ _ hs').2⟩
  refine ⟨⟨hE, ⟨ho, ht, hout, Nat.le_of_lt hsz, fun k hk => hold k (by omega)⟩, fun g hg _ => ⟨hold g hg, fun _ => Iff.rfl⟩⟩, ?_, ?_⟩
  · refine ⟨?_, ?_, ?_, ?_, ?_, h.base_ext hE⟩
    · intro b y hb
      rcases hget b y hb with ⟨hlt, h1⟩ | ⟨rfl, rfl⟩
      · refine (h.blk b y h1).carry hE (fun v hv => by rw [put_other (by omega)]; exact hv) (fun g hg => ?_)
        obtain ⟨v, s', hs'⟩ := gOf_σ hg
        exact ⟨hold g (h.low _ _ _ _ hs').2, fun _ => Iff.rfl⟩
      · exact hx
    · intro b b' y y' g hb hb' hg hg'
      rcases hget b y hb with ⟨hlt, h1⟩ | ⟨rfl, rfl⟩ <;> rcases hget b' y' hb' with ⟨hlt', h1'⟩ | ⟨rfl, rfl⟩
      · exact h.apart b b' y y' g h1 h1' (holdg _ _ _ h1 hg).1 (holdg _ _ _ h1' hg').1
      · have e1 := (holdg _ _ _ h1 hg).2; have e2 := hnew _ _ rfl hg'; omega
      · have e1 := (holdg _ _ _ h1' hg').2; have e2 := hnew _ _ rfl hg; omega
      · rfl
    · intro b v y hy
      by_cases hc : b = H.length ∧ v = 0
      · simp [hc.1]
      · rw [put_other hc] at hy; have := h.dom _ _ _ hy; simp; omega
    · intro b v g s' hs'
      by_cases hc : b = H.length ∧ v = 0
      · obtain ⟨rfl, rfl⟩ := hc
        rw [put_self] at hs'; simp at hs'
        obtain ⟨rfl, _⟩ := hs'
        exact ⟨hB, hsz⟩
      · rw [put_other hc] at hs'
        have := h.low _ _ _ _ hs'
        exact ⟨this.1, Nat.lt_trans this.2 hsz⟩
    · intro g o hk; exact Nat.lt_trans (h.kept g o hk) hsz
  · refine ⟨fun b y g hb hg => ?_, fun b hb => ?_⟩
    · rcases hget b y hb with ⟨hlt, h1⟩ | ⟨rfl, rfl⟩
      · exact .inr ⟨y, h1, (holdg _ _ _ h1 hg).1⟩
      · exact .inl (by rw [hnew _ _ rfl hg]; exact Nat.le_refl _)
    · have hlt := (List.getElem?_eq_some_iff.1 hb).1
      exact ⟨by rw [List.getElem?_append_left hlt]; exact hb, fun v => put_other (by omega)⟩

/-- A new own row that has no place yet. -/
theorem new_none {B : Nat} {M : Mem} {H : Heap} (h : HR B M H) (sz : Nat) :
    Step B M H (M.put M.w H.length 0 none) ∧ HR B (M.put M.w H.length 0 none) (H ++ [.row sz [] 0 0]) ∧ Onto M H (M.put M.w H.length 0 none) (H ++ [.row sz [] 0 0]) := by
  have hn : ∀ v, M.σ H.length v = none := fun v => by
    cases hq : M.σ H.length v with
    | none => rfl
    | some y => have := h.dom _ _ _ hq; omega
  have hE : Ext M (M.put M.w H.length 0 none) := ext_put (hn 0) (fun _ _ h => h) (fun _ _ _ _ h => h) (Nat.le_refl _)
  have hget : ∀ b y, (H ++ [Blk.row sz [] 0 0])[b]? = some y → (b < H.length ∧ H[b]? = some y) ∨ (b = H.length ∧ y = .row sz [] 0 0) := by
    intro b y hb
    rcases Nat.lt_trichotomy b H.length with hlt | heq | hgt
    · left; rw [List.getElem?_append_left hlt] at hb; exact ⟨hlt, hb⟩
    · right; subst heq; simp at hb; exact ⟨rfl, hb.symm⟩
    · rw [List.getElem?_eq_none (by simp; omega)] at hb; cases hb
  have hnew : ∀ g, gOf (M.put M.w H.length 0 none) H.length (.row sz [] 0 0) ≠ some g := by
    intro g hg
    obtain ⟨s, hs⟩ := gAt_some.1 hg
    rw [put_self] at hs; cases hs
  have holdg : ∀ b y g, H[b]? = some y → gOf (M.put M.w H.length 0 none) b y = some g → gOf M b y = some g :=
    fun b y g hb hg => gOf_carry hE (h.blk b y hb) hg
  refine ⟨⟨hE, Below.refl _ _, fun g hg _ => ⟨rfl, fun _ => Iff.rfl⟩⟩, ⟨?_, ?_, ?_, ?_, h.kept, h.base_ext hE⟩, ?_⟩
  · intro b y hb
    rcases hget b y hb with ⟨hlt, h1⟩ | ⟨rfl, rfl⟩
    · exact (h.blk b y h1).carry hE (fun v hv => by rw [put_other (by omega)]; exact hv) (fun g hg => ⟨rfl, fun _ => Iff.rfl⟩)
    · exact ⟨Nat.le_refl _, rfl, fun _ h => (by cases h), fun v hv => by rw [put_other (by omega)]; exact hn v, .inl ⟨put_self .., rfl⟩⟩
  · intro b b' y y' g hb hb' hg hg'
    rcases hget b y hb with ⟨hlt, h1⟩ | ⟨rfl, rfl⟩ <;> rcases hget b' y' hb' with ⟨hlt', h1'⟩ | ⟨rfl, rfl⟩
    · exact h.apart b b' y y' g h1 h1' (holdg _ _ _ h1 hg) (holdg _ _ _ h1' hg')
    · exact absurd hg' (hnew g)
    · exact absurd hg (hnew g)
    · rfl
  · intro b v y hy
    by_cases hc : b = H.length ∧ v = 0
    · simp [hc.1]
    · rw [put_other hc] at hy; have := h.dom _ _ _ hy; simp; omega
  · intro b v g s' hs'
    by_cases hc : b = H.length ∧ v = 0
    · obtain ⟨rfl, rfl⟩ := hc; rw [put_self] at hs'; cases hs'
    · rw [put_other hc] at hs'; exact h.low _ _ _ _ hs'
  · refine ⟨fun b y g hb hg => ?_, fun b hb => ?_⟩
    · rcases hget b y hb with ⟨hlt, h1⟩ | ⟨rfl, rfl⟩
      · exact .inr ⟨y, h1, holdg _ _ _ h1 hg⟩
      · exact absurd hg (hnew g)
    · have hlt := (List.getElem?_eq_some_iff.1 hb).1
      exact ⟨by rw [List.getElem?_append_left hlt]; exact hb, fun v => put_other (by omega)⟩

/-- One block changes, in its place or to a new one. -/
theorem change {B : Nat} {M M' : Mem} {H : Heap} (h : HR B M H) {b : Nat} {x0 x : Blk} (hb : H[b]? = some x0) (hE : Ext M M') (hbelow : Below B M.w M'.w)
    (hσ : ∀ b' v, b' ≠ b → M'.σ b' v = M.σ b' v)
    (hframe : ∀ g, g < M.w.heap.size → gOf M b x0 ≠ some g → M'.w.heap[g]? = M.w.heap[g]? ∧ ∀ o, M'.kept g o ↔ M.kept g o)
    (hx : BR M' b x) (hplace : ∀ g, gOf M' b x = some g → gOf M b x0 = some g ∨ M.w.heap.size ≤ g)
    (hlow : ∀ v g s, M'.σ b v = some (some (g, s)) → B ≤ g ∧ g < M'.w.heap.size) (hkept : ∀ g o, M'.kept g o → g < M'.w.heap.size) (hnd : x0 ≠ .dead := by intro hnd; cases hnd) :
    Step B M H M' ∧ HR B M' (H.set b x) ∧ Onto M H M' (H.set b x) := by
  have hbl : b < H.length := (List.getElem?_eq_some_iff.1 hb).1
  have hget : ∀ b' y, (H.set b x)[b']? = some y → (b' ≠ b ∧ H[b']? = some y) ∨ (b' = b ∧ y = x) := by
    intro b' y hy
    by_cases hc : b' = b
    · subst hc; rw [List.getElem?_set_self hbl] at hy; injection hy with hy; exact .inr ⟨rfl, hy.symm⟩
    · rw [List.getElem?_set_ne (Ne.symm hc)] at hy; exact .inl ⟨hc, hy⟩
  have holdg : ∀ b' y g, H[b']? = some y → gOf M' b' y = some g → gOf M b' y = some g ∧ g < M.w.heap.size := by
    intro b' y g hy hg
    have h1 := gOf_carry hE (h.blk b' y hy) hg
    obtain ⟨v, s', hs'⟩ := gOf_σ h1
    exact ⟨h1, (h.low _ _ _ _ hs').2⟩
  have hother : ∀ b' y g, b' ≠ b → H[b']? = some y → gOf M b' y = some g → gOf M b x0 ≠ some g := fun b' y g hne hy hg he => hne (h.apart b' b y x0 g hy hb hg he)
  refine ⟨⟨hE, hbelow, fun g hg hn => hframe g hg (hn b x0 hb)⟩, ⟨?_, ?_, ?_, ?_, hkept, h.base_ext hE⟩, ?_⟩
  · intro b' y hy
    rcases hget b' y hy with ⟨hne, h1⟩ | ⟨rfl, rfl⟩
    · refine (h.blk b' y h1).carry hE (fun v hv => by rw [hσ b' v hne]; exact hv) (fun g hg => ?_)
      obtain ⟨v, s', hs'⟩ := gOf_σ hg
      exact hframe g (h.low _ _ _ _ hs').2 (hother b' y g hne h1 hg)
    · exact hx
  · intro b1 b2 y1 y2 g h1 h2 hg1 hg2
    rcases hget b1 y1 h1 with ⟨hne1, e1⟩ | ⟨rfl, rfl⟩ <;> rcases hget b2 y2 h2 with ⟨hne2, e2⟩ | ⟨rfl, rfl⟩
    · exact h.apart b1 b2 y1 y2 g e1 e2 (holdg _ _ _ e1 hg1).1 (holdg _ _ _ e2 hg2).1
    · have k1 := holdg _ _ _ e1 hg1
      rcases hplace g hg2 with k2 | k2
      · exact absurd k2 (hother _ _ _ hne1 e1 k1.1)
      · have := k1.2; omega
    · have k1 := holdg _ _ _ e2 hg2
      rcases hplace g hg1 with k2 | k2
      · exact absurd k2 (hother _ _ _ hne2 e2 k1.1)
      · have := k1.2; omega
    · rfl
  · intro b' v y hy
    rw [List.length_set]
    by_cases hc : b' = b
    · subst hc; exact hbl
    · rw [hσ b' v hc] at hy; exact h.dom _ _ _ hy
  · intro b' v g s hs
    by_cases hc : b' = b
    · subst hc; exact hlow v g s hs
    · rw [hσ b' v hc] at hs
      have := h.low _ _ _ _ hs
      exact ⟨this.1, Nat.lt_of_lt_of_le this.2 hE.size⟩
  · refine ⟨fun b' y g hy hg => ?_, fun b' hd => ?_⟩
    · rcases hget b' y hy with ⟨hne, h1⟩ | ⟨rfl, rfl⟩
      · exact .inr ⟨y, h1, (holdg _ _ _ h1 hg).1⟩
      · rcases hplace g hg with k | k
        · exact .inr ⟨x0, hb, k⟩
        · exact .inl k
    · have hne : b' ≠ b := fun e => by subst e; rw [hb] at hd; injection hd with hd; exact hnd hd
      exact ⟨by rw [List.getElem?_set_ne (Ne.symm hne)]; exact hd, fun v => hσ b' v hne⟩

end Go.Vi
end SViHeap
section SViSteps
/- Stores, freezing and appends on own blocks. -/
namespace Go.Vi
open Go Go.RowKit
variable [Glob]

theorem setRow_shape {w : World} {g : Nat} {arr arr' : Array Value} {ty : TypeId} {fr : Nat × Nat} (hg : w.heap[g]? = some (.cells arr ty fr)) (hz : arr'.size = arr.size) :
    ∀ g' s, w.shape? g' = some s → (w.setRow g arr').shape? g' = some s := by
  intro g' s hs
  by_cases h : g' = g
  · subst h
    simp only [World.shape?, hg] at hs
    simpa [World.shape?, setRow_heap w g' arr arr' ty fr hg, hz] using hs
  · simpa [World.shape?, setRow_other w g g' arr' h] using hs

theorem setRow_cells {w : World} {g : Nat} {arr arr' : Array Value} {ty : TypeId} {fr : Nat × Nat} (hg : w.heap[g]? = some (.cells arr ty fr)) {g' o : Nat} {u : Value}
    (hk : g' = g → arr'[o]? = arr[o]?) (hu : w.cell? ⟨g', o, none⟩ = some u) : (w.setRow g arr').cell? ⟨g', o, none⟩ = some u := by
  by_cases h : g' = g
  · subst h
    rw [cell_setRow_same w g' o arr arr' ty fr hg, hk rfl]
    simpa [World.cell?, hg] using hu
  · rw [cell_setRow_other w g arr' ⟨g', o, none⟩ h]; exact hu

theorem below_setRow' {B g : Nat} {w : World} (hBg : B ≤ g) (cs : Array Value) : Below B w (w.setRow g cs) :=
  ⟨rfl, rfl, rfl, by simp, fun k hk => setRow_other w g k cs (by omega)⟩

theorem splice_length {cs d : List AV} {c : Nat} (h : c + d.length ≤ cs.length) : (splice cs c d).length = cs.length := by
  simp [splice]; omega
theorem VRs.splice {M : Mem} {cs d : List AV} {vs us : List Value} (h : VRs M cs vs) (h' : VRs M d us) (c : Nat) : VRs M (Vi.splice cs c d) (vs.take c ++ us ++ vs.drop (c + us.length)) := by
  rw [h'.1]
  exact ((h.take c).append h').append (h.drop _)

/-- A store into a box. -/
theorem store_box {B : Nat} {M : Mem} {H : Heap} (h : HR B M H) {b : Nat} {cs : List AV} (hb : H[b]? = some (.box cs)) {g z : Nat} {vals : List Value} {ty : TypeId}
    (h1 : M.σ b 0 = some (some (g, z))) (h2 : M.w.heap[g]? = some (.cells vals.toArray ty (0, 0))) (h3 : VRs M cs vals) (h4 : ∀ o, ¬ M.kept g o)
    {d : List AV} {us : List Value} (hd : VRs M d us) {c : Nat} (hc : c + d.length ≤ cs.length) :
    Step B M H { M with w := M.w.setRow g (vals.take c ++ us ++ vals.drop (c + us.length)).toArray } ∧
    HR B { M with w := M.w.setRow g (vals.take c ++ us ++ vals.drop (c + us.length)).toArray } (H.set b (.box (splice cs c d))) ∧
    Onto M H { M with w := M.w.setRow g (vals.take c ++ us ++ vals.drop (c + us.length)).toArray } (H.set b (.box (splice cs c d))) := by
  have hlen : (vals.take c ++ us ++ vals.drop (c + us.length)).length = vals.length := by
    simp; rw [hd.1, h3.1]; omega
  have hE : Ext M { M with w := M.w.setRow g (vals.take c ++ us ++ vals.drop (c + us.length)).toArray } :=
    ⟨fun _ _ _ h => h, setRow_shape h2 (by simpa using hlen), fun _ _ h => h, fun g' o v hk hv => setRow_cells h2 (fun e => absurd (e ▸ hk) (h4 o)) hv, by simp⟩
  have hl := h.low _ _ _ _ h1
  refine change h hb hE (below_setRow' hl.1 _) (fun _ _ _ => rfl) (fun g' _ hne => ⟨setRow_other _ _ _ _ (fun e => hne (by subst e; exact gAt_some.2 ⟨z, h1⟩)), fun _ => Iff.rfl⟩) ?_ ?_ ?_ ?_
  · exact ⟨g, z, _, ty, h1, setRow_heap _ _ _ _ _ _ h2, (h3.splice hd c).ext hE, h4⟩
  · intro g' hg'; exact .inl hg'
  · intro v g' s hs; simpa using h.low _ _ _ _ hs
  · intro g' o hk; simpa using h.kept g' o hk

theorem flat_length {xs : List AV} {sz : Nat} (h : ∀ x ∈ xs, x.cells.length = sz) : (flat xs).length = xs.length * sz := by
  induction xs with
  | nil => simp [flat]
  | cons x xs ih =>
    simp only [flat, List.length_append, List.length_cons]
    rw [ih (fun y hy => h y (List.mem_cons_of_mem _ hy)), h x (List.mem_cons_self ..), Nat.succ_mul]
    omega
theorem flat_take {xs : List AV} {sz : Nat} (h : ∀ x ∈ xs, x.cells.length = sz) (n : Nat) : flat (xs.take n) = (flat xs).take (n * sz) := by
  induction xs generalizing n with
  | nil => simp [flat]
  | cons x xs ih =>
    cases n with
    | zero => simp [flat]
    | succ n =>
      have hx := h x (List.mem_cons_self ..)
      simp only [List.take_succ_cons, flat, ih (fun y hy => h y (List.mem_cons_of_mem _ hy))]
      rw [List.take_append, hx, Nat.succ_mul, List.take_of_length_le (by omega : x.cells.length ≤ n * sz + sz)]
      congr 2
      omega
theorem flat_drop {xs : List AV} {sz : Nat} (h : ∀ x ∈ xs, x.cells.length = sz) (n : Nat) : flat (xs.drop n) = (flat xs).drop (n * sz) := by
  induction xs generalizing n with
  | nil => simp [flat]
  | cons x xs ih =>
    cases n with
    | zero => simp [flat]
    | succ n =>
      have hx := h x (List.mem_cons_self ..)
      simp only [List.drop_succ_cons, flat, ih (fun y hy => h y (List.mem_cons_of_mem _ hy))]
      rw [List.drop_append, hx, Nat.succ_mul, List.drop_of_length_le (by omega : x.cells.length ≤ n * sz + sz), List.nil_append]
      congr 1
      omega
theorem flat_get {xs : List AV} {sz : Nat} (h : ∀ x ∈ xs, x.cells.length = sz) {i : Nat} {x : AV} (hx : xs[i]? = some x) {j : Nat} (hj : j < sz) : (flat xs)[i * sz + j]? = x.cells[j]? := by
  induction xs generalizing i with
  | nil => simp at hx
  | cons y xs ih =>
    have hy := h y (List.mem_cons_self ..)
    cases i with
    | zero =>
      simp at hx; subst hx
      simp only [flat, Nat.zero_mul, Nat.zero_add]
      rw [List.getElem?_append_left (by omega)]
    | succ i =>
      simp only [flat]
      rw [List.getElem?_append_right (by rw [hy, Nat.succ_mul]; omega), hy]
      rw [← ih (fun y hy => h y (List.mem_cons_of_mem _ hy)) (by simpa using hx)]
      congr 1
      rw [Nat.succ_mul]; omega
theorem flat_set {xs : List AV} {sz : Nat} (h : ∀ x ∈ xs, x.cells.length = sz) {i : Nat} (hi : i < xs.length) {x' : AV} :
    flat (xs.set i x') = (flat xs).take (i * sz) ++ x'.cells ++ (flat xs).drop (i * sz + sz) := by
  rw [List.set_eq_take_append_cons_drop, if_pos hi, flat_append]
  simp only [flat]
  rw [flat_take h, flat_drop h, List.append_assoc, Nat.succ_mul]

theorem setSub_cells {x v x' : AV} {c : Nat} (h : setSub x v c = some x') : x'.cells = splice x.cells c v.cells ∧ c + v.cells.length ≤ x.cells.length := by
  unfold setSub at h
  split at h
  · rename_i cs
    split at h
    · rename_i hc
      injection h with h; subst h
      exact ⟨rfl, hc⟩
    · cases h
  · rename_i hx
    split at h
    · cases h
    · rename_i hv
      split at h
      · rename_i hc
        injection h with h; subst h
        have e1 : x.cells = [x] := by cases x <;> first | rfl | exact absurd rfl (hx _)
        have e2 : v.cells = [v] := by cases v <;> first | rfl | exact absurd rfl (hv _)
        subst hc
        rw [e1, e2]
        exact ⟨rfl, by simp⟩
      · cases h

theorem refFree_pure {M : Mem} {a : AV} {x : Value} (h : VR M a x) (hf : refFree a = true) : pureC a = true := by
  cases h <;> simp_all [refFree, pureC]
  rfl
theorem refFreeL_get {cs : List AV} (h : refFreeL cs = true) {j : Nat} {u : AV} (hu : cs[j]? = some u) : refFree u = true := by
  induction cs generalizing j with
  | nil => simp at hu
  | cons c cs ih =>
    simp only [refFreeL, Bool.and_eq_true] at h
    cases j with
    | zero => simp at hu; subst hu; exact h.1
    | succ j => exact ih h.2 (by simpa using hu)
theorem pureCs_of {cs : List AV} (h : ∀ (j : Nat) u, cs[j]? = some u → pureC u = true) : pureCs cs = true := by
  induction cs with
  | nil => rfl
  | cons c cs ih => simp only [pureCs, Bool.and_eq_true]; exact ⟨h 0 c rfl, ih (fun j u hu => h (j + 1) u (by simpa using hu))⟩
theorem pureL_of {cs : List AV} (h : ∀ (j : Nat) u, cs[j]? = some u → pureE u = true) : pureL cs = true := by
  induction cs with
  | nil => rfl
  | cons c cs ih => simp only [pureL, Bool.and_eq_true]; exact ⟨h 0 c rfl, ih (fun j u hu => h (j + 1) u (by simpa using hu))⟩
theorem refFreeL_pure {M : Mem} {cs : List AV} {vs : List Value} (h : VRs M cs vs) (hf : refFreeL cs = true) : pureCs cs = true :=
  pureCs_of fun j u hu => by
    obtain ⟨v, hv, hr⟩ := h.get hu
    exact refFree_pure hr (refFreeL_get hf hu)
theorem pureE_of_cells {x : AV} (h : pureCs x.cells = true) : pureE x = true := by
  cases x <;> simp_all [pureE, AV.cells, pureCs, pureC]
theorem pureCs_take {cs : List AV} (h : pureCs cs = true) (n : Nat) : pureCs (cs.take n) = true :=
  pureCs_of fun j u hu => by
    rw [List.getElem?_take] at hu
    split at hu
    · exact pureCs_get h hu
    · cases hu
theorem pureCs_drop {cs : List AV} (h : pureCs cs = true) (n : Nat) : pureCs (cs.drop n) = true :=
  pureCs_of fun j u hu => by rw [List.getElem?_drop] at hu; exact pureCs_get h hu
theorem pureL_take {cs : List AV} (h : pureL cs = true) (n : Nat) : pureL (cs.take n) = true :=
  pureL_of fun j u hu => by
    rw [List.getElem?_take] at hu
    split at hu
    · exact pureL_get h hu
    · cases hu
theorem pureL_drop {cs : List AV} (h : pureL cs = true) (n : Nat) : pureL (cs.drop n) = true :=
  pureL_of fun j u hu => by rw [List.getElem?_drop] at hu; exact pureL_get h hu
theorem pureCs_splice {cs d : List AV} (h : pureCs cs = true) (h' : pureCs d = true) (c : Nat) : pureCs (splice cs c d) = true := by
  simp [splice, pureCs_append, pureCs_take h, pureCs_drop h, h']

theorem take_splice (l d : List Value) (i c n : Nat) (hic : i + c + d.length ≤ n) (hn : n ≤ l.length) :
    (l.take (i + c) ++ d ++ l.drop (i + c + d.length)).take n = (l.take n).take (i + c) ++ d ++ (l.take n).drop (i + c + d.length) := by
  apply List.ext_getElem?
  intro j
  simp only [List.getElem?_take, List.getElem?_append, List.length_take, List.length_append, List.getElem?_drop]
  repeat' split
  all_goals first | rfl | omega | (congr 1; omega) | skip
  all_goals simp_all
  all_goals omega

/-- A store into an element of an own row. -/
theorem store_row {B : Nat} {M : Mem} {H : Heap} (h : HR B M H) {b sz ver fz : Nat} {xs : List AV} (hb : H[b]? = some (.row sz xs ver fz)) {g cap : Nat} {vals : List Value} {ty : TypeId}
    (h1 : M.σ b ver = some (some (g, sz))) (hz : 0 < sz) (h2 : M.w.heap[g]? = some (.cells vals.toArray ty (0, 0))) (hl : vals.length = cap * sz) (hcap : xs.length ≤ cap)
    (h3 : VRs M (flat xs) (vals.take (flat xs).length)) (h6 : ∀ o, fz * sz ≤ o → ¬ M.kept g o) (h7 : ∀ o, o < fz * sz → M.kept g o)
    {i c : Nat} {x v x' : AV} {us : List Value} (hx : xs[i]? = some x) (hfz : fz ≤ i) (hs : setSub x v c = some x') (hv : VRs M v.cells us) (hp : refFreeL v.cells = true) :
    Step B M H { M with w := M.w.setRow g (vals.take (i * sz + c) ++ us ++ vals.drop (i * sz + c + us.length)).toArray } ∧
    HR B { M with w := M.w.setRow g (vals.take (i * sz + c) ++ us ++ vals.drop (i * sz + c + us.length)).toArray } (H.set b (.row sz (xs.set i x') ver fz)) ∧
    Onto M H { M with w := M.w.setRow g (vals.take (i * sz + c) ++ us ++ vals.drop (i * sz + c + us.length)).toArray } (H.set b (.row sz (xs.set i x') ver fz)) := by
  obtain ⟨hfl, hpl, hsz, hnv, _⟩ := h.blk _ _ hb
  obtain ⟨hc1, hc2⟩ := setSub_cells hs
  have hil : i < xs.length := (List.getElem?_eq_some_iff.1 hx).1
  have hxs : x.cells.length = sz := hsz x (List.mem_of_getElem? hx)
  have hx's : x'.cells.length = sz := by rw [hc1, splice_length hc2, hxs]
  have hlv : us.length = v.cells.length := hv.1
  have hmul : i * sz + sz ≤ xs.length * sz := by rw [← Nat.succ_mul]; exact Nat.mul_le_mul_right _ hil
  have hmul2 : xs.length * sz ≤ cap * sz := Nat.mul_le_mul_right _ hcap
  have hfz' : fz * sz ≤ i * sz := Nat.mul_le_mul_right _ hfz
  have hfl' := flat_length hsz
  have hlen : (vals.take (i * sz + c) ++ us ++ vals.drop (i * sz + c + us.length)).length = vals.length := by
    simp; rw [hlv]; omega
  have hE : Ext M { M with w := M.w.setRow g (vals.take (i * sz + c) ++ us ++ vals.drop (i * sz + c + us.length)).toArray } := by
    refine ⟨fun _ _ _ h => h, setRow_shape h2 (by simpa using hlen), fun _ _ h => h, fun g' o u hk hu => setRow_cells h2 (fun e => ?_) hu, by simp⟩
    subst e
    have ho : o < fz * sz := by
      rcases Nat.lt_or_ge o (fz * sz) with h | h
      · exact h
      · exact absurd hk (h6 o h)
    simp only [List.getElem?_toArray]
    rw [List.append_assoc, List.getElem?_append_left (by simp; omega), List.getElem?_take, if_pos (by omega)]
  have hlow := h.low _ _ _ _ h1
  refine change h hb hE (below_setRow' hlow.1 _) (fun _ _ _ => rfl) (fun g' _ hne => ⟨setRow_other _ _ _ _ (fun e => hne (by subst e; exact gAt_some.2 ⟨sz, h1⟩)), fun _ => Iff.rfl⟩) ?_ ?_ ?_ ?_
  · have hmem : ∀ y ∈ xs.set i x', y.cells.length = sz := fun y hy => by
      rcases List.mem_or_eq_of_mem_set hy with h | h
      · exact hsz y h
      · rw [h]; exact hx's
    refine ⟨by simpa using hfl, ?_, hmem, hnv, .inr ⟨g, _, ty, cap, h1, hz, setRow_heap _ _ _ _ _ _ h2, by rw [hlen, hl], by simpa using hcap, ?_, h6, h7⟩⟩
    · refine pureL_of fun j u hu => ?_
      rw [List.getElem?_set] at hu
      by_cases hij : i = j
      · rw [if_pos hij, if_pos (by omega)] at hu
        injection hu with hu; subst hu
        exact pureE_of_cells (by rw [hc1]; exact pureCs_splice (pureE_cells (pureL_get hpl hx)) (refFreeL_pure hv hp) c)
      · rw [if_neg hij] at hu
        exact pureL_get hpl hu
    · have hflat : flat (xs.set i x') = splice (flat xs) (i * sz + c) v.cells := by
        have e0 : x.cells = ((flat xs).drop (i * sz)).take sz := by
          apply List.ext_getElem?
          intro j
          rw [List.getElem?_take, List.getElem?_drop]
          split
          · rename_i hj; rw [flat_get hsz hx hj]
          · rw [List.getElem?_eq_none (by omega)]
        rw [flat_set hsz hil, hc1, e0]
        apply List.ext_getElem?
        intro j
        simp only [splice, List.getElem?_append, List.getElem?_take, List.getElem?_drop, List.length_append, List.length_take, List.length_drop]
        repeat' split
        all_goals first | rfl | omega | (congr 1; omega) | skip
        all_goals simp_all
        all_goals omega
      rw [hflat, splice_length (by omega)]
      have := (h3.splice hv (i * sz + c)).ext hE
      rw [take_splice vals us (i * sz) c (flat xs).length (by omega) (by omega)]
      exact this
  · intro g' hg'; exact .inl hg'
  · intro v g' s hs; simpa using h.low _ _ _ _ hs
  · intro g' o hk; simpa using h.kept g' o hk

end Go.Vi
end SViSteps
section SViStepsB
/- Freezing, appends, iterators on own blocks. -/
namespace Go.Vi
open Go Go.RowKit
variable [Glob]

theorem VRs.takeTake {M : Mem} {cs : List AV} {vs : List Value} (h : VRs M cs vs) : vs.length = cs.length := h.1

/-- what is read of a current row -/
theorem row_lies {M : Mem} {g : Nat} {vals : List Value} {ty : TypeId} {fr : Nat × Nat} (h2 : M.w.heap[g]? = some (.cells vals.toArray ty fr)) {j : Nat} {v : Value} (hv : vals[j]? = some v) : M.w.cell? ⟨g, j, none⟩ = some v := by
  simp [World.cell?, h2, hv]

/-- Freezing the head of an own row. -/
theorem freeze_row {B : Nat} {M : Mem} {H : Heap} (h : HR B M H) {b sz ver fz : Nat} {xs : List AV} (hb : H[b]? = some (.row sz xs ver fz)) {g cap : Nat} {vals : List Value} {ty : TypeId}
    (h1 : M.σ b ver = some (some (g, sz))) (hz : 0 < sz) (h2 : M.w.heap[g]? = some (.cells vals.toArray ty (0, 0))) (hl : vals.length = cap * sz) (hcap : xs.length ≤ cap)
    (h3 : VRs M (flat xs) (vals.take (flat xs).length)) (h6 : ∀ o, fz * sz ≤ o → ¬ M.kept g o) (h7 : ∀ o, o < fz * sz → M.kept g o) (n : Nat) (hn : n ≤ xs.length) :
    Step B M H { M with kept := fun g' o => M.kept g' o ∨ (g' = g ∧ o < n * sz) } ∧
    HR B { M with kept := fun g' o => M.kept g' o ∨ (g' = g ∧ o < n * sz) } (H.set b (.row sz xs ver (max fz n))) ∧
    Onto M H { M with kept := fun g' o => M.kept g' o ∨ (g' = g ∧ o < n * sz) } (H.set b (.row sz xs ver (max fz n))) := by
  obtain ⟨hfl, hpl, hsz, hnv, _⟩ := h.blk _ _ hb
  have hE : Ext M { M with kept := fun g' o => M.kept g' o ∨ (g' = g ∧ o < n * sz) } := ⟨fun _ _ _ h => h, fun _ _ h => h, fun _ _ h => .inl h, fun _ _ _ _ h => h, Nat.le_refl _⟩
  have hlow := h.low _ _ _ _ h1
  have hmax : max fz n * sz = max (fz * sz) (n * sz) := by
    rcases Nat.le_total fz n with h | h
    · rw [Nat.max_eq_right h, Nat.max_eq_right (Nat.mul_le_mul_right _ h)]
    · rw [Nat.max_eq_left h, Nat.max_eq_left (Nat.mul_le_mul_right _ h)]
  refine change h hb hE (Below.refl _ _) (fun _ _ _ => rfl) (fun g' _ hne => ⟨rfl, fun o => ⟨fun hk => hk.elim id (fun e => absurd (by rw [e.1]; exact gAt_some.2 ⟨sz, h1⟩) hne), fun hk => .inl hk⟩⟩) ?_ ?_ ?_ ?_
  · refine ⟨by omega, hpl, hsz, hnv, .inr ⟨g, vals, ty, cap, h1, hz, h2, hl, hcap, h3.ext hE, fun o ho hk => ?_, fun o ho => ?_⟩⟩
    · rw [hmax] at ho
      rcases hk with hk | ⟨_, hk⟩
      · exact h6 o (by omega) hk
      · omega
    · rw [hmax] at ho
      rcases Nat.lt_or_ge o (fz * sz) with hlt | hge
      · exact .inl (h7 o hlt)
      · exact .inr ⟨rfl, by omega⟩
  · intro g' hg'; exact .inl hg'
  · intro v g' s hs; exact h.low _ _ _ _ hs
  · intro g' o hk
    rcases hk with hk | ⟨rfl, _⟩
    · exact h.kept g' o hk
    · exact hlow.2

/-- A box that is written no more. -/
theorem freeze_box {B : Nat} {M : Mem} {H : Heap} (h : HR B M H) {b : Nat} {cs : List AV} (hb : H[b]? = some (.box cs)) {g z : Nat} {vals : List Value} {ty : TypeId}
    (h1 : M.σ b 0 = some (some (g, z))) (h2 : M.w.heap[g]? = some (.cells vals.toArray ty (0, 0))) (h3 : VRs M cs vals) (hr : refOkL 0 cs = true) :
    Step B M H { M with kept := fun g' o => M.kept g' o ∨ (g' = g ∧ o < cs.length) } ∧
    HR B { M with kept := fun g' o => M.kept g' o ∨ (g' = g ∧ o < cs.length) } (H.set b (.fbox cs)) ∧
    Onto M H { M with kept := fun g' o => M.kept g' o ∨ (g' = g ∧ o < cs.length) } (H.set b (.fbox cs)) := by
  have hE : Ext M { M with kept := fun g' o => M.kept g' o ∨ (g' = g ∧ o < cs.length) } := ⟨fun _ _ _ h => h, fun _ _ h => h, fun _ _ h => .inl h, fun _ _ _ _ h => h, Nat.le_refl _⟩
  have hlow := h.low _ _ _ _ h1
  refine change h hb hE (Below.refl _ _) (fun _ _ _ => rfl) (fun g' _ hne => ⟨rfl, fun o => ⟨fun hk => hk.elim id (fun e => absurd (by rw [e.1]; exact gAt_some.2 ⟨z, h1⟩) hne), fun hk => .inl hk⟩⟩) ?_ ?_ ?_ ?_
  · exact ⟨g, z, vals, ty, h1, h2, h3.ext hE, fun o ho => .inr ⟨rfl, ho⟩, hr⟩
  · intro g' hg'; exact .inl hg'
  · intro v g' s hs; exact h.low _ _ _ _ hs
  · intro g' o hk
    rcases hk with hk | ⟨rfl, _⟩
    · exact h.kept g' o hk
    · exact hlow.2

/-- An append within the capacity: the row goes on in its place. -/
theorem append_here {B : Nat} {M : Mem} {H : Heap} (h : HR B M H) {b sz ver fz : Nat} {xs : List AV} (hb : H[b]? = some (.row sz xs ver fz)) {g cap : Nat} {vals : List Value} {ty : TypeId}
    (h1 : M.σ b ver = some (some (g, sz))) (hz : 0 < sz) (h2 : M.w.heap[g]? = some (.cells vals.toArray ty (0, 0))) (hl : vals.length = cap * sz) (hcap : xs.length ≤ cap)
    (h3 : VRs M (flat xs) (vals.take (flat xs).length)) (h6 : ∀ o, fz * sz ≤ o → ¬ M.kept g o) (h7 : ∀ o, o < fz * sz → M.kept g o)
    {len : Nat} (hlen : len ≤ xs.length) (hfz : fz ≤ len) {ys : List AV} (hys : ∀ y ∈ ys, y.cells.length = sz) (hyp : pureL ys = true) {us : List Value} (hv : VRs M (flat ys) us) (hroom : len + ys.length ≤ cap) :
    Step B M H (M.put (M.w.setRow g (vals.take (len * sz) ++ us ++ vals.drop (len * sz + us.length)).toArray) b (ver + 1) (some (g, sz))) ∧
    HR B (M.put (M.w.setRow g (vals.take (len * sz) ++ us ++ vals.drop (len * sz + us.length)).toArray) b (ver + 1) (some (g, sz))) (H.set b (.row sz (xs.take len ++ ys) (ver + 1) fz)) ∧
    Onto M H (M.put (M.w.setRow g (vals.take (len * sz) ++ us ++ vals.drop (len * sz + us.length)).toArray) b (ver + 1) (some (g, sz))) (H.set b (.row sz (xs.take len ++ ys) (ver + 1) fz)) := by
  obtain ⟨hfl, hpl, hsz, hnv, _⟩ := h.blk _ _ hb
  have hus : us.length = ys.length * sz := by rw [hv.1, flat_length hys]
  have hm1 : len * sz + ys.length * sz ≤ cap * sz := by rw [← Nat.add_mul]; exact Nat.mul_le_mul_right _ hroom
  have hm2 : len * sz ≤ xs.length * sz := Nat.mul_le_mul_right _ hlen
  have hm3 : fz * sz ≤ len * sz := Nat.mul_le_mul_right _ hfz
  have hlen' : (vals.take (len * sz) ++ us ++ vals.drop (len * sz + us.length)).length = vals.length := by simp; omega
  have hfl' := flat_length hsz
  have hE : Ext M (M.put (M.w.setRow g (vals.take (len * sz) ++ us ++ vals.drop (len * sz + us.length)).toArray) b (ver + 1) (some (g, sz))) := by
    refine ext_put (hnv _ (Nat.lt_succ_self _)) (setRow_shape h2 (by simpa using hlen')) (fun g' o u hk hu => setRow_cells h2 (fun e => ?_) hu) (by simp)
    subst e
    have ho : o < fz * sz := by
      rcases Nat.lt_or_ge o (fz * sz) with h | h
      · exact h
      · exact absurd hk (h6 o h)
    simp only [List.getElem?_toArray]
    rw [List.append_assoc, List.getElem?_append_left (by simp; omega), List.getElem?_take, if_pos (by omega)]
  have hlow := h.low _ _ _ _ h1
  refine change h hb hE (below_setRow' hlow.1 _) (fun b' v hne => put_other (by simp [hne])) (fun g' _ hne => ⟨setRow_other _ _ _ _ (fun e => hne (by subst e; exact gAt_some.2 ⟨sz, h1⟩)), fun _ => Iff.rfl⟩) ?_ ?_ ?_ ?_
  · have hmem : ∀ y ∈ xs.take len ++ ys, y.cells.length = sz := fun y hy => by
      rcases List.mem_append.1 hy with h | h
      · exact hsz y (List.mem_of_mem_take h)
      · exact hys y h
    have hsz2 : ∀ x ∈ xs.take len, x.cells.length = sz := fun y hy => hsz y (List.mem_of_mem_take hy)
    refine ⟨by simp; omega, by rw [pureL_append, pureL_take hpl, hyp]; rfl, hmem, fun v hv => by rw [put_other (by omega)]; exact hnv v (by omega), .inr ⟨g, _, ty, cap, put_self .., hz, setRow_heap _ _ _ _ _ _ h2, by rw [hlen', hl], by simp; omega, ?_, h6, h7⟩⟩
    rw [flat_append, flat_take hsz]
    have e1 : ((flat xs).take (len * sz) ++ flat ys).length = len * sz + us.length := by simp [hv.1]; omega
    have e2 : (vals.take (len * sz) ++ us ++ vals.drop (len * sz + us.length)).take (len * sz + us.length) = vals.take (len * sz) ++ us := by
      rw [List.take_append_of_le_length (by simp; omega)]
      exact List.take_of_length_le (by simp; omega)
    rw [e1, e2]
    refine VRs.ext hE (VRs.append ?_ hv)
    have := h3.take (len * sz)
    rwa [List.take_take, Nat.min_eq_left (by omega)] at this
  · intro g' hg'
    obtain ⟨s, hs⟩ := gAt_some.1 hg'
    rw [put_self] at hs
    simp at hs
    obtain ⟨rfl, rfl⟩ := hs
    exact .inl (gAt_some.2 ⟨_, h1⟩)
  · intro v g' s hs
    by_cases hc : v = ver + 1
    · subst hc; rw [put_self] at hs; simp at hs; obtain ⟨rfl, _⟩ := hs; exact ⟨hlow.1, by simpa [Mem.put] using hlow.2⟩
    · rw [put_other (by simp [hc])] at hs; simpa [Mem.put] using h.low _ _ _ _ hs
  · intro g' o hk; simpa [Mem.put] using h.kept g' o hk

/-- An append that makes a new block: the row goes on there. w' is the world with it. -/
theorem append_new {B : Nat} {M : Mem} {H : Heap} (h : HR B M H) (hB : B ≤ M.w.heap.size) {b sz sz0 ver fz : Nat} {xs : List AV} (hb : H[b]? = some (.row sz0 xs ver fz)) (hz : 0 < sz)
    {w' : World} (hold : ∀ g, g < M.w.heap.size → w'.heap[g]? = M.w.heap[g]?) (hsz' : M.w.heap.size < w'.heap.size) (ho : w'.os = M.w.os) (ht : w'.tape = M.w.tape) (hout : w'.output = M.w.output)
    {zs : List AV} (hzs : ∀ y ∈ zs, y.cells.length = sz) (hp : pureL zs = true) (hfz : fz ≤ zs.length) {vals : List Value} {ty : TypeId} {cap : Nat}
    (hnew : w'.heap[M.w.heap.size]? = some (.cells vals.toArray ty (0, 0))) (hl : vals.length = cap * sz) (hcap : zs.length ≤ cap) (hv : VRs M (flat zs) (vals.take (flat zs).length)) :
    Step B M H { M.put w' b (ver + 1) (some (M.w.heap.size, sz)) with kept := fun g o => M.kept g o ∨ (g = M.w.heap.size ∧ o < fz * sz) } ∧
    HR B { M.put w' b (ver + 1) (some (M.w.heap.size, sz)) with kept := fun g o => M.kept g o ∨ (g = M.w.heap.size ∧ o < fz * sz) } (H.set b (.row sz zs (ver + 1) fz)) ∧
    Onto M H { M.put w' b (ver + 1) (some (M.w.heap.size, sz)) with kept := fun g o => M.kept g o ∨ (g = M.w.heap.size ∧ o < fz * sz) } (H.set b (.row sz zs (ver + 1) fz)) := by
  obtain ⟨hfl, hpl, hsz, hnv, _⟩ := h.blk _ _ hb
  have hE0 : Ext M (M.put w' b (ver + 1) (some (M.w.heap.size, sz))) := ext_put (hnv _ (Nat.lt_succ_self _)) (shape_old hold) (fun g o u _ hu => cell_old hold g o u hu) (Nat.le_of_lt hsz')
  have hE : Ext M { M.put w' b (ver + 1) (some (M.w.heap.size, sz)) with kept := fun g o => M.kept g o ∨ (g = M.w.heap.size ∧ o < fz * sz) } :=
    ⟨hE0.σ, hE0.shape, fun _ _ h => .inl h, hE0.cell, hE0.size⟩
  have hself : ∀ v g' s, (M.put w' b (ver + 1) (some (M.w.heap.size, sz))).σ b v = some (some (g', s)) → (v = ver + 1 ∧ g' = M.w.heap.size) ∨ M.σ b v = some (some (g', s)) := by
    intro v g' s hs
    by_cases hc : v = ver + 1
    · subst hc; rw [put_self] at hs; simp at hs; exact .inl ⟨rfl, hs.1.symm⟩
    · rw [put_other (by simp [hc])] at hs; exact .inr hs
  refine change h hb hE ⟨ho, ht, hout, Nat.le_of_lt hsz', fun k hk => hold k (by omega)⟩ (fun b' v hne => put_other (w := w') (y := some (M.w.heap.size, sz)) (by simp [hne]))
    (fun g' hg' _ => ⟨hold g' hg', fun o => ⟨fun hk => hk.elim id (fun e => by omega), fun hk => .inl hk⟩⟩) ?_ ?_ ?_ ?_
  · refine ⟨hfz, hp, hzs, fun v hv => (put_other (w := w') (y := some (M.w.heap.size, sz)) (by omega)).trans (hnv v (by omega)), .inr ⟨M.w.heap.size, vals, ty, cap, put_self (w := w') .., hz, hnew, hl, hcap, hv.ext hE, fun o ho hk => ?_, fun o ho => .inr ⟨rfl, ho⟩⟩⟩
    rcases hk with hk | ⟨_, hk⟩
    · have := h.kept _ o hk; omega
    · omega
  · intro g' hg'
    obtain ⟨s, hs⟩ := gAt_some.1 hg'
    rcases hself _ _ _ hs with ⟨_, rfl⟩ | h'
    · exact .inr (Nat.le_refl _)
    · rw [hnv _ (Nat.lt_succ_self _)] at h'; cases h'
  · intro v g' s hs
    rcases hself _ _ _ hs with ⟨_, rfl⟩ | h'
    · exact ⟨hB, hsz'⟩
    · have := h.low _ _ _ _ h'
      exact ⟨this.1, Nat.lt_trans this.2 hsz'⟩
  · intro g' o hk
    rcases hk with hk | ⟨rfl, _⟩
    · exact Nat.lt_trans (h.kept g' o hk) hsz'
    · exact hsz'

/-- An iterator's step: its object alone turns. -/
theorem iter_step {B : Nat} {M : Mem} {H : Heap} (h : HR B M H) {b : Nat} {s : List UInt8} {pos : Nat} (hb : H[b]? = some (.iter s pos)) {g : Nat} (h1 : M.σ b 0 = some (some (g, 0)))
    (h2 : M.w.heap[g]? = some (.stringIter ⟨s.toArray⟩ pos)) (pos' : Nat) :
    Step B M H { M with w := { M.w with heap := M.w.heap.setIfInBounds g (.stringIter ⟨s.toArray⟩ pos') } } ∧
    HR B { M with w := { M.w with heap := M.w.heap.setIfInBounds g (.stringIter ⟨s.toArray⟩ pos') } } (H.set b (.iter s pos')) ∧
    Onto M H { M with w := { M.w with heap := M.w.heap.setIfInBounds g (.stringIter ⟨s.toArray⟩ pos') } } (H.set b (.iter s pos')) := by
  have hlow := h.low _ _ _ _ h1
  have hoth : ∀ g', g' ≠ g → (M.w.heap.setIfInBounds g (.stringIter ⟨s.toArray⟩ pos'))[g']? = M.w.heap[g']? := fun g' hne => by
    rw [Array.getElem?_setIfInBounds_ne (Ne.symm hne)]
  have hE : Ext M { M with w := { M.w with heap := M.w.heap.setIfInBounds g (.stringIter ⟨s.toArray⟩ pos') } } := by
    refine ⟨fun _ _ _ h => h, fun g' s' hs => ?_, fun _ _ h => h, fun g' o v _ hv => ?_, by simp⟩
    · by_cases he : g' = g
      · subst he; simp [World.shape?, h2] at hs
      · simpa [World.shape?, hoth g' he] using hs
    · by_cases he : g' = g
      · subst he; simp [World.cell?, h2] at hv
      · simpa [World.cell?, hoth g' he] using hv
  refine change h hb hE ⟨rfl, rfl, rfl, by simp, fun k hk => hoth k (by omega)⟩ (fun _ _ _ => rfl) (fun g' _ hne => ⟨hoth g' (fun e => hne (by subst e; exact gAt_some.2 ⟨0, h1⟩)), fun _ => Iff.rfl⟩) ?_ ?_ ?_ ?_
  · exact ⟨g, h1, by simp [hlow.2]⟩
  · intro g' hg'; exact .inl hg'
  · intro v g' s' hs; simpa using h.low _ _ _ _ hs
  · intro g' o hk; simpa using h.kept g' o hk

end Go.Vi
end SViStepsB
section SViReads
/- Reads: what getAt tells is what the model loads; what freezing tells. -/
namespace Go.Vi
open Go Go.RowKit
variable [Glob]

theorem addr_add (g o j : Nat) : (⟨g, o, none⟩ : Addr).add j = ⟨g, o + j, none⟩ := by unfold Addr.add; split <;> simp_all

/-- an address, and what lies there from o on -/
def At (M : Mem) (x : Value) (c : Nat) (cs : List AV) : Prop :=
  ∃ g o vs, x = .pointer (some ⟨g, o + c, none⟩) ∧ VRs M cs vs ∧ ∀ j u, vs[j]? = some u → M.w.cell? ⟨g, o + j, none⟩ = some u

theorem sub_some {agg : Bool} {c n : Nat} {x v : AV} (h : sub agg c n x = some v) :
    (agg = true → v = .agg ((x.cells.drop c).take n) ∧ c + n ≤ x.cells.length) ∧ (agg = false → x.cells[c]? = some v) := by
  unfold sub at h
  split at h
  · rename_i cs
    cases agg
    · simp at h; exact ⟨fun h => (by cases h), fun _ => h⟩
    · simp only [if_true] at h
      split at h
      · rename_i hc; injection h with h; exact ⟨fun _ => ⟨h.symm, hc⟩, fun h => (by cases h)⟩
      · cases h
  · rename_i hx
    cases agg
    · simp only [Bool.false_eq_true, if_false] at h
      split at h
      · rename_i hc
        injection h with h; subst h; subst hc
        refine ⟨fun h => (by cases h), fun _ => ?_⟩
        cases x <;> first | rfl | exact absurd rfl (hx _)
      · cases h
    · simp at h

theorem getAt_some {B : Nat} {M : Mem} {H : Heap} (h : HR B M H) {agg : Bool} {n : Nat} {a v : AV} {x : Value} (hg : getAt H agg n a = some v) (hx : VR M a x) :
    ∃ c y, At M x c (AV.cells y) ∧ sub agg c n y = some v := by
  unfold getAt at hg
  split at hg
  · rename_i b c
    split at hg
    · rename_i cs hb
      obtain ⟨g, z, vals, ty, h1, h2, h3, _⟩ := h.blk _ _ hb
      cases hx with
      | ptr hσ =>
        rw [h1] at hσ; injection hσ with hσ; injection hσ with hσ; injection hσ with e1 _; subst e1
        exact ⟨c, .agg cs, ⟨g, 0, vals, by simp, h3, fun j u hu => by simpa using row_lies h2 hu⟩, hg⟩
    · rename_i cs hb
      obtain ⟨g, z, vals, ty, h1, h2, h3, _⟩ := h.blk _ _ hb
      cases hx with
      | ptr hσ =>
        rw [h1] at hσ; injection hσ with hσ; injection hσ with hσ; injection hσ with e1 _; subst e1
        exact ⟨c, .agg cs, ⟨g, 0, vals, by simp, h3, fun j u hu => by simpa using row_lies h2 hu⟩, hg⟩
    · cases hg
  · rename_i b ver i c
    split at hg
    · rename_i sz xs ver' fz hb
      split at hg
      · rename_i hv; subst hv
        split at hg
        · rename_i y hy
          obtain ⟨_, _, hsz, _, hr⟩ := h.blk _ _ hb
          cases hx with
          | rptr hσ =>
            rename_i g' sz'
            rcases hr with ⟨h1, h2⟩ | ⟨g, vals, ty, cap, h1, hz, h2, hl, hcap, h3, _⟩
            · rw [h1] at hσ; cases hσ
            · rw [h1] at hσ; injection hσ with hσ; injection hσ with hσ; injection hσ with e1 e2; subst e1; subst e2
              have hil : i < xs.length := (List.getElem?_eq_some_iff.1 hy).1
              have hys := hsz y (List.mem_of_getElem? hy)
              have hm : i * sz + sz ≤ xs.length * sz := by rw [← Nat.succ_mul]; exact Nat.mul_le_mul_right _ hil
              have hm2 : xs.length * sz ≤ cap * sz := Nat.mul_le_mul_right _ hcap
              have hfl := flat_length hsz
              refine ⟨c, y, ⟨g, i * sz, (vals.drop (i * sz)).take sz, rfl, ⟨by simp [hys]; omega, fun j u v hu hv => ?_⟩, fun j u hu => ?_⟩, hg⟩
              · have hj : j < sz := by have := (List.getElem?_eq_some_iff.1 hu).1; omega
                rw [List.getElem?_take, if_pos hj, List.getElem?_drop] at hv
                refine h3.2 (i * sz + j) u v (by rw [flat_get hsz hy hj]; exact hu) ?_
                rw [List.getElem?_take, if_pos (by omega)]; exact hv
              · rw [List.getElem?_take] at hu
                split at hu
                · rw [List.getElem?_drop] at hu
                  exact row_lies h2 hu
                · cases hu
        · cases hg
      · cases hg
    · cases hg
  · rename_i y c
    cases hx with
    | vptr _ _ g o vals hl hc hr _ => exact ⟨c, y, ⟨g, o, vals, rfl, ⟨hl, hr⟩, fun j u hu => (hc j u hu).1⟩, hg⟩
  · cases hg

theorem shp_some {P : Program} {t : TypeId} {g : Bool} {n : Nat} (h : shp P t = some (g, n)) : ∃ i d, P.info? t = some i ∧ i.size = n ∧ P.underlying t = some d ∧
    (g = true → (∃ fs, d = .struct fs) ∨ ∃ m e, d = .array m e) ∧ (g = false → (∀ fs, d ≠ .struct fs) ∧ ∀ m e, d ≠ .array m e) := by
  unfold shp isAggT szOf at h
  cases hu : P.underlying t with
  | none => simp [hu] at h
  | some d =>
    cases hi : P.info? t with
    | none => simp [hi, hu] at h
    | some i =>
      simp only [hu, hi, Option.map_some, Option.some.injEq, Prod.mk.injEq] at h
      refine ⟨i, d, rfl, h.2, rfl, fun hg => ?_, fun hg => ?_⟩
      · rw [hg] at h
        cases d <;> simp_all
      · rw [hg] at h
        cases d <;> simp_all

theorem run_isAgg {P : Program} {t : TypeId} {g : Bool} {n : Nat} (h : shp P t = some (g, n)) (w : World) : (isAgg t).run P w = .ok g w := by
  obtain ⟨i, d, _, _, hu, h1, h2⟩ := shp_some h
  unfold isAgg
  simp only [Sem.run_bind, run_underlying hu, Result.andThen_ok]
  cases g
  · have := h2 rfl
    cases d <;> simp_all
  · rcases h1 rfl with ⟨fs, rfl⟩ | ⟨m, e, rfl⟩ <;> simp
theorem run_sizeOf {P : Program} {t : TypeId} {g : Bool} {n : Nat} (h : shp P t = some (g, n)) (w : World) : (sizeOf t).run P w = .ok n w := by
  obtain ⟨i, d, hi, hn, _⟩ := shp_some h
  simp [sizeOf, typeInfo, hi, hn]
theorem szOf_of_shp {P : Program} {t : TypeId} {g : Bool} {n : Nat} (h : shp P t = some (g, n)) : szOf P t = some n := by
  obtain ⟨i, d, hi, hn, _⟩ := shp_some h
  simp [szOf, hi, hn]
theorem run_sizeOf' {P : Program} {t : TypeId} {n : Nat} (h : szOf P t = some n) (w : World) : (sizeOf t).run P w = .ok n w := by
  unfold szOf at h
  cases hi : P.info? t with
  | none => simp [hi] at h
  | some i => simp [hi] at h; simp [sizeOf, typeInfo, hi, h]

/-- A load. -/
theorem run_loadAt {P : Program} {B : Nat} {M : Mem} {H : Heap} (h : HR B M H) {t : TypeId} {g : Bool} {n : Nat} (ht : shp P t = some (g, n)) {a v : AV} {x : Value}
    (hg : getAt H g n a = some v) (hx : VR M a x) : ∃ y, (Instr.loadAt t x).run P M.w = .ok y M.w ∧ VR M v y := by
  obtain ⟨c, y, ⟨g', o, vs, rfl, hvs, hcell⟩, hs⟩ := getAt_some h hg hx
  obtain ⟨h1, h2⟩ := sub_some hs
  cases g
  · have hv := h2 rfl
    obtain ⟨u, hu, hr⟩ := hvs.get hv
    refine ⟨u, ?_, hr⟩
    simp [Instr.loadAt, Instr.sureAddr, loadVar, run_isAgg ht, hcell c u hu]
  · obtain ⟨rfl, hc⟩ := h1 rfl
    have hl : ((vs.drop c).take n).length = n := by simp; have := hvs.1; omega
    refine ⟨.agg ((vs.drop c).take n).toArray, ?_, ?_⟩
    · have := run_loadCells_list (P := P) M.w ⟨g', o + c, none⟩ ((vs.drop c).take n) (fun j u hu => by
        rw [addr_add]
        rw [List.getElem?_take] at hu
        split at hu
        · rw [List.getElem?_drop] at hu; rw [Nat.add_assoc]; exact hcell _ _ hu
        · cases hu)
      rw [hl] at this
      simp [Instr.loadAt, Instr.sureAddr, loadVar, run_isAgg ht, run_sizeOf ht, this]
    · have := (hvs.drop c).take n
      exact .agg _ _ this.1 this.2

theorem set_same {α : Type} {l : List α} {i : Nat} {x : α} (h : l[i]? = some x) : l.set i x = l := by
  apply List.ext_getElem?
  intro j
  rw [List.getElem?_set]
  by_cases hij : i = j
  · subst hij
    rw [if_pos rfl, if_pos (List.getElem?_eq_some_iff.1 h).1, h]
  · rw [if_neg hij]

/-- what a freezing of a handle comes to -/
theorem frz_row {B : Nat} {M : Mem} {H : Heap} (h : HR B M H) {b ver hs off len : Nat} {x : Value} (hx : VR M (.row b ver hs off len) x) {sz fz : Nat} {xs : List AV}
    (hb : H[b]? = some (.row sz xs ver fz)) (hn : off + len ≤ xs.length) :
    ∃ M', Step B M H M' ∧ HR B M' (H.set b (.row sz xs ver (max fz (off + len)))) ∧ Onto M H M' (H.set b (.row sz xs ver (max fz (off + len)))) ∧ M'.w = M.w ∧ M'.σ = M.σ ∧
      VR M' (.view ((xs.drop off).take len) false) x := by
  have hbr := h.blk _ _ hb
  obtain ⟨hfl, hpl, hsz, hnv, hr⟩ := hbr
  rcases hr with ⟨h1, rfl⟩ | ⟨g, vals, ty, cap, h1, hz, h2, hl, hcap, h3, h6, h7⟩
  · have e0 : off = 0 ∧ len = 0 ∧ fz = 0 := by simp at hn hfl; omega
    obtain ⟨rfl, rfl, rfl⟩ := e0
    refine ⟨M, Step.refl _ _ _, ?_, ?_, rfl, rfl, ?_⟩
    · rw [show max 0 (0 + 0) = 0 from rfl, set_same hb]; exact h
    · rw [show max 0 (0 + 0) = 0 from rfl, set_same hb]; exact Onto.refl _ _
    · cases hx with
      | row0 a _ => exact .view0 false a 0 (by simp)
      | rowE a _ => exact .view0 false a 0 (by simp)
      | row hσ => rw [h1] at hσ; cases hσ
  · obtain ⟨s1, s2, s3⟩ := freeze_row h hb h1 hz h2 hl hcap h3 h6 h7 (off + len) hn
    refine ⟨_, s1, s2, s3, rfl, rfl, ?_⟩
    cases hx with
    | row0 a h' => rw [h1] at h'; cases h'
    | rowE a _ => rw [List.take_zero]; exact .view0 false a 0 (by simp)
    | row hσ h0 hsh hc hle =>
      rename_i cap' g' n'
      rw [h1] at hσ; injection hσ with hσ; injection hσ with hσ; injection hσ with e1 e2; subst e1; subst e2
      rcases Nat.eq_zero_or_pos len with rfl | hpos
      · rw [List.take_zero]; exact .view0 false _ _ (by simp)
      · have hsz2 : ∀ y ∈ (xs.drop off).take len, y.cells.length = sz := fun y hy => hsz y (List.mem_of_mem_drop (List.mem_of_mem_take hy))
        have hlen : ((xs.drop off).take len).length = len := by simp; omega
        have hfl' := flat_length hsz
        have hm : (off + len) * sz ≤ xs.length * sz := Nat.mul_le_mul_right _ hn
        have hm2 : xs.length * sz ≤ cap * sz := Nat.mul_le_mul_right _ hcap
        rw [Nat.add_mul] at hm
        have key := VR.view (M := { M with kept := fun g'' o => M.kept g'' o ∨ (g'' = g ∧ o < (off + len) * sz) }) ((xs.drop off).take len) false g (off * sz) sz cap' ((vals.drop (off * sz)).take (len * sz)) hz hsz2 ?_ ?_ ?_ ?_ ?_ (by simp)
        · rw [hlen] at key; exact key
        · rw [flat_length hsz2, hlen]; simp; omega
        · intro j u hu
          rw [List.getElem?_take] at hu
          split at hu
          · rw [List.getElem?_drop] at hu
            exact ⟨row_lies h2 hu, .inr ⟨rfl, by rw [Nat.add_mul]; omega⟩⟩
          · cases hu
        · intro j u v hu hv
          rw [flat_take (fun y hy => hsz y (List.mem_of_mem_drop hy)), flat_drop hsz] at hu
          rw [List.getElem?_take] at hu hv
          split at hu
          · rename_i hj
            rw [if_pos hj] at hv
            rw [List.getElem?_drop] at hu hv
            refine (h3.2 _ u v hu ?_).ext s1.ext
            rw [List.getElem?_take, if_pos (by omega)]; exact hv
          · cases hu
        · exact pureL_take (pureL_drop hpl _) _
        · rw [hlen]; exact hle

end Go.Vi
end SViReads
section SViFrz
/- Freezing a value: its own rows become views. -/
namespace Go.Vi
open Go Go.RowKit
variable [Glob]

structure Frozen (B : Nat) (M : Mem) (H : Heap) (M' : Mem) (H' : Heap) : Prop where
  step : Step B M H M'
  hr : HR B M' H'
  onto : Onto M H M' H'
  w : M'.w = M.w
  σ : M'.σ = M.σ
  len : H'.length = H.length

theorem Frozen.refl {B : Nat} {M : Mem} {H : Heap} (h : HR B M H) : Frozen B M H M H := ⟨Step.refl _ _ _, h, Onto.refl _ _, rfl, rfl, rfl⟩
theorem Frozen.trans {B : Nat} {M M1 M2 : Mem} {H H1 H2 : Heap} (h : Frozen B M H M1 H1) (h' : Frozen B M1 H1 M2 H2) : Frozen B M H M2 H2 :=
  ⟨h.step.trans h.onto h'.step, h'.hr, h.onto.trans h'.onto (by rw [h.w]; exact Nat.le_refl _), h'.w.trans h.w, h'.σ.trans h.σ, h'.len.trans h.len⟩

theorem VR.aggs {M : Mem} {cs : List AV} {x : Value} (h : VR M (.agg cs) x) : ∃ vs, x = .agg (List.toArray vs) ∧ VRs M cs vs := by
  cases h with
  | agg _ vs hl hr => exact ⟨vs, rfl, hl, hr⟩
theorem VR.tups {M : Mem} {cs : List AV} {x : Value} (h : VR M (.tup cs) x) : ∃ vs, x = .tuple (List.toArray vs) ∧ VRs M cs vs := by
  cases h with
  | tup _ vs hl hr => exact ⟨vs, rfl, hl, hr⟩
theorem VR.fns {M : Mem} {f : FuncId} {cs : List AV} {x : Value} (h : VR M (.fn f cs) x) : ∃ vs, x = .func (.func f) #[] (List.toArray vs) ∧ VRs M cs vs := by
  cases h with
  | fn _ _ vs hl hr => exact ⟨vs, rfl, hl, hr⟩

mutual
theorem frz_sound {B : Nat} : ∀ (v : AV) {M : Mem} {H : Heap} {v' : AV} {H' : Heap} {x : Value}, HR B M H → VR M v x → frz v H = some (v', H') →
    ∃ M', Frozen B M H M' H' ∧ VR M' v' x
  | .row b ver hs off len, M, H, v', H', x, h, hx, hf => by
    simp only [frz] at hf
    split at hf
    · rename_i sz xs ver' fz hb
      split at hf
      · rename_i hc
        obtain ⟨rfl, hn⟩ := hc
        injection hf with hf; injection hf with e1 e2; subst e1; subst e2
        obtain ⟨M', h1, h2, h3, h4, h5, h6⟩ := frz_row h hx hb hn
        exact ⟨M', ⟨h1, h2, h3, h4, h5, by simp⟩, h6⟩
      · cases hf
    · cases hf
  | .nils, M, H, v', H', x, h, hx, hf => by
    simp only [frz] at hf; injection hf with hf; injection hf with e1 e2; subst e1; subst e2
    refine ⟨M, Frozen.refl h, ?_⟩
    cases hx with | nils a => exact .view0 false a 0 (by simp)
  | .view xs e, M, H, v', H', x, h, hx, hf => by
    simp only [frz] at hf; injection hf with hf; injection hf with e1 e2; subst e1; subst e2
    refine ⟨M, Frozen.refl h, ?_⟩
    cases hx with
    | view0 e a cap _ => exact .view0 false a cap (by simp)
    | view _ _ g o sz cap vals h0 hs hl hc hr hp hcap he => exact .view xs false g o sz cap vals h0 hs hl hc hr hp hcap (by simp)
  | .agg cs, M, H, v', H', x, h, hx, hf => by
    simp only [frz] at hf
    split at hf
    · rename_i cs' H1 hc
      injection hf with hf; injection hf with e1 e2; subst e1; subst e2
      obtain ⟨vs, rfl, hvs⟩ := hx.aggs
      obtain ⟨M', h1, h2⟩ := frzL_sound cs h hvs hc
      exact ⟨M', h1, .agg _ _ h2.1 h2.2⟩
    · cases hf
  | .tup cs, M, H, v', H', x, h, hx, hf => by
    simp only [frz] at hf
    split at hf
    · rename_i cs' H1 hc
      injection hf with hf; injection hf with e1 e2; subst e1; subst e2
      obtain ⟨vs, rfl, hvs⟩ := hx.tups
      obtain ⟨M', h1, h2⟩ := frzL_sound cs h hvs hc
      exact ⟨M', h1, .tup _ _ h2.1 h2.2⟩
    · cases hf
  | .fn f cs, M, H, v', H', x, h, hx, hf => by
    simp only [frz] at hf
    split at hf
    · rename_i cs' H1 hc
      injection hf with hf; injection hf with e1 e2; subst e1; subst e2
      obtain ⟨vs, rfl, hvs⟩ := hx.fns
      obtain ⟨M', h1, h2⟩ := frzL_sound cs h hvs hc
      exact ⟨M', h1, .fn _ _ _ h2.1 h2.2⟩
    · cases hf
  | .iface t v, M, H, v', H', x, h, hx, hf => by
    simp only [frz] at hf
    split at hf
    · rename_i v1 H1 hc
      injection hf with hf; injection hf with e1 e2; subst e1; subst e2
      cases hx with
      | iface _ _ y hy =>
        obtain ⟨M', h1, h2⟩ := frz_sound v h hy hc
        exact ⟨M', h1, .iface _ _ _ h2⟩
    · cases hf
  | .ptr _ _, _, _, _, _, _, _, _, hf => by simp [frz] at hf
  | .rptr _ _ _ _, _, _, _, _, _, _, _, hf => by simp [frz] at hf
  | .vptr _ _, _, _, _, _, _, _, _, hf => by simp [frz] at hf
  | .iter _, _, _, _, _, _, _, _, hf => by simp [frz] at hf
  | .undef, M, H, v', H', x, h, hx, hf => by
    simp only [frz] at hf; injection hf with hf; injection hf with e1 e2; subst e1; subst e2; exact ⟨M, Frozen.refl h, hx⟩
  | .bool _, M, H, v', H', x, h, hx, hf => by
    simp only [frz] at hf; injection hf with hf; injection hf with e1 e2; subst e1; subst e2; exact ⟨M, Frozen.refl h, hx⟩
  | .int _ _, M, H, v', H', x, h, hx, hf => by
    simp only [frz] at hf; injection hf with hf; injection hf with e1 e2; subst e1; subst e2; exact ⟨M, Frozen.refl h, hx⟩
  | .str _, M, H, v', H', x, h, hx, hf => by
    simp only [frz] at hf; injection hf with hf; injection hf with e1 e2; subst e1; subst e2; exact ⟨M, Frozen.refl h, hx⟩
  | .nilp, M, H, v', H', x, h, hx, hf => by
    simp only [frz] at hf; injection hf with hf; injection hf with e1 e2; subst e1; subst e2; exact ⟨M, Frozen.refl h, hx⟩
  | .nilf, M, H, v', H', x, h, hx, hf => by
    simp only [frz] at hf; injection hf with hf; injection hf with e1 e2; subst e1; subst e2; exact ⟨M, Frozen.refl h, hx⟩
  | .nili, M, H, v', H', x, h, hx, hf => by
    simp only [frz] at hf; injection hf with hf; injection hf with e1 e2; subst e1; subst e2; exact ⟨M, Frozen.refl h, hx⟩
theorem frzL_sound {B : Nat} : ∀ (cs : List AV) {M : Mem} {H : Heap} {cs' : List AV} {H' : Heap} {vs : List Value}, HR B M H → VRs M cs vs → frzL cs H = some (cs', H') →
    ∃ M', Frozen B M H M' H' ∧ VRs M' cs' vs
  | [], M, H, cs', H', vs, h, hx, hf => by
    simp only [frzL] at hf; injection hf with hf; injection hf with e1 e2; subst e1; subst e2; exact ⟨M, Frozen.refl h, hx⟩
  | c :: cs, M, H, cs', H', vs, h, hx, hf => by
    obtain ⟨v, vs', rfl, h1, h2⟩ := hx.inv
    simp only [frzL] at hf
    split at hf
    · rename_i c1 H1 hc
      split at hf
      · rename_i cs1 H2 hcs
        injection hf with hf; injection hf with e1 e2; subst e1; subst e2
        obtain ⟨M1, f1, r1⟩ := frz_sound c h h1 hc
        obtain ⟨M2, f2, r2⟩ := frzL_sound cs f1.hr (h2.ext f1.step.ext) hcs
        exact ⟨M2, f1.trans f2, VRs.cons (r1.ext f2.step.ext) r2⟩
      · cases hf
    · cases hf
end

mutual
theorem frz_ref : ∀ (v : AV) {H : Heap} {v' : AV} {H' : Heap}, frz v H = some (v', H') → refOk 0 v' = true
  | .row b ver hs off len, H, v', H', hf => by
    simp only [frz] at hf
    split at hf
    · split at hf
      · injection hf with hf; injection hf with e1 _; subst e1; rfl
      · cases hf
    · cases hf
  | .agg cs, H, v', H', hf => by
    simp only [frz] at hf
    split at hf
    · rename_i hc; injection hf with hf; injection hf with e1 _; subst e1; exact frzL_ref cs hc
    · cases hf
  | .tup cs, H, v', H', hf => by
    simp only [frz] at hf
    split at hf
    · rename_i hc; injection hf with hf; injection hf with e1 _; subst e1; exact frzL_ref cs hc
    · cases hf
  | .fn f cs, H, v', H', hf => by
    simp only [frz] at hf
    split at hf
    · rename_i hc; injection hf with hf; injection hf with e1 _; subst e1; exact frzL_ref cs hc
    · cases hf
  | .iface t v, H, v', H', hf => by
    simp only [frz] at hf
    split at hf
    · rename_i hc; injection hf with hf; injection hf with e1 _; subst e1; simpa [refOk] using frz_ref v hc
    · cases hf
  | .nils, _, _, _, hf => by simp only [frz] at hf; injection hf with hf; injection hf with e1 _; subst e1; rfl
  | .view _ _, _, _, _, hf => by simp only [frz] at hf; injection hf with hf; injection hf with e1 _; subst e1; rfl
  | .ptr _ _, _, _, _, hf => by simp [frz] at hf
  | .rptr _ _ _ _, _, _, _, hf => by simp [frz] at hf
  | .vptr _ _, _, _, _, hf => by simp [frz] at hf
  | .iter _, _, _, _, hf => by simp [frz] at hf
  | .undef, _, _, _, hf => by simp only [frz] at hf; injection hf with hf; injection hf with e1 _; subst e1; rfl
  | .bool _, _, _, _, hf => by simp only [frz] at hf; injection hf with hf; injection hf with e1 _; subst e1; rfl
  | .int _ _, _, _, _, hf => by simp only [frz] at hf; injection hf with hf; injection hf with e1 _; subst e1; rfl
  | .str _, _, _, _, hf => by simp only [frz] at hf; injection hf with hf; injection hf with e1 _; subst e1; rfl
  | .nilp, _, _, _, hf => by simp only [frz] at hf; injection hf with hf; injection hf with e1 _; subst e1; rfl
  | .nilf, _, _, _, hf => by simp only [frz] at hf; injection hf with hf; injection hf with e1 _; subst e1; rfl
  | .nili, _, _, _, hf => by simp only [frz] at hf; injection hf with hf; injection hf with e1 _; subst e1; rfl
theorem frzL_ref : ∀ (cs : List AV) {H : Heap} {cs' : List AV} {H' : Heap}, frzL cs H = some (cs', H') → refOkL 0 cs' = true
  | [], _, _, _, hf => by simp only [frzL] at hf; injection hf with hf; injection hf with e1 _; subst e1; rfl
  | c :: cs, H, cs', H', hf => by
    simp only [frzL] at hf
    split at hf
    · rename_i hc
      split at hf
      · rename_i hcs
        injection hf with hf; injection hf with e1 _; subst e1
        simp [refOkL, frz_ref c hc, frzL_ref cs hcs]
      · cases hf
    · cases hf
end

theorem frzL_length : ∀ (cs : List AV) {H : Heap} {cs' : List AV} {H' : Heap}, frzL cs H = some (cs', H') → cs'.length = cs.length
  | [], _, _, _, hf => by simp only [frzL] at hf; injection hf with hf; injection hf with e1 _; subst e1; rfl
  | c :: cs, H, cs', H', hf => by
    simp only [frzL] at hf
    split at hf
    · split at hf
      · rename_i hcs
        injection hf with hf; injection hf with e1 _; subst e1
        simp [frzL_length cs hcs]
      · cases hf
    · cases hf

/-- a cell that was frozen is pure -/
theorem frz_cell {B : Nat} {M : Mem} {H : Heap} {c c' : AV} {H' : Heap} {x : Value} (h : HR B M H) (hx : VR M c x) (hk : okCell c = true) (hf : frz c H = some (c', H')) : pureC c' = true := by
  cases c <;> simp only [okCell, Bool.false_eq_true] at hk <;> simp only [frz] at hf
  all_goals first
    | (injection hf with hf; injection hf with e1 _; subst e1; rfl)
    | (simp at hf; done)
    | skip
  · injection hf with hf; injection hf with e1 _; subst e1
    cases hx with
    | view0 => rfl
    | view _ _ _ _ _ _ _ _ _ _ _ _ hp => simpa [pureC] using hp
  · split at hf
    · rename_i sz xs ver' fz hb
      split at hf
      · injection hf with hf; injection hf with e1 _; subst e1
        obtain ⟨_, hpl, _⟩ := h.blk _ _ hb
        simp [pureC, pureL_take (pureL_drop hpl _) _]
      · cases hf
    · cases hf

theorem okCells_get {cs : List AV} (h : okCells cs = true) {j : Nat} {u : AV} (hu : cs[j]? = some u) : okCell u = true := by
  induction cs generalizing j with
  | nil => simp at hu
  | cons c cs ih =>
    simp only [okCells, Bool.and_eq_true] at h
    cases j with
    | zero => simp at hu; subst hu; exact h.1
    | succ j => exact ih h.2 (by simpa using hu)
theorem okCells_append {cs ds : List AV} : okCells (cs ++ ds) = (okCells cs && okCells ds) := by
  induction cs with
  | nil => simp [okCells]
  | cons c cs ih => simp [okCells, ih, Bool.and_assoc]

theorem frz_cellsL {B : Nat} : ∀ (cs : List AV) {M : Mem} {H : Heap} {cs' : List AV} {H' : Heap} {vs : List Value}, HR B M H → VRs M cs vs → okCells cs = true → frzL cs H = some (cs', H') → pureCs cs' = true
  | [], _, _, _, _, _, _, _, _, hf => by simp only [frzL] at hf; injection hf with hf; injection hf with e1 _; subst e1; rfl
  | c :: cs, M, H, cs', H', vs, h, hx, hk, hf => by
    obtain ⟨v, vs', rfl, h1, h2⟩ := hx.inv
    simp only [okCells, Bool.and_eq_true] at hk
    simp only [frzL] at hf
    split at hf
    · rename_i c1 H1 hc
      split at hf
      · rename_i cs1 H2 hcs
        injection hf with hf; injection hf with e1 e2; subst e1; subst e2
        obtain ⟨M1, f1, r1⟩ := frz_sound c h h1 hc
        simp [pureCs, frz_cell h h1 hk.1 hc, frz_cellsL cs f1.hr (h2.ext f1.step.ext) hk.2 hcs]
      · cases hf
    · cases hf

/-- elements that were frozen -/
theorem frz_elem {B : Nat} {M : Mem} {H : Heap} {e e' : AV} {H' : Heap} {x : Value} (h : HR B M H) (hx : VR M e x) (hk : okCells e.cells = true) (hf : frz e H = some (e', H')) :
    pureE e' = true ∧ e'.cells.length = e.cells.length := by
  cases e with
  | agg cs =>
    simp only [frz] at hf
    split at hf
    · rename_i cs' H1 hc
      injection hf with hf; injection hf with e1 e2; subst e1; subst e2
      obtain ⟨vs, rfl, hvs⟩ := hx.aggs
      exact ⟨by simpa [pureE] using frz_cellsL cs h hvs (by simpa [AV.cells] using hk) hc, by simpa [AV.cells] using frzL_length cs hc⟩
    · cases hf
  | tup cs => simp [AV.cells, okCells, okCell] at hk
  | undef => simp [AV.cells, okCells, okCell] at hk
  | _ =>
    have hc := frz_cell h hx (by simpa [AV.cells, okCells] using hk) hf
    refine ⟨pureE_of_C hc, ?_⟩
    cases e' <;> first | rfl | simp [pureC] at hc

theorem frzL_elems {B : Nat} : ∀ (es : List AV) {M : Mem} {H : Heap} {es' : List AV} {H' : Heap} {vs : List Value} (sz : Nat), HR B M H → VRs M es vs →
    (∀ e ∈ es, okCells e.cells = true ∧ e.cells.length = sz) → frzL es H = some (es', H') → pureL es' = true ∧ ∀ e ∈ es', e.cells.length = sz
  | [], _, _, _, _, _, _, _, _, _, hf => by simp only [frzL] at hf; injection hf with hf; injection hf with e1 _; subst e1; exact ⟨rfl, fun _ h => (by cases h)⟩
  | c :: cs, M, H, cs', H', vs, sz, h, hx, hk, hf => by
    obtain ⟨v, vs', rfl, h1, h2⟩ := hx.inv
    simp only [frzL] at hf
    split at hf
    · rename_i c1 H1 hc
      split at hf
      · rename_i cs1 H2 hcs
        injection hf with hf; injection hf with e1 e2; subst e1; subst e2
        obtain ⟨M1, f1, r1⟩ := frz_sound c h h1 hc
        obtain ⟨k1, k2⟩ := frz_elem h h1 (hk c (List.mem_cons_self ..)).1 hc
        obtain ⟨k3, k4⟩ := frzL_elems cs sz f1.hr (h2.ext f1.step.ext) (fun e he => hk e (List.mem_cons_of_mem _ he)) hcs
        refine ⟨by simp [pureL, k1, k3], fun e he => ?_⟩
        rcases List.mem_cons.1 he with rfl | he
        · rw [k2]; exact (hk c (List.mem_cons_self ..)).2
        · exact k4 e he
      · cases hf
    · cases hf

end Go.Vi
end SViFrz
