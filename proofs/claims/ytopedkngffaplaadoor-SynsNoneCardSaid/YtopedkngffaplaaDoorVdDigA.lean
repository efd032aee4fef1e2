/- The interpreter: its shortened form of code is sound; rules to evaluate it in part. -/
import Derived.Test.YtopedkngffaplaaDoorVdTop
set_option linter.all false
set_option linter.unusedVariables false
set_option linter.unusedSectionVars false
set_option linter.unusedSimpArgs false
section SViDigA
/- Code digested: pure operations are folded into expressions over the slots that are kept; what is left is small. Definitions. -/
namespace Go.Vi
noncomputable section
open Go

/-- an expression over slots -/
inductive X where
  | loc (t : Nat)
  | val (v : AV)
  | ite (c a b : X)
  | bin (op : BinOp) (t : TypeId) (a b : X)
  | un (op : UnOp) (a : X)
  | conv (s d : TypeId) (a : X)
  | load (t : TypeId) (a : X)
  | nck (a : X)
  | bld (t : TypeId) (is : List Nat) (xs : List X)
  | fa (t : TypeId) (a : X) (f : Nat)
  | fd (t : TypeId) (a : X) (f : Nat)
  | ia (t : TypeId) (a i : X)
  | ix (t : TypeId) (a i : X)
  | ext (a : X) (i : Nat)
  | len (t : TypeId) (a : X)
  | mm (mx : Bool) (a b : X)
  | sl (t : TypeId) (a lo hi : X)
  | slh (t : TypeId) (a lo : X)
  | mkf (f : FuncId) (xs : List X)
  | call (f : FuncId) (xs : List X)
  deriving Inhabited

/-- no own row in it -/
def rowFree : AV → Bool
  | .bool _ => true
  | .int _ _ => true
  | .str _ => true
  | .nilp => true
  | .nils => true
  | .view _ _ => true
  | .nilf => true
  | .nili => true
  | .undef => false
  | .ptr _ _ => false
  | .rptr _ _ _ _ => false
  | .vptr _ _ => false
  | .row _ _ _ _ _ => false
  | .fn _ cs => rowFreeL cs
  | .agg cs => rowFreeL cs
  | .tup cs => rowFreeL cs
  | .iface _ v => rowFree v
  | .iter _ => false
where rowFreeL : List AV → Bool
  | [] => true
  | c :: cs => rowFree c && rowFreeL cs

def rd (L : Env) (t : Nat) : Option AV := match L[t]? with
  | some .undef => none
  | some v => some v
  | none => none

def loadOf (P : Program) (H : Heap) (t : TypeId) (a : AV) : Option AV := match shp P t with
  | some (g, n) => getAt H g n a
  | none => none
def nckOf : AV → Option AV
  | .ptr b c => some (.ptr b c)
  | .rptr b v i c => some (.rptr b v i c)
  | .vptr x c => some (.vptr x c)
  | .fn f cs => some (.fn f cs)
  | _ => none
def faOf (P : Program) (s : TypeId) (f : Nat) (a : AV) : Option AV := match fieldAt P s f with
  | some (d, _, _) => addCell a d
  | none => none
def fdOf (P : Program) (s : TypeId) (f : Nat) (a : AV) : Option AV := match fieldAt P s f, a with
  | some (d, g, n), .agg cs => sub g d n (.agg cs)
  | _, _ => none
def iaOf (P : Program) (t : TypeId) (a i : AV) : Option AV := match i with
  | .int _ i => indexAddrOf P t a i
  | _ => none
def ixvOf (P : Program) (t : TypeId) (a i : AV) : Option AV := match i with
  | .int _ i => indexOf P t a i
  | _ => none
def extOf (a : AV) (i : Nat) : Option AV := match a with
  | .tup vs => vs[i]?
  | _ => none
def mmOf (mx : Bool) (a b : AV) : Option AV := match a, b with
  | .int k a, .int _ b => some (.int k (if mx then (if b > a then b else a) else (if b < a then b else a)))
  | _, _ => none
/-- a slice of a string or of a row, its room not cut off -/
def slOf (P : Program) (t : TypeId) (a : AV) (lo hi : Option AV) : Option AV := match ixOf P t with
  | some (.arr _ _) => none
  | _ => match sliceOf P [] t a lo hi none with
    | some (v, _) => some v
    | none => none

mutual
def xev (C : Cfg) (call : Callee') (L : Env) (H : Heap) : X → Option AV
  | .loc t => rd L t
  | .val v => some v
  | .ite c a b => match xev C call L H c with
    | some (.bool true) => xev C call L H a
    | some (.bool false) => xev C call L H b
    | _ => none
  | .bin op t a b => match xev C call L H a, xev C call L H b with
    | some x, some y => binOpOf C.P op t x y
    | _, _ => none
  | .un op a => match xev C call L H a with
    | some x => unOpOf op x
    | none => none
  | .conv s d a => match xev C call L H a with
    | some x => match convertOf C.P H s d x with
      | some (v, _) => some v
      | none => none
    | none => none
  | .load t a => match xev C call L H a with
    | some x => loadOf C.P H t x
    | none => none
  | .nck a => match xev C call L H a with
    | some x => nckOf x
    | none => none
  | .bld t is xs => match xevL C call L H xs with
    | some vs => buildOf C.P t (is.zip vs)
    | none => none
  | .fa t a f => match xev C call L H a with
    | some x => faOf C.P t f x
    | none => none
  | .fd t a f => match xev C call L H a with
    | some x => fdOf C.P t f x
    | none => none
  | .ia t a i => match xev C call L H a, xev C call L H i with
    | some x, some y => iaOf C.P t x y
    | _, _ => none
  | .ix t a i => match xev C call L H a, xev C call L H i with
    | some x, some y => ixvOf C.P t x y
    | _, _ => none
  | .ext a i => match xev C call L H a with
    | some x => extOf x i
    | none => none
  | .len t a => match xev C call L H a with
    | some x => lenOf C.P t x
    | none => none
  | .mm mx a b => match xev C call L H a, xev C call L H b with
    | some x, some y => mmOf mx x y
    | _, _ => none
  | .sl t a lo hi => match xev C call L H a, xev C call L H lo, xev C call L H hi with
    | some x, some y, some z => slOf C.P t x (some y) (some z)
    | _, _, _ => none
  | .slh t a lo => match xev C call L H a, xev C call L H lo with
    | some x, some y => slOf C.P t x (some y) none
    | _, _ => none
  | .mkf f xs => match xevL C call L H xs with
    | some vs => some (.fn f vs)
    | none => none
  | .call f xs => match xevL C call L H xs with
    | some vs => if C.inl f = false ∧ rowFree.rowFreeL vs = true then (match call [] f vs H with
        | .ok v _ => some v
        | .fail => none) else none
    | none => none
def xevL (C : Cfg) (call : Callee') (L : Env) (H : Heap) : List X → Option (List AV)
  | [] => some []
  | x :: xs => match xev C call L H x, xevL C call L H xs with
    | some v, some vs => some (v :: vs)
    | _, _ => none
end

inductive S where
  | skip
  | sets (ds : List (Nat × X))
  | chk (x : X)
  | eff (d : Option Nat) (o : Op) (xs : List X)
  | cal (d : Option Nat) (f : X) (xs : List X)
  | raw (ops : Array Oper) (draw : Bool)
  | seq (a b : S)
  | cond (x : X) (a b : S)
  | block (id : Nat) (b : S)
  | loop (rs : List Nat) (b : S)
  | exit (i : Nat)
  | ret
  deriving Inhabited

def mkOper (o : Op) : Oper := { dst := none, op := o, type := 0, pos := "", after := #[], guard := none }

def opnds : Op → List Operand
  | .move x => [x]
  | .assign x => [x]
  | .pick c a b => [c, a, b]
  | .box _ x => [x]
  | .load _ a => [a]
  | .store _ a x => [a, x]
  | .nilCheck x => [x]
  | .binOp _ _ x y _ => [x, y]
  | .unOp _ _ x => [x]
  | .convert _ _ x => [x]
  | .build _ ps => ps.toList.map (·.2)
  | .buildSlice _ _ ps => ps.toList.map (·.2)
  | .makeFunc _ _ cs => cs.toList
  | .makeSlice _ l c => [l, c]
  | .slice _ x lo hi mx => x :: (lo.toList ++ hi.toList ++ mx.toList)
  | .fieldAddr _ x _ => [x]
  | .field _ x _ => [x]
  | .indexAddr _ x i => [x, i]
  | .index _ x i => [x, i]
  | .range _ x => [x]
  | .next it _ => [it]
  | .extract t _ => [t]
  | .call { callee := .value f, args, .. } => f :: args.toList
  | .call { callee := .builtin _, args, .. } => args.toList
  | _ => []
/-- the operand is known -/
def known (L : Env) : Operand → Bool
  | .tmp t => (rd L t).isSome
  | _ => true
def knownL (L : Env) : List Operand → Bool
  | [] => true
  | x :: xs => known L x && knownL L xs

def saops (P : Program) (call : Callee') (ns : List Nat) (all : Array Oper) : List Oper → Env → Heap → Res
  | [], env, H => .ok .normal env H
  | o :: os, env, H => match wantE all env o with
    | some true => if knownL env (opnds o.op) = true then (match aoper P call ns env H o with
      | .ok v H' => saops P call ns all os (putE env o.dst v) H'
      | .fail => .fail) else .fail
    | some false => saops P call ns all os (putE env o.dst (.tup [])) H
    | none => .fail
def sadraw (P : Program) (inl : FuncId → Bool) (call : Callee') (ns : List Nat) (all : Array Oper) : Nat → List Oper → Env → Heap → Log → Res
  | _, [], env, H, log => if logOk all log = true then .ok .normal env H else .fail
  | j, o :: os, env, H, log => match wantE all env o with
    | some true => if knownL env (opnds o.op) = true then (match aoper P call ns env H o with
      | .ok v H' => sadraw P inl call ns all (j + 1) os (putE env o.dst v) H' (put1 (ease (touch inl env H.length H'.length j o) H H') log)
      | .fail => .fail) else .fail
    | some false => sadraw P inl call ns all (j + 1) os (putE env o.dst (.tup [])) H log
    | none => .fail

def evDs (C : Cfg) (call : Callee') (L : Env) (H : Heap) : List (Nat × X) → Option (List (Nat × AV))
  | [] => some []
  | (t, x) :: r => match xev C call L H x, evDs C call L H r with
    | some v, some vs => some ((t, v) :: vs)
    | _, _ => none
def setL (L : Env) : List (Nat × AV) → Env
  | [] => L
  | (t, v) :: r => setL (L.set t v) r
def resetL (L : Env) : List Nat → Env
  | [] => L
  | t :: r => resetL (L.set t .undef) r

def sexec (C : Cfg) (call : Callee') : S → List Nat → Env → Heap → Res
  | .skip, _, L, H => .ok .normal L H
  | .sets ds, _, L, H => match evDs C call L H ds with
    | some vs => .ok .normal (setL L vs) H
    | none => .fail
  | .chk x, _, L, H => match xev C call L H x with
    | some _ => .ok .normal L H
    | none => .fail
  | .eff d o xs, ns, L, H => match xevL C call L H xs with
    | some vs => match aop C.P ns vs H (mkOper o) with
      | some (v, H') => .ok .normal (putE L d v) H'
      | none => .fail
    | none => .fail
  | .cal d f xs, ns, L, H => match xev C call L H f, xevL C call L H xs with
    | some (.fn f cap), some vs => match call ns f (vs ++ cap) H with
      | .ok v H' => .ok .normal (putE L d v) H'
      | .fail => .fail
    | _, _ => .fail
  | .raw ops false, ns, L, H => saops C.P call ns ops ops.toList L H
  | .raw ops true, ns, L, H => sadraw C.P C.inl call ns ops 0 ops.toList L H []
  | .seq a b, ns, L, H => match sexec C call a ns L H with
    | .ok .normal L' H' => sexec C call b ns L' H'
    | .ok .ret L' H' => .ok .ret L' H'
    | .ok (.exit i) L' H' => .ok (.exit i) L' H'
    | .fail => .fail
  | .cond x a b, ns, L, H => match xev C call L H x with
    | some (.bool true) => sexec C call a ns L H
    | some (.bool false) => sexec C call b ns L H
    | _ => .fail
  | .block id b, ns, L, H => match sexec C call b ns L H with
    | .ok (.exit i) L' H' => if i = id then .ok .normal L' H' else .ok (.exit i) L' H'
    | .ok .normal L' H' => .ok .normal L' H'
    | .ok .ret L' H' => .ok .ret L' H'
    | .fail => .fail
  | .loop rs b, ns, L, H => loopN (fun ns L H => sexec C call b ns (resetL L rs) H) ns C.rounds L H
  | .exit i, _, L, H => .ok (.exit i) L H
  | .ret, _, L, H => .ok .ret L H

/-! the digest -/
abbrev Gd := Option (Nat × Bool)
abbrev Sg := List (Nat × Gd × X)
def fnd : Sg → Nat → Option (Gd × X)
  | [], _ => none
  | (t, e) :: r, u => if t = u then some e else fnd r u
structure DSt where
  σ : Sg
  pend : List Nat
  dirty : List Nat
def gdEq : Gd → Gd → Bool
  | none, none => true
  | some (t, w), some (u, v) => t == u && w == v
  | _, _ => false
/-- a guard that is met has the other one met -/
def impl (σ : Sg) : Nat → Gd → Gd → Bool
  | _, _, none => true
  | 0, _, _ => false
  | n + 1, go, some g => gdEq go (some g) || (match go with
    | some (t, _) => match fnd σ t with
      | some (g', _) => impl σ n g' (some g)
      | none => false
    | none => false)
def gin (σ : Sg) : Gd → Bool
  | none => true
  | some (t, _) => (fnd σ t).isSome

structure Hint where
  nt : Nat
  keep : List Nat
  raws : List Nat
  cals : List (Nat × Nat)
  rs : List (List Nat)

def look (kp : List Nat) (σ : Sg) (go : Gd) : Operand → Option X
  | .const c => some (.val (aval c))
  | .func f => some (.val (.fn f []))
  | .global _ => none
  | .tmp t => match fnd σ t with
    | some (g, x) => if impl σ 8 go g then some x else none
    | none => if kp.contains t then some (.loc t) else none
def lookL (kp : List Nat) (σ : Sg) (go : Gd) : List Operand → Option (List X)
  | [] => some []
  | x :: xs => match look kp σ go x, lookL kp σ go xs with
    | some y, some ys => some (y :: ys)
    | _, _ => none
def isNilS : Value → Bool
  | .slice _ 0 0 => true
  | _ => false
def tmpsOf : List Operand → List Nat
  | [] => []
  | .tmp t :: r => t :: tmpsOf r
  | _ :: r => tmpsOf r

/-- a pure operation as an expression of its operands' -/
def pureX (P : Program) (inl : FuncId → Bool) (o : Op) (xs : List X) : Option X := match o, xs with
  | .move (.const c), _ => if isNilS c then none else some (.val (aval c))
  | .assign (.const c), _ => if isNilS c then none else some (.val (aval c))
  | .move _, [x] => some x
  | .assign _, [x] => some x
  | .load t _, [x] => some (.load t x)
  | .nilCheck _, [x] => some (.nck x)
  | .binOp op t _ _ _, [x, y] => some (.bin op t x y)
  | .unOp op _ _, [x] => some (.un op x)
  | .convert s d _, [x] => some (.conv s d x)
  | .build t ps, xs => some (.bld t (ps.toList.map (·.1)) xs)
  | .fieldAddr t _ f, [x] => some (.fa t x f)
  | .field t _ f, [x] => some (.fd t x f)
  | .indexAddr t _ _, [x, y] => some (.ia t x y)
  | .index t _ _, [x, y] => some (.ix t x y)
  | .extract _ i, [x] => some (.ext x i)
  | .makeFunc (.func f) first _, xs => if first.isEmpty then some (.mkf f xs) else none
  | .slice t _ lo hi none, xs => match ixOf P t with
    | some (.arr _ _) => none
    | _ => match lo, hi, xs with
      | none, none, [x] => some (.slh t x (.val (.int .i64 0)))
      | some _, none, [x, l] => some (.slh t x l)
      | none, some _, [x, h] => some (.sl t x (.val (.int .i64 0)) h)
      | some _, some _, [x, l, h] => some (.sl t x l h)
      | _, _, _ => none
  | .call { callee := .builtin .len, argTypes, .. }, [x] => match argTypes[0]? with
    | some t => some (.len t x)
    | none => none
  | .call { callee := .builtin .max, .. }, [x, y] => some (.mm true x y)
  | .call { callee := .builtin .min, .. }, [x, y] => some (.mm false x y)
  | .call { callee := .value (.func f), .. }, .val _ :: xs => if inl f = true then none else some (.call f xs)
  | _, _ => none

/-- an operation that turns memory, its operands renumbered -/
def effO : Op → Option (Op × List Operand)
  | .move (.const c) => if isNilS c then some (.move (.const c), []) else none
  | .assign (.const c) => if isNilS c then some (.move (.const c), []) else none
  | .alloc t => some (.alloc t, [])
  | .box t x => some (.box t (.tmp 0), [x])
  | .store t a x => some (.store t (.tmp 0) (.tmp 1), [a, x])
  | .buildSlice t n ps => some (.buildSlice t n ((List.zip (ps.toList.map (·.1)) ((List.range ps.size).map Operand.tmp)).toArray), ps.toList.map (·.2))
  | .makeSlice t l c => some (.makeSlice t (.tmp 0) (.tmp 1), [l, c])
  | .slice t x none none none => some (.slice t (.tmp 0) none none none, [x])
  | .slice t x none (some h) none => some (.slice t (.tmp 0) none (some (.tmp 1)) none, [x, h])
  | .slice t x (some l) none none => some (.slice t (.tmp 0) (some (.tmp 1)) none none, [x, l])
  | .slice t x (some l) (some h) none => some (.slice t (.tmp 0) (some (.tmp 1)) (some (.tmp 2)) none, [x, l, h])
  | .slice t x (some l) (some h) (some m) => some (.slice t (.tmp 0) (some (.tmp 1)) (some (.tmp 2)) (some (.tmp 3)), [x, l, h, m])
  | .slice t x none (some h) (some m) => some (.slice t (.tmp 0) none (some (.tmp 1)) (some (.tmp 2)), [x, h, m])
  | .range t x => some (.range t (.tmp 0), [x])
  | .next it b => some (.next (.tmp 0) b, [it])
  | .call { callee := .builtin .append, args, argTypes } => match args.toList with
    | [s, x] => some (.call { callee := .builtin .append, args := #[.tmp 0, .tmp 1], argTypes := argTypes }, [s, x])
    | _ => none
  | _ => none

def rmAll (ts : List Nat) (p : List Nat) : List Nat := p.filter fun t => !ts.contains t
/-- the temporaries whose evaluation another one's brings with it -/
def covers (σ : Sg) (go : Gd) : List Nat → List Nat
  | [] => []
  | t :: r => match fnd σ t with
    | some (g, _) => if gdEq g go then t :: covers σ go r else covers σ go r
    | none => covers σ go r

def chks (σ : Sg) (dirty : List Nat) : List Nat → Option S
  | [] => some .skip
  | t :: r => if dirty.contains t then chks σ dirty r else match fnd σ t with
    | some (none, x) => match chks σ dirty r with
      | some s => some (.seq (.chk x) s)
      | none => none
    | _ => none
def dirts (σ : Sg) : List Nat → Option (List (Nat × X))
  | [] => some []
  | t :: r => match fnd σ t with
    | some (none, x) => match dirts σ r with
      | some s => some ((t, x) :: s)
      | none => none
    | _ => none
def seqS : S → S → S
  | .skip, b => b
  | a, .skip => a
  | a, b => .seq a b
/-- what is open is evaluated, what was assigned is put into its slots -/
def flush (st : DSt) : Option S := match chks st.σ st.dirty st.pend, dirts st.σ st.dirty with
  | some a, some [] => some a
  | some a, some ds => some (seqS a (.sets ds))
  | _, _ => none

def gdOf (all : Array Oper) (o : Oper) : Option Gd := match o.guard with
  | none => some none
  | some (j, w) => match (all[j]?).bind (·.dst) with
    | some t => some (some (t, w))
    | none => none

def digPick (kp : List Nat) (st : DSt) (go : Gd) (c a b : Operand) : Option (X × List Nat) := match c with
  | .tmp tc => match fnd st.σ tc with
    | some (gc, xc) => if gdEq gc go then (match look kp st.σ (some (tc, true)) a, look kp st.σ (some (tc, false)) b with
      | some xa, some xb => some (.ite xc xa xb, tc :: (covers st.σ (some (tc, true)) (tmpsOf [a]) ++ covers st.σ (some (tc, false)) (tmpsOf [b])))
      | _, _ => none) else none
    | none => none
  | _ => none

/-- the expression of a pure operation, and what its evaluation brings with it -/
def digX (P : Program) (inl : FuncId → Bool) (kp : List Nat) (st : DSt) (go : Gd) (o : Op) : Option (X × List Nat) := match o with
  | .pick c a b => digPick kp st go c a b
  | op => match lookL kp st.σ go (opnds op) with
    | some xs => match pureX P inl op xs with
      | some x => some (x, covers st.σ go (tmpsOf (opnds op)))
      | none => none
    | none => none

def digPure (P : Program) (inl : FuncId → Bool) (hn : Hint) (rid j : Nat) (all : Array Oper) (st : DSt) (o : Oper) : Option DSt :=
  match gdOf all o, o.dst with
  | some go, some d => if d < hn.nt ∧ gin st.σ go = true ∧ fnd st.σ d = none ∧ hn.cals.contains (rid, j) = false ∧ (hn.keep.contains d = true → go = none) then
      (match digX P inl hn.keep st go o.op with
      | some (x, cov) => some { σ := (d, go, x) :: st.σ, pend := d :: rmAll cov st.pend, dirty := if hn.keep.contains d then d :: st.dirty else st.dirty }
      | none => none)
    else none
  | _, _ => none

def emptySt : DSt := { σ := [], pend := [], dirty := [] }
def flushD (st : DSt) : Option (S × DSt) := if st.dirty.isEmpty then some (.skip, st) else match flush st with
  | some s => some (s, emptySt)
  | none => none

def dstOk (hn : Hint) (o : Oper) : Bool := match o.dst with
  | none => true
  | some d => hn.keep.contains d
def digEff (hn : Hint) (st : DSt) (o : Oper) : Option (S × DSt) :=
  if o.guard = none ∧ dstOk hn o = true then (match flushD st with
    | some (s0, st0) => match o.op with
      | .call { callee := .value f, args, .. } => match look hn.keep st0.σ none f, lookL hn.keep st0.σ none args.toList, chks st0.σ [] (rmAll (covers st0.σ none (tmpsOf (f :: args.toList))) st0.pend) with
        | some xf, some xs, some c => some (seqS s0 (seqS c (.cal o.dst xf xs)), emptySt)
        | _, _, _ => none
      | op => match effO op with
        | some (o', os) => match lookL hn.keep st0.σ none os, chks st0.σ [] (rmAll (covers st0.σ none (tmpsOf os)) st0.pend) with
          | some xs, some c => some (seqS s0 (seqS c (.eff o.dst o' xs)), emptySt)
          | _, _ => none
        | none => none
    | none => none)
  else none

def digOps (P : Program) (inl : FuncId → Bool) (hn : Hint) (rid : Nat) (all : Array Oper) : Nat → List Oper → DSt → Option (S × DSt)
  | _, [], st => some (.skip, st)
  | j, o :: os, st => match digPure P inl hn rid j all st o with
    | some st' => digOps P inl hn rid all (j + 1) os st'
    | none => match digEff hn st o with
      | some (s, st') => match digOps P inl hn rid all (j + 1) os st' with
        | some (s', st'') => some (seqS s s', st'')
        | none => none
      | none => none

def rawOk (hn : Hint) : List Oper → Bool
  | [] => true
  | o :: os => dstOk hn o && rawOk hn os

def isSkip : S → Bool
  | .skip => true
  | _ => false

def dig (P : Program) (inl : FuncId → Bool) (hn : Hint) : Code → DSt → Nat → Option (S × DSt × Nat)
  | .skip, st, n => some (.skip, st, n)
  | .region id ops draw, st, n => match flush st with
    | some s0 => if hn.raws.contains id = true then (if rawOk hn ops.toList = true then some (seqS s0 (.raw ops draw), emptySt, n) else none)
      else match digOps P inl hn id ops 0 ops.toList emptySt with
        | some (s, st1) => if draw = true ∧ isSkip s = false then none else match flushD st1 with
          | some (s1, st2) => some (seqS s0 (seqS s s1), st2, n)
          | none => none
        | none => none
    | none => none
  | .seq a b, st, n => match dig P inl hn a st n with
    | some (sa, st1, n1) => match dig P inl hn b st1 n1 with
      | some (sb, st2, n2) => some (seqS sa sb, st2, n2)
      | none => none
    | none => none
  | .cond c a b, st, n => match flushD st with
    | some (s0, st0) => match look hn.keep st0.σ none c, chks st0.σ [] (rmAll (covers st0.σ none (tmpsOf [c])) st0.pend), dig P inl hn a emptySt n with
      | some x, some k, some (sa, sta, n1) => match flush sta, dig P inl hn b emptySt n1 with
        | some fa, some (sb, stb, n2) => match flush stb with
          | some fb => some (seqS s0 (seqS k (.cond x (seqS sa fa) (seqS sb fb))), emptySt, n2)
          | none => none
        | _, _ => none
      | _, _, _ => none
    | none => none
  | .block id b, st, n => match flush st, dig P inl hn b emptySt n with
    | some s0, some (sb, stb, n1) => match flush stb with
      | some fb => some (seqS s0 (.block id (seqS sb fb)), emptySt, n1)
      | none => none
    | _, _ => none
  | .loop b, st, n => match flush st, dig P inl hn b emptySt (n + 1) with
    | some s0, some (sb, stb, n1) => match flush stb with
      | some fb => some (seqS s0 (.loop ((hn.rs[n]?).getD []) (seqS sb fb)), emptySt, n1)
      | none => none
    | _, _ => none
  | .exit i, st, n => match flush st with
    | some s0 => some (seqS s0 (.exit i), emptySt, n)
    | none => none
  | .ret, st, n => match flush st with
    | some s0 => some (seqS s0 .ret, emptySt, n)
    | none => none
  | _, _, _ => none

/-- a function's digest -/
def digFn (P : Program) (inl : FuncId → Bool) (hn : Hint) (np : Nat) (c : Code) : Option S :=
  if (List.range np).all (fun t => hn.keep.contains t) = true then match dig P inl hn c emptySt 0 with
    | some (s, st, _) => match flush st with
      | some f => some (seqS s f)
      | none => none
    | none => none
  else none
end
end Go.Vi
end SViDigA
