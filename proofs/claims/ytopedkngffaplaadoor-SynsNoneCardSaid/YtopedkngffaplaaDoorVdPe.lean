/- The interpreter: its shortened form of code is sound; rules to evaluate it in part. -/
import Derived.Test.YtopedkngffaplaaDoorVdDigG
set_option linter.all false
set_option linter.unusedVariables false
set_option linter.unusedSectionVars false
set_option linter.unusedSimpArgs false
section SViPe
/- Digested code by rewriting: the rules. -/
namespace Go.Vi
noncomputable section
open Go

/-! combinators: what is tested, and what is gone on with -/
def bnO (a : Option AV) (k : AV → Option AV) : Option AV := match a with
  | some v => k v
  | none => none
def bnL (a : Option (List AV)) (k : List AV → Option AV) : Option AV := match a with
  | some v => k v
  | none => none
def op1 (f : AV → Option AV) (a : Option AV) : Option AV := match a with
  | some x => f x
  | none => none
def op2 (f : AV → AV → Option AV) (a b : Option AV) : Option AV := match a, b with
  | some x, some y => f x y
  | _, _ => none
def op3 (f : AV → AV → AV → Option AV) (a b c : Option AV) : Option AV := match a, b, c with
  | some x, some y, some z => f x y z
  | _, _, _ => none
def cvt (P : Program) (H : Heap) (s d : TypeId) (x : AV) : Option AV := (convertOf P H s d x).map (·.1)
def bldK (P : Program) (t : TypeId) (is : List Nat) (vs : Option (List AV)) : Option AV := match vs with
  | some vs => buildOf P t (is.zip vs)
  | none => none
def callK (C : Cfg) (call : Callee') (H : Heap) (f : FuncId) (vs : Option (List AV)) : Option AV := match vs with
  | some vs => if C.inl f = false ∧ rowFree.rowFreeL vs = true then (match call [] f vs H with
        | .ok v _ => some v
        | .fail => none) else none
  | none => none
def slb (P : Program) (t : TypeId) (a lo hi : AV) : Option AV := slOf P t a (some lo) (some hi)
def slh' (P : Program) (t : TypeId) (a lo : AV) : Option AV := slOf P t a (some lo) none
def iteO (c : Option AV) (a b : Option AV) : Option AV := match c with
  | some (.bool true) => a
  | some (.bool false) => b
  | _ => none
def condR (c : Option AV) (a b : Res) : Res := match c with
  | some (.bool true) => a
  | some (.bool false) => b
  | _ => .fail
def seqR (C : Cfg) (call : Callee') (b : S) (ns : List Nat) (a : Res) : Res := match a with
  | .ok .normal L H => sexec C call b ns L H
  | .ok .ret L H => .ok .ret L H
  | .ok (.exit i) L H => .ok (.exit i) L H
  | .fail => .fail
def blockR (id : Nat) (a : Res) : Res := match a with
  | .ok (.exit i) L H => if i = id then .ok .normal L H else .ok (.exit i) L H
  | .ok .normal L H => .ok .normal L H
  | .ok .ret L H => .ok .ret L H
  | .fail => .fail
/-- a loop, so many rounds at most -/
def loopS (C : Cfg) (call : Callee') (rs : List Nat) (b : S) (ns : List Nat) (f : Nat) (L : Env) (H : Heap) : Res := loopN (fun ns L H => sexec C call b ns (resetL L rs) H) ns f L H
def onceR (C : Cfg) (call : Callee') (rs : List Nat) (b : S) (ns : List Nat) (f n : Nat) (a : Res) : Res := match a with
  | .ok .normal L H => loopS C call rs b ns f (scrub n L) (H.take n)
  | .ok .ret L H => .ok .ret L H
  | .ok (.exit i) L H => .ok (.exit i) L H
  | .fail => .fail
def valR (a : Option AV) (k : AV → Res) : Res := match a with
  | some v => k v
  | none => .fail
def valsR (a : Option (List AV)) (k : List AV → Res) : Res := match a with
  | some v => k v
  | none => .fail
def vrR (a : VRes) (k : AV → Heap → Res) : Res := match a with
  | .ok v H => k v H
  | .fail => .fail
def putR (L : Env) (d : Option Nat) (a : VRes) : Res := match a with
  | .ok v H => .ok .normal (putE L d v) H
  | .fail => .fail
def putA (L : Env) (d : Option Nat) (a : Option (AV × Heap)) : Res := match a with
  | some (v, H) => .ok .normal (putE L d v) H
  | none => .fail
def effK (P : Program) (ns : List Nat) (H : Heap) (o : Op) (vs : Option (List AV)) : Option (AV × Heap) := match vs with
  | some vs => aop P ns vs H (mkOper o)
  | none => none
def vrO (a : VRes) : Option AV := match a with
  | .ok v _ => some v
  | .fail => none
def aopR (a : Option (AV × Heap)) (k : AV → Heap → Res) : Res := match a with
  | some (v, H) => k v H
  | none => .fail
def pairsO (t : Nat) (a : Option AV) (b : Option (List (Nat × AV))) : Option (List (Nat × AV)) := match a, b with
  | some v, some vs => some ((t, v) :: vs)
  | _, _ => none
def consO (a : Option AV) (b : Option (List AV)) : Option (List AV) := match a, b with
  | some v, some vs => some (v :: vs)
  | _, _ => none

section
variable {C : Cfg} {call : Callee'} {L : Env} {H : Heap} {ns : List Nat}
@[simp] theorem bnO_some (v : AV) (k : AV → Option AV) : bnO (some v) k = k v := rfl
@[simp] theorem bnO_none (k : AV → Option AV) : bnO none k = none := rfl
@[simp] theorem bnL_some (v : List AV) (k : List AV → Option AV) : bnL (some v) k = k v := rfl
@[simp] theorem bnL_none (k : List AV → Option AV) : bnL none k = none := rfl
@[simp] theorem consO_some (v : AV) (vs : List AV) : consO (some v) (some vs) = some (v :: vs) := rfl
@[simp] theorem consO_none (b : Option (List AV)) : consO none b = none := rfl
@[simp] theorem pairsO_some (t : Nat) (v : AV) (vs : List (Nat × AV)) : pairsO t (some v) (some vs) = some ((t, v) :: vs) := rfl
@[simp] theorem pairsO_none (t : Nat) (b : Option (List (Nat × AV))) : pairsO t none b = none := rfl
@[simp] theorem op1_some (f : AV → Option AV) (x : AV) : op1 f (some x) = f x := rfl
@[simp] theorem op1_none (f : AV → Option AV) : op1 f none = none := rfl
@[simp] theorem op2_some (f : AV → AV → Option AV) (x y : AV) : op2 f (some x) (some y) = f x y := rfl
@[simp] theorem op2_none (f : AV → AV → Option AV) (y : Option AV) : op2 f none y = none := rfl
@[simp] theorem op3_some (f : AV → AV → AV → Option AV) (x y z : AV) : op3 f (some x) (some y) (some z) = f x y z := rfl
@[simp] theorem bldK_some (P : Program) (t : TypeId) (is : List Nat) (vs : List AV) : bldK P t is (some vs) = buildOf P t (is.zip vs) := rfl
@[simp] theorem callK_some (f : FuncId) (vs : List AV) : callK C call H f (some vs) = if C.inl f = false ∧ rowFree.rowFreeL vs = true then vrO (call [] f vs H) else none := rfl
@[simp] theorem iteO_bool (c : Bool) (a b : Option AV) : iteO (some (.bool c)) a b = if c = true then a else b := by cases c <;> rfl
@[simp] theorem iteO_none (a b : Option AV) : iteO none a b = none := rfl
@[simp] theorem condR_bool (c : Bool) (a b : Res) : condR (some (.bool c)) a b = if c = true then a else b := by cases c <;> rfl
@[simp] theorem condR_none (a b : Res) : condR none a b = .fail := rfl
@[simp] theorem seqR_normal (b : S) : seqR C call b ns (.ok .normal L H) = sexec C call b ns L H := rfl
@[simp] theorem seqR_ret (b : S) : seqR C call b ns (.ok .ret L H) = .ok .ret L H := rfl
@[simp] theorem seqR_exit (i : Nat) (b : S) : seqR C call b ns (.ok (.exit i) L H) = .ok (.exit i) L H := rfl
@[simp] theorem seqR_fail (b : S) : seqR C call b ns .fail = .fail := rfl
@[simp] theorem seqR_ite (c : Prop) [Decidable c] (x y : Res) (b : S) : seqR C call b ns (if c then x else y) = if c then seqR C call b ns x else seqR C call b ns y := by split <;> rfl
@[simp] theorem onceR_normal (rs : List Nat) (b : S) (f n : Nat) : onceR C call rs b ns f n (.ok .normal L H) = loopS C call rs b ns f (scrub n L) (H.take n) := rfl
@[simp] theorem onceR_ret (rs : List Nat) (b : S) (f n : Nat) : onceR C call rs b ns f n (.ok .ret L H) = .ok .ret L H := rfl
@[simp] theorem onceR_exit (i : Nat) (rs : List Nat) (b : S) (f n : Nat) : onceR C call rs b ns f n (.ok (.exit i) L H) = .ok (.exit i) L H := rfl
@[simp] theorem onceR_fail (rs : List Nat) (b : S) (f n : Nat) : onceR C call rs b ns f n .fail = .fail := rfl
@[simp] theorem onceR_ite (c : Prop) [Decidable c] (x y : Res) (rs : List Nat) (b : S) (f n : Nat) : onceR C call rs b ns f n (if c then x else y) = if c then onceR C call rs b ns f n x else onceR C call rs b ns f n y := by split <;> rfl
@[simp] theorem blockR_normal (id : Nat) (L : Env) (H : Heap) : blockR id (.ok .normal L H) = .ok .normal L H := rfl
@[simp] theorem blockR_ret (id : Nat) (L : Env) (H : Heap) : blockR id (.ok .ret L H) = .ok .ret L H := rfl
@[simp] theorem blockR_exit (id i : Nat) (L : Env) (H : Heap) : blockR id (.ok (.exit i) L H) = if i = id then .ok .normal L H else .ok (.exit i) L H := rfl
@[simp] theorem blockR_fail (id : Nat) : blockR id .fail = .fail := rfl
@[simp] theorem blockR_ite (id : Nat) (c : Prop) [Decidable c] (a b : Res) : blockR id (if c then a else b) = if c then blockR id a else blockR id b := by split <;> rfl
@[simp] theorem valR_some (v : AV) (k : AV → Res) : valR (some v) k = k v := rfl
@[simp] theorem valR_none (k : AV → Res) : valR none k = .fail := rfl
@[simp] theorem valsR_some (v : List AV) (k : List AV → Res) : valsR (some v) k = k v := rfl
@[simp] theorem valsR_none (k : List AV → Res) : valsR none k = .fail := rfl
@[simp] theorem vrR_ok (v : AV) (H : Heap) (k : AV → Heap → Res) : vrR (.ok v H) k = k v H := rfl
@[simp] theorem vrR_fail (k : AV → Heap → Res) : vrR .fail k = .fail := rfl
@[simp] theorem vrO_ok (v : AV) (H : Heap) : vrO (.ok v H) = some v := rfl
@[simp] theorem vrO_fail : vrO .fail = none := rfl
@[simp] theorem aopR_some (v : AV) (H : Heap) (k : AV → Heap → Res) : aopR (some (v, H)) k = k v H := rfl
@[simp] theorem aopR_none (k : AV → Heap → Res) : aopR none k = .fail := rfl
@[simp] theorem putR_ok (d : Option Nat) (v : AV) : putR L d (.ok v H) = .ok .normal (putE L d v) H := rfl
@[simp] theorem putR_fail (d : Option Nat) : putR L d .fail = .fail := rfl
@[simp] theorem putR_ite (d : Option Nat) (c : Prop) [Decidable c] (x y : VRes) : putR L d (if c then x else y) = if c then putR L d x else putR L d y := by split <;> rfl
@[simp] theorem putA_some (d : Option Nat) (v : AV) : putA L d (some (v, H)) = .ok .normal (putE L d v) H := rfl
@[simp] theorem putA_none (d : Option Nat) : putA L d none = .fail := rfl
@[simp] theorem effK_some (P : Program) (o : Op) (vs : List AV) : effK P ns H o (some vs) = aop P ns vs H (mkOper o) := rfl
/-- two answers of one kind are one -/
@[simp] theorem ite_bools (c : Prop) [Decidable c] (p q : Bool) : (if c then some (AV.bool p) else some (AV.bool q)) = some (.bool (if c then p else q)) := by split <;> rfl

@[simp] theorem xev_loc (t : Nat) : xev C call L H (.loc t) = rd L t := by rw [xev]
@[simp] theorem xev_val (v : AV) : xev C call L H (.val v) = some v := by rw [xev]
@[simp] theorem xev_ite (c a b : X) : xev C call L H (.ite c a b) = iteO (xev C call L H c) (xev C call L H a) (xev C call L H b) := by
  rw [xev]; unfold iteO; split <;> simp_all
@[simp] theorem xev_bin (op : BinOp) (t : TypeId) (a b : X) : xev C call L H (.bin op t a b) = op2 (binOpOf C.P op t) (xev C call L H a) (xev C call L H b) := by rw [xev]; rfl
@[simp] theorem xev_un (op : UnOp) (a : X) : xev C call L H (.un op a) = op1 (unOpOf op) (xev C call L H a) := by rw [xev]; rfl
@[simp] theorem xev_conv (s d : TypeId) (a : X) : xev C call L H (.conv s d a) = op1 (cvt C.P H s d) (xev C call L H a) := by
  rw [xev]; cases xev C call L H a with
  | none => rfl
  | some v => simp only [op1, cvt]; cases convertOf C.P H s d v <;> rfl
@[simp] theorem xev_load (t : TypeId) (a : X) : xev C call L H (.load t a) = op1 (loadOf C.P H t) (xev C call L H a) := by rw [xev]; rfl
@[simp] theorem xev_nck (a : X) : xev C call L H (.nck a) = op1 nckOf (xev C call L H a) := by rw [xev]; rfl
@[simp] theorem xev_bld (t : TypeId) (is : List Nat) (xs : List X) : xev C call L H (.bld t is xs) = bldK C.P t is (xevL C call L H xs) := by rw [xev]; rfl
@[simp] theorem xev_fa (t : TypeId) (a : X) (f : Nat) : xev C call L H (.fa t a f) = op1 (faOf C.P t f) (xev C call L H a) := by rw [xev]; rfl
@[simp] theorem xev_fd (t : TypeId) (a : X) (f : Nat) : xev C call L H (.fd t a f) = op1 (fdOf C.P t f) (xev C call L H a) := by rw [xev]; rfl
@[simp] theorem xev_ia (t : TypeId) (a i : X) : xev C call L H (.ia t a i) = op2 (iaOf C.P t) (xev C call L H a) (xev C call L H i) := by rw [xev]; rfl
@[simp] theorem xev_ix (t : TypeId) (a i : X) : xev C call L H (.ix t a i) = op2 (ixvOf C.P t) (xev C call L H a) (xev C call L H i) := by rw [xev]; rfl
def exti (i : Nat) (a : AV) : Option AV := extOf a i
@[simp] theorem xev_ext (a : X) (i : Nat) : xev C call L H (.ext a i) = op1 (exti i) (xev C call L H a) := by rw [xev]; rfl
@[simp] theorem xev_len (t : TypeId) (a : X) : xev C call L H (.len t a) = op1 (lenOf C.P t) (xev C call L H a) := by rw [xev]; rfl
@[simp] theorem xev_mm (m : Bool) (a b : X) : xev C call L H (.mm m a b) = op2 (mmOf m) (xev C call L H a) (xev C call L H b) := by rw [xev]; rfl
@[simp] theorem xev_sl (t : TypeId) (a lo hi : X) : xev C call L H (.sl t a lo hi) = op3 (slb C.P t) (xev C call L H a) (xev C call L H lo) (xev C call L H hi) := by rw [xev]; rfl
@[simp] theorem xev_slh (t : TypeId) (a lo : X) : xev C call L H (.slh t a lo) = op2 (slh' C.P t) (xev C call L H a) (xev C call L H lo) := by rw [xev]; rfl
@[simp] theorem xev_mkf (f : FuncId) (xs : List X) : xev C call L H (.mkf f xs) = bnL (xevL C call L H xs) fun vs => some (.fn f vs) := by rw [xev]; rfl
@[simp] theorem xev_call (f : FuncId) (xs : List X) : xev C call L H (.call f xs) = callK C call H f (xevL C call L H xs) := by rw [xev]; rfl
@[simp] theorem xevL_nil' : xevL C call L H [] = some [] := by rw [xevL]
@[simp] theorem xevL_cons' (x : X) (xs : List X) : xevL C call L H (x :: xs) = consO (xev C call L H x) (xevL C call L H xs) := by
  rw [xevL]; cases xev C call L H x <;> cases xevL C call L H xs <;> rfl
@[simp] theorem evDs_nil : evDs C call L H [] = some [] := by rw [evDs]
@[simp] theorem evDs_cons (t : Nat) (x : X) (r : List (Nat × X)) : evDs C call L H ((t, x) :: r) = pairsO t (xev C call L H x) (evDs C call L H r) := by
  rw [evDs]; cases xev C call L H x <;> cases evDs C call L H r <;> rfl
def setsR (a : Option (List (Nat × AV))) (L : Env) (H : Heap) : Res := match a with
  | some vs => .ok .normal (setL L vs) H
  | none => .fail
@[simp] theorem setsR_some (vs : List (Nat × AV)) : setsR (some vs) L H = .ok .normal (setL L vs) H := rfl
@[simp] theorem setsR_none : setsR none L H = .fail := rfl
@[simp] theorem setL_nil : setL L [] = L := rfl
@[simp] theorem setL_cons (t : Nat) (v : AV) (r : List (Nat × AV)) : setL L ((t, v) :: r) = setL (L.set t v) r := rfl
@[simp] theorem resetL_nil : resetL L [] = L := rfl
@[simp] theorem resetL_cons (t : Nat) (r : List Nat) : resetL L (t :: r) = resetL (L.set t .undef) r := rfl

@[simp] theorem sexec_skip : sexec C call .skip ns L H = .ok .normal L H := by rw [sexec]
@[simp] theorem sexec_sets (ds : List (Nat × X)) : sexec C call (.sets ds) ns L H = setsR (evDs C call L H ds) L H := by rw [sexec]; rfl
@[simp] theorem sexec_chk (x : X) : sexec C call (.chk x) ns L H = valR (xev C call L H x) fun _ => .ok .normal L H := by rw [sexec]; rfl
@[simp] theorem sexec_eff (d : Option Nat) (o : Op) (xs : List X) : sexec C call (.eff d o xs) ns L H = putA L d (effK C.P ns H o (xevL C call L H xs)) := by
  rw [sexec]; unfold effK
  cases xevL C call L H xs with
  | none => rfl
  | some vs => simp only; cases aop C.P ns vs H (mkOper o) <;> rfl
def calR (call : Callee') (ns : List Nat) (H : Heap) (f : Option AV) (vs : Option (List AV)) : VRes := match f, vs with
  | some (.fn f cap), some vs => call ns f (vs ++ cap) H
  | _, _ => .fail
@[simp] theorem calR_fn (f : FuncId) (cap vs : List AV) : calR call ns H (some (.fn f cap)) (some vs) = call ns f (vs ++ cap) H := rfl
@[simp] theorem sexec_cal (d : Option Nat) (f : X) (xs : List X) : sexec C call (.cal d f xs) ns L H = putR L d (calR call ns H (xev C call L H f) (xevL C call L H xs)) := by
  rw [sexec]; unfold calR putR; split <;> simp_all
  rename_i f cap vs h1 h2; cases call ns f (vs ++ cap) H <;> rfl
@[simp] theorem sexec_seq (a b : S) : sexec C call (.seq a b) ns L H = seqR C call b ns (sexec C call a ns L H) := by rw [sexec]; rfl
@[simp] theorem sexec_cond (x : X) (a b : S) : sexec C call (.cond x a b) ns L H = condR (xev C call L H x) (sexec C call a ns L H) (sexec C call b ns L H) := by rw [sexec]; rfl
@[simp] theorem sexec_block (id : Nat) (b : S) : sexec C call (.block id b) ns L H = blockR id (sexec C call b ns L H) := by rw [sexec]; rfl
theorem sexec_loop (rs : List Nat) (b : S) : sexec C call (.loop rs b) ns L H = loopS C call rs b ns C.rounds L H := by rw [sexec]; rfl
theorem sexec_raw0 (ops : Array Oper) : sexec C call (.raw ops false) ns L H = saops C.P call ns ops ops.toList L H := by rw [sexec]
theorem sexec_raw1 (ops : Array Oper) : sexec C call (.raw ops true) ns L H = sadraw C.P C.inl call ns ops 0 ops.toList L H [] := by rw [sexec]
@[simp] theorem sexec_exit (i : Nat) : sexec C call (.exit i) ns L H = .ok (.exit i) L H := by rw [sexec]
@[simp] theorem sexec_ret : sexec C call .ret ns L H = .ok .ret L H := by rw [sexec]
theorem loopS_succ (rs : List Nat) (b : S) (f : Nat) : loopS C call rs b ns (f + 1) L H = onceR C call rs b ns f H.length (sexec C call b (H.length :: ns) (resetL L rs) H) := by
  unfold loopS; rw [loopN]; unfold onceR loopS; split <;> simp_all

/-! slots -/
@[simp] theorem rd_succ (v : AV) (L : Env) (t : Nat) : rd (v :: L) (t + 1) = rd L t := rfl
@[simp] theorem rd_int (k : IntKind) (n : Int) (L : Env) : rd (.int k n :: L) 0 = some (.int k n) := rfl
@[simp] theorem rd_bool (b : Bool) (L : Env) : rd (.bool b :: L) 0 = some (.bool b) := rfl
@[simp] theorem rd_str (s : List UInt8) (L : Env) : rd (.str s :: L) 0 = some (.str s) := rfl
@[simp] theorem rd_nilp (L : Env) : rd (.nilp :: L) 0 = some .nilp := rfl
@[simp] theorem rd_ptr (b c : Nat) (L : Env) : rd (.ptr b c :: L) 0 = some (.ptr b c) := rfl
@[simp] theorem rd_rptr (b v i c : Nat) (L : Env) : rd (.rptr b v i c :: L) 0 = some (.rptr b v i c) := rfl
@[simp] theorem rd_vptr (x : AV) (c : Nat) (L : Env) : rd (.vptr x c :: L) 0 = some (.vptr x c) := rfl
@[simp] theorem rd_nils (L : Env) : rd (.nils :: L) 0 = some .nils := rfl
@[simp] theorem rd_view (xs : List AV) (e : Bool) (L : Env) : rd (.view xs e :: L) 0 = some (.view xs e) := rfl
@[simp] theorem rd_row (b v h o l : Nat) (L : Env) : rd (.row b v h o l :: L) 0 = some (.row b v h o l) := rfl
@[simp] theorem rd_agg (cs : List AV) (L : Env) : rd (.agg cs :: L) 0 = some (.agg cs) := rfl
@[simp] theorem rd_tup (cs : List AV) (L : Env) : rd (.tup cs :: L) 0 = some (.tup cs) := rfl
@[simp] theorem rd_fn (f : FuncId) (cs : List AV) (L : Env) : rd (.fn f cs :: L) 0 = some (.fn f cs) := rfl
@[simp] theorem rd_nilf (L : Env) : rd (.nilf :: L) 0 = some .nilf := rfl
@[simp] theorem rd_nili (L : Env) : rd (.nili :: L) 0 = some .nili := rfl
@[simp] theorem rd_iface (t : TypeId) (v : AV) (L : Env) : rd (.iface t v :: L) 0 = some (.iface t v) := rfl
@[simp] theorem rd_iter (b : Nat) (L : Env) : rd (.iter b :: L) 0 = some (.iter b) := rfl
@[simp] theorem rd_undef (L : Env) : rd (.undef :: L) 0 = none := rfl
@[simp] theorem putE_none' (L : Env) (v : AV) : putE L none v = L := rfl
@[simp] theorem putE_some' (L : Env) (d : Nat) (v : AV) : putE L (some d) v = L.set d v := rfl
theorem rd_ite (c : Prop) [Decidable c] (a b : AV) (L : Env) : rd ((if c then a else b) :: L) 0 = if c then rd (a :: L) 0 else rd (b :: L) 0 := by split <;> rfl

@[simp] theorem scrub_nil (n : Nat) : scrub n [] = [] := rfl
@[simp] theorem scrub_cons (n : Nat) (v : AV) (L : Env) : scrub n (v :: L) = scrubV n v :: scrub n L := rfl
@[simp] theorem scrub_pad (n k : Nat) : scrub n (pad k) = pad k := by unfold scrub pad; rw [List.map_replicate]; rfl
@[simp] theorem scrubV_int (n : Nat) (k : IntKind) (m : Int) : scrubV n (.int k m) = .int k m := rfl
@[simp] theorem scrubV_bool (n : Nat) (b : Bool) : scrubV n (.bool b) = .bool b := rfl
@[simp] theorem scrubV_str (n : Nat) (s : List UInt8) : scrubV n (.str s) = .str s := rfl
@[simp] theorem scrubV_undef (n : Nat) : scrubV n .undef = .undef := rfl
@[simp] theorem scrubV_view (n : Nat) (xs : List AV) (e : Bool) : scrubV n (.view xs e) = .view xs e := rfl
@[simp] theorem scrubV_nils (n : Nat) : scrubV n .nils = .nils := rfl
@[simp] theorem scrubV_nilp (n : Nat) : scrubV n .nilp = .nilp := rfl
@[simp] theorem scrubV_nilf (n : Nat) : scrubV n .nilf = .nilf := rfl
@[simp] theorem scrubV_vptr (n : Nat) (x : AV) (c : Nat) : scrubV n (.vptr x c) = .vptr x c := rfl
@[simp] theorem scrubV_ptr (n b c : Nat) : scrubV n (.ptr b c) = if b < n then .ptr b c else .undef := by simp [scrubV, refOk]
@[simp] theorem scrubV_rptr (n b v i c : Nat) : scrubV n (.rptr b v i c) = if b < n then .rptr b v i c else .undef := by simp [scrubV, refOk]
@[simp] theorem scrubV_row (n b v h o l : Nat) : scrubV n (.row b v h o l) = if b < n then .row b v h o l else .undef := by simp [scrubV, refOk]
@[simp] theorem scrubV_iter (n b : Nat) : scrubV n (.iter b) = if b < n then .iter b else .undef := by simp [scrubV, refOk]
@[simp] theorem scrubV_agg (n : Nat) (cs : List AV) : scrubV n (.agg cs) = if refOkL n cs = true then .agg cs else .undef := rfl
@[simp] theorem scrubV_tup (n : Nat) (cs : List AV) : scrubV n (.tup cs) = if refOkL n cs = true then .tup cs else .undef := rfl
@[simp] theorem scrubV_fn (n : Nat) (f : FuncId) (cs : List AV) : scrubV n (.fn f cs) = if refOkL n cs = true then .fn f cs else .undef := rfl
attribute [simp] refOkL refOk
@[simp] theorem scrubV_ite (n : Nat) (c : Prop) [Decidable c] (a b : AV) : scrubV n (if c then a else b) = if c then scrubV n a else scrubV n b := by split <;> rfl

/-! what is handed back -/
def lsO (a : Option AV) (b : Option (List AV)) : Option (List AV) := consO a b
@[simp] theorem getResS_nil (P : Program) : getResS P L H [] = some [] := by rw [getResS]
@[simp] theorem getResS_tmp (P : Program) (t : Nat) (r : List ResultVar) : getResS P L H (.tmp t :: r) = consO (rd L t) (getResS P L H r) := by
  rw [getResS]; cases rd L t <;> cases getResS P L H r <;> rfl
@[simp] theorem getResS_cell (P : Program) (t : Nat) (ty : TypeId) (r : List ResultVar) : getResS P L H (.cell t ty :: r) = consO (op1 (loadOf P H ty) (rd L t)) (getResS P L H r) := by
  rw [getResS]; cases rd L t with
  | none => rfl
  | some a =>
    simp only [op1, loadOf]
    cases shp P ty with
    | none => rfl
    | some p =>
      obtain ⟨g, n⟩ := p
      simp only
      cases getAt H g n a <;> cases getResS P L H r <;> rfl
def frzO (a : Option (List AV)) (H : Heap) : Option AV := match a with
  | some l => match frz (packRes l) H with
    | some (v, _) => some v
    | none => none
  | none => none
@[simp] theorem frzO_some (l : List AV) : frzO (some l) H = (frz (packRes l) H).map (·.1) := by simp only [frzO]; cases frz (packRes l) H <;> rfl
@[simp] theorem frzO_none : frzO none H = none := rfl
@[simp] theorem packRes_one (v : AV) : packRes [v] = v := rfl
@[simp] theorem packRes_two (v u : AV) (l : List AV) : packRes (v :: u :: l) = .tup (v :: u :: l) := rfl
@[simp] theorem packRes_nil : packRes [] = .tup [] := rfl
theorem endV_eq (P : Program) (rs : List ResultVar) : endV P rs L H = frzO (getResS P L H rs) H := rfl
@[simp] theorem finV_normal (P : Program) (rs : List ResultVar) : finV P rs (.ok .normal L H) = frzO (getResS P L H rs) H := rfl
@[simp] theorem finV_ret (P : Program) (rs : List ResultVar) : finV P rs (.ok .ret L H) = frzO (getResS P L H rs) H := rfl
@[simp] theorem finV_fail (P : Program) (rs : List ResultVar) : finV P rs .fail = none := rfl
@[simp] theorem finV_ite (P : Program) (rs : List ResultVar) (c : Prop) [Decidable c] (a b : Res) : finV P rs (if c then a else b) = if c then finV P rs a else finV P rs b := by split <;> rfl
def expO (n0 : Nat) (a : Option (List AV)) (H : Heap) : VRes := match a with
  | some l => match expo n0 H (packRes l) [] with
    | some (v, new) => .ok v (H.take n0 ++ new.map (·.2))
    | none => .fail
  | none => .fail
def expK (n0 : Nat) (H : Heap) (r : Option (AV × List (Nat × Blk))) : VRes := match r with
  | some (v, new) => .ok v (H.take n0 ++ new.map (·.2))
  | none => .fail
@[simp] theorem expK_some (n0 : Nat) (v : AV) (new : List (Nat × Blk)) : expK n0 H (some (v, new)) = .ok v (H.take n0 ++ new.map (·.2)) := rfl
@[simp] theorem expO_some (n0 : Nat) (l : List AV) : expO n0 (some l) H = expK n0 H (expo n0 H (packRes l) []) := rfl
@[simp] theorem finI_normal (P : Program) (rs : List ResultVar) (n0 : Nat) : finI P rs n0 (.ok .normal L H) = expO n0 (getResS P L H rs) H := rfl
@[simp] theorem finI_ret (P : Program) (rs : List ResultVar) (n0 : Nat) : finI P rs n0 (.ok .ret L H) = expO n0 (getResS P L H rs) H := rfl
@[simp] theorem finI_fail (P : Program) (rs : List ResultVar) (n0 : Nat) : finI P rs n0 .fail = .fail := rfl
@[simp] theorem finI_ite (P : Program) (rs : List ResultVar) (n0 : Nat) (c : Prop) [Decidable c] (a b : Res) : finI P rs n0 (if c then a else b) = if c then finI P rs n0 a else finI P rs n0 b := by split <;> rfl

mutual
theorem refOk_rowFree {n : Nat} : ∀ {v : AV}, rowFree v = true → refOk n v = true
  | .agg cs, h => by simp only [rowFree] at h; simp only [refOk]; exact refOkL_rowFree h
  | .tup cs, h => by simp only [rowFree] at h; simp only [refOk]; exact refOkL_rowFree h
  | .fn f cs, h => by simp only [rowFree] at h; simp only [refOk]; exact refOkL_rowFree h
  | .iface t v, h => by simp only [rowFree] at h; simp only [refOk]; exact refOk_rowFree h
  | .undef, h => by simp [rowFree] at h
  | .row .., h => by simp [rowFree] at h
  | .bool _, _ => rfl
  | .int _ _, _ => rfl
  | .str _, _ => rfl
  | .nilp, _ => rfl
  | .nils, _ => rfl
  | .view _ _, _ => rfl
  | .nilf, _ => rfl
  | .nili, _ => rfl
  | .ptr .., h => by simp [rowFree] at h
  | .rptr .., h => by simp [rowFree] at h
  | .vptr .., h => by simp [rowFree] at h
  | .iter .., h => by simp [rowFree] at h
theorem refOkL_rowFree {n : Nat} : ∀ {vs : List AV}, rowFree.rowFreeL vs = true → refOkL n vs = true
  | [], _ => rfl
  | v :: vs, h => by
    simp only [rowFree.rowFreeL, Bool.and_eq_true] at h
    simp only [refOkL, refOk_rowFree h.1, refOkL_rowFree h.2, Bool.and_self]
end
mutual
theorem expo_free {n : Nat} {H : Heap} : ∀ {v : AV} {acc : List (Nat × Blk)}, rowFree v = true → expo n H v acc = some (v, acc)
  | .agg cs, acc, h => by simp only [rowFree] at h; simp only [expo, expoL_free h]
  | .tup cs, acc, h => by simp only [rowFree] at h; simp only [expo, expoL_free h]
  | .fn f cs, acc, h => by simp only [rowFree] at h; simp only [expo, refOkL_rowFree h, if_true]
  | .iface t v, acc, h => by simp only [rowFree] at h; simp only [expo, refOk_rowFree h, if_true]
  | .undef, _, h => by simp [rowFree] at h
  | .row .., _, h => by simp [rowFree] at h
  | .bool _, _, _ => rfl
  | .int _ _, _, _ => rfl
  | .str _, _, _ => rfl
  | .nilp, _, _ => rfl
  | .nils, _, _ => rfl
  | .view _ _, _, _ => rfl
  | .nilf, _, _ => rfl
  | .nili, _, _ => rfl
  | .ptr .., _, h => by simp [rowFree] at h
  | .rptr .., _, h => by simp [rowFree] at h
  | .vptr .., _, h => by simp [rowFree] at h
  | .iter .., _, h => by simp [rowFree] at h
theorem expoL_free {n : Nat} {H : Heap} : ∀ {vs : List AV} {acc : List (Nat × Blk)}, rowFree.rowFreeL vs = true → expoL n H vs acc = some (vs, acc)
  | [], _, _ => rfl
  | v :: vs, acc, h => by
    simp only [rowFree.rowFreeL, Bool.and_eq_true] at h
    simp only [expoL, expo_free h.1, expoL_free h.2]
end
attribute [simp] expo_free
@[simp] theorem expo_int {n : Nat} {H : Heap} {acc : List (Nat × Blk)} {k : IntKind} {m : Int} : expo n H (.int k m) acc = some (.int k m, acc) := rfl
@[simp] theorem expo_bool {n : Nat} {H : Heap} {acc : List (Nat × Blk)} {b : Bool} : expo n H (.bool b) acc = some (.bool b, acc) := rfl
@[simp] theorem expo_str {n : Nat} {H : Heap} {acc : List (Nat × Blk)} {s : List UInt8} : expo n H (.str s) acc = some (.str s, acc) := rfl
@[simp] theorem expo_tup0 {n : Nat} {H : Heap} {acc : List (Nat × Blk)} : expo n H (.tup []) acc = some (.tup [], acc) := rfl

/-! calls -/
def cvO (a : Option AV) (H : Heap) : VRes := match a with
  | some v => .ok v H
  | none => .fail
@[simp] theorem cvO_some (v : AV) : cvO (some v) H = .ok v H := rfl
@[simp] theorem cvO_none : cvO none H = .fail := rfl
@[simp] theorem cvO_ite (c : Prop) [Decidable c] (a b : Option AV) : cvO (if c then a else b) H = if c then cvO a H else cvO b H := by split <;> rfl
def cvK (n : Nat) (f : FuncId) (C : Cfg) (r : Option (List AV × Heap)) : VRes := match r with
  | some (args, H) => cvO (vcall C (acall C n) f args) H
  | none => .fail
@[simp] theorem cvK_some (n : Nat) (f : FuncId) (args : List AV) : cvK n f C (some (args, H)) = cvO (vcall C (acall C n) f args) H := rfl
@[simp] theorem callV_eq (n : Nat) (f : FuncId) (args : List AV) : callV C n f args H = cvK n f C (frzL args H) := by
  unfold callV cvK
  cases frzL args H with
  | none => rfl
  | some p => obtain ⟨a, H1⟩ := p; simp only; cases vcall C (acall C n) f a <;> rfl
def frL1 (a : Option (AV × Heap)) (k : AV → Heap → Option (List AV × Heap)) : Option (List AV × Heap) := match a with
  | some (v, H) => k v H
  | none => none
def frL2 (v : AV) (a : Option (List AV × Heap)) : Option (List AV × Heap) := match a with
  | some (vs, H) => some (v :: vs, H)
  | none => none
@[simp] theorem frL1_some (v : AV) (k : AV → Heap → Option (List AV × Heap)) : frL1 (some (v, H)) k = k v H := rfl
@[simp] theorem frL2_some (v : AV) (vs : List AV) : frL2 v (some (vs, H)) = some (v :: vs, H) := rfl
@[simp] theorem frzL_nil' : frzL [] H = some ([], H) := by rw [frzL]
@[simp] theorem frzL_cons' (v : AV) (vs : List AV) : frzL (v :: vs) H = frL1 (frz v H) fun v' H1 => frL2 v' (frzL vs H1) := by
  rw [frzL]; unfold frL1
  cases frz v H with
  | none => rfl
  | some p => obtain ⟨a, H1⟩ := p; simp only; unfold frL2; cases frzL vs H1 <;> rfl
@[simp] theorem frz_bool (b : Bool) : frz (.bool b) H = some (.bool b, H) := rfl
@[simp] theorem frz_int (k : IntKind) (n : Int) : frz (.int k n) H = some (.int k n, H) := rfl
@[simp] theorem frz_str (s : List UInt8) : frz (.str s) H = some (.str s, H) := rfl
@[simp] theorem frz_nils : frz .nils H = some (.view [] false, H) := rfl
@[simp] theorem frz_nilp : frz .nilp H = some (.nilp, H) := rfl
@[simp] theorem frz_nilf : frz .nilf H = some (.nilf, H) := rfl
@[simp] theorem frz_nili : frz .nili H = some (.nili, H) := rfl
@[simp] theorem frz_view (xs : List AV) (e : Bool) : frz (.view xs e) H = some (.view xs false, H) := rfl
def frA (mk : List AV → AV) (a : Option (List AV × Heap)) : Option (AV × Heap) := match a with
  | some (vs, H) => some (mk vs, H)
  | none => none
@[simp] theorem frA_some (mk : List AV → AV) (vs : List AV) : frA mk (some (vs, H)) = some (mk vs, H) := rfl
@[simp] theorem frz_agg (cs : List AV) : frz (.agg cs) H = frA .agg (frzL cs H) := by rw [frz]; unfold frA; cases frzL cs H <;> rfl
@[simp] theorem frz_tup (cs : List AV) : frz (.tup cs) H = frA .tup (frzL cs H) := by rw [frz]; unfold frA; cases frzL cs H <;> rfl
@[simp] theorem frz_fn (f : FuncId) (cs : List AV) : frz (.fn f cs) H = frA (.fn f) (frzL cs H) := by rw [frz]; unfold frA; cases frzL cs H <;> rfl
end
attribute [simp] rowFree rowFree.rowFreeL

/-! operations of known kinds -/
section
variable {P : Program} {t : TypeId} {k : IntKind} {a b : Int} {H : Heap}
@[simp] theorem bo_add : binOpOf P .add t (.int k a) (.int k b) = some (.int k (k.wrap (a + b))) := by simp [binOpOf, intOp]
@[simp] theorem bo_sub : binOpOf P .sub t (.int k a) (.int k b) = some (.int k (k.wrap (a - b))) := by simp [binOpOf, intOp]
@[simp] theorem bo_mul : binOpOf P .mul t (.int k a) (.int k b) = some (.int k (k.wrap (a * b))) := by simp [binOpOf, intOp]
theorem bo_quo (h : b ≠ 0) : binOpOf P .quo t (.int k a) (.int k b) = some (.int k (k.wrap (a.tdiv b))) := by simp [binOpOf, intOp, h]
theorem bo_rem (h : b ≠ 0) : binOpOf P .rem t (.int k a) (.int k b) = some (.int k (a.tmod b)) := by simp [binOpOf, intOp, h]
theorem bo_shl {k' : IntKind} (h : 0 ≤ b) : binOpOf P .shl t (.int k a) (.int k' b) = some (.int k (k.wrap (a * 2 ^ (min b.toNat k.bits)))) := by simp only [binOpOf, intOp]; rw [if_neg (by omega)]
theorem bo_shr {k' : IntKind} (h : 0 ≤ b) : binOpOf P .shr t (.int k a) (.int k' b) = some (.int k (a.fdiv (2 ^ (min b.toNat k.bits)))) := by simp only [binOpOf, intOp]; rw [if_neg (by omega)]
@[simp] theorem bo_eql : binOpOf P .eql t (.int k a) (.int k b) = some (.bool (decide (a = b))) := by simp [binOpOf, intOp]; rfl
@[simp] theorem bo_neq : binOpOf P .neq t (.int k a) (.int k b) = some (.bool (!decide (a = b))) := by simp [binOpOf, intOp, bne]; rfl
@[simp] theorem bo_lss : binOpOf P .lss t (.int k a) (.int k b) = some (.bool (decide (a < b))) := by simp [binOpOf, intOp]
@[simp] theorem bo_leq : binOpOf P .leq t (.int k a) (.int k b) = some (.bool (decide (a ≤ b))) := by simp [binOpOf, intOp]
@[simp] theorem bo_gtr : binOpOf P .gtr t (.int k a) (.int k b) = some (.bool (decide (b < a))) := by simp [binOpOf, intOp]
@[simp] theorem bo_geq : binOpOf P .geq t (.int k a) (.int k b) = some (.bool (decide (b ≤ a))) := by simp [binOpOf, intOp]
theorem bo_sadd {x y : List UInt8} (h : x.length + y.length ≤ maxRoom) : binOpOf P .add t (.str x) (.str y) = some (.str (x ++ y)) := by simp [binOpOf, strOp, h]
@[simp] theorem bo_seql {x y : List UInt8} : binOpOf P .eql t (.str x) (.str y) = some (.bool (decide (x = y))) := by
  have : (x == y) = decide (x = y) := by rw [Bool.eq_iff_iff]; simp
  simp only [binOpOf, strOp, this]
@[simp] theorem bo_sneq {x y : List UInt8} : binOpOf P .neq t (.str x) (.str y) = some (.bool (!decide (x = y))) := by
  have : (x == y) = decide (x = y) := by rw [Bool.eq_iff_iff]; simp
  simp only [binOpOf, strOp, this]
def aggE (neg : Bool) (ks : Option (List Kd)) (cs ds : List AV) : Option AV := match ks with
  | some ks => (eqK ks cs ds).map fun b => .bool (if neg then !b else b)
  | none => none
@[simp] theorem aggE_some {neg : Bool} {ks : List Kd} {cs ds : List AV} : aggE neg (some ks) cs ds = (eqK ks cs ds).map fun b => .bool (if neg then !b else b) := rfl
@[simp] theorem bo_aeql {cs ds : List AV} : binOpOf P .eql t (.agg cs) (.agg ds) = aggE false (plainOk P t) cs ds := by
  simp only [binOpOf, aggE]
  cases plainOk P t with
  | none => rfl
  | some ks => simp only; cases eqK ks cs ds <;> rfl
@[simp] theorem bo_aneq {cs ds : List AV} : binOpOf P .neq t (.agg cs) (.agg ds) = aggE true (plainOk P t) cs ds := by
  simp only [binOpOf, aggE]
  cases plainOk P t with
  | none => rfl
  | some ks => simp only; cases eqK ks cs ds <;> rfl
@[simp] theorem bo_beql {x y : Bool} (h : isBoolT P t = true) : binOpOf P .eql t (.bool x) (.bool y) = some (.bool (x == y)) := by simp [binOpOf, h]
@[simp] theorem bo_bneq {x y : Bool} (h : isBoolT P t = true) : binOpOf P .neq t (.bool x) (.bool y) = some (.bool !(x == y)) := by simp [binOpOf, h]
attribute [simp] eqK
@[simp] theorem uo_not {x : Bool} : unOpOf .not (.bool x) = some (.bool !x) := rfl
@[simp] theorem uo_neg : unOpOf .neg (.int k a) = some (.int k (k.wrap (0 - a))) := rfl
@[simp] theorem mm_max : mmOf true (.int k a) (.int k b) = some (.int k (if b > a then b else a)) := by simp [mmOf]
@[simp] theorem mm_min : mmOf false (.int k a) (.int k b) = some (.int k (if b < a then b else a)) := by simp [mmOf]
@[simp] theorem ext_tup {vs : List AV} {i : Nat} : exti i (.tup vs) = vs[i]? := rfl
@[simp] theorem nck_ptr {b c : Nat} : nckOf (.ptr b c) = some (.ptr b c) := rfl
@[simp] theorem nck_rptr {b v i c : Nat} : nckOf (.rptr b v i c) = some (.rptr b v i c) := rfl
@[simp] theorem nck_vptr {x : AV} {c : Nat} : nckOf (.vptr x c) = some (.vptr x c) := rfl
@[simp] theorem ac_ptr {b c d : Nat} : addCell (.ptr b c) d = some (.ptr b (c + d)) := rfl
@[simp] theorem ac_rptr {b v i c d : Nat} : addCell (.rptr b v i c) d = some (.rptr b v i (c + d)) := rfl
@[simp] theorem ac_vptr {x : AV} {c d : Nat} : addCell (.vptr x c) d = some (.vptr x (c + d)) := rfl
@[simp] theorem iaOf_int {x : AV} {i : Int} {k : IntKind} : iaOf P t x (.int k i) = indexAddrOf P t x i := rfl
@[simp] theorem ixvOf_int {x : AV} {i : Int} {k : IntKind} : ixvOf P t x (.int k i) = indexOf P t x i := rfl
theorem ia_view {sz bs : Nat} (h : ixOf P t = some (.sl sz bs)) {xs : List AV} {e : Bool} {i : Nat} {y : AV} (hy : xs[i]? = some y) (hs : y.cells.length = sz) : indexAddrOf P t (.view xs e) (i : Int) = some (.vptr y 0) := by
  have hlt : i < xs.length := by
    rcases Nat.lt_or_ge i xs.length with h | h
    · exact h
    · rw [List.getElem?_eq_none h] at hy; cases hy
  simp only [indexAddrOf, h, Int.natCast_nonneg, Int.toNat_natCast, hy, hs, if_true, true_and]
  rw [if_pos (by omega)]
theorem ix_str (h : ixOf P t = some .str) {s : List UInt8} {i : Nat} {c : UInt8} (hy : s[i]? = some c) : indexOf P t (.str s) (i : Int) = some (.int .u8 c.toNat) := by
  simp only [indexOf, h, Int.natCast_nonneg, Int.toNat_natCast, hy, if_true]
@[simp] theorem sub_agg {c n : Nat} {cs : List AV} : sub true c n (.agg cs) = if c + n ≤ cs.length then some (.agg ((cs.drop c).take n)) else none := rfl
@[simp] theorem sub_cell {c n : Nat} {cs : List AV} : sub false c n (.agg cs) = cs[c]? := rfl
@[simp] theorem sub_int {n : Nat} : sub false 0 n (.int k a) = some (.int k a) := rfl
@[simp] theorem sub_str {n : Nat} {s : List UInt8} : sub false 0 n (.str s) = some (.str s) := rfl
@[simp] theorem sub_bool {n : Nat} {b : Bool} : sub false 0 n (.bool b) = some (.bool b) := rfl
@[simp] theorem getAt_vptr {x : AV} {g : Bool} {n c : Nat} : getAt H g n (.vptr x c) = sub g c n x := rfl
end
/-! operations that turn memory -/
section
variable {P : Program} {t : TypeId} {H : Heap} {ns : List Nat} {a x : AV}
def stO (r : Option Heap) : Option (AV × Heap) := match r with
  | some H' => some (.tup [], H')
  | none => none
@[simp] theorem stO_some : stO (some H) = some (.tup [], H) := rfl
def stN (n : Option Nat) (k : Nat → Option Heap) : Option Heap := match n with
  | some n => k n
  | none => none
@[simp] theorem stN_some {n : Nat} {k : Nat → Option Heap} : stN (some n) k = k n := rfl
@[simp] theorem aop_store : aop P ns [a, x] H (mkOper (.store t (.tmp 0) (.tmp 1))) = stO (stN (szOf P t) fun n => setAt H ns n a x) := by
  simp only [aop, mkOper, ev, List.getElem?_cons_zero, List.getElem?_cons_succ, Option.getD_some]
  cases szOf P t with
  | none => rfl
  | some n => simp only [stN]; cases setAt H ns n a x <;> rfl
def bxO (z : Option (List AV)) (H : Heap) : Option (AV × Heap) := match z with
  | some cs => some (newBox H cs)
  | none => none
@[simp] theorem bxO_some {cs : List AV} : bxO (some cs) H = some (newBox H cs) := rfl
@[simp] theorem aop_alloc : aop P ns [] H (mkOper (.alloc t)) = bxO (zeroC P t) H := by simp only [aop, mkOper]; rfl
@[simp] theorem aop_box : aop P ns [x] H (mkOper (.box t (.tmp 0))) = if solid x = true then some (newBox H x.cells) else none := by simp only [aop, mkOper, ev, List.getElem?_cons_zero, Option.getD_some]; rfl
@[simp] theorem aop_nil {b : Option Addr} : aop P ns [] H (mkOper (.move (.const (.slice b 0 0)))) = some (.row H.length 0 0 0 0, H ++ [.row 0 [] 0 0]) := by simp only [aop, mkOper]; rfl
def apO (i : Option Ix) (ys : Option (List AV)) (u : Option Ix) (k : Nat → Nat → List AV → Option (AV × Heap)) : Option (AV × Heap) := match i, ys, u with
  | some (.sl sz bs), some ys, some _ => k sz bs ys
  | _, _, _ => none
@[simp] theorem apO_some {sz bs : Nat} {ys : List AV} {u : Ix} {k : Nat → Nat → List AV → Option (AV × Heap)} : apO (some (.sl sz bs)) (some ys) (some u) k = k sz bs ys := rfl
@[simp] theorem aop_append {t u : TypeId} : aop P ns [a, x] H (mkOper (.call { callee := .builtin .append, args := #[.tmp 0, .tmp 1], argTypes := #[t, u] })) = apO (ixOf P t) (elemsOf H x) (ixOf P u) fun sz bs ys => appendTo H sz bs a ys := by
  simp only [aop, mkOper, evl, evlL, ev, List.getElem?_cons_zero, List.getElem?_cons_succ, Option.getD_some, builtinOf]
  unfold apO
  simp only [List.getElem?_toArray, List.getElem?_cons_zero, List.getElem?_cons_succ]
  cases hi : ixOf P t with
  | none => simp
  | some i =>
    cases i <;> simp
    cases elemsOf H x <;> simp
    cases ixOf P u <;> simp
@[simp] theorem aop_range : aop P ns [x] H (mkOper (.range t (.tmp 0))) = match ixOf P t, x with
    | some .str, .str s => some (.iter H.length, H ++ [.iter s 0])
    | _, _ => none := by simp only [aop, mkOper, ev, List.getElem?_cons_zero, Option.getD_some]; rfl
theorem aop_next {b : Nat} {s : List UInt8} {pos : Nat} (h : H[b]? = some (.iter s pos)) : aop P ns [.iter b] H (mkOper (.next (.tmp 0) true)) = if pos < s.length then
          (match Utf8.decode ⟨s.toArray⟩ pos with
           | (c, w) => some (.tup [.bool true, .int .i64 pos, .int .i32 c], H.set b (.iter s (pos + w))))
        else some (.tup [.bool false], H) := by simp only [aop, mkOper, ev, List.getElem?_cons_zero, Option.getD_some, h]
theorem aop_bs {n : Nat} {ps : Array (Nat × Operand)} {vs : List AV} : aop P ns vs H (mkOper (.buildSlice t n ps)) = match ixOf P t with
    | some (.sl sz _) => if 0 < sz ∧ n * sz ≤ 1048576 ∧ inOrder 0 (evs vs ps) = true ∧ (evs vs ps).length = n ∧ allSz sz (evs vs ps) = true ∧ okCells (cellsOfL (evs vs ps)) = true then
        match frzL ((evs vs ps).map (·.2)) H with
        | some (xs, H') => some (.row H'.length 0 sz 0 n, H' ++ [.row sz xs 0 0])
        | none => none
      else none
    | _ => none := by simp only [aop, mkOper]; rfl
def hget (H : Heap) (b : Nat) : Option Blk := H[b]?
@[simp] theorem hget_zero {x : Blk} : hget (x :: H) 0 = some x := rfl
@[simp] theorem hget_succ {x : Blk} {n : Nat} : hget (x :: H) (n + 1) = hget H n := rfl
def getB (o : Option Blk) (g : Bool) (n c : Nat) : Option AV := match o with
  | some (.box cs) => sub g c n (.agg cs)
  | some (.fbox cs) => sub g c n (.agg cs)
  | _ => none
def setB (o : Option Blk) (H : Heap) (ns : List Nat) (n b c : Nat) (x : AV) : Option Heap :=
  if x.cells.length = n ∧ okCells x.cells = true then (match o with
  | some (.box cs) => if c + n ≤ cs.length ∧ keepsOk ns b x.cells = true then some (H.set b (.box (splice cs c x.cells))) else none
  | _ => none) else none
@[simp] theorem getAt_ptrB {g : Bool} {n b c : Nat} : getAt H g n (.ptr b c) = getB (hget H b) g n c := by
  simp only [getAt]; unfold getB hget; rfl
@[simp] theorem getB_box {g : Bool} {n c : Nat} {cs : List AV} : getB (some (.box cs)) g n c = sub g c n (.agg cs) := rfl
@[simp] theorem getB_fbox {g : Bool} {n c : Nat} {cs : List AV} : getB (some (.fbox cs)) g n c = sub g c n (.agg cs) := rfl
@[simp] theorem setAt_ptrB {n b c : Nat} : setAt H ns n (.ptr b c) x = setB (hget H b) H ns n b c x := by
  unfold setAt setB hget; split <;> rfl
@[simp] theorem setB_box {n b c : Nat} {cs : List AV} : setB (some (.box cs)) H ns n b c x = if x.cells.length = n ∧ okCells x.cells = true then (if c + n ≤ cs.length ∧ keepsOk ns b x.cells = true then some (H.set b (.box (splice cs c x.cells))) else none) else none := rfl
@[simp] theorem okCells_nil : okCells [] = true := rfl
@[simp] theorem okCells_cons {v : AV} {vs : List AV} : okCells (v :: vs) = (okCell v && okCells vs) := rfl
@[simp] theorem newBox_eq {cs : List AV} : newBox H cs = (.ptr H.length 0, H ++ .box (ownNils (H.length + 1) cs).1 :: (ownNils (H.length + 1) cs).2) := by unfold newBox; rfl
end
section
variable {P : Program} {H : Heap} {s d : TypeId}
@[simp] theorem cvt_int {k k' : IntKind} {n : Int} (h : cvOf P s d = some (.int k)) : cvt P H s d (.int k' n) = some (.int k (k.wrap n)) := by simp [cvt, convertOf, h]
@[simp] theorem cvt_rune {k : IntKind} {n : Int} (h : cvOf P s d = some .string) : cvt P H s d (.int k n) = some (.str (Utf8.encode n).data.toList) := by simp [cvt, convertOf, h]
@[simp] theorem cvt_str {x : List UInt8} (h : cvOf P s d = some .string) : cvt P H s d (.str x) = some (.str x) := by simp [cvt, convertOf, h]
theorem cvt_runes {xs : List AV} {e : Bool} {b : List UInt8} (h : cvOf P s d = some .ofRunes) (hb : runesOf xs = some b) : cvt P H s d (.view xs e) = some (.str b) := by simp [cvt, convertOf, h, elemsOf, hb, isStr]
theorem cvt_ofBytes {xs : List AV} {e : Bool} {b : List UInt8} (h : cvOf P s d = some .ofBytes) (hb : bytesOf xs = some b) : cvt P H s d (.view xs e) = some (.str b) := by simp [cvt, convertOf, h, elemsOf, hb, isStr]
theorem cvt_bytes {x : List UInt8} (h : cvOf P s d = some .bytes) (hx : x.length ≤ maxRoom) : cvt P H s d (.str x) = some (.view (x.map fun c => .int .u8 c.toNat) false) := by simp [cvt, convertOf, h, hx]
/-- a part of a row -/
theorem allLen_map {α : Type} {f : α → AV} {sz : Nat} (hf : ∀ x, (f x).cells.length = sz) : ∀ l : List α, allLen sz (l.map f) = true
  | [] => rfl
  | x :: l => by simp [allLen, hf x, allLen_map hf l]
theorem slh_view {α : Type} {f : α → AV} {t : TypeId} {sz bs : Nat} (h : ixOf P t = some (.sl sz bs)) (hf : ∀ x, (f x).cells.length = sz) {l : List α} {e : Bool} {k : IntKind} {i : Nat} (hi : i ≤ l.length) : slh' P t (.view (l.map f) e) (.int k i) = some (.view ((l.drop i).map f) false) := by
  have : bnds (l.map f).length (some (.int k i)) none none = some (i, l.length, false) := by
    simp only [bnds, bnd, List.length_map]
    rw [if_pos (by omega)]; simp
  simp only [slh', slOf, h, sliceOf, this]
  rw [if_pos (.inr (allLen_map hf l))]
  simp only [cut, List.map_drop]
  congr 2
  rw [List.take_of_length_le (by simp)]
theorem slb_view {α : Type} {f : α → AV} {t : TypeId} {sz bs : Nat} (h : ixOf P t = some (.sl sz bs)) (hf : ∀ x, (f x).cells.length = sz) {l : List α} {e : Bool} {k k' : IntKind} {i j : Nat} (hi : i ≤ j) (hj : j ≤ l.length) : slb P t (.view (l.map f) e) (.int k i) (.int k' j) = some (.view (((l.drop i).take (j - i)).map f) false) := by
  have : bnds (l.map f).length (some (.int k i)) (some (.int k' j)) none = some (i, j, false) := by
    simp only [bnds, bnd, List.length_map]
    rw [if_pos (by omega)]; simp
  simp only [slb, slOf, h, sliceOf, this]
  rw [if_pos (.inr (allLen_map hf l))]
  simp only [cut, List.map_drop, List.map_take]
end
theorem refOk_of_free {n : Nat} {v : AV} (h : refFree v = true) : refOk n v = true := by cases v <;> simp_all [refFree]
theorem refOkL_of_free {n : Nat} : ∀ {cs : List AV}, refFreeL cs = true → refOkL n cs = true
  | [], _ => rfl
  | c :: cs, h => by simp only [refFreeL, Bool.and_eq_true] at h; simp only [refOkL, refOk_of_free h.1, refOkL_of_free h.2, Bool.and_self]
@[simp] theorem keepsOk_free {b : Nat} {cs : List AV} (h : refFreeL cs = true) : ∀ {ns : List Nat}, keepsOk ns b cs = true
  | [] => rfl
  | n :: ns => by simp only [keepsOk, refOkL_of_free h, Bool.or_true, keepsOk_free h, Bool.and_self]
attribute [simp] refFree refFreeL
attribute [simp] okCell splice AV.cells ownNils loadOf lenOf faOf fdOf solid solidL buildOf fillC cellsOfL allSz inOrder allLen
theorem wr64 {n : Int} (h1 : -9223372036854775808 ≤ n) (h2 : n ≤ 9223372036854775807) : IntKind.wrap .i64 n = n := by
  simp [IntKind.wrap, IntKind.signed, IntKind.bits]; omega
theorem wr32 {n : Int} (h1 : -2147483648 ≤ n) (h2 : n ≤ 2147483647) : IntKind.wrap .i32 n = n := by
  simp [IntKind.wrap, IntKind.signed, IntKind.bits]; omega
section
variable {P : Program} {t : TypeId} {H : Heap}
theorem ia_row {sz bs b ver off len i : Nat} (h : ixOf P t = some (.sl sz bs)) (hi : i < len) : indexAddrOf P t (.row b ver sz off len) (i : Int) = some (.rptr b ver (off + i) 0) := by
  simp only [indexAddrOf, h, Int.natCast_nonneg, Int.toNat_natCast, true_and, and_true]
  rw [if_pos (by omega)]
def subO (g : Bool) (c n : Nat) (x : Option AV) : Option AV := match x with
  | some x => sub g c n x
  | none => none
@[simp] theorem subO_some {g : Bool} {c n : Nat} {x : AV} : subO g c n (some x) = sub g c n x := rfl
def getRB (o : Option Blk) (ver i : Nat) (g : Bool) (n c : Nat) : Option AV := match o with
  | some (.row _ xs ver' _) => if ver = ver' then subO g c n xs[i]? else none
  | _ => none
@[simp] theorem getAt_rptrB {g : Bool} {n b ver i c : Nat} : getAt H g n (.rptr b ver i c) = getRB (hget H b) ver i g n c := by
  simp only [getAt]; unfold getRB hget subO; rfl
@[simp] theorem getRB_row {sz ver' fz ver i n c : Nat} {xs : List AV} {g : Bool} : getRB (some (.row sz xs ver' fz)) ver i g n c = if ver = ver' then subO g c n xs[i]? else none := rfl
end
/-- a row of values written out -/
theorem bs_row {P : Program} {t : TypeId} {H : Heap} {ns : List Nat} {n sz bs : Nat} {ps : Array (Nat × Operand)} {vs : List AV} (h : ixOf P t = some (.sl sz bs)) (hps : ps.toList = (List.range n).map fun i => (i, .tmp i)) (hn : vs.length = n) (hsz : 0 < sz) (hb : n * sz ≤ 1048576)
    (hl : ∀ v ∈ vs, v.cells.length = sz) (hok : ∀ v ∈ vs, okCells v.cells = true) (hfr : frzL vs H = some (vs, H)) : aop P ns vs H (mkOper (.buildSlice t n ps)) = some (.row H.length 0 sz 0 n, H ++ [.row sz vs 0 0]) := by
  have e : evs vs ps = (List.range n).zip vs := by
    unfold evs
    rw [hps, evsL_zip]
    have h1 : ((List.range n).map fun i => (i, Operand.tmp i)).map (·.1) = List.range n := by simp [Function.comp_def]
    have h2 : ((List.range n).map fun i => (i, Operand.tmp i)).map (·.2) = (List.range n).map Operand.tmp := by simp [Function.comp_def]
    rw [h1, h2, List.range_eq_range', ← hn]
    have := evlL_range [] vs
    simp only [List.length_nil, List.nil_append] at this
    rw [this]
  have hord : ∀ (us : List AV) (i : Nat), inOrder i ((List.range' i us.length).zip us) = true := by
    intro us
    induction us with
    | nil => intro i; rfl
    | cons u us ih => intro i; simp [List.range'_succ, inOrder, ih]
  have hsnd : ((List.range n).zip vs).map (·.2) = vs := by
    rw [← List.unzip_snd, List.unzip_zip_right]; simp [hn]
  have hall : ∀ (l : List (Nat × AV)), (∀ p ∈ l, p.2.cells.length = sz) → allSz sz l = true := by
    intro l
    induction l with
    | nil => intro _; rfl
    | cons p l ih => intro hp; simp only [allSz, hp p (List.mem_cons_self ..), decide_true, ih fun q hq => hp q (List.mem_cons_of_mem _ hq), Bool.and_self]
  have hcs : ∀ (l : List (Nat × AV)), (∀ p ∈ l, okCells p.2.cells = true) → okCells (cellsOfL l) = true := by
    intro l
    induction l with
    | nil => intro _; rfl
    | cons p l ih =>
      intro hp
      have happ : ∀ a b : List AV, okCells a = true → okCells b = true → okCells (a ++ b) = true := by
        intro a b
        induction a with
        | nil => intro _ h; exact h
        | cons x a iha => intro h1 h2; simp only [okCells, Bool.and_eq_true, List.cons_append] at h1 ⊢; exact ⟨h1.1, iha h1.2 h2⟩
      simp only [cellsOfL]
      exact happ _ _ (hp p (List.mem_cons_self ..)) (ih fun q hq => hp q (List.mem_cons_of_mem _ hq))
  rw [aop_bs, h]
  simp only [e, hsnd, hfr]
  rw [if_pos]
  refine ⟨hsz, hb, ?_, by simp [hn], hall _ fun p hp => hl _ (List.of_mem_zip hp).2, hcs _ fun p hp => hok _ (List.of_mem_zip hp).2⟩
  rw [List.range_eq_range', ← hn]; exact hord vs 0
theorem and_mask {P : Program} {t : TypeId} {w : Int} {m : Nat} (hm : m < 256) (h : (BitVec.ofInt 64 w &&& 255#64).toNat = m) : binOpOf P .and t (.int .i64 w) (.int .i64 255) = some (.int .i64 m) := by
  have e : binOpOf P .and t (.int .i64 w) (.int .i64 255) = some (.int .i64 (IntKind.wrap .i64 ((BitVec.ofInt 64 w &&& BitVec.ofInt 64 255).toNat : Nat))) := rfl
  rw [e, show BitVec.ofInt 64 255 = 255#64 from rfl, h, wr64 (by omega) (by omega)]
theorem mask_lt (w : Int) : (BitVec.ofInt 64 w &&& 255#64).toNat < 256 := by
  rw [BitVec.toNat_and]
  exact Nat.lt_of_le_of_lt Nat.and_le_right (by decide)
/-! a row that grows -/
def rowV (b ver sz len : Nat) : AV := .row b ver (if ver = 0 then 0 else sz) 0 len
def rowB (ver sz : Nat) (xs : List AV) : Blk := .row (if ver = 0 then 0 else sz) xs ver 0
@[simp] theorem rd_rowV (b ver sz len : Nat) (L : Env) : rd (rowV b ver sz len :: L) 0 = some (rowV b ver sz len) := rfl
@[simp] theorem scrubV_rowV (n b ver sz len : Nat) : scrubV n (rowV b ver sz len) = if b < n then rowV b ver sz len else .undef := by simp [rowV]
@[simp] theorem solid_rowV (b ver sz len : Nat) : solid (rowV b ver sz len) = true := rfl
theorem rowV_nil (b sz : Nat) : AV.row b 0 0 0 0 = rowV b 0 sz 0 := rfl
theorem rowB_nil (sz : Nat) : Blk.row 0 [] 0 0 = rowB 0 sz [] := rfl
theorem append_row {H : Heap} {sz bs b ver : Nat} {xs ys : List AV} (hb : H[b]? = some (rowB ver sz xs)) (hbs : bs ≤ 4096) (hsz : 0 < sz) (hys : allLen sz ys = true) (hl : xs.length + ys.length ≤ maxRoom) :
    appendTo H sz bs (rowV b ver sz xs.length) ys = some (rowV b (ver + 1) sz (xs.length + ys.length), H.set b (rowB (ver + 1) sz (xs ++ ys))) := by
  unfold appendTo
  rw [if_pos ⟨hbs, hsz, hys⟩]
  simp only [rowV, rowB] at hb ⊢
  simp only [hb]
  rw [if_pos (by refine ⟨?_, ?_, ?_, ?_, ?_, ?_⟩ <;> first | trivial | omega | (by_cases h : ver = 0 <;> simp [h]))]
  simp
theorem frz_rowV {H : Heap} {sz b ver : Nat} {xs : List AV} (hb : H[b]? = some (rowB ver sz xs)) : frz (rowV b ver sz xs.length) H = some (.view xs false, H.set b (.row (if ver = 0 then 0 else sz) xs ver (max 0 (0 + xs.length)))) := by
  simp only [rowV, rowB] at hb ⊢
  simp only [frz, hb]
  simp
end
end Go.Vi
namespace Go.Vi
open Go
open Classical in
noncomputable def keepOf (H H' : Heap) (b : Nat) : Bool := decide (b < H.length ∧ H'[b]? = H[b]?)
@[simp] theorem ease_quiet (a : Nat) (r w : List Nat) (k : Nat → Bool) (H H' : Heap) : ease ⟨a, r, w, false, k⟩ H H' = ⟨a, r, w, false, noKeep⟩ := rfl
@[simp] theorem ease_loud (a : Nat) (r w : List Nat) (k : Nat → Bool) (H H' : Heap) : ease ⟨a, r, w, true, k⟩ H H' = ⟨a, r, w, true, keepOf H H'⟩ := by
  unfold ease keepOf; simp
theorem keepOf_true {H H' : Heap} {b : Nat} (h1 : b < H.length) (h2 : H'[b]? = H[b]?) : keepOf H H' b = true := by
  unfold keepOf; simp [h1, h2]
@[simp] theorem keepOf_iff {H H' : Heap} {b : Nat} : keepOf H H' b = true ↔ b < H.length ∧ H'[b]? = H[b]? := by
  unfold keepOf; simp
@[simp] theorem keepOf_not {H H' : Heap} {b : Nat} : keepOf H H' b = false ↔ ¬ (b < H.length ∧ H'[b]? = H[b]?) := by
  unfold keepOf; simp
theorem sadraw_nil {P : Program} {inl : FuncId → Bool} {call : Callee'} {ns : List Nat} {all : Array Oper} {j : Nat} {env : Env} {H : Heap} {log : Log} (h : logOk all log = true) : sadraw P inl call ns all j [] env H log = .ok .normal env H := by
  rw [sadraw, if_pos h]
theorem sadraw_cons {P : Program} {inl : FuncId → Bool} {call : Callee'} {ns : List Nat} {all : Array Oper} {j : Nat} {o : Oper} {os : List Oper} {env : Env} {H : Heap} {log : Log} : sadraw P inl call ns all j (o :: os) env H log = (match wantE all env o with
    | some true => if knownL env (opnds o.op) = true then (match aoper P call ns env H o with
      | .ok v H' => sadraw P inl call ns all (j + 1) os (putE env o.dst v) H' (put1 (ease (touch inl env H.length H'.length j o) H H') log)
      | .fail => .fail) else .fail
    | some false => sadraw P inl call ns all (j + 1) os (putE env o.dst (.tup [])) H log
    | none => .fail) := by rw [sadraw]; rfl
end Go.Vi
end SViPe
