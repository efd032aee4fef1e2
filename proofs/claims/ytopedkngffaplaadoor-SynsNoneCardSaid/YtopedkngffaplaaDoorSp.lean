/- Plain functions that say what the program computes. -/
import Derived.Test.YtopedkngffaplaaDoorVdPe
import Derived.Lib.ItoaLen
import Derived.Lib.IndexMore
set_option linter.all false
set_option linter.unusedVariables false
set_option linter.unusedSectionVars false
set_option linter.unusedSimpArgs false
section SSpLex
/- Signs of a line, as plain functions. -/
namespace Go.Vi.Sp
open Go Go.Vi
abbrev Bytes := List UInt8
structure Tok where
  kind : Int
  text : Bytes
  n : Int
  at_ : Int
  deriving DecidableEq, Inhabited
abbrev i64 (n : Int) : AV := .int .i64 n
abbrev i32 (n : Int) : AV := .int .i32 n
abbrev runesV (l : List Int) : AV := .view (l.map (.int .i32)) false
abbrev strsV (l : List Bytes) : AV := .view (l.map .str) false
@[simp] def tokC (t : Tok) : List AV := [.int .i64 t.kind, .str t.text, .int .i64 t.n, .int .i64 t.at_]
abbrev tokV (t : Tok) : AV := .agg [.int .i64 t.kind, .str t.text, .int .i64 t.n, .int .i64 t.at_]
abbrev toksV (l : List Tok) : AV := .view (l.map fun t => .agg [.int .i64 t.kind, .str t.text, .int .i64 t.n, .int .i64 t.at_]) false

def digitI (x : Int) : Bool := decide (48 ≤ x) && decide (x ≤ 57)
def letterI (x : Int) : Bool := decide (97 ≤ x) && decide (x ≤ 122)
def wordI (x : Int) : Bool := letterI x || digitI x
/-- a rune's bytes; runes' bytes -/
def encR (r : Int) : Bytes := (Utf8.encode r).data.toList
def encRs : List Int → Bytes
  | [] => []
  | r :: l => encR r ++ encRs l
theorem runesOf_map : ∀ l : List Int, runesOf (l.map (.int .i32)) = some (encRs l)
  | [] => rfl
  | r :: l => by simp only [List.map_cons, runesOf, runesOf_map l, encRs, encR]
/-- a text's runes -/
def runesGo (s : Bytes) : Nat → Nat → List Int
  | 0, _ => []
  | n + 1, pos => if pos < s.length then (Utf8.decode ⟨s.toArray⟩ pos).1 :: runesGo s n (pos + (Utf8.decode ⟨s.toArray⟩ pos).2) else []
theorem decode_width (s : ByteArray) (i : Nat) : 1 ≤ (Utf8.decode s i).2 := by
  unfold Utf8.decode
  repeat' (first | split | (simp only []; done) | simp only [])
  all_goals simp
theorem runesGo_len (s : Bytes) : ∀ (k pos : Nat), (runesGo s k pos).length ≤ k
  | 0, _ => Nat.le_refl _
  | k + 1, pos => by
    unfold runesGo
    split
    · simp only [List.length_cons]; have := runesGo_len s k (pos + (Utf8.decode ⟨s.toArray⟩ pos).2); omega
    · simp
def runes (s : Bytes) : List Int := runesGo s s.length 0
def aloneI (l : List Int) (a : Nat) : Bool := match l[a]? with
  | none => true
  | some x => !letterI x && !digitI x
def nameLen : List Int → Nat
  | [] => 0
  | c :: r => if wordI c then nameLen r + 1 else 0
/-- so many digits at most: their value, how many -/
def numGo : Nat → Int → List Int → Int × Nat
  | 0, n, _ => (n, 0)
  | _ + 1, n, [] => (n, 0)
  | m + 1, n, c :: r => if digitI c then ((numGo m (10 * n + (c - 48)) r).1, (numGo m (10 * n + (c - 48)) r).2 + 1) else (n, 0)
def numS (most : Nat) : List Int → Option (Int × Nat)
  | [] => none
  | c :: r => if digitI c then (if c = 48 then some (0, 1) else some (numGo most 0 (c :: r))) else none
def isSign (c : Int) : Bool := c == 44 || c == 58 || c == 91 || c == 93 || c == 43
def signS (l : List Int) (at_ : Nat) (c : Int) : Option (Tok × Nat) :=
  if letterI c then some (⟨1, encRs ((l.drop at_).take (nameLen (l.drop at_))), 0, at_⟩, at_ + nameLen (l.drop at_))
  else if digitI c then match numS 5 (l.drop at_) with
    | some (n, k) => some (⟨2, encRs ((l.drop at_).take k), n, at_⟩, at_ + k)
    | none => none
  else if isSign c then some (⟨3, encR c, 0, at_⟩, at_ + 1)
  else none
def lexGo (l : List Int) : Nat → Nat → List Tok → Except Nat (List Tok)
  | 0, _, out => .ok out
  | n + 1, at_, out => match l[at_]? with
    | none => .ok out
    | some c => if c = 59 then .ok out else if c = 32 ∨ c = 9 then lexGo l n (at_ + 1) out
      else match signS l at_ c with
        | none => .error at_
        | some (t, e) => if t.kind = 2 ∧ aloneI l e = false then .error e else lexGo l n e (out ++ [t])
theorem nameLen_le : ∀ l : List Int, nameLen l ≤ l.length
  | [] => Nat.le_refl _
  | c :: r => by
    unfold nameLen
    split
    · have := nameLen_le r; simp; omega
    · simp
theorem numGo_le : ∀ (m : Nat) (n : Int) (l : List Int), (numGo m n l).2 ≤ l.length
  | 0, _, _ => Nat.zero_le _
  | m + 1, n, [] => Nat.zero_le _
  | m + 1, n, c :: r => by
    unfold numGo
    split
    · have := numGo_le m (10 * n + (c - 48)) r; simp; omega
    · simp
theorem numS_le {m : Nat} {l : List Int} {n : Int} {k : Nat} (h : numS m l = some (n, k)) : k ≤ l.length := by
  unfold numS at h
  split at h
  · cases h
  · rename_i c r
    split at h
    · split at h
      · injection h with h; injection h with h1 h2; subst h2; simp
      · injection h with h; have := numGo_le m 0 (c :: r); rw [h] at this; exact this
    · cases h
theorem signS_pos {l : List Int} {a : Nat} {c : Int} {t : Tok} {e : Nat} (hc : l[a]? = some c) (h : signS l a c = some (t, e)) : a < e ∧ e ≤ l.length := by
  have hlt : a < l.length := (List.getElem?_eq_some_iff.1 hc).1
  have hd : l.drop a = c :: l.drop (a + 1) := by rw [List.drop_eq_getElem_cons hlt]; congr 1; exact Option.some.inj ((List.getElem?_eq_getElem hlt).symm.trans hc)
  unfold signS at h
  split at h
  · rename_i hL
    injection h with h; injection h with h1 h2; subst h2
    have := nameLen_le (l.drop a)
    have h3 : 1 ≤ nameLen (l.drop a) := by rw [hd]; simp [nameLen, wordI, hL]
    simp at this; omega
  · split at h
    · rename_i hD
      split at h
      · rename_i n k hn
        injection h with h; injection h with h1 h2; subst h2
        have := numS_le hn
        have h3 : 1 ≤ k := by
          rw [hd] at hn
          unfold numS at hn
          simp only [hD, if_true] at hn
          split at hn
          · injection hn with hn; injection hn with _ hn; omega
          · injection hn with hn
            have : (numGo 5 0 (c :: l.drop (a + 1))).2 = k := by rw [hn]
            rw [← this]; simp [numGo, hD]
        simp at this; omega
      · cases h
    · split at h
      · injection h with h; injection h with h1 h2; subst h2; omega
      · cases h
def lexLine (l : List Int) : Except Nat (List Tok) := lexGo l (l.length + 1) 0 []
def lexV : Except Nat (List Tok) → AV
  | .ok out => .tup [toksV out, .int .i64 0, .bool true]
  | .error p => .tup [.view [] false, .int .i64 p, .bool false]
end Go.Vi.Sp
end SSpLex
section SSpSyn
/- One line's meaning, as plain functions. -/
namespace Go.Vi.Sp
open Go Go.Vi
structure Val where
  reg : Bool
  n : Int
  deriving DecidableEq, Inhabited
structure Ins where
  kind : Int
  op : Int
  d : Int
  a : Val
  b : Val
  name : Bytes
  target : Int
  deriving DecidableEq, Inhabited
structure Item where
  kind : Int
  n : Int
  secret : Bool
  name : Bytes
  ins : Ins
  deriving DecidableEq, Inhabited
abbrev val0 : Val := ⟨false, 0⟩
abbrev ins0 : Ins := ⟨0, 0, 0, ⟨false, 0⟩, ⟨false, 0⟩, [], 0⟩
abbrev item0 : Item := ⟨0, 0, false, [], ⟨0, 0, 0, ⟨false, 0⟩, ⟨false, 0⟩, [], 0⟩⟩
abbrev tok0 : Tok := ⟨0, [], 0, 0⟩
abbrev valV (v : Val) : AV := .agg [.bool v.reg, .int .i64 v.n]
abbrev insV (i : Ins) : AV := .agg [.int .i64 i.kind, .int .i64 i.op, .int .i64 i.d, .bool i.a.reg, .int .i64 i.a.n, .bool i.b.reg, .int .i64 i.b.n, .str i.name, .int .i64 i.target]
abbrev itemV (i : Item) : AV := .agg [.int .i64 i.kind, .int .i64 i.n, .bool i.secret, .str i.name, .int .i64 i.ins.kind, .int .i64 i.ins.op, .int .i64 i.ins.d, .bool i.ins.a.reg, .int .i64 i.ins.a.n, .bool i.ins.b.reg, .int .i64 i.ins.b.n, .str i.ins.name, .int .i64 i.ins.target]

def opsL : List Bytes := [[], [97, 100, 100], [115, 117, 98], [97, 110, 100], [111, 114], [120, 111, 114], [115, 104, 108], [115, 104, 114], [109, 117, 108], [108, 116], [101, 113]]
def wordsL : List Bytes := [[119, 105, 100, 116, 104], [119, 105, 110, 100, 111, 119], [102, 117, 101, 108], [112, 117, 98, 108, 105, 99], [115, 101, 99, 114, 101, 116], [109, 111, 118], [108, 111, 97, 100], [115, 116, 111, 114, 101], [99, 109, 111, 118], [98, 114], [106, 109, 112], [99, 97, 108, 108], [105, 110, 100], [114, 101, 116], [102, 101, 110, 99, 101], [104, 97, 108, 116]]
/-- where a text stands first, from a place on; -1: nowhere -/
def idxGo (x : Bytes) : List Bytes → Int → Int
  | [], _ => -1
  | y :: r, i => if x = y then i else idxGo x r (i + 1)
def idxS (l : List Bytes) (x : Bytes) : Int := idxGo x l 0
def opS (s : Bytes) : Int := if idxS opsL s < 0 then 0 else idxS opsL s
def regS : Bytes → Option Int
  | [a, b] => if a = 114 ∧ 48 ≤ b.toNat ∧ b.toNat < 52 then some ((b.toNat : Int) - 48) else none
  | _ => none
def freeS (s : Bytes) : Bool := (regS s).isNone && decide (opS s = 0) && !decide (0 ≤ idxS wordsL s)

/-- the program's reader -/
structure Rd where
  l : List Tok
  bad : Bool
abbrev rdB (r : Rd) : Blk := .box [toksV r.l, .bool r.bad]
def nextS (r : Rd) (kind : Int) : Tok × Rd := if r.bad then (tok0, r) else match r.l with
  | [] => (tok0, ⟨[], true⟩)
  | t :: l => if t.kind = kind then (t, r) else (tok0, ⟨t :: l, true⟩)
def doneS (r : Rd) (ok : Bool) : Rd := if r.bad || !ok then ⟨r.l, true⟩ else ⟨r.l.tail, false⟩
theorem nextS_ne {r : Rd} {k : Int} (h : (nextS r k).2.bad = false) : (nextS r k).2.l ≠ [] := by
  obtain ⟨l, bad⟩ := r
  cases bad with
  | true => simp [nextS] at h
  | false =>
    cases l with
    | nil => simp [nextS] at h
    | cons t l => by_cases hk : t.kind = k <;> simp [nextS, hk] at h ⊢
def signR (r : Rd) (s : Bytes) : Rd := doneS (nextS r 3).2 (decide ((nextS r 3).1.text = s))
def numR (r : Rd) : Int × Rd := ((nextS r 2).1.n, doneS (nextS r 2).2 true)
def nameR (r : Rd) : Bytes × Rd := let r' := doneS (nextS r 1).2 (freeS (nextS r 1).1.text); (if r'.bad then [] else (nextS r 1).1.text, r')
def regR (r : Rd) : Int × Rd := ((regS (nextS r 1).1.text).getD 0, doneS (nextS r 1).2 (regS (nextS r 1).1.text).isSome)
def isNum (r : Rd) : Bool := !r.bad && (match r.l with
  | [] => false
  | t :: _ => decide (t.kind = 2))
def valP (r : Rd) : Val × Rd := if isNum r then (⟨false, (numR r).1⟩, (numR r).2) else (⟨true, (regR r).1⟩, (regR r).2)
def addressR (r : Rd) : Val × Val × Rd :=
  let r1 := signR r [91]; let a := valP r1; let r2 := signR a.2 [43]; let b := valP r2; (a.1, b.1, signR b.2 [93])
def twoR (r : Rd) : Val × Val × Rd := let a := valP r; let b := valP (signR a.2 [44]); (a.1, b.1, b.2)
def storeR (r : Rd) : Ins × Rd := let x := addressR r; let d := regR (signR x.2.2 [44]); (⟨3, 0, d.1, x.1, x.2.1, [], 0⟩, d.2)
def destR (r : Rd) : Int × Rd := ((regR r).1, signR (regR r).2 [44])
def branchR (r : Rd) : Ins × Rd :=
  let t := nextS r 1; let op := opS t.1.text; let r1 := doneS t.2 (decide (0 < op)); let x := twoR r1; let n := nameR (signR x.2.2 [44])
  (⟨5, op, 0, x.1, x.2.1, n.1, 0⟩, n.2)
def movesR (r : Rd) (word : Bytes) : Ins × Rd :=
  let d := destR r
  if word = [109, 111, 118] then let a := valP d.2; (⟨1, 4, d.1, a.1, val0, [], 0⟩, a.2)
  else if word = [108, 111, 97, 100] then let x := addressR d.2; (⟨2, opS word, d.1, x.1, x.2.1, [], 0⟩, x.2.2)
  else if word = [99, 109, 111, 118] then let x := twoR d.2; (⟨4, opS word, d.1, x.1, x.2.1, [], 0⟩, x.2.2)
  else let x := twoR d.2; (⟨1, opS word, d.1, x.1, x.2.1, [], 0⟩, x.2.2)
def insR (r : Rd) (word : Bytes) : Ins × Bool × Rd :=
  if word = [115, 116, 111, 114, 101] then ((storeR r).1, true, (storeR r).2)
  else if word = [98, 114] then ((branchR r).1, true, (branchR r).2)
  else if word = [106, 109, 112] then (⟨6, 0, 0, val0, val0, (nameR r).1, 0⟩, true, (nameR r).2)
  else if word = [99, 97, 108, 108] then (⟨8, 0, 0, val0, val0, (nameR r).1, 0⟩, true, (nameR r).2)
  else if word = [105, 110, 100] then (⟨7, 0, 0, (valP r).1, val0, [], 0⟩, true, (valP r).2)
  else if word = [114, 101, 116] then (⟨9, 0, 0, val0, val0, [], 0⟩, true, r)
  else if word = [102, 101, 110, 99, 101] then (⟨10, 0, 0, val0, val0, [], 0⟩, true, r)
  else if word = [104, 97, 108, 116] then (⟨11, 0, 0, val0, val0, [], 0⟩, true, r)
  else if 0 < opS word ∨ word = [109, 111, 118] ∨ word = [108, 111, 97, 100] ∨ word = [99, 109, 111, 118] then ((movesR r word).1, true, (movesR r word).2)
  else (ins0, false, r)
def isReg (r : Rd) : Option Int := if r.bad then none else match r.l with
  | [] => none
  | t :: _ => regS t.text
def placeR (r : Rd) (secret : Bool) : Item × Rd := match isReg r with
  | some n => (⟨4, 0, secret, [], ⟨0, 0, n, val0, val0, [], 0⟩⟩, doneS r true)
  | none => let n := nameR r; let k := numR n.2; (⟨5, k.1, secret, n.1, ins0⟩, k.2)
def itemR (r : Rd) : Item × Rd :=
  if r.l = [] then (item0, r) else
  let t := nextS r 1
  if t.2.bad then (item0, t.2) else
  if freeS t.1.text then (⟨6, 0, false, t.1.text, ins0⟩, signR (doneS t.2 true) [58]) else
  if (regS t.1.text).isSome then (item0, ⟨t.2.l, true⟩) else
  let r1 := doneS t.2 true
  if t.1.text = [119, 105, 100, 116, 104] then (⟨1, (numR r1).1, false, [], ins0⟩, (numR r1).2)
  else if t.1.text = [119, 105, 110, 100, 111, 119] then (⟨2, (numR r1).1, false, [], ins0⟩, (numR r1).2)
  else if t.1.text = [102, 117, 101, 108] then (⟨3, (numR r1).1, false, [], ins0⟩, (numR r1).2)
  else if t.1.text = [112, 117, 98, 108, 105, 99] ∨ t.1.text = [115, 101, 99, 114, 101, 116] then placeR r1 (decide (t.1.text = [115, 101, 99, 114, 101, 116]))
  else (⟨7, 0, false, [], (insR r1 t.1.text).1⟩, (insR r1 t.1.text).2.2)
/-- the program's Parse: the meaning, the place, whether it is one -/
def parseS (s : Bytes) : Item × Int × Bool := match lexLine (runes s) with
  | .error p => (item0, p, false)
  | .ok l => match (itemR ⟨l, false⟩).2.l with
    | t :: _ => (item0, t.at_, false)
    | [] => if (itemR ⟨l, false⟩).2.bad then (item0, (runes s).length, false) else ((itemR ⟨l, false⟩).1, 0, true)
/-! a number's digits -/
def decF : Nat → Nat → Bytes
  | 0, u => [UInt8.ofNat (48 + u)]
  | k + 1, u => if u < 10 then [UInt8.ofNat (48 + u)] else decF k (u / 10) ++ [UInt8.ofNat (48 + u % 10)]
def itoaS (n : Int) : Bytes := if n < 0 then 45 :: decF 20 n.natAbs else decF 20 n.toNat
theorem decF_eq : ∀ (k u : Nat), u < 10 ^ (k + 1) → Go.Lib.decDigits u = decF k u
  | 0, u, h => by rw [Go.Lib.decDigits, dif_pos (by simpa using h)]; rfl
  | k + 1, u, h => by
    rw [Go.Lib.decDigits]
    unfold decF
    split
    · rfl
    · rw [decF_eq k (u / 10) (by rw [Nat.pow_succ] at h; omega)]
theorem itoa_eq {n : Int} (h1 : -9223372036854775808 ≤ n) (h2 : n ≤ 9223372036854775807) : Go.Lib.itoa n = itoaS n := by
  unfold Go.Lib.itoa itoaS
  split
  · rw [decF_eq 20 n.natAbs (by omega)]
  · rw [decF_eq 20 n.toNat (by omega)]
/-! printed -/
def valT (v : Val) : Bytes := if v.reg then 114 :: itoaS v.n else itoaS v.n
def registerT (n : Int) : Bytes := 114 :: itoaS n
def wordT (n : Int) : Bytes := if n < 0 ∨ 11 ≤ n then [] else (opsL[n.toNat]?).getD []
def lineT (i : Ins) : Bytes :=
  let values := valT i.a ++ [44, 32] ++ valT i.b
  let address := [91] ++ valT i.a ++ [32, 43, 32] ++ valT i.b ++ [93]
  if i.kind = 1 then wordT i.op ++ [32] ++ registerT i.d ++ [44, 32] ++ values
  else if i.kind = 2 then [108, 111, 97, 100, 32] ++ registerT i.d ++ [44, 32] ++ address
  else if i.kind = 3 then [115, 116, 111, 114, 101, 32] ++ address ++ [44, 32] ++ registerT i.d
  else if i.kind = 4 then [99, 109, 111, 118, 32] ++ registerT i.d ++ [44, 32] ++ values
  else if i.kind = 5 then [98, 114, 32] ++ wordT i.op ++ [32] ++ values ++ [44, 32] ++ i.name
  else if i.kind = 6 then [106, 109, 112, 32] ++ i.name
  else if i.kind = 7 then [105, 110, 100, 32] ++ valT i.a
  else if i.kind = 8 then [99, 97, 108, 108, 32] ++ i.name
  else if i.kind = 9 then [114, 101, 116]
  else if i.kind = 10 then [102, 101, 110, 99, 101]
  else if i.kind = 11 then [104, 97, 108, 116]
  else [63]
def textT (i : Sp.Item) : Bytes :=
  let share : Bytes := if i.secret then [115, 101, 99, 114, 101, 116, 32] else [112, 117, 98, 108, 105, 99, 32]
  if i.kind = 0 then []
  else if i.kind = 1 then [119, 105, 100, 116, 104, 32] ++ itoaS i.n
  else if i.kind = 2 then [119, 105, 110, 100, 111, 119, 32] ++ itoaS i.n
  else if i.kind = 3 then [102, 117, 101, 108, 32] ++ itoaS i.n
  else if i.kind = 4 then share ++ registerT i.ins.d
  else if i.kind = 5 then share ++ i.name ++ [32] ++ itoaS i.n
  else if i.kind = 6 then i.name ++ [58]
  else if i.kind = 7 then lineT i.ins
  else [63]
/-- the program's Print -/
def printS (i : Sp.Item) : Bytes × Bool := if (parseS (textT i)).2.2 = true ∧ (parseS (textT i)).1 = i then (textT i, true) else ([], false)
abbrev rng (n : Int) : Prop := -9223372036854775808 ≤ n ∧ n ≤ 9223372036854775807
structure InsRng (i : Ins) : Prop where
  d : rng i.d
  a : rng i.a.n
  b : rng i.b.n
  name : i.name.length ≤ 1000000
structure ItemRng (i : Sp.Item) : Prop where
  n : rng i.n
  name : i.name.length ≤ 1000000
  ins : InsRng i.ins
theorem itoa_len {n : Int} (h : rng n) : (itoaS n).length ≤ 21 := by rw [← itoa_eq h.1 h.2]; exact Go.Lib.itoa_length_le n h.1 h.2
theorem valT_len {v : Val} (h : rng v.n) : (valT v).length ≤ 22 := by
  have := itoa_len h
  unfold valT; split <;> simp <;> omega
theorem registerT_len {n : Int} (h : rng n) : (registerT n).length ≤ 22 := by
  have := itoa_len h
  unfold registerT; simp; omega
theorem wordT_len (n : Int) : (wordT n).length ≤ 3 := by
  unfold wordT
  split
  · simp
  · rename_i h
    have h1 : 0 ≤ n := by omega
    have h2 : n < 11 := by omega
    obtain ⟨k, rfl⟩ := Int.eq_ofNat_of_zero_le h1
    have : k < 11 := by omega
    match k, this with
    | 0, _ => decide
    | 1, _ => decide
    | 2, _ => decide
    | 3, _ => decide
    | 4, _ => decide
    | 5, _ => decide
    | 6, _ => decide
    | 7, _ => decide
    | 8, _ => decide
    | 9, _ => decide
    | 10, _ => decide
theorem lineT_len {i : Ins} (h : InsRng i) : (lineT i).length ≤ 1000100 := by
  have b1 := valT_len h.a
  have b2 := valT_len h.b
  have b3 := registerT_len h.d
  have b4 := wordT_len i.op
  have b5 := h.name
  unfold lineT
  simp only []
  repeat' split
  all_goals (simp only [List.length_append, List.length_cons, List.length_nil]; omega)
theorem textT_len {i : Sp.Item} (h : ItemRng i) : (textT i).length ≤ 1000200 := by
  have b1 := itoa_len h.n
  have b3 := registerT_len h.ins.d
  have b5 := h.name
  have b6 := lineT_len h.ins
  unfold textT
  simp only []
  repeat' split
  all_goals (first | omega | (simp only [List.length_append, List.length_cons, List.length_nil]; omega))
/-! the signs -/
theorem contains_not {b : UInt8} {r : Bytes} (h1 : b ≠ 44) (h2 : b ≠ 58) (h3 : b ≠ 91) (h4 : b ≠ 93) (h5 : b ≠ 43) : Go.Lib.contains [44, 58, 91, 93, 43] (b :: r) = false := by
  simp [Go.Lib.contains, Go.Lib.index, h1, h2, h3, h4, h5, List.isPrefixOf]
theorem sign_small : ∀ c : Fin 128, Go.Lib.contains [44, 58, 91, 93, 43] (encR (c.val : Int)) = isSign (c.val : Int) := by decide
theorem encR_big {c : Int} (h : ¬ (0 ≤ c ∧ c < 128)) : ∃ b r, encR c = b :: r ∧ 128 ≤ b.toNat := by
  unfold encR Utf8.encode
  simp only []
  have hv : ¬ ((if Utf8.valid c = true then c.toNat else Utf8.runeError) < 128) := by
    split
    · rename_i hv
      simp only [Utf8.valid, Bool.or_eq_true, Bool.and_eq_true, decide_eq_true_eq] at hv
      omega
    · simp [Utf8.runeError]
  have hm : (if Utf8.valid c = true then c.toNat else Utf8.runeError) ≤ 1114111 := by
    split
    · rename_i hv
      simp only [Utf8.valid, Bool.or_eq_true, Bool.and_eq_true, decide_eq_true_eq] at hv
      omega
    · simp [Utf8.runeError]
  generalize (if Utf8.valid c = true then c.toNat else Utf8.runeError) = k at hv hm
  rw [if_neg hv]
  split
  · exact ⟨_, _, rfl, by simp; omega⟩
  · split
    · exact ⟨_, _, rfl, by simp; omega⟩
    · exact ⟨_, _, rfl, by simp; omega⟩
/-- what the program's table of signs says of each rune -/
theorem sign_all (c : Int) : Go.Lib.contains [44, 58, 91, 93, 43] (encR c) = isSign c := by
  by_cases h : 0 ≤ c ∧ c < 128
  · obtain ⟨k, rfl⟩ := Int.eq_ofNat_of_zero_le h.1
    exact sign_small ⟨k, by omega⟩
  · obtain ⟨b, r, hb, hk⟩ := encR_big h
    rw [hb, contains_not (by rintro rfl; revert hk; decide) (by rintro rfl; revert hk; decide) (by rintro rfl; revert hk; decide) (by rintro rfl; revert hk; decide) (by rintro rfl; revert hk; decide)]
    have h1 : ¬ c = 44 := by omega
    have h2 : ¬ c = 58 := by omega
    have h3 : ¬ c = 91 := by omega
    have h4 : ¬ c = 93 := by omega
    have h5 : ¬ c = 43 := by omega
    simp [isSign, h1, h2, h3, h4, h5]
theorem item_ext {j i : Sp.Item} (e1 : j.kind = i.kind) (e2 : j.n = i.n) (e3 : j.secret = i.secret) (e4 : j.name = i.name) (e5 : j.ins.kind = i.ins.kind) (e6 : j.ins.op = i.ins.op) (e7 : j.ins.d = i.ins.d)
    (e8 : j.ins.a.reg = i.ins.a.reg) (e9 : j.ins.a.n = i.ins.a.n) (e10 : j.ins.b.reg = i.ins.b.reg) (e11 : j.ins.b.n = i.ins.b.n) (e12 : j.ins.name = i.ins.name) (e13 : j.ins.target = i.ins.target) : j = i := by
  obtain ⟨k, n, s, nm, ⟨ik, io, id, ⟨ar, an⟩, ⟨br, bn⟩, inm, it⟩⟩ := j
  obtain ⟨k', n', s', nm', ⟨ik', io', id', ⟨ar', an'⟩, ⟨br', bn'⟩, inm', it'⟩⟩ := i
  simp_all
end Go.Vi.Sp
end SSpSyn
section SSpLaw5
/- The laws of layer 5, by hand-written rows: plain. -/
namespace Go.Vi.Sp
open Go Go.Vi
/-- the rows of SynsForms: a line, its kind, where it is wrong -/
def formsT : List (Bytes × Int × Int) := [([], 0, -1), ([119, 105, 100, 116, 104, 32, 50], 1, -1), ([119, 105, 100, 116, 104, 32, 114, 49], 0, 6), ([119, 105, 100, 116, 104], 0, 5), ([119, 105, 110, 100, 111, 119, 32, 51, 32, 52], 0, 9), ([102, 117, 101, 108, 32, 57, 57, 57, 57, 57], 3, -1), ([112, 117, 98, 108, 105, 99, 32, 114, 51], 4, -1), ([115, 101, 99, 114, 101, 116, 32, 114, 52, 32, 50], 5, -1), ([115, 101, 99, 114, 101, 116, 32, 114, 52], 0, 9), ([112, 117, 98, 108, 105, 99, 32, 97, 100, 100, 32, 50], 0, 7), ([112, 117, 98, 108, 105, 99, 32, 51], 0, 7), ([97, 58], 6, -1), ([97], 0, 1), ([97, 32, 58, 32, 58], 0, 4), ([114, 49, 58], 0, 0), ([97, 100, 100, 58], 0, 3), ([58], 0, 0), ([53], 0, 0), ([97, 100, 100, 32, 114, 48, 44, 32, 114, 49, 44, 32, 50], 7, -1), ([97, 100, 100, 32, 114, 48, 32, 114, 49, 44, 32, 50], 0, 7), ([97, 100, 100, 32, 49, 44, 32, 114, 49, 44, 32, 50], 0, 4), ([97, 100, 100, 32, 114, 52, 44, 32, 114, 49, 44, 32, 50], 0, 4), ([109, 111, 118, 32, 114, 48, 44, 32, 53], 7, -1), ([109, 111, 118, 32, 114, 48, 44, 32, 120], 0, 8), ([108, 111, 97, 100, 32, 114, 48, 44, 32, 91, 114, 49, 32, 43, 32, 114, 50, 93], 7, -1), ([108, 111, 97, 100, 32, 114, 48, 44, 32, 91, 114, 49, 93], 0, 12), ([115, 116, 111, 114, 101, 32, 91, 49, 32, 43, 32, 50, 93, 44, 32, 114, 51], 7, -1), ([115, 116, 111, 114, 101, 32, 114, 51, 44, 32, 91, 49, 32, 43, 32, 50, 93], 0, 6), ([99, 109, 111, 118, 32, 114, 48, 44, 32, 49, 44, 32, 114, 50], 7, -1), ([98, 114, 32, 108, 116, 32, 114, 48, 44, 32, 49, 44, 32, 120], 7, -1), ([98, 114, 32, 109, 111, 118, 32, 114, 48, 44, 32, 49, 44, 32, 120], 0, 3), ([98, 114, 32, 108, 116, 32, 114, 48, 44, 32, 49, 44, 32, 108, 116], 0, 13), ([106, 109, 112, 32, 120], 7, -1), ([106, 109, 112, 32, 51], 0, 4), ([99, 97, 108, 108, 32, 104, 97, 108, 116], 0, 5), ([105, 110, 100, 32, 51], 7, -1), ([105, 110, 100, 32, 120], 0, 4), ([114, 101, 116], 7, -1), ([114, 101, 116, 32, 49], 0, 4), ([104, 97, 108, 116, 59, 120], 7, -1), ([102, 101, 110, 99, 101, 32, 44], 0, 6), ([195, 169], 0, 0)]
abbrev formV (x : Bytes × Int × Int) : AV := .agg [.str x.1, .int .i64 x.2.1, .int .i64 x.2.2]
def formOk (x : Bytes × Int × Int) : Bool := let p := parseS x.1
  if 0 ≤ x.2.2 then !p.2.2 && decide (p.2.1 = x.2.2) && decide (p.1 = item0) else p.2.2 && decide (p.1.kind = x.2.1) && decide (p.2.1 = 0)
theorem forms_ok : ∀ x ∈ formsT, formOk x = true ∧ x.1.length ≤ 100 := by decide +kernel
end Go.Vi.Sp
end SSpLaw5
