/- The interpreter: its shortened form of code is sound; rules to evaluate it in part. -/
import Derived.Test.YtopedkngffaplaaDoorVdDigF
set_option linter.all false
set_option linter.unusedVariables false
set_option linter.unusedSectionVars false
set_option linter.unusedSimpArgs false
section SViDigG
/- The operations of a region by its number. -/
namespace Go.Vi
open Go
def regOps? : Code → Nat → Option (Array Oper)
  | .region i ops _, n => if i = n then some ops else none
  | .seq a b, n => match regOps? a n with
    | some o => some o
    | none => regOps? b n
  | .cond _ a b, n => match regOps? a n with
    | some o => some o
    | none => regOps? b n
  | .block _ b, n => regOps? b n
  | .loop b, n => regOps? b n
  | _, _ => none
def regOps (c : Code) (n : Nat) : Array Oper := (regOps? c n).getD #[]
noncomputable def callV (C : Cfg) (n : Nat) (f : FuncId) (args : List AV) (H : Heap) : VRes := match frzL args H with
  | none => .fail
  | some (args', H1) => match vcall C (acall C n) f args' with
    | some v => .ok v H1
    | none => .fail
theorem acall_callV {C : Cfg} {n : Nat} {ns : List Nat} {f : FuncId} {args : List AV} {H : Heap} (hi : C.inl f = false) : acall C (n + 1) ns f args H = callV C n f args H := by
  rw [acall, if_neg (by simp [hi])]; rfl
/-- slots that nobody reads -/
def pad (n : Nat) : List AV := List.replicate n .undef
theorem pad_succ (n : Nat) : pad (n + 1) = .undef :: pad n := rfl
theorem env0S_pad {nt m : Nat} {args : List AV} (h1 : args.length ≤ m) (h2 : m ≤ nt) : env0S nt args = args ++ (List.replicate (m - args.length) .undef ++ pad (nt - m)) := by
  unfold env0S pad
  rw [List.replicate_append_replicate]
  congr 2; omega
end Go.Vi
end SViDigG
