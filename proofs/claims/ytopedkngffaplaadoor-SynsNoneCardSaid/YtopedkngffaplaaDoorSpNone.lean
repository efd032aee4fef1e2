/- Plain functions and facts. -/
import Derived.Test.YtopedkngffaplaaDoorSp
set_option linter.all false
set_option linter.unusedVariables false
set_option linter.unusedSectionVars false
set_option linter.unusedSimpArgs false
section SSpNone
/- The rows of SynsNone, by hand: plain. -/
namespace Go.Vi.Sp
open Go Go.Vi
def nonesT : List (Sp.Item × Bool) := [(⟨0, 0, false, [], ⟨0, 0, 0, ⟨false, 0⟩, ⟨false, 0⟩, [], 0⟩⟩, true), (⟨8, 0, false, [], ⟨0, 0, 0, ⟨false, 0⟩, ⟨false, 0⟩, [], 0⟩⟩, false), (⟨-1, 0, false, [], ⟨0, 0, 0, ⟨false, 0⟩, ⟨false, 0⟩, [], 0⟩⟩, false), (⟨1, 5, false, [], ⟨0, 0, 0, ⟨false, 0⟩, ⟨false, 0⟩, [], 0⟩⟩, true), (⟨1, -1, false, [], ⟨0, 0, 0, ⟨false, 0⟩, ⟨false, 0⟩, [], 0⟩⟩, false), (⟨1, 100000, false, [], ⟨0, 0, 0, ⟨false, 0⟩, ⟨false, 0⟩, [], 0⟩⟩, false), (⟨3, 99999, false, [], ⟨0, 0, 0, ⟨false, 0⟩, ⟨false, 0⟩, [], 0⟩⟩, true), (⟨1, 5, false, [120], ⟨0, 0, 0, ⟨false, 0⟩, ⟨false, 0⟩, [], 0⟩⟩, false), (⟨4, 0, false, [], ⟨0, 0, 3, ⟨false, 0⟩, ⟨false, 0⟩, [], 0⟩⟩, true), (⟨4, 0, false, [], ⟨0, 0, 4, ⟨false, 0⟩, ⟨false, 0⟩, [], 0⟩⟩, false), (⟨5, 2, true, [109], ⟨0, 0, 0, ⟨false, 0⟩, ⟨false, 0⟩, [], 0⟩⟩, true), (⟨5, 2, false, [104, 97, 108, 116], ⟨0, 0, 0, ⟨false, 0⟩, ⟨false, 0⟩, [], 0⟩⟩, false), (⟨5, 2, false, [], ⟨0, 0, 0, ⟨false, 0⟩, ⟨false, 0⟩, [], 0⟩⟩, false), (⟨5, 2, false, [65], ⟨0, 0, 0, ⟨false, 0⟩, ⟨false, 0⟩, [], 0⟩⟩, false), (⟨6, 0, false, [108, 48], ⟨0, 0, 0, ⟨false, 0⟩, ⟨false, 0⟩, [], 0⟩⟩, true), (⟨6, 0, false, [114, 48], ⟨0, 0, 0, ⟨false, 0⟩, ⟨false, 0⟩, [], 0⟩⟩, false), (⟨6, 0, false, [97, 32, 98], ⟨0, 0, 0, ⟨false, 0⟩, ⟨false, 0⟩, [], 0⟩⟩, false), (⟨7, 0, false, [], ⟨1, 1, 0, ⟨false, 0⟩, ⟨false, 0⟩, [], 0⟩⟩, true), (⟨7, 0, false, [], ⟨1, 11, 0, ⟨false, 0⟩, ⟨false, 0⟩, [], 0⟩⟩, false), (⟨7, 0, false, [], ⟨1, 0, 0, ⟨false, 0⟩, ⟨false, 0⟩, [], 0⟩⟩, false), (⟨7, 0, false, [], ⟨1, 1, 4, ⟨false, 0⟩, ⟨false, 0⟩, [], 0⟩⟩, false), (⟨7, 0, false, [], ⟨1, 1, 0, ⟨true, 4⟩, ⟨false, 0⟩, [], 0⟩⟩, false), (⟨7, 0, false, [], ⟨2, 1, 0, ⟨false, 0⟩, ⟨false, 0⟩, [], 0⟩⟩, false), (⟨7, 0, false, [], ⟨5, 9, 0, ⟨false, 0⟩, ⟨false, 0⟩, [120], 0⟩⟩, true), (⟨7, 0, false, [], ⟨5, 9, 0, ⟨false, 0⟩, ⟨false, 0⟩, [], 0⟩⟩, false), (⟨7, 0, false, [], ⟨6, 0, 0, ⟨false, 0⟩, ⟨false, 0⟩, [120], 1⟩⟩, false), (⟨7, 0, false, [], ⟨7, 0, 0, ⟨false, 0⟩, ⟨false, 1⟩, [], 0⟩⟩, false), (⟨7, 0, false, [], ⟨12, 0, 0, ⟨false, 0⟩, ⟨false, 0⟩, [], 0⟩⟩, false), (⟨7, 0, false, [], ⟨0, 0, 0, ⟨false, 0⟩, ⟨false, 0⟩, [], 0⟩⟩, false), (⟨7, 0, false, [], ⟨11, 0, 0, ⟨false, 0⟩, ⟨false, 0⟩, [], 0⟩⟩, true)]
abbrev noneV (x : Sp.Item × Bool) : AV := .agg [.int .i64 x.1.kind, .int .i64 x.1.n, .bool x.1.secret, .str x.1.name, .int .i64 x.1.ins.kind, .int .i64 x.1.ins.op, .int .i64 x.1.ins.d, .bool x.1.ins.a.reg, .int .i64 x.1.ins.a.n, .bool x.1.ins.b.reg, .int .i64 x.1.ins.b.n, .str x.1.ins.name, .int .i64 x.1.ins.target, .bool x.2]
def noneOk (x : Sp.Item × Bool) : Bool := let p := printS x.1; let q := parseS p.1
  decide (p.2 = x.2) && (if x.2 then q.2.2 && decide (q.1 = x.1) else decide (p.1 = []))
def itemSmall (i : Sp.Item) : Bool := decide ((-1000000 ≤ i.n ∧ i.n ≤ 1000000) ∧ i.name.length ≤ 1000000 ∧ (-1000000 ≤ i.ins.d ∧ i.ins.d ≤ 1000000) ∧ (-1000000 ≤ i.ins.a.n ∧ i.ins.a.n ≤ 1000000) ∧ (-1000000 ≤ i.ins.b.n ∧ i.ins.b.n ≤ 1000000) ∧ i.ins.name.length ≤ 1000000)
theorem nones_ok : ∀ x ∈ nonesT, noneOk x = true ∧ itemSmall x.1 = true ∧ (printS x.1).1.length ≤ 100 := by decide +kernel
end Go.Vi.Sp
end SSpNone
