/- The seat: contracts of its functions. -/
import Derived.Test.YtopedkngffaplaaDoorKPrim
import Derived.Test.YtopedkngffaplaaDoorKLaw5
import Derived.Test.YtopedkngffaplaaDoorCards
import Derived.Test.YtopedkngffaplaaDoorTie
import Derived.WalkKit
import Derived.ProofKit
import Derived.OpenShut
import Derived.Deep.DeepHandedRow
import Derived.Lib.LaidTab
import Derived.Shelf.Vars
set_option linter.all false
set_option linter.unusedVariables false
set_option linter.unusedSectionVars false
set_option linter.unusedSimpArgs false
section STrydRow5
/- The seat's rows: what is laid, the witness's world. -/
namespace Go.Proofs.YtopedkngffaplaaDoor
open Go Go.Vi
open Go.ChangeShapes Go.WideShapes Go.ChangeAt Go.RowKit
set_option linter.unusedSimpArgs false
set_option linter.unusedVariables false
theorem own : ownKnob Tryd.prog.godebug = none := by kernel_rfl
theorem mixed : cfg.P.follows .mixedOrders = true := by rw [cfgP]; kernel_rfl
theorem gPowType : (Tryd.prog.globals[1]?).map (·.type) = some 113 := by kernel_rfl
theorem laidIs : Rows.synsFormsRow.laid = [("math/bits.deBruijn32tab", Rows.laid_math_bits_deBruijn32tab), ("math/bits.deBruijn64tab", Rows.laid_math_bits_deBruijn64tab), ("internal/strconv.uint64pow10", Rows.laid_internal_strconv_uint64pow10)] := rfl
theorem table {W : World} (h : laidMetH Tryd.prog Rows.synsFormsRow.laid W) : Lib.TabIs Tryd.prog W "internal/strconv.uint64pow10" .u64 Lib.pow10Tab := by
  have h1 : laidMet Tryd.prog [("math/bits.deBruijn32tab", Rows.laid_math_bits_deBruijn32tab), ("math/bits.deBruijn64tab", Rows.laid_math_bits_deBruijn64tab), ("internal/strconv.uint64pow10", Rows.laid_internal_strconv_uint64pow10)] W := h
  obtain ⟨ps, hl, _⟩ := h1
  obtain ⟨_, _, _, _, _, _, _, _, _, _, hl, _⟩ := hl
  obtain ⟨_, _, _, _, _, _, _, _, _, _, hl, _⟩ := hl
  obtain ⟨g', t', cs, fuel, p, q, hg', ht', hvar, hd, _, _⟩ := hl
  obtain rfl := Option.some.inj (gPow.symm.trans hg')
  obtain rfl := Option.some.inj (gPowType.symm.trans ht')
  unfold Lib.TabIs
  have hd' : DataW.trod (fun _ => ()) Tryd.prog W 0 (fun _ => true) false fuel 113 cs.toList = some (Lib.tabData .u64 Lib.pow10Tab, p) := hd
  rw [hvar, ← Lib.cells_of_tab Tryd.underlying113 Tryd.underlying106 (by kernel_rfl) (by kernel_rfl) hd']
theorem someMax {W : World} (h : W.ShapedOpen Tryd.prog) : ∃ m, W.cell? ⟨0, 0, none⟩ = some (.int .i64 m) :=
  cell_of_shapedOpen_int (zero := #[.int .i64 0]) (t := 3) h (of_decide_eq_true (by kernel_rfl)) (by kernel_rfl) rfl (by kernel_rfl) (by kernel_rfl) Tryd.underlying3
/-- the walk of a law, from its value -/
theorem walk {n : Nat} {f : FuncId} {avs : List AV} (h : vcall cfg (acall cfg n) f avs = some (.bool true)) (hr0 : refOkL 0 avs = true) {W : World} (hsh : W.ShapedOpen Tryd.prog) (hL : laidMetH Tryd.prog Rows.synsFormsRow.laid W) {vs : Array Value}
    (hv : ∀ [Glob], VRs (Vi.Mem.start W) avs vs.toList) : Calls Tryd.prog f vs W fun e W' => e = .returned (.bool true) ∧ Below W.heap.size W W' := by
  obtain ⟨m, hm⟩ := someMax hsh
  obtain ⟨e, hg⟩ := glob_of hm (table hL)
  letI := globOf m e
  have := law_calls (C := cfg) mixed (primOk m e) h hr0 hg hv
  rw [cfgP] at this
  exact this
/-- A WORLD FOR THE WITNESS: the settled one, the tables holding what their initialisers lay. -/
noncomputable def tabCells {H : Type} : DataW H → Array Value
  | .agg ds => (ds.map fun | .lit (.int k z) => Value.int k z | _ => .bool false).toArray
  | _ => #[]
def setRow (cs : Array Value) : Obj → Obj
  | .cells _ t frozen => .cells cs t frozen
  | o => o
noncomputable def laidWorld (os : Os) : World :=
  { World.holding Tryd.prog os ⟨#[], #[], []⟩ with heap := ((((World.holding Tryd.prog os ⟨#[], #[], []⟩).heap.modify 1 (setRow (tabCells (H := Unit) Rows.laid_internal_strconv_uint64pow10))).modify 3 (setRow (tabCells (H := Unit) Rows.laid_math_bits_deBruijn64tab))).modify 2 (setRow (tabCells (H := Unit) Rows.laid_math_bits_deBruijn32tab))) }
theorem laid_met (os : Os) (args : Array Value) : laidMet Tryd.prog Rows.synsFormsRow.laid ((laidWorld os).forCall (fun _ _ => 0) ⟨#[], args, []⟩).memory :=
  laidMet_of_run' 8 (by kernel_rfl) (by kernel_rfl)
end Go.Proofs.YtopedkngffaplaaDoor
end STrydRow5
