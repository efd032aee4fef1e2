/- The seat: its types and functions. -/
import Derived.Test.YtopedkngffaplaaDoorProg
import Derived.Test.YtopedkngffaplaaDoorVdTop
import Derived.KernelRfl
import Derived.Lib.IndexMore
import Derived.Lib.ItoaNum
set_option linter.all false
set_option linter.unusedVariables false
set_option linter.unusedSectionVars false
set_option linter.unusedSimpArgs false
section STrydBase
/- The base of a seat: the configuration, the types and the functions of the program, as closed facts. Printed by genbase.py. -/
namespace Go.Proofs.YtopedkngffaplaaDoor
open Go Go.Vi
def inlined : List FuncId := [18, 25, 26, 30, 32, 33, 35, 36, 37, 44, 46, 47, 49, 50, 61, 62, 63, 64, 65, 70, 71, 72, 73, 76, 81, 82, 83, 84]
def primF (f : FuncId) (args : List AV) : Option AV := if f = 57 then (match args with | [.str s, .str t] => if s.length < 4294967281 then some (.bool (Go.Lib.contains s t)) else none | _ => none) else if f = 38 then (match args with | [.int .i64 n] => if -9223372036854775808 ≤ n ∧ n ≤ 9223372036854775807 then some (.str (Go.Lib.itoa n)) else none | _ => none) else none
theorem cfg_exists : ∃ C : Cfg, C.P = Tryd.prog ∧ C.inl = (fun f => inlined.contains f) ∧ C.prim = primF ∧ C.rounds = 4294967296 := ⟨{ P := Tryd.prog, inl := fun f => inlined.contains f, prim := primF, rounds := 4294967296 }, rfl, rfl, rfl, rfl⟩
noncomputable def cfg : Cfg := Classical.choose cfg_exists
theorem cfgP : cfg.P = Tryd.prog := (Classical.choose_spec cfg_exists).1
theorem cfgIn : cfg.inl = fun f => inlined.contains f := (Classical.choose_spec cfg_exists).2.1
theorem cfgPrimF : cfg.prim = primF := (Classical.choose_spec cfg_exists).2.2.1
theorem cfgPrim (f : FuncId) (a : List AV) (h : f ≠ 57 ∧ f ≠ 38 ∧ True) : cfg.prim f a = none := by rw [cfgPrimF]; unfold primF; rw [if_neg h.1]; rw [if_neg h.2.1]; 
theorem cfgRounds : cfg.rounds = 4294967296 := (Classical.choose_spec cfg_exists).2.2.2
@[simp] theorem T.shp1 : shp cfg.P 1 = some (false, 1) := by rw [cfgP]; kernel_rfl
@[simp] theorem T.sz1 : szOf cfg.P 1 = some 1 := by rw [cfgP]; kernel_rfl
@[simp] theorem T.shp2 : shp cfg.P 2 = some (false, 1) := by rw [cfgP]; kernel_rfl
@[simp] theorem T.sz2 : szOf cfg.P 2 = some 1 := by rw [cfgP]; kernel_rfl
@[simp] theorem T.zero2 : zeroC cfg.P 2 = some [.int .i64 0] := by rw [cfgP]; kernel_rfl
@[simp] theorem T.shp3 : shp cfg.P 3 = some (false, 1) := by rw [cfgP]; kernel_rfl
@[simp] theorem T.sz3 : szOf cfg.P 3 = some 1 := by rw [cfgP]; kernel_rfl
@[simp] theorem T.zero3 : zeroC cfg.P 3 = some [.int .i64 0] := by rw [cfgP]; kernel_rfl
@[simp] theorem T.shp4 : shp cfg.P 4 = some (false, 1) := by rw [cfgP]; kernel_rfl
@[simp] theorem T.sz4 : szOf cfg.P 4 = some 1 := by rw [cfgP]; kernel_rfl
@[simp] theorem T.zero4 : zeroC cfg.P 4 = some [.bool false] := by rw [cfgP]; kernel_rfl
@[simp] theorem T.isb4 : isBoolT cfg.P 4 = true := by rw [cfgP]; kernel_rfl
@[simp] theorem T.shp5 : shp cfg.P 5 = some (false, 1) := by rw [cfgP]; kernel_rfl
@[simp] theorem T.sz5 : szOf cfg.P 5 = some 1 := by rw [cfgP]; kernel_rfl
@[simp] theorem T.zero5 : zeroC cfg.P 5 = some [.int .u8 0] := by rw [cfgP]; kernel_rfl
@[simp] theorem T.shp9 : shp cfg.P 9 = some (false, 1) := by rw [cfgP]; kernel_rfl
@[simp] theorem T.sz9 : szOf cfg.P 9 = some 1 := by rw [cfgP]; kernel_rfl
@[simp] theorem T.zero9 : zeroC cfg.P 9 = some [.str []] := by rw [cfgP]; kernel_rfl
@[simp] theorem T.ix9 : ixOf cfg.P 9 = some .str := by rw [cfgP]; kernel_rfl
@[simp] theorem T.shp15 : shp cfg.P 15 = some (false, 1) := by rw [cfgP]; kernel_rfl
@[simp] theorem T.sz15 : szOf cfg.P 15 = some 1 := by rw [cfgP]; kernel_rfl
@[simp] theorem T.zero15 : zeroC cfg.P 15 = some [.nilp] := by rw [cfgP]; kernel_rfl
@[simp] theorem T.shp16 : shp cfg.P 16 = some (false, 1) := by rw [cfgP]; kernel_rfl
@[simp] theorem T.sz16 : szOf cfg.P 16 = some 1 := by rw [cfgP]; kernel_rfl
@[simp] theorem T.zero16 : zeroC cfg.P 16 = some [.nilp] := by rw [cfgP]; kernel_rfl
@[simp] theorem T.shp20 : shp cfg.P 20 = some (false, 1) := by rw [cfgP]; kernel_rfl
@[simp] theorem T.sz20 : szOf cfg.P 20 = some 1 := by rw [cfgP]; kernel_rfl
@[simp] theorem T.shp21 : shp cfg.P 21 = some (false, 1) := by rw [cfgP]; kernel_rfl
@[simp] theorem T.sz21 : szOf cfg.P 21 = some 1 := by rw [cfgP]; kernel_rfl
@[simp] theorem T.zero21 : zeroC cfg.P 21 = some [.int .i32 0] := by rw [cfgP]; kernel_rfl
@[simp] theorem T.shp22 : shp cfg.P 22 = some (true, 3) := by rw [cfgP]; kernel_rfl
@[simp] theorem T.sz22 : szOf cfg.P 22 = some 3 := by rw [cfgP]; kernel_rfl
@[simp] theorem T.zero22 : zeroC cfg.P 22 = some [.str [], .int .i64 0, .int .i64 0] := by rw [cfgP]; kernel_rfl
@[simp] theorem T.ix22 : ixOf cfg.P 22 = none := by rw [cfgP]; kernel_rfl
@[simp] theorem T.pl22 : placesOf cfg.P 22 = some [(0, 1), (1, 1), (2, 1)] := by rw [cfgP]; kernel_rfl
@[simp] theorem T.fld22_0 : fieldAt cfg.P 22 0 = some (0, false, 1) := by rw [cfgP]; kernel_rfl
@[simp] theorem T.fld22_1 : fieldAt cfg.P 22 1 = some (1, false, 1) := by rw [cfgP]; kernel_rfl
@[simp] theorem T.fld22_2 : fieldAt cfg.P 22 2 = some (2, false, 1) := by rw [cfgP]; kernel_rfl
@[simp] theorem T.plain22 : plainOk cfg.P 22 = some [.s, .i, .i] := by rw [cfgP]; kernel_rfl
@[simp] theorem T.shp23 : shp cfg.P 23 = some (false, 1) := by rw [cfgP]; kernel_rfl
@[simp] theorem T.sz23 : szOf cfg.P 23 = some 1 := by rw [cfgP]; kernel_rfl
@[simp] theorem T.zero23 : zeroC cfg.P 23 = some [.nils] := by rw [cfgP]; kernel_rfl
@[simp] theorem T.ix23 : ixOf cfg.P 23 = some (.sl 3 32) := by rw [cfgP]; kernel_rfl
@[simp] theorem T.shp24 : shp cfg.P 24 = some (true, 2) := by rw [cfgP]; kernel_rfl
@[simp] theorem T.sz24 : szOf cfg.P 24 = some 2 := by rw [cfgP]; kernel_rfl
@[simp] theorem T.zero24 : zeroC cfg.P 24 = some [.bool false, .int .i64 0] := by rw [cfgP]; kernel_rfl
@[simp] theorem T.ix24 : ixOf cfg.P 24 = none := by rw [cfgP]; kernel_rfl
@[simp] theorem T.pl24 : placesOf cfg.P 24 = some [(0, 1), (1, 1)] := by rw [cfgP]; kernel_rfl
@[simp] theorem T.fld24_0 : fieldAt cfg.P 24 0 = some (0, false, 1) := by rw [cfgP]; kernel_rfl
@[simp] theorem T.fld24_1 : fieldAt cfg.P 24 1 = some (1, false, 1) := by rw [cfgP]; kernel_rfl
@[simp] theorem T.plain24 : plainOk cfg.P 24 = some [.b, .i] := by rw [cfgP]; kernel_rfl
@[simp] theorem T.shp25 : shp cfg.P 25 = some (true, 2) := by rw [cfgP]; kernel_rfl
@[simp] theorem T.sz25 : szOf cfg.P 25 = some 2 := by rw [cfgP]; kernel_rfl
@[simp] theorem T.zero25 : zeroC cfg.P 25 = some [.bool false, .int .i64 0] := by rw [cfgP]; kernel_rfl
@[simp] theorem T.ix25 : ixOf cfg.P 25 = none := by rw [cfgP]; kernel_rfl
@[simp] theorem T.pl25 : placesOf cfg.P 25 = some [(0, 1), (1, 1)] := by rw [cfgP]; kernel_rfl
@[simp] theorem T.fld25_0 : fieldAt cfg.P 25 0 = some (0, false, 1) := by rw [cfgP]; kernel_rfl
@[simp] theorem T.fld25_1 : fieldAt cfg.P 25 1 = some (1, false, 1) := by rw [cfgP]; kernel_rfl
@[simp] theorem T.plain25 : plainOk cfg.P 25 = some [.b, .i] := by rw [cfgP]; kernel_rfl
@[simp] theorem T.shp26 : shp cfg.P 26 = some (true, 9) := by rw [cfgP]; kernel_rfl
@[simp] theorem T.sz26 : szOf cfg.P 26 = some 9 := by rw [cfgP]; kernel_rfl
@[simp] theorem T.zero26 : zeroC cfg.P 26 = some [.int .i64 0, .int .i64 0, .int .i64 0, .bool false, .int .i64 0, .bool false, .int .i64 0, .str [], .int .i64 0] := by rw [cfgP]; kernel_rfl
@[simp] theorem T.ix26 : ixOf cfg.P 26 = none := by rw [cfgP]; kernel_rfl
@[simp] theorem T.pl26 : placesOf cfg.P 26 = some [(0, 1), (1, 1), (2, 1), (3, 2), (5, 2), (7, 1), (8, 1)] := by rw [cfgP]; kernel_rfl
@[simp] theorem T.fld26_0 : fieldAt cfg.P 26 0 = some (0, false, 1) := by rw [cfgP]; kernel_rfl
@[simp] theorem T.fld26_1 : fieldAt cfg.P 26 1 = some (1, false, 1) := by rw [cfgP]; kernel_rfl
@[simp] theorem T.fld26_2 : fieldAt cfg.P 26 2 = some (2, false, 1) := by rw [cfgP]; kernel_rfl
@[simp] theorem T.fld26_3 : fieldAt cfg.P 26 3 = some (3, true, 2) := by rw [cfgP]; kernel_rfl
@[simp] theorem T.fld26_4 : fieldAt cfg.P 26 4 = some (5, true, 2) := by rw [cfgP]; kernel_rfl
@[simp] theorem T.fld26_5 : fieldAt cfg.P 26 5 = some (7, false, 1) := by rw [cfgP]; kernel_rfl
@[simp] theorem T.fld26_6 : fieldAt cfg.P 26 6 = some (8, false, 1) := by rw [cfgP]; kernel_rfl
@[simp] theorem T.plain26 : plainOk cfg.P 26 = some [.i, .i, .i, .b, .i, .b, .i, .s, .i] := by rw [cfgP]; kernel_rfl
@[simp] theorem T.shp27 : shp cfg.P 27 = some (true, 9) := by rw [cfgP]; kernel_rfl
@[simp] theorem T.sz27 : szOf cfg.P 27 = some 9 := by rw [cfgP]; kernel_rfl
@[simp] theorem T.zero27 : zeroC cfg.P 27 = some [.int .i64 0, .int .i64 0, .int .i64 0, .bool false, .int .i64 0, .bool false, .int .i64 0, .str [], .int .i64 0] := by rw [cfgP]; kernel_rfl
@[simp] theorem T.ix27 : ixOf cfg.P 27 = none := by rw [cfgP]; kernel_rfl
@[simp] theorem T.pl27 : placesOf cfg.P 27 = some [(0, 1), (1, 1), (2, 1), (3, 2), (5, 2), (7, 1), (8, 1)] := by rw [cfgP]; kernel_rfl
@[simp] theorem T.fld27_0 : fieldAt cfg.P 27 0 = some (0, false, 1) := by rw [cfgP]; kernel_rfl
@[simp] theorem T.fld27_1 : fieldAt cfg.P 27 1 = some (1, false, 1) := by rw [cfgP]; kernel_rfl
@[simp] theorem T.fld27_2 : fieldAt cfg.P 27 2 = some (2, false, 1) := by rw [cfgP]; kernel_rfl
@[simp] theorem T.fld27_3 : fieldAt cfg.P 27 3 = some (3, true, 2) := by rw [cfgP]; kernel_rfl
@[simp] theorem T.fld27_4 : fieldAt cfg.P 27 4 = some (5, true, 2) := by rw [cfgP]; kernel_rfl
@[simp] theorem T.fld27_5 : fieldAt cfg.P 27 5 = some (7, false, 1) := by rw [cfgP]; kernel_rfl
@[simp] theorem T.fld27_6 : fieldAt cfg.P 27 6 = some (8, false, 1) := by rw [cfgP]; kernel_rfl
@[simp] theorem T.plain27 : plainOk cfg.P 27 = some [.i, .i, .i, .b, .i, .b, .i, .s, .i] := by rw [cfgP]; kernel_rfl
@[simp] theorem T.shp28 : shp cfg.P 28 = some (true, 13) := by rw [cfgP]; kernel_rfl
@[simp] theorem T.sz28 : szOf cfg.P 28 = some 13 := by rw [cfgP]; kernel_rfl
@[simp] theorem T.zero28 : zeroC cfg.P 28 = some [.int .i64 0, .int .i64 0, .bool false, .str [], .int .i64 0, .int .i64 0, .int .i64 0, .bool false, .int .i64 0, .bool false, .int .i64 0, .str [], .int .i64 0] := by rw [cfgP]; kernel_rfl
@[simp] theorem T.ix28 : ixOf cfg.P 28 = none := by rw [cfgP]; kernel_rfl
@[simp] theorem T.pl28 : placesOf cfg.P 28 = some [(0, 1), (1, 1), (2, 1), (3, 1), (4, 9)] := by rw [cfgP]; kernel_rfl
@[simp] theorem T.fld28_0 : fieldAt cfg.P 28 0 = some (0, false, 1) := by rw [cfgP]; kernel_rfl
@[simp] theorem T.fld28_1 : fieldAt cfg.P 28 1 = some (1, false, 1) := by rw [cfgP]; kernel_rfl
@[simp] theorem T.fld28_2 : fieldAt cfg.P 28 2 = some (2, false, 1) := by rw [cfgP]; kernel_rfl
@[simp] theorem T.fld28_3 : fieldAt cfg.P 28 3 = some (3, false, 1) := by rw [cfgP]; kernel_rfl
@[simp] theorem T.fld28_4 : fieldAt cfg.P 28 4 = some (4, true, 9) := by rw [cfgP]; kernel_rfl
@[simp] theorem T.plain28 : plainOk cfg.P 28 = some [.i, .i, .b, .s, .i, .i, .i, .b, .i, .b, .i, .s, .i] := by rw [cfgP]; kernel_rfl
@[simp] theorem T.shp29 : shp cfg.P 29 = some (true, 13) := by rw [cfgP]; kernel_rfl
@[simp] theorem T.sz29 : szOf cfg.P 29 = some 13 := by rw [cfgP]; kernel_rfl
@[simp] theorem T.zero29 : zeroC cfg.P 29 = some [.int .i64 0, .int .i64 0, .bool false, .str [], .int .i64 0, .int .i64 0, .int .i64 0, .bool false, .int .i64 0, .bool false, .int .i64 0, .str [], .int .i64 0] := by rw [cfgP]; kernel_rfl
@[simp] theorem T.ix29 : ixOf cfg.P 29 = none := by rw [cfgP]; kernel_rfl
@[simp] theorem T.pl29 : placesOf cfg.P 29 = some [(0, 1), (1, 1), (2, 1), (3, 1), (4, 9)] := by rw [cfgP]; kernel_rfl
@[simp] theorem T.fld29_0 : fieldAt cfg.P 29 0 = some (0, false, 1) := by rw [cfgP]; kernel_rfl
@[simp] theorem T.fld29_1 : fieldAt cfg.P 29 1 = some (1, false, 1) := by rw [cfgP]; kernel_rfl
@[simp] theorem T.fld29_2 : fieldAt cfg.P 29 2 = some (2, false, 1) := by rw [cfgP]; kernel_rfl
@[simp] theorem T.fld29_3 : fieldAt cfg.P 29 3 = some (3, false, 1) := by rw [cfgP]; kernel_rfl
@[simp] theorem T.fld29_4 : fieldAt cfg.P 29 4 = some (4, true, 9) := by rw [cfgP]; kernel_rfl
@[simp] theorem T.plain29 : plainOk cfg.P 29 = some [.i, .i, .b, .s, .i, .i, .i, .b, .i, .b, .i, .s, .i] := by rw [cfgP]; kernel_rfl
@[simp] theorem T.shp31 : shp cfg.P 31 = some (false, 1) := by rw [cfgP]; kernel_rfl
@[simp] theorem T.sz31 : szOf cfg.P 31 = some 1 := by rw [cfgP]; kernel_rfl
@[simp] theorem T.shp32 : shp cfg.P 32 = some (false, 1) := by rw [cfgP]; kernel_rfl
@[simp] theorem T.sz32 : szOf cfg.P 32 = some 1 := by rw [cfgP]; kernel_rfl
@[simp] theorem T.shp33 : shp cfg.P 33 = some (false, 1) := by rw [cfgP]; kernel_rfl
@[simp] theorem T.sz33 : szOf cfg.P 33 = some 1 := by rw [cfgP]; kernel_rfl
@[simp] theorem T.shp34 : shp cfg.P 34 = some (false, 1) := by rw [cfgP]; kernel_rfl
@[simp] theorem T.sz34 : szOf cfg.P 34 = some 1 := by rw [cfgP]; kernel_rfl
@[simp] theorem T.zero34 : zeroC cfg.P 34 = some [.nils] := by rw [cfgP]; kernel_rfl
@[simp] theorem T.ix34 : ixOf cfg.P 34 = some (.sl 1 16) := by rw [cfgP]; kernel_rfl
@[simp] theorem T.shp35 : shp cfg.P 35 = some (false, 1) := by rw [cfgP]; kernel_rfl
@[simp] theorem T.sz35 : szOf cfg.P 35 = some 1 := by rw [cfgP]; kernel_rfl
@[simp] theorem T.zero35 : zeroC cfg.P 35 = some [.nils] := by rw [cfgP]; kernel_rfl
@[simp] theorem T.ix35 : ixOf cfg.P 35 = some (.sl 1 8) := by rw [cfgP]; kernel_rfl
@[simp] theorem T.shp36 : shp cfg.P 36 = some (false, 1) := by rw [cfgP]; kernel_rfl
@[simp] theorem T.sz36 : szOf cfg.P 36 = some 1 := by rw [cfgP]; kernel_rfl
@[simp] theorem T.shp39 : shp cfg.P 39 = some (false, 1) := by rw [cfgP]; kernel_rfl
@[simp] theorem T.sz39 : szOf cfg.P 39 = some 1 := by rw [cfgP]; kernel_rfl
@[simp] theorem T.shp40 : shp cfg.P 40 = some (false, 1) := by rw [cfgP]; kernel_rfl
@[simp] theorem T.sz40 : szOf cfg.P 40 = some 1 := by rw [cfgP]; kernel_rfl
@[simp] theorem T.shp41 : shp cfg.P 41 = some (false, 1) := by rw [cfgP]; kernel_rfl
@[simp] theorem T.sz41 : szOf cfg.P 41 = some 1 := by rw [cfgP]; kernel_rfl
@[simp] theorem T.shp42 : shp cfg.P 42 = some (true, 14) := by rw [cfgP]; kernel_rfl
@[simp] theorem T.sz42 : szOf cfg.P 42 = some 14 := by rw [cfgP]; kernel_rfl
@[simp] theorem T.zero42 : zeroC cfg.P 42 = some [.int .i64 0, .int .i64 0, .bool false, .str [], .int .i64 0, .int .i64 0, .int .i64 0, .bool false, .int .i64 0, .bool false, .int .i64 0, .str [], .int .i64 0, .bool false] := by rw [cfgP]; kernel_rfl
@[simp] theorem T.ix42 : ixOf cfg.P 42 = none := by rw [cfgP]; kernel_rfl
@[simp] theorem T.pl42 : placesOf cfg.P 42 = some [(0, 13), (13, 1)] := by rw [cfgP]; kernel_rfl
@[simp] theorem T.fld42_0 : fieldAt cfg.P 42 0 = some (0, true, 13) := by rw [cfgP]; kernel_rfl
@[simp] theorem T.fld42_1 : fieldAt cfg.P 42 1 = some (13, false, 1) := by rw [cfgP]; kernel_rfl
@[simp] theorem T.plain42 : plainOk cfg.P 42 = some [.i, .i, .b, .s, .i, .i, .i, .b, .i, .b, .i, .s, .i, .b] := by rw [cfgP]; kernel_rfl
@[simp] theorem T.shp43 : shp cfg.P 43 = some (false, 1) := by rw [cfgP]; kernel_rfl
@[simp] theorem T.sz43 : szOf cfg.P 43 = some 1 := by rw [cfgP]; kernel_rfl
@[simp] theorem T.zero43 : zeroC cfg.P 43 = some [.nils] := by rw [cfgP]; kernel_rfl
@[simp] theorem T.ix43 : ixOf cfg.P 43 = some (.sl 14 128) := by rw [cfgP]; kernel_rfl
@[simp] theorem T.shp44 : shp cfg.P 44 = some (false, 1) := by rw [cfgP]; kernel_rfl
@[simp] theorem T.sz44 : szOf cfg.P 44 = some 1 := by rw [cfgP]; kernel_rfl
@[simp] theorem T.zero44 : zeroC cfg.P 44 = some [.nils] := by rw [cfgP]; kernel_rfl
@[simp] theorem T.ix44 : ixOf cfg.P 44 = some (.sl 1 1) := by rw [cfgP]; kernel_rfl
@[simp] theorem T.shp45 : shp cfg.P 45 = some (false, 1) := by rw [cfgP]; kernel_rfl
@[simp] theorem T.sz45 : szOf cfg.P 45 = some 1 := by rw [cfgP]; kernel_rfl
@[simp] theorem T.shp46 : shp cfg.P 46 = some (false, 1) := by rw [cfgP]; kernel_rfl
@[simp] theorem T.sz46 : szOf cfg.P 46 = some 1 := by rw [cfgP]; kernel_rfl
@[simp] theorem T.zero46 : zeroC cfg.P 46 = some [.nils] := by rw [cfgP]; kernel_rfl
@[simp] theorem T.ix46 : ixOf cfg.P 46 = some (.sl 13 120) := by rw [cfgP]; kernel_rfl
@[simp] theorem T.shp47 : shp cfg.P 47 = some (false, 1) := by rw [cfgP]; kernel_rfl
@[simp] theorem T.sz47 : szOf cfg.P 47 = some 1 := by rw [cfgP]; kernel_rfl
@[simp] theorem T.shp48 : shp cfg.P 48 = some (false, 1) := by rw [cfgP]; kernel_rfl
@[simp] theorem T.sz48 : szOf cfg.P 48 = some 1 := by rw [cfgP]; kernel_rfl
@[simp] theorem T.shp49 : shp cfg.P 49 = some (false, 1) := by rw [cfgP]; kernel_rfl
@[simp] theorem T.sz49 : szOf cfg.P 49 = some 1 := by rw [cfgP]; kernel_rfl
@[simp] theorem T.zero49 : zeroC cfg.P 49 = some [.nils] := by rw [cfgP]; kernel_rfl
@[simp] theorem T.ix49 : ixOf cfg.P 49 = some (.sl 4 40) := by rw [cfgP]; kernel_rfl
@[simp] theorem T.shp51 : shp cfg.P 51 = some (false, 1) := by rw [cfgP]; kernel_rfl
@[simp] theorem T.sz51 : szOf cfg.P 51 = some 1 := by rw [cfgP]; kernel_rfl
@[simp] theorem T.shp52 : shp cfg.P 52 = some (false, 1) := by rw [cfgP]; kernel_rfl
@[simp] theorem T.sz52 : szOf cfg.P 52 = some 1 := by rw [cfgP]; kernel_rfl
@[simp] theorem T.zero52 : zeroC cfg.P 52 = some [.nilp] := by rw [cfgP]; kernel_rfl
@[simp] theorem T.shp53 : shp cfg.P 53 = some (true, 2) := by rw [cfgP]; kernel_rfl
@[simp] theorem T.sz53 : szOf cfg.P 53 = some 2 := by rw [cfgP]; kernel_rfl
@[simp] theorem T.zero53 : zeroC cfg.P 53 = some [.nils, .bool false] := by rw [cfgP]; kernel_rfl
@[simp] theorem T.ix53 : ixOf cfg.P 53 = none := by rw [cfgP]; kernel_rfl
@[simp] theorem T.pl53 : placesOf cfg.P 53 = some [(0, 1), (1, 1)] := by rw [cfgP]; kernel_rfl
@[simp] theorem T.fld53_0 : fieldAt cfg.P 53 0 = some (0, false, 1) := by rw [cfgP]; kernel_rfl
@[simp] theorem T.fld53_1 : fieldAt cfg.P 53 1 = some (1, false, 1) := by rw [cfgP]; kernel_rfl
@[simp] theorem T.shp54 : shp cfg.P 54 = some (true, 2) := by rw [cfgP]; kernel_rfl
@[simp] theorem T.sz54 : szOf cfg.P 54 = some 2 := by rw [cfgP]; kernel_rfl
@[simp] theorem T.zero54 : zeroC cfg.P 54 = some [.nils, .bool false] := by rw [cfgP]; kernel_rfl
@[simp] theorem T.ix54 : ixOf cfg.P 54 = none := by rw [cfgP]; kernel_rfl
@[simp] theorem T.pl54 : placesOf cfg.P 54 = some [(0, 1), (1, 1)] := by rw [cfgP]; kernel_rfl
@[simp] theorem T.fld54_0 : fieldAt cfg.P 54 0 = some (0, false, 1) := by rw [cfgP]; kernel_rfl
@[simp] theorem T.fld54_1 : fieldAt cfg.P 54 1 = some (1, false, 1) := by rw [cfgP]; kernel_rfl
@[simp] theorem T.shp55 : shp cfg.P 55 = some (false, 1) := by rw [cfgP]; kernel_rfl
@[simp] theorem T.sz55 : szOf cfg.P 55 = some 1 := by rw [cfgP]; kernel_rfl
@[simp] theorem T.shp56 : shp cfg.P 56 = some (true, 4) := by rw [cfgP]; kernel_rfl
@[simp] theorem T.sz56 : szOf cfg.P 56 = some 4 := by rw [cfgP]; kernel_rfl
@[simp] theorem T.zero56 : zeroC cfg.P 56 = some [.int .i64 0, .str [], .int .i64 0, .int .i64 0] := by rw [cfgP]; kernel_rfl
@[simp] theorem T.ix56 : ixOf cfg.P 56 = none := by rw [cfgP]; kernel_rfl
@[simp] theorem T.pl56 : placesOf cfg.P 56 = some [(0, 1), (1, 1), (2, 1), (3, 1)] := by rw [cfgP]; kernel_rfl
@[simp] theorem T.fld56_0 : fieldAt cfg.P 56 0 = some (0, false, 1) := by rw [cfgP]; kernel_rfl
@[simp] theorem T.fld56_1 : fieldAt cfg.P 56 1 = some (1, false, 1) := by rw [cfgP]; kernel_rfl
@[simp] theorem T.fld56_2 : fieldAt cfg.P 56 2 = some (2, false, 1) := by rw [cfgP]; kernel_rfl
@[simp] theorem T.fld56_3 : fieldAt cfg.P 56 3 = some (3, false, 1) := by rw [cfgP]; kernel_rfl
@[simp] theorem T.plain56 : plainOk cfg.P 56 = some [.i, .s, .i, .i] := by rw [cfgP]; kernel_rfl
@[simp] theorem T.shp57 : shp cfg.P 57 = some (true, 4) := by rw [cfgP]; kernel_rfl
@[simp] theorem T.sz57 : szOf cfg.P 57 = some 4 := by rw [cfgP]; kernel_rfl
@[simp] theorem T.zero57 : zeroC cfg.P 57 = some [.int .i64 0, .str [], .int .i64 0, .int .i64 0] := by rw [cfgP]; kernel_rfl
@[simp] theorem T.ix57 : ixOf cfg.P 57 = none := by rw [cfgP]; kernel_rfl
@[simp] theorem T.pl57 : placesOf cfg.P 57 = some [(0, 1), (1, 1), (2, 1), (3, 1)] := by rw [cfgP]; kernel_rfl
@[simp] theorem T.fld57_0 : fieldAt cfg.P 57 0 = some (0, false, 1) := by rw [cfgP]; kernel_rfl
@[simp] theorem T.fld57_1 : fieldAt cfg.P 57 1 = some (1, false, 1) := by rw [cfgP]; kernel_rfl
@[simp] theorem T.fld57_2 : fieldAt cfg.P 57 2 = some (2, false, 1) := by rw [cfgP]; kernel_rfl
@[simp] theorem T.fld57_3 : fieldAt cfg.P 57 3 = some (3, false, 1) := by rw [cfgP]; kernel_rfl
@[simp] theorem T.plain57 : plainOk cfg.P 57 = some [.i, .s, .i, .i] := by rw [cfgP]; kernel_rfl
@[simp] theorem T.shp58 : shp cfg.P 58 = some (false, 1) := by rw [cfgP]; kernel_rfl
@[simp] theorem T.sz58 : szOf cfg.P 58 = some 1 := by rw [cfgP]; kernel_rfl
@[simp] theorem T.zero58 : zeroC cfg.P 58 = some [.nils] := by rw [cfgP]; kernel_rfl
@[simp] theorem T.ix58 : ixOf cfg.P 58 = some (.sl 1 4) := by rw [cfgP]; kernel_rfl
@[simp] theorem T.shp59 : shp cfg.P 59 = some (false, 1) := by rw [cfgP]; kernel_rfl
@[simp] theorem T.sz59 : szOf cfg.P 59 = some 1 := by rw [cfgP]; kernel_rfl
@[simp] theorem T.shp60 : shp cfg.P 60 = some (false, 1) := by rw [cfgP]; kernel_rfl
@[simp] theorem T.sz60 : szOf cfg.P 60 = some 1 := by rw [cfgP]; kernel_rfl
@[simp] theorem T.shp61 : shp cfg.P 61 = some (false, 1) := by rw [cfgP]; kernel_rfl
@[simp] theorem T.sz61 : szOf cfg.P 61 = some 1 := by rw [cfgP]; kernel_rfl
@[simp] theorem T.zero61 : zeroC cfg.P 61 = some [.int .u64 0] := by rw [cfgP]; kernel_rfl
@[simp] theorem T.shp62 : shp cfg.P 62 = some (false, 1) := by rw [cfgP]; kernel_rfl
@[simp] theorem T.sz62 : szOf cfg.P 62 = some 1 := by rw [cfgP]; kernel_rfl
@[simp] theorem T.shp63 : shp cfg.P 63 = some (false, 1) := by rw [cfgP]; kernel_rfl
@[simp] theorem T.sz63 : szOf cfg.P 63 = some 1 := by rw [cfgP]; kernel_rfl
@[simp] theorem T.shp64 : shp cfg.P 64 = some (false, 1) := by rw [cfgP]; kernel_rfl
@[simp] theorem T.sz64 : szOf cfg.P 64 = some 1 := by rw [cfgP]; kernel_rfl
@[simp] theorem T.zero64 : zeroC cfg.P 64 = some [.nilp] := by rw [cfgP]; kernel_rfl
@[simp] theorem T.shp65 : shp cfg.P 65 = some (true, 4) := by rw [cfgP]; kernel_rfl
@[simp] theorem T.sz65 : szOf cfg.P 65 = some 4 := by rw [cfgP]; kernel_rfl
@[simp] theorem T.zero65 : zeroC cfg.P 65 = some [.nils, .int .i64 0, .int .i64 0, .int .i64 0] := by rw [cfgP]; kernel_rfl
@[simp] theorem T.ix65 : ixOf cfg.P 65 = none := by rw [cfgP]; kernel_rfl
@[simp] theorem T.pl65 : placesOf cfg.P 65 = some [(0, 1), (1, 1), (2, 1), (3, 1)] := by rw [cfgP]; kernel_rfl
@[simp] theorem T.fld65_0 : fieldAt cfg.P 65 0 = some (0, false, 1) := by rw [cfgP]; kernel_rfl
@[simp] theorem T.fld65_1 : fieldAt cfg.P 65 1 = some (1, false, 1) := by rw [cfgP]; kernel_rfl
@[simp] theorem T.fld65_2 : fieldAt cfg.P 65 2 = some (2, false, 1) := by rw [cfgP]; kernel_rfl
@[simp] theorem T.fld65_3 : fieldAt cfg.P 65 3 = some (3, false, 1) := by rw [cfgP]; kernel_rfl
@[simp] theorem T.shp66 : shp cfg.P 66 = some (true, 4) := by rw [cfgP]; kernel_rfl
@[simp] theorem T.sz66 : szOf cfg.P 66 = some 4 := by rw [cfgP]; kernel_rfl
@[simp] theorem T.zero66 : zeroC cfg.P 66 = some [.nils, .int .i64 0, .int .i64 0, .int .i64 0] := by rw [cfgP]; kernel_rfl
@[simp] theorem T.ix66 : ixOf cfg.P 66 = none := by rw [cfgP]; kernel_rfl
@[simp] theorem T.pl66 : placesOf cfg.P 66 = some [(0, 1), (1, 1), (2, 1), (3, 1)] := by rw [cfgP]; kernel_rfl
@[simp] theorem T.fld66_0 : fieldAt cfg.P 66 0 = some (0, false, 1) := by rw [cfgP]; kernel_rfl
@[simp] theorem T.fld66_1 : fieldAt cfg.P 66 1 = some (1, false, 1) := by rw [cfgP]; kernel_rfl
@[simp] theorem T.fld66_2 : fieldAt cfg.P 66 2 = some (2, false, 1) := by rw [cfgP]; kernel_rfl
@[simp] theorem T.fld66_3 : fieldAt cfg.P 66 3 = some (3, false, 1) := by rw [cfgP]; kernel_rfl
@[simp] theorem T.shp67 : shp cfg.P 67 = some (false, 1) := by rw [cfgP]; kernel_rfl
@[simp] theorem T.sz67 : szOf cfg.P 67 = some 1 := by rw [cfgP]; kernel_rfl
@[simp] theorem T.shp69 : shp cfg.P 69 = some (false, 1) := by rw [cfgP]; kernel_rfl
@[simp] theorem T.sz69 : szOf cfg.P 69 = some 1 := by rw [cfgP]; kernel_rfl
@[simp] theorem T.shp70 : shp cfg.P 70 = some (false, 1) := by rw [cfgP]; kernel_rfl
@[simp] theorem T.sz70 : szOf cfg.P 70 = some 1 := by rw [cfgP]; kernel_rfl
@[simp] theorem T.shp71 : shp cfg.P 71 = some (false, 1) := by rw [cfgP]; kernel_rfl
@[simp] theorem T.sz71 : szOf cfg.P 71 = some 1 := by rw [cfgP]; kernel_rfl
@[simp] theorem T.shp72 : shp cfg.P 72 = some (false, 1) := by rw [cfgP]; kernel_rfl
@[simp] theorem T.sz72 : szOf cfg.P 72 = some 1 := by rw [cfgP]; kernel_rfl
@[simp] theorem T.shp73 : shp cfg.P 73 = some (false, 1) := by rw [cfgP]; kernel_rfl
@[simp] theorem T.sz73 : szOf cfg.P 73 = some 1 := by rw [cfgP]; kernel_rfl
@[simp] theorem T.shp74 : shp cfg.P 74 = some (false, 1) := by rw [cfgP]; kernel_rfl
@[simp] theorem T.sz74 : szOf cfg.P 74 = some 1 := by rw [cfgP]; kernel_rfl
@[simp] theorem T.shp76 : shp cfg.P 76 = some (false, 1) := by rw [cfgP]; kernel_rfl
@[simp] theorem T.sz76 : szOf cfg.P 76 = some 1 := by rw [cfgP]; kernel_rfl
@[simp] theorem T.shp77 : shp cfg.P 77 = some (false, 1) := by rw [cfgP]; kernel_rfl
@[simp] theorem T.sz77 : szOf cfg.P 77 = some 1 := by rw [cfgP]; kernel_rfl
@[simp] theorem T.shp78 : shp cfg.P 78 = some (false, 1) := by rw [cfgP]; kernel_rfl
@[simp] theorem T.sz78 : szOf cfg.P 78 = some 1 := by rw [cfgP]; kernel_rfl
@[simp] theorem T.shp80 : shp cfg.P 80 = some (false, 1) := by rw [cfgP]; kernel_rfl
@[simp] theorem T.sz80 : szOf cfg.P 80 = some 1 := by rw [cfgP]; kernel_rfl
@[simp] theorem T.shp81 : shp cfg.P 81 = some (false, 1) := by rw [cfgP]; kernel_rfl
@[simp] theorem T.sz81 : szOf cfg.P 81 = some 1 := by rw [cfgP]; kernel_rfl
@[simp] theorem T.shp82 : shp cfg.P 82 = some (false, 1) := by rw [cfgP]; kernel_rfl
@[simp] theorem T.sz82 : szOf cfg.P 82 = some 1 := by rw [cfgP]; kernel_rfl
@[simp] theorem T.shp84 : shp cfg.P 84 = some (false, 1) := by rw [cfgP]; kernel_rfl
@[simp] theorem T.sz84 : szOf cfg.P 84 = some 1 := by rw [cfgP]; kernel_rfl
@[simp] theorem T.shp85 : shp cfg.P 85 = some (false, 1) := by rw [cfgP]; kernel_rfl
@[simp] theorem T.sz85 : szOf cfg.P 85 = some 1 := by rw [cfgP]; kernel_rfl
@[simp] theorem T.shp86 : shp cfg.P 86 = some (false, 1) := by rw [cfgP]; kernel_rfl
@[simp] theorem T.sz86 : szOf cfg.P 86 = some 1 := by rw [cfgP]; kernel_rfl
@[simp] theorem T.shp87 : shp cfg.P 87 = some (false, 1) := by rw [cfgP]; kernel_rfl
@[simp] theorem T.sz87 : szOf cfg.P 87 = some 1 := by rw [cfgP]; kernel_rfl
@[simp] theorem T.shp88 : shp cfg.P 88 = some (false, 1) := by rw [cfgP]; kernel_rfl
@[simp] theorem T.sz88 : szOf cfg.P 88 = some 1 := by rw [cfgP]; kernel_rfl
@[simp] theorem T.shp89 : shp cfg.P 89 = some (false, 1) := by rw [cfgP]; kernel_rfl
@[simp] theorem T.sz89 : szOf cfg.P 89 = some 1 := by rw [cfgP]; kernel_rfl
@[simp] theorem T.shp90 : shp cfg.P 90 = some (false, 1) := by rw [cfgP]; kernel_rfl
@[simp] theorem T.sz90 : szOf cfg.P 90 = some 1 := by rw [cfgP]; kernel_rfl
@[simp] theorem T.shp91 : shp cfg.P 91 = some (false, 1) := by rw [cfgP]; kernel_rfl
@[simp] theorem T.sz91 : szOf cfg.P 91 = some 1 := by rw [cfgP]; kernel_rfl
@[simp] theorem T.shp92 : shp cfg.P 92 = some (false, 1) := by rw [cfgP]; kernel_rfl
@[simp] theorem T.sz92 : szOf cfg.P 92 = some 1 := by rw [cfgP]; kernel_rfl
@[simp] theorem T.shp93 : shp cfg.P 93 = some (false, 1) := by rw [cfgP]; kernel_rfl
@[simp] theorem T.sz93 : szOf cfg.P 93 = some 1 := by rw [cfgP]; kernel_rfl
@[simp] theorem T.shp94 : shp cfg.P 94 = some (false, 1) := by rw [cfgP]; kernel_rfl
@[simp] theorem T.sz94 : szOf cfg.P 94 = some 1 := by rw [cfgP]; kernel_rfl
@[simp] theorem T.shp95 : shp cfg.P 95 = some (false, 1) := by rw [cfgP]; kernel_rfl
@[simp] theorem T.sz95 : szOf cfg.P 95 = some 1 := by rw [cfgP]; kernel_rfl
@[simp] theorem T.shp96 : shp cfg.P 96 = some (false, 1) := by rw [cfgP]; kernel_rfl
@[simp] theorem T.sz96 : szOf cfg.P 96 = some 1 := by rw [cfgP]; kernel_rfl
@[simp] theorem T.shp97 : shp cfg.P 97 = some (false, 1) := by rw [cfgP]; kernel_rfl
@[simp] theorem T.sz97 : szOf cfg.P 97 = some 1 := by rw [cfgP]; kernel_rfl
@[simp] theorem T.shp98 : shp cfg.P 98 = some (false, 1) := by rw [cfgP]; kernel_rfl
@[simp] theorem T.sz98 : szOf cfg.P 98 = some 1 := by rw [cfgP]; kernel_rfl
@[simp] theorem T.zero98 : zeroC cfg.P 98 = some [.nilp] := by rw [cfgP]; kernel_rfl
@[simp] theorem T.shp99 : shp cfg.P 99 = some (false, 1) := by rw [cfgP]; kernel_rfl
@[simp] theorem T.sz99 : szOf cfg.P 99 = some 1 := by rw [cfgP]; kernel_rfl
@[simp] theorem T.shp100 : shp cfg.P 100 = some (false, 1) := by rw [cfgP]; kernel_rfl
@[simp] theorem T.sz100 : szOf cfg.P 100 = some 1 := by rw [cfgP]; kernel_rfl
@[simp] theorem T.shp101 : shp cfg.P 101 = some (false, 1) := by rw [cfgP]; kernel_rfl
@[simp] theorem T.sz101 : szOf cfg.P 101 = some 1 := by rw [cfgP]; kernel_rfl
@[simp] theorem T.shp103 : shp cfg.P 103 = some (false, 1) := by rw [cfgP]; kernel_rfl
@[simp] theorem T.sz103 : szOf cfg.P 103 = some 1 := by rw [cfgP]; kernel_rfl
@[simp] theorem T.shp104 : shp cfg.P 104 = some (false, 1) := by rw [cfgP]; kernel_rfl
@[simp] theorem T.sz104 : szOf cfg.P 104 = some 1 := by rw [cfgP]; kernel_rfl
@[simp] theorem T.shp105 : shp cfg.P 105 = some (true, 24) := by rw [cfgP]; kernel_rfl
@[simp] theorem T.sz105 : szOf cfg.P 105 = some 24 := by rw [cfgP]; kernel_rfl
@[simp] theorem T.zero105 : zeroC cfg.P 105 = some [.int .u8 0, .int .u8 0, .int .u8 0, .int .u8 0, .int .u8 0, .int .u8 0, .int .u8 0, .int .u8 0, .int .u8 0, .int .u8 0, .int .u8 0, .int .u8 0, .int .u8 0, .int .u8 0, .int .u8 0, .int .u8 0, .int .u8 0, .int .u8 0, .int .u8 0, .int .u8 0, .int .u8 0, .int .u8 0, .int .u8 0, .int .u8 0] := by rw [cfgP]; kernel_rfl
@[simp] theorem T.ix105 : ixOf cfg.P 105 = some (.arr 24 1) := by rw [cfgP]; kernel_rfl
@[simp] theorem T.esh105 : elemShp cfg.P 105 = some (false, 1) := by rw [cfgP]; kernel_rfl
@[simp] theorem T.plain105 : plainOk cfg.P 105 = some [.i, .i, .i, .i, .i, .i, .i, .i, .i, .i, .i, .i, .i, .i, .i, .i, .i, .i, .i, .i, .i, .i, .i, .i] := by rw [cfgP]; kernel_rfl
@[simp] theorem T.shp106 : shp cfg.P 106 = some (false, 1) := by rw [cfgP]; kernel_rfl
@[simp] theorem T.sz106 : szOf cfg.P 106 = some 1 := by rw [cfgP]; kernel_rfl
@[simp] theorem T.zero106 : zeroC cfg.P 106 = some [.int .u64 0] := by rw [cfgP]; kernel_rfl
@[simp] theorem T.shp107 : shp cfg.P 107 = some (false, 1) := by rw [cfgP]; kernel_rfl
@[simp] theorem T.sz107 : szOf cfg.P 107 = some 1 := by rw [cfgP]; kernel_rfl
@[simp] theorem T.shp108 : shp cfg.P 108 = some (false, 1) := by rw [cfgP]; kernel_rfl
@[simp] theorem T.sz108 : szOf cfg.P 108 = some 1 := by rw [cfgP]; kernel_rfl
@[simp] theorem T.shp110 : shp cfg.P 110 = some (false, 1) := by rw [cfgP]; kernel_rfl
@[simp] theorem T.sz110 : szOf cfg.P 110 = some 1 := by rw [cfgP]; kernel_rfl
@[simp] theorem T.shp111 : shp cfg.P 111 = some (false, 1) := by rw [cfgP]; kernel_rfl
@[simp] theorem T.sz111 : szOf cfg.P 111 = some 1 := by rw [cfgP]; kernel_rfl
@[simp] theorem T.shp112 : shp cfg.P 112 = some (false, 1) := by rw [cfgP]; kernel_rfl
@[simp] theorem T.sz112 : szOf cfg.P 112 = some 1 := by rw [cfgP]; kernel_rfl
@[simp] theorem T.shp113 : shp cfg.P 113 = some (true, 20) := by rw [cfgP]; kernel_rfl
@[simp] theorem T.sz113 : szOf cfg.P 113 = some 20 := by rw [cfgP]; kernel_rfl
@[simp] theorem T.zero113 : zeroC cfg.P 113 = some [.int .u64 0, .int .u64 0, .int .u64 0, .int .u64 0, .int .u64 0, .int .u64 0, .int .u64 0, .int .u64 0, .int .u64 0, .int .u64 0, .int .u64 0, .int .u64 0, .int .u64 0, .int .u64 0, .int .u64 0, .int .u64 0, .int .u64 0, .int .u64 0, .int .u64 0, .int .u64 0] := by rw [cfgP]; kernel_rfl
@[simp] theorem T.ix113 : ixOf cfg.P 113 = some (.arr 20 1) := by rw [cfgP]; kernel_rfl
@[simp] theorem T.esh113 : elemShp cfg.P 113 = some (false, 1) := by rw [cfgP]; kernel_rfl
@[simp] theorem T.plain113 : plainOk cfg.P 113 = some [.i, .i, .i, .i, .i, .i, .i, .i, .i, .i, .i, .i, .i, .i, .i, .i, .i, .i, .i, .i] := by rw [cfgP]; kernel_rfl
@[simp] theorem T.shp114 : shp cfg.P 114 = some (false, 1) := by rw [cfgP]; kernel_rfl
@[simp] theorem T.sz114 : szOf cfg.P 114 = some 1 := by rw [cfgP]; kernel_rfl
@[simp] theorem T.zero114 : zeroC cfg.P 114 = some [.int .u32 0] := by rw [cfgP]; kernel_rfl
@[simp] theorem T.shp115 : shp cfg.P 115 = some (true, 65) := by rw [cfgP]; kernel_rfl
@[simp] theorem T.sz115 : szOf cfg.P 115 = some 65 := by rw [cfgP]; kernel_rfl
@[simp] theorem T.zero115 : zeroC cfg.P 115 = some [.int .u8 0, .int .u8 0, .int .u8 0, .int .u8 0, .int .u8 0, .int .u8 0, .int .u8 0, .int .u8 0, .int .u8 0, .int .u8 0, .int .u8 0, .int .u8 0, .int .u8 0, .int .u8 0, .int .u8 0, .int .u8 0, .int .u8 0, .int .u8 0, .int .u8 0, .int .u8 0, .int .u8 0, .int .u8 0, .int .u8 0, .int .u8 0, .int .u8 0, .int .u8 0, .int .u8 0, .int .u8 0, .int .u8 0, .int .u8 0, .int .u8 0, .int .u8 0, .int .u8 0, .int .u8 0, .int .u8 0, .int .u8 0, .int .u8 0, .int .u8 0, .int .u8 0, .int .u8 0, .int .u8 0, .int .u8 0, .int .u8 0, .int .u8 0, .int .u8 0, .int .u8 0, .int .u8 0, .int .u8 0, .int .u8 0, .int .u8 0, .int .u8 0, .int .u8 0, .int .u8 0, .int .u8 0, .int .u8 0, .int .u8 0, .int .u8 0, .int .u8 0, .int .u8 0, .int .u8 0, .int .u8 0, .int .u8 0, .int .u8 0, .int .u8 0, .int .u8 0] := by rw [cfgP]; kernel_rfl
@[simp] theorem T.ix115 : ixOf cfg.P 115 = some (.arr 65 1) := by rw [cfgP]; kernel_rfl
@[simp] theorem T.esh115 : elemShp cfg.P 115 = some (false, 1) := by rw [cfgP]; kernel_rfl
@[simp] theorem T.plain115 : plainOk cfg.P 115 = some [.i, .i, .i, .i, .i, .i, .i, .i, .i, .i, .i, .i, .i, .i, .i, .i, .i, .i, .i, .i, .i, .i, .i, .i, .i, .i, .i, .i, .i, .i, .i, .i, .i, .i, .i, .i, .i, .i, .i, .i, .i, .i, .i, .i, .i, .i, .i, .i, .i, .i, .i, .i, .i, .i, .i, .i, .i, .i, .i, .i, .i, .i, .i, .i, .i] := by rw [cfgP]; kernel_rfl
@[simp] theorem T.shp116 : shp cfg.P 116 = some (false, 1) := by rw [cfgP]; kernel_rfl
@[simp] theorem T.sz116 : szOf cfg.P 116 = some 1 := by rw [cfgP]; kernel_rfl
@[simp] theorem T.shp118 : shp cfg.P 118 = some (false, 1) := by rw [cfgP]; kernel_rfl
@[simp] theorem T.sz118 : szOf cfg.P 118 = some 1 := by rw [cfgP]; kernel_rfl
@[simp] theorem T.shp119 : shp cfg.P 119 = some (false, 1) := by rw [cfgP]; kernel_rfl
@[simp] theorem T.sz119 : szOf cfg.P 119 = some 1 := by rw [cfgP]; kernel_rfl
@[simp] theorem T.shp120 : shp cfg.P 120 = some (true, 32) := by rw [cfgP]; kernel_rfl
@[simp] theorem T.sz120 : szOf cfg.P 120 = some 32 := by rw [cfgP]; kernel_rfl
@[simp] theorem T.zero120 : zeroC cfg.P 120 = some [.int .u8 0, .int .u8 0, .int .u8 0, .int .u8 0, .int .u8 0, .int .u8 0, .int .u8 0, .int .u8 0, .int .u8 0, .int .u8 0, .int .u8 0, .int .u8 0, .int .u8 0, .int .u8 0, .int .u8 0, .int .u8 0, .int .u8 0, .int .u8 0, .int .u8 0, .int .u8 0, .int .u8 0, .int .u8 0, .int .u8 0, .int .u8 0, .int .u8 0, .int .u8 0, .int .u8 0, .int .u8 0, .int .u8 0, .int .u8 0, .int .u8 0, .int .u8 0] := by rw [cfgP]; kernel_rfl
@[simp] theorem T.ix120 : ixOf cfg.P 120 = some (.arr 32 1) := by rw [cfgP]; kernel_rfl
@[simp] theorem T.esh120 : elemShp cfg.P 120 = some (false, 1) := by rw [cfgP]; kernel_rfl
@[simp] theorem T.plain120 : plainOk cfg.P 120 = some [.i, .i, .i, .i, .i, .i, .i, .i, .i, .i, .i, .i, .i, .i, .i, .i, .i, .i, .i, .i, .i, .i, .i, .i, .i, .i, .i, .i, .i, .i, .i, .i] := by rw [cfgP]; kernel_rfl
@[simp] theorem T.shp121 : shp cfg.P 121 = some (true, 64) := by rw [cfgP]; kernel_rfl
@[simp] theorem T.sz121 : szOf cfg.P 121 = some 64 := by rw [cfgP]; kernel_rfl
@[simp] theorem T.zero121 : zeroC cfg.P 121 = some [.int .u8 0, .int .u8 0, .int .u8 0, .int .u8 0, .int .u8 0, .int .u8 0, .int .u8 0, .int .u8 0, .int .u8 0, .int .u8 0, .int .u8 0, .int .u8 0, .int .u8 0, .int .u8 0, .int .u8 0, .int .u8 0, .int .u8 0, .int .u8 0, .int .u8 0, .int .u8 0, .int .u8 0, .int .u8 0, .int .u8 0, .int .u8 0, .int .u8 0, .int .u8 0, .int .u8 0, .int .u8 0, .int .u8 0, .int .u8 0, .int .u8 0, .int .u8 0, .int .u8 0, .int .u8 0, .int .u8 0, .int .u8 0, .int .u8 0, .int .u8 0, .int .u8 0, .int .u8 0, .int .u8 0, .int .u8 0, .int .u8 0, .int .u8 0, .int .u8 0, .int .u8 0, .int .u8 0, .int .u8 0, .int .u8 0, .int .u8 0, .int .u8 0, .int .u8 0, .int .u8 0, .int .u8 0, .int .u8 0, .int .u8 0, .int .u8 0, .int .u8 0, .int .u8 0, .int .u8 0, .int .u8 0, .int .u8 0, .int .u8 0, .int .u8 0] := by rw [cfgP]; kernel_rfl
@[simp] theorem T.ix121 : ixOf cfg.P 121 = some (.arr 64 1) := by rw [cfgP]; kernel_rfl
@[simp] theorem T.esh121 : elemShp cfg.P 121 = some (false, 1) := by rw [cfgP]; kernel_rfl
@[simp] theorem T.plain121 : plainOk cfg.P 121 = some [.i, .i, .i, .i, .i, .i, .i, .i, .i, .i, .i, .i, .i, .i, .i, .i, .i, .i, .i, .i, .i, .i, .i, .i, .i, .i, .i, .i, .i, .i, .i, .i, .i, .i, .i, .i, .i, .i, .i, .i, .i, .i, .i, .i, .i, .i, .i, .i, .i, .i, .i, .i, .i, .i, .i, .i, .i, .i, .i, .i, .i, .i, .i, .i] := by rw [cfgP]; kernel_rfl
@[simp] theorem T.shp129 : shp cfg.P 129 = some (false, 1) := by rw [cfgP]; kernel_rfl
@[simp] theorem T.sz129 : szOf cfg.P 129 = some 1 := by rw [cfgP]; kernel_rfl
@[simp] theorem T.shp130 : shp cfg.P 130 = some (false, 1) := by rw [cfgP]; kernel_rfl
@[simp] theorem T.sz130 : szOf cfg.P 130 = some 1 := by rw [cfgP]; kernel_rfl
@[simp] theorem T.zero130 : zeroC cfg.P 130 = some [.nilp] := by rw [cfgP]; kernel_rfl
theorem F.fn3 : cfg.P.funcs[3]? = some Tryd.f3 := by rw [cfgP]; exact Tryd.func3
noncomputable def F.c3 : Code := Tryd.f3.body.getD .skip
theorem F.ok3 : okCode cfg.P 3 = some F.c3 := by rw [cfgP]; kernel_rfl
@[simp] theorem F.inl3 : cfg.inl 3 = false := by rw [cfgIn]; decide
theorem F.fn4 : cfg.P.funcs[4]? = some Tryd.f4 := by rw [cfgP]; exact Tryd.func4
noncomputable def F.c4 : Code := Tryd.f4.body.getD .skip
theorem F.ok4 : okCode cfg.P 4 = some F.c4 := by rw [cfgP]; kernel_rfl
@[simp] theorem F.inl4 : cfg.inl 4 = false := by rw [cfgIn]; decide
theorem F.fn5 : cfg.P.funcs[5]? = some Tryd.f5 := by rw [cfgP]; exact Tryd.func5
noncomputable def F.c5 : Code := Tryd.f5.body.getD .skip
theorem F.ok5 : okCode cfg.P 5 = some F.c5 := by rw [cfgP]; kernel_rfl
@[simp] theorem F.inl5 : cfg.inl 5 = false := by rw [cfgIn]; decide
theorem F.fn6 : cfg.P.funcs[6]? = some Tryd.f6 := by rw [cfgP]; exact Tryd.func6
noncomputable def F.c6 : Code := Tryd.f6.body.getD .skip
theorem F.ok6 : okCode cfg.P 6 = some F.c6 := by rw [cfgP]; kernel_rfl
@[simp] theorem F.inl6 : cfg.inl 6 = false := by rw [cfgIn]; decide
theorem F.fn7 : cfg.P.funcs[7]? = some Tryd.f7 := by rw [cfgP]; exact Tryd.func7
noncomputable def F.c7 : Code := Tryd.f7.body.getD .skip
theorem F.ok7 : okCode cfg.P 7 = some F.c7 := by rw [cfgP]; kernel_rfl
@[simp] theorem F.inl7 : cfg.inl 7 = false := by rw [cfgIn]; decide
theorem F.fn8 : cfg.P.funcs[8]? = some Tryd.f8 := by rw [cfgP]; exact Tryd.func8
noncomputable def F.c8 : Code := Tryd.f8.body.getD .skip
theorem F.ok8 : okCode cfg.P 8 = some F.c8 := by rw [cfgP]; kernel_rfl
@[simp] theorem F.inl8 : cfg.inl 8 = false := by rw [cfgIn]; decide
theorem F.fn9 : cfg.P.funcs[9]? = some Tryd.f9 := by rw [cfgP]; exact Tryd.func9
noncomputable def F.c9 : Code := Tryd.f9.body.getD .skip
theorem F.ok9 : okCode cfg.P 9 = some F.c9 := by rw [cfgP]; kernel_rfl
@[simp] theorem F.inl9 : cfg.inl 9 = false := by rw [cfgIn]; decide
theorem F.fn10 : cfg.P.funcs[10]? = some Tryd.f10 := by rw [cfgP]; exact Tryd.func10
noncomputable def F.c10 : Code := Tryd.f10.body.getD .skip
theorem F.ok10 : okCode cfg.P 10 = some F.c10 := by rw [cfgP]; kernel_rfl
@[simp] theorem F.inl10 : cfg.inl 10 = false := by rw [cfgIn]; decide
theorem F.fn11 : cfg.P.funcs[11]? = some Tryd.f11 := by rw [cfgP]; exact Tryd.func11
noncomputable def F.c11 : Code := Tryd.f11.body.getD .skip
theorem F.ok11 : okCode cfg.P 11 = some F.c11 := by rw [cfgP]; kernel_rfl
@[simp] theorem F.inl11 : cfg.inl 11 = false := by rw [cfgIn]; decide
theorem F.fn12 : cfg.P.funcs[12]? = some Tryd.f12 := by rw [cfgP]; exact Tryd.func12
noncomputable def F.c12 : Code := Tryd.f12.body.getD .skip
theorem F.ok12 : okCode cfg.P 12 = some F.c12 := by rw [cfgP]; kernel_rfl
@[simp] theorem F.inl12 : cfg.inl 12 = false := by rw [cfgIn]; decide
theorem F.fn13 : cfg.P.funcs[13]? = some Tryd.f13 := by rw [cfgP]; exact Tryd.func13
noncomputable def F.c13 : Code := Tryd.f13.body.getD .skip
theorem F.ok13 : okCode cfg.P 13 = some F.c13 := by rw [cfgP]; kernel_rfl
@[simp] theorem F.inl13 : cfg.inl 13 = false := by rw [cfgIn]; decide
theorem F.fn14 : cfg.P.funcs[14]? = some Tryd.f14 := by rw [cfgP]; exact Tryd.func14
noncomputable def F.c14 : Code := Tryd.f14.body.getD .skip
theorem F.ok14 : okCode cfg.P 14 = some F.c14 := by rw [cfgP]; kernel_rfl
@[simp] theorem F.inl14 : cfg.inl 14 = false := by rw [cfgIn]; decide
theorem F.fn15 : cfg.P.funcs[15]? = some Tryd.f15 := by rw [cfgP]; exact Tryd.func15
noncomputable def F.c15 : Code := Tryd.f15.body.getD .skip
theorem F.ok15 : okCode cfg.P 15 = some F.c15 := by rw [cfgP]; kernel_rfl
@[simp] theorem F.inl15 : cfg.inl 15 = false := by rw [cfgIn]; decide
theorem F.fn16 : cfg.P.funcs[16]? = some Tryd.f16 := by rw [cfgP]; exact Tryd.func16
noncomputable def F.c16 : Code := Tryd.f16.body.getD .skip
theorem F.ok16 : okCode cfg.P 16 = some F.c16 := by rw [cfgP]; kernel_rfl
@[simp] theorem F.inl16 : cfg.inl 16 = false := by rw [cfgIn]; decide
theorem F.fn17 : cfg.P.funcs[17]? = some Tryd.f17 := by rw [cfgP]; exact Tryd.func17
noncomputable def F.c17 : Code := Tryd.f17.body.getD .skip
theorem F.ok17 : okCode cfg.P 17 = some F.c17 := by rw [cfgP]; kernel_rfl
@[simp] theorem F.inl17 : cfg.inl 17 = false := by rw [cfgIn]; decide
theorem F.fn18 : cfg.P.funcs[18]? = some Tryd.f18 := by rw [cfgP]; exact Tryd.func18
noncomputable def F.c18 : Code := Tryd.f18.body.getD .skip
theorem F.ok18 : okCode cfg.P 18 = some F.c18 := by rw [cfgP]; kernel_rfl
@[simp] theorem F.inl18 : cfg.inl 18 = true := by rw [cfgIn]; decide
theorem F.fn19 : cfg.P.funcs[19]? = some Tryd.f19 := by rw [cfgP]; exact Tryd.func19
noncomputable def F.c19 : Code := Tryd.f19.body.getD .skip
theorem F.ok19 : okCode cfg.P 19 = some F.c19 := by rw [cfgP]; kernel_rfl
@[simp] theorem F.inl19 : cfg.inl 19 = false := by rw [cfgIn]; decide
theorem F.fn20 : cfg.P.funcs[20]? = some Tryd.f20 := by rw [cfgP]; exact Tryd.func20
noncomputable def F.c20 : Code := Tryd.f20.body.getD .skip
theorem F.ok20 : okCode cfg.P 20 = some F.c20 := by rw [cfgP]; kernel_rfl
@[simp] theorem F.inl20 : cfg.inl 20 = false := by rw [cfgIn]; decide
theorem F.fn21 : cfg.P.funcs[21]? = some Tryd.f21 := by rw [cfgP]; exact Tryd.func21
noncomputable def F.c21 : Code := Tryd.f21.body.getD .skip
theorem F.ok21 : okCode cfg.P 21 = some F.c21 := by rw [cfgP]; kernel_rfl
@[simp] theorem F.inl21 : cfg.inl 21 = false := by rw [cfgIn]; decide
theorem F.fn22 : cfg.P.funcs[22]? = some Tryd.f22 := by rw [cfgP]; exact Tryd.func22
noncomputable def F.c22 : Code := Tryd.f22.body.getD .skip
theorem F.ok22 : okCode cfg.P 22 = some F.c22 := by rw [cfgP]; kernel_rfl
@[simp] theorem F.inl22 : cfg.inl 22 = false := by rw [cfgIn]; decide
theorem F.fn23 : cfg.P.funcs[23]? = some Tryd.f23 := by rw [cfgP]; exact Tryd.func23
noncomputable def F.c23 : Code := Tryd.f23.body.getD .skip
theorem F.ok23 : okCode cfg.P 23 = some F.c23 := by rw [cfgP]; kernel_rfl
@[simp] theorem F.inl23 : cfg.inl 23 = false := by rw [cfgIn]; decide
theorem F.fn24 : cfg.P.funcs[24]? = some Tryd.f24 := by rw [cfgP]; exact Tryd.func24
noncomputable def F.c24 : Code := Tryd.f24.body.getD .skip
theorem F.ok24 : okCode cfg.P 24 = some F.c24 := by rw [cfgP]; kernel_rfl
@[simp] theorem F.inl24 : cfg.inl 24 = false := by rw [cfgIn]; decide
theorem F.fn25 : cfg.P.funcs[25]? = some Tryd.f25 := by rw [cfgP]; exact Tryd.func25
noncomputable def F.c25 : Code := Tryd.f25.body.getD .skip
theorem F.ok25 : okCode cfg.P 25 = some F.c25 := by rw [cfgP]; kernel_rfl
@[simp] theorem F.inl25 : cfg.inl 25 = true := by rw [cfgIn]; decide
theorem F.fn26 : cfg.P.funcs[26]? = some Tryd.f26 := by rw [cfgP]; exact Tryd.func26
noncomputable def F.c26 : Code := Tryd.f26.body.getD .skip
theorem F.ok26 : okCode cfg.P 26 = some F.c26 := by rw [cfgP]; kernel_rfl
@[simp] theorem F.inl26 : cfg.inl 26 = true := by rw [cfgIn]; decide
theorem F.fn27 : cfg.P.funcs[27]? = some Tryd.f27 := by rw [cfgP]; exact Tryd.func27
noncomputable def F.c27 : Code := Tryd.f27.body.getD .skip
theorem F.ok27 : okCode cfg.P 27 = some F.c27 := by rw [cfgP]; kernel_rfl
@[simp] theorem F.inl27 : cfg.inl 27 = false := by rw [cfgIn]; decide
theorem F.fn28 : cfg.P.funcs[28]? = some Tryd.f28 := by rw [cfgP]; exact Tryd.func28
noncomputable def F.c28 : Code := Tryd.f28.body.getD .skip
theorem F.ok28 : okCode cfg.P 28 = some F.c28 := by rw [cfgP]; kernel_rfl
@[simp] theorem F.inl28 : cfg.inl 28 = false := by rw [cfgIn]; decide
theorem F.fn29 : cfg.P.funcs[29]? = some Tryd.f29 := by rw [cfgP]; exact Tryd.func29
noncomputable def F.c29 : Code := Tryd.f29.body.getD .skip
theorem F.ok29 : okCode cfg.P 29 = some F.c29 := by rw [cfgP]; kernel_rfl
@[simp] theorem F.inl29 : cfg.inl 29 = false := by rw [cfgIn]; decide
theorem F.fn30 : cfg.P.funcs[30]? = some Tryd.f30 := by rw [cfgP]; exact Tryd.func30
noncomputable def F.c30 : Code := Tryd.f30.body.getD .skip
theorem F.ok30 : okCode cfg.P 30 = some F.c30 := by rw [cfgP]; kernel_rfl
@[simp] theorem F.inl30 : cfg.inl 30 = true := by rw [cfgIn]; decide
theorem F.fn31 : cfg.P.funcs[31]? = some Tryd.f31 := by rw [cfgP]; exact Tryd.func31
noncomputable def F.c31 : Code := Tryd.f31.body.getD .skip
theorem F.ok31 : okCode cfg.P 31 = some F.c31 := by rw [cfgP]; kernel_rfl
@[simp] theorem F.inl31 : cfg.inl 31 = false := by rw [cfgIn]; decide
theorem F.fn32 : cfg.P.funcs[32]? = some Tryd.f32 := by rw [cfgP]; exact Tryd.func32
noncomputable def F.c32 : Code := Tryd.f32.body.getD .skip
theorem F.ok32 : okCode cfg.P 32 = some F.c32 := by rw [cfgP]; kernel_rfl
@[simp] theorem F.inl32 : cfg.inl 32 = true := by rw [cfgIn]; decide
theorem F.fn33 : cfg.P.funcs[33]? = some Tryd.f33 := by rw [cfgP]; exact Tryd.func33
noncomputable def F.c33 : Code := Tryd.f33.body.getD .skip
theorem F.ok33 : okCode cfg.P 33 = some F.c33 := by rw [cfgP]; kernel_rfl
@[simp] theorem F.inl33 : cfg.inl 33 = true := by rw [cfgIn]; decide
theorem F.fn34 : cfg.P.funcs[34]? = some Tryd.f34 := by rw [cfgP]; exact Tryd.func34
noncomputable def F.c34 : Code := Tryd.f34.body.getD .skip
theorem F.ok34 : okCode cfg.P 34 = some F.c34 := by rw [cfgP]; kernel_rfl
@[simp] theorem F.inl34 : cfg.inl 34 = false := by rw [cfgIn]; decide
theorem F.fn35 : cfg.P.funcs[35]? = some Tryd.f35 := by rw [cfgP]; exact Tryd.func35
noncomputable def F.c35 : Code := Tryd.f35.body.getD .skip
theorem F.ok35 : okCode cfg.P 35 = some F.c35 := by rw [cfgP]; kernel_rfl
@[simp] theorem F.inl35 : cfg.inl 35 = true := by rw [cfgIn]; decide
theorem F.fn36 : cfg.P.funcs[36]? = some Tryd.f36 := by rw [cfgP]; exact Tryd.func36
noncomputable def F.c36 : Code := Tryd.f36.body.getD .skip
theorem F.ok36 : okCode cfg.P 36 = some F.c36 := by rw [cfgP]; kernel_rfl
@[simp] theorem F.inl36 : cfg.inl 36 = true := by rw [cfgIn]; decide
theorem F.fn37 : cfg.P.funcs[37]? = some Tryd.f37 := by rw [cfgP]; exact Tryd.func37
noncomputable def F.c37 : Code := Tryd.f37.body.getD .skip
theorem F.ok37 : okCode cfg.P 37 = some F.c37 := by rw [cfgP]; kernel_rfl
@[simp] theorem F.inl37 : cfg.inl 37 = true := by rw [cfgIn]; decide
theorem F.fn38 : cfg.P.funcs[38]? = some Tryd.f38 := by rw [cfgP]; exact Tryd.func38
noncomputable def F.c38 : Code := Tryd.f38.body.getD .skip
theorem F.ok38 : okCode cfg.P 38 = some F.c38 := by rw [cfgP]; kernel_rfl
@[simp] theorem F.inl38 : cfg.inl 38 = false := by rw [cfgIn]; decide
theorem F.fn39 : cfg.P.funcs[39]? = some Tryd.f39 := by rw [cfgP]; exact Tryd.func39
noncomputable def F.c39 : Code := Tryd.f39.body.getD .skip
theorem F.ok39 : okCode cfg.P 39 = some F.c39 := by rw [cfgP]; kernel_rfl
@[simp] theorem F.inl39 : cfg.inl 39 = false := by rw [cfgIn]; decide
theorem F.fn40 : cfg.P.funcs[40]? = some Tryd.f40 := by rw [cfgP]; exact Tryd.func40
noncomputable def F.c40 : Code := Tryd.f40.body.getD .skip
theorem F.ok40 : okCode cfg.P 40 = some F.c40 := by rw [cfgP]; kernel_rfl
@[simp] theorem F.inl40 : cfg.inl 40 = false := by rw [cfgIn]; decide
theorem F.fn41 : cfg.P.funcs[41]? = some Tryd.f41 := by rw [cfgP]; exact Tryd.func41
noncomputable def F.c41 : Code := Tryd.f41.body.getD .skip
theorem F.ok41 : okCode cfg.P 41 = some F.c41 := by rw [cfgP]; kernel_rfl
@[simp] theorem F.inl41 : cfg.inl 41 = false := by rw [cfgIn]; decide
theorem F.fn42 : cfg.P.funcs[42]? = some Tryd.f42 := by rw [cfgP]; exact Tryd.func42
noncomputable def F.c42 : Code := Tryd.f42.body.getD .skip
theorem F.ok42 : okCode cfg.P 42 = some F.c42 := by rw [cfgP]; kernel_rfl
@[simp] theorem F.inl42 : cfg.inl 42 = false := by rw [cfgIn]; decide
theorem F.fn43 : cfg.P.funcs[43]? = some Tryd.f43 := by rw [cfgP]; exact Tryd.func43
noncomputable def F.c43 : Code := Tryd.f43.body.getD .skip
theorem F.ok43 : okCode cfg.P 43 = some F.c43 := by rw [cfgP]; kernel_rfl
@[simp] theorem F.inl43 : cfg.inl 43 = false := by rw [cfgIn]; decide
theorem F.fn44 : cfg.P.funcs[44]? = some Tryd.f44 := by rw [cfgP]; exact Tryd.func44
noncomputable def F.c44 : Code := Tryd.f44.body.getD .skip
theorem F.ok44 : okCode cfg.P 44 = some F.c44 := by rw [cfgP]; kernel_rfl
@[simp] theorem F.inl44 : cfg.inl 44 = true := by rw [cfgIn]; decide
theorem F.fn45 : cfg.P.funcs[45]? = some Tryd.f45 := by rw [cfgP]; exact Tryd.func45
noncomputable def F.c45 : Code := Tryd.f45.body.getD .skip
theorem F.ok45 : okCode cfg.P 45 = some F.c45 := by rw [cfgP]; kernel_rfl
@[simp] theorem F.inl45 : cfg.inl 45 = false := by rw [cfgIn]; decide
theorem F.fn46 : cfg.P.funcs[46]? = some Tryd.f46 := by rw [cfgP]; exact Tryd.func46
noncomputable def F.c46 : Code := Tryd.f46.body.getD .skip
theorem F.ok46 : okCode cfg.P 46 = some F.c46 := by rw [cfgP]; kernel_rfl
@[simp] theorem F.inl46 : cfg.inl 46 = true := by rw [cfgIn]; decide
theorem F.fn47 : cfg.P.funcs[47]? = some Tryd.f47 := by rw [cfgP]; exact Tryd.func47
noncomputable def F.c47 : Code := Tryd.f47.body.getD .skip
theorem F.ok47 : okCode cfg.P 47 = some F.c47 := by rw [cfgP]; kernel_rfl
@[simp] theorem F.inl47 : cfg.inl 47 = true := by rw [cfgIn]; decide
theorem F.fn48 : cfg.P.funcs[48]? = some Tryd.f48 := by rw [cfgP]; exact Tryd.func48
noncomputable def F.c48 : Code := Tryd.f48.body.getD .skip
theorem F.ok48 : okCode cfg.P 48 = some F.c48 := by rw [cfgP]; kernel_rfl
@[simp] theorem F.inl48 : cfg.inl 48 = false := by rw [cfgIn]; decide
theorem F.fn49 : cfg.P.funcs[49]? = some Tryd.f49 := by rw [cfgP]; exact Tryd.func49
noncomputable def F.c49 : Code := Tryd.f49.body.getD .skip
theorem F.ok49 : okCode cfg.P 49 = some F.c49 := by rw [cfgP]; kernel_rfl
@[simp] theorem F.inl49 : cfg.inl 49 = true := by rw [cfgIn]; decide
theorem F.fn50 : cfg.P.funcs[50]? = some Tryd.f50 := by rw [cfgP]; exact Tryd.func50
noncomputable def F.c50 : Code := Tryd.f50.body.getD .skip
theorem F.ok50 : okCode cfg.P 50 = some F.c50 := by rw [cfgP]; kernel_rfl
@[simp] theorem F.inl50 : cfg.inl 50 = true := by rw [cfgIn]; decide
theorem F.fn51 : cfg.P.funcs[51]? = some Tryd.f51 := by rw [cfgP]; exact Tryd.func51
noncomputable def F.c51 : Code := Tryd.f51.body.getD .skip
theorem F.ok51 : okCode cfg.P 51 = some F.c51 := by rw [cfgP]; kernel_rfl
@[simp] theorem F.inl51 : cfg.inl 51 = false := by rw [cfgIn]; decide
theorem F.fn52 : cfg.P.funcs[52]? = some Tryd.f52 := by rw [cfgP]; exact Tryd.func52
noncomputable def F.c52 : Code := Tryd.f52.body.getD .skip
theorem F.ok52 : okCode cfg.P 52 = some F.c52 := by rw [cfgP]; kernel_rfl
@[simp] theorem F.inl52 : cfg.inl 52 = false := by rw [cfgIn]; decide
theorem F.fn53 : cfg.P.funcs[53]? = some Tryd.f53 := by rw [cfgP]; exact Tryd.func53
noncomputable def F.c53 : Code := Tryd.f53.body.getD .skip
theorem F.ok53 : okCode cfg.P 53 = some F.c53 := by rw [cfgP]; kernel_rfl
@[simp] theorem F.inl53 : cfg.inl 53 = false := by rw [cfgIn]; decide
theorem F.fn54 : cfg.P.funcs[54]? = some Tryd.f54 := by rw [cfgP]; exact Tryd.func54
noncomputable def F.c54 : Code := Tryd.f54.body.getD .skip
theorem F.ok54 : okCode cfg.P 54 = some F.c54 := by rw [cfgP]; kernel_rfl
@[simp] theorem F.inl54 : cfg.inl 54 = false := by rw [cfgIn]; decide
theorem F.fn55 : cfg.P.funcs[55]? = some Tryd.f55 := by rw [cfgP]; exact Tryd.func55
noncomputable def F.c55 : Code := Tryd.f55.body.getD .skip
theorem F.ok55 : okCode cfg.P 55 = some F.c55 := by rw [cfgP]; kernel_rfl
@[simp] theorem F.inl55 : cfg.inl 55 = false := by rw [cfgIn]; decide
theorem F.fn56 : cfg.P.funcs[56]? = some Tryd.f56 := by rw [cfgP]; exact Tryd.func56
noncomputable def F.c56 : Code := Tryd.f56.body.getD .skip
theorem F.ok56 : okCode cfg.P 56 = some F.c56 := by rw [cfgP]; kernel_rfl
@[simp] theorem F.inl56 : cfg.inl 56 = false := by rw [cfgIn]; decide
theorem F.fn57 : cfg.P.funcs[57]? = some Tryd.f57 := by rw [cfgP]; exact Tryd.func57
noncomputable def F.c57 : Code := Tryd.f57.body.getD .skip
theorem F.ok57 : okCode cfg.P 57 = some F.c57 := by rw [cfgP]; kernel_rfl
@[simp] theorem F.inl57 : cfg.inl 57 = false := by rw [cfgIn]; decide
theorem F.fn58 : cfg.P.funcs[58]? = some Tryd.f58 := by rw [cfgP]; exact Tryd.func58
noncomputable def F.c58 : Code := Tryd.f58.body.getD .skip
theorem F.ok58 : okCode cfg.P 58 = some F.c58 := by rw [cfgP]; kernel_rfl
@[simp] theorem F.inl58 : cfg.inl 58 = false := by rw [cfgIn]; decide
theorem F.fn59 : cfg.P.funcs[59]? = some Tryd.f59 := by rw [cfgP]; exact Tryd.func59
noncomputable def F.c59 : Code := Tryd.f59.body.getD .skip
theorem F.ok59 : okCode cfg.P 59 = some F.c59 := by rw [cfgP]; kernel_rfl
@[simp] theorem F.inl59 : cfg.inl 59 = false := by rw [cfgIn]; decide
theorem F.fn60 : cfg.P.funcs[60]? = some Tryd.f60 := by rw [cfgP]; exact Tryd.func60
noncomputable def F.c60 : Code := Tryd.f60.body.getD .skip
theorem F.ok60 : okCode cfg.P 60 = some F.c60 := by rw [cfgP]; kernel_rfl
@[simp] theorem F.inl60 : cfg.inl 60 = false := by rw [cfgIn]; decide
theorem F.fn61 : cfg.P.funcs[61]? = some Tryd.f61 := by rw [cfgP]; exact Tryd.func61
noncomputable def F.c61 : Code := Tryd.f61.body.getD .skip
theorem F.ok61 : okCode cfg.P 61 = some F.c61 := by rw [cfgP]; kernel_rfl
@[simp] theorem F.inl61 : cfg.inl 61 = true := by rw [cfgIn]; decide
theorem F.fn62 : cfg.P.funcs[62]? = some Tryd.f62 := by rw [cfgP]; exact Tryd.func62
noncomputable def F.c62 : Code := Tryd.f62.body.getD .skip
theorem F.ok62 : okCode cfg.P 62 = some F.c62 := by rw [cfgP]; kernel_rfl
@[simp] theorem F.inl62 : cfg.inl 62 = true := by rw [cfgIn]; decide
theorem F.fn63 : cfg.P.funcs[63]? = some Tryd.f63 := by rw [cfgP]; exact Tryd.func63
noncomputable def F.c63 : Code := Tryd.f63.body.getD .skip
theorem F.ok63 : okCode cfg.P 63 = some F.c63 := by rw [cfgP]; kernel_rfl
@[simp] theorem F.inl63 : cfg.inl 63 = true := by rw [cfgIn]; decide
theorem F.fn64 : cfg.P.funcs[64]? = some Tryd.f64 := by rw [cfgP]; exact Tryd.func64
noncomputable def F.c64 : Code := Tryd.f64.body.getD .skip
theorem F.ok64 : okCode cfg.P 64 = some F.c64 := by rw [cfgP]; kernel_rfl
@[simp] theorem F.inl64 : cfg.inl 64 = true := by rw [cfgIn]; decide
theorem F.fn65 : cfg.P.funcs[65]? = some Tryd.f65 := by rw [cfgP]; exact Tryd.func65
noncomputable def F.c65 : Code := Tryd.f65.body.getD .skip
theorem F.ok65 : okCode cfg.P 65 = some F.c65 := by rw [cfgP]; kernel_rfl
@[simp] theorem F.inl65 : cfg.inl 65 = true := by rw [cfgIn]; decide
theorem F.fn66 : cfg.P.funcs[66]? = some Tryd.f66 := by rw [cfgP]; exact Tryd.func66
noncomputable def F.c66 : Code := Tryd.f66.body.getD .skip
theorem F.ok66 : okCode cfg.P 66 = some F.c66 := by rw [cfgP]; kernel_rfl
@[simp] theorem F.inl66 : cfg.inl 66 = false := by rw [cfgIn]; decide
theorem F.fn67 : cfg.P.funcs[67]? = some Tryd.f67 := by rw [cfgP]; exact Tryd.func67
noncomputable def F.c67 : Code := Tryd.f67.body.getD .skip
theorem F.ok67 : okCode cfg.P 67 = some F.c67 := by rw [cfgP]; kernel_rfl
@[simp] theorem F.inl67 : cfg.inl 67 = false := by rw [cfgIn]; decide
theorem F.fn68 : cfg.P.funcs[68]? = some Tryd.f68 := by rw [cfgP]; exact Tryd.func68
noncomputable def F.c68 : Code := Tryd.f68.body.getD .skip
theorem F.ok68 : okCode cfg.P 68 = some F.c68 := by rw [cfgP]; kernel_rfl
@[simp] theorem F.inl68 : cfg.inl 68 = false := by rw [cfgIn]; decide
theorem F.fn69 : cfg.P.funcs[69]? = some Tryd.f69 := by rw [cfgP]; exact Tryd.func69
noncomputable def F.c69 : Code := Tryd.f69.body.getD .skip
theorem F.ok69 : okCode cfg.P 69 = some F.c69 := by rw [cfgP]; kernel_rfl
@[simp] theorem F.inl69 : cfg.inl 69 = false := by rw [cfgIn]; decide
theorem F.fn70 : cfg.P.funcs[70]? = some Tryd.f70 := by rw [cfgP]; exact Tryd.func70
noncomputable def F.c70 : Code := Tryd.f70.body.getD .skip
theorem F.ok70 : okCode cfg.P 70 = some F.c70 := by rw [cfgP]; kernel_rfl
@[simp] theorem F.inl70 : cfg.inl 70 = true := by rw [cfgIn]; decide
theorem F.fn71 : cfg.P.funcs[71]? = some Tryd.f71 := by rw [cfgP]; exact Tryd.func71
noncomputable def F.c71 : Code := Tryd.f71.body.getD .skip
theorem F.ok71 : okCode cfg.P 71 = some F.c71 := by rw [cfgP]; kernel_rfl
@[simp] theorem F.inl71 : cfg.inl 71 = true := by rw [cfgIn]; decide
theorem F.fn72 : cfg.P.funcs[72]? = some Tryd.f72 := by rw [cfgP]; exact Tryd.func72
noncomputable def F.c72 : Code := Tryd.f72.body.getD .skip
theorem F.ok72 : okCode cfg.P 72 = some F.c72 := by rw [cfgP]; kernel_rfl
@[simp] theorem F.inl72 : cfg.inl 72 = true := by rw [cfgIn]; decide
theorem F.fn73 : cfg.P.funcs[73]? = some Tryd.f73 := by rw [cfgP]; exact Tryd.func73
noncomputable def F.c73 : Code := Tryd.f73.body.getD .skip
theorem F.ok73 : okCode cfg.P 73 = some F.c73 := by rw [cfgP]; kernel_rfl
@[simp] theorem F.inl73 : cfg.inl 73 = true := by rw [cfgIn]; decide
theorem F.fn74 : cfg.P.funcs[74]? = some Tryd.f74 := by rw [cfgP]; exact Tryd.func74
noncomputable def F.c74 : Code := Tryd.f74.body.getD .skip
theorem F.ok74 : okCode cfg.P 74 = some F.c74 := by rw [cfgP]; kernel_rfl
@[simp] theorem F.inl74 : cfg.inl 74 = false := by rw [cfgIn]; decide
theorem F.fn75 : cfg.P.funcs[75]? = some Tryd.f75 := by rw [cfgP]; exact Tryd.func75
noncomputable def F.c75 : Code := Tryd.f75.body.getD .skip
theorem F.ok75 : okCode cfg.P 75 = some F.c75 := by rw [cfgP]; kernel_rfl
@[simp] theorem F.inl75 : cfg.inl 75 = false := by rw [cfgIn]; decide
theorem F.fn76 : cfg.P.funcs[76]? = some Tryd.f76 := by rw [cfgP]; exact Tryd.func76
noncomputable def F.c76 : Code := Tryd.f76.body.getD .skip
theorem F.ok76 : okCode cfg.P 76 = some F.c76 := by rw [cfgP]; kernel_rfl
@[simp] theorem F.inl76 : cfg.inl 76 = true := by rw [cfgIn]; decide
theorem F.fn77 : cfg.P.funcs[77]? = some Tryd.f77 := by rw [cfgP]; exact Tryd.func77
noncomputable def F.c77 : Code := Tryd.f77.body.getD .skip
theorem F.ok77 : okCode cfg.P 77 = some F.c77 := by rw [cfgP]; kernel_rfl
@[simp] theorem F.inl77 : cfg.inl 77 = false := by rw [cfgIn]; decide
theorem F.fn78 : cfg.P.funcs[78]? = some Tryd.f78 := by rw [cfgP]; exact Tryd.func78
noncomputable def F.c78 : Code := Tryd.f78.body.getD .skip
theorem F.ok78 : okCode cfg.P 78 = some F.c78 := by rw [cfgP]; kernel_rfl
@[simp] theorem F.inl78 : cfg.inl 78 = false := by rw [cfgIn]; decide
theorem F.fn79 : cfg.P.funcs[79]? = some Tryd.f79 := by rw [cfgP]; exact Tryd.func79
noncomputable def F.c79 : Code := Tryd.f79.body.getD .skip
theorem F.ok79 : okCode cfg.P 79 = some F.c79 := by rw [cfgP]; kernel_rfl
@[simp] theorem F.inl79 : cfg.inl 79 = false := by rw [cfgIn]; decide
theorem F.fn80 : cfg.P.funcs[80]? = some Tryd.f80 := by rw [cfgP]; exact Tryd.func80
noncomputable def F.c80 : Code := Tryd.f80.body.getD .skip
theorem F.ok80 : okCode cfg.P 80 = some F.c80 := by rw [cfgP]; kernel_rfl
@[simp] theorem F.inl80 : cfg.inl 80 = false := by rw [cfgIn]; decide
theorem F.fn81 : cfg.P.funcs[81]? = some Tryd.f81 := by rw [cfgP]; exact Tryd.func81
noncomputable def F.c81 : Code := Tryd.f81.body.getD .skip
theorem F.ok81 : okCode cfg.P 81 = some F.c81 := by rw [cfgP]; kernel_rfl
@[simp] theorem F.inl81 : cfg.inl 81 = true := by rw [cfgIn]; decide
theorem F.fn82 : cfg.P.funcs[82]? = some Tryd.f82 := by rw [cfgP]; exact Tryd.func82
noncomputable def F.c82 : Code := Tryd.f82.body.getD .skip
theorem F.ok82 : okCode cfg.P 82 = some F.c82 := by rw [cfgP]; kernel_rfl
@[simp] theorem F.inl82 : cfg.inl 82 = true := by rw [cfgIn]; decide
theorem F.fn83 : cfg.P.funcs[83]? = some Tryd.f83 := by rw [cfgP]; exact Tryd.func83
noncomputable def F.c83 : Code := Tryd.f83.body.getD .skip
theorem F.ok83 : okCode cfg.P 83 = some F.c83 := by rw [cfgP]; kernel_rfl
@[simp] theorem F.inl83 : cfg.inl 83 = true := by rw [cfgIn]; decide
theorem F.fn84 : cfg.P.funcs[84]? = some Tryd.f84 := by rw [cfgP]; exact Tryd.func84
noncomputable def F.c84 : Code := Tryd.f84.body.getD .skip
theorem F.ok84 : okCode cfg.P 84 = some F.c84 := by rw [cfgP]; kernel_rfl
@[simp] theorem F.inl84 : cfg.inl 84 = true := by rw [cfgIn]; decide
theorem F.fn85 : cfg.P.funcs[85]? = some Tryd.f85 := by rw [cfgP]; exact Tryd.func85
noncomputable def F.c85 : Code := Tryd.f85.body.getD .skip
theorem F.ok85 : okCode cfg.P 85 = some F.c85 := by rw [cfgP]; kernel_rfl
@[simp] theorem F.inl85 : cfg.inl 85 = false := by rw [cfgIn]; decide
theorem F.fn86 : cfg.P.funcs[86]? = some Tryd.f86 := by rw [cfgP]; exact Tryd.func86
noncomputable def F.c86 : Code := Tryd.f86.body.getD .skip
theorem F.ok86 : okCode cfg.P 86 = some F.c86 := by rw [cfgP]; kernel_rfl
@[simp] theorem F.inl86 : cfg.inl 86 = false := by rw [cfgIn]; decide
theorem F.fn87 : cfg.P.funcs[87]? = some Tryd.f87 := by rw [cfgP]; exact Tryd.func87
noncomputable def F.c87 : Code := Tryd.f87.body.getD .skip
theorem F.ok87 : okCode cfg.P 87 = some F.c87 := by rw [cfgP]; kernel_rfl
@[simp] theorem F.inl87 : cfg.inl 87 = false := by rw [cfgIn]; decide
theorem F.fn88 : cfg.P.funcs[88]? = some Tryd.f88 := by rw [cfgP]; exact Tryd.func88
noncomputable def F.c88 : Code := Tryd.f88.body.getD .skip
theorem F.ok88 : okCode cfg.P 88 = some F.c88 := by rw [cfgP]; kernel_rfl
@[simp] theorem F.inl88 : cfg.inl 88 = false := by rw [cfgIn]; decide
theorem F.fn89 : cfg.P.funcs[89]? = some Tryd.f89 := by rw [cfgP]; exact Tryd.func89
noncomputable def F.c89 : Code := Tryd.f89.body.getD .skip
theorem F.ok89 : okCode cfg.P 89 = some F.c89 := by rw [cfgP]; kernel_rfl
@[simp] theorem F.inl89 : cfg.inl 89 = false := by rw [cfgIn]; decide
theorem F.fn90 : cfg.P.funcs[90]? = some Tryd.f90 := by rw [cfgP]; exact Tryd.func90
noncomputable def F.c90 : Code := Tryd.f90.body.getD .skip
theorem F.ok90 : okCode cfg.P 90 = some F.c90 := by rw [cfgP]; kernel_rfl
@[simp] theorem F.inl90 : cfg.inl 90 = false := by rw [cfgIn]; decide
theorem F.fn91 : cfg.P.funcs[91]? = some Tryd.f91 := by rw [cfgP]; exact Tryd.func91
noncomputable def F.c91 : Code := Tryd.f91.body.getD .skip
theorem F.ok91 : okCode cfg.P 91 = some F.c91 := by rw [cfgP]; kernel_rfl
@[simp] theorem F.inl91 : cfg.inl 91 = false := by rw [cfgIn]; decide
theorem F.fn92 : cfg.P.funcs[92]? = some Tryd.f92 := by rw [cfgP]; exact Tryd.func92
noncomputable def F.c92 : Code := Tryd.f92.body.getD .skip
theorem F.ok92 : okCode cfg.P 92 = some F.c92 := by rw [cfgP]; kernel_rfl
@[simp] theorem F.inl92 : cfg.inl 92 = false := by rw [cfgIn]; decide
theorem F.fn94 : cfg.P.funcs[94]? = some Tryd.f94 := by rw [cfgP]; exact Tryd.func94
noncomputable def F.c94 : Code := Tryd.f94.body.getD .skip
theorem F.ok94 : okCode cfg.P 94 = some F.c94 := by rw [cfgP]; kernel_rfl
@[simp] theorem F.inl94 : cfg.inl 94 = false := by rw [cfgIn]; decide
theorem F.fn95 : cfg.P.funcs[95]? = some Tryd.f95 := by rw [cfgP]; exact Tryd.func95
noncomputable def F.c95 : Code := Tryd.f95.body.getD .skip
theorem F.ok95 : okCode cfg.P 95 = some F.c95 := by rw [cfgP]; kernel_rfl
@[simp] theorem F.inl95 : cfg.inl 95 = false := by rw [cfgIn]; decide
theorem F.fn96 : cfg.P.funcs[96]? = some Tryd.f96 := by rw [cfgP]; exact Tryd.func96
noncomputable def F.c96 : Code := Tryd.f96.body.getD .skip
theorem F.ok96 : okCode cfg.P 96 = some F.c96 := by rw [cfgP]; kernel_rfl
@[simp] theorem F.inl96 : cfg.inl 96 = false := by rw [cfgIn]; decide
theorem F.fn97 : cfg.P.funcs[97]? = some Tryd.f97 := by rw [cfgP]; exact Tryd.func97
noncomputable def F.c97 : Code := Tryd.f97.body.getD .skip
theorem F.ok97 : okCode cfg.P 97 = some F.c97 := by rw [cfgP]; kernel_rfl
@[simp] theorem F.inl97 : cfg.inl 97 = false := by rw [cfgIn]; decide
theorem F.fn98 : cfg.P.funcs[98]? = some Tryd.f98 := by rw [cfgP]; exact Tryd.func98
noncomputable def F.c98 : Code := Tryd.f98.body.getD .skip
theorem F.ok98 : okCode cfg.P 98 = some F.c98 := by rw [cfgP]; kernel_rfl
@[simp] theorem F.inl98 : cfg.inl 98 = false := by rw [cfgIn]; decide
theorem F.fn99 : cfg.P.funcs[99]? = some Tryd.f99 := by rw [cfgP]; exact Tryd.func99
noncomputable def F.c99 : Code := Tryd.f99.body.getD .skip
theorem F.ok99 : okCode cfg.P 99 = some F.c99 := by rw [cfgP]; kernel_rfl
@[simp] theorem F.inl99 : cfg.inl 99 = false := by rw [cfgIn]; decide
theorem F.fn100 : cfg.P.funcs[100]? = some Tryd.f100 := by rw [cfgP]; exact Tryd.func100
noncomputable def F.c100 : Code := Tryd.f100.body.getD .skip
theorem F.ok100 : okCode cfg.P 100 = some F.c100 := by rw [cfgP]; kernel_rfl
@[simp] theorem F.inl100 : cfg.inl 100 = false := by rw [cfgIn]; decide
theorem F.fn102 : cfg.P.funcs[102]? = some Tryd.f102 := by rw [cfgP]; exact Tryd.func102
noncomputable def F.c102 : Code := Tryd.f102.body.getD .skip
theorem F.ok102 : okCode cfg.P 102 = some F.c102 := by rw [cfgP]; kernel_rfl
@[simp] theorem F.inl102 : cfg.inl 102 = false := by rw [cfgIn]; decide
theorem F.fn103 : cfg.P.funcs[103]? = some Tryd.f103 := by rw [cfgP]; exact Tryd.func103
noncomputable def F.c103 : Code := Tryd.f103.body.getD .skip
theorem F.ok103 : okCode cfg.P 103 = some F.c103 := by rw [cfgP]; kernel_rfl
@[simp] theorem F.inl103 : cfg.inl 103 = false := by rw [cfgIn]; decide
theorem F.fn104 : cfg.P.funcs[104]? = some Tryd.f104 := by rw [cfgP]; exact Tryd.func104
noncomputable def F.c104 : Code := Tryd.f104.body.getD .skip
theorem F.ok104 : okCode cfg.P 104 = some F.c104 := by rw [cfgP]; kernel_rfl
@[simp] theorem F.inl104 : cfg.inl 104 = false := by rw [cfgIn]; decide
end Go.Proofs.YtopedkngffaplaaDoor
end STrydBase
