/- The seat: contracts of its functions. -/
import Derived.Test.YtopedkngffaplaaDoorKSynP
import Derived.Test.YtopedkngffaplaaDoorSp
set_option linter.all false
set_option linter.unusedVariables false
set_option linter.unusedSectionVars false
set_option linter.unusedSimpArgs false
section STrydLaw5
/- Contracts: the statements of layer 5 (rows by hand). -/
namespace Go.Proofs.YtopedkngffaplaaDoor
open Go Go.Vi Go.Vi.Sp
set_option linter.unusedSimpArgs false
set_option linter.unusedVariables false
set_option maxRecDepth 10000
theorem K.ParseC {N : Nat} {s : Bytes} {x : Sp.Item × Int × Bool} (h : parseS s = x) (hl : s.length ≤ 4294967280) : vcall cfg (acall cfg (N + 11)) 8 [.str s] = some (parseV x) := by rw [← h]; exact K.Parse' N s hl
theorem K.PrintC {N : Nat} {i : Sp.Item} {x : Bytes × Bool} (h : printS i = x) (hi : ItemRng i) : vcall cfg (acall cfg (N + 12)) 11 [itemV i] = some (.tup [.str x.1, .bool x.2]) := by rw [← h]; exact K.Print N i hi
theorem itemRng_small {i : Sp.Item} (h : (-1000000 ≤ i.n ∧ i.n ≤ 1000000) ∧ i.name.length ≤ 1000000 ∧ (-1000000 ≤ i.ins.d ∧ i.ins.d ≤ 1000000) ∧ (-1000000 ≤ i.ins.a.n ∧ i.ins.a.n ≤ 1000000) ∧ (-1000000 ≤ i.ins.b.n ∧ i.ins.b.n ≤ 1000000) ∧ i.ins.name.length ≤ 1000000) : ItemRng i :=
  ⟨⟨by omega, by omega⟩, h.2.1, ⟨⟨by omega, by omega⟩, ⟨by omega, by omega⟩, ⟨by omega, by omega⟩, h.2.2.2.2.2⟩⟩
theorem K.awake5 (N : Nat) : vcall cfg (acall cfg (N + 14)) 9 [] = some (.bool true) := by
  apply D.v9
  have p1 := fun N => K.ParseC (N := N) (s := [32, 108, 111, 97, 100, 32, 114, 48, 32, 44, 91, 114, 49, 43, 32, 50, 93, 32, 59, 32, 120]) (x := (⟨7, 0, false, [], ⟨2, 0, 0, ⟨true, 1⟩, ⟨false, 2⟩, [], 0⟩⟩, 0, true)) (by decide +kernel) (by decide)
  have p2 := fun N => K.PrintC (N := N) (i := ⟨7, 0, false, [], ⟨2, 0, 0, ⟨true, 1⟩, ⟨false, 2⟩, [], 0⟩⟩) (x := ([108, 111, 97, 100, 32, 114, 48, 44, 32, 91, 114, 49, 32, 43, 32, 50, 93], true)) (by decide +kernel) (itemRng_small (by decide))
  have p3 := fun N => K.ParseC (N := N) (s := [97, 100, 100, 32, 114, 48, 44, 32, 114, 49]) (x := (item0, 10, false)) (by decide +kernel) (by decide)
  have p4 := fun N => K.ParseC (N := N) (s := [106, 109, 112, 32, 114, 49]) (x := (item0, 4, false)) (by decide +kernel) (by decide)
  have p5 := fun N => K.ParseC (N := N) (s := [109, 111, 118, 32, 114, 49, 44, 32, 53]) (x := (⟨7, 0, false, [], ⟨1, 4, 1, ⟨false, 5⟩, ⟨false, 0⟩, [], 0⟩⟩, 0, true)) (by decide +kernel) (by decide)
  have p6 := fun N => K.PrintC (N := N) (i := ⟨7, 0, false, [], ⟨1, 4, 1, ⟨false, 5⟩, ⟨false, 0⟩, [], 0⟩⟩) (x := ([111, 114, 32, 114, 49, 44, 32, 53, 44, 32, 48], true)) (by decide +kernel) (itemRng_small (by decide))
  simp [-List.map_drop, -List.map_take, -List.set_append_left, -List.set_append_right, D.s9, p1, p2, p3, p4, p5, p6]
theorem L.forms (call : Callee') (L : Env) (H : Heap) : xevL cfg call L H D.x3_0 = some (formsT.map formV) := by
  simp [-List.map_drop, -List.map_take, -List.set_append_left, -List.set_append_right, D.x3_0, formsT]
theorem K.SynsForms (N : Nat) (w : Int) : vcall cfg (acall cfg (N + 15)) 3 [.int .i64 w] = some (.bool true) := by
  apply D.v3
  obtain ⟨m, hm⟩ : ∃ m, (BitVec.ofInt 64 w &&& 255#64).toNat = m := ⟨_, rfl⟩
  have hm2 : m < 256 := by rw [← hm]; exact mask_lt w
  have a1 := and_mask (P := cfg.P) (t := 3) hm2 hm
  have a2 : binOpOf cfg.P .rem 3 (.int .i64 m) (.int .i64 42) = some (.int .i64 (m % 42 : Nat)) := by rw [bo_rem (by decide)]; rfl
  have hlen : formsT.length = 42 := rfl
  obtain ⟨x, hx⟩ : ∃ x, formsT[m % 42]? = some x := ⟨_, List.getElem?_eq_getElem (by rw [hlen]; exact Nat.mod_lt _ (by decide))⟩
  obtain ⟨hok, hl⟩ := forms_ok x (List.mem_of_getElem? hx)
  generalize m % 42 = j at a2 hx
  have hj : j < 42 := (List.getElem?_eq_some_iff.1 hx).1
  have a3 := ia_row (P := cfg.P) (t := 23) (b := 0) (ver := 0) (off := 0) (len := 42) T.ix23 hj
  obtain ⟨s, k, at_⟩ := x
  have b1 := fun ns => bs_row (P := cfg.P) (t := 23) (H := []) (ns := ns) (n := 42) (vs := formsT.map formV) T.ix23 (ps := #[(0, .tmp 0), (1, .tmp 1), (2, .tmp 2), (3, .tmp 3), (4, .tmp 4), (5, .tmp 5), (6, .tmp 6), (7, .tmp 7), (8, .tmp 8), (9, .tmp 9), (10, .tmp 10), (11, .tmp 11), (12, .tmp 12), (13, .tmp 13), (14, .tmp 14), (15, .tmp 15), (16, .tmp 16), (17, .tmp 17), (18, .tmp 18), (19, .tmp 19), (20, .tmp 20), (21, .tmp 21), (22, .tmp 22), (23, .tmp 23), (24, .tmp 24), (25, .tmp 25), (26, .tmp 26), (27, .tmp 27), (28, .tmp 28), (29, .tmp 29), (30, .tmp 30), (31, .tmp 31), (32, .tmp 32), (33, .tmp 33), (34, .tmp 34), (35, .tmp 35), (36, .tmp 36), (37, .tmp 37), (38, .tmp 38), (39, .tmp 39), (40, .tmp 40), (41, .tmp 41)])
    rfl (by decide) (by decide) (by decide) (by intro v hv; obtain ⟨y, _, rfl⟩ := List.mem_map.1 hv; rfl) (by intro v hv; obtain ⟨y, _, rfl⟩ := List.mem_map.1 hv; rfl) (by rfl)
  have p := fun N => K.ParseC (N := N) (s := s) (x := parseS s) rfl (by simp [-List.map_drop, -List.map_take, -List.set_append_left, -List.set_append_right] at hl; omega)
  by_cases hat : 0 ≤ at_
  · simp only [formOk, hat, if_true, Bool.and_eq_true, Bool.not_eq_true', decide_eq_true_eq] at hok
    obtain ⟨⟨h1, h2⟩, h3⟩ := hok
    simp [-List.map_drop, -List.map_take, -List.set_append_left, -List.set_append_right, D.s3, L.forms, b1, a1, a2, a3, hx, p, hat, h1, h2, h3, K.awake5]
  · simp only [formOk, hat, if_false, Bool.and_eq_true, decide_eq_true_eq] at hok
    obtain ⟨⟨h1, h2⟩, h3⟩ := hok
    simp [-List.map_drop, -List.map_take, -List.set_append_left, -List.set_append_right, D.s3, L.forms, b1, a1, a2, a3, hx, p, hat, h1, h2, h3, K.awake5]
end Go.Proofs.YtopedkngffaplaaDoor
end STrydLaw5
