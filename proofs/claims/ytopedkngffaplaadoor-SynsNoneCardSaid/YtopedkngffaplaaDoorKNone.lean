/- The seat: contracts of its functions. -/
import Derived.Test.YtopedkngffaplaaDoorKLaw5
import Derived.Test.YtopedkngffaplaaDoorSpNone
set_option linter.all false
set_option linter.unusedVariables false
set_option linter.unusedSectionVars false
set_option linter.unusedSimpArgs false
section STrydNone
/- Contracts: SynsNone. -/
namespace Go.Proofs.YtopedkngffaplaaDoor
open Go Go.Vi Go.Vi.Sp
set_option linter.unusedSimpArgs false
set_option linter.unusedVariables false
set_option maxRecDepth 10000
theorem K.noneIns (N : Nat) (k o d an bn t : Int) (ar br : Bool) (nm : Bytes) : vcall cfg (acall cfg N) 12 [.agg [.int .i64 k, .int .i64 o, .int .i64 d, .bool ar, .int .i64 an, .bool br, .int .i64 bn, .str nm, .int .i64 t]] =
    some (.agg [.int .i64 7, .int .i64 0, .bool false, .str [], .int .i64 k, .int .i64 o, .int .i64 d, .bool ar, .int .i64 an, .bool br, .int .i64 bn, .str nm, .int .i64 t]) := by
  apply D.v12
  simp [-List.map_drop, -List.map_take, -List.set_append_left, -List.set_append_right, D.s12]
theorem K.SynsNone (N : Nat) (w : Int) : vcall cfg (acall cfg (N + 15)) 5 [.int .i64 w] = some (.bool true) := by
  apply D.v5
  obtain ⟨m, hm⟩ : ∃ m, (BitVec.ofInt 64 w &&& 255#64).toNat = m := ⟨_, rfl⟩
  have hm2 : m < 256 := by rw [← hm]; exact mask_lt w
  have a1 := and_mask (P := cfg.P) (t := 3) hm2 hm
  have a2 : binOpOf cfg.P .rem 3 (.int .i64 m) (.int .i64 30) = some (.int .i64 (m % 30 : Nat)) := by rw [bo_rem (by decide)]; rfl
  have hlen : nonesT.length = 30 := rfl
  obtain ⟨x, hx⟩ : ∃ x, nonesT[m % 30]? = some x := ⟨_, List.getElem?_eq_getElem (by rw [hlen]; exact Nat.mod_lt _ (by decide))⟩
  obtain ⟨hok, hs, hl⟩ := nones_ok x (List.mem_of_getElem? hx)
  generalize m % 30 = j at a2 hx
  have hj : j < 30 := (List.getElem?_eq_some_iff.1 hx).1
  have a3 := ia_row (P := cfg.P) (t := 43) (b := 0) (ver := 0) (off := 0) (len := 30) T.ix43 hj
  obtain ⟨i, o⟩ := x
  have b1 := fun ns => bs_row (P := cfg.P) (t := 43) (H := []) (ns := ns) (n := 30) (vs := nonesT.map noneV) T.ix43 (ps := #[(0, .tmp 0), (1, .tmp 1), (2, .tmp 2), (3, .tmp 3), (4, .tmp 4), (5, .tmp 5), (6, .tmp 6), (7, .tmp 7), (8, .tmp 8), (9, .tmp 9), (10, .tmp 10), (11, .tmp 11), (12, .tmp 12), (13, .tmp 13), (14, .tmp 14), (15, .tmp 15), (16, .tmp 16), (17, .tmp 17), (18, .tmp 18), (19, .tmp 19), (20, .tmp 20), (21, .tmp 21), (22, .tmp 22), (23, .tmp 23), (24, .tmp 24), (25, .tmp 25), (26, .tmp 26), (27, .tmp 27), (28, .tmp 28), (29, .tmp 29)])
    rfl (by decide) (by decide) (by decide) (by intro v hv; obtain ⟨y, _, rfl⟩ := List.mem_map.1 hv; rfl) (by intro v hv; obtain ⟨y, _, rfl⟩ := List.mem_map.1 hv; rfl) (by rfl)
  have hnone : nonesT.map noneV = nonesT.map noneV := rfl
  conv at hnone => rhs; simp only [nonesT, List.map_cons, List.map_nil, noneV]
  have hi : ItemRng i := itemRng_small (by simpa [-List.map_drop, -List.map_take, -List.set_append_left, -List.set_append_right, itemSmall] using hs)
  have p := fun N => K.PrintC (N := N) (i := i) (x := printS i) rfl hi
  have q := fun N => K.ParseC (N := N) (s := (printS i).1) (x := parseS (printS i).1) rfl (by simp [-List.map_drop, -List.map_take, -List.set_append_left, -List.set_append_right] at hl; omega)
  cases o with
  | true =>
    simp only [noneOk, if_true, Bool.and_eq_true, decide_eq_true_eq] at hok
    obtain ⟨h1, h2, h3⟩ := hok
    simp [-List.map_drop, -List.map_take, -List.set_append_left, -List.set_append_right, D.s5, D.x5_0, K.noneIns, ← hnone, b1, a1, a2, a3, hx, p, q, h1, h2, h3, K.awake5]
  | false =>
    simp only [noneOk, Bool.and_eq_true, decide_eq_true_eq] at hok
    obtain ⟨h1, h2⟩ := hok
    have h2 : (printS i).1 = [] := by simpa [-List.map_drop, -List.map_take, -List.set_append_left, -List.set_append_right] using h2
    have q := fun N => K.ParseC (N := N) (s := []) (x := parseS []) rfl (by decide)
    simp [-List.map_drop, -List.map_take, -List.set_append_left, -List.set_append_right, D.s5, D.x5_0, K.noneIns, ← hnone, b1, a1, a2, a3, hx, p, q, h1, h2, K.awake5]
end Go.Proofs.YtopedkngffaplaaDoor
end STrydNone
