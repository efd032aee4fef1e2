/- The seat: contracts of its functions. -/
import Derived.Test.YtopedkngffaplaaDoorBase
import Derived.Test.YtopedkngffaplaaDoorVe
import Derived.Shelf.Strings.Search3
import Derived.Shelf.Strconv.Itoa3
set_option linter.all false
set_option linter.unusedVariables false
set_option linter.unusedSectionVars false
set_option linter.unusedSimpArgs false
section STrydPrim
/- Answers proved by hand: strings.Contains, strconv.Itoa, by the library's contracts. -/
namespace Go.Proofs.YtopedkngffaplaaDoor
open Go Go.Vi
set_option linter.unusedSimpArgs false
set_option linter.unusedVariables false
def Tryd.lays144_ren : Go.Shelf.Ren := ⟨fun | 144 => 57 | 143 => 78 | 219 => 87 | 217 => 92 | 225 => 93 | 224 => 94 | 267 => 95 | 266 => 101 | 314 => 102 | n => n, fun | 9 => 9 | 4 => 4 | 3 => 3 | 5 => 5 | 46 => 61 | 146 => 117 | 51 => 114 | n => n, fun | 1 => 0 | n => n⟩
theorem Tryd.lays144 : Lays.n144 Tryd.prog Tryd.lays144_ren where
  mixed := by kernel_rfl
  f143 := Tryd.func78.trans (congrArg some (by kernel_rfl))
  f144 := Tryd.func57.trans (congrArg some (by kernel_rfl))
  f217 := Tryd.func92.trans (congrArg some (by kernel_rfl))
  f219 := Tryd.func87.trans (congrArg some (by kernel_rfl))
  f224 := Tryd.func94.trans (congrArg some (by kernel_rfl))
  f225 := Tryd.func93.trans (congrArg some (by kernel_rfl))
  f266 := Tryd.func101.trans (congrArg some (by kernel_rfl))
  f267 := Tryd.func95.trans (congrArg some (by kernel_rfl))
  f314 := Tryd.func102.trans (congrArg some (by kernel_rfl))
  t3 := Tryd.underlying3
  a3 := Tryd.isAgg3
  z3 := Tryd.sizeOf3
  v3 := Tryd.zeroValue3
  t4 := Tryd.underlying4
  a4 := Tryd.isAgg4
  z4 := Tryd.sizeOf4
  v4 := Tryd.zeroValue4
  t5 := Tryd.underlying5
  a5 := Tryd.isAgg5
  z5 := Tryd.sizeOf5
  v5 := Tryd.zeroValue5
  t9 := Tryd.underlying9
  a9 := Tryd.isAgg9
  z9 := Tryd.sizeOf9
  v9 := Tryd.zeroValue9
  t46 := Tryd.underlying61
  a46 := Tryd.isAgg61
  z46 := Tryd.sizeOf61
  v46 := Tryd.zeroValue61
  t51 := Tryd.underlying114
  a51 := Tryd.isAgg114
  z51 := Tryd.sizeOf114
  v51 := Tryd.zeroValue114
  t146 := Tryd.underlying117
  a146 := Tryd.isAgg117
  z146 := Tryd.sizeOf117
  v146 := Tryd.zeroValue117
  g1 := by kernel_rfl
def Tryd.laysM171_ren : Go.Shelf.Ren := ⟨fun | 171 => 38 | 243 => 66 | 246 => 85 | 283 => 88 | 284 => 89 | 285 => 90 | 286 => 91 | 129 => 97 | 317 => 96 | 318 => 98 | 319 => 99 | 320 => 100 | 337 => 103 | 338 => 104 | n => n, fun | 3 => 3 | 9 => 9 | 2 => 2 | 4 => 4 | 171 => 105 | 0 => 0 | 53 => 106 | 37 => 44 | 5 => 5 | 173 => 109 | 212 => 113 | 51 => 114 | 20 => 20 | 213 => 115 | 46 => 61 | 232 => 120 | 233 => 121 | n => n, fun | 17 => 1 | 18 => 2 | 19 => 3 | n => n⟩
theorem Tryd.laysM171 : LaysM.n171 Tryd.prog Tryd.laysM171_ren where
  mixed := by kernel_rfl
  f129 := Tryd.func97.trans (congrArg some (by kernel_rfl))
  f171 := Tryd.func38.trans (congrArg some (by kernel_rfl))
  f243 := Tryd.func66.trans (congrArg some (by kernel_rfl))
  f246 := Tryd.func85.trans (congrArg some (by kernel_rfl))
  f283 := Tryd.func88.trans (congrArg some (by kernel_rfl))
  f284 := Tryd.func89.trans (congrArg some (by kernel_rfl))
  f285 := Tryd.func90.trans (congrArg some (by kernel_rfl))
  f286 := Tryd.func91.trans (congrArg some (by kernel_rfl))
  f317 := Tryd.func96.trans (congrArg some (by kernel_rfl))
  f318 := Tryd.func98.trans (congrArg some (by kernel_rfl))
  f319 := Tryd.func99.trans (congrArg some (by kernel_rfl))
  f320 := Tryd.func100.trans (congrArg some (by kernel_rfl))
  f337 := Tryd.func103.trans (congrArg some (by kernel_rfl))
  f338 := Tryd.func104.trans (congrArg some (by kernel_rfl))
  t0 := Tryd.underlying0
  a0 := Tryd.isAgg0
  z0 := Tryd.sizeOf0
  v0 := Tryd.zeroValue0
  t2 := Tryd.underlying2
  a2 := Tryd.isAgg2
  z2 := Tryd.sizeOf2
  v2 := Tryd.zeroValue2
  t3 := Tryd.underlying3
  a3 := Tryd.isAgg3
  z3 := Tryd.sizeOf3
  v3 := Tryd.zeroValue3
  t4 := Tryd.underlying4
  a4 := Tryd.isAgg4
  z4 := Tryd.sizeOf4
  v4 := Tryd.zeroValue4
  t5 := Tryd.underlying5
  a5 := Tryd.isAgg5
  z5 := Tryd.sizeOf5
  v5 := Tryd.zeroValue5
  t9 := Tryd.underlying9
  a9 := Tryd.isAgg9
  z9 := Tryd.sizeOf9
  v9 := Tryd.zeroValue9
  t20 := Tryd.underlying20
  a20 := Tryd.isAgg20
  z20 := Tryd.sizeOf20
  v20 := Tryd.zeroValue20
  t37 := Tryd.underlying44
  a37 := Tryd.isAgg44
  z37 := Tryd.sizeOf44
  v37 := Tryd.zeroValue44
  t46 := Tryd.underlying61
  a46 := Tryd.isAgg61
  z46 := Tryd.sizeOf61
  v46 := Tryd.zeroValue61
  t51 := Tryd.underlying114
  a51 := Tryd.isAgg114
  z51 := Tryd.sizeOf114
  v51 := Tryd.zeroValue114
  t53 := Tryd.underlying106
  a53 := Tryd.isAgg106
  z53 := Tryd.sizeOf106
  v53 := Tryd.zeroValue106
  t171 := Tryd.underlying105
  a171 := Tryd.isAgg105
  z171 := Tryd.sizeOf105
  v171 := Tryd.zeroValue105
  t173 := Tryd.underlying109
  a173 := Tryd.isAgg109
  z173 := Tryd.sizeOf109
  v173 := Tryd.zeroValue109
  t212 := Tryd.underlying113
  a212 := Tryd.isAgg113
  z212 := Tryd.sizeOf113
  v212 := Tryd.zeroValue113
  t213 := Tryd.underlying115
  a213 := Tryd.isAgg115
  z213 := Tryd.sizeOf115
  t232 := Tryd.underlying120
  a232 := Tryd.isAgg120
  z232 := Tryd.sizeOf120
  v232 := Tryd.zeroValue120
  t233 := Tryd.underlying121
  a233 := Tryd.isAgg121
  z233 := Tryd.sizeOf121
  v233 := Tryd.zeroValue121
  g17 := by kernel_rfl
  g18 := by kernel_rfl
  g19 := by kernel_rfl
  i0 := by kernel_rfl
  i2 := by kernel_rfl
  i3 := by kernel_rfl
  i4 := by kernel_rfl
  i5 := by kernel_rfl
  i9 := by kernel_rfl
  i20 := by kernel_rfl
  i37 := by kernel_rfl
  i46 := by kernel_rfl
  i51 := by kernel_rfl
  i53 := by kernel_rfl
  i171 := by kernel_rfl
  i173 := by kernel_rfl
  i212 := by kernel_rfl
  i232 := by kernel_rfl
  i233 := by kernel_rfl
  m17 := by kernel_rfl
  m18 := by kernel_rfl
  m19 := by kernel_rfl
theorem gMax : Tryd.prog.globalNamed "internal/bytealg.MaxLen" = some 0 := by kernel_rfl
theorem gPow : Tryd.prog.globalNamed "internal/strconv.uint64pow10" = some 1 := by kernel_rfl
def powCells : List (Nat × Nat × Value) := (List.range 20).map fun i => (1, i, .int .u64 (Lib.pow10Tab.getD i 0))
/-- what lies ahead of the run: MaxLen's cell, and the table of powers -/
@[reducible] def globOf (m : Int) (e : TypeId) : Glob := ⟨(0, 0, .int .i64 m) :: powCells, [(1, e, 20)]⟩
theorem vrs1 {M : Mem} {a : AV} {vs : List Value} (h : VRs M [a] vs) : ∃ x, vs = [x] ∧ VR M a x := by
  obtain ⟨h1, h2⟩ := h
  match vs, h1 with
  | [x], _ => exact ⟨x, rfl, h2 0 a x rfl rfl⟩
theorem vrs2 {M : Mem} {a b : AV} {vs : List Value} (h : VRs M [a, b] vs) : ∃ x y, vs = [x, y] ∧ VR M a x ∧ VR M b y := by
  obtain ⟨h1, h2⟩ := h
  match vs, h1 with
  | [x, y], _ => exact ⟨x, y, rfl, h2 0 a x rfl rfl, h2 1 b y rfl rfl⟩
theorem pow_tab {m : Int} {e : TypeId} {w : World} (hc : ∀ x ∈ powCells, w.cell? ⟨x.1, x.2.1, none⟩ = some x.2.2) (hs : w.shape? 1 = some (e, 20)) : Lib.TabIs Tryd.prog w "internal/strconv.uint64pow10" .u64 Lib.pow10Tab := by
  refine tab_of gPow (e := e) hs fun i z hz => ?_
  have hi : i < 20 := (List.getElem?_eq_some_iff.1 hz).1
  have := hc (1, i, .int .u64 (Lib.pow10Tab.getD i 0)) (List.mem_map.2 ⟨i, List.mem_range.2 hi, rfl⟩)
  rw [this, List.getD_eq_getElem?_getD, hz]; rfl
theorem primOk (m : Int) (e : TypeId) : @PrimOk (globOf m e) cfg := by
  letI := globOf m e
  intro f args v h hr0
  rw [cfgPrimF] at h
  unfold primF at h
  rw [cfgP]
  split at h
  · rename_i hf
    subst hf
    split at h
    · rename_i s t
      split at h
      · rename_i hl
        injection h with h
        subst h
        refine valOk_of ⟨_, Tryd.func57, by kernel_rfl, by kernel_rfl⟩ rfl (fun M => VR.bool _) ?_
        intro B M vs hH hv
        obtain ⟨x, y, rfl, hx, hy⟩ := vrs2 hv
        cases hx; cases hy
        have hm : M.w.cell? ⟨0, 0, none⟩ = some (.int .i64 m) := (hH.base.1 (0, 0, .int .i64 m) (List.mem_cons_self ..)).2
        refine Calls.mono (Any.strings_Contains Tryd.lays144 ⟨s.toArray⟩ ⟨t.toArray⟩ m M.w (by simpa [ByteArray.size] using hl) hm) ?_
        rintro e w' ⟨rfl, rfl⟩
        exact ⟨rfl, 0, #[], by simp [World.drewN]⟩
      · cases h
    · cases h
  · split at h
    · rename_i hf
      subst hf
      split at h
      · rename_i n
        split at h
        · rename_i hl
          injection h with h
          subst h
          refine valOk_of ⟨_, Tryd.func38, by kernel_rfl, by kernel_rfl⟩ rfl (fun M => VR.str _) ?_
          intro B M vs hH hv
          obtain ⟨x, rfl, hx⟩ := vrs1 hv
          cases hx
          have htab := pow_tab (m := m) (w := M.w) (e := e) (fun x hx => (hH.base.1 x (List.mem_cons_of_mem _ hx)).2) (hH.base.2 _ (List.mem_cons_self ..))
          refine Calls.mono (Any.strconv_Itoa Tryd.laysM171 n hl.1 hl.2 M.w htab) ?_
          rintro e w' ⟨rfl, k, os, rfl⟩
          exact ⟨rfl, k, os, rfl⟩
        · cases h
      · cases h
    · cases h
/-- what a world that holds the table, and some MaxLen, gives -/
theorem glob_of {W : World} {m : Int} (hm : W.cell? ⟨0, 0, none⟩ = some (.int .i64 m)) (ht : Lib.TabIs Tryd.prog W "internal/strconv.uint64pow10" .u64 Lib.pow10Tab) : ∃ e, (∀ x ∈ (globOf m e).base, W.cell? ⟨x.1, x.2.1, none⟩ = some x.2.2) ∧ ∀ x ∈ (globOf m e).shapes, W.shape? x.1 = some x.2 := by
  have hv := ht
  unfold Lib.TabIs World.var? at hv
  rw [gPow] at hv
  simp only [Option.bind_some] at hv
  split at hv
  · rename_i cs el fr hb
    refine ⟨el, fun x hx => ?_, fun x hx => ?_⟩
    · rcases List.mem_cons.1 hx with rfl | hx
      · exact hm
      · obtain ⟨i, hi, rfl⟩ := List.mem_map.1 hx
        exact ht.cell gPow i (List.mem_range.1 hi)
    · obtain rfl : x = (1, el, 20) := List.mem_singleton.1 hx
      injection hv with hv
      unfold World.shape?
      rw [hb, hv]
      rfl
  · cases hv
end Go.Proofs.YtopedkngffaplaaDoor
end STrydPrim
