/- The interpreter: laws, arguments, answers proved by hand. -/
import Derived.Test.YtopedkngffaplaaDoorVdTop
import Derived.Sort.Grow
import Derived.Lib.LaidTab
import Derived.DataElems
set_option linter.all false
set_option linter.unusedVariables false
set_option linter.unusedSectionVars false
set_option linter.unusedSimpArgs false
section SViPrim
/- Answers proved by hand: a call that leaves all that was as it was, but for new blocks and draws. -/
namespace Go.Vi
open Go
variable [Glob]
theorem moved_grown {B : Nat} {M : Mem} (h : HR B M []) (hB : B ≤ M.w.heap.size) {w' : World} (ho : w'.os = M.w.os) (ht : w'.tape = M.w.tape) (hout : w'.output = M.w.output) (hsz : M.w.heap.size ≤ w'.heap.size)
    (hh : ∀ g, g < M.w.heap.size → w'.heap[g]? = M.w.heap[g]?) : Moved B M [] { M with w := w' } [] := by
  have hlt : ∀ g s, M.w.shape? g = some s → g < M.w.heap.size := by
    intro g s hs
    rcases Nat.lt_or_ge g M.w.heap.size with h1 | h1
    · exact h1
    · rw [World.shape?, Array.getElem?_eq_none h1] at hs; cases hs
  have hE : Ext M { M with w := w' } := ⟨fun _ _ _ h => h, fun g s hs => by
      have hq : w'.shape? g = M.w.shape? g := by unfold World.shape?; rw [hh g (hlt g s hs)]
      show w'.shape? g = some s
      rw [hq]; exact hs, fun _ _ h => h, fun g o v hk hv => by
      have hq : w'.cell? ⟨g, o, none⟩ = M.w.cell? ⟨g, o, none⟩ := by unfold World.cell?; rw [hh g (h.kept g o hk)]
      show w'.cell? ⟨g, o, none⟩ = some v
      rw [hq]; exact hv, hsz⟩
  refine ⟨⟨hE, ⟨ho, ht, hout, hsz, fun k hk => hh k (by omega)⟩, fun g hg _ => ⟨hh g hg, fun _ => Iff.rfl⟩⟩, ?_, ⟨fun b x g hx hg => by simp at hx, fun b hb => by simp at hb⟩⟩
  exact ⟨fun b x hx => by simp at hx, fun b b' x x' g h1 => by simp at h1, h.dom, fun b v g s hs => ⟨(h.low b v g s hs).1, Nat.lt_of_lt_of_le (h.low b v g s hs).2 hsz⟩, fun g o hk => Nat.lt_of_lt_of_le (h.kept g o hk) hsz, h.base_ext hE⟩

theorem valOk_of {P : Program} {f : FuncId} {args : List AV} {v : AV} (hent : Enters P f) (hr : refOk 0 v = true) {y : Value} (hy : ∀ M : Mem, VR M v y)
    (hc : ∀ (B : Nat) (M : Mem) (vs : List Value), HR B M [] → VRs M args vs → Calls P f vs.toArray M.w (fun e w' => e = .returned y ∧ ∃ k os, w' = Sort.grow (M.w.drewN k) os)) : ValOk P f args v := by
  intro B M vs hB hH hv
  refine ⟨hent, hr, Calls.mono (hc B (M.below 0) vs hH hv) ?_⟩
  rintro e w' ⟨rfl, k, os, rfl⟩
  refine ⟨y, { M.below 0 with w := Sort.grow (M.w.drewN k) os }, [], rfl, moved_grown hH hB rfl rfl rfl ?_ ?_, rfl, hy _⟩
  · show M.w.heap.size ≤ (M.w.heap ++ os).size
    rw [Array.size_append]; exact Nat.le_add_right ..
  · intro g hg
    show (M.w.heap ++ os)[g]? = M.w.heap[g]?
    exact Array.getElem?_append_left hg

omit [Glob] in
/-- a table that was laid -/
theorem tab_of {P : Program} {w : World} {name : String} {k : IntKind} {zs : List Int} {g : Nat} {e : TypeId} (hg : P.globalNamed name = some g) (hs : w.shape? g = some (e, zs.length)) (hc : ∀ i z, zs[i]? = some z → w.cell? ⟨g, i, none⟩ = some (.int k z)) : Lib.TabIs P w name k zs := by
  unfold Lib.TabIs World.var?
  rw [hg]
  simp only [Option.bind_some]
  unfold World.shape? at hs
  split at hs
  · rename_i cs el fr hb
    injection hs with hs
    injection hs with h1 h2
    rw [hb]
    simp only [Option.some.injEq]
    apply Array.ext_getElem?
    intro i
    rcases Nat.lt_or_ge i zs.length with hi | hi
    · have := hc i zs[i] (List.getElem?_eq_getElem hi)
      unfold World.cell? at this
      rw [hb] at this
      simp only [List.getElem?_toArray, List.getElem?_map, List.getElem?_eq_getElem hi, Option.map_some]
      exact this
    · rw [Array.getElem?_eq_none (by omega), Array.getElem?_eq_none (by simpa using hi)]
  · cases hs
end Go.Vi
end SViPrim
section SViOpen
/- A law's arguments, opened: what a reading of a value says of it. -/
namespace Go.Vi
open Go
variable [Glob]

def mkE (g : Bool) (cs : List AV) : AV := if g then .agg cs else cs.headD .undef
section
variable {H : Type}
def eachT (f : DataW H → Option (List AV)) : List (DataW H) → Option (List (List AV))
  | [] => some []
  | d :: ds => match f d, eachT f ds with
    | some x, some xs => some (x :: xs)
    | _, _ => none
def partsT (f : TypeId → DataW H → Option (List AV)) : List Field → List (DataW H) → Option (List AV)
  | [], [] => some []
  | fd :: fs, d :: ds => match f fd.type d, partsT f fs ds with
    | some x, some xs => some (x ++ xs)
    | _, _ => none
  | _, _ => none
/-- the cells of a value that reads so -/
def cellsT (P : Program) : Nat → TypeId → DataW H → Option (List AV)
  | 0, _, _ => none
  | n + 1, t, d => match P.underlying t with
    | some .bool => match d with
      | .lit (.bool b) => some [.bool b]
      | _ => none
    | some (.int _) => match d with
      | .lit (.int k m) => some [.int k m]
      | _ => none
    | some .string => match d with
      | .lit (.string s) => some [.str s]
      | _ => none
    | some (.slice e) => match d with
      | .nil => some [.nils]
      | .slice elems _ => match isAggT P e, eachT (cellsT P n e) elems with
        | some g, some xs => some [.view (xs.map (mkE g)) false]
        | _, _ => none
      | _ => none
    | some (.struct fs) => match d with
      | .agg parts => partsT (cellsT P n) fs.toList parts
      | _ => none
    | some (.array _ e) => match d with
      | .agg parts => match eachT (cellsT P n e) parts with
        | some xs => some xs.flatten
        | none => none
      | _ => none
    | _ => none

def okFs (P : Program) (ok : TypeId → Bool) : List Field → Nat → Nat → Bool
  | [], o, n => o == n
  | fd :: fs, o, n => fd.offset == o && ok fd.type && okFs P ok fs (o + P.cellsOf fd.type) n
/-- a type made of bools, whole numbers, strings, slices, structs, arrays -/
def okT (P : Program) : Nat → TypeId → Bool
  | 0, _ => false
  | n + 1, t => match P.underlying t with
    | some .bool => P.cellsOf t == 1
    | some (.int _) => P.cellsOf t == 1
    | some .string => P.cellsOf t == 1
    | some (.slice e) => P.cellsOf t == 1 && okT P n e && decide (0 < P.cellsOf e)
    | some (.struct fs) => okFs P (okT P n) fs.toList 0 (P.cellsOf t)
    | some (.array k e) => P.cellsOf t == k * P.cellsOf e && okT P n e
    | _ => false

theorem mkE_cells {g : Bool} {cs : List AV} (h : g = false → cs.length = 1) (hp : pureCs cs = true) : (mkE g cs).cells = cs := by
  cases g with
  | true => rfl
  | false =>
    match cs, h rfl with
    | [c], _ =>
      simp only [pureCs, Bool.and_true] at hp
      simp only [mkE, Bool.false_eq_true, if_false, List.headD_cons]
      cases c <;> simp_all [pureC, AV.cells]

theorem okT_one {P : Program} {n : Nat} {t : TypeId} (h : okT P n t = true) : ∃ g, isAggT P t = some g ∧ (g = false → P.cellsOf t = 1) := by
  cases n with
  | zero => simp [okT] at h
  | succ n =>
    simp only [okT] at h
    split at h
    · rename_i hu; exact ⟨false, by simp [isAggT, hu], fun _ => by simpa using h⟩
    · rename_i hu; exact ⟨false, by simp [isAggT, hu], fun _ => by simpa using h⟩
    · rename_i hu; exact ⟨false, by simp [isAggT, hu], fun _ => by simpa using h⟩
    · rename_i hu; simp at h; exact ⟨false, by simp [isAggT, hu], fun _ => h.1.1⟩
    · rename_i hu; exact ⟨true, by simp [isAggT, hu], fun h => by cases h⟩
    · rename_i hu; exact ⟨true, by simp [isAggT, hu], fun h => by cases h⟩
    · cases h

variable {enc : TypeId × Value → H} {P : Program} {w : World} {sp : Nat → Bool} {held : Bool}

/-- what opening comes to -/
def Opens (P : Program) (w : World) (m : Nat) (t : TypeId) (cs : List Value) (d : DataW H) : Prop :=
  ∃ avs, cellsT P m t d = some avs ∧ VRs (Mem.start w) avs cs ∧ pureCs avs = true ∧ avs.length = P.cellsOf t

theorem cells_lies {a : Addr} {n : Nat} {vs : List Value} (h : w.cells? 0 a n = some vs) : vs.length = n ∧ ∀ j v, vs[j]? = some v → w.cell? (a.add j) = some v := by
  unfold World.cells? at h
  rw [if_pos (Nat.zero_le _)] at h
  have key : ∀ (n s : Nat) (vs : List Value), (List.range' s n).mapM (fun i => w.cell? (a.add i)) = some vs → vs.length = n ∧ ∀ j v, vs[j]? = some v → w.cell? (a.add (s + j)) = some v := by
    intro n
    induction n with
    | zero => intro s vs h; simp at h; subst h; exact ⟨rfl, fun j v hv => by simp at hv⟩
    | succ n ih =>
      intro s vs h
      rw [List.range'_succ, List.mapM_cons] at h
      simp only [bind, Option.bind_eq_some_iff, pure, Option.some.injEq] at h
      obtain ⟨x, hx, xs, hxs, rfl⟩ := h
      obtain ⟨h1, h2⟩ := ih (s + 1) xs hxs
      refine ⟨by simp [h1], fun j v hv => ?_⟩
      cases j with
      | zero => simp at hv; subst hv; exact hx
      | succ j => rw [show s + (j + 1) = s + 1 + j by omega]; exact h2 j v (by simpa using hv)
  rw [List.range_eq_range'] at h
  obtain ⟨h1, h2⟩ := key n 0 vs h
  exact ⟨h1, fun j v hv => by simpa using h2 j v hv⟩

theorem opens_fields {m : Nat} {r : TypeId → List Value → Option (DataW H × List MemPlace)} (ih : ∀ t cs x, okT P m t = true → r t cs = some x → Opens P w m t cs x.1) :
    ∀ (fs : List Field) (o n : Nat) {cs : List Value} {xs : List (DataW H × List MemPlace)}, okFs P (okT P m) fs o n = true → cs.length = n → fs.mapM (fun f => r f.type ((cs.drop f.offset).take (P.cellsOf f.type))) = some xs →
      o ≤ n ∧ ∃ avs, partsT (cellsT P m) fs (xs.map (·.1)) = some avs ∧ VRs (Mem.start w) avs (cs.drop o) ∧ pureCs avs = true ∧ avs.length + o = n
  | [], o, n, cs, xs, hok, hl, h => by
    simp only [okFs, beq_iff_eq] at hok
    simp at h; subst h; subst hok
    refine ⟨Nat.le_refl _, [], rfl, ?_, rfl, by simp⟩
    rw [List.drop_eq_nil_of_le (by omega)]; exact VRs.nil _
  | f :: fs, o, n, cs, xs, hok, hl, h => by
    simp only [okFs, Bool.and_eq_true, beq_iff_eq] at hok
    obtain ⟨⟨h1, h2⟩, h3⟩ := hok
    rw [List.mapM_cons] at h
    simp only [bind, Option.bind_eq_some_iff, pure, Option.some.injEq] at h
    obtain ⟨x, hx, xs', hxs, rfl⟩ := h
    obtain ⟨a1, e1, v1, p1, l1⟩ := ih _ _ _ h2 hx
    obtain ⟨hle, a2, e2, v2, p2, l2⟩ := opens_fields ih fs _ n h3 hl hxs
    refine ⟨by omega, a1 ++ a2, ?_, ?_, by rw [pureCs_append, p1, p2]; rfl, by rw [List.length_append]; omega⟩
    · simp only [List.map_cons, partsT, e1, e2]
    · rw [h1] at v1
      have := VRs.append v1 v2
      rwa [← List.drop_drop, List.take_append_drop] at this

theorem opens_items {m : Nat} {r : List Value → Option (DataW H × List MemPlace)} {e : TypeId} (ih : ∀ cs x, r cs = some x → Opens P w m e cs x.1) (cs : List Value) :
    ∀ (k j : Nat) {xs : List (DataW H × List MemPlace)}, (List.range' j k).mapM (fun i => r ((cs.drop (i * P.cellsOf e)).take (P.cellsOf e))) = some xs → cs.length = (j + k) * P.cellsOf e →
      ∃ ys, eachT (cellsT P m e) (xs.map (·.1)) = some ys ∧ VRs (Mem.start w) ys.flatten (cs.drop (j * P.cellsOf e)) ∧ pureCs ys.flatten = true
  | 0, j, xs, h, hl => by
    simp at h; subst h
    refine ⟨[], rfl, ?_, rfl⟩
    rw [List.drop_eq_nil_of_le (by simp at hl; omega)]; exact VRs.nil _
  | k + 1, j, xs, h, hl => by
    rw [List.range'_succ, List.mapM_cons] at h
    simp only [bind, Option.bind_eq_some_iff, pure, Option.some.injEq] at h
    obtain ⟨x, hx, xs', hxs, rfl⟩ := h
    obtain ⟨a1, e1, v1, p1, l1⟩ := ih _ _ hx
    obtain ⟨ys, e2, v2, p2⟩ := opens_items ih cs k (j + 1) hxs (by rw [hl]; congr 1; omega)
    refine ⟨a1 :: ys, by simp only [List.map_cons, eachT, e1, e2], ?_, by rw [List.flatten_cons, pureCs_append, p1, p2]; rfl⟩
    have := VRs.append v1 v2
    rw [Nat.add_mul, Nat.one_mul, ← List.drop_drop, List.take_append_drop] at this
    exact this

theorem opens_elems {m : Nat} {e : TypeId} {a : Addr} {r : List Value → Option (DataW H × List MemPlace)} (ih : ∀ cs x, r cs = some x → Opens P w m e cs x.1) :
    ∀ (k j : Nat) {xs : List (DataW H × List MemPlace)}, (List.range' j k).mapM (fun i => (w.cells? 0 (a.add (i * P.cellsOf e)) (P.cellsOf e)).bind r) = some xs →
      ∃ ys vals, eachT (cellsT P m e) (xs.map (·.1)) = some ys ∧ ys.length = k ∧ (∀ y ∈ ys, y.length = P.cellsOf e ∧ pureCs y = true) ∧ VRs (Mem.start w) ys.flatten vals ∧ ∀ i v, vals[i]? = some v → w.cell? ((a.add (j * P.cellsOf e)).add i) = some v
  | 0, j, xs, h => by
    simp at h; subst h
    exact ⟨[], [], rfl, rfl, (fun y hy => by cases hy), VRs.nil _, fun i v hv => by simp at hv⟩
  | k + 1, j, xs, h => by
    rw [List.range'_succ, List.mapM_cons] at h
    simp only [bind, Option.bind_eq_some_iff, pure, Option.some.injEq] at h
    obtain ⟨x, ⟨cs, hcs, hx⟩, xs', hxs, rfl⟩ := h
    obtain ⟨a1, e1, v1, p1, l1⟩ := ih _ _ hx
    obtain ⟨hcl, hcell⟩ := cells_lies hcs
    obtain ⟨ys, vals, e2, l2, c2, v2, h2⟩ := opens_elems ih k (j + 1) hxs
    refine ⟨a1 :: ys, cs ++ vals, by simp only [List.map_cons, eachT, e1, e2], by simp [l2], fun y hy => (List.mem_cons.1 hy).elim (fun e => by subst e; exact ⟨l1, p1⟩) (c2 y), ?_, fun i v hv => ?_⟩
    · rw [List.flatten_cons]; exact VRs.append v1 v2
    · rcases Nat.lt_or_ge i cs.length with hi | hi
      · rw [List.getElem?_append_left hi] at hv; exact hcell i v hv
      · rw [List.getElem?_append_right hi] at hv
        have := h2 _ v hv
        rw [Addr.add_add] at this ⊢
        rw [← this]; congr 2
        rw [Nat.add_mul, Nat.one_mul]; omega

theorem flat_mkE {g : Bool} : ∀ {ys : List (List AV)}, (∀ y ∈ ys, (g = false → y.length = 1) ∧ pureCs y = true) → flat (ys.map (mkE g)) = ys.flatten
  | [], _ => rfl
  | y :: ys, h => by
    simp only [List.map_cons, flat, List.flatten_cons]
    rw [mkE_cells (h y (List.mem_cons_self ..)).1 (h y (List.mem_cons_self ..)).2, flat_mkE fun z hz => h z (List.mem_cons_of_mem _ hz)]

theorem cell_spot {a : Addr} {v : Value} (h : w.cell? a = some v) : a.spot = none := by
  unfold World.cell? at h
  split at h
  · split at h
    · cases h
    · rename_i hs
      cases hq : a.spot with
      | none => rfl
      | some s => exact absurd (by rw [hq]; rfl) hs
  · cases h

/-- THE OPENING. -/
theorem trod_opens : ∀ (m : Nat) (t : TypeId) (n : Nat) (cs : List Value) (x : DataW H × List MemPlace), okT P m t = true → DataW.trod enc P w 0 sp held n t cs = some x → Opens P w m t cs x.1
  | 0, t, n, cs, x, hok, _ => by simp [okT] at hok
  | m + 1, t, 0, cs, x, _, h => by simp [DataW.trod] at h
  | m + 1, t, n + 1, cs, x, hok, h => by
    have ih := fun (t : TypeId) (cs : List Value) (x : DataW H × List MemPlace) (hk : okT P m t = true) (h : DataW.trod enc P w 0 sp held n t cs = some x) => trod_opens m t n cs x hk h
    unfold DataW.trod at h
    split at h
    · rename_i b hu
      injection h with h; subst h
      simp only [okT, hu, beq_iff_eq] at hok
      exact ⟨[.bool b], by simp [cellsT, hu], VRs.cons (.bool b) (VRs.nil _), rfl, by simp [hok]⟩
    · rename_i k k' i hu
      split at h
      · rename_i hc
        injection h with h; subst h
        simp only [okT, hu, beq_iff_eq] at hok
        refine ⟨[.int k i], by simp [cellsT, hu], ?_, rfl, by simp [hok]⟩
        rw [hc.1]
        exact VRs.cons (.int k i) (VRs.nil _)
      · cases h
    · rename_i hu; simp [okT, hu] at hok
    · rename_i s hu
      split at h
      · injection h with h; subst h
        simp only [okT, hu, beq_iff_eq] at hok
        exact ⟨[.str s.data.toList], by simp [cellsT, hu], VRs.cons (.str s.data.toList) (VRs.nil _), rfl, by simp [hok]⟩
      · cases h
    · rename_i hu; simp [okT, hu] at hok
    · rename_i hu; simp [okT, hu] at hok
    · rename_i hu
      injection h with h; subst h
      simp only [okT, hu, Bool.and_eq_true, beq_iff_eq] at hok
      exact ⟨[.nils], by simp [cellsT, hu], VRs.cons (.nils none) (VRs.nil _), rfl, by simp [hok.1.1]⟩
    · rename_i e a len cap hu
      simp only [okT, hu, Bool.and_eq_true, beq_iff_eq, decide_eq_true_eq] at hok
      obtain ⟨⟨h1, h2⟩, h3⟩ := hok
      split at h
      · rename_i hc
        simp only [Option.bind_eq_some_iff, Option.map_eq_some_iff] at h
        obtain ⟨elems, he, rest, hrest, rfl⟩ := h
        rw [List.range_eq_range'] at he
        obtain ⟨ys, vals, e1, l1, c1, v1, hcell⟩ := opens_elems (fun cs x hx => ih e cs x h2 hx) len 0 he
        obtain ⟨g, hg, hg1⟩ := okT_one h2
        have hys : ∀ y ∈ ys, (g = false → y.length = 1) ∧ pureCs y = true := fun y hy => ⟨fun hq => by rw [(c1 y hy).1]; exact hg1 hq, (c1 y hy).2⟩
        refine ⟨[.view (ys.map (mkE g)) false], by simp [cellsT, hu, hg, e1], ?_, ?_, by simp [h1]⟩
        · refine VRs.cons ?_ (VRs.nil _)
          cases hq : ys with
          | nil =>
            rw [hq] at l1; simp at l1; subst l1
            exact .view0 false _ _ (by simp)
          | cons y0 ys0 =>
            rw [← hq]
            have hlen : 0 < vals.length := by
              rw [v1.1, hq, List.flatten_cons, List.length_append, (c1 y0 (by rw [hq]; exact List.mem_cons_self ..)).1]; omega
            have hspot : a.spot = none := by
              have := hcell 0 _ (List.getElem?_eq_getElem hlen)
              rw [Addr.add_add, Nat.zero_mul] at this
              exact cell_spot this
            obtain ⟨ab, ao, asp⟩ := a
            simp only at hspot
            subst hspot
            have hxs : ∀ y ∈ ys.map (mkE g), y.cells.length = P.cellsOf e := by
              intro y hy
              obtain ⟨z, hz, rfl⟩ := List.mem_map.1 hy
              rw [mkE_cells (hys z hz).1 (hys z hz).2]; exact (c1 z hz).1
            have hfl := flat_mkE hys
            have := VR.view (M := Mem.start w) (ys.map (mkE g)) false ab ao (P.cellsOf e) cap vals h3 hxs (by rw [hfl]; exact v1.1)
              (fun j u hu' => by
                have hq' := hcell j u hu'
                rw [Addr.add_add, addr_add, Nat.zero_mul, Nat.zero_add] at hq'
                exact ⟨hq', World.block_lt_of_cell? w _ hq'⟩)
              (by rw [hfl]; exact v1.2) (pureL_of fun j u hu' => by
                obtain ⟨z, hz, rfl⟩ := List.mem_map.1 (List.mem_of_getElem? hu')
                exact pureE_of_cells (by rw [mkE_cells (hys z hz).1 (hys z hz).2]; exact (hys z hz).2)) (by simp [l1]; exact hc.2.1) (by simp)
            simpa [l1] using this
        · simp only [pureCs, pureC, Bool.and_true]
          exact pureL_of fun j u hu' => by
            obtain ⟨z, hz, rfl⟩ := List.mem_map.1 (List.mem_of_getElem? hu')
            exact pureE_of_cells (by rw [mkE_cells (hys z hz).1 (hys z hz).2]; exact (hys z hz).2)
      · cases h
    · rename_i fs hu
      simp only [okT, hu] at hok
      split at h
      · rename_i hl
        simp only [Option.map_eq_some_iff] at h
        obtain ⟨xs, hx, rfl⟩ := h
        obtain ⟨_, avs, e1, v1, p1, l1⟩ := opens_fields (fun t cs x hk hx => ih t cs x hk hx) fs.toList 0 (P.cellsOf t) hok hl hx
        exact ⟨avs, by simpa [cellsT, hu] using e1, by simpa using v1, p1, by simpa using l1⟩
      · cases h
    · rename_i k e hu
      simp only [okT, hu, Bool.and_eq_true, beq_iff_eq] at hok
      split at h
      · rename_i hl
        simp only [Option.map_eq_some_iff] at h
        obtain ⟨xs, hx, rfl⟩ := h
        rw [List.range_eq_range'] at hx
        obtain ⟨ys, e1, v1, p1⟩ := opens_items (fun cs x hx => ih e cs x hok.2 hx) _ k 0 hx (by rw [hl, hok.1]; simp)
        have v1' := v1
        rw [Nat.zero_mul, List.drop_zero] at v1'
        exact ⟨ys.flatten, by simp [cellsT, hu, e1], v1', p1, by rw [← hl, v1'.1]⟩
      · cases h
    all_goals first
      | (rename_i hu; simp [okT, hu] at hok; done)
      | (cases h; done)
      | skip

/-- one argument -/
theorem opens_arg {m : Nat} {t : TypeId} {v : Value} {d : DataW H} {ps : List MemPlace} {r : Reach} {base : Nat} (hok : okT P m t = true) (hv : Value.okWide P w r base t v) (h : DataW.Trod enc P w 0 sp held t v d ps) :
    ∃ g avs, isAggT P t = some g ∧ cellsT P m t d = some avs ∧ VR (Mem.start w) (mkE g avs) v ∧ pureE (mkE g avs) = true := by
  obtain ⟨n, hn⟩ := h
  obtain ⟨avs, e1, v1, p1, l1⟩ := trod_opens m t n _ _ hok hn
  obtain ⟨g, hg, hg1⟩ := okT_one hok
  refine ⟨g, avs, hg, e1, ?_, pureE_of_cells (by rw [mkE_cells (fun hq => by rw [l1]; exact hg1 hq) p1]; exact p1)⟩
  cases g with
  | true =>
    have hagg : ∃ cs, v = .agg cs := by
      unfold isAggT at hg
      unfold Value.okWide at hv
      cases hu : P.underlying t with
      | none => simp [hu] at hg
      | some dd =>
        rw [hu] at hv
        cases dd <;> simp [hu] at hg <;> (obtain ⟨cs, rfl, _⟩ := hv; exact ⟨cs, rfl⟩)
    obtain ⟨cs, rfl⟩ := hagg
    have : VRs (Mem.start w) avs cs.toList := v1
    have := VR.agg (M := Mem.start w) avs cs.toList this.1 this.2
    simpa [mkE] using this
  | false =>
    have hl := hg1 rfl
    rw [hl] at l1
    match avs, l1 with
    | [c], _ =>
      obtain ⟨u, hu, hr⟩ := vrs_one v1
      have hvu : v = u := by
        cases v with
        | agg cs =>
          exfalso
          unfold isAggT at hg
          unfold Value.okWide at hv
          cases hq : P.underlying t with
          | none => simp [hq] at hg
          | some dd =>
            rw [hq] at hv
            cases dd <;> simp [hq] at hg <;> simp [Cell.okWide, Cell.ok, hq] at hv
        | _ => simpa [Value.cells] using hu
      rw [hvu]; exact hr

end
end Go.Vi
end SViOpen
