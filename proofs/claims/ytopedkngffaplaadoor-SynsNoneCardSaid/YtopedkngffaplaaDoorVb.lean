/- The interpreter: each operation is sound. -/
import Derived.Test.YtopedkngffaplaaDoorVa
import Derived.Laws.Cover4
import Derived.Laws.BytesString
import Derived.Lib.ConvBytes
import Derived.Lib.OthersKept
import Derived.Laws.Runes
import Derived.Laws.StructEq
import Derived.Laws.Tables
import Derived.Laws.MakeOwn
import Derived.Laws.RangeString
import Derived.Laws.Slices
import Derived.Lib.AppendStr
import Derived.ChangeKeysEq
set_option linter.all false
set_option linter.unusedVariables false
set_option linter.unusedSectionVars false
set_option linter.unusedSimpArgs false
section SViOpsA
/- The operations against the model's: first part. -/
namespace Go.Vi
open Go Go.RowKit
variable [Glob]

structure Moved (B : Nat) (M : Mem) (H : Heap) (M' : Mem) (H' : Heap) : Prop where
  step : Step B M H M'
  hr : HR B M' H'
  onto : Onto M H M' H'
theorem Moved.refl {B : Nat} {M : Mem} {H : Heap} (h : HR B M H) : Moved B M H M H := ⟨Step.refl _ _ _, h, Onto.refl _ _⟩
theorem Moved.trans {B : Nat} {M M1 M2 : Mem} {H H1 H2 : Heap} (h : Moved B M H M1 H1) (h' : Moved B M1 H1 M2 H2) : Moved B M H M2 H2 :=
  ⟨h.step.trans h.onto h'.step, h'.hr, h.onto.trans h'.onto h.step.ext.size⟩
theorem Frozen.moved {B : Nat} {M M' : Mem} {H H' : Heap} (h : Frozen B M H M' H') : Moved B M H M' H' := ⟨h.step, h.hr, h.onto⟩

/-- the slots against the model's -/
def EnvR (M : Mem) (env : Env) (a : Act) : Prop := env.length = a.tmps.size ∧ ∀ (t : Nat) v x, env[t]? = some v → a.tmps[t]? = some x → VR M v x
theorem EnvR.ext {M M' : Mem} {env : Env} {a : Act} (h : EnvR M env a) (hE : Ext M M') : EnvR M' env a := ⟨h.1, fun t v x hv hx => (h.2 t v x hv hx).ext hE⟩

theorem aval0_vr (M : Mem) (c : Value) : VR M (aval0 c) c := by
  unfold aval0
  split
  · exact .bool _
  · exact .int _ _
  · rename_i s; exact .str s.data.toList
  · exact .nilp
  · exact .nils _
  · exact .nilf
  · exact .nili
  · exact .undef _
theorem aval_vr (M : Mem) (c : Value) : VR M (aval c) c := by
  unfold aval
  split
  · rename_i cs
    refine VR.agg (cs.toList.map aval0) cs.toList (by simp) (fun j u v hu hv => ?_)
    rw [List.getElem?_map, hv] at hu
    simp at hu; subst hu
    exact aval0_vr M v
  · exact aval0_vr M c
theorem ev_vr {M : Mem} {env : Env} {a : Act} (h : EnvR M env a) (x : Operand) : VR M (ev env x) (a.eval x) := by
  cases x with
  | tmp t =>
    simp only [ev, Act.eval]
    cases hv : env[t]? with
    | none => exact .undef _
    | some v =>
      have hlt : t < a.tmps.size := by rw [← h.1]; exact (List.getElem?_eq_some_iff.1 hv).1
      have := h.2 t v _ hv (Array.getElem?_eq_getElem hlt)
      simpa [Array.getD, hlt] using this
  | const c => exact aval_vr M c
  | global g => exact .undef _
  | func f => exact .fn f [] [] rfl (fun _ _ _ h => by simp at h)
theorem evlL_vr {M : Mem} {env : Env} {a : Act} (h : EnvR M env a) (l : List Operand) : VRs M (evlL env l) (l.map a.eval) := by
  induction l with
  | nil => exact VRs.nil M
  | cons x l ih => exact VRs.cons (ev_vr h x) ih
theorem evl_vr {M : Mem} {env : Env} {a : Act} (h : EnvR M env a) (l : Array Operand) : VRs M (evl env l) (l.toList.map a.eval) := evlL_vr h l.toList

/-! ### new boxes -/
def nNils : List AV → Nat
  | [] => 0
  | .nils :: cs => nNils cs + 1
  | _ :: cs => nNils cs
def noNils (n : Nat) : List AV → List AV
  | [] => []
  | .nils :: cs => .undef :: noNils (n + 1) cs
  | c :: cs => c :: noNils n cs

theorem ownNils_snd (n : Nat) (cs : List AV) : (ownNils n cs).2 = List.replicate (nNils cs) (.row 0 [] 0 0) := by
  induction cs generalizing n with
  | nil => rfl
  | cons c cs ih =>
    cases c <;> simp only [ownNils, nNils, ih, List.replicate_succ]
theorem noNils_vrs {M : Mem} (n : Nat) {cs : List AV} {vs : List Value} (h : VRs M cs vs) : VRs M (noNils n cs) vs := by
  induction cs generalizing n vs with
  | nil => exact h
  | cons c cs ih =>
    obtain ⟨v, vs', rfl, h1, h2⟩ := h.inv
    cases c <;> simp only [noNils] <;> first | exact VRs.cons (.undef _) (ih _ h2) | exact VRs.cons h1 (ih _ h2)
theorem ownNils_vrs {M M' : Mem} (hE : Ext M M') (n : Nat) {cs : List AV} {vs : List Value} (h : VRs M cs vs) (hσ : ∀ i, i < nNils cs → M'.σ (n + i) 0 = some none) : VRs M' (ownNils n cs).1 vs := by
  induction cs generalizing n vs with
  | nil => rw [h.inv0]; exact VRs.nil _
  | cons c cs ih =>
    obtain ⟨v, vs', rfl, h1, h2⟩ := h.inv
    have hrest : c ≠ .nils → nNils (c :: cs) = nNils cs := by intro hc; cases c <;> first | rfl | exact absurd rfl hc
    by_cases hc : c = .nils
    · subst hc
      simp only [ownNils]
      refine VRs.cons ?_ (ih (n + 1) h2 (fun i hi => ?_))
      · cases h1 with | nils a => exact .row0 a (by simpa using hσ 0 (by simp [nNils]))
      · have := hσ (i + 1) (by simp [nNils]; omega)
        rwa [show n + (i + 1) = n + 1 + i by omega] at this
    · have := ih n h2 (fun i hi => hσ i (by rw [hrest hc]; exact hi))
      cases c <;> simp only [ownNils] <;> first | exact absurd rfl hc | exact VRs.cons (h1.ext hE) this

theorem new_nones {B : Nat} (k : Nat) : ∀ {M : Mem} {H : Heap}, HR B M H →
    ∃ M', Moved B M H M' (H ++ List.replicate k (.row 0 [] 0 0)) ∧ M'.w = M.w ∧ (∀ i, i < k → M'.σ (H.length + i) 0 = some none) ∧ ∀ b v, b < H.length → M'.σ b v = M.σ b v := by
  induction k with
  | zero => intro M H h; exact ⟨M, by simpa using Moved.refl h, rfl, fun i hi => by omega, fun _ _ _ => rfl⟩
  | succ k ih =>
    intro M H h
    obtain ⟨s1, s2, s3⟩ := new_none h 0
    obtain ⟨M', m, hw, hσ, ho⟩ := ih s2
    refine ⟨M', ?_, hw, fun i hi => ?_, fun b v hb => ?_⟩
    · have := Moved.trans ⟨s1, s2, s3⟩ m
      simpa [List.replicate_succ] using this
    · cases i with
      | zero => rw [Nat.add_zero, ho _ _ (by simp)]; exact put_self ..
      | succ i => have := hσ i (by omega); simp at this; rwa [show H.length + (i + 1) = H.length + 1 + i by omega]
    · rw [ho b v (by simp; omega)]; exact put_other (by omega)

theorem newBox_sound {B : Nat} {M : Mem} {H : Heap} (h : HR B M H) (hB : B ≤ M.w.heap.size) {cs : List AV} {vals : List Value} (hv : VRs M cs vals) (ty : TypeId) :
    ∃ M', Moved B M H M' (newBox H cs).2 ∧ M'.w = M.w.alloc (.cells vals.toArray ty) ∧ VR M' (newBox H cs).1 (.pointer (some ⟨M.w.heap.size, 0, none⟩)) := by
  have hold : ∀ g, g < M.w.heap.size → (M.w.alloc (.cells vals.toArray ty)).heap[g]? = M.w.heap[g]? := fun g hg => heap_alloc_old M.w _ g hg
  have hσn : M.σ H.length 0 = none := by
    cases hq : M.σ H.length 0 with
    | none => rfl
    | some y => have := h.dom _ _ _ hq; omega
  have hE : Ext M (M.put (M.w.alloc (.cells vals.toArray ty)) H.length 0 (some (M.w.heap.size, 0))) := ext_put hσn (shape_old hold) (fun g o u _ hu => cell_old hold g o u hu) (by simp)
  obtain ⟨s1, s2, s3⟩ := new_block h hB hold (by simp) rfl rfl rfl (.box (noNils 0 cs)) 0
    ⟨M.w.heap.size, 0, vals, ty, put_self .., heap_alloc_new M.w _, (noNils_vrs 0 hv).ext hE, fun o hk => by have := h.kept _ o hk; omega⟩
  obtain ⟨M2, m2, hw2, hσ2, ho2⟩ := new_nones (nNils cs) s2
  have hlen : (H ++ [Blk.box (noNils 0 cs)]).length = H.length + 1 := by simp
  have hb : ((H ++ [Blk.box (noNils 0 cs)]) ++ List.replicate (nNils cs) (.row 0 [] 0 0))[H.length]? = some (.box (noNils 0 cs)) := by
    rw [List.append_assoc, List.getElem?_append_right (Nat.le_refl _)]; simp
  have hσb : M2.σ H.length 0 = some (some (M.w.heap.size, 0)) := by rw [ho2 _ _ (by omega)]; exact put_self ..
  have hself : (M2.w.heap)[M.w.heap.size]? = some (.cells vals.toArray ty (0, 0)) := by rw [hw2]; exact heap_alloc_new M.w _
  have hk2 : ∀ o, ¬ M2.kept M.w.heap.size o := by
    obtain ⟨g, z, vals', ty', e1, _, _, e4⟩ := m2.hr.blk _ _ hb
    rw [hσb] at e1; injection e1 with e1; injection e1 with e1; injection e1 with e1 _; subst e1
    exact e4
  obtain ⟨t1, t2, t3⟩ := change (M' := M2) m2.hr hb (x := .box (ownNils (H.length + 1) cs).1) (Ext.refl _) (Below.refl _ _) (fun _ _ _ => rfl) (fun _ _ _ => ⟨rfl, fun _ => Iff.rfl⟩)
    ⟨M.w.heap.size, 0, vals, ty, hσb, hself, ownNils_vrs (hE.trans m2.step.ext) _ hv (fun i hi => by have := hσ2 i hi; rwa [hlen] at this), hk2⟩
    (fun g hg => .inl hg) (fun v g s hs => m2.hr.low _ _ _ _ hs) (fun g o hk => m2.hr.kept g o hk)
  have hH : ((H ++ [Blk.box (noNils 0 cs)]) ++ List.replicate (nNils cs) (Blk.row 0 [] 0 0)).set H.length (.box (ownNils (H.length + 1) cs).1) = (newBox H cs).2 := by
    have e2 := ownNils_snd (H.length + 1) cs
    unfold newBox
    rw [List.append_assoc, List.set_append_right _ _ (Nat.le_refl _)]
    simp [e2]
  rw [hH] at t2 t3
  refine ⟨M2, Moved.trans ⟨s1, s2, s3⟩ (Moved.trans m2 ⟨t1, t2, t3⟩), hw2, ?_⟩
  unfold newBox
  exact .ptr hσb

end Go.Vi
end SViOpsA
section SViOpsB
/- The operations against the model's: second part: each instruction's run. -/
namespace Go.Vi
open Go Go.RowKit
variable [Glob]

theorem oneCell_of {M : Mem} {c : AV} {v : Value} (h : VR M c v) (hk : okCell c = true) : v.oneCell' = true := by
  cases h <;> simp only [okCell, Bool.false_eq_true] at hk <;> rfl
theorem oneCells_of {M : Mem} {cs : List AV} {vs : List Value} (h : VRs M cs vs) (hk : okCells cs = true) : ∀ v ∈ vs, v.oneCell' = true := by
  intro v hv
  obtain ⟨j, hj, rfl⟩ := List.mem_iff_getElem.1 hv
  have hj' : j < cs.length := by rw [← h.1]; exact hj
  exact oneCell_of (h.2 j _ _ (List.getElem?_eq_getElem hj') (List.getElem?_eq_getElem hj)) (okCells_get hk (List.getElem?_eq_getElem hj'))

/-- a value's cells -/
theorem VR.cells {M : Mem} {v : AV} {x : Value} (h : VR M v x) (hk : okCells v.cells = true) : VRs M v.cells x.cells.toList := by
  cases v with
  | agg cs => obtain ⟨vs, rfl, hvs⟩ := h.aggs; simpa [AV.cells, Value.cells] using hvs
  | undef => simp [AV.cells, okCells, okCell] at hk
  | tup _ => simp [AV.cells, okCells, okCell] at hk
  | _ => cases h <;> exact VRs.cons (by constructor <;> assumption) (VRs.nil M)

theorem cells_agg {M : Mem} {cs : List AV} {x : Value} (h : VR M (.agg cs) x) : VRs M cs x.cells.toList := by
  obtain ⟨vs, rfl, hvs⟩ := h.aggs; simpa [Value.cells] using hvs

theorem moveOf_sound {B : Nat} {M : Mem} {H : Heap} (h : HR B M H) {env : Env} {a : Act} (he : EnvR M env a) (x : Operand) :
    ∃ M', Moved B M H M' (moveOf env H x).2 ∧ M'.w = M.w ∧ VR M' (moveOf env H x).1 (a.eval x) := by
  have same : ∀ v, VR M v (a.eval x) → moveOf env H x = (v, H) → ∃ M', Moved B M H M' (moveOf env H x).2 ∧ M'.w = M.w ∧ VR M' (moveOf env H x).1 (a.eval x) :=
    fun v hv he => by rw [he]; exact ⟨M, Moved.refl h, rfl, hv⟩
  unfold moveOf
  split
  · rename_i a0
    obtain ⟨s1, s2, s3⟩ := new_none h 0
    exact ⟨_, ⟨s1, s2, s3⟩, rfl, .row0 a0 (put_self ..)⟩
  · exact ⟨M, Moved.refl h, rfl, .bool _⟩
  · exact ⟨M, Moved.refl h, rfl, .int _ _⟩
  · rename_i s; exact ⟨M, Moved.refl h, rfl, .str s.data.toList⟩
  · exact ⟨M, Moved.refl h, rfl, aval_vr M _⟩
  · exact ⟨M, Moved.refl h, rfl, ev_vr he (.tmp _)⟩
  · exact ⟨M, Moved.refl h, rfl, ev_vr he (.func _)⟩
  · exact ⟨M, Moved.refl h, rfl, .undef _⟩

theorem zeroC_some {P : Program} {t : TypeId} {cs : List AV} (h : zeroC P t = some cs) : ∃ i z, P.info? t = some i ∧ i.zero = some z ∧ cs = z.cells.toList.map aval0 := by
  unfold zeroC at h
  cases hi : P.info? t with
  | none => simp [hi] at h
  | some i =>
    cases hz : i.zero with
    | none => simp [hi, hz] at h
    | some z => simp [hi, hz] at h; exact ⟨i, z, rfl, hz, h.symm⟩
theorem map_aval0_vrs (M : Mem) (l : List Value) : VRs M (l.map aval0) l := by
  induction l with
  | nil => exact VRs.nil M
  | cons v l ih => exact VRs.cons (aval0_vr M v) ih

theorem run_alloc {P : Program} {t : TypeId} {i : TypeInfo} {z : Value} (hi : P.info? t = some i) (hz : i.zero = some z) (w : World) :
    (Instr.alloc t true (.tuple #[])).run P w = .ok (.pointer (some ⟨w.heap.size, 0, none⟩)) (w.alloc (.cells z.cells t)) := by
  simp [Instr.alloc, zeroValue, typeInfo, hi, hz, newVar, newRow]
theorem run_box (P : Program) (t : TypeId) (v : Value) (w : World) :
    (Instr.box t v).run P w = .ok (.pointer (some ⟨w.heap.size, 0, none⟩)) (w.alloc (.cells v.cells t)) := by
  simp [Instr.box, newVar, newRow]

/-- A store. -/
theorem setAt_sound {P : Program} {B : Nat} {M : Mem} {H : Heap} (h : HR B M H) {t : TypeId} {n : Nat} (ht : szOf P t = some n) {ns : List Nat} {p v : AV} {x y : Value} {H' : Heap}
    (hs : setAt H ns n p v = some H') (hx : VR M p x) (hy : VR M v y) : ∃ M', Moved B M H M' H' ∧ (Instr.storeAt t x y).run P M.w = .ok () M'.w := by
  unfold setAt at hs
  split at hs
  · rename_i hc
    obtain ⟨hlen, hok⟩ := hc
    have hcs := hy.cells hok
    have hone := oneCells_of hcs hok
    have hyn : y.cells.size = n := by have := hcs.1; simp at this; omega
    split at hs
    · rename_i b c
      split at hs
      · rename_i cs hb
        split at hs
        · rename_i hcc
          injection hs with hs; subst hs
          obtain ⟨g, z, vals, ty, h1, h2, h3, h4⟩ := h.blk _ _ hb
          cases hx with
          | ptr hσ =>
            rw [h1] at hσ; injection hσ with hσ; injection hσ with hσ; injection hσ with e1 _; subst e1
            obtain ⟨s1, s2, s3⟩ := store_box h hb h1 h2 h3 h4 hcs (c := c) (by rw [hlen]; exact hcc.1)
            refine ⟨_, ⟨s1, s2, s3⟩, ?_⟩
            have := run_storeCells_at P g c ty y.cells.toList 0 vals.toArray M.w h2 (by simp; rw [h3.1, hyn]; omega) hone
            simp only [Nat.add_zero] at this
            simp [Instr.storeAt, Instr.sureAddr, storeVar, run_sizeOf' ht, hyn, this]
        · cases hs
      · cases hs
    · rename_i b ver i c
      split at hs
      · rename_i sz xs ver' fz hb
        split at hs
        · rename_i hcc
          obtain ⟨rfl, hfz, hrf⟩ := hcc
          split at hs
          · rename_i x0 hx0
            split at hs
            · rename_i x1 hx1
              injection hs with hs; subst hs
              obtain ⟨_, _, hsz, _, hr⟩ := h.blk _ _ hb
              cases hx with
              | rptr hσ =>
                rcases hr with ⟨h1, h2⟩ | ⟨g, vals, ty, cap, h1, hz, h2, hl, hcap, h3, h6, h7⟩
                · rw [h1] at hσ; cases hσ
                · rw [h1] at hσ; injection hσ with hσ; injection hσ with hσ; injection hσ with e1 e2; subst e1; subst e2
                  obtain ⟨s1, s2, s3⟩ := store_row h hb h1 hz h2 hl hcap h3 h6 h7 hx0 hfz hx1 hcs hrf
                  refine ⟨_, ⟨s1, s2, s3⟩, ?_⟩
                  obtain ⟨_, hc2⟩ := setSub_cells hx1
                  have hil : i < xs.length := (List.getElem?_eq_some_iff.1 hx0).1
                  have hxs : x0.cells.length = sz := hsz x0 (List.mem_of_getElem? hx0)
                  have hm : i * sz + sz ≤ cap * sz := by rw [← Nat.succ_mul]; exact Nat.mul_le_mul_right _ (by omega)
                  have := run_storeCells_at P g (i * sz + c) ty y.cells.toList 0 vals.toArray M.w h2 (by simp; omega) hone
                  simp only [Nat.add_zero] at this
                  simp [Instr.storeAt, Instr.sureAddr, storeVar, run_sizeOf' ht, hyn, this]
            · cases hs
          · cases hs
        · cases hs
      · cases hs
    · cases hs
  · cases hs

theorem fieldAt_some {P : Program} {s : TypeId} {f : Nat} {d : Nat} {g : Bool} {n : Nat} (h : fieldAt P s f = some (d, g, n)) :
    ∃ fs fd, P.underlying s = some (.struct fs) ∧ fs[f]? = some fd ∧ fd.offset = d ∧ shp P fd.type = some (g, n) ∧ n ≠ 0 := by
  unfold fieldAt at h
  split at h
  · rename_i fs hu
    split at h
    · rename_i fd hf
      split at h
      · rename_i a n' hs
        split at h
        · cases h
        · rename_i hn
          injection h with h; injection h with e1 h; injection h with e2 e3
          subst e1; subst e2; subst e3
          exact ⟨fs, fd, hu, hf, rfl, hs, hn⟩
      · cases h
    · cases h
  · cases h

theorem addCell_vr {M : Mem} {p v : AV} {d : Nat} {x : Value} (h : addCell p d = some v) (hx : VR M p x) : ∃ a, x = .pointer (some a) ∧ VR M v (.pointer (some (a.add d))) := by
  unfold addCell at h
  split at h
  · injection h with h; subst h
    cases hx with | ptr hσ => exact ⟨_, rfl, by rw [addr_add]; exact .ptr hσ⟩
  · injection h with h; subst h
    cases hx with | rptr hσ => exact ⟨_, rfl, by rw [addr_add, Nat.add_assoc]; exact .rptr hσ⟩
  · injection h with h; subst h
    cases hx with | vptr _ _ g o vals hl hc hr hp => exact ⟨_, rfl, by rw [addr_add, Nat.add_assoc]; exact .vptr _ _ g o vals hl hc hr hp⟩
  · cases h

theorem run_fieldAt {P : Program} {s : TypeId} {f d : Nat} {g : Bool} {n : Nat} (h : fieldAt P s f = some (d, g, n)) (a : Addr) (w : World) :
    (Instr.fieldAt s (.pointer (some a)) f).run P w = .ok (.pointer (some (a.add d))) w := by
  obtain ⟨fs, fd, hu, hf, rfl, hs, hn⟩ := fieldAt_some h
  simp [Instr.fieldAt, run_underlying hu, hf, Instr.sureAddr, fieldPlace, run_sizeOf hs, hn]

theorem ixOf_some {P : Program} {t : TypeId} {x : Ix} (h : ixOf P t = some x) :
    (∃ e i, P.underlying t = some (.slice e) ∧ P.info? e = some i ∧ x = .sl i.size i.bytes ∧ ∃ z, i.zero = some z ∧ z.cells.size = i.size) ∨ (∃ n e s, P.underlying t = some (.array n e) ∧ szOf P e = some s ∧ x = .arr n s) ∨
    (P.underlying t = some .string ∧ x = .str) := by
  unfold ixOf at h
  split at h
  · rename_i e hu
    split at h
    · rename_i i hi
      split at h
      · rename_i z hz
        split at h
        · rename_i hzs; injection h with h; exact .inl ⟨e, i, hu, hi, h.symm, z, hz, hzs⟩
        · cases h
      · cases h
    · cases h
  · rename_i n e hu
    split at h
    · rename_i s hs; injection h with h; exact .inr (.inl ⟨n, e, s, hu, hs, h.symm⟩)
    · cases h
  · rename_i hu; injection h with h; exact .inr (.inr ⟨hu, h.symm⟩)
  · cases h
theorem ixOf_sl {P : Program} {t : TypeId} {sz bytes : Nat} (h : ixOf P t = some (.sl sz bytes)) : ∃ e i, P.underlying t = some (.slice e) ∧ P.info? e = some i ∧ i.size = sz ∧ i.bytes = bytes := by
  rcases ixOf_some h with ⟨e, i, h1, h2, h3, _⟩ | ⟨_, _, _, _, _, h3⟩ | ⟨_, h3⟩ <;> cases h3
  exact ⟨e, i, h1, h2, rfl, rfl⟩
theorem ixOf_slz {P : Program} {t : TypeId} {sz bytes : Nat} (h : ixOf P t = some (.sl sz bytes)) : ∃ e i z, P.underlying t = some (.slice e) ∧ P.info? e = some i ∧ i.zero = some z ∧ z.cells.size = i.size ∧ i.size = sz ∧ i.bytes = bytes := by
  rcases ixOf_some h with ⟨e, i, h1, h2, h3, z, h4, h5⟩ | ⟨_, _, _, _, _, h3⟩ | ⟨_, h3⟩ <;> cases h3
  exact ⟨e, i, z, h1, h2, h4, h5, rfl, rfl⟩
theorem ixOf_arr {P : Program} {t : TypeId} {n sz : Nat} (h : ixOf P t = some (.arr n sz)) : ∃ e, P.underlying t = some (.array n e) ∧ szOf P e = some sz := by
  rcases ixOf_some h with ⟨_, _, _, _, h3, _⟩ | ⟨_, e, _, h1, h2, h3⟩ | ⟨_, h3⟩ <;> cases h3
  exact ⟨e, h1, h2⟩
theorem ixOf_str {P : Program} {t : TypeId} (h : ixOf P t = some .str) : P.underlying t = some .string := by
  rcases ixOf_some h with ⟨_, _, _, _, h3, _⟩ | ⟨_, _, _, _, _, h3⟩ | ⟨h1, h3⟩ <;> cases h3
  exact h1
/-- the address of an element -/
theorem run_indexAt {P : Program} {M : Mem} {t : TypeId} {xv v : AV} {x : Value} {k : IntKind} {i : Int} (h : indexAddrOf P t xv i = some v) (hx : VR M xv x) (w : World) :
    ∃ y, (Instr.indexAt t x (.int k i)).run P w = .ok y w ∧ VR M v y := by
  unfold indexAddrOf at h
  split at h
  · rename_i sz bytes xs e hix
    obtain ⟨et, ei, hu, hi, rfl, rfl⟩ := ixOf_sl hix
    split at h
    · rename_i hc
      split at h
      · rename_i y hy
        split at h
        · rename_i hys
          injection h with h; subst h
          have hlen : 0 < xs.length := by have := (List.getElem?_eq_some_iff.1 hy).1; omega
          cases hx with
          | view0 => simp at hlen
          | view _ _ g o sz cap vals h0 hs hl hcl hr hp hcap he =>
            have hsz : y.cells.length = sz := hs y (List.mem_of_getElem? hy)
            rw [hys] at hsz; subst hsz
            have hil : i.toNat < xs.length := (List.getElem?_eq_some_iff.1 hy).1
            have hm : i.toNat * ei.size + ei.size ≤ xs.length * ei.size := by rw [← Nat.succ_mul]; exact Nat.mul_le_mul_right _ hil
            have hfl := flat_length hs
            refine ⟨.pointer (some ⟨g, o + i.toNat * ei.size, none⟩), ?_, ?_⟩
            · simp [Instr.indexAt, asIntOf, run_underlying hu, sizeOf, typeInfo, hi, hc.1, hc.2, addr_add]
            · have := VR.vptr (M := M) y 0 g (o + i.toNat * ei.size) ((vals.drop (i.toNat * ei.size)).take ei.size) (by simp; omega)
                (fun j u hu => by
                  rw [List.getElem?_take] at hu
                  split at hu
                  · rw [List.getElem?_drop] at hu
                    rw [Nat.add_assoc]; exact hcl _ _ hu
                  · cases hu)
                (fun j u v hu hv => by
                  have hj : j < ei.size := by have := (List.getElem?_eq_some_iff.1 hu).1; omega
                  rw [List.getElem?_take, if_pos hj, List.getElem?_drop] at hv
                  exact hr _ u v (by rw [flat_get hs hy hj]; exact hu) hv)
                (pureL_get hp hy)
              simpa using this
        · cases h
      · cases h
    · cases h
  · rename_i sz bytes b ver hs off len hix
    obtain ⟨et, ei, hu, hi, rfl, rfl⟩ := ixOf_sl hix
    split at h
    · rename_i hc
      obtain ⟨hc1, hc2, rfl⟩ := hc
      injection h with h; subst h
      cases hx with
      | row0 => omega
      | rowE => omega
      | row hσ h0 hn hcap hle =>
        rename_i cap g n
        refine ⟨.pointer (some ⟨g, off * ei.size + i.toNat * ei.size, none⟩), ?_, ?_⟩
        · simp [Instr.indexAt, asIntOf, run_underlying hu, sizeOf, typeInfo, hi, hc1, hc2, addr_add]
        · rw [← Nat.add_mul]; exact .rptr hσ
    · cases h
  · rename_i n sz b c hix
    obtain ⟨et, hu, hsz⟩ := ixOf_arr hix
    split at h
    · rename_i hc
      injection h with h; subst h
      cases hx with
      | ptr hσ =>
        rename_i g z
        refine ⟨.pointer (some ⟨g, c + i.toNat * sz, none⟩), ?_, .ptr hσ⟩
        simp [Instr.indexAt, asIntOf, run_underlying hu, Instr.sureAddr, run_sizeOf' hsz, hc.1, hc.2, addr_add]
    · cases h
  · rename_i n sz y c hix
    obtain ⟨et, hu, hsz⟩ := ixOf_arr hix
    split at h
    · rename_i hc
      injection h with h; subst h
      cases hx with
      | vptr _ _ g o vals hl hcl hr hp =>
        refine ⟨.pointer (some ⟨g, o + (c + i.toNat * sz), none⟩), ?_, .vptr y _ g o vals hl hcl hr hp⟩
        simp [Instr.indexAt, asIntOf, run_underlying hu, Instr.sureAddr, run_sizeOf' hsz, hc.1, hc.2, addr_add, Nat.add_assoc]
    · cases h
  · rename_i n sz b ver j c hix
    obtain ⟨et, hu, hsz⟩ := ixOf_arr hix
    split at h
    · rename_i hc
      injection h with h; subst h
      cases hx with
      | rptr hσ =>
        rename_i g z
        refine ⟨.pointer (some ⟨g, j * z + (c + i.toNat * sz), none⟩), ?_, .rptr hσ⟩
        simp [Instr.indexAt, asIntOf, run_underlying hu, Instr.sureAddr, run_sizeOf' hsz, hc.1, hc.2, addr_add, Nat.add_assoc]
    · cases h
  · cases h

end Go.Vi
end SViOpsB
section SViOpsC
/- The operations against the model's: third part: arithmetic, comparisons, conversions, parts. -/
namespace Go.Vi
open Go Go.RowKit
variable [Glob]

theorem run_intOp {P : Program} {M : Mem} {op : BinOp} {k : IntKind} {x y : Int} {v : AV} (h : intOp op k x y = some v) (t : TypeId) (w : World) :
    ∃ z, (binOp op t (.int k x) (.int k y)).run P w = .ok z w ∧ VR M v z := by
  unfold intOp at h
  split at h
  all_goals first
    | (injection h with h; subst h; exact ⟨_, (by simp [binOp, Op.intArith, Op.intCmp]; rfl), by constructor⟩)
    | (split at h
       · cases h
       · rename_i hy; injection h with h; subst h; exact ⟨_, (by simp [binOp, Op.intDiv, Op.shift, hy]; rfl), by constructor⟩)
    | skip
  all_goals
    split at h
    · rename_i n hb
      injection h with h; subst h
      refine ⟨.int k n, ?_, .int k n⟩
      cases op <;> simp [bitsOp] at hb <;> simp_all [binOp, Op.intBits]
    · cases h

theorem run_shiftOp {P : Program} {M : Mem} {op : BinOp} (hop : op = .shl ∨ op = .shr) {k k' : IntKind} {x y : Int} {v : AV} (h : intOp op k x y = some v) (t : TypeId) (w : World) :
    ∃ z, (binOp op t (.int k x) (.int k' y)).run P w = .ok z w ∧ VR M v z := by
  rcases hop with rfl | rfl <;> simp only [intOp] at h <;> split at h
  · cases h
  · rename_i hy; injection h with h; subst h; exact ⟨_, (by simp [binOp, Op.shift, hy]; rfl), by constructor⟩
  · cases h
  · rename_i hy; injection h with h; subst h; exact ⟨_, (by simp [binOp, Op.shift, hy]; rfl), by constructor⟩

theorem ba_toList (s : List UInt8) : (⟨s.toArray⟩ : ByteArray).toList = s := by rw [ByteArray.toList_eq]
theorem ba_size (s : List UInt8) : (⟨s.toArray⟩ : ByteArray).size = s.length := by simp [ByteArray.size]
theorem ba_append (s t : List UInt8) : (⟨s.toArray⟩ : ByteArray) ++ ⟨t.toArray⟩ = ⟨(s ++ t).toArray⟩ := by
  apply ByteArray.ext; simp

theorem run_strOp {P : Program} {M : Mem} {op : BinOp} {x y : List UInt8} {v : AV} (h : strOp op x y = some v) (t : TypeId) (w : World) :
    ∃ z, (binOp op t (.string ⟨x.toArray⟩) (.string ⟨y.toArray⟩)).run P w = .ok z w ∧ VR M v z := by
  unfold strOp at h
  split at h
  · split at h
    · rename_i hc
      injection h with h; subst h
      refine ⟨.string ⟨(x ++ y).toArray⟩, ?_, .str _⟩
      have : ¬ (9223372036854775807 < (x.length : Int) + (y.length : Int)) := by unfold maxRoom at hc; omega
      simp [binOp, Op.stringOp, ba_size, ba_append, IntKind.max, IntKind.signed, IntKind.bits, this]
    · cases h
  · injection h with h; subst h; exact ⟨_, by simp [binOp, Op.stringOp, ba_toList], .bool _⟩
  · injection h with h; subst h; exact ⟨_, by simp [binOp, Op.stringOp, ba_toList], .bool _⟩
  · injection h with h; subst h; exact ⟨_, by simp [binOp, Op.stringOp, ba_toList], .bool _⟩
  · cases h

theorem underlying_bool_eq {P : Program} (t : TypeId) (a b : Bool) (w : World) (hu : P.underlying t = some .bool) :
    (binOp .eql t (.bool a) (.bool b)).run P w = .ok (.bool (a == b)) w ∧ (binOp .neq t (.bool a) (.bool b)).run P w = .ok (.bool !(a == b)) w := by
  simp [binOp, Op.equal, Op.maxDepth, run_equalIn_bool w 9999 t a b hu]

/-! conversions -/
theorem runesOf_some {cs : List AV} {s : List UInt8} (h : runesOf cs = some s) : ∃ ns : List Int, cs = ns.map (AV.int .i32) ∧ s = (runesBytes ns).data.toList := by
  induction cs generalizing s with
  | nil => simp [runesOf] at h; subst h; exact ⟨[], rfl, by simp [runesBytes]⟩
  | cons c cs ih =>
    unfold runesOf at h
    split at h
    · rename_i e; cases e
    · rename_i n cs' e
      injection e with e1 e2; subst e1; subst e2
      split at h
      · rename_i l hl
        injection h with h; subst h
        obtain ⟨ns, rfl, rfl⟩ := ih hl
        refine ⟨n :: ns, rfl, ?_⟩
        have : ∀ (ns : List Int) (s : ByteArray), (ns.foldl (fun r n => r ++ Utf8.encode n) s).data.toList = s.data.toList ++ (ns.foldl (fun r n => r ++ Utf8.encode n) ByteArray.empty).data.toList := by
          intro ns
          induction ns with
          | nil => intro s; simp
          | cons m ns ih2 =>
            intro s
            simp only [List.foldl_cons]
            rw [ih2 (s ++ Utf8.encode m), ih2 (ByteArray.empty ++ Utf8.encode m)]
            simp [ByteArray.data_append]
        unfold runesBytes
        rw [List.foldl_cons, this ns (ByteArray.empty ++ Utf8.encode n)]
        simp
      · cases h
    · cases h
theorem bytesOf_some {cs : List AV} {s : List UInt8} (h : bytesOf cs = some s) : ∃ ns : List Int, cs = ns.map (AV.int .u8) ∧ s = ns.map (fun n => UInt8.ofNat n.toNat) := by
  induction cs generalizing s with
  | nil => simp [bytesOf] at h; subst h; exact ⟨[], rfl, rfl⟩
  | cons c cs ih =>
    unfold bytesOf at h
    split at h
    · rename_i e; cases e
    · rename_i n cs' e
      injection e with e1 e2; subst e1; subst e2
      split at h
      · rename_i l hl
        injection h with h; subst h
        obtain ⟨ns, rfl, rfl⟩ := ih hl
        exact ⟨n :: ns, rfl, rfl⟩
      · cases h
    · cases h
theorem foldl_push (ns : List Int) : ∀ r : ByteArray, ns.foldl (fun r n => r.push (UInt8.ofNat n.toNat)) r = ⟨(r.data.toList ++ ns.map (fun n => UInt8.ofNat n.toNat)).toArray⟩ := by
  induction ns with
  | nil => intro r; simp
  | cons n ns ih =>
    intro r
    rw [List.foldl_cons, ih]
    simp [ByteArray.push]

/-- elements of a slice, read off memory -/
theorem elemsOf_some {B : Nat} {M : Mem} {H : Heap} (h : HR B M H) {v : AV} {x : Value} {xs : List AV} (he : elemsOf H v = some xs) (hx : VR M v x) :
    (∃ s, x = .string ⟨List.toArray s⟩ ∧ v = .str s) ∨
    (pureL xs = true ∧ ∃ a len cap, x = .slice a len cap ∧ len = xs.length ∧ (xs ≠ [] → ∃ g o sz vals, a = some ⟨g, o, none⟩ ∧ 0 < sz ∧ (∀ y ∈ xs, y.cells.length = sz) ∧ VRs M (flat xs) vals ∧ ∀ j u, vals[j]? = some u → M.w.cell? ⟨g, o + j, none⟩ = some u)) := by
  unfold elemsOf at he
  split at he
  · injection he with he; subst he
    cases hx with | nils a => exact .inr ⟨rfl, a, 0, 0, rfl, rfl, fun hn => absurd rfl hn⟩
  · injection he with he; subst he
    cases hx with
    | view0 e a cap _ => exact .inr ⟨rfl, a, 0, cap, rfl, rfl, fun hn => absurd rfl hn⟩
    | view _ e g o sz cap vals h0 hs hl hc hr hp hcap _ =>
      exact .inr ⟨hp, _, _, cap, rfl, rfl, fun _ => ⟨g, o, sz, vals, rfl, h0, hs, ⟨hl, hr⟩, fun j u hu => (hc j u hu).1⟩⟩
  · rename_i b ver hs off len
    split at he
    · rename_i sz xs0 ver' fz hb
      split at he
      · rename_i hc
        obtain ⟨rfl, hn⟩ := hc
        injection he with he; subst he
        obtain ⟨_, hpl, hsz, _, hr⟩ := h.blk _ _ hb
        have hlen : ((xs0.drop off).take len).length = len := by simp; omega
        refine .inr ⟨pureL_take (pureL_drop hpl _) _, ?_⟩
        rcases hr with ⟨h1, rfl⟩ | ⟨g, vals, ty, cap, h1, hz, h2, hl, hcap, h3, _⟩
        · have e0 : len = 0 := by simp at hn; omega
          subst e0
          cases hx with
          | row0 a _ => exact ⟨a, 0, 0, rfl, by simp, fun hne => absurd (by simp) hne⟩
          | rowE a _ => exact ⟨a, 0, 0, rfl, by simp, fun hne => absurd (by simp) hne⟩
          | row hσ => rw [h1] at hσ; cases hσ
        · cases hx with
          | row0 a h' => rw [h1] at h'; cases h'
          | rowE a _ => exact ⟨a, 0, 0, rfl, by simp, fun hne => absurd (by simp) hne⟩
          | row hσ h0 hsh hc hle =>
            rename_i cap' g' n'
            rw [h1] at hσ; injection hσ with hσ; injection hσ with hσ; injection hσ with e1 e2; subst e1; subst e2
            have hfl := flat_length hsz
            have hm : (off + len) * sz ≤ xs0.length * sz := Nat.mul_le_mul_right _ hn
            have hm2 : xs0.length * sz ≤ cap * sz := Nat.mul_le_mul_right _ hcap
            rw [Nat.add_mul] at hm
            refine ⟨_, len, cap', rfl, hlen.symm, fun _ => ⟨g, off * sz, sz, (vals.drop (off * sz)).take (len * sz), rfl, hz, fun y hy => hsz y (List.mem_of_mem_drop (List.mem_of_mem_take hy)), ?_, ?_⟩⟩
            · rw [flat_take (fun y hy => hsz y (List.mem_of_mem_drop hy)), flat_drop hsz]
              have := (h3.drop (off * sz)).take (len * sz)
              rwa [List.drop_take, List.take_take, Nat.min_eq_left (by omega)] at this
            · intro j u hu
              rw [List.getElem?_take] at hu
              split at hu
              · rw [List.getElem?_drop] at hu; exact row_lies h2 hu
              · cases hu
      · cases he
    · cases he
  · rename_i s
    cases hx with | str => exact .inl ⟨s, rfl, rfl⟩
  · cases he

theorem ints_vals {M : Mem} {k : IntKind} {ns : List Int} {vals : List Value} (h : VRs M (flat (ns.map (AV.int k))) vals) : vals = ns.map (Value.int k) := by
  induction ns generalizing vals with
  | nil => exact h.inv0
  | cons n ns ih =>
    obtain ⟨v, vs, rfl, h1, h2⟩ := VRs.inv (c := .int k n) (cs := flat (ns.map (AV.int k))) h
    cases h1
    rw [ih h2]; rfl

theorem cvOf_some {P : Program} {s d : TypeId} {c : Cv} (h : cvOf P s d = some c) : 
    (∃ k k', c = .int k ∧ P.underlying s = some (.int k') ∧ P.underlying d = some (.int k)) ∨
    (c = .string ∧ P.underlying d = some .string ∧ (P.underlying s = some .string ∨ ∃ k, P.underlying s = some (.int k))) ∨
    (c = .bytes ∧ P.underlying s = some .string ∧ ∃ e, P.underlying d = some (.slice e) ∧ P.underlying e = some (.int .u8)) ∨
    (c = .ofBytes ∧ P.underlying d = some .string ∧ ∃ e, P.underlying s = some (.slice e) ∧ P.underlying e = some (.int .u8)) ∨
    (c = .ofRunes ∧ P.underlying d = some .string ∧ ∃ e, P.underlying s = some (.slice e) ∧ P.underlying e = some (.int .i32)) := by
  unfold cvOf at h
  split at h
  · rename_i hs hd
    injection h with h; subst h; exact .inl ⟨_, _, rfl, hs, hd⟩
  · rename_i e hs hd
    split at h
    · injection h with h; subst h; rename_i he; exact .inr (.inr (.inr (.inl ⟨rfl, hd, e, hs, he⟩)))
    · injection h with h; subst h; rename_i he; exact .inr (.inr (.inr (.inr ⟨rfl, hd, e, hs, he⟩)))
    · cases h
  · rename_i hs hd
    injection h with h; subst h
    exact .inr (.inl ⟨rfl, hd, .inl hs⟩)
  · rename_i hs hd
    injection h with h; subst h
    exact .inr (.inl ⟨rfl, hd, .inr ⟨_, hs⟩⟩)
  · rename_i e hs hd
    split at h
    · injection h with h; subst h; rename_i he; exact .inr (.inr (.inl ⟨rfl, hs, e, hd, he⟩))
    · cases h
  · cases h

end Go.Vi
end SViOpsC
section SViOpsD
/- The operations against the model's: fourth part: conversions. -/
namespace Go.Vi
open Go Go.RowKit Go.Lib
variable [Glob]

theorem bytes_vals (M : Mem) (s : List UInt8) : VRs M (flat (s.map fun c => AV.int .u8 c.toNat)) (s.map fun c => Value.int .u8 c.toNat) := by
  induction s with
  | nil => exact VRs.nil M
  | cons c s ih => exact VRs.cons (.int _ _) ih
theorem flat_bytes_length (s : List UInt8) : (flat (s.map fun c => AV.int .u8 c.toNat)).length = s.length := by
  induction s with
  | nil => rfl
  | cons c s ih => simp [flat, AV.cells, ih]
theorem pureL_bytes (s : List UInt8) : pureL (s.map fun c => AV.int .u8 c.toNat) = true := by
  induction s with
  | nil => rfl
  | cons c s ih => simp [pureL, pureE, ih]

theorem convert_sound {P : Program} {B : Nat} {M : Mem} {H : Heap} (h : HR B M H) (hB : B ≤ M.w.heap.size) {src dst : TypeId} {xv v : AV} {x : Value} {H' : Heap} (hc : convertOf P H src dst xv = some (v, H')) (hx : VR M xv x) :
    ∃ M' y, Moved B M H M' H' ∧ (convert src dst x).run P M.w = .ok y M'.w ∧ VR M' v y := by
  unfold convertOf at hc
  split at hc
  · rename_i k k' n hcv
    injection hc with hc; injection hc with e1 e2; subst e1; subst e2
    rcases cvOf_some hcv with ⟨k1, k2, e, hs, hd⟩ | ⟨e, _⟩ | ⟨e, _⟩ | ⟨e, _⟩ | ⟨e, _⟩ <;> try (cases e; done)
    injection e with e; subst e
    cases hx
    exact ⟨M, .int k (k.wrap n), Moved.refl h, by simp [convert, run_underlying hs, run_underlying hd, Conv.intToInt], .int _ _⟩
  · rename_i s hcv
    injection hc with hc; injection hc with e1 e2; subst e1; subst e2
    rcases cvOf_some hcv with ⟨k1, k2, e, _⟩ | ⟨_, hd, hs⟩ | ⟨e, _⟩ | ⟨e, _⟩ | ⟨e, _⟩ <;> try (cases e; done)
    cases hx
    refine ⟨M, _, Moved.refl h, ?_, .str s⟩
    rcases hs with hs | ⟨k, hs⟩ <;> simp [convert, run_underlying hs, run_underlying hd]
  · rename_i k n hcv
    injection hc with hc; injection hc with e1 e2; subst e1; subst e2
    rcases cvOf_some hcv with ⟨k1, k2, e, _⟩ | ⟨_, hd, hs⟩ | ⟨e, _⟩ | ⟨e, _⟩ | ⟨e, _⟩ <;> try (cases e; done)
    cases hx
    refine ⟨M, .string (Utf8.encode n), Moved.refl h, ?_, .str (Utf8.encode n).data.toList⟩
    rcases hs with hs | ⟨k, hs⟩ <;> simp [convert, run_underlying hs, run_underlying hd, Conv.intToString]
  · rename_i s hcv
    split at hc
    · injection hc with hc; injection hc with e1 e2; subst e1; subst e2
      rcases cvOf_some hcv with ⟨k1, k2, e, _⟩ | ⟨e, _⟩ | ⟨_, hs, e, hd, he⟩ | ⟨e, _⟩ | ⟨e, _⟩ <;> try (cases e; done)
      cases hx
      have hrun := run_convert_string_bytes (P := P) M.w src dst e ⟨s.toArray⟩ hs hd he
      have hold : ∀ g, g < M.w.heap.size → (bytesWorld M.w e ⟨s.toArray⟩).heap[g]? = M.w.heap[g]? := fun g hg => bytesWorld_at_old M.w e _ g hg
      have hnew := bytesWorld_at_new M.w e ⟨s.toArray⟩
      have hsz : M.w.heap.size < (bytesWorld M.w e ⟨s.toArray⟩).heap.size := (Array.getElem?_eq_some_iff.1 hnew).1
      have hge : s.length ≤ grownCap M.w (ByteArray.size ⟨s.toArray⟩) 0 e := by
        have := grownCap_ge M.w (ByteArray.size ⟨s.toArray⟩) 0 e
        rwa [ba_size] at this ⊢
      have hcells : ∀ j u, (s.map fun c => Value.int .u8 c.toNat)[j]? = some u → (bytesWorld M.w e ⟨s.toArray⟩).cell? ⟨M.w.heap.size, j, none⟩ = some u := by
        intro j u hu
        have hj : j < s.length := by have := (List.getElem?_eq_some_iff.1 hu).1; simpa using this
        simp only [World.cell?, hnew, bytesCells]
        simp only [Option.isSome_none, Bool.false_eq_true, if_false]
        rw [Array.getElem?_append_left (by simpa using hj)]
        simpa using hu
      refine ⟨{ M with w := bytesWorld M.w e ⟨s.toArray⟩, kept := fun g o => M.kept g o ∨ (g = M.w.heap.size ∧ o < s.length) }, _, ?_, hrun, ?_⟩
      · have hE : Ext M { M with w := bytesWorld M.w e ⟨s.toArray⟩, kept := fun g o => M.kept g o ∨ (g = M.w.heap.size ∧ o < s.length) } :=
          ⟨fun _ _ _ h => h, shape_old hold, fun _ _ h => .inl h, fun g o u _ hu => cell_old hold g o u hu, Nat.le_of_lt hsz⟩
        have hk : ∀ g o, g < M.w.heap.size → ((M.kept g o ∨ (g = M.w.heap.size ∧ o < s.length)) ↔ M.kept g o) := fun g o hg => ⟨fun h => h.elim id (fun h => by omega), .inl⟩
        refine ⟨⟨hE, ⟨by simp [bytesWorld, World.freeze, World.alloc, World.drew, -World.alloc_eq, -World.drew_eq], by simp [bytesWorld, World.freeze, World.alloc, World.drew, -World.alloc_eq, -World.drew_eq], by simp [bytesWorld, World.freeze, World.alloc, World.drew, -World.alloc_eq, -World.drew_eq], Nat.le_of_lt hsz, fun k hk => hold k (by omega)⟩, fun g hg _ => ⟨hold g hg, fun o => hk g o hg⟩⟩, ?_, ⟨fun b y g hb hg => .inr ⟨y, hb, hg⟩, fun b hb => ⟨hb, fun _ => rfl⟩⟩⟩
        refine ⟨fun b y hb => (h.blk b y hb).carry hE (fun _ h => h) (fun g hg => ?_), fun b b' y y' g h1 h2 h3 h4 => h.apart b b' y y' g h1 h2 h3 h4, h.dom, fun b v g s hs => ?_, fun g o hk => ?_, h.base_ext hE⟩
        · obtain ⟨v, s', hs'⟩ := gOf_σ hg
          have hlt := (h.low _ _ _ _ hs').2
          exact ⟨hold g hlt, fun o => hk g o hlt⟩
        · have := h.low _ _ _ _ hs; exact ⟨this.1, Nat.lt_trans this.2 hsz⟩
        · rcases hk with hk | ⟨rfl, _⟩
          · exact Nat.lt_trans (h.kept g o hk) hsz
          · exact hsz
      · rw [show ByteArray.size ⟨s.toArray⟩ = s.length from ba_size s] at *
        cases hsn : s with
        | nil => exact .view0 false _ _ (by simp)
        | cons c0 s0 =>
          rw [← hsn]
          have hv := bytes_vals { M with w := bytesWorld M.w e ⟨s.toArray⟩, kept := fun g o => M.kept g o ∨ (g = M.w.heap.size ∧ o < s.length) } s
          have := VR.view (M := { M with w := bytesWorld M.w e ⟨s.toArray⟩, kept := fun g o => M.kept g o ∨ (g = M.w.heap.size ∧ o < s.length) }) (s.map fun c => AV.int .u8 c.toNat) false M.w.heap.size 0 1 (grownCap M.w s.length 0 e) (s.map fun c => Value.int .u8 c.toNat) (by omega)
            (fun x hx => by obtain ⟨c, _, rfl⟩ := List.mem_map.1 hx; rfl) hv.1
            (fun j u hu => by
              have hj : j < s.length := by have := (List.getElem?_eq_some_iff.1 hu).1; simpa using this
              exact ⟨by rw [Nat.zero_add]; exact hcells j u hu, .inr ⟨rfl, by omega⟩⟩) hv.2 (pureL_bytes s) (by simpa using hge) (by simp)
          simpa using this
    · cases hc
  · rename_i hcv
    split at hc
    · cases hc
    rename_i hstr
    split at hc
    · rename_i l hl
      split at hc
      · rename_i s hs
        injection hc with hc; injection hc with e1 e2; subst e1; subst e2
        rcases cvOf_some hcv with ⟨k1, k2, e, _⟩ | ⟨e, _⟩ | ⟨e, _⟩ | ⟨_, hd, e, hsr, he⟩ | ⟨e, _⟩ <;> try (cases e; done)
        obtain ⟨ns, rfl, rfl⟩ := bytesOf_some hs
        rcases elemsOf_some h hl hx with ⟨s, rfl, rfl⟩ | ⟨_, a, len, cap, rfl, rfl, hne⟩
        · exact absurd rfl hstr
        · refine ⟨M, .string ⟨(ns.map fun n => UInt8.ofNat n.toNat).toArray⟩, Moved.refl h, ?_, .str _⟩
          rw [run_convert_bytes_string (P := P) M.w src dst e a _ cap hsr he hd]
          cases ns with
          | nil =>
            cases a with
            | none => simp [Conv.bytesToString]; rfl
            | some a => rw [run_bytesToString M.w a _ cap [] (by simp [loadCells, loadCellsFrom])]; rfl
          | cons n ns =>
            obtain ⟨g, o, sz, vals, rfl, h0, hsz, hv, hcell⟩ := hne (by simp)
            rw [ints_vals hv] at hcell
            have hload := run_loadCells_list (P := P) M.w ⟨g, o, none⟩ ((n :: ns).map (Value.int .u8)) (fun j u hu => by rw [addr_add]; exact hcell j u hu)
            rw [run_bytesToString M.w ⟨g, o, none⟩ _ cap (n :: ns) (by simpa using hload), foldl_push]
            simp
      · cases hc
    · cases hc
  · rename_i hcv
    split at hc
    · cases hc
    rename_i hstr
    split at hc
    · rename_i l hl
      split at hc
      · rename_i s hs
        injection hc with hc; injection hc with e1 e2; subst e1; subst e2
        rcases cvOf_some hcv with ⟨k1, k2, e, _⟩ | ⟨e, _⟩ | ⟨e, _⟩ | ⟨e, _⟩ | ⟨_, hd, e, hsr, he⟩ <;> try (cases e; done)
        obtain ⟨ns, rfl, rfl⟩ := runesOf_some hs
        rcases elemsOf_some h hl hx with ⟨s, rfl, rfl⟩ | ⟨_, a, len, cap, rfl, rfl, hne⟩
        · exact absurd rfl hstr
        · refine ⟨M, .string (runesBytes ns), Moved.refl h, ?_, .str (runesBytes ns).data.toList⟩
          rw [run_convert_runes_string (P := P) M.w src dst e a _ cap hsr he hd]
          cases ns with
          | nil =>
            cases a with
            | none => simp [Conv.runesToString]; rfl
            | some a => rw [run_runesToString M.w a _ cap [] (by simp [loadCells, loadCellsFrom])]
          | cons n ns =>
            obtain ⟨g, o, sz, vals, rfl, h0, hsz, hv, hcell⟩ := hne (by simp)
            rw [ints_vals hv] at hcell
            have hload := run_loadCells_list (P := P) M.w ⟨g, o, none⟩ ((n :: ns).map (Value.int .i32)) (fun j u hu => by rw [addr_add]; exact hcell j u hu)
            rw [run_runesToString M.w ⟨g, o, none⟩ _ cap (n :: ns) (by simpa using hload)]
      · cases hc
    · cases hc
  · cases hc

end Go.Vi
end SViOpsD
section SViOpsE
/- The operations against the model's: fifth part: structs, arrays, rows that are built. -/
namespace Go.Vi
open Go Go.RowKit
variable [Glob]

theorem VR.cells' {M : Mem} {v : AV} {x : Value} (h : VR M v x) (hk : solid v = true) : VRs M v.cells x.cells.toList := by
  cases v with
  | agg cs => obtain ⟨vs, rfl, hvs⟩ := h.aggs; simpa [AV.cells, Value.cells] using hvs
  | undef => simp [solid] at hk
  | tup _ => simp [solid] at hk
  | _ => cases h <;> exact VRs.cons (by constructor <;> assumption) (VRs.nil M)

theorem set_cells (off : Nat) (d : List Value) : ∀ (k : Nat) (cells : Array Value), off + k + d.length ≤ cells.size →
    ((d.zipIdx k).foldl (fun cs p => cs.setIfInBounds (off + p.2) p.1) cells).toList = cells.toList.take (off + k) ++ d ++ cells.toList.drop (off + k + d.length) := by
  induction d with
  | nil => intro k cells h; simp
  | cons v d ih =>
    intro k cells h
    simp only [List.length_cons] at h
    rw [List.zipIdx_cons, List.foldl_cons, ih _ _ (by simp; omega), Array.toList_setIfInBounds]
    have hlen : off + k < cells.toList.length := by simp; omega
    have hA : (cells.toList.set (off + k) v).take (off + k + 1) = cells.toList.take (off + k) ++ [v] := by
      rw [List.take_add_one, List.take_set_of_le (Nat.le_refl _), List.getElem?_set_self hlen]; rfl
    have hB : (cells.toList.set (off + k) v).drop (off + k + 1 + d.length) = cells.toList.drop (off + k + 1 + d.length) := List.drop_set_of_lt (by omega)
    rw [show off + (k + 1) = off + k + 1 by omega, hA, hB, List.length_cons, show off + k + (d.length + 1) = off + k + 1 + d.length by omega]
    simp

theorem fill_cons {place : Nat → Option (Nat × Nat)} {i off : Nat} {v : Value} {rest : List (Nat × Value)} {cells : Array Value} (hp : place i = some (off, v.cells.size)) (h : off + v.cells.size ≤ cells.size) :
    Instr.fill place cells ((i, v) :: rest) = Instr.fill place (cells.toList.take off ++ v.cells.toList ++ cells.toList.drop (off + v.cells.size)).toArray rest := by
  have he : v.cells.zipIdx.foldl (fun cs (c, j) => cs.setIfInBounds (off + j) c) cells = (cells.toList.take off ++ v.cells.toList ++ cells.toList.drop (off + v.cells.size)).toArray := by
    apply Array.ext'
    rw [← Array.foldl_toList, Array.toList_zipIdx]
    have := set_cells off v.cells.toList 0 cells (by simpa using h)
    simpa using this
  have hn : ¬ cells.size < off + v.cells.size := by omega
  simp only [Instr.fill, hp]
  rw [he]
  simp [hn]

/-- parts and their values -/
inductive PR (M : Mem) : List (Nat × AV) → List (Nat × Value) → Prop
  | nil : PR M [] []
  | cons {i : Nat} {v : AV} {x : Value} {l : List (Nat × AV)} {l' : List (Nat × Value)} (h : VR M v x) (h' : PR M l l') : PR M ((i, v) :: l) ((i, x) :: l')

theorem evs_pr {M : Mem} {env : Env} {a : Act} (h : EnvR M env a) (l : List (Nat × Operand)) : PR M (evsL env l) (l.map fun (i, x) => (i, a.eval x)) := by
  induction l with
  | nil => exact .nil
  | cons p l ih => exact .cons (ev_vr h p.2) ih

theorem fillC_sound {M : Mem} {pl : List (Nat × Nat)} {place : Nat → Option (Nat × Nat)} (hpl : ∀ i : Nat, place i = pl[i]?) {parts : List (Nat × AV)} {vparts : List (Nat × Value)} (hp : PR M parts vparts) :
    ∀ {cs cs' : List AV} {vals : Array Value}, VRs M cs vals.toList → solidL parts = true → fillC pl cs parts = some cs' → ∃ vals', Instr.fill place vals vparts = some vals' ∧ VRs M cs' vals'.toList := by
  induction hp with
  | nil => intro cs cs' vals hv _ hf; simp [fillC] at hf; subst hf; exact ⟨vals, rfl, hv⟩
  | @cons i v x l l' hx _ ih =>
    intro cs cs' vals hv hs hf
    simp only [solidL, Bool.and_eq_true] at hs
    simp only [fillC] at hf
    split at hf
    · rename_i d n hi
      split at hf
      · rename_i hc
        have hxc := hx.cells' hs.1
        have hxl : x.cells.size = v.cells.length := by have := hxc.1; simpa using this
        have hvl : vals.size = cs.length := by have := hv.1; simpa using this
        rw [fill_cons (off := d) (by rw [hpl, hi, hxl, hc.1]) (by omega)]
        refine ih ?_ hs.2 hf
        have := VRs.splice hv hxc d
        simpa using this
      · cases hf
    · cases hf

theorem inOrder_fill {M : Mem} {s : Nat} : ∀ {parts : List (Nat × AV)} {vparts : List (Nat × Value)}, PR M parts vparts → ∀ (i : Nat) {vals : Array Value}, inOrder i parts = true → allSz s parts = true → solidL parts = true → vals.size = (i + parts.length) * s →
    ∃ ds, Instr.fill (fun i => some (i * s, s)) vals vparts = some (vals.toList.take (i * s) ++ ds).toArray ∧ VRs M (cellsOfL parts) ds := by
  intro parts vparts hp
  induction hp with
  | nil => intro i vals _ _ _ hz; refine ⟨[], ?_, VRs.nil M⟩; simp at hz; simp [Instr.fill, List.take_of_length_le, hz]
  | @cons j v x l l' hx _ ih =>
    intro i vals h1 h2 h3 hz
    simp only [inOrder, Bool.and_eq_true, decide_eq_true_eq] at h1
    simp only [allSz, Bool.and_eq_true, decide_eq_true_eq] at h2
    simp only [solidL, Bool.and_eq_true] at h3
    obtain ⟨rfl, h1⟩ := h1
    have hxc := hx.cells' h3.1
    have hxl : x.cells.size = s := by have := hxc.1; simp at this; omega
    simp only [List.length_cons] at hz
    have hm : (j + (l.length + 1)) * s = j * s + s + l.length * s := by rw [Nat.add_mul, Nat.add_mul]; omega
    rw [fill_cons (off := j * s) (by rw [hxl]) (by omega)]
    have hsz : (vals.toList.take (j * s) ++ x.cells.toList ++ vals.toList.drop (j * s + x.cells.size)).toArray.size = (j + 1 + l.length) * s := by
      simp [hxl]; rw [show (j + 1 + l.length) * s = j * s + s + l.length * s by rw [Nat.add_mul, Nat.add_mul]; omega]; omega
    obtain ⟨ds, e1, e2⟩ := ih (j + 1) h1 h2.2 h3.2 hsz
    refine ⟨x.cells.toList ++ ds, ?_, VRs.append hxc e2⟩
    rw [e1]
    congr 2
    rw [← List.append_assoc]
    congr 1
    simp only []
    rw [List.take_append_of_le_length (by simp [hxl, Nat.add_mul]; omega)]
    exact List.take_of_length_le (by simp [hxl, Nat.add_mul]; omega)

theorem placesOf_some {P : Program} {t : TypeId} {pl : List (Nat × Nat)} (h : placesOf P t = some pl) : ∃ fs, P.underlying t = some (.struct fs) ∧ fs.toList.mapM (fun f => (P.info? f.type).map fun i => (f.offset, i.size)) = some pl := by
  unfold placesOf at h
  split at h
  · rename_i fs hu; exact ⟨fs, hu, h⟩
  · cases h

theorem build_sound {P : Program} {M : Mem} {t : TypeId} {parts : List (Nat × AV)} {v : AV} (h : buildOf P t parts = some v) {vparts : Array (Nat × Value)} (hp : PR M parts vparts.toList) (w : World) :
    ∃ y, (Instr.build t vparts).run P w = .ok y w ∧ VR M v y := by
  unfold buildOf at h
  split at h
  · rename_i hsol
    split at h
    · rename_i z hz
      obtain ⟨it, z0, hit, hz0, rfl⟩ := zeroC_some hz
      split at h
      · rename_i n s hix
        obtain ⟨e, hu, hse⟩ := ixOf_arr hix
        split at h
        · rename_i hc
          injection h with h; subst h
          cases hie : P.info? e with
          | none => simp [szOf, hie] at hse
          | some ie =>
            simp [szOf, hie] at hse
            subst hse
            obtain ⟨ds, e1, e2⟩ := inOrder_fill hp 0 (vals := z0.cells) hc.1 hc.2.2.1 hsol (by have := hc.2.2.2; simp at this; rw [this, hc.2.1]; simp)
            refine ⟨.agg ds.toArray, run_build w t vparts _ (by simp [Program.built, hit, hu, hz0, hie, e1]), ?_⟩
            exact .agg _ ds e2.1 e2.2
        · cases h
      · cases h
      · split at h
        · rename_i pl hpl
          split at h
          · rename_i cs hcs
            injection h with h; subst h
            obtain ⟨fs, hu, hm⟩ := placesOf_some hpl
            obtain ⟨vals', e1, e2⟩ := fillC_sound (pl := pl) (place := fun i => pl[i]?) (fun _ => rfl) hp (vals := z0.cells) (map_aval0_vrs M _) hsol hcs
            refine ⟨.agg vals', run_build w t vparts _ (by simp [Program.built, hit, hu, hz0, hm, e1]), ?_⟩
            have := VR.agg (M := M) cs vals'.toList e2.1 e2.2
            simpa using this
          · cases h
        · cases h
    · cases h
  · cases h

theorem run_partOf {P : Program} {M : Mem} {t : TypeId} {g : Bool} {n c : Nat} (ht : shp P t = some (g, n)) {cs : List AV} {vs : List Value} (hv : VRs M cs vs) {v : AV} (h : sub g c n (.agg cs) = some v) (w : World) :
    ∃ y, (part t vs.toArray c).run P w = .ok y w ∧ VR M v y := by
  unfold sub at h
  simp only at h
  cases g with
  | true =>
    simp only [if_true] at h
    split at h
    · rename_i hc
      injection h with h; subst h
      have := (hv.drop c).take n
      refine ⟨.agg ((vs.drop c).take n).toArray, ?_, .agg _ _ this.1 this.2⟩
      simp [part, run_isAgg ht, run_sizeOf ht]
    · cases h
  | false =>
    simp only [Bool.false_eq_true, if_false] at h
    obtain ⟨u, hu, hr⟩ := hv.get h
    exact ⟨u, by simp [part, run_isAgg ht, hu], hr⟩

theorem field_sound {P : Program} {M : Mem} {s : TypeId} {f d n : Nat} {g : Bool} (hf : fieldAt P s f = some (d, g, n)) {cs : List AV} {x : Value} (hx : VR M (.agg cs) x) {v : AV} (h : sub g d n (.agg cs) = some v) (w : World) :
    ∃ y, (Instr.field s x f).run P w = .ok y w ∧ VR M v y := by
  obtain ⟨fs, fd, hu, hfd, rfl, hs, hn⟩ := fieldAt_some hf
  obtain ⟨vs, rfl, hv⟩ := hx.aggs
  obtain ⟨y, e1, e2⟩ := run_partOf hs hv h w
  exact ⟨y, by simp [Instr.field, run_underlying hu, hfd, asAgg, e1], e2⟩

end Go.Vi
end SViOpsE
section SViOpsF
/- The operations against the model's: sixth part: new rows, places in arrays and strings, iterators. -/
namespace Go.Vi
open Go Go.RowKit
variable [Glob]

theorem evsL_snd (env : Env) (l : List (Nat × Operand)) : (evsL env l).map (·.2) = evlL env (l.map (·.2)) := by
  induction l with
  | nil => rfl
  | cons p l ih => simp [evsL, evlL, ih]

/-- parts with others in their stead -/
def swap : List (Nat × AV) → List AV → List (Nat × AV)
  | p :: ps, x :: xs => (p.1, x) :: swap ps xs
  | _, _ => []
theorem pr_vrs {M : Mem} {l : List (Nat × AV)} {l' : List (Nat × Value)} (h : PR M l l') : VRs M (l.map (·.2)) (l'.map (·.2)) := by
  induction h with
  | nil => exact VRs.nil M
  | cons h _ ih => exact VRs.cons h ih
theorem swap_pr {M M' : Mem} {l : List (Nat × AV)} {l' : List (Nat × Value)} (h : PR M l l') : ∀ {xs : List AV}, VRs M' xs (l'.map (·.2)) → PR M' (swap l xs) l' := by
  induction h with
  | nil => intro xs _; cases xs <;> exact .nil
  | @cons i v x l l' h _ ih =>
    intro xs hx
    cases xs with
    | nil => have := hx.1; simp at this
    | cons y ys =>
      obtain ⟨v', vs', e, h1, h2⟩ := hx.inv
      simp only [List.map_cons, List.cons.injEq] at e
      obtain ⟨rfl, rfl⟩ := e
      exact .cons h1 (ih h2)
theorem swap_inOrder : ∀ {l : List (Nat × AV)} {xs : List AV} (i : Nat), inOrder i l = true → inOrder i (swap l xs) = true
  | [], _, _, _ => rfl
  | p :: l, [], _, _ => rfl
  | p :: l, x :: xs, i, h => by
    simp only [inOrder, Bool.and_eq_true, decide_eq_true_eq] at h
    simp [swap, inOrder, h.1, swap_inOrder (i + 1) h.2]
theorem swap_allSz {s : Nat} : ∀ {l : List (Nat × AV)} {xs : List AV}, (∀ x ∈ xs, x.cells.length = s) → allSz s (swap l xs) = true
  | [], _, _ => rfl
  | p :: l, [], _ => rfl
  | p :: l, x :: xs, h => by
    simp [swap, allSz, h x (List.mem_cons_self ..), swap_allSz (l := l) (fun y hy => h y (List.mem_cons_of_mem _ hy))]
theorem swap_len : ∀ {l : List (Nat × AV)} {xs : List AV}, xs.length = l.length → (swap l xs).length = l.length
  | [], _, _ => rfl
  | p :: l, [], h => by simp at h
  | p :: l, x :: xs, h => by simp [swap, swap_len (l := l) (xs := xs) (by simpa using h)]
theorem swap_cells : ∀ {l : List (Nat × AV)} {xs : List AV}, xs.length = l.length → cellsOfL (swap l xs) = flat xs
  | [], [], _ => rfl
  | [], _ :: _, h => by simp at h
  | p :: l, [], h => by simp at h
  | p :: l, x :: xs, h => by simp [swap, cellsOfL, flat, swap_cells (l := l) (xs := xs) (by simpa using h)]
theorem solid_pure {x : AV} (h : pureE x = true) : solid x = true := by cases x <;> simp_all [pureE, solid]
theorem swap_solid : ∀ {l : List (Nat × AV)} {xs : List AV}, pureL xs = true → solidL (swap l xs) = true
  | [], _, _ => rfl
  | p :: l, [], _ => rfl
  | p :: l, x :: xs, h => by
    simp only [pureL, Bool.and_eq_true] at h
    simp [swap, solidL, solid_pure h.1, swap_solid (l := l) h.2]

theorem parts_ok {s : Nat} : ∀ {l : List (Nat × AV)}, okCells (cellsOfL l) = true → allSz s l = true → ∀ e ∈ l.map (·.2), okCells e.cells = true ∧ e.cells.length = s
  | [], _, _ => fun _ h => by simp at h
  | p :: l, h1, h2 => by
    simp only [cellsOfL, okCells_append, Bool.and_eq_true] at h1
    simp only [allSz, Bool.and_eq_true, decide_eq_true_eq] at h2
    intro e he
    simp only [List.map_cons, List.mem_cons] at he
    rcases he with rfl | he
    · exact ⟨h1.1, h2.1⟩
    · exact parts_ok h1.2 h2.2 e he

/-- a new row, in a world with one block more -/
theorem new_row {B : Nat} {M : Mem} {H : Heap} (h : HR B M H) (hB : B ≤ M.w.heap.size) {w' : World} (hold : ∀ g, g < M.w.heap.size → w'.heap[g]? = M.w.heap[g]?)
    (hsz : M.w.heap.size < w'.heap.size) (ho : w'.os = M.w.os) (ht : w'.tape = M.w.tape) (hout : w'.output = M.w.output) {sz : Nat} (hz : 0 < sz) {xs : List AV} (hp : pureL xs = true)
    (hxs : ∀ x ∈ xs, x.cells.length = sz) {vals : List Value} {ty : TypeId} {cap : Nat} (hnew : w'.heap[M.w.heap.size]? = some (.cells vals.toArray ty (0, 0))) (hl : vals.length = cap * sz) (hcap : xs.length ≤ cap)
    (hv : VRs M (flat xs) (vals.take (flat xs).length)) :
    ∃ M', Moved B M H M' (H ++ [.row sz xs 0 0]) ∧ M'.w = w' ∧ VR M' (.row H.length 0 sz 0 xs.length) (.slice (some ⟨M.w.heap.size, 0, none⟩) xs.length cap) := by
  have hσn : ∀ v, M.σ H.length v = none := fun v => by
    cases hq : M.σ H.length v with
    | none => rfl
    | some y => have := h.dom _ _ _ hq; omega
  have hE : Ext M (M.put w' H.length 0 (some (M.w.heap.size, sz))) := ext_put (hσn 0) (shape_old hold) (fun g o u _ hu => cell_old hold g o u hu) (Nat.le_of_lt hsz)
  obtain ⟨s1, s2, s3⟩ := new_block h hB hold hsz ho ht hout (.row sz xs 0 0) sz
    ⟨Nat.zero_le _, hp, hxs, fun v hv => by rw [put_other (by omega)]; exact hσn v, .inr ⟨M.w.heap.size, vals, ty, cap, put_self .., hz, hnew, hl, hcap, hv.ext hE, fun o _ hk => by have := h.kept _ o hk; omega, fun o ho => by omega⟩⟩
  refine ⟨_, ⟨s1, s2, s3⟩, rfl, ?_⟩
  have := VR.row (M := M.put w' H.length 0 (some (M.w.heap.size, sz))) (b := H.length) (ver := 0) (off := 0) (len := xs.length) (cap := cap) (g := M.w.heap.size) (sz := sz) (n := vals.length)
    (put_self ..) hz ⟨ty, by simp [Mem.put, World.shape?, hnew]⟩ (by simp [hl]) hcap
  simpa using this

theorem buildSlice_sound {P : Program} {B : Nat} {M : Mem} {H : Heap} (h : HR B M H) (hB : B ≤ M.w.heap.size) {t : TypeId} {sz bytes n : Nat} (hix : ixOf P t = some (.sl sz bytes)) (hz : 0 < sz) (hn : n * sz ≤ 1048576)
    {parts : List (Nat × AV)} {vparts : Array (Nat × Value)} (hp : PR M parts vparts.toList) (h1 : inOrder 0 parts = true) (h2 : parts.length = n) (h3 : allSz sz parts = true) (h4 : okCells (cellsOfL parts) = true) {xs : List AV} {H' : Heap} (hf : frzL (parts.map (·.2)) H = some (xs, H')) :
    ∃ M' y, Moved B M H M' (H' ++ [.row sz xs 0 0]) ∧ (Instr.buildSlice t n vparts).run P M.w = .ok y M'.w ∧ VR M' (.row H'.length 0 sz 0 n) y := by
  obtain ⟨e, i, z0, hu, hi, hz0, _, rfl, rfl⟩ := ixOf_slz hix
  obtain ⟨M1, f1, r1⟩ := frzL_sound _ h (pr_vrs hp) hf
  obtain ⟨k1, k2⟩ := frzL_elems _ i.size h (pr_vrs hp) (parts_ok h4 h3) hf
  have hxl : xs.length = parts.length := by have := frzL_length _ hf; simpa using this
  obtain ⟨ds, e1, e2⟩ := inOrder_fill (M := M1) (s := i.size) (swap_pr hp r1) 0 (vals := if n * i.size = 0 then #[] else (Array.range (n * i.size)).map (z0.cells[· % z0.cells.size]!))
    (swap_inOrder 0 h1) (swap_allSz k2) (swap_solid k1) (by rw [swap_len hxl, h2]; split <;> simp_all)
  rw [swap_cells hxl] at e2
  have hfl := flat_length k2
  have hdl : ds.length = n * i.size := by rw [e2.1, hfl, hxl, h2]
  have hB1 : B ≤ M1.w.heap.size := by rw [f1.w]; exact hB
  obtain ⟨M2, m2, hw2, hr2⟩ := new_row (w' := M1.w.alloc (.cells ds.toArray e)) f1.hr hB1 (fun g hg => heap_alloc_old M1.w _ g hg) (by simp) rfl rfl rfl hz k1 k2 (vals := ds) (cap := n) (heap_alloc_new M1.w _) hdl (by omega)
    (by rw [List.take_of_length_le (by rw [e2.1]; exact Nat.le_refl _)]; exact e2)
  rw [hxl, h2] at hr2
  refine ⟨M2, _, f1.moved.trans m2, ?_, hr2⟩
  have hnz : ¬ (16777216 < n * i.size) := by omega
  rw [hw2, f1.w]
  by_cases hn0 : n * i.size = 0
  · have hd0 : ds = [] := List.eq_nil_of_length_eq_zero (by omega)
    subst hd0
    have e1' : Instr.fill (fun j => some (j * i.size, i.size)) #[] vparts.toList = some #[] := by
      rw [if_pos hn0] at e1
      simpa using e1
    simp [Instr.buildSlice, run_underlying hu, sizeOf, typeInfo, hi, hnz, hn0, Array.range_zero', e1', newRow]
  · have e1' : Instr.fill (fun j => some (j * i.size, i.size)) ((Array.range (n * i.size)).map (z0.cells[· % z0.cells.size]!)) vparts.toList = some ds.toArray := by
      rw [if_neg hn0] at e1
      simpa using e1
    simp [Instr.buildSlice, run_underlying hu, sizeOf, typeInfo, zeroValue, hi, hz0, hnz, hn0, e1', newRow]

theorem flat_replicate (n : Nat) (x : AV) : flat (List.replicate n x) = (List.replicate n x.cells).flatten := by
  induction n with
  | zero => rfl
  | succ n ih => simp [List.replicate_succ, flat, ih]
theorem madeCells_vrs {M : Mem} {z : List AV} {zs : Array Value} (h : VRs M z zs.toList) (n : Nat) : VRs M (List.replicate n z).flatten (madeCells zs (n * zs.size)).toList := by
  have hl : (List.replicate n z).flatten.length = n * zs.size := by have h1 := h.1; simp at h1; simp [List.length_flatten, h1]
  refine ⟨by simp [madeCells, hl], fun j u v hu hv => ?_⟩
  have hzl : z.length = zs.size := by have := h.1; simpa using this.symm
  have hj : j < n * zs.size := by rw [← hl]; exact (List.getElem?_eq_some_iff.1 hu).1
  have hpos : 0 < zs.size := by
    rcases Nat.eq_zero_or_pos zs.size with h0 | h0
    · rw [h0] at hj; simp at hj
    · exact h0
  have hlt := Nat.mod_lt j hpos
  have hv' : v = zs[j % zs.size]! := by
    simp [madeCells, hj] at hv
    exact hv.symm
  have hu' : z[j % zs.size]? = some u := by
    clear hv hv' hl
    induction n generalizing j with
    | zero => simp at hj
    | succ n ih =>
      rw [List.replicate_succ, List.flatten_cons] at hu
      by_cases hjz : j < zs.size
      · rw [List.getElem?_append_left (by omega)] at hu; rwa [Nat.mod_eq_of_lt hjz]
      · rw [List.getElem?_append_right (by omega), hzl] at hu
        have := ih (j - zs.size) hu (by rw [Nat.add_mul] at hj; omega) (Nat.mod_lt _ hpos)
        rwa [← Nat.mod_eq_sub_mod (by omega)] at this
  refine h.2 _ u v hu' ?_
  rw [hv']
  simp [hlt]

theorem makeSlice_sound {P : Program} {B : Nat} {M : Mem} {H : Heap} (h : HR B M H) (hB : B ≤ M.w.heap.size) {t e : TypeId} {sz bytes : Nat} (hix : ixOf P t = some (.sl sz bytes)) (hu : P.underlying t = some (.slice e)) {z : List AV} (hzc : zeroC P e = some z)
    {kl kc : IntKind} {l : Int} (h0 : 0 ≤ l) (hl : l ≤ 4294967296) (hb : bytes ≤ 4096) (hz : 0 < sz) (hzl : z.length = sz) (hrf : refFreeL z = true) {g : Bool} (hg : isAggT P e = some g) (hg1 : g = false → sz = 1) :
    ∃ M' y, Moved B M H M' (H ++ [.row sz (List.replicate l.toNat (if g then .agg z else (z.head?).getD .undef)) 0 0]) ∧ (Instr.makeSlice t (.int kl l) (.int kc l)).run P M.w = .ok y M'.w ∧ VR M' (.row H.length 0 sz 0 l.toNat) y := by
  obtain ⟨e', i, hu', hi, rfl, rfl⟩ := ixOf_sl hix
  rw [hu] at hu'; injection hu' with hu'; injection hu' with hu'; subst hu'
  obtain ⟨i', z0, hi', hz0, rfl⟩ := zeroC_some hzc
  rw [hi] at hi'; injection hi' with hi'; subst hi'
  have hcells : (if g then AV.agg (z0.cells.toList.map aval0) else ((z0.cells.toList.map aval0).head?).getD .undef).cells = z0.cells.toList.map aval0 := by
    cases g with
    | true => rfl
    | false =>
      have h1 := hg1 rfl
      rw [h1] at hzl
      cases hc : z0.cells.toList.map aval0 with
      | nil => rw [hc] at hzl; simp at hzl
      | cons c cs =>
        rw [hc] at hzl hrf
        have : cs = [] := List.eq_nil_of_length_eq_zero (by simpa using hzl)
        subst this
        simp only [refFreeL, Bool.and_eq_true] at hrf
        cases c <;> simp_all [AV.cells, refFree]
  have hvs := map_aval0_vrs M z0.cells.toList
  have hpz := refFreeL_pure hvs hrf
  have hzs : z0.cells.size = i.size := by simpa using hzl
  have hmade := madeCells_vrs hvs l.toNat
  have hrun := run_make (P := P) M.w t e i z0 hu hi hz0 kl kc l l h0 (Int.le_refl _) (by
    have h1 : (i.bytes : Int) * l ≤ 4096 * l := Int.mul_le_mul_of_nonneg_right (by omega) h0
    omega) (by omega)
  generalize hx : (if g then AV.agg (z0.cells.toList.map aval0) else ((z0.cells.toList.map aval0).head?).getD .undef) = x at hcells
  have hpx : pureE x = true := pureE_of_cells (by rw [hcells]; exact hpz)
  have hrep : ∀ n, pureL (List.replicate n x) = true := fun n => by
    induction n with
    | zero => rfl
    | succ n ih => simp [List.replicate_succ, pureL, hpx, ih]
  have hml : (madeCells z0.cells (l.toNat * i.size)).toList.length = l.toNat * i.size := by simp [madeCells]
  have hfl : flat (List.replicate l.toNat x) = (List.replicate l.toNat (z0.cells.toList.map aval0)).flatten := by rw [flat_replicate, hcells]
  obtain ⟨M2, m2, hw2, hr2⟩ := new_row (w' := M.w.alloc (.cells (madeCells z0.cells (l.toNat * i.size)) e)) h hB (fun g hg => heap_alloc_old M.w _ g hg) (by simp) rfl rfl rfl hz (hrep l.toNat)
    (fun y hy => by rw [List.eq_of_mem_replicate hy, hcells]; exact hzl) (vals := (madeCells z0.cells (l.toNat * i.size)).toList) (cap := l.toNat) (by simpa using heap_alloc_new M.w _) hml (by simp)
    (by rw [hfl, List.take_of_length_le (by rw [hml]; simp [List.length_flatten, hzs])]; rw [hzs] at hmade; exact hmade)
  simp only [List.length_replicate] at hr2
  exact ⟨M2, _, m2, by rw [hw2]; exact hrun, hr2⟩

end Go.Vi
end SViOpsF
section SViOpsG
/- The operations against the model's: seventh part: slicing, places in arrays and strings, iterators, lengths. -/
namespace Go.Vi
open Go Go.RowKit
variable [Glob]

theorem ev_int {M : Mem} {env : Env} {a : Act} (h : EnvR M env a) {x : Operand} {k : IntKind} {n : Int} (hx : ev env x = .int k n) : a.eval x = .int k n := by
  have := ev_vr h x
  rw [hx] at this
  generalize a.eval x = y at this
  cases this; rfl

theorem bnd_some {d n : Int} {env : Env} {o : Option Operand} (h : bnd d (o.map (ev env)) = some n) : (o = none ∧ n = d) ∨ ∃ x k, o = some x ∧ ev env x = .int k n := by
  cases o with
  | none => simp [bnd] at h; exact .inl ⟨rfl, h.symm⟩
  | some x =>
    simp only [Option.map_some] at h
    unfold bnd at h
    split at h
    · rename_i hc; cases hc
    · rename_i k m e; injection e with e; injection h with h; subst h; exact .inr ⟨x, k, rfl, e⟩
    · cases h

theorem bnds_run {P : Program} {M : Mem} {env : Env} {a : Act} (he : EnvR M env a) {n : Nat} {lo hi mx : Option Operand} {l h : Nat} {ex : Bool}
    (hb : bnds n (lo.map (ev env)) (hi.map (ev env)) (mx.map (ev env)) = some (l, h, ex)) {cap : Nat} (hcap : n ≤ cap) (isS : Bool) (w : World) :
    (Instr.sliceBounds isS n cap (lo.map a.eval) (hi.map a.eval) (mx.map a.eval)).run P w = .ok (l, h, if ex then h else cap) w ∧ l ≤ h ∧ h ≤ n ∧ (ex = false → mx = none) := by
  unfold bnds at hb
  split at hb
  · rename_i l0 h0 el eh
    split at hb
    · rename_i hc
      obtain ⟨c1, c2, c3⟩ := hc
      have key : ∀ (m : Nat), h0 ≤ m → m ≤ cap → ∀ code code', (match hi.map a.eval with | some v => (Instr.sliceBound v m code).run P w | none => .ok n w) = .ok h0.toNat w ∧
          (match lo.map a.eval with | some v => (Instr.sliceBound v h0.toNat code').run P w | none => .ok 0 w) = .ok l0.toNat w := by
        intro m hm hmc code code'
        constructor
        · rcases bnd_some eh with ⟨rfl, rfl⟩ | ⟨x, k, rfl, hx⟩
          · simp
          · simp only [Option.map_some, ev_int he hx]; rw [run_sliceBound_if, if_pos (by omega)]
        · rcases bnd_some el with ⟨rfl, rfl⟩ | ⟨x, k, rfl, hx⟩
          · simp
          · simp only [Option.map_some, ev_int he hx]; rw [run_sliceBound_if, if_pos (by omega)]
      split at hb
      · rename_i hm
        have hmx : mx = none := by cases mx with | none => rfl | some x => simp at hm
        subst hmx
        injection hb with hb; injection hb with e1 hb; injection hb with e2 e3; subst e1; subst e2; subst e3
        obtain ⟨k1, k2⟩ := key cap (by omega) (Nat.le_refl _) (if isS = true then .sliceAcap else .sliceAlen) .sliceB
        refine ⟨?_, by omega, by omega, fun _ => rfl⟩
        cases hi with
        | none =>
          cases lo with
          | none =>
            simp only [Option.map_none, Result.ok.injEq, and_true] at k1 k2
            simp [Instr.sliceBounds, ← k1, ← k2]
          | some x =>
            simp only [Option.map_none, Option.map_some, Result.ok.injEq, and_true] at k1 k2
            simp [Instr.sliceBounds, ← k1] at k2 ⊢
            simp [k2]
        | some y =>
          cases lo with
          | none =>
            simp only [Option.map_none, Option.map_some, Result.ok.injEq, and_true] at k1 k2
            simp [Instr.sliceBounds, k1, ← k2]
          | some x =>
            simp only [Option.map_some] at k1 k2
            simp [Instr.sliceBounds, k1, k2]
      · rename_i k m hm
        split at hb
        · rename_i hmh
          obtain ⟨hs, rfl⟩ := hmh
          injection hb with hb; injection hb with e1 hb; injection hb with e2 e3; subst e1; subst e2; subst e3
          cases mx with
          | none => simp at hm
          | some z =>
            have hz : ev env z = .int k m := by simpa using hm
            have hmb : ∀ code, (Instr.sliceBound (a.eval z) cap code).run P w = .ok m.toNat w := fun code => by rw [ev_int he hz, run_sliceBound_if, if_pos (by omega)]
            obtain ⟨k1, k2⟩ := key m.toNat (by omega) (by omega) .slice3B .slice3C
            refine ⟨?_, by omega, by omega, fun h => by cases h⟩
            cases hi with
            | none => simp at hs
            | some y =>
              cases lo with
              | none =>
                simp only [Option.map_none, Option.map_some, Result.ok.injEq, and_true] at k1 k2
                simp [Instr.sliceBounds, hmb, k1, ← k2]
              | some x =>
                simp only [Option.map_some] at k1 k2
                simp [Instr.sliceBounds, hmb, k1, k2]
        · cases hb
      · cases hb
    · cases hb
  · cases hb

theorem allLen_mem {sz : Nat} {xs : List AV} (h : allLen sz xs = true) : ∀ x ∈ xs, x.cells.length = sz := by
  induction xs with
  | nil => intro x hx; cases hx
  | cons y ys ih =>
    simp only [allLen, Bool.and_eq_true, decide_eq_true_eq] at h
    intro x hx
    rcases List.mem_cons.1 hx with rfl | hx
    · exact h.1
    · exact ih h.2 x hx

/-- a view's part -/
theorem view_cut {M : Mem} {xs : List AV} {e : Bool} {a : Option Addr} {len cap l h m sz : Nat} (hx : VR M (.view xs e) (.slice a len cap)) (hlh : l ≤ h) (hh : h ≤ xs.length) (hm : h ≤ m) (hmc : m ≤ cap) (hs : l = 0 ∨ allLen sz xs = true)
    (ex : Bool) (hex : ex = true → m = h) : VR M (.view (cut xs l h) ex) (.slice (if m = l then a else a.map (·.add (l * sz))) (h - l) (m - l)) := by
  by_cases hz : h - l = 0
  · have : cut xs l h = [] := by unfold cut; rw [hz]; rfl
    rw [this, hz]
    exact .view0 ex _ _ (fun he => by have := hex he; omega)
  · cases hx with
    | view0 => simp at hh; omega
    | view _ _ g o sz' cap vals h0 hs' hl hc hr hp hcap he =>
      have hszs : l = 0 ∨ sz = sz' := by
        rcases hs with hs | hs
        · exact .inl hs
        · cases xs with
          | nil => simp at hh; omega
          | cons y ys => exact .inr ((allLen_mem hs y (List.mem_cons_self ..)).symm.trans (hs' y (List.mem_cons_self ..)))
      have hls : l * sz = l * sz' := by rcases hszs with rfl | rfl <;> simp
      have hcut : ∀ y ∈ cut xs l h, y.cells.length = sz' := fun y hy => hs' y (List.mem_of_mem_drop (List.mem_of_mem_take hy))
      have hlen : (cut xs l h).length = h - l := by unfold cut; simp; omega
      have hfl := flat_length hs'
      have hm1 : h * sz' ≤ xs.length * sz' := Nat.mul_le_mul_right _ hh
      have hm2 : (h - l) * sz' = h * sz' - l * sz' := Nat.sub_mul ..
      have hm3 : l * sz' ≤ h * sz' := Nat.mul_le_mul_right _ hlh
      rw [if_neg (by omega), hls]
      simp only [Option.map_some, addr_add]
      have key := VR.view (M := M) (cut xs l h) ex g (o + l * sz') sz' (m - l) ((vals.drop (l * sz')).take ((h - l) * sz')) h0 hcut (by rw [flat_length hcut, hlen]; simp; omega)
        (fun j u hu => by
          rw [List.getElem?_take] at hu
          split at hu
          · rw [List.getElem?_drop] at hu; rw [Nat.add_assoc]; exact hc _ _ hu
          · cases hu)
        (fun j u v hu hv => by
          unfold cut at hu
          rw [flat_take (fun y hy => hs' y (List.mem_of_mem_drop hy)), flat_drop hs', List.getElem?_take] at hu
          rw [List.getElem?_take] at hv
          split at hu
          · rename_i hj
            rw [if_pos hj] at hv
            rw [List.getElem?_drop] at hu hv
            exact hr _ u v hu hv
          · cases hu)
        (by unfold cut; exact pureL_take (pureL_drop hp _) _) (by rw [hlen]; omega) (fun h => by rw [hlen, hex h])
      rw [hlen] at key
      exact key

theorem row_len {M : Mem} {b ver hs off len : Nat} {a : Option Addr} {n cap : Nat} (hx : VR M (.row b ver hs off len) (.slice a n cap)) : n = len ∧ len ≤ cap := by
  cases hx with
  | row0 => exact ⟨rfl, Nat.le_refl _⟩
  | rowE => exact ⟨rfl, Nat.le_refl _⟩
  | row _ _ _ _ hle => exact ⟨rfl, hle⟩
theorem row_slice {M : Mem} {b ver hs off len : Nat} {x : Value} (hx : VR M (.row b ver hs off len) x) : ∃ a cap, x = .slice a len cap ∧ len ≤ cap := by
  cases hx with
  | row0 => exact ⟨_, _, rfl, Nat.le_refl _⟩
  | rowE => exact ⟨_, _, rfl, Nat.le_refl _⟩
  | row _ _ _ _ hle => exact ⟨_, _, rfl, hle⟩
theorem view_slice {M : Mem} {xs : List AV} {e : Bool} {x : Value} (hx : VR M (.view xs e) x) : ∃ a cap, x = .slice a xs.length cap ∧ xs.length ≤ cap := by
  cases hx with
  | view0 => exact ⟨_, _, rfl, Nat.zero_le _⟩
  | view _ _ _ _ _ _ _ _ _ _ _ _ _ hcap => exact ⟨_, _, rfl, hcap⟩

theorem run_slice_slice {P : Program} {t e : TypeId} {i : TypeInfo} (hu : P.underlying t = some (.slice e)) (hi : P.info? e = some i) (a : Option Addr) (len cap : Nat) (lo hi' mx : Option Value) {l h m : Nat} (w : World)
    (hb : (Instr.sliceBounds true len cap lo hi' mx).run P w = .ok (l, h, m) w) : (Instr.sliceAt t (.slice a len cap) lo hi' mx).run P w = .ok (.slice (if m = l then a else a.map (·.add (l * i.size))) (h - l) (m - l)) w := by
  have he : P.elem t = e := by simp [Program.elem, hu]
  rw [run_sliceAt_slice w t _ lo hi' mx (by rw [he]; exact hu), run_slice_any w t a len cap (by rw [he]; exact hu) lo hi' mx, hb, he]
  simp [sizeOf, typeInfo, hi, Result.andThen, sliced]

theorem ba_extract (s : List UInt8) (l h : Nat) : (⟨s.toArray⟩ : ByteArray).extract l h = ⟨(cut s l h).toArray⟩ := by
  apply ByteArray.ext
  simp [ByteArray.data_extract, cut]

theorem slice_sound {P : Program} {B : Nat} {M : Mem} {H : Heap} (h : HR B M H) {env : Env} {a : Act} (he : EnvR M env a) {t : TypeId} {xv v : AV} {x : Value} {lo hi mx : Option Operand} {H' : Heap}
    (hs : sliceOf P H t xv (lo.map (ev env)) (hi.map (ev env)) (mx.map (ev env)) = some (v, H')) (hx : VR M xv x) :
    ∃ M' y, Moved B M H M' H' ∧ (Instr.sliceAt t x (lo.map a.eval) (hi.map a.eval) (mx.map a.eval)).run P M.w = .ok y M'.w ∧ VR M' v y := by
  unfold sliceOf at hs
  split at hs
  · rename_i hix
    have hu := ixOf_str hix
    split at hs
    · rename_i s
      split at hs
      · rename_i l hh hb
        injection hs with hs; injection hs with e1 e2; subst e1; subst e2
        cases hx
        obtain ⟨k1, k2, k3, k4⟩ := bnds_run (P := P) he hb (cap := s.length) (Nat.le_refl _) false M.w
        have hmx := k4 rfl
        subst hmx
        refine ⟨M, .string ⟨(cut s l hh).toArray⟩, Moved.refl h, ?_, .str _⟩
        rw [run_sliceAt_string (P := P) M.w t _ _ _ _ hu]
        simp only [Option.map_none] at k1
        simp [Instr.slice, run_underlying hu, ba_size, k1, ba_extract]
      · cases hs
    · cases hs
  · rename_i sz bytes hix
    obtain ⟨e, i, hu, hi, rfl, rfl⟩ := ixOf_sl hix
    split at hs
    · split at hs
      · rename_i q hb
        obtain ⟨l, hh, ex⟩ := q
        injection hs with hs; injection hs with e1 e2; subst e1; subst e2
        cases hx with
        | nils ad =>
          obtain ⟨k1, k2, k3, _⟩ := bnds_run (P := P) he hb (cap := 0) (Nat.le_refl _) true M.w
          refine ⟨M, _, Moved.refl h, run_slice_slice hu hi ad 0 0 _ _ _ M.w k1, ?_⟩
          have e1 : hh - l = 0 := by omega
          have e2 : (if ex = true then hh else 0) - l = 0 := by split <;> omega
          rw [e1, e2]
          exact .nils _
      · cases hs
    · rename_i xs e0
      split at hs
      · rename_i l hh ex hb
        split at hs
        · rename_i hsz
          injection hs with hs; injection hs with e1 e2; subst e1; subst e2
          obtain ⟨ad, cap, rfl, hcap⟩ := view_slice hx
          obtain ⟨k1, k2, k3, _⟩ := bnds_run (P := P) he hb (cap := cap) hcap true M.w
          refine ⟨M, _, Moved.refl h, run_slice_slice hu hi ad _ cap _ _ _ M.w k1, ?_⟩
          exact view_cut hx k2 k3 (by split <;> omega) (by split <;> omega) hsz ex (fun he => by simp [he])
        · cases hs
      · cases hs
    · rename_i b ver hs' off len
      split at hs
      · rename_i l hh hb
        split at hs
        · rename_i hsz
          injection hs with hs; injection hs with e1 e2; subst e1; subst e2
          obtain ⟨ad, cap, rfl, hcap⟩ := row_slice hx
          obtain ⟨k1, k2, k3, _⟩ := bnds_run (P := P) he hb (cap := cap) hcap true M.w
          refine ⟨M, _, Moved.refl h, run_slice_slice hu hi ad _ cap _ _ _ M.w k1, ?_⟩
          simp only [Bool.false_eq_true, if_false]
          cases hx with
          | row0 _ hσ =>
            have e1 : hh - l = 0 := by omega
            have e2 : l = 0 := by omega
            subst e2
            rw [e1]; exact .row0 _ hσ
          | rowE _ hσ =>
            have e1 : hh - l = 0 := by omega
            have e2 : l = 0 := by omega
            subst e2
            rw [e1]; exact .rowE _ hσ
          | row hσ h0 hn hc hle =>
            by_cases hcl : cap = l
            · subst hcl
              rw [if_pos rfl, show hh - cap = 0 by omega, Nat.sub_self]
              exact .rowE _ (by rw [hσ]; simp)
            · rw [if_neg hcl]
              have hls : l * i.size = l * hs' := by rcases hsz with rfl | rfl <;> simp
              simp only [Option.map_some, addr_add, hls, ← Nat.add_mul]
              exact .row hσ h0 hn (by rw [show off + l + (cap - l) = off + cap by omega]; exact hc) (by omega)
        · cases hs
      · rename_i l hh hb
        split at hs
        · rename_i hsz
          split at hs
          · rename_i xs e0 H1 hf
            injection hs with hs; injection hs with e1 e2; subst e1; subst e2
            obtain ⟨ad, cap, rfl, hcap⟩ := row_slice hx
            obtain ⟨k1, k2, k3, _⟩ := bnds_run (P := P) he hb (cap := cap) hcap true M.w
            have hx2 : VR M (.row b ver hs' off hh) (.slice ad hh cap) := by
              cases hx with
              | row0 _ hσ => rw [show hh = 0 by omega]; exact .row0 _ hσ
              | rowE _ hσ => rw [show hh = 0 by omega]; exact .rowE _ hσ
              | row hσ h0 hn hc hle => exact .row hσ h0 hn hc (by omega)
            obtain ⟨M1, f1, r1⟩ := frz_sound _ h hx2 hf
            have hxl : xs.length = hh := by obtain ⟨a', cap', e', _⟩ := view_slice r1; injection e' with _ e' _; exact e'.symm
            have hal : l = 0 ∨ allLen i.size xs = true := by
              rcases hsz with h0 | rfl
              · exact .inl h0
              · simp only [frz] at hf
                split at hf
                · rename_i sz' xs' ver' fz hb'
                  split at hf
                  · rename_i hc'
                    injection hf with hf; injection hf with e1 e2; injection e1 with e1 _
                    obtain ⟨_, _, hsz', _, hr'⟩ := h.blk _ _ hb'
                    cases hx with
                    | row0 _ hσ => exact .inl (by omega)
                    | rowE _ hσ => exact .inl (by omega)
                    | row hσ h0 hn hc hle =>
                      right
                      obtain ⟨rfl, _⟩ := hc'
                      rcases hr' with ⟨q1, _⟩ | ⟨g', vals', ty', cap', q1, _⟩
                      · rw [q1] at hσ; cases hσ
                      · rw [q1] at hσ; injection hσ with hσ; injection hσ with hσ; injection hσ with _ e3
                        rw [← e1, ← e3]
                        have : ∀ (ys : List AV), (∀ y ∈ ys, y.cells.length = sz') → allLen sz' ys = true := fun ys => by
                          induction ys with
                          | nil => intro _; rfl
                          | cons y ys ih => intro hy; simp [allLen, hy y (List.mem_cons_self ..), ih fun z hz => hy z (List.mem_cons_of_mem _ hz)]
                        exact this _ fun y hy => hsz' y (List.mem_of_mem_drop (List.mem_of_mem_take hy))
                  · cases hf
                · cases hf
            refine ⟨M1, _, f1.moved, by rw [f1.w]; exact run_slice_slice hu hi ad _ cap _ _ _ M.w k1, ?_⟩
            simp only [if_true]
            exact view_cut r1 k2 (by omega) (Nat.le_refl _) (by omega) hal true (fun _ => rfl)
          · cases hs
        · cases hs
      · cases hs
    · cases hs
  · rename_i n sz hix
    obtain ⟨e, hu, hse⟩ := ixOf_arr hix
    split at hs
    · rename_i b c
      split at hs
      · rename_i l hh ex hb
        obtain ⟨k1, k2, k3, _⟩ := bnds_run (P := P) he hb (cap := n) (Nat.le_refl _) false M.w
        have hrun : ∀ g, (Instr.sliceAt t (.pointer (some ⟨g, c, none⟩)) (lo.map a.eval) (hi.map a.eval) (mx.map a.eval)).run P M.w =
            .ok (.slice (if (if ex then hh else n) = l then some ⟨g, c, none⟩ else (some (⟨g, c, none⟩ : Addr)).map (·.add (l * sz))) (hh - l) ((if ex then hh else n) - l)) M.w := fun g => by
          simp [Instr.sliceAt, run_underlying hu, Instr.sureAddr, k1, run_sizeOf' hse]
          generalize (if ex = true then hh else n) = m
          by_cases hml : m = l <;> simp [hml]
        have hone : ∀ {M' : Mem} {cs : List AV} {vals : List Value} {g : Nat}, VRs M' cs vals → refFreeL cs = true → c + n ≤ cs.length → (∀ j v, vals[j]? = some v → M'.w.cell? ⟨g, j, none⟩ = some v ∧ M'.kept g j) →
            VR M' (.view ((cs.drop c).take n) true) (.slice (some ⟨g, c, none⟩) n n) := by
          intro M' cs vals g hv hrf hcn hcell
          have hpc := refFreeL_pure hv hrf
          have hcells : ∀ y ∈ (cs.drop c).take n, y.cells = [y] := fun y hy => by
            have hy' : y ∈ cs := List.mem_of_mem_drop (List.mem_of_mem_take hy)
            obtain ⟨j, hj, rfl⟩ := List.mem_iff_getElem.1 hy'
            have := refFreeL_get hrf (List.getElem?_eq_getElem hj)
            revert this
            generalize cs[j] = q
            intro hq
            cases q <;> simp_all [refFree, AV.cells]
          have hfl : ∀ ys : List AV, (∀ y ∈ ys, y.cells = [y]) → flat ys = ys := fun ys => by
            induction ys with
            | nil => intro _; rfl
            | cons y ys ih => intro hy; simp [flat, hy y (List.mem_cons_self ..), ih fun z hz => hy z (List.mem_cons_of_mem _ hz)]
          have hlen : ((cs.drop c).take n).length = n := by simp; omega
          have hvd := (hv.drop c).take n
          have key := VR.view (M := M') ((cs.drop c).take n) true g c 1 n ((vals.drop c).take n) (by omega) (fun y hy => by rw [hcells y hy]; rfl) (by rw [hfl _ hcells]; exact hvd.1)
            (fun j u hu => by
              rw [List.getElem?_take] at hu
              split at hu
              · rw [List.getElem?_drop] at hu; exact hcell _ _ hu
              · cases hu)
            (by rw [hfl _ hcells]; exact hvd.2) (pureL_of fun j u hu => pureE_of_C (pureCs_get (pureCs_take (pureCs_drop hpc c) n) hu)) (by rw [hlen]; exact Nat.le_refl _) (fun _ => hlen.symm)
          rw [hlen] at key
          exact key
        have hall : ∀ {cs : List AV}, refFreeL cs = true → allLen 1 ((cs.drop c).take n) = true := by
          intro cs hrf
          have : ∀ ys : List AV, (∀ y ∈ ys, refFree y = true) → allLen 1 ys = true := fun ys => by
            induction ys with
            | nil => intro _; rfl
            | cons y ys ih =>
              intro hy
              have h1 := hy y (List.mem_cons_self ..)
              have : y.cells.length = 1 := by cases y <;> simp_all [refFree, AV.cells]
              simp [allLen, this, ih fun z hz => hy z (List.mem_cons_of_mem _ hz)]
          refine this _ fun y hy => ?_
          have hy' : y ∈ cs := List.mem_of_mem_drop (List.mem_of_mem_take hy)
          obtain ⟨j, hj, rfl⟩ := List.mem_iff_getElem.1 hy'
          exact refFreeL_get hrf (List.getElem?_eq_getElem hj)
        split at hs
        · rename_i cs hbx
          split at hs
          · rename_i hc
            obtain ⟨rfl, hcn, hrf⟩ := hc
            injection hs with hs; injection hs with e1 e2; subst e1; subst e2
            obtain ⟨g, z, vals, ty, h1, h2, h3, h4⟩ := h.blk _ _ hbx
            have hro : refOkL 0 cs = true := by
              have : ∀ ys : List AV, refFreeL ys = true → refOkL 0 ys = true := fun ys => by
                induction ys with
                | nil => intro _; rfl
                | cons y ys ih =>
                  intro hy
                  simp only [refFreeL, Bool.and_eq_true] at hy
                  have : refOk 0 y = true := by cases y <;> simp_all [refFree, refOk]
                  simp [refOkL, this, ih hy.2]
              exact this _ hrf
            obtain ⟨s1, s2, s3⟩ := freeze_box h hbx h1 h2 h3 hro
            cases hx with
            | ptr hσ =>
              rw [h1] at hσ; injection hσ with hσ; injection hσ with hσ; injection hσ with e1 _; subst e1
              refine ⟨_, _, ⟨s1, s2, s3⟩, hrun g, ?_⟩
              have hv := hone (g := g) (h3.ext s1.ext) hrf hcn (fun j v hv => ⟨row_lies h2 hv, .inr ⟨rfl, by have := (List.getElem?_eq_some_iff.1 hv).1; rw [← h3.1]; exact this⟩⟩)
              have := view_cut hv k2 (m := if ex then hh else n) (by simp; omega) (by split <;> omega) (by split <;> omega) (.inr (hall hrf)) ex (fun he => by simp [he])
              exact this
          · cases hs
        · rename_i cs hbx
          split at hs
          · rename_i hc
            obtain ⟨rfl, hcn, hrf⟩ := hc
            injection hs with hs; injection hs with e1 e2; subst e1; subst e2
            obtain ⟨g, z, vals, ty, h1, h2, h3, h4, _⟩ := h.blk _ _ hbx
            cases hx with
            | ptr hσ =>
              rw [h1] at hσ; injection hσ with hσ; injection hσ with hσ; injection hσ with e1 _; subst e1
              refine ⟨_, _, Moved.refl h, hrun g, ?_⟩
              have hv := hone (g := g) h3 hrf hcn (fun j v hv => ⟨row_lies h2 hv, h4 j (by have := (List.getElem?_eq_some_iff.1 hv).1; rw [← h3.1]; exact this)⟩)
              exact view_cut hv k2 (m := if ex then hh else n) (by simp; omega) (by split <;> omega) (by split <;> omega) (.inr (hall hrf)) ex (fun he => by simp [he])
          · cases hs
        · cases hs
      · cases hs
    · cases hs
  · cases hs

theorem index_sound {P : Program} {M : Mem} {t : TypeId} {xv v : AV} {x : Value} {k : IntKind} {i : Int} (h : indexOf P t xv i = some v) (hx : VR M xv x) (w : World) :
    ∃ y, (Instr.index t x (.int k i)).run P w = .ok y w ∧ VR M v y := by
  unfold indexOf at h
  split at h
  · rename_i s hix
    split at h
    · rename_i h0
      split at h
      · rename_i c hc
        injection h with h; subst h
        cases hx
        have hl := (List.getElem?_eq_some_iff.1 hc).1
        refine ⟨.int .u8 c.toNat, ?_, .int _ _⟩
        rw [run_index_string (P := P) w t _ k i (ixOf_str hix), dif_pos ⟨h0, by rw [ba_size]; omega⟩]
        have : getElem (⟨s.toArray⟩ : ByteArray) i.toNat (by rw [ba_size]; exact hl) = c := by
          have := (List.getElem?_eq_some_iff.1 hc).2
          rw [← this]; rfl
        rw [this]
      · cases h
    · cases h
  · rename_i n sz cs hix
    obtain ⟨e, hu, hse⟩ := ixOf_arr hix
    split at h
    · rename_i hc
      obtain ⟨h0, h1, hsh⟩ := hc
      obtain ⟨vs, rfl, hv⟩ := hx.aggs
      obtain ⟨u, hu', hr⟩ := hv.get h
      have hsh' : shp P e = some (false, 1) := by simpa [elemShp, hu] using hsh
      exact ⟨u, by simp [Instr.index, asIntOf, run_underlying hu, h0, h1, run_sizeOf hsh', part, run_isAgg hsh', hu'], hr⟩
    · cases h
  · cases h

theorem range_sound {P : Program} {B : Nat} {M : Mem} {H : Heap} (h : HR B M H) (hB : B ≤ M.w.heap.size) {t : TypeId} (ht : P.underlying t = some .string) (s : List UInt8) :
    ∃ M' y, Moved B M H M' (H ++ [.iter s 0]) ∧ (Instr.range t (.string ⟨s.toArray⟩)).run P M.w = .ok y M'.w ∧ VR M' (.iter H.length) y := by
  have hσn : ∀ v, M.σ H.length v = none := fun v => by
    cases hq : M.σ H.length v with
    | none => rfl
    | some y => have := h.dom _ _ _ hq; omega
  obtain ⟨s1, s2, s3⟩ := new_block h hB (w' := M.w.iter ⟨s.toArray⟩ 0) (fun g hg => heap_alloc_old M.w _ g hg) (by simp [World.iter]) rfl rfl rfl (.iter s 0) 0
    ⟨M.w.heap.size, put_self .., heap_alloc_new M.w _⟩
  exact ⟨_, _, ⟨s1, s2, s3⟩, run_range_string (P := P) M.w t _ ht, .iter (put_self ..)⟩

theorem next_sound {P : Program} {B : Nat} {M : Mem} {H : Heap} (h : HR B M H) {b : Nat} {x : Value} (hx : VR M (.iter b) x) {s : List UInt8} {pos : Nat} (hb : H[b]? = some (.iter s pos)) (ty : TypeId) :
    (∀ c w', Utf8.decode ⟨s.toArray⟩ pos = (c, w') → pos < s.length → ∃ M' y, Moved B M H M' (H.set b (.iter s (pos + w'))) ∧ (Instr.next x true ty).run P M.w = .ok y M'.w ∧ VR M' (.tup [.bool true, .int .i64 pos, .int .i32 c]) y) ∧
    (¬ pos < s.length → ∃ y, (Instr.next x true ty).run P M.w = .ok y M.w ∧ VR M (.tup [.bool false]) y) := by
  obtain ⟨g, h1, h2⟩ := h.blk _ _ hb
  cases hx with
  | iter hσ =>
    rw [h1] at hσ; injection hσ with hσ; injection hσ with hσ; injection hσ with e1 _; subst e1
    refine ⟨fun c w' hd hp => ?_, fun hp => ?_⟩
    · obtain ⟨s1, s2, s3⟩ := iter_step h hb h1 h2 (pos + w')
      have hr := Lib.run_next_any_at (P := P) M.w g ⟨s.toArray⟩ pos ty h2 (by rw [ba_size]; exact hp)
      rw [hd] at hr
      have k := VRs.cons (M := { M with w := { M.w with heap := M.w.heap.setIfInBounds g (.stringIter ⟨s.toArray⟩ (pos + w')) } }) (VR.bool true) (VRs.cons (VR.int .i64 (pos : Int)) (VRs.cons (VR.int .i32 (c : Int)) (VRs.nil _)))
      exact ⟨_, _, ⟨s1, s2, s3⟩, hr, .tup _ _ k.1 k.2⟩
    · have hr := Lib.run_next_end_at (P := P) M.w g ⟨s.toArray⟩ pos ty h2 (by rw [ba_size]; exact hp)
      have k := VRs.cons (M := M) (VR.bool false) (VRs.nil _)
      exact ⟨_, hr, .tup _ _ k.1 k.2⟩

theorem extract_sound {P : Program} {M : Mem} {vs : List AV} {x : Value} (hx : VR M (.tup vs) x) {i : Nat} {v : AV} (h : vs[i]? = some v) (w : World) : ∃ y, (Instr.extract x i).run P w = .ok y w ∧ VR M v y := by
  obtain ⟨us, rfl, hu⟩ := hx.tups
  obtain ⟨u, h1, h2⟩ := hu.get h
  exact ⟨u, by simp [Instr.extract, h1], h2⟩

theorem len_sound {P : Program} {M : Mem} {t : TypeId} {xv v : AV} {x : Value} (h : lenOf P t xv = some v) (hx : VR M xv x) {ts : Array TypeId} (hts : ts[0]? = some t) (ty : TypeId) (w : World) :
    ∃ y, (Builtin.len_ ts ty #[x]).run P w = .ok y w ∧ VR M v y := by
  unfold lenOf at h
  split at h
  · rename_i s hix
    injection h with h; subst h
    cases hx
    exact ⟨.int .i64 s.length, by simp [Builtin.len_, hts, run_underlying (ixOf_str hix), goInt, ba_size], .int _ _⟩
  · rename_i n _ hix
    injection h with h; subst h
    obtain ⟨e, hu, _⟩ := ixOf_arr hix
    exact ⟨.int .i64 n, by simp [Builtin.len_, hts, run_underlying hu, goInt], .int _ _⟩
  · rename_i hix
    injection h with h; subst h
    obtain ⟨e, i, hu, _⟩ := ixOf_sl hix
    cases hx
    exact ⟨.int .i64 0, by simp [Builtin.len_, hts, run_underlying hu, goInt], .int _ _⟩
  · rename_i xs _ hix
    injection h with h; subst h
    obtain ⟨e, i, hu, _⟩ := ixOf_sl hix
    obtain ⟨a, cap, rfl, _⟩ := view_slice hx
    exact ⟨.int .i64 xs.length, by simp [Builtin.len_, hts, run_underlying hu, goInt], .int _ _⟩
  · rename_i b ver hs off len hix
    injection h with h; subst h
    obtain ⟨e, i, hu, _⟩ := ixOf_sl hix
    obtain ⟨a, cap, rfl, _⟩ := row_slice hx
    exact ⟨.int .i64 len, by simp [Builtin.len_, hts, run_underlying hu, goInt], .int _ _⟩
  · cases h

end Go.Vi
end SViOpsG
section SViOpsH
/- The operations against the model's: eighth part: append. -/
namespace Go.Vi
open Go Go.RowKit
variable [Glob]

theorem oneCell_pure {M : Mem} {c : AV} {x : Value} (h : VR M c x) (hp : pureC c = true) : x.oneCell' = true := by
  cases h <;> simp_all [pureC] <;> rfl

theorem ix_noInt {P : Program} {u : TypeId} {ix : Ix} (h : ixOf P u = some ix) : (∃ e, P.underlying u = some (.slice e)) ∨ (∃ n e, P.underlying u = some (.array n e)) ∨ P.underlying u = some .string := by
  rcases ixOf_some h with ⟨e, i, h1, _⟩ | ⟨n, e, s, h1, _⟩ | ⟨h1, _⟩
  · exact .inl ⟨_, h1⟩
  · exact .inr (.inl ⟨_, _, h1⟩)
  · exact .inr (.inr h1)

theorem run_append_room' {P : Program} {ts : Array TypeId} {t u ty e : TypeId} {i : TypeInfo} {ix : Ix} (h0 : ts[0]? = some t) (h1 : ts[1]? = some u) (hu : ixOf P u = some ix) (ht : P.underlying t = some (.slice e)) (hi : P.info? e = some i)
    (base : Option Addr) (sLen sCap : Nat) (x : Value) (m : Nat) (news : List Value) (w : World) (hlen : (Builtin.lenOf x).run P w = .ok m w) (hf : (Builtin.firstCells i.size m x).run P w = .ok news.toArray w) (hroom : sLen + m ≤ sCap) :
    (Builtin.append_ ts ty #[.slice base sLen sCap, x]).run P w = ((match base with | some a => storeCells (a.add (sLen * i.size)) news | none => pure ()).run P w).andThen fun _ w => .ok (.slice base (sLen + m) sCap) w := by
  rcases ix_noInt hu with ⟨_, hd⟩ | ⟨_, _, hd⟩ | hd <;> cases base <;> simp [Builtin.append_, h0, h1, run_underlying ht, run_underlying hd, sizeOf, typeInfo, hi, hlen, hf, hroom]

theorem run_append_grow' {P : Program} {ts : Array TypeId} {t u ty e : TypeId} {i : TypeInfo} {z : Value} {ix : Ix} (h0 : ts[0]? = some t) (h1 : ts[1]? = some u) (hu : ixOf P u = some ix) (ht : P.underlying t = some (.slice e)) (hi : P.info? e = some i) (hz : i.zero = some z)
    (base : Option Addr) (sLen sCap : Nat) (x : Value) (m : Nat) (olds news : List Value) (w : World) (hlen : (Builtin.lenOf x).run P w = .ok m w) (hf : (Builtin.firstCells i.size m x).run P w.drew = .ok news.toArray w.drew)
    (hfo : (Builtin.firstCells i.size sLen (.slice base sLen sCap)).run P w.drew = .ok olds.toArray w.drew) (hg : sCap < sLen + m) (h63 : ((sLen + m : Nat) : Int) ≤ 9223372036854775807) (hfit : Builtin.nextslicecap (sLen + m) sCap * i.bytes ≤ 281474976710656) :
    (Builtin.append_ ts ty #[.slice base sLen sCap, x]).run P w = .ok (.slice (some ⟨w.heap.size, 0, none⟩) (sLen + m) (grownCap w (sLen + m) sCap e))
        (w.drew.alloc (.cells (olds ++ news ++ (Builtin.zeroCells z.cells (grownCap w (sLen + m) sCap e - (sLen + m))).toList).toArray e)) := by
  have hn' : ¬ (sLen + m ≤ sCap) := by omega
  have h63' : ¬ (9223372036854775807 < ((sLen : Int) + (m : Int))) := by omega
  have h48' : ¬ (281474976710656 < Builtin.nextslicecap (sLen + m) sCap * i.bytes) := by omega
  rcases ix_noInt hu with ⟨_, hd⟩ | ⟨_, _, hd⟩ | hd <;> simp [Builtin.append_, h0, h1, run_underlying ht, run_underlying hd, sizeOf, typeInfo, zeroValue, hi, hz, hlen, hn', h63', h48', Question.forced, hf, hfo, newRow, grownCap] <;> (congr 2; apply Array.ext'; simp)

/-- what is appended -/
theorem append_src {P : Program} {B : Nat} {M : Mem} {H : Heap} (h : HR B M H) {xv : AV} {x : Value} {ys : List AV} (he : elemsOf H xv = some ys) (hx : VR M xv x) {sz : Nat} (hal : allLen sz ys = true) :
    ∃ news, VRs M (flat ys) news ∧ news.length = ys.length * sz ∧ (∀ u ∈ news, u.oneCell' = true) ∧ pureL ys = true ∧ (∀ w', (Builtin.lenOf x).run P w' = .ok ys.length w') ∧
      ∀ w' : World, (∀ a : Addr, w'.cell? a = M.w.cell? a) → (Builtin.firstCells sz ys.length x).run P w' = .ok news.toArray w' := by
  have hfl := flat_length (allLen_mem hal)
  rcases elemsOf_some h he hx with ⟨s, rfl, rfl⟩ | ⟨hp, a, len, cap, rfl, rfl, hne⟩
  · simp only [elemsOf] at he; injection he with he; subst he
    have hv := bytes_vals M s
    refine ⟨_, hv, by rw [hv.1, hfl], fun u hu => ?_, pureL_bytes s, fun w' => by simp [Builtin.lenOf, ba_size], fun w' _ => ?_⟩
    · obtain ⟨c, _, rfl⟩ := List.mem_map.1 hu; rfl
    · simp [Builtin.firstCells]
  · cases ys with
    | nil =>
      refine ⟨[], VRs.nil M, by simp, fun u hu => by simp at hu, rfl, fun w' => by simp [Builtin.lenOf], fun w' _ => ?_⟩
      cases a <;> simp [Builtin.firstCells, loadCells, loadCellsFrom]
    | cons y ys =>
      obtain ⟨g, o, sz', vals, rfl, hz, hsz', hv, hcell⟩ := hne (by simp)
      refine ⟨vals, hv, by rw [hv.1, hfl], fun u hu => ?_, hp, fun w' => by simp [Builtin.lenOf], fun w' hw => ?_⟩
      · obtain ⟨j, hj, rfl⟩ := List.mem_iff_getElem.1 hu
        have hj' : j < (flat (y :: ys)).length := by rw [← hv.1]; exact hj
        exact oneCell_pure (hv.2 j _ _ (List.getElem?_eq_getElem hj') (List.getElem?_eq_getElem hj)) (pureCs_get (pureL_flat hp) (List.getElem?_eq_getElem hj'))
      · exact run_firstCells_some (P := P) w' sz _ ⟨g, o, none⟩ _ cap vals (by rw [hv.1, hfl]) (fun j u hu => by rw [addr_add, hw]; exact hcell j u hu)

/-- a row that is not placed goes on unplaced -/
theorem append_none {B : Nat} {M : Mem} {H : Heap} (h : HR B M H) {b sz0 ver fz : Nat} {xs : List AV} (hb : H[b]? = some (.row sz0 xs ver fz)) (hfz : fz = 0) (sz : Nat) :
    Moved B M H (M.put M.w b (ver + 1) none) (H.set b (.row sz [] (ver + 1) fz)) := by
  obtain ⟨hfl, hpl, hsz, hnv, _⟩ := h.blk _ _ hb
  have hE : Ext M (M.put M.w b (ver + 1) none) := ext_put (hnv _ (Nat.lt_succ_self _)) (fun _ _ h => h) (fun _ _ _ _ h => h) (Nat.le_refl _)
  obtain ⟨s1, s2, s3⟩ := change (M' := M.put M.w b (ver + 1) none) h hb (x := .row sz [] (ver + 1) fz) hE (Below.refl _ _) (fun b' v hne => put_other (by simp [hne])) (fun _ _ _ => ⟨rfl, fun _ => Iff.rfl⟩)
    ⟨by simp [hfz], rfl, fun x hx => by simp at hx, fun v hv => by rw [put_other (by omega)]; exact hnv v (by omega), .inl ⟨put_self .., rfl⟩⟩
    (fun g hg => by obtain ⟨s, hs⟩ := gAt_some.1 hg; rw [put_self] at hs; simp at hs)
    (fun v g s hs => by
      by_cases hc : v = ver + 1
      · subst hc; rw [put_self] at hs; simp at hs
      · rw [put_other (by simp [hc])] at hs; exact h.low _ _ _ _ hs)
    (fun g o hk => h.kept g o hk)
  exact ⟨s1, s2, s3⟩

theorem setRow_same {w : World} {g : Nat} {cs : Array Value} {ty : TypeId} (h : w.heap[g]? = some (.cells cs ty (0, 0))) : w.setRow g cs = w := by
  unfold World.setRow
  congr 1
  apply Array.ext_getElem?
  intro j
  rw [Array.getElem?_modify]
  split
  · rename_i hj; subst hj; rw [h]; rfl
  · rfl

theorem allLen_of {sz : Nat} {xs : List AV} (h : ∀ x ∈ xs, x.cells.length = sz) : allLen sz xs = true := by
  induction xs with
  | nil => rfl
  | cons y ys ih => simp [allLen, h y (List.mem_cons_self ..), ih fun z hz => h z (List.mem_cons_of_mem _ hz)]

theorem append_sound {P : Program} {B : Nat} {M : Mem} {H : Heap} (h : HR B M H) (hB : B ≤ M.w.heap.size) {ts : Array TypeId} {t u : TypeId} {ix : Ix} {sz bytes : Nat} (h0 : ts[0]? = some t) (h1 : ts[1]? = some u) (hu : ixOf P u = some ix)
    (hix : ixOf P t = some (.sl sz bytes)) {xv sv v : AV} {x s : Value} {ys : List AV} {H' : Heap} (he : elemsOf H xv = some ys) (hx : VR M xv x) (hs : VR M sv s) (ha : appendTo H sz bytes sv ys = some (v, H')) (ty : TypeId) :
    ∃ M' y, Moved B M H M' H' ∧ (Builtin.append_ ts ty #[s, x]).run P M.w = .ok y M'.w ∧ VR M' v y := by
  obtain ⟨e, i, z, ht, hi, hz, hzs, rfl, rfl⟩ := ixOf_slz hix
  unfold appendTo at ha
  split at ha
  · rename_i hc
    obtain ⟨hby, hsz, hal⟩ := hc
    obtain ⟨news, hv, hnl, hone, hpy, hlen, hfc⟩ := append_src (P := P) h he hx hal
    have hys := allLen_mem hal
    have hfly := flat_length hys
    have hdrew : ∀ a : Addr, M.w.drew.cell? a = M.w.cell? a := fun a => rfl
    have hfit : ∀ {need old : Nat}, old < need → need ≤ maxRoom → Builtin.nextslicecap need old * i.bytes ≤ 281474976710656 := fun ho hn => growslice_fits ho (by
      have := Nat.mul_le_mul hn hby
      unfold maxRoom at this; omega)
    /- a new block, out of old cells and the new ones -/
    have fresh : ∀ (zs : List AV) (olds : List Value) (base : Option Addr) (cap : Nat), VRs M (flat zs) olds → (∀ y ∈ zs, y.cells.length = i.size) → pureL zs = true → (Builtin.firstCells i.size zs.length (.slice base zs.length cap)).run P M.w.drew = .ok olds.toArray M.w.drew →
        cap < zs.length + ys.length → zs.length + ys.length ≤ maxRoom →
        ∃ (c : Nat) (vals : List Value), vals.length = c * i.size ∧ zs.length + ys.length ≤ c ∧ VRs M (flat (zs ++ ys)) (vals.take (flat (zs ++ ys)).length) ∧
          (Builtin.append_ ts ty #[.slice base zs.length cap, x]).run P M.w = .ok (.slice (some ⟨M.w.heap.size, 0, none⟩) (zs.length + ys.length) c) (M.w.drew.alloc (.cells vals.toArray e)) := by
      intro zs olds base cap hvo hzsz hpz hfo hg hmax
      have hrun := run_append_grow' (P := P) (ty := ty) h0 h1 hu ht hi hz base zs.length cap x ys.length olds news M.w (hlen _) (hfc _ hdrew) hfo hg (by unfold maxRoom at hmax; omega) (hfit hg hmax)
      refine ⟨_, _, ?_, grownCap_ge M.w _ cap e, ?_, hrun⟩
      · have hge := grownCap_ge M.w (zs.length + ys.length) cap e
        have h1 := hvo.1
        rw [flat_length hzsz] at h1
        simp only [List.length_append, Array.length_toList, size_zeroCells, hzs, h1, hnl, ← Nat.add_mul]
        congr 1; omega
      · rw [flat_append, List.length_append, ← hvo.1, ← hv.1, ← List.length_append, List.take_left]
        exact VRs.append hvo hv
    have hos : ∀ g, g < M.w.heap.size → ∀ o : Obj, (M.w.drew.alloc o).heap[g]? = M.w.heap[g]? := fun g hg o => heap_alloc_old M.w.drew o g hg
    /- an own row made of a fresh block -/
    have made : ∀ (zs : List AV) (olds : List Value) (base : Option Addr) (cap : Nat), VRs M (flat zs) olds → (∀ y ∈ zs, y.cells.length = i.size) → pureL zs = true → (Builtin.firstCells i.size zs.length (.slice base zs.length cap)).run P M.w.drew = .ok olds.toArray M.w.drew →
        cap < zs.length + ys.length → zs.length + ys.length ≤ maxRoom →
        ∃ M' y, Moved B M H M' (H ++ [.row i.size (zs ++ ys) 0 0]) ∧ (Builtin.append_ ts ty #[.slice base zs.length cap, x]).run P M.w = .ok y M'.w ∧ VR M' (.row H.length 0 i.size 0 (zs.length + ys.length)) y := by
      intro zs olds base cap hvo hzsz hpz hfo hg hmax
      obtain ⟨c, vals, k1, k2, k3, k4⟩ := fresh zs olds base cap hvo hzsz hpz hfo hg hmax
      obtain ⟨M2, m2, hw2, hr2⟩ := new_row (w' := M.w.drew.alloc (.cells vals.toArray e)) h hB (fun g hg => hos g hg _) (by simp) rfl rfl rfl hsz (xs := zs ++ ys) (by rw [pureL_append, hpz, hpy]; rfl)
        (fun y hy => (List.mem_append.1 hy).elim (hzsz y) (hys y)) (vals := vals) (ty := e) (cap := c) (heap_alloc_new M.w.drew _) k1 (by simpa using k2) k3
      rw [List.length_append] at hr2
      exact ⟨M2, _, m2, by rw [k4, hw2], hr2⟩
    /- nothing is appended -/
    have none' : ∀ (base : Option Addr) (n cap : Nat), ys = [] → n ≤ cap → (Builtin.append_ ts ty #[.slice base n cap, x]).run P M.w = .ok (.slice base n cap) M.w := by
      intro base n cap hy hn
      subst hy
      have hn0 : news = [] := List.eq_nil_of_length_eq_zero (by simpa using hnl)
      subst hn0
      rw [run_append_room' (P := P) h0 h1 hu ht hi base n cap x 0 [] M.w (hlen _) (hfc _ (fun _ => rfl)) (by omega)]
      cases base <;> simp [storeCells, Result.andThen]
    split at ha
    · split at ha
      · rename_i hmax
        injection ha with ha; injection ha with e1 e2; subst e1; subst e2
        cases hs with
        | nils a0 =>
          by_cases hy : ys = []
          · subst hy
            obtain ⟨s1, s2, s3⟩ := new_none h i.size
            exact ⟨_, _, ⟨s1, s2, s3⟩, none' a0 0 0 rfl (Nat.le_refl _), .row0 a0 (put_self ..)⟩
          · have hpos : 0 < ys.length := List.length_pos_iff.2 hy
            have := made [] [] a0 0 (VRs.nil M) (fun y hy => by cases hy) rfl (by cases a0 <;> simp [Builtin.firstCells, loadCells, loadCellsFrom]) (by simpa using hpos) (by simpa using hmax)
            simpa using this
      · cases ha
    · rename_i xs
      split at ha
      · rename_i hc
        obtain ⟨hmax, hne, hax⟩ := hc
        injection ha with ha; injection ha with e1 e2; subst e1; subst e2
        obtain ⟨olds, o1, o2, _, o4, _, o6⟩ := append_src (P := P) h (xv := .view xs true) rfl hs hax
        have hsl : ∃ a0, s = .slice a0 xs.length xs.length := by
          cases hs with
          | view0 _ a0 cap hcap => exact ⟨a0, by simp [hcap rfl]⟩
          | view _ _ g o sz' cap vals _ _ _ _ _ _ _ hcap => exact ⟨_, by rw [hcap rfl]⟩
        obtain ⟨a0, rfl⟩ := hsl
        by_cases hy : ys = []
        · have hx0 : xs = [] := hne.resolve_right (fun h => h hy)
          subst hx0; subst hy
          obtain ⟨s1, s2, s3⟩ := new_none h i.size
          exact ⟨_, _, ⟨s1, s2, s3⟩, none' a0 0 0 rfl (Nat.le_refl _), .row0 a0 (put_self ..)⟩
        · have hpos : 0 < ys.length := List.length_pos_iff.2 hy
          exact made xs olds a0 xs.length o1 (allLen_mem hax) o4 (o6 _ hdrew) (by omega) hmax
      · cases ha
    · rename_i b ver hs' off len
      split at ha
      · rename_i sz' xs ver' fz hb
        split at ha
        · rename_i hc
          obtain ⟨rfl, hszs, rfl, hfzl, hlx, hmax⟩ := hc
          injection ha with ha; injection ha with e1 e2; subst e1; subst e2
          obtain ⟨hfx, hpx, hxs, hnv, hr⟩ := h.blk _ _ hb
          have hform : (len = 0 ∧ ∃ a0, s = .slice a0 0 0) ∨ ∃ g vals ty' cap, M.σ b ver = some (some (g, i.size)) ∧ sz' = i.size ∧ M.w.heap[g]? = some (.cells (List.toArray vals) ty' (0, 0)) ∧ vals.length = cap * i.size ∧ xs.length ≤ cap ∧
              VRs M (flat xs) (vals.take (flat xs).length) ∧ (∀ o, fz * i.size ≤ o → ¬ M.kept g o) ∧ (∀ o, o < fz * i.size → M.kept g o) ∧ s = .slice (some ⟨g, 0, none⟩) len cap := by
            cases hs with
            | row0 a0 _ => exact .inl ⟨rfl, a0, rfl⟩
            | rowE a0 _ => exact .inl ⟨rfl, a0, rfl⟩
            | row hσ h0' hn hc hle =>
              rename_i cap' g n
              rcases hr with ⟨q1, rfl⟩ | ⟨g', vals, ty', cap, q1, qz, q2, ql, qcap, q3, q6, q7⟩
              · rw [q1] at hσ; cases hσ
              · rw [q1] at hσ; injection hσ with hσ; injection hσ with hσ; injection hσ with e1 e2; subst e1
                have hsz2 : sz' = i.size := by rcases hszs with h' | h' <;> omega
                subst hsz2
                subst e2
                obtain ⟨e', hn⟩ := hn
                simp only [World.shape?, q2, Option.some.injEq, Prod.mk.injEq] at hn
                have hcc : cap' = cap := by
                  have h2 := hn.2
                  simp only [List.size_toArray] at h2
                  rw [Nat.zero_add] at hc
                  have : cap' * i.size = cap * i.size := by omega
                  exact Nat.eq_of_mul_eq_mul_right hsz this
                subst hcc
                exact .inr ⟨g', vals, ty', cap', q1, rfl, q2, ql, qcap, q3, q6, q7, by simp⟩
          rcases hform with ⟨rfl, a0, rfl⟩ | ⟨g, vals, ty', cap, q1, rfl, q2, ql, qcap, q3, q6, q7, rfl⟩
          · have hf0 : fz = 0 := by omega
            by_cases hy : ys = []
            · subst hy
              exact ⟨_, _, append_none h hb hf0 i.size, none' a0 0 0 rfl (Nat.le_refl _), .row0 a0 (put_self ..)⟩
            · have hpos : 0 < ys.length := List.length_pos_iff.2 hy
              obtain ⟨c, vals, k1, k2, k3, k4⟩ := fresh [] [] a0 0 (VRs.nil M) (fun y hy => by cases hy) rfl (by cases a0 <;> simp [Builtin.firstCells, loadCells, loadCellsFrom]) (by simpa using hpos) (by simpa using hmax)
              simp only [List.nil_append, List.length_nil, Nat.zero_add] at k2 k3 k4
              obtain ⟨s1, s2, s3⟩ := append_new h hB hb hsz (w' := M.w.drew.alloc (.cells vals.toArray e)) (fun g hg => hos g hg _) (by simp) rfl rfl rfl hys hpy (by omega) (vals := vals) (ty := e) (cap := c) (heap_alloc_new M.w.drew _) k1 k2 k3
              simp only [List.take_zero, List.nil_append, Nat.zero_add]
              refine ⟨_, _, ⟨s1, s2, s3⟩, k4, ?_⟩
              have hsh : (M.w.drew.alloc (.cells vals.toArray e)).shape? M.w.heap.size = some (e, vals.length) := by
                have := heap_alloc_new M.w.drew (.cells vals.toArray e)
                rw [show M.w.drew.heap.size = M.w.heap.size from rfl] at this
                unfold World.shape?
                rw [this]; simp
              have := VR.row (M := { M.put (M.w.drew.alloc (.cells vals.toArray e)) b (ver + 1) (some (M.w.heap.size, i.size)) with kept := fun g o => M.kept g o ∨ (g = M.w.heap.size ∧ o < fz * i.size) }) (b := b) (ver := ver + 1) (off := 0) (len := ys.length) (cap := c) (g := M.w.heap.size) (sz := i.size) (n := vals.length)
                (put_self (w := M.w.drew.alloc (.cells vals.toArray e)) ..) hsz ⟨e, hsh⟩ (by simp [k1]) k2
              simpa using this
          · have hxt : ∀ y ∈ xs.take len, y.cells.length = i.size := fun y hy => hxs y (List.mem_of_mem_take hy)
            have hlt : (xs.take len).length = len := by simp; omega
            by_cases hroom : len + ys.length ≤ cap
            · have hm1 : len * i.size + ys.length * i.size ≤ cap * i.size := by rw [← Nat.add_mul]; exact Nat.mul_le_mul_right _ hroom
              obtain ⟨s1, s2, s3⟩ := append_here h hb q1 hsz q2 ql qcap q3 q6 q7 hlx hfzl hys hpy hv hroom
              refine ⟨_, .slice (some ⟨g, 0, none⟩) (len + ys.length) cap, ⟨s1, s2, s3⟩, ?_, ?_⟩
              · rw [run_append_room' (P := P) (ty := ty) h0 h1 hu ht hi (some ⟨g, 0, none⟩) len cap x ys.length news M.w (hlen _) (hfc _ (fun _ => rfl)) hroom]
                have hst := run_storeCells_at P g (len * i.size) ty' news 0 vals.toArray M.w q2 (by simp; omega) hone
                simp only [Nat.add_zero] at hst
                simp only [addr_add, Nat.zero_add, hst, Result.andThen_ok]
                rfl
              · have hsh : (M.w.setRow g (vals.take (len * i.size) ++ news ++ vals.drop (len * i.size + news.length)).toArray).shape? g = some (ty', cap * i.size) := by
                  rw [World.shape?, setRow_heap _ _ _ _ _ _ q2]
                  simp; omega
                have := VR.row (M := M.put (M.w.setRow g (vals.take (len * i.size) ++ news ++ vals.drop (len * i.size + news.length)).toArray) b (ver + 1) (some (g, i.size))) (b := b) (ver := ver + 1) (off := 0) (len := len + ys.length) (cap := cap) (g := g) (sz := i.size) (n := cap * i.size)
                  (put_self ..) hsz ⟨ty', hsh⟩ (by simp) hroom
                simpa using this
            · have hel : elemsOf H (.row b ver hs' 0 len) = some (xs.take len) := by simp [elemsOf, hb, hlx]
              obtain ⟨olds, o1, o2, _, o4, _, o6⟩ := append_src (P := P) h hel hs (allLen_of hxt)
              have hf := o6 M.w.drew hdrew
              have hfr := fresh (xs.take len) olds (some ⟨g, 0, none⟩) cap o1 hxt o4
              rw [hlt] at hfr hf
              obtain ⟨c, vals', k1, k2, k3, k4⟩ := hfr hf (by omega) hmax
              have hzl : (xs.take len ++ ys).length = len + ys.length := by rw [List.length_append, hlt]
              obtain ⟨s1, s2, s3⟩ := append_new h hB hb hsz (w' := M.w.drew.alloc (.cells vals'.toArray e)) (fun g hg => hos g hg _) (by simp) rfl rfl rfl (zs := xs.take len ++ ys) (fun y hy => (List.mem_append.1 hy).elim (hxt y) (hys y))
                (by rw [pureL_append, o4, hpy]; rfl) (by rw [hzl]; omega) (vals := vals') (ty := e) (cap := c) (heap_alloc_new M.w.drew _) k1 (by rw [hzl]; exact k2) k3
              refine ⟨_, _, ⟨s1, s2, s3⟩, k4, ?_⟩
              have hsh : (M.w.drew.alloc (.cells vals'.toArray e)).shape? M.w.heap.size = some (e, vals'.length) := by
                have := heap_alloc_new M.w.drew (.cells vals'.toArray e)
                rw [show M.w.drew.heap.size = M.w.heap.size from rfl] at this
                unfold World.shape?
                rw [this]; simp
              have := VR.row (M := { M.put (M.w.drew.alloc (.cells vals'.toArray e)) b (ver + 1) (some (M.w.heap.size, i.size)) with kept := fun g o => M.kept g o ∨ (g = M.w.heap.size ∧ o < fz * i.size) }) (b := b) (ver := ver + 1) (off := 0) (len := len + ys.length) (cap := c) (g := M.w.heap.size) (sz := i.size) (n := vals'.length)
                (put_self (w := M.w.drew.alloc (.cells vals'.toArray e)) ..) hsz ⟨e, hsh⟩ (by simp [k1]) k2
              simpa using this
        · cases ha
      · cases ha
    · cases ha
  · cases ha

end Go.Vi
end SViOpsH
section SViOpsI
/- The operations against the model's: ninth part: structs held against each other; all operations. -/
namespace Go.Vi
open Go Go.RowKit
variable [Glob]

theorem eqK_len : ∀ {ks : List Kd} {cs ds : List AV} {b : Bool}, eqK ks cs ds = some b → cs.length = ks.length ∧ ds.length = ks.length := by
  intro ks
  induction ks with
  | nil =>
    intro cs ds b h
    cases cs <;> cases ds <;> simp [eqK] at h <;> exact ⟨rfl, rfl⟩
  | cons k ks ih =>
    intro cs ds b h
    unfold eqK at h
    split at h
    · contradiction
    · rename_i e; injection e with _ e; subst e
      split at h
      · rename_i hr; have := ih hr; simp [this.1, this.2]
      · cases h
    · rename_i e; injection e with _ e; subst e
      split at h
      · split at h
        · rename_i hr; have := ih hr; simp [this.1, this.2]
        · cases h
      · cases h
    · rename_i e; injection e with _ e; subst e
      split at h
      · rename_i hr; have := ih hr; simp [this.1, this.2]
      · cases h
    · cases h

theorem eqK_split : ∀ (k1 : List Kd) {k2 : List Kd} {cs ds : List AV} {b : Bool}, eqK (k1 ++ k2) cs ds = some b →
    ∃ b1 b2, b = (b1 && b2) ∧ eqK k1 (cs.take k1.length) (ds.take k1.length) = some b1 ∧ eqK k2 (cs.drop k1.length) (ds.drop k1.length) = some b2
  | [], k2, cs, ds, b, h => ⟨true, b, by simp, by simp [eqK], by simpa using h⟩
  | k :: k1, k2, cs, ds, b, h => by
    rw [List.cons_append] at h
    unfold eqK at h
    split at h
    · contradiction
    · rename_i ks x cs' y ds' e; injection e with e0 e; subst e; subst e0
      split at h
      · rename_i r hr
        injection h with h; subst h
        obtain ⟨b1, b2, rfl, h1, h2⟩ := eqK_split k1 hr
        exact ⟨(x == y) && b1, b2, by rw [Bool.and_assoc], by simp [eqK, h1], by simpa using h2⟩
      · cases h
    · rename_i ks kk x cs' kk' y ds' e; injection e with e0 e; subst e; subst e0
      split at h
      · rename_i hk; subst hk
        split at h
        · rename_i r hr
          injection h with h; subst h
          obtain ⟨b1, b2, rfl, h1, h2⟩ := eqK_split k1 hr
          exact ⟨(x == y) && b1, b2, by rw [Bool.and_assoc], by simp [eqK, h1], by simpa using h2⟩
        · cases h
      · cases h
    · rename_i ks x cs' y ds' e; injection e with e0 e; subst e; subst e0
      split at h
      · rename_i r hr
        injection h with h; subst h
        obtain ⟨b1, b2, rfl, h1, h2⟩ := eqK_split k1 hr
        exact ⟨(x == y) && b1, b2, by rw [Bool.and_assoc], by simp [eqK, h1], by simpa using h2⟩
      · cases h
    · cases h

/-- a value of these cells -/
def mkV (P : Program) (t : TypeId) (vs : List Value) : Value := if isAggT P t = some true then .agg vs.toArray else vs.headD (.tuple #[])

def EqP (P : Program) (d : Nat) (t : TypeId) : Prop :=
  ∀ (ks : List Kd) (M : Mem) (cs ds : List AV) (xs ys : List Value) (b : Bool) (w : World), plainK P d t = some ks → VRs M cs xs → VRs M ds ys → eqK ks cs ds = some b → ∀ d', d ≤ d' → (Op.equalIn d' t (mkV P t xs) (mkV P t ys)).run P w = .ok b w

theorem plainK_shp {P : Program} {d : Nat} {t : TypeId} {ks : List Kd} (h : plainK P d t = some ks) : ∃ g, shp P t = some (g, ks.length) ∧ (g = false → ks.length = 1) ∧ 0 < ks.length := by
  cases d with
  | zero => simp [plainK] at h
  | succ d =>
    simp only [plainK] at h
    split at h
    · rename_i ks' hu
      split at h
      · rename_i hs
        obtain ⟨hs, hpos⟩ := hs
        injection h with h; subst h
        unfold plainU at hu
        split at hu <;> first | (cases hu; done) | skip
        · rename_i hd; injection hu with hu; subst hu; exact ⟨false, by simp [shp, isAggT, hd, hs], ⟨fun _ => rfl, hpos⟩⟩
        · rename_i hd; injection hu with hu; subst hu; exact ⟨false, by simp [shp, isAggT, hd, hs], ⟨fun _ => rfl, hpos⟩⟩
        · rename_i hd; injection hu with hu; subst hu; exact ⟨false, by simp [shp, isAggT, hd, hs], ⟨fun _ => rfl, hpos⟩⟩
        · rename_i hd; exact ⟨true, by simp [shp, isAggT, hd, hs], ⟨(fun h => by cases h), hpos⟩⟩
        · rename_i hd; exact ⟨true, by simp [shp, isAggT, hd, hs], ⟨(fun h => by cases h), hpos⟩⟩
      · cases h
    · cases h

theorem run_partK {P : Program} {d : Nat} {t : TypeId} {ks : List Kd} (h : plainK P d t = some ks) (xs : Array Value) (o : Nat) (ho : o + ks.length ≤ xs.size) (w : World) :
    (part t xs o).run P w = .ok (mkV P t ((xs.toList.drop o).take ks.length)) w := by
  obtain ⟨g, hs, h1, hpos⟩ := plainK_shp h
  obtain ⟨i, dd, _, _, hu, hg⟩ := shp_some hs
  have hia : isAggT P t = some g := by
    unfold shp at hs
    split at hs
    · rename_i a n ha _; injection hs with hs; injection hs with e1 _; rw [ha, e1]
    · cases hs
  cases g with
  | true =>
    simp [part, run_isAgg hs, run_sizeOf hs, mkV, hia]
    apply Array.ext'
    simp
  | false =>
    have hl := h1 rfl
    have hlt : o < xs.size := by omega
    have hh : (xs.toList.drop o).take 1 = [xs[o]] := by
      rw [List.drop_eq_getElem_cons (by simpa using hlt)]; simp
    simp [part, run_isAgg hs, mkV, hia, hl, hlt, hh]

theorem run_eqFields_plain' {P : Program} {d : Nat} (IH : ∀ t, EqP P d t) {M : Mem} {cs ds : List AV} {xs ys : Array Value} (hx : VRs M cs xs.toList) (hy : VRs M ds ys.toList) (w : World) {d' : Nat} (hd : d ≤ d') :
    ∀ (fs : List Field) (o : Nat) {ks : List Kd} {b : Bool}, plainFs (plainK P d) fs o = some ks → eqK ks (cs.drop o) (ds.drop o) = some b → (Op.eqFields d' xs ys fs).run P w = .ok b w
  | [], o, ks, b, h, he => by
    simp [plainFs] at h; subst h
    have hl := eqK_len he
    have h1 : cs.drop o = [] := List.eq_nil_of_length_eq_zero (by simpa using hl.1)
    have h2 : ds.drop o = [] := List.eq_nil_of_length_eq_zero (by simpa using hl.2)
    rw [h1, h2] at he
    simp [eqK] at he
    simp [Op.eqFields, ← he]
  | f :: fs, o, ks, b, h, he => by
    simp only [plainFs] at h
    split at h
    · cases h
    · rename_i hc
      have hn : f.name ≠ "_" := fun e => hc (.inl e)
      have ho : f.offset = o := Classical.byContradiction fun e => hc (.inr e)
      split at h
      · rename_i k1 hk
        split at h
        · rename_i k2 hk2
          injection h with h; subst h
          obtain ⟨b1, b2, rfl, h1, h2⟩ := eqK_split k1 he
          obtain ⟨_, _, _, hkpos⟩ := plainK_shp hk
          have hlx : o + k1.length ≤ xs.size := by
            have := hx.1
            simp at this
            have h3 := (eqK_len h1).1
            simp only [List.length_take, List.length_drop] at h3
            omega
          have hly : o + k1.length ≤ ys.size := by
            have := hy.1
            simp at this
            have h3 := (eqK_len h1).2
            simp only [List.length_take, List.length_drop] at h3
            omega
          have hr := IH f.type k1 M _ _ _ _ b1 w hk ((hx.drop o).take k1.length) ((hy.drop o).take k1.length) h1 d' hd
          have hrest := run_eqFields_plain' IH hx hy w hd fs (o + k1.length) hk2 (by rw [List.drop_drop, List.drop_drop] at h2; exact h2)
          simp only [Op.eqFields, hn, ne_eq, not_false_eq_true, if_true, Sem.run_bind, ho, run_partK hk xs o hlx w, run_partK hk ys o hly w, Result.andThen_ok, hr]
          cases b1
          · simp
          · simpa using hrest
        · cases h
      · cases h

theorem run_eqItems_plain' {P : Program} {d : Nat} {e : TypeId} (IH : EqP P d e) {M : Mem} {cs ds : List AV} {xs ys : Array Value} (hx : VRs M cs xs.toList) (hy : VRs M ds ys.toList) (w : World) {d' : Nat} (hd : d ≤ d') {ks : List Kd} (hk : plainK P d e = some ks) :
    ∀ (m j : Nat) {b : Bool}, eqK (List.replicate m ks).flatten (cs.drop (j * ks.length)) (ds.drop (j * ks.length)) = some b → (Op.eqItems d' e ks.length xs ys (List.range' j m)).run P w = .ok b w
  | 0, j, b, he => by
    have hl := eqK_len he
    have h1 : cs.drop (j * ks.length) = [] := List.eq_nil_of_length_eq_zero (by simpa using hl.1)
    have h2 : ds.drop (j * ks.length) = [] := List.eq_nil_of_length_eq_zero (by simpa using hl.2)
    rw [h1, h2] at he
    simp [eqK] at he
    simp [Op.eqItems, ← he]
  | m + 1, j, b, he => by
    rw [List.replicate_succ, List.flatten_cons] at he
    obtain ⟨b1, b2, rfl, h1, h2⟩ := eqK_split ks he
    have hl := eqK_len h1
    simp only [List.length_take, List.length_drop] at hl
    obtain ⟨_, _, _, hkpos⟩ := plainK_shp hk
    have hlx : j * ks.length + ks.length ≤ xs.size := by have := hx.1; simp at this; omega
    have hly : j * ks.length + ks.length ≤ ys.size := by have := hy.1; simp at this; omega
    have hr := IH ks M _ _ _ _ b1 w hk ((hx.drop (j * ks.length)).take ks.length) ((hy.drop (j * ks.length)).take ks.length) h1 d' hd
    have hrest := run_eqItems_plain' IH hx hy w hd hk m (j + 1) (b := b2) (by rw [List.drop_drop, List.drop_drop, ← Nat.succ_mul] at h2; exact h2)
    simp only [List.range'_succ, Op.eqItems, Sem.run_bind, run_partK hk xs _ hlx w, run_partK hk ys _ hly w, Result.andThen_ok, hr]
    cases b1
    · simp
    · simpa using hrest

theorem eq_plain (P : Program) : ∀ (d : Nat) (t : TypeId), EqP P d t
  | 0, t => fun ks M cs ds xs ys b w h => by simp [plainK] at h
  | d + 1, t => by
    intro ks M cs ds xs ys b w h hx hy he d' hd
    obtain ⟨d'', rfl⟩ : ∃ d'', d' = d'' + 1 := ⟨d' - 1, by omega⟩
    obtain ⟨g, hs, h1, hpos⟩ := plainK_shp h
    have hia : isAggT P t = some g := by
      unfold shp at hs
      split at hs
      · rename_i a n ha _; injection hs with hs; injection hs with e1 _; rw [ha, e1]
      · cases hs
    simp only [plainK] at h
    split at h
    · rename_i ks' hu
      split at h
      · injection h with h; subst h
        unfold plainU at hu
        split at hu <;> first | (cases hu; done) | skip
        · rename_i hd
          injection hu with hu; subst hu
          have hg : g = false := by simp [isAggT, hd] at hia; exact hia
          subst hg
          unfold eqK at he
          split at he <;> first | (cases he; done) | skip
          · contradiction
          · rename_i ks x cs' y ds' e; injection e with _ e; subst e
            split at he
            · rename_i r hr
              injection he with he; subst he
              have hl := eqK_len hr
              have e1 : cs' = [] := List.eq_nil_of_length_eq_zero (by simpa using hl.1)
              have e2 : ds' = [] := List.eq_nil_of_length_eq_zero (by simpa using hl.2)
              subst e1; subst e2
              simp [eqK] at hr; subst hr
              obtain ⟨v, vs, rfl, q1, q2⟩ := hx.inv
              obtain ⟨v', vs', rfl, q3, q4⟩ := hy.inv
              cases q1; cases q3
              simp [mkV, hia, run_equalIn_bool (P := P) w d'' t x y hd]
            · cases he
          · rename_i e; injection e with e _; cases e
          · rename_i e; injection e with e _; cases e
        · rename_i kk hd
          injection hu with hu; subst hu
          have hg : g = false := by simp [isAggT, hd] at hia; exact hia
          subst hg
          unfold eqK at he
          split at he <;> first | (cases he; done) | skip
          · contradiction
          · rename_i e; injection e with e _; cases e
          · rename_i ks k x cs' k' y ds' e; injection e with _ e; subst e
            split at he
            · rename_i hkk; subst hkk
              split at he
              · rename_i r hr
                injection he with he; subst he
                have hl := eqK_len hr
                have e1 : cs' = [] := List.eq_nil_of_length_eq_zero (by simpa using hl.1)
                have e2 : ds' = [] := List.eq_nil_of_length_eq_zero (by simpa using hl.2)
                subst e1; subst e2
                simp [eqK] at hr; subst hr
                obtain ⟨v, vs, rfl, q1, q2⟩ := hx.inv
                obtain ⟨v', vs', rfl, q3, q4⟩ := hy.inv
                cases q1; cases q3
                simp [mkV, hia, run_equalIn_int (P := P) w d'' t k kk x y hd]
              · cases he
            · cases he
          · rename_i e; injection e with e _; cases e
        · rename_i hd
          injection hu with hu; subst hu
          have hg : g = false := by simp [isAggT, hd] at hia; exact hia
          subst hg
          unfold eqK at he
          split at he <;> first | (cases he; done) | skip
          · contradiction
          · rename_i e; injection e with e _; cases e
          · rename_i e; injection e with e _; cases e
          · rename_i ks x cs' y ds' e; injection e with _ e; subst e
            split at he
            · rename_i r hr
              injection he with he; subst he
              have hl := eqK_len hr
              have e1 : cs' = [] := List.eq_nil_of_length_eq_zero (by simpa using hl.1)
              have e2 : ds' = [] := List.eq_nil_of_length_eq_zero (by simpa using hl.2)
              subst e1; subst e2
              simp [eqK] at hr; subst hr
              obtain ⟨v, vs, rfl, q1, q2⟩ := hx.inv
              obtain ⟨v', vs', rfl, q3, q4⟩ := hy.inv
              cases q1; cases q3
              simp [mkV, hia, run_equalIn_string (P := P) w d'' t _ _ hd]
            · cases he
        · rename_i fs hd'
          have hg : g = true := by simp [isAggT, hd'] at hia; exact hia
          subst hg
          split at hu
          · cases hu
          · rename_i hp
            have hp' : P.stoodInHeld t = false := by simpa using hp
            have hf : P.fieldsOf t = fs := by simp [Program.fieldsOf, hd']
            simp only [mkV, hia, if_true]
            rw [run_equalIn_struct w d'' t _ _ (by rw [hf]; exact hd') hp', hf]
            exact run_eqFields_plain' (eq_plain P d) (xs := xs.toArray) (ys := ys.toArray) hx hy w (by omega) _ 0 hu (by simpa using he)
        · rename_i n e hd'
          have hg : g = true := by simp [isAggT, hd'] at hia; exact hia
          subst hg
          split at hu
          · rename_i k1 hk
            injection hu with hu; subst hu
            obtain ⟨ge, hse, _, _⟩ := plainK_shp hk
            obtain ⟨i, dd, hi, hsz, _⟩ := shp_some hse
            simp only [mkV, hia, if_true]
            rw [run_equalIn_array (P := P) w d'' xs.toArray ys.toArray hd' hi]
            have hce : P.cellsOf e = k1.length := by simp [Program.cellsOf, hi, hsz]
            rw [hce, List.range_eq_range']
            exact run_eqItems_plain' (eq_plain P d e) (xs := xs.toArray) (ys := ys.toArray) hx hy w (by omega) hk n 0 (by simpa using he)
          · cases hu
      · cases h
    · cases h

end Go.Vi
end SViOpsI
section SViOpsJ
/- The operations against the model's: tenth part: all that call no Go function. -/
namespace Go.Vi
open Go Go.RowKit
variable [Glob]

theorem eqGuard_string (op : BinOp) (t : TypeId) (x y : Operand) (s : ByteArray) (v : Value) : eqGuard op t x y (.string s) v = pure () := by cases op <;> rfl

theorem binOp_sound {P : Program} {M : Mem} {op : BinOp} {t : TypeId} {xv yv v : AV} {x y : Value} (h : binOpOf P op t xv yv = some v) (hx : VR M xv x) (hy : VR M yv y) (ox oy : Operand) (w : World) :
    ∃ z, (do eqGuard op t ox oy x y; binOp op t x y).run P w = .ok z w ∧ VR M v z := by
  unfold binOpOf at h
  split at h
  · rename_i k a k' b
    cases hx; cases hy
    rw [eqGuard_at_int]
    split at h
    · obtain ⟨z, h1, h2⟩ := run_shiftOp (P := P) (M := M) (.inl rfl) h t w (k' := k')
      exact ⟨z, by simpa using h1, h2⟩
    · obtain ⟨z, h1, h2⟩ := run_shiftOp (P := P) (M := M) (.inr rfl) h t w (k' := k')
      exact ⟨z, by simpa using h1, h2⟩
    · split at h
      · rename_i hk; subst hk
        obtain ⟨z, h1, h2⟩ := run_intOp (P := P) (M := M) h t w
        exact ⟨z, by simpa using h1, h2⟩
      · cases h
  · rename_i a b
    cases hx; cases hy
    rw [eqGuard_string]
    obtain ⟨z, h1, h2⟩ := run_strOp (P := P) (M := M) h t w
    exact ⟨z, by simpa using h1, h2⟩
  · rename_i a b
    cases hx; cases hy
    rw [eqGuard_at_bool]
    split at h
    · rename_i ht
      have hu : P.underlying t = some .bool := by
        unfold isBoolT at ht
        split at ht
        · assumption
        · cases ht
      split at h
      · injection h with h; subst h; exact ⟨_, by simpa using (underlying_bool_eq t a b w hu).1, .bool _⟩
      · injection h with h; subst h; exact ⟨_, by simpa using (underlying_bool_eq t a b w hu).2, .bool _⟩
      · cases h
    · cases h
  · rename_i cs ds
    obtain ⟨vs, rfl, hvs⟩ := hx.aggs
    obtain ⟨us, rfl, hus⟩ := hy.aggs
    split at h
    · rename_i ks hk
      unfold plainOk at hk
      split at hk
      · cases hk
      · rename_i hg
        have hg' : P.eqGuardType P.depth t = false := by simpa using hg
        split at hk <;> try (cases hk; done)
        rename_i hia
        have key : ∀ b, eqK ks cs ds = some b → (Op.equalIn 10000 t (.agg vs.toArray) (.agg us.toArray)).run P w = .ok b w := by
          intro b hb
          have := eq_plain P 20 t ks M cs ds vs us b w hk hvs hus hb 10000 (by omega)
          simpa [mkV, hia] using this
        split at h
        · rename_i b hb
          injection h with h; subst h
          refine ⟨.bool b, ?_, .bool b⟩
          simp [Sem.run_bind, run_eqGuard_agg (P := P) w .eql t ox oy _ _ hg', Result.andThen_ok, run_eql_struct, key b hb]
        · rename_i b hb
          injection h with h; subst h
          refine ⟨.bool !b, ?_, .bool _⟩
          simp [Sem.run_bind, run_eqGuard_agg (P := P) w .neq t ox oy _ _ hg', Result.andThen_ok, run_neq_struct, key b hb]
        · cases h
    · cases h
  · cases h

theorem unOp_sound {P : Program} {M : Mem} {op : UnOp} {xv v : AV} {x : Value} (h : unOpOf op xv = some v) (hx : VR M xv x) (w : World) : ∃ z, (Op.unary op x).run P w = .ok z w ∧ VR M v z := by
  unfold unOpOf at h
  split at h
  · injection h with h; subst h; cases hx; exact ⟨_, by simp [Op.unary], .bool _⟩
  · injection h with h; subst h; cases hx; exact ⟨_, by simp [Op.unary, Op.intArith], .int _ _⟩
  · cases h

theorem ev_agg {M : Mem} {env : Env} {a : Act} (h : EnvR M env a) {x : Operand} {v : AV} (hx : ev env x = v) : VR M v (a.eval x) := hx ▸ ev_vr h x

theorem pr_parts {M : Mem} {env : Env} {a : Act} (h : EnvR M env a) (ps : Array (Nat × Operand)) : PR M (evs env ps) (ps.map fun (i, x) => (i, a.eval x)).toList := by
  rw [Array.toList_map]; exact evs_pr h ps.toList

theorem evl_eval {M : Mem} {env : Env} {a : Act} (h : EnvR M env a) (ps : Array Operand) : VRs M (evl env ps) (ps.map a.eval).toList := by
  rw [Array.toList_map]; exact evl_vr h ps

theorem vrs_two {M : Mem} {x y : AV} {vs : List Value} (h : VRs M [x, y] vs) : ∃ u v, vs = [u, v] ∧ VR M x u ∧ VR M y v := by
  obtain ⟨u, r, rfl, h1, h2⟩ := h.inv
  obtain ⟨v, r2, rfl, h3, h4⟩ := h2.inv
  rw [h4.inv0]; exact ⟨u, v, rfl, h1, h3⟩
theorem vrs_one {M : Mem} {x : AV} {vs : List Value} (h : VRs M [x] vs) : ∃ u, vs = [u] ∧ VR M x u := by
  obtain ⟨u, r, rfl, h1, h2⟩ := h.inv
  rw [h2.inv0]; exact ⟨u, rfl, h1⟩

theorem builtin_sound {P : Program} {B : Nat} {M : Mem} {H : Heap} (h : HR B M H) (hB : B ≤ M.w.heap.size) {b : Builtin} {ts : Array TypeId} {args : List AV} {vs : Array Value} (hv : VRs M args vs.toList) {v : AV} {H' : Heap}
    (hb : builtinOf P H b ts args = some (v, H')) (ty : TypeId) :
    ∃ M' y, Moved B M H M' H' ∧ (∀ consts, (builtin b ts ty consts vs).run P M.w = .ok (.value y) M'.w) ∧ VR M' v y := by
  unfold builtinOf at hb
  split at hb
  · rename_i x
    obtain ⟨u, hu, hr⟩ := vrs_one hv
    have hvs : vs = #[u] := by apply Array.ext'; simpa using hu
    subst hvs
    split at hb
    · rename_i t ht
      split at hb
      · rename_i v' hl
        injection hb with hb; injection hb with e1 e2; subst e1; subst e2
        obtain ⟨y, h1, h2⟩ := len_sound (P := P) hl hr ht ty M.w
        exact ⟨M, y, Moved.refl h, by simp [builtin, h1], h2⟩
      · cases hb
    · cases hb
  · rename_i s x
    obtain ⟨u, u', hu, hr, hr'⟩ := vrs_two hv
    have hvs : vs = #[u, u'] := by apply Array.ext'; simpa using hu
    subst hvs
    split at hb
    · rename_i t ht
      split at hb
      · rename_i sz bytes hix
        split at hb
        · rename_i ys t2 hel ht2
          split at hb
          · rename_i ix hix2
            obtain ⟨M', y, m, h1, h2⟩ := append_sound (P := P) h hB ht ht2 hix2 hix hel hr' hr hb ty
            exact ⟨M', y, m, by simp [builtin, h1], h2⟩
          · cases hb
        · cases hb
      · cases hb
    · cases hb
  · rename_i k a k' b'
    obtain ⟨u, u', hu, hr, hr'⟩ := vrs_two hv
    have hvs : vs = #[u, u'] := by apply Array.ext'; simpa using hu
    subst hvs
    cases hr; cases hr'
    injection hb with hb; injection hb with e1 e2; subst e1; subst e2
    exact ⟨M, _, Moved.refl h, by simp [builtin, Builtin.max_, Builtin.max2], .int _ _⟩
  · rename_i k a k' b'
    obtain ⟨u, u', hu, hr, hr'⟩ := vrs_two hv
    have hvs : vs = #[u, u'] := by apply Array.ext'; simpa using hu
    subst hvs
    cases hr; cases hr'
    injection hb with hb; injection hb with e1 e2; subst e1; subst e2
    exact ⟨M, _, Moved.refl h, by simp [builtin, Builtin.min_, Builtin.min2], .int _ _⟩
  · cases hb

/-- An operation that calls no Go function does in the model what it does here. -/
theorem aop_sound {P : Program} {B : Nat} {M : Mem} {H : Heap} (h : HR B M H) (hB : B ≤ M.w.heap.size) {env : Env} {a : Act} (he : EnvR M env a) {ns : List Nat} {o : Oper} {v : AV} {H' : Heap} (ho : aop P ns env H o = some (v, H')) :
    ∃ M' x, Moved B M H M' H' ∧ VR M' v x ∧ ((execOp a.eval o).run P M.w = .ok (.value x) M'.w ∨ ((execOp a.eval o).run P M.w = .ok .skip M'.w ∧ x = undef)) := by
  unfold aop at ho
  split at ho
  · rename_i x hop
    injection ho with ho
    obtain ⟨M', m, hw, hr⟩ := moveOf_sound h he x
    rw [ho] at m hr
    exact ⟨M', _, m, hr, .inl (by simp [execOp, hop, hw])⟩
  · rename_i x hop
    injection ho with ho
    obtain ⟨M', m, hw, hr⟩ := moveOf_sound h he x
    rw [ho] at m hr
    exact ⟨M', _, m, hr, .inl (by simp [execOp, hop, hw])⟩
  · rename_i c x y hop
    split at ho
    · rename_i t hc
      injection ho with ho; injection ho with e1 e2; subst e1; subst e2
      have hcv := ev_agg he hc
      refine ⟨M, a.eval (if t then x else y), Moved.refl h, by cases t <;> exact ev_vr he _, .inl ?_⟩
      generalize hq : a.eval c = q at hcv
      cases hcv
      cases t <;> simp [execOp, hop, hq, asBool]
    · cases ho
  · rename_i t hop
    split at ho
    · rename_i cs hz
      injection ho with ho
      obtain ⟨i, z, hi, hz0, rfl⟩ := zeroC_some hz
      obtain ⟨M', m, hw, hr⟩ := newBox_sound h hB (map_aval0_vrs M z.cells.toList) t
      rw [ho] at m hr
      exact ⟨M', _, m, hr, .inl (by simp [execOp, hop, run_alloc hi hz0, hw])⟩
    · cases ho
  · rename_i t x hop
    split at ho
    · rename_i hsol
      injection ho with ho
      obtain ⟨M', m, hw, hr⟩ := newBox_sound h hB ((ev_vr he x).cells' hsol) t
      rw [ho] at m hr
      exact ⟨M', _, m, hr, .inl (by simp [execOp, hop, run_box, hw])⟩
    · cases ho
  · rename_i t ad hop
    split at ho
    · rename_i g n hs
      split at ho
      · rename_i v' hg
        injection ho with ho; injection ho with e1 e2; subst e1; subst e2
        obtain ⟨y, h1, h2⟩ := run_loadAt (P := P) h hs hg (ev_vr he ad)
        exact ⟨M, y, Moved.refl h, h2, .inl (by simp [execOp, hop, h1])⟩
      · cases ho
    · cases ho
  · rename_i t ad x hop
    split at ho
    · rename_i n hn
      split at ho
      · rename_i H1 hs
        injection ho with ho; injection ho with e1 e2; subst e1; subst e2
        obtain ⟨M', m, h1⟩ := setAt_sound (P := P) h hn hs (ev_vr he ad) (ev_vr he x)
        exact ⟨M', undef, m, .tup [] [] rfl (fun _ _ _ h => by simp at h), .inr ⟨by simp [execOp, hop, h1], rfl⟩⟩
      · cases ho
    · cases ho
  · rename_i x hop
    split at ho <;> first | (cases ho; done) | skip
    all_goals
      rename_i hx
      injection ho with ho; injection ho with e1 e2; subst e1; subst e2
      have hxv := ev_agg he hx
      refine ⟨M, a.eval x, Moved.refl h, hxv, .inl ?_⟩
      generalize hq : a.eval x = q at hxv
      cases hxv
      simp [execOp, hop, hq]
  · rename_i op t x y yt hop
    split at ho
    · rename_i v' hb
      injection ho with ho; injection ho with e1 e2; subst e1; subst e2
      obtain ⟨z, h1, h2⟩ := binOp_sound (P := P) hb (ev_vr he x) (ev_vr he y) x y M.w
      exact ⟨M, z, Moved.refl h, h2, .inl (by simp only [execOp, hop, Sem.run_bind, h1, Result.andThen_ok, Sem.run_pure])⟩
    · cases ho
  · rename_i op t x hop
    split at ho
    · rename_i v' hb
      injection ho with ho; injection ho with e1 e2; subst e1; subst e2
      obtain ⟨z, h1, h2⟩ := unOp_sound (P := P) hb (ev_vr he x) M.w
      exact ⟨M, z, Moved.refl h, h2, .inl (by simp [execOp, hop, h1])⟩
    · cases ho
  · rename_i s d x hop
    obtain ⟨M', y, m, h1, h2⟩ := convert_sound (P := P) h hB ho (ev_vr he x)
    exact ⟨M', y, m, h2, .inl (by simp [execOp, hop, h1])⟩
  · rename_i t ps hop
    split at ho
    · rename_i v' hb
      injection ho with ho; injection ho with e1 e2; subst e1; subst e2
      obtain ⟨y, h1, h2⟩ := build_sound (P := P) hb (pr_parts he ps) M.w
      exact ⟨M, y, Moved.refl h, h2, .inl (by simp only [execOp, hop, Sem.run_bind, h1, Result.andThen_ok, Sem.run_pure])⟩
    · cases ho
  · rename_i t n ps hop
    split at ho
    · rename_i sz bytes hix
      split at ho
      · rename_i hc
        obtain ⟨c1, c2, c3, c4, c5, c6⟩ := hc
        split at ho
        · rename_i xs H1 hf
          injection ho with ho; injection ho with e1 e2; subst e1; subst e2
          obtain ⟨M', y, m, h1, h2⟩ := buildSlice_sound (P := P) h hB hix c1 c2 (pr_parts he ps) c3 c4 c5 c6 hf
          exact ⟨M', y, m, h2, .inl (by simp only [execOp, hop, Sem.run_bind, h1, Result.andThen_ok, Sem.run_pure])⟩
        · cases ho
      · cases ho
    · cases ho
  · rename_i f first cs hop
    split at ho
    · rename_i hf
      injection ho with ho; injection ho with e1 e2; subst e1; subst e2
      have hf' : first = #[] := by simpa using hf
      subst hf'
      have hv := evl_eval he cs
      have hr := VR.fn (M := M) f (evl env cs) (cs.map a.eval).toList hv.1 hv.2
      simp only [Array.toArray_toList] at hr
      exact ⟨M, _, Moved.refl h, hr, .inl (by simp [execOp, hop, Instr.makeFunc])⟩
    · cases ho
  · rename_i t l c hop
    split at ho
    · rename_i sz bytes kl ln kc cn hix hl hcq
      split at ho
      · rename_i e hu
        split at ho
        · rename_i z hz
          split at ho
          · rename_i hc
            obtain ⟨rfl, c1, c2, c3, c4, c5, c6⟩ := hc
            split at ho
            · rename_i g hg
              split at ho
              · cases ho
              · rename_i hg1
                injection ho with ho; injection ho with e1 e2; subst e1; subst e2
                obtain ⟨M', y, m, h1, h2⟩ := makeSlice_sound (P := P) h hB hix hu hz (kl := kl) (kc := kc) c1 c2 c3 c4 c5 c6 hg (fun hgf => by subst hgf; simpa using hg1)
                exact ⟨M', y, m, h2, .inl (by simp [execOp, hop, ev_int he hl, ev_int he hcq, h1])⟩
            · cases ho
          · cases ho
        · cases ho
      · cases ho
    · cases ho
  · rename_i t x lo hi mx hop
    obtain ⟨M', y, m, h1, h2⟩ := slice_sound (P := P) h he ho (ev_vr he x)
    exact ⟨M', y, m, h2, .inl (by simp [execOp, hop, h1])⟩
  · rename_i s x f hop
    split at ho
    · rename_i d g n hf
      split at ho
      · rename_i v' hb
        injection ho with ho; injection ho with e1 e2; subst e1; subst e2
        obtain ⟨ad, hq, hr⟩ := addCell_vr hb (ev_vr he x)
        exact ⟨M, _, Moved.refl h, hr, .inl (by simp [execOp, hop, hq, run_fieldAt hf])⟩
      · cases ho
    · cases ho
  · rename_i s x f hop
    split at ho
    · rename_i d g n cs hf hx
      split at ho
      · rename_i v' hb
        injection ho with ho; injection ho with e1 e2; subst e1; subst e2
        obtain ⟨y, h1, h2⟩ := field_sound (P := P) hf (ev_agg he hx) hb M.w
        exact ⟨M, y, Moved.refl h, h2, .inl (by simp [execOp, hop, h1])⟩
      · cases ho
    · cases ho
  · rename_i t x i hop
    split at ho
    · rename_i k i' hi
      split at ho
      · rename_i v' hb
        injection ho with ho; injection ho with e1 e2; subst e1; subst e2
        obtain ⟨y, h1, h2⟩ := run_indexAt (P := P) (k := k) hb (ev_vr he x) M.w
        exact ⟨M, y, Moved.refl h, h2, .inl (by simp [execOp, hop, ev_int he hi, h1])⟩
      · cases ho
    · cases ho
  · rename_i t x i hop
    split at ho
    · rename_i k i' hi
      split at ho
      · rename_i v' hb
        injection ho with ho; injection ho with e1 e2; subst e1; subst e2
        obtain ⟨y, h1, h2⟩ := index_sound (P := P) (k := k) hb (ev_vr he x) M.w
        exact ⟨M, y, Moved.refl h, h2, .inl (by simp [execOp, hop, ev_int he hi, h1])⟩
      · cases ho
    · cases ho
  · rename_i t x hop
    split at ho
    · rename_i s hix hx
      injection ho with ho; injection ho with e1 e2; subst e1; subst e2
      have hxv := ev_agg he hx
      obtain ⟨M', y, m, h1, h2⟩ := range_sound (P := P) h hB (ixOf_str hix) s
      refine ⟨M', y, m, h2, .inl ?_⟩
      generalize hq : a.eval x = q at hxv
      cases hxv
      simp [execOp, hop, hq, h1]
    · cases ho
  · rename_i it hop
    split at ho
    · rename_i b hb
      split at ho
      · rename_i s pos hbk
        obtain ⟨n1, n2⟩ := next_sound (P := P) h (ev_agg he hb) hbk o.type
        split at ho
        · rename_i hp
          split at ho
          rename_i c w' hd
          injection ho with ho; injection ho with e1 e2; subst e1; subst e2
          obtain ⟨M', y, m, h1, h2⟩ := n1 c w' hd hp
          exact ⟨M', y, m, h2, .inl (by simp [execOp, hop, h1])⟩
        · rename_i hp
          injection ho with ho; injection ho with e1 e2; subst e1; subst e2
          obtain ⟨y, h1, h2⟩ := n2 hp
          exact ⟨M, y, Moved.refl h, h2, .inl (by simp [execOp, hop, h1])⟩
      · cases ho
    · cases ho
  · rename_i t i hop
    split at ho
    · rename_i vs ht
      split at ho
      · rename_i v' hv
        injection ho with ho; injection ho with e1 e2; subst e1; subst e2
        obtain ⟨y, h1, h2⟩ := extract_sound (P := P) (ev_agg he ht) hv M.w
        exact ⟨M, y, Moved.refl h, h2, .inl (by simp [execOp, hop, h1])⟩
      · cases ho
    · cases ho
  · rename_i b args ts hop
    obtain ⟨M', y, m, h1, h2⟩ := builtin_sound (P := P) h hB (evl_eval he args) ho o.type
    exact ⟨M', y, m, h2, .inl (by simp only [execOp, hop, resolve, invoke, Sem.run_bind, Sem.run_pure, Result.andThen_ok, h1])⟩
  · cases ho

end Go.Vi
end SViOpsJ
