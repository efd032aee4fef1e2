/- The interpreter: its shortened form of code is sound; rules to evaluate it in part. -/
import Derived.Test.YtopedkngffaplaaDoorVc
import Derived.ChangeSame
import Derived.WideKeyArgs
import Derived.RowKit
import Derived.OpenShut
set_option linter.all false
set_option linter.unusedVariables false
set_option linter.unusedSectionVars false
set_option linter.unusedSimpArgs false
section SViTop
/- From a call's answer to a law's row: the answer true, the arguments as they were. -/
namespace Go.Vi
open Go Go.ChangeShapes Go.WideShapes Go.RowKit
variable [Glob]

section
variable {H : Type} {enc : TypeId × Value → H} {P : Program}

theorem trodAll_stays (hl : laidOutB P = true) {W W' : World} (hb : Below W.heap.size W W') {sp : Nat → Bool} : ∀ {ts : List TypeId} {vs : List Value} {ds : List (DataW H)} {ps : List MemPlace}, (∀ t ∈ ts, P.readableRec t = true ∧ t < P.types.size) →
    DataW.TrodAll enc P W 0 (fun _ => true) true ts vs ds ps → (∀ p ∈ ps, p.block < W.heap.size ∧ sp p.block = true) → DataW.TrodAll enc P W' 0 sp true ts vs ds ps
  | [], [], [], _, _, h, _ => h
  | t :: ts, v :: vs, d :: ds, ps, hts, ⟨p, q, h1, h2, e⟩, hs => by
    subst e
    obtain ⟨k1, k2⟩ := hts t (List.mem_cons_self ..)
    exact ⟨p, q, WideElems.Trod_stays hl k1 k2 h1 (fun x hx => hb.same (hs x (List.mem_append_left _ hx)).1) (fun x hx => (hs x (List.mem_append_left _ hx)).2),
      trodAll_stays hl hb (fun t ht => hts t (List.mem_cons_of_mem _ ht)) h2 (fun x hx => hs x (List.mem_append_right _ hx)), rfl⟩

/-- A law's post: true, and the arguments read as they did. -/
theorem law_post {f : Func} {s : ChangeSpec} {apart fresh handsOn again : Bool} (hl : laidOutB P = true) (hpar : ∀ t ∈ f.params.toList, P.readableRec t = true ∧ t < P.types.size) {bt : TypeId} (hres : f.resultTypes = #[bt]) (hbt : P.underlying bt = some .bool)
    (hvars : s.vars = []) {W W' : World} {args : Array Value} {ds gs : List (DataW H)} {before : List MemPlace} (hW : DataW.Whole enc P f.params.toList s.vars apart W args.toList ds gs before)
    (hr : (s.fn H ds).results = [.lit (.bool true)]) (ha : (s.fn H ds).args = ds) (hv : (s.fn H ds).vars = []) (hb : Below W.heap.size W W') : s.post enc P f apart fresh handsOn again W args (.bool true) W' := by
  have hlt := hW.lt
  have hW' := hW
  obtain ⟨p, q, hA, hV, rfl, hfz, hnd⟩ := hW
  rw [hvars] at hV
  obtain ⟨rfl, rfl⟩ := trodVars_none hV
  simp only [List.append_nil] at hlt hfz hnd hW' ⊢
  have hres' : ∀ (b : Nat) (sp : Nat → Bool) (hd : Bool), DataW.TrodAll enc P W' b sp hd f.resultTypes.toList ((Value.bool true).resultList f.resultTypes.size) (s.fn H ds).results [] := by
    intro b sp hd
    rw [hres, hr]
    exact trodAll_cons_mk (shut_bool hbt _) trodAll_mk0
  have hargs : ∀ sp : Nat → Bool, (∀ x ∈ p, sp x.block = true) → DataW.TrodAll enc P W' 0 sp true f.params.toList args.toList (s.fn H ds).args p := fun sp hsp => by
    rw [ha]; exact trodAll_stays hl hb hpar hA (fun x hx => ⟨hlt x hx, hsp x hx⟩)
  have hvar' : ∀ sp : Nat → Bool, DataW.TrodVars enc P W' sp s.vars (s.fn H ds).vars [] := fun sp => by rw [hvars, hv]; rfl
  have hok := ok_one (P := P) (W' := W') (f := f) (v := .bool true) (t := bt) hres rfl (okWide_bool_mk hbt true)
  refine ⟨ds, [], p, [], p, [], hW', ?_, ?_, ?_, Below.frame hb _, fun _ => ?_⟩
  · simp only [List.append_nil]; exact hres' _ _ _
  · simp only [List.append_nil]; exact hargs _ (fun x hx => by simpa using hlt x hx)
  · simp only [List.append_nil]; exact hvar' _
  · refine ⟨hok, (s.fn H ds).results ++ (s.fn H ds).args, (s.fn H ds).vars, ([] ++ p) ++ [], ⟨[] ++ p, [], trodAll_append (hargs _ (fun _ _ => rfl)) (hres' _ _ _), hvar' _, rfl, ?_, ?_⟩, ?_⟩
    · intro b off hp
      simp only [List.nil_append, List.append_nil] at hp
      have := hfz b off hp
      rw [hb.frozen (p := ⟨b, off, none⟩) (hlt _ hp)]
      exact this
    · intro hap
      simpa using hnd hap
    · intro x hx _
      simpa using hx
end

/-- the memory ahead of a call: all of it stays -/
def Mem.start (W : World) : Mem := { w := W, σ := fun _ _ => none, kept := fun g _ => g < W.heap.size }
theorem hr_start (W : World) (hg : (∀ x ∈ Glob.base, W.cell? ⟨x.1, x.2.1, none⟩ = some x.2.2) ∧ ∀ x ∈ Glob.shapes, W.shape? x.1 = some x.2) : HR W.heap.size (Mem.start W) [] :=
  ⟨fun b x hx => by simp at hx, fun b b' x x' g h1 => by simp at h1, fun b v y hy => by simp [Mem.start] at hy, fun b v g s hs => by simp [Mem.start] at hs, fun g o hk => hk, ⟨fun x hx => ⟨World.block_lt_of_cell? W _ (hg.1 x hx), hg.1 x hx⟩, hg.2⟩⟩
theorem start_below (W : World) : (Mem.start W).below 0 = Mem.start W := by simp [Mem.start, Mem.below]

/-- A law that is answered with true. -/
theorem law_calls {C : Cfg} (hm : C.P.follows .mixedOrders = true) (hprim : PrimOk C) {n : Nat} {f : FuncId} {args : List AV} (h : vcall C (acall C n) f args = some (.bool true)) (hr0 : refOkL 0 args = true) {W : World} (hg : (∀ x ∈ Glob.base, W.cell? ⟨x.1, x.2.1, none⟩ = some x.2.2) ∧ ∀ x ∈ Glob.shapes, W.shape? x.1 = some x.2) {vs : Array Value} (hv : VRs (Mem.start W) args vs.toList) :
    Calls C.P f vs W fun e W' => e = .returned (.bool true) ∧ Below W.heap.size W W' := by
  obtain ⟨_, _, hc⟩ := value_ok hm hprim h hr0 W.heap.size (Mem.start W) vs.toList (Nat.le_refl _) (by rw [start_below]; exact hr_start W hg) (by rw [start_below]; exact hv)
  simp only [Array.toArray_toList] at hc
  refine Calls.mono hc fun e w' hq => ?_
  obtain ⟨y, M2, H2, rfl, m, rfl, hy⟩ := hq
  cases hy
  exact ⟨rfl, m.step.below⟩

end Go.Vi
end SViTop
