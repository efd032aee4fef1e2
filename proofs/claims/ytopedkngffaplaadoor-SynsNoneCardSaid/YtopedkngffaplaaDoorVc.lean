/- The interpreter: code, loops, calls and regions of open order are sound. -/
import Derived.Test.YtopedkngffaplaaDoorVb
set_option linter.all false
set_option linter.unusedVariables false
set_option linter.unusedSectionVars false
set_option linter.unusedSimpArgs false
section SViWpA
/- The walk: what holds between the slots, the blocks and the model's frame; single operations. -/
namespace Go.Vi
open Go Go.RowKit
variable [Glob]

/-- boxes below n hold nothing of n and beyond -/
def Clean (n : Nat) (H : Heap) : Prop := ∀ b cs, b < n → H[b]? = some (.box cs) → refOkL n cs = true
structure HS (ns : List Nat) (H H' : Heap) : Prop where
  len : H.length ≤ H'.length
  clean : ∀ n ∈ ns, n ≤ H.length → Clean n H → Clean n H'
theorem HS.refl (ns : List Nat) (H : Heap) : HS ns H H := ⟨Nat.le_refl _, fun _ _ _ h => h⟩
theorem HS.trans {ns : List Nat} {H H1 H2 : Heap} (h : HS ns H H1) (h' : HS ns H1 H2) : HS ns H H2 :=
  ⟨Nat.le_trans h.len h'.len, fun n hn hl hc => h'.clean n hn (Nat.le_trans hl h.len) (h.clean n hn hl hc)⟩
theorem HS.append (ns : List Nat) (H L : Heap) : HS ns H (H ++ L) :=
  ⟨by simp, fun n _ hl hc b cs hb h => hc b cs hb (by rwa [List.getElem?_append_left (by omega)] at h)⟩
theorem HS.set (ns : List Nat) (H : Heap) (b : Nat) (x : Blk) (hx : ∀ cs, x ≠ .box cs) : HS ns H (H.set b x) :=
  ⟨by simp, fun n _ _ hc b' cs hb h => by
    rw [List.getElem?_set] at h
    split at h
    · split at h
      · injection h with h; exact absurd h (hx cs)
      · cases h
    · exact hc b' cs hb h⟩

theorem refOkL_append {n : Nat} {cs ds : List AV} : refOkL n (cs ++ ds) = (refOkL n cs && refOkL n ds) := by
  induction cs with
  | nil => simp [refOkL]
  | cons c cs ih => simp [refOkL, ih, Bool.and_assoc]
theorem refOkL_take {n : Nat} {cs : List AV} (h : refOkL n cs = true) (k : Nat) : refOkL n (cs.take k) = true := by
  have := List.take_append_drop k cs
  rw [← this, refOkL_append] at h
  simp at h; exact h.1
theorem refOkL_drop {n : Nat} {cs : List AV} (h : refOkL n cs = true) (k : Nat) : refOkL n (cs.drop k) = true := by
  have := List.take_append_drop k cs
  rw [← this, refOkL_append] at h
  simp at h; exact h.2
theorem keepsOk_mem {ns : List Nat} {b : Nat} {cs : List AV} (h : keepsOk ns b cs = true) {n : Nat} (hn : n ∈ ns) : n ≤ b ∨ refOkL n cs = true := by
  induction ns with
  | nil => cases hn
  | cons m ns ih =>
    simp only [keepsOk, Bool.and_eq_true, Bool.or_eq_true, decide_eq_true_eq] at h
    rcases List.mem_cons.1 hn with rfl | hn
    · exact h.1
    · exact ih h.2 hn

mutual
theorem frz_hs (ns : List Nat) : ∀ (v : AV) {H : Heap} {v' : AV} {H' : Heap}, frz v H = some (v', H') → HS ns H H'
  | .row b ver hs off len, H, v', H', hf => by
    simp only [frz] at hf
    split at hf
    · split at hf
      · injection hf with hf; injection hf with e1 e2; subst e2; exact HS.set ns H _ _ (fun _ h => by cases h)
      · cases hf
    · cases hf
  | .agg cs, H, v', H', hf => by
    simp only [frz] at hf
    split at hf
    · rename_i hc; injection hf with hf; injection hf with e1 e2; subst e2; exact frzL_hs ns cs hc
    · cases hf
  | .tup cs, H, v', H', hf => by
    simp only [frz] at hf
    split at hf
    · rename_i hc; injection hf with hf; injection hf with e1 e2; subst e2; exact frzL_hs ns cs hc
    · cases hf
  | .fn f cs, H, v', H', hf => by
    simp only [frz] at hf
    split at hf
    · rename_i hc; injection hf with hf; injection hf with e1 e2; subst e2; exact frzL_hs ns cs hc
    · cases hf
  | .iface t v, H, v', H', hf => by
    simp only [frz] at hf
    split at hf
    · rename_i hc; injection hf with hf; injection hf with e1 e2; subst e2; exact frz_hs ns v hc
    · cases hf
  | .undef, H, v', H', hf => by simp only [frz] at hf; injection hf with hf; injection hf with e1 e2; subst e2; exact HS.refl ns H
  | .bool _, H, v', H', hf => by simp only [frz] at hf; injection hf with hf; injection hf with e1 e2; subst e2; exact HS.refl ns H
  | .int _ _, H, v', H', hf => by simp only [frz] at hf; injection hf with hf; injection hf with e1 e2; subst e2; exact HS.refl ns H
  | .str _, H, v', H', hf => by simp only [frz] at hf; injection hf with hf; injection hf with e1 e2; subst e2; exact HS.refl ns H
  | .nilp, H, v', H', hf => by simp only [frz] at hf; injection hf with hf; injection hf with e1 e2; subst e2; exact HS.refl ns H
  | .ptr _ _, H, v', H', hf => by simp only [frz] at hf; cases hf
  | .rptr _ _ _ _, H, v', H', hf => by simp only [frz] at hf; cases hf
  | .vptr _ _, H, v', H', hf => by simp only [frz] at hf; cases hf
  | .nils, H, v', H', hf => by simp only [frz] at hf; injection hf with hf; injection hf with e1 e2; subst e2; exact HS.refl ns H
  | .view _ _, H, v', H', hf => by simp only [frz] at hf; injection hf with hf; injection hf with e1 e2; subst e2; exact HS.refl ns H
  | .nilf, H, v', H', hf => by simp only [frz] at hf; injection hf with hf; injection hf with e1 e2; subst e2; exact HS.refl ns H
  | .nili, H, v', H', hf => by simp only [frz] at hf; injection hf with hf; injection hf with e1 e2; subst e2; exact HS.refl ns H
  | .iter _, H, v', H', hf => by simp only [frz] at hf; cases hf
theorem frzL_hs (ns : List Nat) : ∀ (cs : List AV) {H : Heap} {cs' : List AV} {H' : Heap}, frzL cs H = some (cs', H') → HS ns H H'
  | [], H, cs', H', hf => by simp only [frzL] at hf; injection hf with hf; injection hf with e1 e2; subst e2; exact HS.refl ns H
  | c :: cs, H, cs', H', hf => by
    simp only [frzL] at hf
    split at hf
    · rename_i hc
      split at hf
      · rename_i hcs
        injection hf with hf; injection hf with e1 e2; subst e2
        exact (frz_hs ns c hc).trans (frzL_hs ns cs hcs)
      · cases hf
    · cases hf
end

theorem setAt_hs {H H' : Heap} {ns : List Nat} {n : Nat} {p v : AV} (h : setAt H ns n p v = some H') : HS ns H H' := by
  unfold setAt at h
  split at h
  · split at h
    · rename_i b c
      split at h
      · rename_i cs hb
        split at h
        · rename_i hc
          injection h with h; subst h
          refine ⟨by simp, fun m hm hl hcl b' cs' hb' hq => ?_⟩
          rw [List.getElem?_set] at hq
          split at hq
          · rename_i hbb; subst hbb
            split at hq
            · injection hq with hq; injection hq with hq; subst hq
              have h1 := hcl b cs hb' hb
              have h2 := (keepsOk_mem hc.2 hm).resolve_left (by omega)
              unfold splice
              rw [refOkL_append, refOkL_append, refOkL_take h1, h2, refOkL_drop h1]; rfl
            · cases hq
          · exact hcl b' cs' hb' hq
        · cases h
      · cases h
    · split at h
      · split at h
        · split at h
          · split at h
            · injection h with h; subst h; exact HS.set ns H _ _ (fun _ h => by cases h)
            · cases h
          · cases h
        · cases h
      · cases h
    · cases h
  · cases h

theorem newBox_hs (ns : List Nat) (H : Heap) (cs : List AV) : HS ns H (newBox H cs).2 := by unfold newBox; exact HS.append ns H _
theorem moveOf_hs (ns : List Nat) (env : Env) (H : Heap) (x : Operand) : HS ns H (moveOf env H x).2 := by
  unfold moveOf
  split <;> first | exact HS.refl ns H | exact HS.append ns H _
theorem sliceOf_hs (ns : List Nat) {P : Program} {H H' : Heap} {t : TypeId} {x v : AV} {lo hi mx : Option AV} (h : sliceOf P H t x lo hi mx = some (v, H')) : HS ns H H' := by
  unfold sliceOf at h
  split at h
  · split at h
    · split at h
      · injection h with h; injection h with e1 e2; subst e2; exact HS.refl ns H
      · cases h
    · cases h
  · split at h
    · split at h
      · injection h with h; injection h with e1 e2; subst e2; exact HS.refl ns H
      · cases h
    · split at h
      · split at h
        · injection h with h; injection h with e1 e2; subst e2; exact HS.refl ns H
        · cases h
      · cases h
    · split at h
      · split at h
        · injection h with h; injection h with e1 e2; subst e2; exact HS.refl ns H
        · cases h
      · split at h
        · split at h
          · rename_i hf; injection h with h; injection h with e1 e2; subst e2; exact frz_hs ns _ hf
          · cases h
        · cases h
      · cases h
    · cases h
  · split at h
    · split at h
      · split at h
        · split at h
          · injection h with h; injection h with e1 e2; subst e2; exact HS.set ns H _ _ (fun _ h => by cases h)
          · cases h
        · split at h
          · injection h with h; injection h with e1 e2; subst e2; exact HS.refl ns H
          · cases h
        · cases h
      · cases h
    · cases h
  · cases h
theorem convertOf_hs (ns : List Nat) {P : Program} {H H' : Heap} {s d : TypeId} {x v : AV} (h : convertOf P H s d x = some (v, H')) : HS ns H H' := by
  unfold convertOf at h
  split at h
  · injection h with h; injection h with e1 e2; subst e2; exact HS.refl ns H
  · injection h with h; injection h with e1 e2; subst e2; exact HS.refl ns H
  · injection h with h; injection h with e1 e2; subst e2; exact HS.refl ns H
  · split at h
    · injection h with h; injection h with e1 e2; subst e2; exact HS.refl ns H
    · cases h
  · split at h
    · cases h
    split at h
    · split at h
      · injection h with h; injection h with e1 e2; subst e2; exact HS.refl ns H
      · cases h
    · cases h
  · split at h
    · cases h
    split at h
    · split at h
      · injection h with h; injection h with e1 e2; subst e2; exact HS.refl ns H
      · cases h
    · cases h
  · cases h
theorem appendTo_hs (ns : List Nat) {H H' : Heap} {sz by_ : Nat} {s v : AV} {ys : List AV} (h : appendTo H sz by_ s ys = some (v, H')) : HS ns H H' := by
  unfold appendTo at h
  split at h
  · split at h
    · split at h
      · injection h with h; injection h with e1 e2; subst e2; exact HS.append ns H _
      · cases h
    · split at h
      · injection h with h; injection h with e1 e2; subst e2; exact HS.append ns H _
      · cases h
    · split at h
      · split at h
        · injection h with h; injection h with e1 e2; subst e2; exact HS.set ns H _ _ (fun _ h => by cases h)
        · cases h
      · cases h
    · cases h
  · cases h
theorem builtinOf_hs (ns : List Nat) {P : Program} {H H' : Heap} {b : Builtin} {ts : Array TypeId} {args : List AV} {v : AV} (h : builtinOf P H b ts args = some (v, H')) : HS ns H H' := by
  unfold builtinOf at h
  split at h
  · split at h
    · split at h
      · injection h with h; injection h with e1 e2; subst e2; exact HS.refl ns H
      · cases h
    · cases h
  · split at h
    · split at h
      · split at h
        · split at h
          · exact appendTo_hs ns h
          · cases h
        · cases h
      · cases h
    · cases h
  · injection h with h; injection h with e1 e2; subst e2; exact HS.refl ns H
  · injection h with h; injection h with e1 e2; subst e2; exact HS.refl ns H
  · cases h

theorem aop_hs {P : Program} {ns : List Nat} {env : Env} {H H' : Heap} {o : Oper} {v : AV} (h : aop P ns env H o = some (v, H')) : HS ns H H' := by
  unfold aop at h
  split at h
  · rename_i x _; injection h with h; have := moveOf_hs ns env H x; rw [h] at this; exact this
  · rename_i x _; injection h with h; have := moveOf_hs ns env H x; rw [h] at this; exact this
  · split at h
    · injection h with h; injection h with e1 e2; subst e2; exact HS.refl ns H
    · cases h
  · split at h
    · rename_i cs _; injection h with h; have := newBox_hs ns H cs; rw [h] at this; exact this
    · cases h
  · split at h
    · rename_i x _ _; injection h with h; have := newBox_hs ns H (ev env x).cells; rw [h] at this; exact this
    · cases h
  · split at h
    · split at h
      · injection h with h; injection h with e1 e2; subst e2; exact HS.refl ns H
      · cases h
    · cases h
  · split at h
    · split at h
      · rename_i hs; injection h with h; injection h with e1 e2; subst e2; exact setAt_hs hs
      · cases h
    · cases h
  · split at h <;> first | (cases h; done) | (injection h with h; injection h with e1 e2; subst e2; exact HS.refl ns H)
  · split at h <;> first | (cases h; done) | (injection h with h; injection h with e1 e2; subst e2; exact HS.refl ns H)
  · split at h <;> first | (cases h; done) | (injection h with h; injection h with e1 e2; subst e2; exact HS.refl ns H)
  · exact convertOf_hs ns h
  · split at h <;> first | (cases h; done) | (injection h with h; injection h with e1 e2; subst e2; exact HS.refl ns H)
  · split at h
    · split at h
      · split at h
        · rename_i hf; injection h with h; injection h with e1 e2; subst e2; exact (frzL_hs ns _ hf).trans (HS.append ns _ _)
        · cases h
      · cases h
    · cases h
  · split at h <;> first | (cases h; done) | (injection h with h; injection h with e1 e2; subst e2; exact HS.refl ns H)
  · split at h
    · split at h
      · split at h
        · split at h
          · split at h
            · split at h
              · cases h
              · injection h with h; injection h with e1 e2; subst e2; exact HS.append ns H _
            · cases h
          · cases h
        · cases h
      · cases h
    · cases h
  · exact sliceOf_hs ns h
  · split at h
    · split at h <;> first | (cases h; done) | (injection h with h; injection h with e1 e2; subst e2; exact HS.refl ns H)
    · cases h
  · split at h
    · split at h <;> first | (cases h; done) | (injection h with h; injection h with e1 e2; subst e2; exact HS.refl ns H)
    · cases h
  · split at h
    · split at h <;> first | (cases h; done) | (injection h with h; injection h with e1 e2; subst e2; exact HS.refl ns H)
    · cases h
  · split at h
    · split at h <;> first | (cases h; done) | (injection h with h; injection h with e1 e2; subst e2; exact HS.refl ns H)
    · cases h
  · split at h
    · injection h with h; injection h with e1 e2; subst e2; exact HS.append ns H _
    · cases h
  · split at h
    · split at h
      · split at h
        · split at h
          injection h with h; injection h with e1 e2; subst e2; exact HS.set ns H _ _ (fun _ h => by cases h)
        · injection h with h; injection h with e1 e2; subst e2; exact HS.refl ns H
      · cases h
    · cases h
  · split at h
    · split at h <;> first | (cases h; done) | (injection h with h; injection h with e1 e2; subst e2; exact HS.refl ns H)
    · cases h
  · exact builtinOf_hs ns h
  · cases h

/-! ### the state -/
structure St (B : Nat) (ns : List Nat) (M : Mem) (H : Heap) (env : Env) (a : Act) (w : World) : Prop where
  hr : HR B M H
  hB : B ≤ M.w.heap.size
  he : EnvR M env a
  hw : M.w = w
  hd : a.defers = []
  hns : ∀ n ∈ ns, n ≤ H.length
  hcl : ∀ n ∈ ns, Clean n H

theorem EnvR.put {M : Mem} {env : Env} {a : Act} (h : EnvR M env a) (d : Option Tmp) {v : AV} {x : Value} (hv : VR M v x) : EnvR M (putE env d v) (a.put d x) := by
  cases d with
  | none => exact h
  | some d =>
    refine ⟨by simpa [putE, Act.put] using h.1, fun t u y hu hy => ?_⟩
    simp only [putE, Act.put] at hu hy
    rw [List.getElem?_set] at hu
    rw [Array.getElem?_setIfInBounds] at hy
    by_cases hdt : d = t
    · subst hdt
      simp only [if_true] at hu hy
      split at hu
      · split at hy
        · cases hu; cases hy; exact hv
        · cases hy
      · cases hu
    · rw [if_neg hdt] at hu hy
      exact h.2 t u y hu hy

theorem St.next {B : Nat} {ns : List Nat} {M M' : Mem} {H H' : Heap} {env : Env} {a : Act} {w : World} (h : St B ns M H env a w) (m : Moved B M H M' H') (hs : HS ns H H') (d : Option Tmp) {v : AV} {x : Value} (hv : VR M' v x) :
    St B ns M' H' (putE env d v) (a.put d x) M'.w :=
  ⟨m.hr, Nat.le_trans h.hB m.step.ext.size, (h.he.ext m.step.ext).put d hv, rfl, by cases d <;> exact h.hd, fun n hn => Nat.le_trans (h.hns n hn) hs.len, fun n hn => hs.clean n hn (h.hns n hn) (h.hcl n hn)⟩

/-- a function that may be entered -/
def Enters (P : Program) (f : FuncId) : Prop := ∃ fn, P.funcs[f]? = some fn ∧ (fn.name == "runtime.NumGoroutine") = false ∧ fn.body.isNone = false

/-- calls that are answered for are so in the model -/
def CallOk (P : Program) (call : Callee') : Prop := ∀ ns f args H v H', call ns f args H = .ok v H' → ∀ B M vs, HR B M H → B ≤ M.w.heap.size → VRs M args vs → (∀ n ∈ ns, n ≤ H.length) → (∀ n ∈ ns, Clean n H) →
  Enters P f ∧ HS ns H H' ∧ Calls P f vs.toArray M.w (fun e w' => ∃ y M', e = .returned y ∧ Moved B M H M' H' ∧ M'.w = w' ∧ VR M' v y)

theorem run_enter {P : Program} {f : FuncId} (h : Enters P f) (args : Array Value) (w : World) : (callFunc f args).run P w = .ok (.enter f args) w := by
  obtain ⟨fn, hf, hn, hb⟩ := h
  have h1 : fn.name ≠ "runtime.NumGoroutine" := by simpa using hn
  cases hbb : fn.body with
  | none => rw [hbb] at hb; cases hb
  | some c => simp [callFunc, run_program, hf, h1, hbb]

theorem aoper_wp {P : Program} {call : Callee'} (hcall : CallOk P call) {B : Nat} {ns : List Nat} {M : Mem} {H : Heap} {env : Env} {a : Act} {w : World} (h : St B ns M H env a w) {o : Oper} {v : AV} {H' : Heap}
    (ho : aoper P call ns env H o = .ok v H') (Q : Exit → Act → World → Prop) :
    HS ns H H' ∧ ∀ K : Act → World → Prop, (∀ x M', Moved B M H M' H' → VR M' v x → K (a.put o.dst x) M'.w) → o.wp P a w K Q := by
  obtain ⟨hr, hB, he, rfl, hd, hns, hcl⟩ := h
  have plain : aop P ns env H o = some (v, H') → HS ns H H' ∧ ∀ K : Act → World → Prop, (∀ x M', Moved B M H M' H' → VR M' v x → K (a.put o.dst x) M'.w) → o.wp P a M.w K Q := by
    intro ha
    refine ⟨aop_hs ha, fun K hK => ?_⟩
    obtain ⟨M', x, m, hx, hrun⟩ := aop_sound hr hB he ha
    unfold Oper.wp
    rcases hrun with hrun | ⟨hrun, rfl⟩
    · rw [hrun]; exact hK x M' m hx
    · rw [hrun]; exact hK undef M' m hx
  unfold aoper at ho
  split at ho
  · rename_i f args ats hop
    split at ho
    · rename_i f' cap hf
      have hv := VRs.append (evl_eval he args) (vs := (args.map a.eval).toList) (ev_agg he hf |>.fns).choose_spec.2
      obtain ⟨cvs, hfv, hcv⟩ := (ev_agg he hf).fns
      have hv := VRs.append (evl_eval he args) hcv
      obtain ⟨hent, hs, hc⟩ := hcall ns f' _ H v H' ho B M _ hr hB hv hns hcl
      refine ⟨hs, fun K hK => ?_⟩
      have hrun : (execOp a.eval o).run P M.w = .ok (.enter f' ((args.map a.eval).toList ++ cvs).toArray) M.w := by
        simp only [execOp, hop, resolve, hfv, Deferred.ofValue, Sem.run_bind, Sem.run_pure, Result.andThen_ok, invoke]
        rw [run_enter hent]
        congr 2
        apply Array.ext'; simp
      unfold Oper.wp
      rw [hrun]
      refine Calls.mono hc fun e w' hq => ?_
      obtain ⟨y, M', rfl, m, rfl, hy⟩ := hq
      exact hK y M' m hy
    · cases ho
  · split at ho
    · rename_i ha; injection ho with e1 e2; subst e1; subst e2; exact plain ha
    · cases ho

end Go.Vi
end SViWpA
section SViWpB
/- The walk: regions in order, loops, what is forgotten at a loop's end. -/
namespace Go.Vi
open Go Go.RowKit
variable [Glob]

theorem wantE_ok {M : Mem} {env : Env} {a : Act} (he : EnvR M env a) {ops : Array Oper} {o : Oper} {b : Bool} (h : wantE ops env o = some b) : Region.wanted o (yielded ops a.tmps) = b := by
  unfold wantE at h
  split at h
  · rename_i hg; injection h with h; subst h; simp [Region.wanted, hg]
  · rename_i j want hg
    split at h
    · rename_i t ht
      split at h
      · rename_i c hc
        injection h with h; subst h
        have hlt : t < a.tmps.size := by rw [← he.1]; exact (List.getElem?_eq_some_iff.1 hc).1
        have hv := he.2 t _ _ hc (Array.getElem?_eq_getElem hlt)
        generalize hq : a.tmps[t] = q at hv
        cases hv
        simp [Region.wanted, hg, yielded, ht, Array.getElem?_eq_getElem hlt, hq]
      · rename_i hc
        injection h with h; subst h
        have hlt : t < a.tmps.size := by rw [← he.1]; exact (List.getElem?_eq_some_iff.1 hc).1
        have hv := he.2 t _ _ hc (Array.getElem?_eq_getElem hlt)
        generalize hq : a.tmps[t] = q at hv
        obtain ⟨vs, rfl, _⟩ := hv.tups
        simp [Region.wanted, hg, yielded, ht, Array.getElem?_eq_getElem hlt, hq]
      · cases h
    · cases h

theorem aops_wp {P : Program} {call : Callee'} (hcall : CallOk P call) {B : Nat} {ns : List Nat} {ops : Array Oper} {Q : Exit → Act → World → Prop} :
    ∀ (os : List Oper) (j : Nat) {M : Mem} {H : Heap} {env : Env} {a : Act} {w : World} {e : Ex} {env' : Env} {H' : Heap}, ops.toList.drop j = os → St B ns M H env a w → aops P call ns ops os env H = .ok e env' H' →
      (e = .normal → ∀ a' M', Moved B M H M' H' → HS ns H H' → St B ns M' H' env' a' M'.w → Q .normal a' M'.w) → wpOps P ops Q (List.range' j os.length) a w
  | [], j, M, H, env, a, w, e, env', H', hd, hst, ho, hQ => by
    simp only [aops] at ho
    injection ho with e1 e2 e3; subst e1; subst e2; subst e3
    simp only [List.length_nil, List.range'_zero, wpOps]
    have hw := hst.hw
    subst hw
    exact hQ rfl a M (Moved.refl hst.hr) (HS.refl ns H) hst
  | o :: os, j, M, H, env, a, w, e, env', H', hd, hst, ho, hQ => by
    have hj : ops[j]? = some o := by
      have : (ops.toList.drop j)[0]? = some o := by rw [hd]; rfl
      rw [List.getElem?_drop] at this
      simpa using this
    have hd' : ops.toList.drop (j + 1) = os := by rw [← List.tail_drop, hd]; rfl
    simp only [aops] at ho
    split at ho
    · rename_i hw
      split at ho
      · rename_i v H1 hop
        obtain ⟨hs, hwp⟩ := aoper_wp hcall hst hop Q
        simp only [List.length_cons, List.range'_succ, wpOps, hj, wantE_ok hst.he hw, if_true]
        refine .inl (hwp _ fun x M1 m1 hx => ?_)
        refine aops_wp hcall os (j + 1) hd' (hst.next m1 hs o.dst hx) ho fun he' a' M' m' hs' hst' => ?_
        exact hQ he' a' M' (m1.trans m') (hs.trans hs') hst'
      · cases ho
    · rename_i hw
      simp only [List.length_cons, List.range'_succ, wpOps, hj, wantE_ok hst.he hw, Bool.false_eq_true, if_false]
      have hwe := hst.hw
      subst hwe
      have hu : VR M (.tup []) undef := .tup [] [] rfl (fun _ _ _ h => by simp at h)
      exact aops_wp hcall os (j + 1) hd' (hst.next (Moved.refl hst.hr) (HS.refl ns H) o.dst hu) ho hQ
    · cases ho

/-! ### what is forgotten -/
theorem refOk0 : (∀ (v : AV) (n : Nat), refOk 0 v = true → refOk n v = true) := by
  intro v n
  refine AV.rec (motive_1 := fun v => refOk 0 v = true → refOk n v = true) (motive_2 := fun cs => refOkL 0 cs = true → refOkL n cs = true) ?_ ?_ ?_ ?_ ?_ ?_ ?_ ?_ ?_ ?_ ?_ ?_ ?_ ?_ ?_ ?_ ?_ ?_ ?_ ?_ v
  all_goals (intros; simp_all [refOk, refOkL])

theorem refOkL0 {cs : List AV} (n : Nat) (h : refOkL 0 cs = true) : refOkL n cs = true := by
  induction cs with
  | nil => rfl
  | cons c cs ih =>
    simp only [refOkL, Bool.and_eq_true] at h
    simp [refOkL, refOk0 c n h.1, ih h.2]

theorem VRs.forget {M : Mem} (n : Nat) {cs : List AV} {vs : List Value} (h : VRs M cs vs) (hr : refOkL n cs = true) : VRs (M.below n) cs vs :=
  ⟨h.1, fun j u v hu hv => (h.2 j u v hu hv).forget n (refOkL_get hr hu)⟩
theorem VRs.pure' {M M' : Mem} (hE : SameView M M') {cs : List AV} {vs : List Value} (h : VRs M cs vs) (hp : pureCs cs = true) : VRs M' cs vs :=
  ⟨h.1, fun j u v hu hv => (h.2 j u v hu hv).pure hE (pureE_of_C (pureCs_get hp hu))⟩

theorem gOf_below {M : Mem} {n b : Nat} (hb : b < n) (x : Blk) : gOf (M.below n) b x = gOf M b x := by
  cases x <;> simp [gOf, gAt, Mem.below, hb]

theorem BR.below {M : Mem} {n b : Nat} (hb : b < n) {x : Blk} (h : BR M b x) (hc : ∀ cs, x = .box cs → refOkL n cs = true) : BR (M.below n) b x := by
  have hσ : ∀ v, (M.below n).σ b v = M.σ b v := fun v => by simp [Mem.below, hb]
  cases x with
  | dead => trivial
  | box cs =>
    obtain ⟨g, z, vals, ty, h1, h2, h3, h4⟩ := h
    exact ⟨g, z, vals, ty, (hσ 0).trans h1, h2, h3.forget n (hc cs rfl), h4⟩
  | fbox cs =>
    obtain ⟨g, z, vals, ty, h1, h2, h3, h4, h5⟩ := h
    exact ⟨g, z, vals, ty, (hσ 0).trans h1, h2, h3.forget n (refOkL0 n h5), h4, h5⟩
  | row sz xs ver fz =>
    obtain ⟨h1, h2, h3, h4, h5⟩ := h
    refine ⟨h1, h2, h3, fun v hv => (hσ v).trans (h4 v hv), ?_⟩
    rcases h5 with ⟨h5, h6⟩ | ⟨g, vals, ty, cap, k1, k2, k3, k4, k5, k6, k7, k8⟩
    · exact .inl ⟨(hσ ver).trans h5, h6⟩
    · exact .inr ⟨g, vals, ty, cap, (hσ ver).trans k1, k2, k3, k4, k5, k6.pure' (sameView_below M n) (pureL_flat h2), k7, k8⟩
  | iter s pos =>
    obtain ⟨g, h1, h2⟩ := h
    exact ⟨g, (hσ 0).trans h1, h2⟩

theorem HR.below {B n : Nat} {M : Mem} {H : Heap} (h : HR B M H) (hc : Clean n H) : HR B (M.below n) (H.take n) := by
  have hget : ∀ b x, (H.take n)[b]? = some x → b < n ∧ H[b]? = some x := fun b x hx => by
    rw [List.getElem?_take] at hx
    split at hx
    · exact ⟨by assumption, hx⟩
    · cases hx
  have hσ : ∀ b v y, (M.below n).σ b v = some y → b < n ∧ M.σ b v = some y := fun b v y hy => by
    simp only [Mem.below] at hy
    split at hy
    · exact ⟨by assumption, hy⟩
    · cases hy
  refine ⟨fun b x hx => ?_, fun b b' x x' g h1 h2 h3 h4 => ?_, fun b v y hy => ?_, fun b v g s hs => h.low b v g s (hσ _ _ _ hs).2, fun g o hk => h.kept g o hk, h.base⟩
  · obtain ⟨hb, hx⟩ := hget b x hx
    exact (h.blk b x hx).below hb (fun cs hcs => by subst hcs; exact hc b cs hb hx)
  · obtain ⟨hb, h1⟩ := hget b x h1
    obtain ⟨hb', h2⟩ := hget b' x' h2
    rw [gOf_below hb] at h3
    rw [gOf_below hb'] at h4
    exact h.apart b b' x x' g h1 h2 h3 h4
  · obtain ⟨hb, hy⟩ := hσ _ _ _ hy
    have := h.dom _ _ _ hy
    simp; omega

theorem Moved.below {B : Nat} {M M' : Mem} {H H' : Heap} (h : Moved B M H M' H') (hr : HR B M H) (hc : Clean H.length H') : Moved B M H (M'.below H.length) (H'.take H.length) := by
  refine ⟨⟨⟨fun b v x hx => ?_, h.step.ext.shape, h.step.ext.kept, h.step.ext.cell, h.step.ext.size⟩, h.step.below, h.step.frame⟩, h.hr.below hc, ⟨fun b x g hx hg => ?_, fun b hb => ?_⟩⟩
  · have := hr.dom _ _ _ hx
    exact below_of this (h.step.ext.σ _ _ _ hx)
  · rw [List.getElem?_take] at hx
    split at hx
    · rename_i hb
      rw [gOf_below hb] at hg
      exact h.onto.blk b x g hx hg
    · cases hx
  · have hlt := (List.getElem?_eq_some_iff.1 hb).1
    obtain ⟨h1, h2⟩ := h.onto.dead b hb
    exact ⟨by rw [List.getElem?_take, if_pos hlt]; exact h1, fun v => (by simp [Mem.below, hlt] : (M'.below H.length).σ b v = M'.σ b v).trans (h2 v)⟩

theorem EnvR.scrub {M : Mem} {env : Env} {a : Act} (h : EnvR M env a) (n : Nat) : EnvR (M.below n) (scrub n env) a := by
  refine ⟨by simp [Vi.scrub, h.1], fun t v x hv hx => ?_⟩
  simp only [Vi.scrub, List.getElem?_map, Option.map_eq_some_iff] at hv
  obtain ⟨u, hu, rfl⟩ := hv
  unfold scrubV
  split
  · rename_i hr; exact (h.2 t u x hu hx).forget n hr
  · exact .undef x

theorem HS.take {ns : List Nat} {H H' : Heap} (h : HS ns H H') : HS ns H (H'.take H.length) := by
  refine ⟨by simp [h.len], fun n hn hl hc b cs hb hq => ?_⟩
  rw [List.getElem?_take] at hq
  split at hq
  · exact h.clean n hn hl hc b cs hb hq
  · cases hq

theorem refOkL_of {n : Nat} {cs : List AV} (h : ∀ (j : Nat) u, cs[j]? = some u → refOk n u = true) : refOkL n cs = true := by
  induction cs with
  | nil => rfl
  | cons c cs ih => simp only [refOkL, Bool.and_eq_true]; exact ⟨h 0 c rfl, ih (fun j u hu => h (j + 1) u (by simpa using hu))⟩
theorem VR.refs {M : Mem} {n : Nat} (hdom : ∀ b v y, M.σ b v = some y → b < n) {v : AV} {x : Value} (h : VR M v x) : Vi.refOk n v = true := by
  have get : ∀ {cs : List AV} {vs : List Value}, vs.length = cs.length → (∀ (j : Nat) u v, cs[j]? = some u → vs[j]? = some v → Vi.refOk n u = true) → refOkL n cs = true := by
    intro cs vs hl ih
    refine refOkL_of fun j u hu => ?_
    have hj : j < vs.length := by rw [hl]; exact (List.getElem?_eq_some_iff.1 hu).1
    exact ih j u _ hu (List.getElem?_eq_getElem hj)
  induction h with
  | ptr h => simp [Vi.refOk, hdom _ _ _ h]
  | rptr h => simp [Vi.refOk, hdom _ _ _ h]
  | row0 a h => simp [Vi.refOk, hdom _ _ _ h]
  | rowE a h =>
    rename_i b ver hs off
    cases hq : M.σ b ver with
    | none => exact absurd hq h
    | some y => simp [Vi.refOk, hdom _ _ _ hq]
  | row h => simp [Vi.refOk, hdom _ _ _ h]
  | iter h => simp [Vi.refOk, hdom _ _ _ h]
  | agg cs vs hl _ ih => simpa [Vi.refOk] using get hl ih
  | tup cs vs hl _ ih => simpa [Vi.refOk] using get hl ih
  | fn f cs vs hl _ ih => simpa [Vi.refOk] using get hl ih
  | iface t v x _ ih => simpa [Vi.refOk] using ih
  | _ => rfl
theorem VRs.refs {M : Mem} {n : Nat} (hdom : ∀ b v y, M.σ b v = some y → b < n) {cs : List AV} {vs : List Value} (h : VRs M cs vs) : refOkL n cs = true :=
  refOkL_of fun _ _ hu => by obtain ⟨_, _, hr⟩ := h.get hu; exact hr.refs hdom

theorem HR.clean {B : Nat} {M : Mem} {H : Heap} (h : HR B M H) : Clean H.length H := by
  intro b cs _ hq
  obtain ⟨_, _, _, _, _, _, h3, _⟩ := h.blk b _ hq
  exact h3.refs h.dom

/-! ### loops -/
theorem wp_loop_fuel {P : Program} {Q : Exit → Act → World → Prop} {c : Code} (I : Nat → Act → World → Prop) (round : ∀ n a w, I n a w → c.wp P (Exit.then (fun a' w' => ∃ m, m < n ∧ I m a' w') Q) a w)
    {n : Nat} {a : Act} {w : World} (h : I n a w) : (Code.loop c).wp P Q a w := by
  intro b k cs
  have key : ∀ n a w, I n a w → ∃ e a' w', Q e a' w' ∧ Arrives P (lone (b.at a (.code c :: .inLoop c :: k)) cs w) b k cs e a' w' := by
    intro n
    induction n using Nat.strongRecOn with
    | _ n ih =>
      intro a w hI
      obtain ⟨e, a1, w1, hq, harr⟩ := round n a w hI b (.inLoop c :: k) cs
      cases e with
      | normal =>
        obtain ⟨m, hm, hI1⟩ := hq
        obtain ⟨e2, a2, w2, hq2, harr2⟩ := ih m hm a1 w1 hI1
        exact ⟨e2, a2, w2, hq2, .of_steps (Steps.trans harr (.one step_inLoop)) harr2⟩
      | exit id => exact ⟨_, a1, w1, hq, .pass (x := .inLoop c) rfl (fun _ _ => .inl (by simp)) harr⟩
      | goto l => exact ⟨_, a1, w1, hq, .pass (x := .inLoop c) rfl (fun _ _ => .inl (by simp)) harr⟩
      | ret => exact ⟨_, a1, w1, hq, .pass (x := .inLoop c) rfl (fun _ _ => .inl (by simp)) harr⟩
      | panic ch => exact ⟨_, a1, w1, hq, .pass (x := .inLoop c) rfl (fun _ _ => .inl (by simp)) harr⟩
      | outgrown => exact ⟨_, a1, w1, hq, .pass (x := .inLoop c) rfl (fun _ _ => .inl (by simp)) harr⟩
  obtain ⟨e, a', w', hq, harr⟩ := key n a w h
  exact ⟨e, a', w', hq, .of_steps (.one step_loop) harr⟩

/-! ### code -/
def exitOf : Ex → Exit
  | .normal => .normal
  | .exit i => .exit i
  | .ret => .ret

/-- what a piece of code's end says -/
def Ends (B : Nat) (ns : List Nat) (M : Mem) (H : Heap) (e : Ex) (env' : Env) (H' : Heap) : Exit → Act → World → Prop :=
  fun ex a' w' => ex = exitOf e ∧ HS ns H H' ∧ ∃ M', Moved B M H M' H' ∧ St B ns M' H' env' a' w'

/-- what a region whose order is open must answer -/
def DrawOk (C : Cfg) (call : Callee') : Prop := ∀ (id : Nat) (ops : Array Oper) (B : Nat) (ns : List Nat) (M : Mem) (H : Heap) (env : Env) (a : Act) (w : World) (e : Ex) (env' : Env) (H' : Heap), statOk (.region id ops true) = true → St B ns M H env a w →
  adraw C.P C.inl call ns ops 0 ops.toList env H [] = .ok e env' H' → (Code.region id ops true).wp C.P (Ends B ns M H e env' H') a w

theorem Ends.trans {B : Nat} {ns : List Nat} {M M1 : Mem} {H H1 H' : Heap} {e : Ex} {env' : Env} (m : Moved B M H M1 H1) (hs : HS ns H H1) {ex : Exit} {a : Act} {w : World} (h : Ends B ns M1 H1 e env' H' ex a w) : Ends B ns M H e env' H' ex a w := by
  obtain ⟨h1, h2, M', m', st'⟩ := h
  exact ⟨h1, hs.trans h2, M', m.trans m', st'⟩

theorem aops_normal {P : Program} {call : Callee'} {ns : List Nat} {ops : Array Oper} : ∀ {os : List Oper} {env : Env} {H : Heap} {e : Ex} {env' : Env} {H' : Heap}, aops P call ns ops os env H = .ok e env' H' → e = .normal
  | [], _, _, _, _, _, h => by simp only [aops] at h; injection h with e1 _ _; exact e1.symm
  | o :: os, env, H, e, env', H', h => by
    simp only [aops] at h
    split at h
    · split at h
      · exact aops_normal h
      · cases h
    · exact aops_normal h
    · cases h

theorem loop_wp {C : Cfg} {call : Callee'} {body : Code} (hbody : ∀ ns env H e env' H', aexec C call body ns env H = .ok e env' H' → ∀ B M a w, St B ns M H env a w → body.wp C.P (Ends B ns M H e env' H') a w)
    {ns : List Nat} {n : Nat} {env : Env} {H : Heap} {e : Ex} {env' : Env} {H' : Heap} (h : loopN (aexec C call body) ns n env H = .ok e env' H') {B : Nat} {M : Mem} {a : Act} {w : World} (hst : St B ns M H env a w) :
    (Code.loop body).wp C.P (Ends B ns M H e env' H') a w := by
  refine wp_loop_fuel (fun n a w => ∃ M1 H1 env1, loopN (aexec C call body) ns n env1 H1 = .ok e env' H' ∧ Moved B M H M1 H1 ∧ HS ns H H1 ∧ St B ns M1 H1 env1 a w) ?_ (n := n) ⟨M, H, env, h, Moved.refl hst.hr, HS.refl ns H, hst⟩
  rintro n a w ⟨M1, H1, env1, hl, m1, hs1, st1⟩
  cases n with
  | zero => simp [loopN] at hl
  | succ n =>
    simp only [loopN] at hl
    have stN : St B (H1.length :: ns) M1 H1 env1 a w := ⟨st1.hr, st1.hB, st1.he, st1.hw, st1.hd, fun n hn => (List.mem_cons.1 hn).elim (fun e => by omega) (st1.hns n), fun n hn => (List.mem_cons.1 hn).elim (fun e => by subst e; exact st1.hr.clean) (st1.hcl n)⟩
    have sub : ∀ {H2 : Heap}, HS (H1.length :: ns) H1 H2 → HS ns H1 H2 := fun h => ⟨h.len, fun n hn => h.clean n (List.mem_cons_of_mem _ hn)⟩
    have stS : ∀ {M2 : Mem} {H2 : Heap} {env2 : Env} {a2 : Act} {w2 : World}, St B (H1.length :: ns) M2 H2 env2 a2 w2 → St B ns M2 H2 env2 a2 w2 := fun h => ⟨h.hr, h.hB, h.he, h.hw, h.hd, fun n hn => h.hns n (List.mem_cons_of_mem _ hn), fun n hn => h.hcl n (List.mem_cons_of_mem _ hn)⟩
    split at hl
    · rename_i env2 H2 hr
      refine wp_mono (hbody _ _ _ _ _ _ hr B M1 a w stN) fun ex a' w' hq => ?_
      obtain ⟨rfl, hs2, M2, m2, st2⟩ := hq
      refine ⟨n, Nat.lt_succ_self n, M2.below H1.length, H2.take H1.length, _, hl, m1.trans (m2.below st1.hr (st2.hcl _ (List.mem_cons_self ..))), hs1.trans (sub hs2).take, ?_⟩
      have hle := hs2.len
      refine ⟨st2.hr.below (st2.hcl _ (List.mem_cons_self ..)), st2.hB, st2.he.scrub _, st2.hw, st2.hd, fun n hn => ?_, fun n hn b cs hb hq => ?_⟩
      · have := st1.hns n hn
        simp; omega
      · rw [List.getElem?_take] at hq
        split at hq
        · exact st2.hcl n (List.mem_cons_of_mem _ hn) b cs hb hq
        · cases hq
    · rename_i env2 H2 hr
      injection hl with e1 e2 e3; subst e1; subst e2; subst e3
      refine wp_mono (hbody _ _ _ _ _ _ hr B M1 a w stN) fun ex a' w' hq => ?_
      obtain ⟨rfl, hs2, M2, m2, st2⟩ := hq
      exact ⟨rfl, hs1.trans (sub hs2), M2, m1.trans m2, stS st2⟩
    · rename_i i env2 H2 hr
      injection hl with e1 e2 e3; subst e1; subst e2; subst e3
      refine wp_mono (hbody _ _ _ _ _ _ hr B M1 a w stN) fun ex a' w' hq => ?_
      obtain ⟨rfl, hs2, M2, m2, st2⟩ := hq
      exact ⟨rfl, hs1.trans (sub hs2), M2, m1.trans m2, stS st2⟩
    · cases hl

theorem aexec_wp {C : Cfg} {call : Callee'} (hcall : CallOk C.P call) (hdraw : DrawOk C call) : ∀ (code : Code), statOk code = true → ∀ ns env H e env' H', aexec C call code ns env H = .ok e env' H' → ∀ B M a w, St B ns M H env a w →
    code.wp C.P (Ends B ns M H e env' H') a w
  | .skip, _, ns, env, H, e, env', H', h, B, M, a, w, st => by
    simp only [aexec] at h; injection h with e1 e2 e3; subst e1; subst e2; subst e3
    exact wp_skip ⟨rfl, HS.refl ns H, M, Moved.refl st.hr, st⟩
  | .region id ops false, hst, ns, env, H, e, env', H', h, B, M, a, w, st => by
    simp only [aexec] at h
    obtain rfl := aops_normal h
    refine wp_region ?_
    have := aops_wp hcall (Q := Ends B ns M H .normal env' H') ops.toList 0 rfl st h (fun _ a' M' m hs st' => ⟨rfl, hs, M', m, st'⟩)
    rwa [Array.length_toList, ← List.range_eq_range'] at this
  | .region id ops true, hst, ns, env, H, e, env', H', h, B, M, a, w, st => by
    simp only [aexec] at h
    exact hdraw id ops B ns M H env a w e env' H' hst st h
  | .seq x y, hst, ns, env, H, e, env', H', h, B, M, a, w, st => by
    simp only [statOk, Bool.and_eq_true] at hst
    simp only [aexec] at h
    refine wp_seq ?_
    split at h
    · rename_i env1 H1 h1
      refine wp_mono (aexec_wp hcall hdraw x hst.1 _ _ _ _ _ _ h1 B M a w st) fun ex a' w' hq => ?_
      obtain ⟨rfl, hs, M1, m1, st1⟩ := hq
      exact wp_mono (aexec_wp hcall hdraw y hst.2 _ _ _ _ _ _ h B M1 a' w' st1) fun ex a'' w'' hq => hq.trans m1 hs
    · rename_i env1 H1 h1
      injection h with e1 e2 e3; subst e1; subst e2; subst e3
      refine wp_mono (aexec_wp hcall hdraw x hst.1 _ _ _ _ _ _ h1 B M a w st) fun ex a' w' hq => ?_
      obtain ⟨rfl, hs, M1, m1, st1⟩ := hq
      exact ⟨rfl, hs, M1, m1, st1⟩
    · rename_i i env1 H1 h1
      injection h with e1 e2 e3; subst e1; subst e2; subst e3
      refine wp_mono (aexec_wp hcall hdraw x hst.1 _ _ _ _ _ _ h1 B M a w st) fun ex a' w' hq => ?_
      obtain ⟨rfl, hs, M1, m1, st1⟩ := hq
      exact ⟨rfl, hs, M1, m1, st1⟩
    · cases h
  | .cond c x y, hst, ns, env, H, e, env', H', h, B, M, a, w, st => by
    simp only [statOk, Bool.and_eq_true] at hst
    simp only [aexec] at h
    split at h
    · rename_i hc
      have hv := ev_agg st.he hc
      generalize hq : a.eval c = q at hv
      cases hv
      exact wp_cond_true hq (aexec_wp hcall hdraw x hst.1 _ _ _ _ _ _ h B M a w st)
    · rename_i hc
      have hv := ev_agg st.he hc
      generalize hq : a.eval c = q at hv
      cases hv
      exact wp_cond_false hq (aexec_wp hcall hdraw y hst.2 _ _ _ _ _ _ h B M a w st)
    · cases h
  | .block id b, hst, ns, env, H, e, env', H', h, B, M, a, w, st => by
    simp only [statOk] at hst
    simp only [aexec] at h
    refine wp_block ?_
    split at h
    · rename_i i env1 H1 h1
      refine wp_mono (aexec_wp hcall hdraw b hst _ _ _ _ _ _ h1 B M a w st) fun ex a' w' hq => ?_
      obtain ⟨rfl, hs, M1, m1, st1⟩ := hq
      split at h
      · rename_i hi
        injection h with e1 e2 e3; subst e1; subst e2; subst e3
        simp only [exitOf, Exit.inBlock, hi, if_true]
        exact ⟨rfl, hs, M1, m1, st1⟩
      · rename_i hi
        injection h with e1 e2 e3; subst e1; subst e2; subst e3
        simp only [exitOf, Exit.inBlock, hi, if_false]
        exact ⟨rfl, hs, M1, m1, st1⟩
    · rename_i env1 H1 h1
      injection h with e1 e2 e3; subst e1; subst e2; subst e3
      refine wp_mono (aexec_wp hcall hdraw b hst _ _ _ _ _ _ h1 B M a w st) fun ex a' w' hq => ?_
      obtain ⟨rfl, hs, M1, m1, st1⟩ := hq
      exact ⟨rfl, hs, M1, m1, st1⟩
    · rename_i env1 H1 h1
      injection h with e1 e2 e3; subst e1; subst e2; subst e3
      refine wp_mono (aexec_wp hcall hdraw b hst _ _ _ _ _ _ h1 B M a w st) fun ex a' w' hq => ?_
      obtain ⟨rfl, hs, M1, m1, st1⟩ := hq
      exact ⟨rfl, hs, M1, m1, st1⟩
    · cases h
  | .loop b, hst, ns, env, H, e, env', H', h, B, M, a, w, st => by
    simp only [statOk] at hst
    simp only [aexec] at h
    exact loop_wp (fun ns env H e env' H' h B M a w st => aexec_wp hcall hdraw b hst ns env H e env' H' h B M a w st) h st
  | .exit i, _, ns, env, H, e, env', H', h, B, M, a, w, st => by
    simp only [aexec] at h; injection h with e1 e2 e3; subst e1; subst e2; subst e3
    exact wp_exit ⟨rfl, HS.refl ns H, M, Moved.refl st.hr, st⟩
  | .ret, _, ns, env, H, e, env', H', h, B, M, a, w, st => by
    simp only [aexec] at h; injection h with e1 e2 e3; subst e1; subst e2; subst e3
    exact wp_ret ⟨rfl, HS.refl ns H, M, Moved.refl st.hr, st⟩
  | .rangeFunc .., _, _, _, _, _, _, _, h, _, _, _, _, _ => by simp [aexec] at h
  | .scope .., _, _, _, _, _, _, _, h, _, _, _, _, _ => by simp [aexec] at h
  | .label .., _, _, _, _, _, _, _, h, _, _, _, _, _ => by simp [aexec] at h
  | .goto .., _, _, _, _, _, _, _, h, _, _, _, _, _ => by simp [aexec] at h
  | .refuse .., _, _, _, _, _, _, _, h, _, _, _, _, _ => by simp [aexec] at h

end Go.Vi
end SViWpB
section SViWpC
/- The walk: calls. -/
namespace Go.Vi
open Go Go.RowKit
variable [Glob]

theorem getAt_ptr {M : Mem} {H : Heap} {g : Bool} {n : Nat} {p v : AV} {x : Value} (h : getAt H g n p = some v) (hx : VR M p x) : ∃ ad, x = .pointer (some ad) := by
  unfold getAt at h
  split at h
  · cases hx; exact ⟨_, rfl⟩
  · cases hx; exact ⟨_, rfl⟩
  · cases hx; exact ⟨_, rfl⟩
  · cases h

def resOne (tmps : Array Value) : ResultVar → Sem Value
  | .tmp t => pure (tmps.getD t undef)
  | .cell p t => do loadVar t (← asAddr (tmps.getD p undef))
theorem results_eq (fn : Func) (tmps : Array Value) : results fn tmps = (do let vs ← fn.results.mapM (resOne tmps); pure (if h : vs.size = 1 then vs[0] else .tuple vs)) := by
  unfold results
  congr 1

theorem getRes_sound {P : Program} {B : Nat} {M : Mem} {H : Heap} (h : HR B M H) {env : Env} {a : Act} (he : EnvR M env a) : ∀ (rs : List ResultVar) {l : List AV}, getRes P env H rs = some l →
    ∃ vs, (rs.mapM (resOne a.tmps)).run P M.w = .ok vs M.w ∧ VRs M l vs
  | [], l, hr => by simp only [getRes] at hr; injection hr with hr; subst hr; exact ⟨[], by simp, VRs.nil M⟩
  | .tmp t :: rs, l, hr => by
    simp only [getRes] at hr
    split at hr
    · rename_i v hv
      split at hr
      · rename_i l' hl
        injection hr with hr; subst hr
        obtain ⟨vs, h1, h2⟩ := getRes_sound h he rs hl
        have hlt : t < a.tmps.size := by rw [← he.1]; exact (List.getElem?_eq_some_iff.1 hv).1
        have hq := he.2 t v _ hv (Array.getElem?_eq_getElem hlt)
        refine ⟨a.tmps[t] :: vs, ?_, VRs.cons hq h2⟩
        have h0 : (resOne a.tmps (.tmp t)).run P M.w = .ok a.tmps[t] M.w := by simp [resOne, Array.getD, hlt]
        simp only [List.mapM_cons, Sem.run_bind, h0, h1, Result.andThen_ok, Sem.run_pure]
      · cases hr
    · cases hr
  | .cell p ty :: rs, l, hr => by
    simp only [getRes] at hr
    split at hr
    · rename_i pv hv
      split at hr
      · rename_i g n hs
        split at hr
        · rename_i v hg
          split at hr
          · rename_i l' hl
            injection hr with hr; subst hr
            obtain ⟨vs, h1, h2⟩ := getRes_sound h he rs hl
            have hlt : p < a.tmps.size := by rw [← he.1]; exact (List.getElem?_eq_some_iff.1 hv).1
            have hq := he.2 p pv _ hv (Array.getElem?_eq_getElem hlt)
            obtain ⟨ad, had⟩ := getAt_ptr hg hq
            obtain ⟨y, h3, h4⟩ := run_loadAt (P := P) h hs hg hq
            rw [had] at h3
            simp only [Instr.loadAt, Instr.sureAddr, Sem.run_bind, Sem.run_pure, Result.andThen_ok] at h3
            refine ⟨y :: vs, ?_, VRs.cons h4 h2⟩
            have h0 : (resOne a.tmps (.cell p ty)).run P M.w = .ok y M.w := by simp [resOne, Array.getD, hlt, had, asAddr, h3]
            simp only [List.mapM_cons, Sem.run_bind, h0, h1, Result.andThen_ok, Sem.run_pure]
          · cases hr
        · cases hr
      · cases hr
    · cases hr

theorem results_sound {P : Program} {B : Nat} {M : Mem} {H : Heap} (h : HR B M H) {env : Env} {a : Act} (he : EnvR M env a) {fn : Func} {v : AV} (hr : results' P fn env H = some v) :
    ∃ x, (results fn a.tmps).run P M.w = .ok x M.w ∧ VR M v x := by
  unfold results' at hr
  split at hr
  · rename_i l hl
    injection hr with hr; subst hr
    obtain ⟨vs, h1, h2⟩ := getRes_sound h he _ hl
    have hrun : (results fn a.tmps).run P M.w = .ok (if h : vs.toArray.size = 1 then vs.toArray[0] else .tuple vs.toArray) M.w := by
      rw [results_eq, Array.mapM_eq_mapM_toList]
      simp only [Sem.run_bind, Sem.run_map, h1, Result.andThen_ok, Sem.run_pure]
    refine ⟨_, hrun, ?_⟩
    unfold packRes
    split
    · rename_i u
      obtain ⟨y, rfl, hy⟩ := vrs_one h2
      simpa using hy
    · rename_i hne
      have hl1 : ¬ vs.toArray.size = 1 := by
        intro h1
        have := h2.1
        simp at h1
        rw [h1] at this
        match l, this with
        | [u], _ => exact hne u rfl
      rw [dif_neg hl1]
      exact .tup l vs h2.1 h2.2
  · cases hr

theorem env0_vr {M : Mem} {fn : Func} {args : List AV} {vs : List Value} (h : VRs M args vs) : EnvR M (env0 fn args) { tmps := vs.toArray ++ Array.replicate (fn.ntmps - vs.toArray.size) undef, defers := [] } := by
  have hl := h.1
  refine ⟨by simp [env0, hl], fun t v x hv hx => ?_⟩
  have hx' : (vs ++ List.replicate (fn.ntmps - vs.length) undef)[t]? = some x := by
    have : (vs.toArray ++ Array.replicate (fn.ntmps - vs.toArray.size) undef).toList[t]? = some x := by rw [Array.getElem?_toList]; exact hx
    simpa using this
  unfold env0 at hv
  by_cases ht : t < args.length
  · rw [List.getElem?_append_left ht] at hv
    rw [List.getElem?_append_left (by omega)] at hx'
    exact h.2 t v x hv hx'
  · rw [List.getElem?_append_right (by omega)] at hv
    rw [List.getElem?_append_right (by omega)] at hx'
    have e1 := List.eq_of_mem_replicate (List.mem_of_getElem? hv)
    have e2 := List.eq_of_mem_replicate (List.mem_of_getElem? hx')
    subst e1; subst e2
    exact .tup [] [] rfl (fun _ _ _ h => by simp at h)

theorem Ext.forgotten {M M' : Mem} (h : Ext (M.below 0) M') (σ : Nat → Nat → Option (Option (Nat × Nat))) : Ext (M.below 0) { M' with σ := σ } :=
  ⟨fun b v x hx => by simp [Mem.below] at hx, h.shape, h.kept, h.cell, h.size⟩

theorem refOk_len {B : Nat} {M : Mem} {H : Heap} (h : HR B M H) {v : AV} {x : Value} (hx : VR M v x) : refOk H.length v = true := hx.refs h.dom

/-- what a call on values comes to: all that was is as it was, and the answer lies in what stays -/
theorem back {B : Nat} {M1 : Mem} {H1 : Heap} (h : HR B M1 H1) (hB : B ≤ M1.w.heap.size) {M2 : Mem} {H2 : Heap} (m : Moved M1.w.heap.size (M1.below 0) [] M2 H2) {v : AV} {y : Value} (hv : VR M2 v y) (hr : refOk 0 v = true) :
    Moved B M1 H1 { M2 with σ := M1.σ } H1 ∧ VR { M2 with σ := M1.σ } v y := by
  have hE : Ext M1 { M2 with σ := M1.σ } := ⟨fun _ _ _ h => h, m.step.ext.shape, m.step.ext.kept, m.step.ext.cell, m.step.ext.size⟩
  have hfr : ∀ g, g < M1.w.heap.size → M2.w.heap[g]? = M1.w.heap[g]? ∧ ∀ o, M2.kept g o ↔ M1.kept g o := fun g hg => m.step.frame g hg (fun b x hx => by simp at hx)
  refine ⟨⟨⟨hE, ⟨m.step.below.os, m.step.below.tape, m.step.below.output, m.step.below.size, fun k hk => (hfr k (by omega)).1⟩, fun g hg _ => hfr g hg⟩, ?_, ⟨fun b x g hx hg => .inr ⟨x, hx, hg⟩, fun b hb => ⟨hb, fun _ => rfl⟩⟩⟩, ?_⟩
  · refine ⟨fun b x hx => (h.blk b x hx).carry hE (fun _ h => h) (fun g hg => ?_), fun b b' x x' g h1 h2 h3 h4 => h.apart b b' x x' g h1 h2 h3 h4, h.dom, fun b v g s hs => ?_, fun g o hk => m.hr.kept g o hk, m.hr.base⟩
    · obtain ⟨v, s, hs⟩ := gOf_σ hg
      exact hfr g (h.low _ _ _ _ hs).2
    · have := h.low b v g s hs
      exact ⟨this.1, Nat.lt_of_lt_of_le this.2 m.step.ext.size⟩
  · have := hv.forget 0 hr
    have hE2 : Ext (M2.below 0) { M2 with σ := M1.σ } := ⟨fun b v x hx => by simp [Mem.below] at hx, fun _ _ h => h, fun _ _ h => h, fun _ _ _ _ h => h, Nat.le_refl _⟩
    exact this.ext hE2

/-- what a call on values is answered with -/
def ValOk (P : Program) (f : FuncId) (args : List AV) (v : AV) : Prop := ∀ (B : Nat) (M : Mem) (vs : List Value), B ≤ M.w.heap.size → HR B (M.below 0) [] → VRs (M.below 0) args vs → Enters P f ∧
  refOk 0 v = true ∧ Calls P f vs.toArray M.w (fun e w' => ∃ y M2 H2, e = .returned y ∧ Moved B (M.below 0) [] M2 H2 ∧ M2.w = w' ∧ VR M2 v y)

theorem hr_nil {B : Nat} {M : Mem} {H : Heap} (h : HR B M H) : HR M.w.heap.size (M.below 0) [] :=
  ⟨fun b x hx => by simp at hx, fun b b' x x' g h1 => by simp at h1, fun b v y hy => by simp [Mem.below] at hy, fun b v g s hs => by simp [Mem.below] at hs, fun g o hk => h.kept g o hk, h.base⟩

/-- hand-proved answers -/
def PrimOk (C : Cfg) : Prop := ∀ f args v, C.prim f args = some v → refOkL 0 args = true → ValOk C.P f args v

theorem okCode_some {P : Program} {f : FuncId} {fn : Func} {code : Code} (hf : P.funcs[f]? = some fn) (h : okCode P f = some code) : fn.body = some code ∧ statOk code = true ∧ (fn.name == "runtime.NumGoroutine") = false := by
  unfold okCode at h
  rw [hf] at h
  simp only at h
  split at h
  · cases h
  · rename_i c hb
    split at h
    · rename_i hc; injection h with h; subst h; exact ⟨hb, hc.1, hc.2⟩
    · cases h

theorem vcall_ok {C : Cfg} {call : Callee'} (hcall : CallOk C.P call) (hdraw : DrawOk C call) (hprim : PrimOk C) {f : FuncId} {args : List AV} {v : AV} (h : vcall C call f args = some v) (hr0 : refOkL 0 args = true) : ValOk C.P f args v := by
  unfold vcall at h
  split at h
  · rename_i v' hp
    injection h with h; subst h
    exact hprim f args _ hp hr0
  · split at h
    · rename_i fn code hf hcode
      · obtain ⟨hb, hst, hname⟩ := okCode_some hf hcode
        · skip
          intro B M vs hB hr hv
          have hent : Enters C.P f := ⟨fn, hf, hname, by simp [hb]⟩
          have st0 : St B [] (M.below 0) [] (env0 fn args) { tmps := vs.toArray ++ Array.replicate (fn.ntmps - vs.toArray.size) undef, defers := [] } M.w :=
            ⟨hr, hB, env0_vr hv, rfl, rfl, (fun n hn => by cases hn), (fun n hn => by cases hn)⟩
          have key : ∀ e env' H', aexec C call code [] (env0 fn args) [] = .ok e env' H' → (e = .normal ∨ e = .ret) → leaveVal C.P fn env' H' = some v →
              refOk 0 v = true ∧ Calls C.P f vs.toArray M.w (fun e w' => ∃ y M2 H2, e = .returned y ∧ Moved B (M.below 0) [] M2 H2 ∧ M2.w = w' ∧ VR M2 v y) := by
            intro e env' H' he hnr hl
            unfold leaveVal at hl
            split at hl
            · rename_i v0 hres
              split at hl
              · rename_i v1 H2 hfz
                injection hl with hl; subst hl
                refine ⟨frz_ref v0 hfz, calls_of_wp hf hb (wp_mono (aexec_wp hcall hdraw code hst _ _ _ _ _ _ he B (M.below 0) _ _ st0) fun ex a' w' hq => ?_)⟩
                obtain ⟨rfl, _, M1, m1, st1⟩ := hq
                obtain ⟨x, h1, h2⟩ := results_sound (P := C.P) st1.hr st1.he hres
                obtain ⟨M2, f2, r2⟩ := frz_sound v0 st1.hr h2 hfz
                have hw1 := st1.hw
                subst hw1
                have hd1 := st1.hd
                rcases hnr with rfl | rfl <;> exact ⟨hd1, x, h1, x, M2, H2, rfl, m1.trans f2.moved, f2.w, r2⟩
              · cases hl
            · cases hl
          refine ⟨hent, ?_⟩
          split at h
          · rename_i env' H' he; exact key .normal env' H' he (.inl rfl) h
          · rename_i env' H' he; exact key .ret env' H' he (.inr rfl) h
          · cases h
          · cases h
    · cases h

end Go.Vi
end SViWpC
section SViWpD
/- The walk: callees that work on the caller's memory; all calls. -/
namespace Go.Vi
open Go Go.RowKit
variable [Glob]

structure AccOk (n0 : Nat) (H : Heap) (acc : List (Nat × Blk)) : Prop where
  blk : ∀ (i : Nat) p, acc[i]? = some p → n0 ≤ p.1 ∧ H[p.1]? = some p.2 ∧ ∃ sz xs ver fz, p.2 = .row sz xs ver fz
  inj : ∀ (i j : Nat) p q, acc[i]? = some p → acc[j]? = some q → p.1 = q.1 → i = j

def Mem.out (M : Mem) (n0 : Nat) (new : List (Nat × Blk)) : Mem := { M with σ := fun b v => if b < n0 then M.σ b v else match new[b - n0]? with | some p => M.σ p.1 v | none => none }

theorem out_old {M : Mem} {n0 : Nat} {new : List (Nat × Blk)} {b v : Nat} (h : b < n0) : (M.out n0 new).σ b v = M.σ b v := by simp [Mem.out, h]
theorem out_new {M : Mem} {n0 : Nat} {new : List (Nat × Blk)} {i v : Nat} {p : Nat × Blk} (h : new[i]? = some p) : (M.out n0 new).σ (n0 + i) v = M.σ p.1 v := by
  simp only [Mem.out]
  rw [if_neg (by omega), Nat.add_sub_cancel_left, h]

theorem ext_out (M : Mem) (n0 : Nat) (new : List (Nat × Blk)) : Ext (M.below n0) (M.out n0 new) := by
  refine ⟨fun b v x hx => ?_, fun _ _ h => h, fun _ _ h => h, fun _ _ _ _ h => h, Nat.le_refl _⟩
  simp only [Mem.below] at hx
  split at hx
  · rename_i hb; rw [out_old hb]; exact hx
  · cases hx

theorem VR.toOut {M : Mem} {v : AV} {x : Value} (h : VR M v x) (n0 : Nat) (new : List (Nat × Blk)) (hr : refOk n0 v = true) : VR (M.out n0 new) v x := (h.forget n0 hr).ext (ext_out M n0 new)

theorem AccOk.snoc {n0 : Nat} {H : Heap} {acc : List (Nat × Blk)} (h : AccOk n0 H acc) {b : Nat} {sz ver fz : Nat} {xs : List AV} (hb : n0 ≤ b) (hH : H[b]? = some (.row sz xs ver fz)) (hn : acc.findIdx? (·.1 == b) = none) : AccOk n0 H (acc ++ [(b, .row sz xs ver fz)]) := by
  have hno : ∀ (i : Nat) p, acc[i]? = some p → p.1 ≠ b := by
    intro i p hp he
    rw [List.findIdx?_eq_none_iff] at hn
    have := hn p (List.mem_of_getElem? hp)
    simp [he] at this
  have hget : ∀ (i : Nat) p, (acc ++ [(b, Blk.row sz xs ver fz)])[i]? = some p → acc[i]? = some p ∨ (i = acc.length ∧ p = (b, .row sz xs ver fz)) := by
    intro i p hp
    rcases Nat.lt_or_ge i acc.length with hi | hi
    · rw [List.getElem?_append_left hi] at hp; exact .inl hp
    · rw [List.getElem?_append_right hi] at hp
      cases hq : i - acc.length with
      | zero => rw [hq] at hp; simp at hp; exact .inr ⟨by omega, hp.symm⟩
      | succ k => rw [hq] at hp; simp at hp
  refine ⟨fun i p hp => ?_, fun i j p q hp hq he => ?_⟩
  · rcases hget i p hp with hp | ⟨_, rfl⟩
    · exact h.blk i p hp
    · exact ⟨hb, hH, sz, xs, ver, fz, rfl⟩
  · rcases hget i p hp with hp | ⟨rfl, rfl⟩ <;> rcases hget j q hq with hq | ⟨rfl, rfl⟩
    · exact h.inj i j p q hp hq he
    · exact absurd he (hno i p hp)
    · exact absurd he.symm (hno j q hq)
    · rfl

mutual
theorem expo_acc {n0 : Nat} {H : Heap} : ∀ (v : AV) {acc : List (Nat × Blk)} {v' : AV} {acc' : List (Nat × Blk)}, AccOk n0 H acc → expo n0 H v acc = some (v', acc') → AccOk n0 H acc' ∧ acc <+: acc'
  | .row b ver hs off len, acc, v', acc', h, he => by
    simp only [expo] at he
    split at he
    · injection he with he; injection he with _ e2; subst e2; exact ⟨h, List.prefix_refl _⟩
    · split at he
      · injection he with he; injection he with _ e2; subst e2; exact ⟨h, List.prefix_refl _⟩
      · rename_i hb _ hn
        split at he
        · rename_i hH
          split at he
          · injection he with he; injection he with _ e2; subst e2; exact ⟨h.snoc (by omega) hH hn, List.prefix_append _ _⟩
          · cases he
        · cases he
  | .agg cs, acc, v', acc', h, he => by
    simp only [expo] at he
    split at he
    · rename_i hc; injection he with he; injection he with _ e2; subst e2; exact expoL_acc cs h hc
    · cases he
  | .tup cs, acc, v', acc', h, he => by
    simp only [expo] at he
    split at he
    · rename_i hc; injection he with he; injection he with _ e2; subst e2; exact expoL_acc cs h hc
    · cases he
  | .ptr b c, acc, v', acc', h, he => by
    simp only [expo] at he
    split at he
    · injection he with he; injection he with _ e2; subst e2; exact ⟨h, List.prefix_refl _⟩
    · cases he
  | .rptr b v i c, acc, v', acc', h, he => by
    simp only [expo] at he
    split at he
    · injection he with he; injection he with _ e2; subst e2; exact ⟨h, List.prefix_refl _⟩
    · cases he
  | .iter b, acc, v', acc', h, he => by simp only [expo] at he; cases he
  | .fn f cs, acc, v', acc', h, he => by
    simp only [expo] at he
    split at he
    · injection he with he; injection he with _ e2; subst e2; exact ⟨h, List.prefix_refl _⟩
    · cases he
  | .iface t v, acc, v', acc', h, he => by
    simp only [expo] at he
    split at he
    · injection he with he; injection he with _ e2; subst e2; exact ⟨h, List.prefix_refl _⟩
    · cases he
  | .undef, acc, v', acc', h, he => by simp only [expo] at he; injection he with he; injection he with _ e2; subst e2; exact ⟨h, List.prefix_refl _⟩
  | .bool _, acc, v', acc', h, he => by simp only [expo] at he; injection he with he; injection he with _ e2; subst e2; exact ⟨h, List.prefix_refl _⟩
  | .int _ _, acc, v', acc', h, he => by simp only [expo] at he; injection he with he; injection he with _ e2; subst e2; exact ⟨h, List.prefix_refl _⟩
  | .str _, acc, v', acc', h, he => by simp only [expo] at he; injection he with he; injection he with _ e2; subst e2; exact ⟨h, List.prefix_refl _⟩
  | .nilp, acc, v', acc', h, he => by simp only [expo] at he; injection he with he; injection he with _ e2; subst e2; exact ⟨h, List.prefix_refl _⟩
  | .vptr _ _, acc, v', acc', h, he => by simp only [expo] at he; injection he with he; injection he with _ e2; subst e2; exact ⟨h, List.prefix_refl _⟩
  | .nils, acc, v', acc', h, he => by simp only [expo] at he; injection he with he; injection he with _ e2; subst e2; exact ⟨h, List.prefix_refl _⟩
  | .view _ _, acc, v', acc', h, he => by simp only [expo] at he; injection he with he; injection he with _ e2; subst e2; exact ⟨h, List.prefix_refl _⟩
  | .nilf, acc, v', acc', h, he => by simp only [expo] at he; injection he with he; injection he with _ e2; subst e2; exact ⟨h, List.prefix_refl _⟩
  | .nili, acc, v', acc', h, he => by simp only [expo] at he; injection he with he; injection he with _ e2; subst e2; exact ⟨h, List.prefix_refl _⟩
theorem expoL_acc {n0 : Nat} {H : Heap} : ∀ (cs : List AV) {acc : List (Nat × Blk)} {cs' : List AV} {acc' : List (Nat × Blk)}, AccOk n0 H acc → expoL n0 H cs acc = some (cs', acc') → AccOk n0 H acc' ∧ acc <+: acc'
  | [], acc, cs', acc', h, he => by simp only [expoL] at he; injection he with he; injection he with _ e2; subst e2; exact ⟨h, List.prefix_refl _⟩
  | c :: cs, acc, cs', acc', h, he => by
    simp only [expoL] at he
    split at he
    · rename_i hc
      split at he
      · rename_i hcs
        injection he with he; injection he with _ e2; subst e2
        obtain ⟨h1, p1⟩ := expo_acc c h hc
        obtain ⟨h2, p2⟩ := expoL_acc cs h1 hcs
        exact ⟨h2, p1.trans p2⟩
      · cases he
    · cases he
end

theorem get_prefix {α : Type} {l l' : List α} (h : l <+: l') {i : Nat} {x : α} (hx : l[i]? = some x) : l'[i]? = some x := by
  obtain ⟨t, rfl⟩ := h
  rw [List.getElem?_append_left (List.getElem?_eq_some_iff.1 hx).1]; exact hx

theorem row_out {M : Mem} {b ver hs off len : Nat} {x : Value} (hx : VR M (.row b ver hs off len) x) {n0 : Nat} {new : List (Nat × Blk)} {i : Nat} {p : Nat × Blk} (hp : new[i]? = some p) (hb : p.1 = b) : VR (M.out n0 new) (.row (n0 + i) ver hs off len) x := by
  subst hb
  cases hx with
  | row0 a h => exact .row0 a ((out_new hp).trans h)
  | rowE a h => exact .rowE a (by rw [out_new hp]; exact h)
  | row h h0 hn hc hle => exact .row ((out_new hp).trans h) h0 hn hc hle

mutual
theorem expo_vr {M : Mem} {n0 : Nat} {H : Heap} {new : List (Nat × Blk)} : ∀ (v : AV) {acc : List (Nat × Blk)} {v' : AV} {acc' : List (Nat × Blk)} {x : Value}, VR M v x → expo n0 H v acc = some (v', acc') → AccOk n0 H acc → acc' <+: new → VR (M.out n0 new) v' x
  | .row b ver hs off len, acc, v', acc', x, hx, he, ha, hp => by
    simp only [expo] at he
    split at he
    · rename_i hb
      injection he with he; injection he with e1 _; subst e1
      exact hx.toOut n0 new (by simp [refOk, hb])
    · split at he
      · rename_i i hi
        injection he with he; injection he with e1 e2; subst e1; subst e2
        rw [List.findIdx?_eq_some_iff_getElem] at hi
        obtain ⟨hlt, hq, _⟩ := hi
        exact row_out hx (get_prefix hp (List.getElem?_eq_getElem hlt)) (by simpa using hq)
      · split at he
        · split at he
          · injection he with he; injection he with e1 e2; subst e1; subst e2
            exact row_out hx (get_prefix hp (i := acc.length) (by simp; rfl)) rfl
          · cases he
        · cases he
  | .agg cs, acc, v', acc', x, hx, he, ha, hp => by
    simp only [expo] at he
    split at he
    · rename_i hc
      injection he with he; injection he with e1 e2; subst e1; subst e2
      obtain ⟨vs, rfl, hv⟩ := hx.aggs
      have := expoL_vr cs hv hc ha hp
      exact .agg _ _ this.1 this.2
    · cases he
  | .tup cs, acc, v', acc', x, hx, he, ha, hp => by
    simp only [expo] at he
    split at he
    · rename_i hc
      injection he with he; injection he with e1 e2; subst e1; subst e2
      obtain ⟨vs, rfl, hv⟩ := hx.tups
      have := expoL_vr cs hv hc ha hp
      exact .tup _ _ this.1 this.2
    · cases he
  | .ptr b c, acc, v', acc', x, hx, he, ha, hp => by
    simp only [expo] at he
    split at he
    · rename_i hb; injection he with he; injection he with e1 _; subst e1; exact hx.toOut n0 new (by simp [refOk, hb])
    · cases he
  | .rptr b v i c, acc, v', acc', x, hx, he, ha, hp => by
    simp only [expo] at he
    split at he
    · rename_i hb; injection he with he; injection he with e1 _; subst e1; exact hx.toOut n0 new (by simp [refOk, hb])
    · cases he
  | .iter b, acc, v', acc', x, hx, he, ha, hp => by simp only [expo] at he; cases he
  | .fn f cs, acc, v', acc', x, hx, he, ha, hp => by
    simp only [expo] at he
    split at he
    · rename_i hb; injection he with he; injection he with e1 _; subst e1; exact hx.toOut n0 new (by simpa [refOk] using hb)
    · cases he
  | .iface t v, acc, v', acc', x, hx, he, ha, hp => by
    simp only [expo] at he
    split at he
    · rename_i hb; injection he with he; injection he with e1 _; subst e1; exact hx.toOut n0 new (by simpa [refOk] using hb)
    · cases he
  | .undef, acc, v', acc', x, hx, he, ha, hp => by simp only [expo] at he; injection he with he; injection he with e1 _; subst e1; exact .undef x
  | .bool _, acc, v', acc', x, hx, he, ha, hp => by simp only [expo] at he; injection he with he; injection he with e1 _; subst e1; exact hx.toOut n0 new rfl
  | .int _ _, acc, v', acc', x, hx, he, ha, hp => by simp only [expo] at he; injection he with he; injection he with e1 _; subst e1; exact hx.toOut n0 new rfl
  | .str _, acc, v', acc', x, hx, he, ha, hp => by simp only [expo] at he; injection he with he; injection he with e1 _; subst e1; exact hx.toOut n0 new rfl
  | .nilp, acc, v', acc', x, hx, he, ha, hp => by simp only [expo] at he; injection he with he; injection he with e1 _; subst e1; exact hx.toOut n0 new rfl
  | .vptr _ _, acc, v', acc', x, hx, he, ha, hp => by simp only [expo] at he; injection he with he; injection he with e1 _; subst e1; exact hx.toOut n0 new rfl
  | .nils, acc, v', acc', x, hx, he, ha, hp => by simp only [expo] at he; injection he with he; injection he with e1 _; subst e1; exact hx.toOut n0 new rfl
  | .view _ _, acc, v', acc', x, hx, he, ha, hp => by simp only [expo] at he; injection he with he; injection he with e1 _; subst e1; exact hx.toOut n0 new rfl
  | .nilf, acc, v', acc', x, hx, he, ha, hp => by simp only [expo] at he; injection he with he; injection he with e1 _; subst e1; exact hx.toOut n0 new rfl
  | .nili, acc, v', acc', x, hx, he, ha, hp => by simp only [expo] at he; injection he with he; injection he with e1 _; subst e1; exact hx.toOut n0 new rfl
theorem expoL_vr {M : Mem} {n0 : Nat} {H : Heap} {new : List (Nat × Blk)} : ∀ (cs : List AV) {acc : List (Nat × Blk)} {cs' : List AV} {acc' : List (Nat × Blk)} {vs : List Value}, VRs M cs vs → expoL n0 H cs acc = some (cs', acc') → AccOk n0 H acc → acc' <+: new → VRs (M.out n0 new) cs' vs
  | [], acc, cs', acc', vs, hx, he, ha, hp => by
    simp only [expoL] at he; injection he with he; injection he with e1 _; subst e1
    rw [hx.inv0]; exact VRs.nil _
  | c :: cs, acc, cs', acc', vs, hx, he, ha, hp => by
    obtain ⟨v, vs', rfl, h1, h2⟩ := hx.inv
    simp only [expoL] at he
    split at he
    · rename_i hc
      split at he
      · rename_i hcs
        injection he with he; injection he with e1 e2; subst e1; subst e2
        obtain ⟨a1, p1⟩ := expo_acc c ha hc
        obtain ⟨a2, p2⟩ := expoL_acc cs a1 hcs
        exact VRs.cons (expo_vr c h1 hc ha (p2.trans hp)) (expoL_vr cs h2 hcs a1 hp)
      · cases he
    · cases he
end

theorem gOf_out {M : Mem} {n0 b b' : Nat} {new : List (Nat × Blk)} (h : ∀ v, (M.out n0 new).σ b v = M.σ b' v) (x : Blk) : gOf (M.out n0 new) b x = gOf M b' x := by
  cases x <;> simp [gOf, gAt, h]

theorem HR.out {B n0 : Nat} {M : Mem} {H : Heap} (h : HR B M H) (hc : Clean n0 H) (hl : n0 ≤ H.length) {new : List (Nat × Blk)} (ha : AccOk n0 H new) : HR B (M.out n0 new) (H.take n0 ++ new.map (·.2)) := by
  have hlen : (H.take n0).length = n0 := by simp; omega
  have hget : ∀ b x, (H.take n0 ++ new.map (·.2))[b]? = some x → (b < n0 ∧ H[b]? = some x) ∨ ∃ i p, b = n0 + i ∧ new[i]? = some p ∧ p.2 = x := by
    intro b x hx
    rcases Nat.lt_or_ge b n0 with hb | hb
    · rw [List.getElem?_append_left (by omega), List.getElem?_take, if_pos hb] at hx; exact .inl ⟨hb, hx⟩
    · rw [List.getElem?_append_right (by omega), hlen, List.getElem?_map, Option.map_eq_some_iff] at hx
      obtain ⟨p, hp, hpx⟩ := hx
      exact .inr ⟨b - n0, p, by omega, hp, hpx⟩
  have hσ : ∀ b v y, (M.out n0 new).σ b v = some y → (b < n0 ∧ M.σ b v = some y) ∨ ∃ i p, b = n0 + i ∧ new[i]? = some p ∧ M.σ p.1 v = some y := by
    intro b v y hy
    rcases Nat.lt_or_ge b n0 with hb | hb
    · rw [out_old hb] at hy; exact .inl ⟨hb, hy⟩
    · simp only [Mem.out] at hy
      rw [if_neg (by omega)] at hy
      split at hy
      · rename_i p hp; exact .inr ⟨b - n0, p, by omega, hp, hy⟩
      · cases hy
  refine ⟨fun b x hx => ?_, fun b b' x x' g h1 h2 h3 h4 => ?_, fun b v y hy => ?_, fun b v g s hs => ?_, fun g o hk => h.kept g o hk, h.base⟩
  · rcases hget b x hx with ⟨hb, hx⟩ | ⟨i, p, rfl, hp, rfl⟩
    · have := (h.blk b x hx).below hb (fun cs hcs => by subst hcs; exact hc b cs hb hx)
      exact this.carry (ext_out M n0 new) (fun v hv => by rw [out_old hb]; simpa [Mem.below, hb] using hv) (fun g hg => ⟨rfl, fun _ => Iff.rfl⟩)
    · obtain ⟨_, hH, sz, xs, ver, fz, hrow⟩ := ha.blk i p hp
      have hbr := h.blk _ _ hH
      rw [hrow] at hbr ⊢
      obtain ⟨h1, h2, h3, h4, h5⟩ := hbr
      have hs : ∀ v, (M.out n0 new).σ (n0 + i) v = M.σ p.1 v := fun v => out_new hp
      have hsv : SameView M (M.out n0 new) := ⟨fun _ _ h => h, fun _ _ _ _ h => h⟩
      refine ⟨h1, h2, h3, fun v hv => (hs v).trans (h4 v hv), ?_⟩
      rcases h5 with ⟨h5, h6⟩ | ⟨g, vals, ty, cap, k1, k2, k3, k4, k5, k6, k7, k8⟩
      · exact .inl ⟨(hs ver).trans h5, h6⟩
      · exact .inr ⟨g, vals, ty, cap, (hs ver).trans k1, k2, k3, k4, k5, k6.pure' hsv (pureL_flat h2), k7, k8⟩
  · rcases hget b x h1 with ⟨hb, hx⟩ | ⟨i, p, rfl, hp, rfl⟩ <;> rcases hget b' x' h2 with ⟨hb', hx'⟩ | ⟨i', p', rfl, hp', rfl⟩
    · rw [gOf_out (fun v => out_old hb)] at h3
      rw [gOf_out (fun v => out_old hb')] at h4
      exact h.apart b b' x x' g hx hx' h3 h4
    · rw [gOf_out (fun v => out_old hb)] at h3
      rw [gOf_out (fun v => out_new hp')] at h4
      have := h.apart b p'.1 x p'.2 g hx (ha.blk _ _ hp').2.1 h3 h4
      have := (ha.blk _ _ hp').1
      omega
    · rw [gOf_out (fun v => out_new hp)] at h3
      rw [gOf_out (fun v => out_old hb')] at h4
      have := h.apart p.1 b' p.2 x' g (ha.blk _ _ hp).2.1 hx' h3 h4
      have := (ha.blk _ _ hp).1
      omega
    · rw [gOf_out (fun v => out_new hp)] at h3
      rw [gOf_out (fun v => out_new hp')] at h4
      have := h.apart p.1 p'.1 p.2 p'.2 g (ha.blk _ _ hp).2.1 (ha.blk _ _ hp').2.1 h3 h4
      rw [ha.inj i i' p p' hp hp' this]
  · rcases hσ b v y hy with ⟨hb, _⟩ | ⟨i, p, rfl, hp, _⟩
    · simp; omega
    · have := (List.getElem?_eq_some_iff.1 hp).1
      simp; omega
  · rcases hσ b v _ hs with ⟨hb, hs⟩ | ⟨i, p, rfl, hp, hs⟩
    · exact h.low _ _ _ _ hs
    · exact h.low _ _ _ _ hs

theorem leaveInl_moved {B : Nat} {M M' : Mem} {H H' : Heap} (hr : HR B M H) (m : Moved B M H M' H') (hl : H.length ≤ H'.length) (hc : Clean H.length H') {new : List (Nat × Blk)} (ha : AccOk H.length H' new) :
    Moved B M H (M'.out H.length new) (H'.take H.length ++ new.map (·.2)) := by
  have hlen : (H'.take H.length).length = H.length := by simp; omega
  refine ⟨⟨⟨fun b v x hx => ?_, m.step.ext.shape, m.step.ext.kept, m.step.ext.cell, m.step.ext.size⟩, m.step.below, m.step.frame⟩, m.hr.out hc hl ha, ⟨fun b x g hx hg => ?_, fun b hb => ?_⟩⟩
  · rw [out_old (hr.dom _ _ _ hx)]; exact m.step.ext.σ _ _ _ hx
  · rcases Nat.lt_or_ge b H.length with hb | hb
    · rw [List.getElem?_append_left (by omega), List.getElem?_take, if_pos hb] at hx
      rw [gOf_out (fun v => out_old hb)] at hg
      exact m.onto.blk b x g hx hg
    · rw [List.getElem?_append_right (by omega), hlen, List.getElem?_map, Option.map_eq_some_iff] at hx
      obtain ⟨p, hp, rfl⟩ := hx
      have hbe : b = H.length + (b - H.length) := by omega
      rw [hbe, gOf_out (fun v => out_new hp)] at hg
      rcases m.onto.blk p.1 p.2 g (ha.blk _ _ hp).2.1 hg with h1 | ⟨x0, h1, _⟩
      · exact .inl h1
      · have := (List.getElem?_eq_some_iff.1 h1).1
        have := (ha.blk _ _ hp).1
        omega
  · have hlt := (List.getElem?_eq_some_iff.1 hb).1
    obtain ⟨h1, h2⟩ := m.onto.dead b hb
    exact ⟨by rw [List.getElem?_append_left (by omega), List.getElem?_take, if_pos hlt]; exact h1, fun v => (out_old hlt).trans (h2 v)⟩

theorem leaveInl_hs {ns : List Nat} {H H' : Heap} (h : HS (H.length :: ns) H H') (L : Heap) : HS ns H (H'.take H.length ++ L) := by
  have hlen : (H'.take H.length).length = H.length := by have := h.len; simp; omega
  refine ⟨by rw [List.length_append, hlen]; omega, fun n hn hl hc b cs hb hq => ?_⟩
  rw [List.getElem?_append_left (by omega), List.getElem?_take, if_pos (by omega)] at hq
  exact h.clean n (List.mem_cons_of_mem _ hn) hl hc b cs hb hq

theorem calls_some {P : Program} {f : FuncId} {args : Array Value} {w : World} {R : Ending → World → Prop} (h : Calls P f args w R) : ∃ e w', R e w' := by
  obtain ⟨e, w', fr, hR, _⟩ := h []
  exact ⟨e, w', hR⟩

theorem icall_ok {C : Cfg} {call : Callee'} (hcall : CallOk C.P call) (hdraw : DrawOk C call) : CallOk C.P (icall C call) := by
  intro ns f args H v H' h B M vs hr hB hv hns hcl
  unfold icall at h
  split at h
  · rename_i fn code hf hcode
    · obtain ⟨hb, hst, hname⟩ := okCode_some hf hcode
      · skip
        have hent : Enters C.P f := ⟨fn, hf, hname, by simp [hb]⟩
        have st0 : St B (H.length :: ns) M H (env0 fn args) { tmps := vs.toArray ++ Array.replicate (fn.ntmps - vs.toArray.size) undef, defers := [] } M.w :=
          ⟨hr, hB, env0_vr hv, rfl, rfl, fun n hn => (List.mem_cons.1 hn).elim (fun e => by omega) (hns n), fun n hn => (List.mem_cons.1 hn).elim (fun e => by subst e; exact hr.clean) (hcl n)⟩
        have key : ∀ e env1 H1, aexec C call code (H.length :: ns) (env0 fn args) H = .ok e env1 H1 → (e = .normal ∨ e = .ret) → leaveInl C.P fn H.length env1 H1 = .ok v H' →
            HS ns H H' ∧ Calls C.P f vs.toArray M.w (fun e w' => ∃ y M', e = .returned y ∧ Moved B M H M' H' ∧ M'.w = w' ∧ VR M' v y) := by
          intro e env1 H1 he hnr hl
          unfold leaveInl at hl
          split at hl
          · rename_i v0 hres
            split at hl
            · rename_i v1 new hx
              injection hl with e1 e2; subst e1; subst e2
              obtain ⟨ha, _⟩ := expo_acc v0 (acc := []) ⟨fun i p hp => by simp at hp, fun i j p q hp => by simp at hp⟩ hx
              have hwp := aexec_wp hcall hdraw code hst _ _ _ _ _ _ he B M _ _ st0
              have hcalls : Calls C.P f vs.toArray M.w (fun e w' => HS (H.length :: ns) H H1 ∧ ∃ y M', e = .returned y ∧ Moved B M H M' (H1.take H.length ++ new.map (·.2)) ∧ M'.w = w' ∧ VR M' v1 y) := by
                refine calls_of_wp hf hb (wp_mono hwp fun ex a' w' hq => ?_)
                obtain ⟨rfl, hs1, M1, m1, st1⟩ := hq
                obtain ⟨x, h1, h2⟩ := results_sound (P := C.P) st1.hr st1.he hres
                have hw1 := st1.hw
                subst hw1
                have hvr := expo_vr v0 h2 hx ⟨fun i p hp => by simp at hp, fun i j p q hp => by simp at hp⟩ (List.prefix_refl new)
                have hm := leaveInl_moved hr m1 hs1.len (st1.hcl _ (List.mem_cons_self ..)) ha
                rcases hnr with rfl | rfl <;> exact ⟨st1.hd, x, h1, hs1, x, _, rfl, hm, rfl, hvr⟩
              obtain ⟨_, _, hs1, _⟩ := calls_some hcalls
              exact ⟨leaveInl_hs hs1 _, Calls.mono hcalls fun e w' hq => hq.2⟩
            · cases hl
          · cases hl
        refine ⟨hent, ?_⟩
        split at h
        · rename_i env1 H1 he; exact key .normal env1 H1 he (.inl rfl) h
        · rename_i env1 H1 he; exact key .ret env1 H1 he (.inr rfl) h
        · cases h
        · cases h
  · cases h

/-- All calls. -/
theorem acall_ok {C : Cfg} (hdraw : ∀ n, DrawOk C (acall C n)) (hprim : PrimOk C) : ∀ n, CallOk C.P (acall C n)
  | 0 => fun ns f args H v H' h => by simp [acall] at h
  | n + 1 => by
    intro ns f args H v H' h B M vs hr hB hv hns hcl
    simp only [acall] at h
    split at h
    · exact icall_ok (acall_ok hdraw hprim n) (hdraw n) ns f args H v H' h B M vs hr hB hv hns hcl
    · split at h
      · cases h
      · rename_i args' H1 hf
        split at h
        · rename_i v' hv'
          injection h with e1 e2; subst e1; subst e2
          obtain ⟨M1, f1, r1⟩ := frzL_sound args hr hv hf
          have href := frzL_ref args hf
          have hw := f1.w
          have hB1 : B ≤ M1.w.heap.size := by rw [hw]; exact hB
          obtain ⟨hent, h0, hc⟩ := vcall_ok (acall_ok hdraw hprim n) (hdraw n) hprim hv' href M1.w.heap.size M1 vs (Nat.le_refl _) (hr_nil f1.hr) (r1.forget 0 href)
          refine ⟨hent, frzL_hs ns args hf, ?_⟩
          rw [← hw]
          refine Calls.mono hc fun e w' hq => ?_
          obtain ⟨y, M2, H2, rfl, m2, hw2, hy⟩ := hq
          obtain ⟨m3, hy3⟩ := back f1.hr hB1 m2 hy h0
          exact ⟨y, _, rfl, f1.moved.trans m3, hw2, hy3⟩
        · cases h

end Go.Vi
end SViWpD
section SViLoc
/- What an operation reads and writes of the blocks. -/
namespace Go.Vi
open Go
variable [Glob]

def maskH (T : Nat → Bool) (H : Heap) : Heap := H.mapIdx fun b x => if T b = true then x else .dead
def up (T : Nat → Bool) (n : Nat) : Nat → Bool := fun b => T b || decide (n ≤ b)

theorem mask_len (T : Nat → Bool) (H : Heap) : (maskH T H).length = H.length := by simp [maskH]
theorem mask_get (T : Nat → Bool) (H : Heap) (b : Nat) : (maskH T H)[b]? = (H[b]?).map fun x => if T b = true then x else .dead := by simp [maskH]
theorem mask_in {T : Nat → Bool} {H : Heap} {b : Nat} (h : T b = true) : (maskH T H)[b]? = H[b]? := by rw [mask_get]; simp [h]
theorem mask_out {T : Nat → Bool} {H : Heap} {b : Nat} (h : T b = false) (hb : b < H.length) : (maskH T H)[b]? = some .dead := by rw [mask_get, List.getElem?_eq_getElem hb]; simp [h]
theorem mask_set {T : Nat → Bool} {H : Heap} {b : Nat} (h : T b = true) (x : Blk) : (maskH T H).set b x = maskH T (H.set b x) := by
  apply List.ext_getElem?
  intro i
  rw [mask_get, List.getElem?_set, List.getElem?_set, mask_get, mask_len]
  split
  · rename_i hi; subst hi
    split <;> simp [h]
  · rfl
theorem mask_up_same {T : Nat → Bool} {n : Nat} {H : Heap} (h : H.length = n) : maskH (up T n) H = maskH T H := by
  apply List.ext_getElem?
  intro i
  rw [mask_get, mask_get]
  cases hq : H[i]? with
  | none => rfl
  | some x =>
    have := (List.getElem?_eq_some_iff.1 hq).1
    simp [up, show ¬ n ≤ i by omega]
theorem mask_append {T : Nat → Bool} {H L : Heap} : maskH T H ++ L = maskH (up T H.length) (H ++ L) := by
  apply List.ext_getElem?
  intro i
  rw [mask_get]
  rcases Nat.lt_or_ge i H.length with hi | hi
  · rw [List.getElem?_append_left (by rw [mask_len]; exact hi), List.getElem?_append_left hi, mask_get]
    simp [up, show ¬ H.length ≤ i by omega]
  · rw [List.getElem?_append_right (by rw [mask_len]; exact hi), List.getElem?_append_right hi, mask_len]
    simp [up, hi]
theorem mask_all {T : Nat → Bool} {H : Heap} (h : ∀ b, b < H.length → T b = true) : maskH T H = H := by
  apply List.ext_getElem?
  intro i
  rw [mask_get]
  cases hq : H[i]? with
  | none => rfl
  | some x => simp [h i (List.getElem?_eq_some_iff.1 hq).1]

theorem getAt_loc {T : Nat → Bool} {H : Heap} {g : Bool} {n : Nat} {p v : AV} (h : getAt H g n p = some v) (hT : ∀ b ∈ refs1 p, T b = true) : getAt (maskH T H) g n p = some v := by
  cases p with
  | ptr b c => simp only [getAt] at h ⊢; rw [mask_in (hT b (by simp [refs1]))]; exact h
  | rptr b v i c => simp only [getAt] at h ⊢; rw [mask_in (hT b (by simp [refs1]))]; exact h
  | _ => simpa [getAt] using h
theorem elemsOf_loc {T : Nat → Bool} {H : Heap} {x : AV} {ys : List AV} (h : elemsOf H x = some ys) (hT : ∀ b ∈ refs1 x, T b = true) : elemsOf (maskH T H) x = some ys := by
  cases x with
  | row b ver hs off len => simp only [elemsOf] at h ⊢; rw [mask_in (hT b (by simp [refs1]))]; exact h
  | _ => simpa [elemsOf] using h

/-- one step's heaps: the masked one goes with it, and only W is written -/
structure Lc (T : Nat → Bool) (W : List Nat) (H H' : Heap) : Prop where
  same : ∀ b, b < H.length → b ∉ W → H'[b]? = H[b]?
  len : H.length ≤ H'.length

theorem set_loc {H : Heap} {b : Nat} {x : Blk} : ∀ b', b' ≠ b → (H.set b x)[b']? = H[b']? := fun b' h => List.getElem?_set_ne (Ne.symm h)

theorem setAt_loc {T : Nat → Bool} {H H' : Heap} {ns : List Nat} {n : Nat} {p v : AV} (h : setAt H ns n p v = some H') (hT : ∀ b ∈ refs1 p, T b = true) :
    setAt (maskH T H) ns n p v = some (maskH T H') ∧ H'.length = H.length ∧ ∀ b, b ∉ refs1 p → H'[b]? = H[b]? := by
  unfold setAt at h ⊢
  split at h
  · rename_i hc
    rw [if_pos hc]
    split at h
    · rename_i b c
      have hb := hT b (by simp [refs1])
      rw [mask_in hb]
      split at h
      · split at h
        · rename_i hc2
          injection h with h; subst h
          simp only [hc2]
          exact ⟨by simp [mask_set hb], by simp, fun b' hb' => set_loc b' (fun e => hb' (by simp [refs1, e]))⟩
        · cases h
      · cases h
    · rename_i b ver i c
      have hb := hT b (by simp [refs1])
      rw [mask_in hb]
      split at h
      · split at h
        · rename_i hc2
          split at h
          · rename_i x0 hx0
            split at h
            · rename_i x1 hx1
              injection h with h; subst h
              simp only [hc2, hx0, hx1]
              exact ⟨by simp [mask_set hb], by simp, fun b' hb' => set_loc b' (fun e => hb' (by simp [refs1, e]))⟩
            · cases h
          · cases h
        · cases h
      · cases h
    · cases h
  · cases h

mutual
theorem frz_loc {T : Nat → Bool} : ∀ (v : AV) {H : Heap} {v' : AV} {H' : Heap}, frz v H = some (v', H') → (∀ b ∈ refs1 v, T b = true) → frz v (maskH T H) = some (v', maskH T H') ∧ H'.length = H.length ∧ ∀ b, b ∉ refs1 v → H'[b]? = H[b]?
  | .row b ver hs off len, H, v', H', h, hT => by
    have hb := hT b (by simp [refs1])
    simp only [frz] at h ⊢
    rw [mask_in hb]
    split at h
    · split at h
      · rename_i hc
        injection h with h; injection h with e1 e2; subst e1; subst e2
        simp only [hc]
        exact ⟨by simp [mask_set hb], by simp, fun b' hb' => set_loc b' (fun e => hb' (by simp [refs1, e]))⟩
      · cases h
    · cases h
  | .agg cs, H, v', H', h, hT => by
    simp only [frz] at h ⊢
    split at h
    · rename_i hc
      injection h with h; injection h with e1 e2; subst e1; subst e2
      obtain ⟨h1, h2, h3⟩ := frzL_loc cs hc (by simpa [refs1] using hT)
      rw [h1]
      exact ⟨rfl, h2, by simpa [refs1] using h3⟩
    · cases h
  | .tup cs, H, v', H', h, hT => by
    simp only [frz] at h ⊢
    split at h
    · rename_i hc
      injection h with h; injection h with e1 e2; subst e1; subst e2
      obtain ⟨h1, h2, h3⟩ := frzL_loc cs hc (by simpa [refs1] using hT)
      rw [h1]
      exact ⟨rfl, h2, by simpa [refs1] using h3⟩
    · cases h
  | .fn f cs, H, v', H', h, hT => by
    simp only [frz] at h ⊢
    split at h
    · rename_i hc
      injection h with h; injection h with e1 e2; subst e1; subst e2
      obtain ⟨h1, h2, h3⟩ := frzL_loc cs hc (by simpa [refs1] using hT)
      rw [h1]
      exact ⟨rfl, h2, by simpa [refs1] using h3⟩
    · cases h
  | .iface t v, H, v', H', h, hT => by
    simp only [frz] at h ⊢
    split at h
    · rename_i hc
      injection h with h; injection h with e1 e2; subst e1; subst e2
      obtain ⟨h1, h2, h3⟩ := frz_loc v hc (by simpa [refs1] using hT)
      rw [h1]
      exact ⟨rfl, h2, by simpa [refs1] using h3⟩
    · cases h
  | .ptr _ _, _, _, _, h, _ => by simp [frz] at h
  | .rptr _ _ _ _, _, _, _, h, _ => by simp [frz] at h
  | .vptr _ _, _, _, _, h, _ => by simp [frz] at h
  | .iter _, _, _, _, h, _ => by simp [frz] at h
  | .undef, _, _, _, h, _ => by simp only [frz] at h ⊢; injection h with h; injection h with e1 e2; subst e1; subst e2; exact ⟨rfl, rfl, fun _ _ => rfl⟩
  | .bool _, _, _, _, h, _ => by simp only [frz] at h ⊢; injection h with h; injection h with e1 e2; subst e1; subst e2; exact ⟨rfl, rfl, fun _ _ => rfl⟩
  | .int _ _, _, _, _, h, _ => by simp only [frz] at h ⊢; injection h with h; injection h with e1 e2; subst e1; subst e2; exact ⟨rfl, rfl, fun _ _ => rfl⟩
  | .str _, _, _, _, h, _ => by simp only [frz] at h ⊢; injection h with h; injection h with e1 e2; subst e1; subst e2; exact ⟨rfl, rfl, fun _ _ => rfl⟩
  | .nilp, _, _, _, h, _ => by simp only [frz] at h ⊢; injection h with h; injection h with e1 e2; subst e1; subst e2; exact ⟨rfl, rfl, fun _ _ => rfl⟩
  | .nils, _, _, _, h, _ => by simp only [frz] at h ⊢; injection h with h; injection h with e1 e2; subst e1; subst e2; exact ⟨rfl, rfl, fun _ _ => rfl⟩
  | .view _ _, _, _, _, h, _ => by simp only [frz] at h ⊢; injection h with h; injection h with e1 e2; subst e1; subst e2; exact ⟨rfl, rfl, fun _ _ => rfl⟩
  | .nilf, _, _, _, h, _ => by simp only [frz] at h ⊢; injection h with h; injection h with e1 e2; subst e1; subst e2; exact ⟨rfl, rfl, fun _ _ => rfl⟩
  | .nili, _, _, _, h, _ => by simp only [frz] at h ⊢; injection h with h; injection h with e1 e2; subst e1; subst e2; exact ⟨rfl, rfl, fun _ _ => rfl⟩
theorem frzL_loc {T : Nat → Bool} : ∀ (cs : List AV) {H : Heap} {cs' : List AV} {H' : Heap}, frzL cs H = some (cs', H') → (∀ b ∈ refs1.refsL cs, T b = true) → frzL cs (maskH T H) = some (cs', maskH T H') ∧ H'.length = H.length ∧ ∀ b, b ∉ refs1.refsL cs → H'[b]? = H[b]?
  | [], _, _, _, h, _ => by simp only [frzL] at h ⊢; injection h with h; injection h with e1 e2; subst e1; subst e2; exact ⟨rfl, rfl, fun _ _ => rfl⟩
  | c :: cs, H, cs', H', h, hT => by
    simp only [frzL] at h ⊢
    split at h
    · rename_i hc
      split at h
      · rename_i hcs
        injection h with h; injection h with e1 e2; subst e1; subst e2
        obtain ⟨h1, h2, h3⟩ := frz_loc c hc (fun b hb => hT b (by simp [refs1.refsL, hb]))
        obtain ⟨h4, h5, h6⟩ := frzL_loc cs hcs (fun b hb => hT b (by simp [refs1.refsL, hb]))
        rw [h1]
        simp only [h4]
        refine ⟨trivial, h5.trans h2, fun b hb => ?_⟩
        simp only [refs1.refsL, List.mem_append, not_or] at hb
        rw [h6 b hb.2, h3 b hb.1]
      · cases h
    · cases h
end

theorem sliceOf_loc {T : Nat → Bool} {P : Program} {H H' : Heap} {t : TypeId} {x v : AV} {lo hi mx : Option AV} (h : sliceOf P H t x lo hi mx = some (v, H')) (hT : (mx ≠ none ∨ ∃ b c, x = .ptr b c) → ∀ b ∈ refs1 x, T b = true) :
    sliceOf P (maskH T H) t x lo hi mx = some (v, maskH T H') ∧ H'.length = H.length ∧ ∀ b, (b ∉ refs1 x ∨ (mx = none ∧ ∀ b c, x ≠ .ptr b c)) → H'[b]? = H[b]? := by
  unfold sliceOf at h ⊢
  split at h
  · split at h
    · split at h
      · injection h with h; injection h with e1 e2; subst e1; subst e2; exact ⟨rfl, rfl, fun _ _ => rfl⟩
      · cases h
    · cases h
  · split at h
    · split at h
      · injection h with h; injection h with e1 e2; subst e1; subst e2; exact ⟨rfl, rfl, fun _ _ => rfl⟩
      · cases h
    · split at h
      · split at h
        · injection h with h; injection h with e1 e2; subst e1; subst e2; rename_i hc; exact ⟨by simp only [if_pos hc], rfl, fun _ _ => rfl⟩
        · cases h
      · cases h
    · rename_i b ver hs off len
      split at h
      · split at h
        · injection h with h; injection h with e1 e2; subst e1; subst e2; rename_i hc; exact ⟨by simp only [if_pos hc], rfl, fun _ _ => rfl⟩
        · cases h
      · rename_i l hh hb
        have hmx : mx ≠ none := by
          intro e; subst e
          unfold bnds at hb
          split at hb
          · split at hb <;> simp at hb
          · cases hb
        split at h
        · rename_i hc
          split at h
          · rename_i hf
            injection h with h; injection h with e1 e2; subst e1; subst e2
            obtain ⟨h1, h2, h3⟩ := frz_loc (T := T) _ hf (fun b' hb' => hT (.inl hmx) b' (by simpa [refs1] using hb'))
            simp only [if_pos hc, h1]
            exact ⟨trivial, h2, fun b' hb' => h3 b' (by
              rcases hb' with hb' | ⟨hb', _⟩
              · simpa [refs1] using hb'
              · exact absurd hb' hmx)⟩
          · cases h
        · cases h
      · cases h
    · cases h
  · split at h
    · rename_i b c
      have hb := hT (.inr ⟨b, c, rfl⟩) b (by simp [refs1])
      have hout : ∀ {b' : Nat}, (b' ∉ refs1 (AV.ptr b c) ∨ (mx = none ∧ ∀ b1 c1, AV.ptr b c ≠ .ptr b1 c1)) → b' ≠ b := fun {b'} h e => by
        rcases h with h | ⟨_, h⟩
        · exact h (by simp [refs1, e])
        · exact h b c rfl
      split at h
      · rw [mask_in hb]
        split at h
        · split at h
          · rename_i hc
            injection h with h; injection h with e1 e2; subst e1; subst e2
            simp only [if_pos hc]
            exact ⟨by simp [mask_set hb], by simp, fun b' hb' => set_loc b' (hout hb')⟩
          · cases h
        · split at h
          · rename_i hc
            injection h with h; injection h with e1 e2; subst e1; subst e2
            simp only [if_pos hc]
            exact ⟨trivial, trivial, fun _ _ => trivial⟩
          · cases h
        · cases h
      · cases h
    · cases h
  · cases h

theorem convertOf_loc {T : Nat → Bool} {P : Program} {H H' : Heap} {s d : TypeId} {x v : AV} (h : convertOf P H s d x = some (v, H')) (hT : ∀ b ∈ refs1 x, T b = true) : convertOf P (maskH T H) s d x = some (v, maskH T H') ∧ H' = H := by
  unfold convertOf at h ⊢
  split at h
  · injection h with h; injection h with e1 e2; subst e1; subst e2; exact ⟨rfl, rfl⟩
  · injection h with h; injection h with e1 e2; subst e1; subst e2; exact ⟨rfl, rfl⟩
  · injection h with h; injection h with e1 e2; subst e1; subst e2; exact ⟨rfl, rfl⟩
  · split at h
    · rename_i hc; injection h with h; injection h with e1 e2; subst e1; subst e2; exact ⟨by simp only [if_pos hc], rfl⟩
    · cases h
  · split at h
    · cases h
    rename_i hstr
    split at h
    · rename_i hl
      split at h
      · rename_i hs; injection h with h; injection h with e1 e2; subst e1; subst e2; exact ⟨by simp only [if_neg hstr, elemsOf_loc hl hT, hs], rfl⟩
      · cases h
    · cases h
  · split at h
    · cases h
    rename_i hstr
    split at h
    · rename_i hl
      split at h
      · rename_i hs; injection h with h; injection h with e1 e2; subst e1; subst e2; exact ⟨by simp only [if_neg hstr, elemsOf_loc hl hT, hs], rfl⟩
      · cases h
    · cases h
  · cases h

theorem appendTo_loc {T : Nat → Bool} {H H' : Heap} {sz by_ : Nat} {s v : AV} {ys : List AV} (h : appendTo H sz by_ s ys = some (v, H')) (hT : ∀ b ∈ refs1 s, T b = true) :
    appendTo (maskH T H) sz by_ s ys = some (v, maskH (up T H.length) H') ∧ ∀ b, b < H.length → b ∉ refs1 s → H'[b]? = H[b]? := by
  unfold appendTo at h ⊢
  split at h
  · rename_i hc
    rw [if_pos hc]
    split at h
    · split at h
      · rename_i hc2
        injection h with h; injection h with e1 e2; subst e1; subst e2
        simp only [if_pos hc2, mask_len, mask_append]
        exact ⟨trivial, fun b hb _ => List.getElem?_append_left hb⟩
      · cases h
    · split at h
      · rename_i hc2
        injection h with h; injection h with e1 e2; subst e1; subst e2
        simp only [if_pos hc2, mask_len, mask_append]
        exact ⟨trivial, fun b hb _ => List.getElem?_append_left hb⟩
      · cases h
    · rename_i b ver hs off len
      have hb := hT b (by simp [refs1])
      rw [mask_in hb]
      split at h
      · split at h
        · rename_i hc2
          injection h with h; injection h with e1 e2; subst e1; subst e2
          simp only [if_pos hc2]
          exact ⟨by rw [mask_set hb, mask_up_same (by simp)], fun b' _ hb' => set_loc b' (fun e => hb' (by simp [refs1, e]))⟩
        · cases h
      · cases h
    · cases h
  · cases h

theorem refsL_mem {cs : List AV} {c : AV} (h : c ∈ cs) {b : Nat} (hb : b ∈ refs1 c) : b ∈ refs1.refsL cs := by
  induction cs with
  | nil => cases h
  | cons d cs ih =>
    simp only [refs1.refsL, List.mem_append]
    rcases List.mem_cons.1 h with rfl | h
    · exact .inl hb
    · exact .inr (ih h)

/-- what a step reads and writes, said of its touch -/
structure OpLoc (P : Program) (call : Callee') (ns : List Nat) (env : Env) (o : Oper) (T : Nat → Bool) (W : List Nat) (H : Heap) (v : AV) (H' : Heap) : Prop where
  run : aoper P call ns env (maskH T H) o = .ok v (maskH (up T H.length) H')
  same : ∀ b, b < H.length → b ∉ W → H'[b]? = H[b]?

theorem aop_loc {P : Program} {ns : List Nat} {env : Env} {H H' : Heap} {o : Oper} {v : AV} (h : aop P ns env H o = some (v, H')) {inl : FuncId → Bool} {n m k : Nat} {T : Nat → Bool} (hT : ∀ b ∈ (touch inl env n m k o).reads, T b = true) :
    aop P ns env (maskH T H) o = some (v, maskH (up T H.length) H') ∧ ∀ b, b < H.length → b ∉ (touch inl env n m k o).writes → H'[b]? = H[b]? := by
  have nop : H' = H → maskH (up T H.length) H' = maskH T H := fun e => by subst e; exact mask_up_same rfl
  have mv : ∀ x, moveOf env H x = (v, H') → moveOf env (maskH T H) x = (v, maskH (up T H.length) H') ∧ ∀ b, b < H.length → H'[b]? = H[b]? := by
    intro x hx
    unfold moveOf at hx ⊢
    split at hx <;> (injection hx with e1 e2; subst e1; subst e2) <;> first
      | exact ⟨by rw [mask_up_same rfl], fun _ _ => rfl⟩
      | exact ⟨by rw [mask_len, mask_append], fun b hb => List.getElem?_append_left hb⟩
  have nb : ∀ cs, newBox H cs = (v, H') → newBox (maskH T H) cs = (v, maskH (up T H.length) H') ∧ ∀ b, b < H.length → H'[b]? = H[b]? := by
    intro cs hx
    unfold newBox at hx ⊢
    rw [mask_len]
    injection hx with e1 e2; subst e1; subst e2
    refine ⟨?_, fun b hb => List.getElem?_append_left hb⟩
    show (AV.ptr H.length 0, maskH T H ++ Blk.box (ownNils (H.length + 1) cs).1 :: (ownNils (H.length + 1) cs).2) = _
    rw [mask_append]
  unfold aop at h ⊢
  split at h
  · rename_i x hop
    injection h with h
    obtain ⟨h1, h2⟩ := mv x h
    simp only [hop, h1]; exact ⟨trivial, fun b hb _ => h2 b hb⟩
  · rename_i x hop
    injection h with h
    obtain ⟨h1, h2⟩ := mv x h
    simp only [hop, h1]; exact ⟨trivial, fun b hb _ => h2 b hb⟩
  · rename_i c x y hop
    split at h
    · rename_i hc
      injection h with h; injection h with e1 e2; subst e1; subst e2
      simp only [hop, hc, nop rfl]; exact ⟨trivial, fun _ _ _ => trivial⟩
    · cases h
  · rename_i t hop
    split at h
    · rename_i cs hz
      injection h with h
      obtain ⟨h1, h2⟩ := nb cs h
      simp only [hop, hz, h1]; exact ⟨trivial, fun b hb _ => h2 b hb⟩
    · cases h
  · rename_i t x hop
    split at h
    · rename_i hc
      injection h with h
      obtain ⟨h1, h2⟩ := nb _ h
      simp only [hop, if_pos hc, h1]; exact ⟨trivial, fun b hb _ => h2 b hb⟩
    · cases h
  · rename_i t ad hop
    simp only [touch, hop] at hT
    split at h
    · rename_i hs
      split at h
      · rename_i hg
        injection h with h; injection h with e1 e2; subst e1; subst e2
        simp only [hop, hs, getAt_loc hg hT, nop rfl]; exact ⟨trivial, fun _ _ _ => trivial⟩
      · cases h
    · cases h
  · rename_i t ad x hop
    simp only [touch, hop] at hT ⊢
    split at h
    · rename_i hn
      split at h
      · rename_i hs
        injection h with h; injection h with e1 e2; subst e1; subst e2
        obtain ⟨h1, h2, h3⟩ := setAt_loc hs hT
        simp only [hn, h1]
        exact ⟨by rw [mask_up_same h2], fun b _ hb => h3 b hb⟩
      · cases h
    · cases h
  · rename_i x hop
    split at h <;> first | (cases h; done) | skip
    all_goals
      rename_i hx
      injection h with h; injection h with e1 e2; subst e1; subst e2
      simp only [hop, hx, nop rfl]; exact ⟨trivial, fun _ _ _ => trivial⟩
  · rename_i op t x y yt hop
    split at h
    · rename_i hb
      injection h with h; injection h with e1 e2; subst e1; subst e2
      simp only [hop, hb, nop rfl]; exact ⟨trivial, fun _ _ _ => trivial⟩
    · cases h
  · rename_i op t x hop
    split at h
    · rename_i hb
      injection h with h; injection h with e1 e2; subst e1; subst e2
      simp only [hop, hb, nop rfl]; exact ⟨trivial, fun _ _ _ => trivial⟩
    · cases h
  · rename_i s d x hop
    simp only [touch, hop] at hT ⊢
    obtain ⟨h1, rfl⟩ := convertOf_loc h hT
    exact ⟨by rw [h1, nop rfl], fun _ _ _ => rfl⟩
  · rename_i t ps hop
    split at h
    · rename_i hb
      injection h with h; injection h with e1 e2; subst e1; subst e2
      simp only [hop, hb, nop rfl]; exact ⟨trivial, fun _ _ _ => trivial⟩
    · cases h
  · rename_i t n ps hop
    simp only [touch, hop] at hT ⊢
    split at h
    · rename_i sz bytes hix
      split at h
      · rename_i hc
        split at h
        · rename_i hf
          injection h with h; injection h with e1 e2; subst e1; subst e2
          obtain ⟨h1, h2, h3⟩ := frzL_loc (T := T) _ hf hT
          simp only [hix, if_pos hc, h1, mask_len, mask_append, h2]
          refine ⟨trivial, fun b hb hw => ?_⟩
          simp only [List.mem_append, not_or] at hw
          rw [List.getElem?_append_left (by omega)]
          exact h3 b hw.1
        · cases h
      · cases h
    · cases h
  · rename_i f first cs hop
    split at h
    · rename_i hf
      injection h with h; injection h with e1 e2; subst e1; subst e2
      simp only [hop, if_pos hf, nop rfl]; exact ⟨trivial, fun _ _ _ => trivial⟩
    · cases h
  · rename_i t l c hop
    split at h
    · rename_i hix hl hcq
      split at h
      · rename_i hu
        split at h
        · rename_i hz
          split at h
          · rename_i hc
            split at h
            · rename_i hg
              split at h
              · cases h
              · rename_i hg1
                injection h with h; injection h with e1 e2; subst e1; subst e2
                simp only [hop, hix, hl, hcq, hu, hz, if_pos hc, hg, if_neg hg1, mask_len, mask_append]
                exact ⟨trivial, fun b hb _ => List.getElem?_append_left hb⟩
            · cases h
          · cases h
        · cases h
      · cases h
    · cases h
  · rename_i t x lo hi mx hop
    have hTT : (mx.map (ev env) ≠ none ∨ ∃ b c, ev env x = .ptr b c) → ∀ b ∈ refs1 (ev env x), T b = true := by
      intro hq
      cases mx with
      | none =>
        obtain ⟨b, c, hbc⟩ := hq.resolve_left (by simp)
        simp only [touch, hop, hbc] at hT
        rw [hbc]; simpa [refs1] using hT
      | some m => simpa only [touch, hop] using hT
    obtain ⟨h1, h2, h3⟩ := sliceOf_loc (T := T) h hTT
    simp only [hop, h1, mask_up_same h2]
    refine ⟨trivial, fun b _ hw => h3 b ?_⟩
    cases mx with
    | none =>
      by_cases hq : ∃ b c, ev env x = .ptr b c
      · obtain ⟨b0, c0, hbc⟩ := hq
        simp only [touch, hop, hbc] at hw
        left; rw [hbc]; simpa [refs1] using hw
      · exact .inr ⟨rfl, fun b c e => hq ⟨b, c, e⟩⟩
    | some m => left; simpa only [touch, hop] using hw
  · rename_i s x f hop
    split at h
    · rename_i hf
      split at h
      · rename_i hb
        injection h with h; injection h with e1 e2; subst e1; subst e2
        simp only [hop, hf, hb, nop rfl]; exact ⟨trivial, fun _ _ _ => trivial⟩
      · cases h
    · cases h
  · rename_i s x f hop
    split at h
    · rename_i hf hx
      split at h
      · rename_i hb
        injection h with h; injection h with e1 e2; subst e1; subst e2
        simp only [hop, hf, hx, hb, nop rfl]; exact ⟨trivial, fun _ _ _ => trivial⟩
      · cases h
    · cases h
  · rename_i t x i hop
    split at h
    · rename_i hi
      split at h
      · rename_i hb
        injection h with h; injection h with e1 e2; subst e1; subst e2
        simp only [hop, hi, hb, nop rfl]; exact ⟨trivial, fun _ _ _ => trivial⟩
      · cases h
    · cases h
  · rename_i t x i hop
    split at h
    · rename_i hi
      split at h
      · rename_i hb
        injection h with h; injection h with e1 e2; subst e1; subst e2
        simp only [hop, hi, hb, nop rfl]; exact ⟨trivial, fun _ _ _ => trivial⟩
      · cases h
    · cases h
  · rename_i t x hop
    split at h
    · rename_i hix hx
      injection h with h; injection h with e1 e2; subst e1; subst e2
      simp only [hop, hix, hx, mask_len, mask_append]
      exact ⟨trivial, fun b hb _ => List.getElem?_append_left hb⟩
    · cases h
  · rename_i it hop
    simp only [touch, hop] at hT ⊢
    split at h
    · rename_i b hb
      have hTb := hT b (by rw [hb]; simp [refs1])
      rw [mask_in hTb]
      split at h
      · split at h
        · rename_i hp
          split at h
          rename_i hd
          injection h with h; injection h with e1 e2; subst e1; subst e2
          simp only [if_pos hp, hd, hb]
          exact ⟨by rw [mask_set hTb, mask_up_same (by simp)], fun b' _ hb' => set_loc b' (fun e => hb' (by simp [refs1, e]))⟩
        · rename_i hp
          injection h with h; injection h with e1 e2; subst e1; subst e2
          simp only [if_neg hp, nop rfl]; exact ⟨trivial, fun _ _ _ => trivial⟩
      · cases h
    · cases h
  · rename_i t i hop
    split at h
    · rename_i ht
      split at h
      · rename_i hv
        injection h with h; injection h with e1 e2; subst e1; subst e2
        simp only [hop, ht, hv, nop rfl]; exact ⟨trivial, fun _ _ _ => trivial⟩
      · cases h
    · cases h
  · rename_i b args ts hop
    unfold builtinOf at h ⊢
    split at h
    · rename_i x hargs
      split at h
      · rename_i ht
        split at h
        · rename_i hl
          injection h with h; injection h with e1 e2; subst e1; subst e2
          simp only [ht, hl, nop rfl]; exact ⟨trivial, fun _ _ _ => trivial⟩
        · cases h
      · cases h
    · rename_i s x hargs
      simp only [touch, hop, hargs] at hT ⊢
      split at h
      · rename_i ht
        split at h
        · rename_i hix
          split at h
          · rename_i ys u hel ht2
            split at h
            · rename_i hix2
              obtain ⟨h1, h2⟩ := appendTo_loc (T := T) h (fun b hb => hT b (refsL_mem (List.mem_cons_self ..) hb))
              simp only [ht, hix, elemsOf_loc hel (fun b hb => hT b (refsL_mem (List.mem_cons_of_mem _ (List.mem_cons_self ..)) hb)), ht2, hix2, h1]
              refine ⟨trivial, fun b hb hw => h2 b hb fun hq => hw ?_⟩
              exact List.mem_append_left _ (refsL_mem (List.mem_cons_self ..) hq)
            · cases h
          · cases h
        · cases h
      · cases h
    · injection h with h; injection h with e1 e2; subst e1; subst e2; rw [nop rfl]; exact ⟨rfl, fun _ _ _ => rfl⟩
    · injection h with h; injection h with e1 e2; subst e1; subst e2; rw [nop rfl]; exact ⟨rfl, fun _ _ _ => rfl⟩
    · cases h
  · cases h

end Go.Vi
end SViLoc
section SViDrawA
/- Regions whose order is open: the run in the order of the text; what is touched. -/
namespace Go.Vi
open Go
variable [Glob]

/-! ### the environment matters at what an operation looks at alone -/
theorem moveOf_env {env env' : Env} {H : Heap} {x : Operand} (h : ev env x = ev env' x) : moveOf env H x = moveOf env' H x := by
  cases x with
  | tmp t => simp only [ev] at h; simp only [moveOf, h]
  | const c =>
    cases c with
    | slice a l n => cases l <;> cases n <;> rfl
    | _ => rfl
  | global g => rfl
  | func f => rfl
theorem evsL_env {env env' : Env} {ps : List (Nat × Operand)} (h : ∀ p ∈ ps, ev env p.2 = ev env' p.2) : evsL env ps = evsL env' ps := by
  induction ps with
  | nil => rfl
  | cons p ps ih => simp [evsL, h p (List.mem_cons_self ..), ih fun q hq => h q (List.mem_cons_of_mem _ hq)]
theorem evlL_env {env env' : Env} {ps : List Operand} (h : ∀ p ∈ ps, ev env p = ev env' p) : evlL env ps = evlL env' ps := by
  induction ps with
  | nil => rfl
  | cons p ps ih => simp [evlL, h p (List.mem_cons_self ..), ih fun q hq => h q (List.mem_cons_of_mem _ hq)]
theorem evs_env {env env' : Env} {ps : Array (Nat × Operand)} (h : ∀ x ∈ (ps.toList.map (·.2)), ev env x = ev env' x) : evs env ps = evs env' ps :=
  evsL_env fun p hp => h p.2 (List.mem_map_of_mem hp)
theorem evl_env {env env' : Env} {ps : Array Operand} (h : ∀ x ∈ ps.toList, ev env x = ev env' x) : evl env ps = evl env' ps := evlL_env h
theorem opt_env {env env' : Env} {o : Option Operand} (h : ∀ x ∈ o.toArray.toList, ev env x = ev env' x) : o.map (ev env) = o.map (ev env') := by
  cases o with
  | none => rfl
  | some x => simp [h x (by simp)]

theorem aoper_env {P : Program} {call : Callee'} {ns : List Nat} {env env' : Env} {H : Heap} {o : Oper} (h : ∀ x ∈ o.op.operands.toList, ev env x = ev env' x) : aoper P call ns env H o = aoper P call ns env' H o := by
  have key : aop P ns env H o = aop P ns env' H o := by
    unfold aop
    cases hop : o.op <;> rw [hop] at h <;> simp only [Op.operands] at h <;> simp only
    case move x => rw [moveOf_env (h x (by simp))]
    case assign x => rw [moveOf_env (h x (by simp))]
    case pick c x y => rw [h c (by simp), h x (by simp), h y (by simp)]
    case box t x => rw [h x (by simp)]
    case load t x => rw [h x (by simp)]
    case store t x y => rw [h x (by simp), h y (by simp)]
    case nilCheck x => rw [h x (by simp)]
    case binOp op t x y yt => rw [h x (by simp), h y (by simp)]
    case unOp op t x => rw [h x (by simp)]
    case convert s d x => rw [h x (by simp)]
    case build t ps => rw [evs_env (by simpa using h)]
    case buildSlice t n ps => rw [evs_env (by simpa using h)]
    case makeFunc f first cs => cases f <;> first | rfl | (simp only; rw [evl_env fun x hx => h x (by simp at hx ⊢; exact .inr hx)])
    case makeSlice t l c => rw [h l (by simp), h c (by simp)]
    case slice t x lo hi mx =>
      rw [h x (by simp), opt_env (o := lo) (fun y hy => h y (by simp at hy ⊢; simp [hy])), opt_env (o := hi) (fun y hy => h y (by simp at hy ⊢; simp [hy])), opt_env (o := mx) (fun y hy => h y (by simp at hy ⊢; simp [hy]))]
    case fieldAddr s x f => rw [h x (by simp)]
    case field s x f => rw [h x (by simp)]
    case indexAddr t x i => rw [h x (by simp), h i (by simp)]
    case index t x i => rw [h x (by simp), h i (by simp)]
    case range t x => rw [h x (by simp)]
    case next x b => cases b <;> first | rfl | (simp only; rw [h x (by simp)])
    case extract x i => rw [h x (by simp)]
    case call c =>
      obtain ⟨callee, args, ats⟩ := c
      cases callee with
      | builtin b => simp only; rw [evl_env (by simpa [Call.operands] using h)]
      | value f => rfl
      | invoke r n => rfl
  unfold aoper
  cases hop : o.op
  case call c =>
    obtain ⟨callee, args, ats⟩ := c
    rw [hop] at h
    cases callee with
    | value f =>
      simp only
      rw [h f (by simp [Op.operands, Call.operands]), evl_env fun x hx => h x (by simp [Op.operands, Call.operands] at hx ⊢; exact .inr hx)]
    | builtin b => simp only; rw [key]
    | invoke r n => simp only; rw [key]
  all_goals (simp only; rw [key])

/-! ### calls are local too -/
def CallLoc (C : Cfg) (call : Callee') : Prop := ∀ ns f args H v H', C.inl f = false → call ns f args H = .ok v H' → ∃ args', frzL args H = some (args', H') ∧ ∀ ns2 H2 H2', frzL args H2 = some (args', H2') → call ns2 f args H2 = .ok v H2'

theorem acall_loc (C : Cfg) : ∀ n, CallLoc C (acall C n)
  | 0 => fun ns f args H v H' _ h => by simp [acall] at h
  | n + 1 => fun ns f args H v H' hi h => by
    simp only [acall, hi, Bool.false_eq_true, if_false] at h
    split at h
    · cases h
    · rename_i args' H1 hf
      split at h
      · rename_i v' hv
        injection h with e1 e2; subst e1; subst e2
        refine ⟨args', hf, fun ns2 H2 H2' h2 => ?_⟩
        simp [acall, hi, h2, hv]
      · cases h

def touched (t : Touch) (b : Nat) : Bool := t.loud || t.reads.contains b || t.writes.contains b
def written (t : Touch) (b : Nat) : Bool := (t.loud && !t.keep b) || t.writes.contains b

theorem frzL_len {cs cs' : List AV} {H H' : Heap} (h : frzL cs H = some (cs', H')) : H'.length = H.length := (frzL_loc (T := fun _ => true) cs h (fun _ _ => rfl)).2.1

theorem aop_new {P : Program} {ns : List Nat} {env : Env} {H H' : Heap} {o : Oper} {v : AV} (h : aop P ns env H o = some (v, H')) {inl : FuncId → Bool} {k : Nat} : H'.length = H.length ∨ ∀ b, H.length ≤ b → b < H'.length → b ∈ (touch inl env H.length H'.length k o).writes := by
  have inNews : ∀ b, H.length ≤ b → b < H'.length → b ∈ news H.length H'.length := fun b h1 h2 => by
    unfold news; rw [List.mem_range'_1]; omega
  cases hop : o.op
  case load => left; unfold aop at h; simp only [hop] at h; split at h <;> try (cases h; done)
               split at h <;> try (cases h; done)
               injection h with h; injection h with _ e; rw [e]
  case store => left; unfold aop at h; simp only [hop] at h; split at h <;> try (cases h; done)
                split at h <;> try (cases h; done)
                rename_i hs; injection h with h; injection h with _ e; subst e; exact (setAt_loc (T := fun _ => true) hs (fun _ _ => rfl)).2.1
  case slice t x lo hi mx => left; unfold aop at h; simp only [hop] at h; exact (sliceOf_loc (T := fun _ => true) h (fun _ _ _ => rfl)).2.1
  case next x b => left; unfold aop at h; simp only [hop] at h
                   cases b <;> simp only at h <;> try (cases h; done)
                   split at h <;> try (cases h; done)
                   split at h <;> try (cases h; done)
                   split at h
                   · injection h with h; injection h with _ e; subst e; simp
                   · injection h with h; injection h with _ e; rw [e]
  case call c =>
    obtain ⟨callee, args, ats⟩ := c
    cases callee with
    | builtin b =>
      cases b
      case append => right; simp only [touch, hop]; exact fun b h1 h2 => List.mem_append_right _ (inNews b h1 h2)
      all_goals
        left; unfold aop at h; simp only [hop] at h; unfold builtinOf at h
        split at h <;> try (cases h; done)
        all_goals first
          | (injection h with h; injection h with _ e; rw [e])
          | (split at h <;> try (cases h; done)
             split at h <;> try (cases h; done)
             injection h with h; injection h with _ e; rw [e])
          | skip
        all_goals (rename_i hb _; first | cases hb | skip)
    | value f => unfold aop at h; simp only [hop] at h; cases h
    | invoke r n => unfold aop at h; simp only [hop] at h; cases h
  case buildSlice => right; simp only [touch, hop]; exact fun b h1 h2 => List.mem_append_right _ (inNews b h1 h2)
  all_goals (right; simp only [touch, hop]; exact inNews)

end Go.Vi
end SViDrawA
section SViDrawB
/- Regions whose order is open: orders, the run in the order of the text, what lies where when some operations have run. -/
namespace Go.Vi
open Go
variable [Glob]

/-- what has run, with all that is bound ahead of it -/
def Closed (all : Array Oper) (S : Nat → Bool) : Prop := ∀ k o, all[k]? = some o → S k = true → ∀ e ∈ o.after, Region.binds .any e = true → S e.on = true

theorem prec_step {all : Array Oper} {n i j : Nat} (h : prec all n i j = true) : ∃ o, all[j]? = some o ∧ ∃ e ∈ o.after, Region.binds .any e = true ∧ (e.on = i ∨ ∃ m, prec all m i e.on = true) := by
  cases n with
  | zero => simp [prec] at h
  | succ n =>
    simp only [prec] at h
    split at h
    · rename_i o ho
      rw [List.any_eq_true] at h
      obtain ⟨e, he, hq⟩ := h
      simp only [Bool.and_eq_true, Bool.or_eq_true, beq_iff_eq] at hq
      exact ⟨o, ho, e, Array.mem_toList_iff.1 he, hq.1, hq.2.elim .inl (fun h => .inr ⟨n, h⟩)⟩
    · cases h

theorem prec_closed {all : Array Oper} {S : Nat → Bool} (hS : Closed all S) : ∀ {n i j : Nat}, prec all n i j = true → S j = true → S i = true := by
  intro n
  induction n with
  | zero => intro i j h _; simp [prec] at h
  | succ n ih =>
    intro i j h hj
    simp only [prec] at h
    split at h
    · rename_i o ho
      rw [List.any_eq_true] at h
      obtain ⟨e, he, hq⟩ := h
      simp only [Bool.and_eq_true, Bool.or_eq_true, beq_iff_eq] at hq
      have hon := hS j o ho hj e (Array.mem_toList_iff.1 he) hq.1
      rcases hq.2 with rfl | hq
      · exact hon
      · exact ih hq hon
    · cases h

/-- ready: all that is bound ahead has run -/
def Ready (all : Array Oper) (S : Nat → Bool) (k : Nat) : Prop := ∀ o, all[k]? = some o → ∀ e ∈ o.after, Region.binds .any e = true → S e.on = true

theorem prec_ready {all : Array Oper} {S : Nat → Bool} (hS : Closed all S) {n i k : Nat} (h : prec all n i k = true) (hr : Ready all S k) : S i = true := by
  obtain ⟨o, ho, e, he, hb, hq⟩ := prec_step h
  have hon := hr o ho e he hb
  rcases hq with rfl | ⟨m, hq⟩
  · exact hon
  · exact prec_closed hS hq hon

/-! ### bits -/
theorem fold_bit (acc : List Nat) (i : Nat) : ∀ (l : List Edge) (s : Nat), (l.foldl (fun s e => if Region.binds .any e then s ||| 2 ^ e.on ||| acc.getD e.on 0 else s) s).testBit i = true →
    s.testBit i = true ∨ ∃ e ∈ l, Region.binds .any e = true ∧ (e.on = i ∨ (acc.getD e.on 0).testBit i = true)
  | [], s, h => .inl h
  | e :: l, s, h => by
    rw [List.foldl_cons] at h
    rcases fold_bit acc i l _ h with h | ⟨e', he', h⟩
    · split at h
      · rename_i hb
        rw [Nat.testBit_or, Nat.testBit_or, Bool.or_eq_true, Bool.or_eq_true] at h
        rcases h with (h | h) | h
        · exact .inl h
        · rw [Nat.testBit_two_pow] at h
          exact .inr ⟨e, List.mem_cons_self .., hb, .inl (by simpa using h)⟩
        · exact .inr ⟨e, List.mem_cons_self .., hb, .inr h⟩
      · exact .inl h
    · exact .inr ⟨e', List.mem_cons_of_mem _ he', h⟩

theorem befL_prefix : ∀ (os : List Oper) (acc : List Nat), acc <+: befL os acc ∧ (befL os acc).length = acc.length + os.length
  | [], acc => ⟨List.prefix_refl _, by simp [befL]⟩
  | o :: os, acc => by
    simp only [befL]
    obtain ⟨h1, h2⟩ := befL_prefix os (acc ++ [o.after.toList.foldl (fun s e => if Region.binds .any e then s ||| 2 ^ e.on ||| acc.getD e.on 0 else s) 0])
    exact ⟨(List.prefix_append _ _).trans h1, by rw [h2]; simp; omega⟩

theorem befL_bit : ∀ (os : List Oper) (acc : List Nat) (j : Nat) (o : Oper), os[j]? = some o → ∀ i, ((befL os acc).getD (acc.length + j) 0).testBit i = true →
    ∃ e ∈ o.after.toList, Region.binds .any e = true ∧ (e.on = i ∨ (((befL os acc).take (acc.length + j)).getD e.on 0).testBit i = true)
  | [], acc, j, o, h, i, hb => by simp at h
  | p :: os, acc, j, o, h, i, hb => by
    simp only [befL] at hb ⊢
    generalize hx : p.after.toList.foldl (fun s e => if Region.binds .any e then s ||| 2 ^ e.on ||| acc.getD e.on 0 else s) 0 = x at hb ⊢
    cases j with
    | zero =>
      simp at h; subst h
      obtain ⟨hp, _⟩ := befL_prefix os (acc ++ [x])
      obtain ⟨t, ht⟩ := hp
      rw [← ht] at hb ⊢
      rw [Nat.add_zero, List.getD_eq_getElem?_getD, List.getElem?_append_left (by simp), List.getElem?_append_right (Nat.le_refl _)] at hb
      simp only [Nat.sub_self, List.getElem?_cons_zero, Option.getD_some] at hb
      subst hx
      rcases fold_bit acc i _ _ hb with h | ⟨e, he, h1, h2⟩
      · simp at h
      · refine ⟨e, he, h1, h2.imp id fun h => ?_⟩
        rw [Nat.add_zero, List.append_assoc, List.take_left]
        exact h
    | succ j =>
      have := befL_bit os (acc ++ [x]) j o (by simpa using h) i (by simpa [Nat.add_assoc, Nat.add_comm 1 j] using hb)
      simpa [Nat.add_assoc, Nat.add_comm 1 j] using this

theorem regOk_after {all : Array Oper} (h : regOk all = true) {j : Nat} {o : Oper} (ho : all[j]? = some o) {e : Edge} (he : e ∈ o.after) (hb : Region.binds .any e = true) : e.on < j := by
  have hj : j < all.size := (Array.getElem?_eq_some_iff.1 ho).1
  unfold regOk at h
  simp only [List.all_eq_true, List.mem_range] at h
  have := h j hj
  rw [ho] at this
  simp only [Bool.and_eq_true, List.all_eq_true] at this
  have := this.1 e (Array.mem_toList_iff.2 he)
  simpa [hb] using this

theorem regOk_pair {all : Array Oper} (h : regOk all = true) {i j : Nat} (hij : i < j) {x y : Oper} (hx : all[i]? = some x) (hy : all[j]? = some y) : ((befL all.toList []).getD j 0).testBit i = true ∨ x.apart all y = true := by
  have hj : j < all.size := (Array.getElem?_eq_some_iff.1 hy).1
  unfold regOk at h
  simp only [List.all_eq_true, List.mem_range] at h
  have := h j hj
  rw [hy] at this
  simp only [Bool.and_eq_true, List.all_eq_true, List.mem_range] at this
  have := this.2 i hij
  rw [hx] at this
  simpa using this

theorem bit_step {all : Array Oper} (hk : regOk all = true) {i j : Nat} {o : Oper} (ho : all[j]? = some o) (h : ((befL all.toList []).getD j 0).testBit i = true) :
    ∃ e ∈ o.after, Region.binds .any e = true ∧ e.on < j ∧ (e.on = i ∨ ((befL all.toList []).getD e.on 0).testBit i = true) := by
  have := befL_bit all.toList [] j o (by simpa using ho) i (by simpa using h)
  obtain ⟨e, he, hb, h⟩ := this
  have hlt := regOk_after hk ho (Array.mem_toList_iff.1 he) hb
  refine ⟨e, Array.mem_toList_iff.1 he, hb, hlt, h.imp id fun h => ?_⟩
  rw [List.getD_eq_getElem?_getD, List.getElem?_take, if_pos (by simpa using hlt)] at h
  rw [List.getD_eq_getElem?_getD]; exact h

theorem bit_closed {all : Array Oper} (hk : regOk all = true) {S : Nat → Bool} (hS : Closed all S) : ∀ (j : Nat) {i : Nat}, j < all.size → ((befL all.toList []).getD j 0).testBit i = true → S j = true → S i = true := by
  intro j
  induction j using Nat.strongRecOn with
  | _ j ih =>
    intro i hj h hs
    have ho : all[j]? = some all[j] := Array.getElem?_eq_getElem hj
    obtain ⟨e, he, hb, hlt, hq⟩ := bit_step hk ho h
    have hon := hS j _ ho hs e he hb
    rcases hq with rfl | hq
    · exact hon
    · exact ih e.on hlt (by omega) hq hon
theorem bit_ready {all : Array Oper} (hk : regOk all = true) {S : Nat → Bool} (hS : Closed all S) {i k : Nat} {o : Oper} (ho : all[k]? = some o) (h : ((befL all.toList []).getD k 0).testBit i = true) (hr : Ready all S k) : S i = true := by
  obtain ⟨e, he, hb, hlt, hq⟩ := bit_step hk ho h
  have hon := hr o ho e he hb
  have hk' := (Array.getElem?_eq_some_iff.1 ho).1
  rcases hq with rfl | hq
  · exact hon
  · exact bit_closed hk hS e.on (by omega) hq hon

/-! ### the run in the order of the text -/
structure Tr (C : Cfg) (call : Callee') (ns : List Nat) (all : Array Oper) (env0 : Env) (H0 : Heap) where
  E : Nat → Env
  Hs : Nat → Heap
  V : Nat → AV
  T : Nat → Touch
  e0 : E 0 = env0
  h0 : Hs 0 = H0
  step : ∀ k o, all[k]? = some o → (wantE all (E k) o = some true ∧ aoper C.P call ns (E k) (Hs k) o = .ok (V k) (Hs (k + 1)) ∧ T k = ease (touch C.inl (E k) (Hs k).length (Hs (k + 1)).length k o) (Hs k) (Hs (k + 1))) ∨
    (wantE all (E k) o = some false ∧ V k = .tup [] ∧ Hs (k + 1) = Hs k ∧ T k = ⟨k, [], [], false, noKeep⟩)
  env : ∀ k o, all[k]? = some o → E (k + 1) = putE (E k) o.dst (V k)
  log : logOk all ((List.range all.size).foldl (fun log k => put1 (T k) log) []) = true

theorem adraw_tr {C : Cfg} {call : Callee'} {ns : List Nat} {all : Array Oper} : ∀ (os : List Oper) (j : Nat) {env : Env} {H : Heap} {log : Log} {e : Ex} {env' : Env} {H' : Heap}, all.toList.drop j = os → adraw C.P C.inl call ns all j os env H log = .ok e env' H' →
    e = .normal ∧ ∃ (E : Nat → Env) (Hs : Nat → Heap) (V : Nat → AV) (T : Nat → Touch), E 0 = env ∧ Hs 0 = H ∧ E os.length = env' ∧ Hs os.length = H' ∧
      (∀ i o, os[i]? = some o → (wantE all (E i) o = some true ∧ aoper C.P call ns (E i) (Hs i) o = .ok (V i) (Hs (i + 1)) ∧ T i = ease (touch C.inl (E i) (Hs i).length (Hs (i + 1)).length (j + i) o) (Hs i) (Hs (i + 1))) ∨
        (wantE all (E i) o = some false ∧ V i = .tup [] ∧ Hs (i + 1) = Hs i ∧ T i = ⟨j + i, [], [], false, noKeep⟩)) ∧
      (∀ i o, os[i]? = some o → E (i + 1) = putE (E i) o.dst (V i)) ∧ logOk all ((List.range os.length).foldl (fun log i => put1 (T i) log) log) = true
  | [], j, env, H, log, e, env', H', hd, h => by
    simp only [adraw] at h
    split at h
    · rename_i hl
      injection h with e1 e2 e3
      exact ⟨e1.symm, fun _ => env, fun _ => H, fun _ => .undef, fun _ => ⟨0, [], [], false, noKeep⟩, rfl, rfl, e2, e3, (fun i o ho => by simp at ho), (fun i o ho => by simp at ho), by simpa using hl⟩
    · cases h
  | o :: os, j, env, H, log, e, env', H', hd, h => by
    have hd' : all.toList.drop (j + 1) = os := by rw [← List.tail_drop, hd]; rfl
    have cons : ∀ (v : AV) (H1 : Heap) (t : Touch), ((wantE all env o = some true ∧ aoper C.P call ns env H o = .ok v H1 ∧ t = ease (touch C.inl env H.length H1.length j o) H H1) ∨ (wantE all env o = some false ∧ v = .tup [] ∧ H1 = H ∧ t = ⟨j, [], [], false, noKeep⟩)) →
        adraw C.P C.inl call ns all (j + 1) os (putE env o.dst v) H1 (put1 t log) = .ok e env' H' → e = .normal ∧ ∃ (E : Nat → Env) (Hs : Nat → Heap) (V : Nat → AV) (T : Nat → Touch), E 0 = env ∧ Hs 0 = H ∧ E (o :: os).length = env' ∧ Hs (o :: os).length = H' ∧
      (∀ i p, (o :: os)[i]? = some p → (wantE all (E i) p = some true ∧ aoper C.P call ns (E i) (Hs i) p = .ok (V i) (Hs (i + 1)) ∧ T i = ease (touch C.inl (E i) (Hs i).length (Hs (i + 1)).length (j + i) p) (Hs i) (Hs (i + 1))) ∨
        (wantE all (E i) p = some false ∧ V i = .tup [] ∧ Hs (i + 1) = Hs i ∧ T i = ⟨j + i, [], [], false, noKeep⟩)) ∧
      (∀ i p, (o :: os)[i]? = some p → E (i + 1) = putE (E i) p.dst (V i)) ∧ logOk all ((List.range (o :: os).length).foldl (fun log i => put1 (T i) log) log) = true := by
      intro v H1 t hst hrest
      obtain ⟨he, E, Hs, V, T, k1, k2, k3, k4, k5, k6, k7⟩ := adraw_tr os (j + 1) hd' hrest
      refine ⟨he, fun i => i.casesOn env E, fun i => i.casesOn H Hs, fun i => i.casesOn v V, fun i => i.casesOn t T, rfl, rfl, k3, k4, fun i p hp => ?_, fun i p hp => ?_, ?_⟩
      · cases i with
        | zero => simp at hp; subst hp; simp only [k2, Nat.add_zero]; exact hst
        | succ i =>
          have := k5 i p (by simpa using hp)
          simpa [Nat.add_assoc, Nat.add_comm 1 i] using this
      · cases i with
        | zero => simp at hp; subst hp; exact k1
        | succ i => exact k6 i p (by simpa using hp)
      · rw [List.length_cons, List.range_succ_eq_map, List.foldl_cons, List.foldl_map]
        exact k7
    simp only [adraw] at h
    split at h
    · rename_i hw
      split at h
      · rename_i v H1 hop
        exact cons v H1 _ (.inl ⟨hw, hop, rfl⟩) h
      · cases h
    · rename_i hw
      exact cons (.tup []) H _ (.inr ⟨hw, rfl, rfl, rfl⟩) (by simpa [put1] using h)
    · cases h

end Go.Vi
end SViDrawB
section SViDrawC
/- Regions whose order is open: one operation's step, where others have run or not. -/
namespace Go.Vi
open Go
variable [Glob]

def HSn (HS Hk1 : Heap) (n0 n1 : Nat) (T : Nat → Bool) : Heap := HS.mapIdx fun b x => if b < n1 ∧ up T n0 b = true then (Hk1[b]?).getD .dead else x
theorem HSn_len (HS Hk1 : Heap) (n0 n1 : Nat) (T : Nat → Bool) : (HSn HS Hk1 n0 n1 T).length = HS.length := by simp [HSn]
theorem HSn_get (HS Hk1 : Heap) (n0 n1 : Nat) (T : Nat → Bool) (b : Nat) : (HSn HS Hk1 n0 n1 T)[b]? = (HS[b]?).map fun x => if b < n1 ∧ up T n0 b = true then (Hk1[b]?).getD .dead else x := by simp [HSn]

def Mem.glue (MS Mh : Mem) (n1 : Nat) : Mem := { Mh with σ := fun b v => if b < n1 then Mh.σ b v else MS.σ b v }

structure Glued (B : Nat) (MS : Mem) (HS : Heap) (MS' : Mem) (HS' : Heap) : Prop where
  hr : HR B MS' HS'
  step : Step B MS HS MS'
  onto : ∀ b x g, HS'[b]? = some x → gOf MS' b x = some g → MS.w.heap.size ≤ g ∨ ∃ x0, HS[b]? = some x0 ∧ gOf MS b x0 = some g

theorem hr_mask {B : Nat} {MS : Mem} {HS : Heap} (h : HR B MS HS) {Hk : Heap} {T : Nat → Bool} (hag : ∀ b, b < Hk.length → T b = true → HS[b]? = Hk[b]?) (hcl : Clean Hk.length Hk) : HR B (MS.below Hk.length) (maskH T Hk) := by
  have hget : ∀ b x, (maskH T Hk)[b]? = some x → x = .dead ∨ (T b = true ∧ b < Hk.length ∧ Hk[b]? = some x ∧ HS[b]? = some x) := by
    intro b x hx
    rw [mask_get, Option.map_eq_some_iff] at hx
    obtain ⟨y, hy, hx⟩ := hx
    have hb := (List.getElem?_eq_some_iff.1 hy).1
    split at hx
    · rename_i ht; subst hx; exact .inr ⟨ht, hb, hy, by rw [hag b hb ht]; exact hy⟩
    · exact .inl hx.symm
  have hσ : ∀ b v y, (MS.below Hk.length).σ b v = some y → b < Hk.length ∧ MS.σ b v = some y := fun b v y hy => by
    simp only [Mem.below] at hy
    split at hy
    · exact ⟨by assumption, hy⟩
    · cases hy
  refine ⟨fun b x hx => ?_, fun b b' x x' g h1 h2 h3 h4 => ?_, fun b v y hy => ?_, fun b v g s hs => h.low b v g s (hσ _ _ _ hs).2, fun g o hk => h.kept g o hk, h.base⟩
  · rcases hget b x hx with rfl | ⟨_, hb, hk, hs⟩
    · trivial
    · exact (h.blk b x hs).below hb (fun cs hcs => by subst hcs; exact hcl b cs hb hk)
  · rcases hget b x h1 with rfl | ⟨_, hb, _, hs⟩
    · simp [gOf] at h3
    · rcases hget b' x' h2 with rfl | ⟨_, hb', _, hs'⟩
      · simp [gOf] at h4
      · rw [gOf_below hb] at h3; rw [gOf_below hb'] at h4
        exact h.apart b b' x x' g hs hs' h3 h4
  · rw [mask_len]; exact (hσ _ _ _ hy).1

theorem glue {B : Nat} {MS : Mem} {HS : Heap} (h : HR B MS HS) {Hk Hk1 : Heap} {T : Nat → Bool} (hag : ∀ b, b < Hk.length → T b = true → HS[b]? = Hk[b]?) (hlen : Hk.length ≤ Hk1.length) (hN : Hk1.length ≤ HS.length)
    (hun : ∀ b, Hk.length ≤ b → b < Hk1.length → ∀ v, MS.σ b v = none) (hud : ∀ b, Hk.length ≤ b → b < Hk1.length → HS[b]? = some .dead) {Mh : Mem} (m : Moved B (MS.below Hk.length) (maskH T Hk) Mh (maskH (up T Hk.length) Hk1)) :
    Glued B MS HS (MS.glue Mh Hk1.length) (HSn HS Hk1 Hk.length Hk1.length T) ∧ Ext Mh (MS.glue Mh Hk1.length) ∧
    (∀ b v, b < Hk.length → T b = false → (MS.glue Mh Hk1.length).σ b v = MS.σ b v) := by
  have hsame : ∀ b v, b < Hk.length → T b = false → Mh.σ b v = MS.σ b v := fun b v hb ht => by
    have := (m.onto.dead b (mask_out ht hb)).2 v
    rw [this]; simp [Mem.below, hb]
  have hσ1 : ∀ b v, b < Hk1.length → (MS.glue Mh Hk1.length).σ b v = Mh.σ b v := fun b v hb => by simp [Mem.glue, hb]
  have hσ2 : ∀ b v, ¬ b < Hk1.length → (MS.glue Mh Hk1.length).σ b v = MS.σ b v := fun b v hb => by simp [Mem.glue, hb]
  have hE : Ext MS (MS.glue Mh Hk1.length) := by
    refine ⟨fun b v x hx => ?_, m.step.ext.shape, m.step.ext.kept, m.step.ext.cell, m.step.ext.size⟩
    by_cases hb1 : b < Hk1.length
    · rw [hσ1 b v hb1]
      by_cases hb : b < Hk.length
      · exact m.step.ext.σ b v x (by simp [Mem.below, hb, hx])
      · rw [hun b (by omega) hb1 v] at hx; cases hx
    · rw [hσ2 b v hb1]; exact hx
  have hE' : Ext Mh (MS.glue Mh Hk1.length) := by
    refine ⟨fun b v x hx => ?_, fun _ _ h => h, fun _ _ h => h, fun _ _ _ _ h => h, Nat.le_refl _⟩
    have := m.hr.dom _ _ _ hx
    rw [mask_len] at this
    rw [hσ1 b v this]; exact hx
  have hnone : ∀ b v, (¬ (b < Hk1.length ∧ up T Hk.length b = true)) → (MS.glue Mh Hk1.length).σ b v = MS.σ b v := by
    intro b v hc
    by_cases hb1 : b < Hk1.length
    · rw [hσ1 b v hb1]
      have hu : up T Hk.length b = false := by
        cases hq : up T Hk.length b with
        | false => rfl
        | true => exact absurd ⟨hb1, hq⟩ hc
      simp only [up, Bool.or_eq_false_iff, decide_eq_false_iff_not] at hu
      exact hsame b v (by omega) hu.1
    · exact hσ2 b v hb1
  have hget : ∀ b x, (HSn HS Hk1 Hk.length Hk1.length T)[b]? = some x → (b < Hk1.length ∧ up T Hk.length b = true ∧ (maskH (up T Hk.length) Hk1)[b]? = some x) ∨ (¬ (b < Hk1.length ∧ up T Hk.length b = true) ∧ HS[b]? = some x) := by
    intro b x hx
    rw [HSn_get, Option.map_eq_some_iff] at hx
    obtain ⟨y, hy, hx⟩ := hx
    by_cases hc : b < Hk1.length ∧ up T Hk.length b = true
    · rw [if_pos hc, List.getElem?_eq_getElem hc.1] at hx
      simp at hx
      refine .inl ⟨hc.1, hc.2, ?_⟩
      rw [mask_in hc.2, List.getElem?_eq_getElem hc.1, hx]
    · rw [if_neg hc] at hx; subst hx; exact .inr ⟨hc, hy⟩
  have hg1 : ∀ b x, b < Hk1.length → gOf (MS.glue Mh Hk1.length) b x = gOf Mh b x := fun b x hb => by cases x <;> simp [gOf, gAt, hσ1 _ _ hb]
  have hg2 : ∀ b x, ¬ (b < Hk1.length ∧ up T Hk.length b = true) → gOf (MS.glue Mh Hk1.length) b x = gOf MS b x := fun b x hb => by cases x <;> simp [gOf, gAt, hnone _ _ hb]
  have hmb : ∀ b x g, (maskH T Hk)[b]? = some x → gOf (MS.below Hk.length) b x = some g → b < Hk.length ∧ T b = true ∧ HS[b]? = some x ∧ gOf MS b x = some g := by
    intro b x g hx hg
    rw [mask_get, Option.map_eq_some_iff] at hx
    obtain ⟨y, hy, hx⟩ := hx
    have hb := (List.getElem?_eq_some_iff.1 hy).1
    split at hx
    · rename_i ht; subst hx; rw [gOf_below hb] at hg; exact ⟨hb, ht, by rw [hag b hb ht]; exact hy, hg⟩
    · subst hx; simp [gOf] at hg
  have hfr : ∀ g, g < MS.w.heap.size → (∀ b x, b < Hk.length → T b = true → HS[b]? = some x → gOf MS b x ≠ some g) → Mh.w.heap[g]? = MS.w.heap[g]? ∧ ∀ o, Mh.kept g o ↔ MS.kept g o := by
    intro g hg hn
    refine m.step.frame g hg fun b x hx hq => ?_
    obtain ⟨h0, h1, h2, h3⟩ := hmb b x g hx hq
    exact hn b x h0 h1 h2 h3
  have honto : ∀ b x g, b < Hk1.length → (maskH (up T Hk.length) Hk1)[b]? = some x → gOf Mh b x = some g → MS.w.heap.size ≤ g ∨ ∃ x0, T b = true ∧ HS[b]? = some x0 ∧ gOf MS b x0 = some g := by
    intro b x g hb hx hg
    rcases m.onto.blk b x g hx hg with h1 | ⟨x0, h1, h2⟩
    · exact .inl h1
    · obtain ⟨_, h3, h4, h5⟩ := hmb b x0 g h1 h2
      exact .inr ⟨x0, h3, h4, h5⟩
  refine ⟨⟨?_, ⟨hE, m.step.below, fun g hg hn => hfr g hg fun b x _ _ hx => hn b x hx⟩, fun b x g hx hg => ?_⟩, hE', fun b v hb ht => hnone b v (by simp [up, ht]; omega)⟩
  · refine ⟨fun b x hx => ?_, fun b b' x x' g h1 h2 h3 h4 => ?_, fun b v y hy => ?_, fun b v g s hs => ?_, fun g o hk => m.hr.kept g o hk, m.hr.base⟩
    · rcases hget b x hx with ⟨hb, hu, hx⟩ | ⟨hc, hx⟩
      · exact (m.hr.blk b x hx).carry hE' (fun v hv => by rw [hσ1 b v hb]; exact hv) (fun g hg => ⟨rfl, fun _ => Iff.rfl⟩)
      · refine (h.blk b x hx).carry hE (fun v hv => by rw [hnone b v hc]; exact hv) (fun g hg => ?_)
        obtain ⟨v, s, hs⟩ := gOf_σ hg
        refine hfr g (h.low _ _ _ _ hs).2 fun b' x' hbk ht hx' hg' => ?_
        have := h.apart b' b x' x g hx' hx hg' hg
        subst this
        exact hc ⟨by omega, by simp [up, ht]⟩
    · rcases hget b x h1 with ⟨hb, hu, hx⟩ | ⟨hc, hx⟩ <;> rcases hget b' x' h2 with ⟨hb', hu', hx'⟩ | ⟨hc', hx'⟩
      · rw [hg1 b x hb] at h3; rw [hg1 b' x' hb'] at h4
        exact m.hr.apart b b' x x' g hx hx' h3 h4
      · rw [hg1 b x hb] at h3; rw [hg2 b' x' hc'] at h4
        obtain ⟨v, s, hs⟩ := gOf_σ h4
        have hlt := (h.low _ _ _ _ hs).2
        rcases honto b x g hb hx h3 with h5 | ⟨x0, _, h5, h6⟩
        · omega
        · exact h.apart b b' x0 x' g h5 hx' h6 h4
      · rw [hg2 b x hc] at h3; rw [hg1 b' x' hb'] at h4
        obtain ⟨v, s, hs⟩ := gOf_σ h3
        have hlt := (h.low _ _ _ _ hs).2
        rcases honto b' x' g hb' hx' h4 with h5 | ⟨x0, _, h5, h6⟩
        · omega
        · exact h.apart b b' x x0 g hx h5 h3 h6
      · rw [hg2 b x hc] at h3; rw [hg2 b' x' hc'] at h4
        exact h.apart b b' x x' g hx hx' h3 h4
    · rw [HSn_len]
      by_cases hb : b < Hk1.length
      · omega
      · rw [hσ2 b v hb] at hy; exact h.dom _ _ _ hy
    · by_cases hb : b < Hk1.length
      · rw [hσ1 b v hb] at hs; exact m.hr.low _ _ _ _ hs
      · rw [hσ2 b v hb] at hs
        have := h.low _ _ _ _ hs
        exact ⟨this.1, Nat.lt_of_lt_of_le this.2 m.step.ext.size⟩
  · rcases hget b x hx with ⟨hb, hu, hx⟩ | ⟨hc, hx⟩
    · rw [hg1 b x hb] at hg
      rcases honto b x g hb hx hg with h5 | ⟨x0, _, h5, h6⟩
      · exact .inl h5
      · exact .inr ⟨x0, h5, h6⟩
    · rw [hg2 b x hc] at hg; exact .inr ⟨x, hx, hg⟩

end Go.Vi
end SViDrawC
section SViDrawD
/- Regions whose order is open: what lies where when some operations have run. -/
namespace Go.Vi
open Go
variable [Glob]

theorem ease_touched (t : Touch) (H H' : Heap) : touched (ease t H H') = touched t := rfl
theorem ease_written {t : Touch} {H H' : Heap} {b : Nat} (h : t.keep = noKeep) : written (ease t H H') b = false ↔ (written t b = false ∨ (t.writes.contains b = false ∧ b < H.length ∧ H'[b]? = H[b]?)) := by
  unfold written ease
  simp only [h]
  cases t.loud <;> cases t.writes.contains b <;> simp
theorem touch_keep (inl : FuncId → Bool) (env : Env) (n m k : Nat) (o : Oper) : (touch inl env n m k o).keep = noKeep := by
  unfold touch
  split <;> first | rfl | (split <;> rfl)
theorem aoper_loc0 {C : Cfg} {call : Callee'} (hcl : CallLoc C call) {ns : List Nat} {env : Env} {H H' : Heap} {o : Oper} {v : AV} (h : aoper C.P call ns env H o = .ok v H') (k : Nat) :
    aoper C.P call ns env (maskH (touched (touch C.inl env H.length H'.length k o)) H) o = .ok v (maskH (up (touched (touch C.inl env H.length H'.length k o)) H.length) H') ∧
    (∀ b, b < H.length → written (touch C.inl env H.length H'.length k o) b = false → H'[b]? = H[b]?) ∧ (∀ b, H.length ≤ b → b < H'.length → written (touch C.inl env H.length H'.length k o) b = true) := by
  have plain : aop C.P ns env H o = some (v, H') → aop C.P ns env (maskH (touched (touch C.inl env H.length H'.length k o)) H) o = some (v, maskH (up (touched (touch C.inl env H.length H'.length k o)) H.length) H') ∧
    (∀ b, b < H.length → written (touch C.inl env H.length H'.length k o) b = false → H'[b]? = H[b]?) ∧ (∀ b, H.length ≤ b → b < H'.length → written (touch C.inl env H.length H'.length k o) b = true) := by
    intro ha
    obtain ⟨h1, h2⟩ := aop_loc ha (inl := C.inl) (n := H.length) (m := H'.length) (k := k) (T := touched (touch C.inl env H.length H'.length k o)) (fun b hb => by simp [touched, hb])
    refine ⟨h1, fun b hb hw => h2 b hb fun hm => by simp [written, hm] at hw, fun b hb hb' => ?_⟩
    rcases aop_new ha (inl := C.inl) (k := k) with hl | hn
    · omega
    · simp [written, hn b hb hb']
  unfold aoper at h ⊢
  split at h
  · rename_i f args ats hop
    split at h
    · rename_i f' cap hf
      cases hi : C.inl f' with
      | true =>
        have hloud : (touch C.inl env H.length H'.length k o).loud = true := by simp [touch, hop, hf, hi]
        have ht : ∀ b, touched (touch C.inl env H.length H'.length k o) b = true := fun b => by simp [touched, hloud]
        have hw : ∀ b, written (touch C.inl env H.length H'.length k o) b = true := fun b => by simp [written, hloud, touch_keep]
        rw [mask_all fun b _ => ht b, mask_all fun b _ => by simp [up, ht]]
        exact ⟨h, (fun b _ hq => by rw [hw] at hq; cases hq), fun b _ _ => hw b⟩
      | false =>
        obtain ⟨args', hfz, hany⟩ := hcl ns f' _ H v H' hi h
        have hreads : ∀ b ∈ refs1.refsL (evl env args ++ cap), touched (touch C.inl env H.length H'.length k o) b = true := fun b hb => by simp [touched, touch, hop, hf, hb]
        obtain ⟨h1, h2, h3⟩ := frzL_loc (T := touched (touch C.inl env H.length H'.length k o)) _ hfz hreads
        refine ⟨?_, fun b hb hw => h3 b fun hm => ?_, fun b hb hb' => by omega⟩
        · rw [mask_up_same h2]; exact hany ns _ _ h1
        · simp [written, touch, hop, hf, hm] at hw
    · cases h
  · split at h
    · rename_i ha
      injection h with e1 e2; subst e1; subst e2
      obtain ⟨h1, h2, h3⟩ := plain ha
      exact ⟨by rw [h1], h2, h3⟩
    · cases h

theorem aoper_loc {C : Cfg} {call : Callee'} (hcl : CallLoc C call) {ns : List Nat} {env : Env} {H H' : Heap} {o : Oper} {v : AV} (h : aoper C.P call ns env H o = .ok v H') (k : Nat) :
    aoper C.P call ns env (maskH (touched (ease (touch C.inl env H.length H'.length k o) H H')) H) o = .ok v (maskH (up (touched (ease (touch C.inl env H.length H'.length k o) H H')) H.length) H') ∧
    (∀ b, b < H.length → written (ease (touch C.inl env H.length H'.length k o) H H') b = false → H'[b]? = H[b]?) ∧ (∀ b, H.length ≤ b → b < H'.length → written (ease (touch C.inl env H.length H'.length k o) H H') b = true) := by
  simp only [ease_touched]
  obtain ⟨h1, h2, h3⟩ := aoper_loc0 hcl h k
  refine ⟨h1, fun b hb hw => ?_, fun b hb hb' => ?_⟩
  · rcases (ease_written (touch_keep ..)).1 hw with h | h
    · exact h2 b hb h
    · exact h.2.2
  · cases hq : written (ease (touch C.inl env H.length H'.length k o) H H') b with
    | true => rfl
    | false =>
      rcases (ease_written (touch_keep ..)).1 hq with h | h
      · rw [h3 b hb hb'] at h; cases h
      · omega

theorem touch_at (inl : FuncId → Bool) (env : Env) (n m k : Nat) (o : Oper) {H H' : Heap} : (ease (touch inl env n m k o) H H').at_ = k := by
  show (touch inl env n m k o).at_ = k
  unfold touch
  split <;> first | rfl | (split <;> rfl)

section
variable {C : Cfg} {call : Callee'} {ns : List Nat} {all : Array Oper} {env0 : Env} {H0 : Heap} (tr : Tr C call ns all env0 H0)

theorem Tr.at_ {k : Nat} (hk : k < all.size) : (tr.T k).at_ = k := by
  rcases tr.step k _ (Array.getElem?_eq_getElem hk) with ⟨_, _, h⟩ | ⟨_, _, _, h⟩
  · rw [h]; exact touch_at ..
  · rw [h]

def Tr.L (k : Nat) : Log := (List.range k).foldl (fun log i => put1 (tr.T i) log) []
theorem Tr.L_succ (k : Nat) : tr.L (k + 1) = put1 (tr.T k) (tr.L k) := by simp [Tr.L, List.range_succ]
theorem Tr.L_ok {k : Nat} (hk : k ≤ all.size) : logOk all (tr.L k) = true := by
  have key : ∀ d, d ≤ all.size → logOk all (tr.L (all.size - d)) = true := by
    intro d
    induction d with
    | zero => intro _; exact tr.log
    | succ d ih =>
      intro hd
      have := ih (by omega)
      rw [show all.size - d = (all.size - (d + 1)) + 1 by omega, tr.L_succ] at this
      unfold put1 at this
      split at this
      · exact this
      · simp only [logOk, Bool.and_eq_true] at this; exact this.2
  have := key (all.size - k) (by omega)
  rwa [show all.size - (all.size - k) = k by omega] at this
def silent (t : Touch) : Bool := t.reads.isEmpty && t.writes.isEmpty && !t.loud
theorem Tr.L_mem {j : Nat} (hs : silent (tr.T j) = false) : ∀ k, j < k → tr.T j ∈ tr.L k := by
  intro k
  induction k with
  | zero => intro h; omega
  | succ k ih =>
    intro h
    rw [tr.L_succ]
    by_cases hjk : j = k
    · subst hjk
      have : put1 (tr.T j) (tr.L j) = tr.T j :: tr.L j := by unfold put1; simp only [silent] at hs; rw [if_neg (by rw [hs]; simp)]
      rw [this]; exact List.mem_cons_self ..
    · have := ih (by omega)
      unfold put1
      split
      · exact this
      · exact List.mem_cons_of_mem _ this

theorem meets_of {a b : List Nat} {x : Nat} (h1 : a.contains x = true) (h2 : b.contains x = true) : meets a b = true := by
  unfold meets
  rw [List.any_eq_true]
  exact ⟨x, by simpa using h1, h2⟩
theorem any_of {a : List Nat} {p : Nat → Bool} {x : Nat} (h : a.contains x = true) (hp : p x = false) : (a.any fun y => !p y) = true := by
  rw [List.any_eq_true]
  exact ⟨x, by simpa using h, by simp [hp]⟩
theorem some_of {a : List Nat} {x : Nat} (h : a.contains x = true) : (!a.isEmpty) = true := by
  cases a with
  | nil => simp at h
  | cons _ _ => rfl
theorem clash_of {s t : Touch} {b : Nat} (h1 : touched s b = true) (h2 : written t b = true) : clash s t = true ∧ clash t s = true := by
  unfold touched at h1
  unfold written at h2
  simp only [Bool.or_eq_true, Bool.and_eq_true, Bool.not_eq_true'] at h1 h2
  unfold clash
  rcases h1 with (h1 | h1) | h1 <;> rcases h2 with ⟨h2, h3⟩ | h2
  · simp [h1, h2]
  · have := some_of h2; simp [h1, this]
  · have := any_of h1 h3; simp [h2, this]
  · have := meets_of h1 h2; have := meets_of h2 h1; simp [*]
  · have := some_of h1; simp [h2, this]
  · have := meets_of h1 h2; have := meets_of h2 h1; simp [*]
theorem loud_of {t : Touch} {b : Nat} (h : touched t b = true) : silent t = false := by
  unfold touched at h
  unfold silent
  simp only [Bool.or_eq_true] at h
  rcases h with (h | h) | h
  · simp [h]
  · cases hq : t.reads with
    | nil => rw [hq] at h; simp at h
    | cons _ _ => simp
  · cases hq : t.writes with
    | nil => rw [hq] at h; simp at h
    | cons _ _ => simp
theorem touched_of {t : Touch} {b : Nat} (h : written t b = true) : touched t b = true := by
  unfold written at h; unfold touched
  simp only [Bool.or_eq_true, Bool.and_eq_true] at h ⊢
  rcases h with h | h
  · exact .inl (.inl h.1)
  · exact .inr h

theorem Tr.order {j k : Nat} (hjk : j < k) (hk : k < all.size) {b : Nat} (h : (touched (tr.T k) b = true ∧ written (tr.T j) b = true) ∨ (written (tr.T k) b = true ∧ touched (tr.T j) b = true)) : prec all all.size j k = true := by
  have hcl : clash (tr.T j) (tr.T k) = true ∧ silent (tr.T j) = false ∧ silent (tr.T k) = false := by
    rcases h with ⟨h1, h2⟩ | ⟨h1, h2⟩
    · exact ⟨(clash_of h1 h2).2, loud_of (touched_of h2), loud_of h1⟩
    · exact ⟨(clash_of h2 h1).1, loud_of h2, loud_of (touched_of h1)⟩
  have hok := tr.L_ok (k := k + 1) (by omega)
  rw [tr.L_succ] at hok
  have : put1 (tr.T k) (tr.L k) = tr.T k :: tr.L k := by unfold put1; have := hcl.2.2; simp only [silent] at this; rw [if_neg (by rw [this]; simp)]
  rw [this] at hok
  simp only [logOk, Bool.and_eq_true, List.all_eq_true] at hok
  have := hok.1 _ (tr.L_mem hcl.2.1 k hjk)
  rw [hcl.1, tr.at_ (by omega), tr.at_ hk] at this
  simpa using this

/-! ### what lies where -/
structure Tr.Ok : Prop where
  mono : ∀ k, k < all.size → (tr.Hs k).length ≤ (tr.Hs (k + 1)).length
  same : ∀ k, k < all.size → ∀ b, b < (tr.Hs k).length → written (tr.T k) b = false → (tr.Hs (k + 1))[b]? = (tr.Hs k)[b]?
  fresh : ∀ k, k < all.size → ∀ b, (tr.Hs k).length ≤ b → b < (tr.Hs (k + 1)).length → written (tr.T k) b = true

theorem Tr.Ok.le {tr : Tr C call ns all env0 H0} (ok : tr.Ok) {j : Nat} : ∀ k, j ≤ k → k ≤ all.size → (tr.Hs j).length ≤ (tr.Hs k).length := by
  intro k
  induction k with
  | zero => intro h _; rw [show j = 0 by omega]; exact Nat.le_refl _
  | succ k ih =>
    intro h hk
    by_cases hjk : j = k + 1
    · rw [hjk]; exact Nat.le_refl _
    · exact Nat.le_trans (ih (by omega) (by omega)) (ok.mono k (by omega))

def Tr.stAt (S : Nat → Bool) (b : Nat) : Nat → Option Blk
  | 0 => (tr.Hs 0)[b]?
  | j + 1 => if S j = true ∧ (written (tr.T j) b = true ∨ (tr.Hs j).length ≤ b) then (tr.Hs (j + 1))[b]? else Tr.stAt S b j

variable {tr}
theorem Tr.stAt_top (ok : tr.Ok) {S : Nat → Bool} (hS : ∀ k, k < all.size → S k = true) (b : Nat) : ∀ k, k ≤ all.size → tr.stAt S b k = (tr.Hs k)[b]? := by
  intro k
  induction k with
  | zero => intro _; rfl
  | succ k ih =>
    intro hk
    simp only [Tr.stAt]
    split
    · rfl
    · rename_i hc
      rw [ih (by omega)]
      have h1 : written (tr.T k) b = false := by
        cases hq : written (tr.T k) b with
        | false => rfl
        | true => exact absurd ⟨hS k (by omega), .inl hq⟩ hc
      have h2 : b < (tr.Hs k).length := by
        rcases Nat.lt_or_ge b (tr.Hs k).length with h | h
        · exact h
        · exact absurd ⟨hS k (by omega), .inr h⟩ hc
      exact (ok.same k (by omega) b h2 h1).symm
theorem Tr.stAt_high (ok : tr.Ok) (S : Nat → Bool) (b : Nat) : ∀ k, k ≤ all.size → (tr.Hs k).length ≤ b → tr.stAt S b k = none := by
  intro k
  induction k with
  | zero => intro _ h; exact List.getElem?_eq_none h
  | succ k ih =>
    intro hk h
    simp only [Tr.stAt]
    split
    · exact List.getElem?_eq_none h
    · exact ih (by omega) (Nat.le_trans (ok.mono k (by omega)) h)

/-- ahead of k -/
theorem Tr.stAt_ahead (ok : tr.Ok) {S : Nat → Bool} (hS : Closed all S) {k : Nat} (hr : Ready all S k) (hk : k < all.size) {b : Nat} (ht : touched (tr.T k) b = true) :
    ∀ j, j ≤ k → tr.stAt S b j = (tr.Hs j)[b]? := by
  intro j
  induction j with
  | zero => intro _; rfl
  | succ j ih =>
    intro hj
    simp only [Tr.stAt]
    split
    · rfl
    · rename_i hc
      rw [ih (by omega)]
      cases hw : written (tr.T j) b with
      | true =>
        have := prec_ready hS (tr.order (by omega) hk (.inl ⟨ht, hw⟩)) hr
        exact absurd ⟨this, .inl hw⟩ hc
      | false =>
        rcases Nat.lt_or_ge b (tr.Hs j).length with hb | hb
        · exact (ok.same j (by omega) b hb hw).symm
        · rw [List.getElem?_eq_none hb]
          rcases Nat.lt_or_ge b (tr.Hs (j + 1)).length with hb2 | hb2
          · rw [ok.fresh j (by omega) b hb hb2] at hw; cases hw
          · rw [List.getElem?_eq_none hb2]

/-- behind k -/
theorem Tr.stAt_behind (ok : tr.Ok) {S : Nat → Bool} (hS : Closed all S) {k : Nat} (hk : k < all.size) (hSk : S k = false) {b : Nat} (ht : touched (tr.T k) b = true) {S' : Nat → Bool} (hS' : ∀ j, j ≠ k → S' j = S j) {i : Nat} (hki : k + 1 ≤ i) (hb : b < (tr.Hs i).length) :
    ∀ j, i ≤ j → j ≤ all.size → tr.stAt S' b j = tr.stAt S' b i := by
  intro j
  induction j with
  | zero => intro h _; rw [show i = 0 by omega]
  | succ j ih =>
    intro hj hn
    by_cases hij : i = j + 1
    · rw [hij]
    · rw [← ih (by omega) (by omega)]
      conv => lhs; simp only [Tr.stAt]
      rw [if_neg]
      rintro ⟨h1, h2⟩
      rw [hS' j (by omega)] at h1
      rcases h2 with h2 | h2
      · have := prec_closed hS (tr.order (j := k) (k := j) (by omega) (by omega) (.inr ⟨h2, ht⟩)) h1
        rw [hSk] at this; cases this
      · have := ok.le (j := i) j (by omega) (by omega); omega

theorem Tr.agree (ok : tr.Ok) {S : Nat → Bool} (hS : Closed all S) {k : Nat} (hr : Ready all S k) (hk : k < all.size) (hSk : S k = false) {b : Nat} (ht : touched (tr.T k) b = true) (hb : b < (tr.Hs k).length) :
    tr.stAt S b all.size = (tr.Hs k)[b]? := by
  rw [tr.stAt_behind ok hS hk hSk ht (fun _ _ => rfl) (i := k + 1) (Nat.le_refl _) (Nat.lt_of_lt_of_le hb (ok.mono k hk)) all.size (by omega) (Nat.le_refl _)]
  simp only [Tr.stAt, hSk, Bool.false_eq_true, false_and, if_false]
  exact tr.stAt_ahead ok hS hr hk ht k (Nat.le_refl _)

theorem Tr.stAt_congr {S S' : Nat → Bool} {b : Nat} : ∀ k, (∀ j, j < k → S' j = S j) → tr.stAt S' b k = tr.stAt S b k := by
  intro k
  induction k with
  | zero => intro _; rfl
  | succ k ih =>
    intro h
    simp only [Tr.stAt, h k (by omega), ih fun j hj => h j (by omega)]

theorem Tr.update (ok : tr.Ok) {S : Nat → Bool} (hS : Closed all S) {k : Nat} (hr : Ready all S k) (hk : k < all.size) (hSk : S k = false) {S' : Nat → Bool} (hS' : ∀ j, j ≠ k → S' j = S j) (hSk' : S' k = true) (b : Nat) :
    tr.stAt S' b all.size = if b < (tr.Hs (k + 1)).length ∧ up (touched (tr.T k)) (tr.Hs k).length b = true then (tr.Hs (k + 1))[b]? else tr.stAt S b all.size := by
  split
  · rename_i hc
    obtain ⟨hb, hu⟩ := hc
    have ht : touched (tr.T k) b = true := by
      simp only [up, Bool.or_eq_true, decide_eq_true_eq] at hu
      rcases hu with h | h
      · exact h
      · exact touched_of (ok.fresh k hk b h hb)
    rw [tr.stAt_behind ok hS hk hSk ht hS' (i := k + 1) (Nat.le_refl _) hb all.size (by omega) (Nat.le_refl _)]
    simp only [Tr.stAt]
    split
    · rfl
    · rename_i hc
      have h1 : written (tr.T k) b = false := by
        cases hq : written (tr.T k) b with
        | false => rfl
        | true => exact absurd ⟨hSk', .inl hq⟩ hc
      have h2 : b < (tr.Hs k).length := by
        rcases Nat.lt_or_ge b (tr.Hs k).length with h | h
        · exact h
        · exact absurd ⟨hSk', .inr h⟩ hc
      rw [tr.stAt_congr k (fun j hj => hS' j (by omega)), tr.stAt_ahead ok hS hr hk ht k (Nat.le_refl _), ok.same k hk b h2 h1]
  · rename_i hc
    have key : ∀ j, j ≤ all.size → tr.stAt S' b j = tr.stAt S b j := by
      intro j
      induction j with
      | zero => intro _; rfl
      | succ j ih =>
        intro hj
        by_cases hjk : j = k
        · subst hjk
          rcases Nat.lt_or_ge b (tr.Hs (j + 1)).length with hb | hb
          · have hu : up (touched (tr.T j)) (tr.Hs j).length b = false := by
              cases hq : up (touched (tr.T j)) (tr.Hs j).length b with
              | false => rfl
              | true => exact absurd ⟨hb, hq⟩ hc
            simp only [up, Bool.or_eq_false_iff, decide_eq_false_iff_not] at hu
            have hw : written (tr.T j) b = false := by
              cases hq : written (tr.T j) b with
              | false => rfl
              | true => rw [touched_of hq] at hu; cases hu.1
            simp only [Tr.stAt, hw, hSk, hu.2, Bool.false_eq_true, false_or, and_false, if_false, false_and]
            exact ih (by omega)
          · rw [tr.stAt_high ok S' b _ hj hb, tr.stAt_high ok S b _ hj hb]
        · simp only [Tr.stAt, hS' j hjk, ih (by omega)]
    exact key _ (Nat.le_refl _)

theorem Tr.unmade (ok : tr.Ok) {S : Nat → Bool} (hS : Closed all S) {k : Nat} (hk : k < all.size) (hSk : S k = false) {b : Nat} (h1 : (tr.Hs k).length ≤ b) (h2 : b < (tr.Hs (k + 1)).length) : tr.stAt S b all.size = none := by
  rw [tr.stAt_behind ok hS hk hSk (touched_of (ok.fresh k hk b h1 h2)) (fun _ _ => rfl) (i := k + 1) (Nat.le_refl _) h2 all.size (by omega) (Nat.le_refl _)]
  simp only [Tr.stAt, hSk, Bool.false_eq_true, false_and, if_false]
  exact tr.stAt_high ok S b k (by omega) h1

/-! ### what the slots hold -/
variable (tr)
def Tr.dst (_ : Tr C call ns all env0 H0) (j : Nat) : Option Tmp := (all[j]?).bind (·.dst)
def Tr.tmAt (S : Nat → Bool) (t : Nat) : Nat → AV
  | 0 => ((tr.E 0)[t]?).getD .undef
  | j + 1 => if S j = true ∧ tr.dst j = some t then tr.V j else Tr.tmAt S t j
variable {tr}

theorem Tr.elen : ∀ k, k ≤ all.size → (tr.E k).length = env0.length := by
  intro k
  induction k with
  | zero => intro _; rw [tr.e0]
  | succ k ih =>
    intro hk
    rw [tr.env k _ (Array.getElem?_eq_getElem (by omega)), ← ih (by omega)]
    unfold putE; split <;> simp

theorem Tr.e_succ {k : Nat} (hk : k < all.size) {t : Nat} (ht : t < env0.length) : (tr.E (k + 1))[t]? = if tr.dst k = some t then some (tr.V k) else (tr.E k)[t]? := by
  have ho : all[k]? = some all[k] := Array.getElem?_eq_getElem hk
  rw [tr.env k _ ho]
  have hd : tr.dst k = all[k].dst := by simp [Tr.dst, ho]
  rw [hd]
  unfold putE
  split
  · rename_i d hq
    rw [List.getElem?_set, hq]
    by_cases hdt : d = t
    · subst hdt
      rw [if_pos rfl, if_pos (by rw [tr.elen k (by omega)]; exact ht), if_pos rfl]
    · rw [if_neg hdt, if_neg (by simpa using hdt)]
  · rename_i hq
    rw [hq]; simp

theorem Tr.tm_top {S : Nat → Bool} (hS : ∀ k, k < all.size → S k = true) {t : Nat} (ht : t < env0.length) : ∀ k, k ≤ all.size → tr.tmAt S t k = ((tr.E k)[t]?).getD .undef := by
  intro k
  induction k with
  | zero => intro _; rfl
  | succ k ih =>
    intro hk
    simp only [Tr.tmAt, hS k (by omega), true_and]
    rw [tr.e_succ (by omega) ht]
    split
    · rfl
    · exact ih (by omega)

theorem Tr.tm_agree (hreg : regOk all = true) {S : Nat → Bool} (hS : Closed all S) {k : Nat} (hr : Ready all S k) (hk : k < all.size) (hSk : S k = false) {o : Oper} (ho : all[k]? = some o) {t : Nat} (ht : t < env0.length) (hl : t ∈ o.looksAt all) :
    tr.tmAt S t all.size = ((tr.E k)[t]?).getD .undef := by
  have ahead : ∀ j, j ≤ k → tr.tmAt S t j = ((tr.E j)[t]?).getD .undef := by
    intro j
    induction j with
    | zero => intro _; rfl
    | succ j ih =>
      intro hj
      simp only [Tr.tmAt]
      rw [tr.e_succ (by omega) ht]
      by_cases hd : tr.dst j = some t
      · have hoj : all[j]? = some all[j] := Array.getElem?_eq_getElem (by omega)
        have hdj : all[j].dst = some t := by simpa [Tr.dst, hoj] using hd
        have hSj : S j = true := by
          rcases regOk_pair hreg (show j < k by omega) hoj ho with h | h
          · exact bit_ready hreg hS ho h hr
          · exact absurd hl ((Oper.apart_spec h).1 t hdj)
        rw [if_pos ⟨hSj, hd⟩, if_pos hd]; rfl
      · rw [if_neg (fun h => hd h.2), if_neg hd]
        exact ih (by omega)
  have behind : ∀ j, k ≤ j → j ≤ all.size → tr.tmAt S t j = tr.tmAt S t k := by
    intro j
    induction j with
    | zero => intro h _; rw [show k = 0 by omega]
    | succ j ih =>
      intro hj hn
      by_cases hkj : k = j + 1
      · rw [hkj]
      · rw [← ih (by omega) (by omega)]
        conv => lhs; simp only [Tr.tmAt]
        rw [if_neg]
        rintro ⟨h1, h2⟩
        by_cases hjk : j = k
        · subst hjk; rw [hSk] at h1; cases h1
        · have hoj : all[j]? = some all[j] := Array.getElem?_eq_getElem (by omega)
          have hdj : all[j].dst = some t := by simpa [Tr.dst, hoj] using h2
          rcases regOk_pair hreg (show k < j by omega) ho hoj with h | h
          · have := bit_closed hreg hS j (by omega) h h1; rw [hSk] at this; cases this
          · exact absurd hl ((Oper.apart_spec h).2.2 t hdj)
  rw [behind all.size (by omega) (Nat.le_refl _)]
  exact ahead k (Nat.le_refl _)

theorem Tr.tm_update (hreg : regOk all = true) {S : Nat → Bool} (hS : Closed all S) {k : Nat} (hk : k < all.size) (hSk : S k = false) {S' : Nat → Bool} (hS' : ∀ j, j ≠ k → S' j = S j) (hSk' : S' k = true) (t : Nat) :
    tr.tmAt S' t all.size = if tr.dst k = some t then tr.V k else tr.tmAt S t all.size := by
  have ho : all[k]? = some all[k] := Array.getElem?_eq_getElem hk
  have low : ∀ j, j ≤ k → tr.tmAt S' t j = tr.tmAt S t j := by
    intro j
    induction j with
    | zero => intro _; rfl
    | succ j ih => intro hj; simp only [Tr.tmAt, hS' j (by omega), ih (by omega)]
  split
  · rename_i hd
    have hdk : all[k].dst = some t := by simpa [Tr.dst, ho] using hd
    have behind : ∀ j, k + 1 ≤ j → j ≤ all.size → tr.tmAt S' t j = tr.V k := by
      intro j
      induction j with
      | zero => intro h _; omega
      | succ j ih =>
        intro hj hn
        by_cases hkj : j = k
        · subst hkj; simp only [Tr.tmAt]; rw [if_pos ⟨hSk', hd⟩]
        · simp only [Tr.tmAt]
          rw [if_neg]
          · exact ih (by omega) (by omega)
          · rintro ⟨h1, h2⟩
            rw [hS' j hkj] at h1
            have hoj : all[j]? = some all[j] := Array.getElem?_eq_getElem (by omega)
            have hdj : all[j].dst = some t := by simpa [Tr.dst, hoj] using h2
            rcases regOk_pair hreg (show k < j by omega) ho hoj with h | h
            · have := bit_closed hreg hS j (by omega) h h1; rw [hSk] at this; cases this
            · exact (Oper.apart_spec h).2.1 t hdk hdj
    exact behind _ (by omega) (Nat.le_refl _)
  · rename_i hd
    have key : ∀ j, j ≤ all.size → tr.tmAt S' t j = tr.tmAt S t j := by
      intro j
      induction j with
      | zero => intro _; rfl
      | succ j ih =>
        intro hj
        by_cases hjk : j = k
        · subst hjk
          simp only [Tr.tmAt]
          rw [if_neg (fun h => hd h.2), if_neg (fun h => hd h.2)]
          exact ih (by omega)
        · simp only [Tr.tmAt, hS' j hjk, ih (by omega)]
    exact key _ (Nat.le_refl _)
end

end Go.Vi
end SViDrawD
section SViDrawE
/- Regions whose order is open: all orders come to the same. -/
namespace Go.Vi
open Go
variable [Glob]

theorem wp_some {P : Program} {o : Oper} {a : Act} {w : World} {K : Act → World → Prop} (h : o.wp P a w K (fun _ _ _ => False)) : ∃ a' w', K a' w' := by
  unfold Oper.wp at h
  generalize (execOp a.eval o).run P w = r at h
  cases r with
  | ok n w' =>
    cases n <;> simp only [Oper.upon] at h
    case value v => exact ⟨_, _, h⟩
    case skip => exact ⟨_, _, h⟩
    case defer d => exact ⟨_, _, h⟩
    case enter f args =>
      obtain ⟨e, w'', hR⟩ := calls_some h
      cases e with
      | returned v => exact ⟨_, _, hR⟩
      | panicked c => exact hR.elim
      | outgrown => obtain ⟨_, _, hq⟩ := hR; exact hq.elim
    case row row args =>
      obtain ⟨v, w'', hR, _⟩ := h default []
      exact ⟨_, _, hR⟩
    all_goals exact h.elim
  | halt x w' =>
    cases x <;> simp only [Oper.upon] at h

section
variable {C : Cfg} {call : Callee'} {ns : List Nat} {all : Array Oper} {env0 : Env} {H0 : Heap} {tr : Tr C call ns all env0 H0}

theorem Tr.step_st (hcall : CallOk C.P call) {B k : Nat} (hk : k < all.size) {M : Mem} {a : Act} {w : World} (st : St B ns M (tr.Hs k) (tr.E k) a w) :
    ∃ M' a' w', St B ns M' (tr.Hs (k + 1)) (tr.E (k + 1)) a' w' ∧ Moved B M (tr.Hs k) M' (tr.Hs (k + 1)) ∧ HS ns (tr.Hs k) (tr.Hs (k + 1)) := by
  have ho : all[k]? = some all[k] := Array.getElem?_eq_getElem hk
  rw [tr.env k _ ho]
  rcases tr.step k _ ho with ⟨_, hop, _⟩ | ⟨_, hv, hH, _⟩
  · obtain ⟨hs, hwp⟩ := aoper_wp hcall st hop (fun _ _ _ => False)
    obtain ⟨a', w', x, M', m, hx, rfl, rfl⟩ := wp_some (hwp (fun a' w' => ∃ x M', Moved B M (tr.Hs k) M' (tr.Hs (k + 1)) ∧ VR M' (tr.V k) x ∧ a' = a.put all[k].dst x ∧ w' = M'.w) (fun x M' m hx => ⟨x, M', m, hx, rfl, rfl⟩))
    exact ⟨M', _, _, st.next m hs _ hx, m, hs⟩
  · rw [hv, hH]
    have hu : VR M (.tup []) undef := .tup [] [] rfl (fun _ _ _ h => by simp at h)
    exact ⟨M, _, _, st.next (Moved.refl st.hr) (HS.refl ns _) all[k].dst hu, Moved.refl st.hr, HS.refl ns _⟩

theorem Tr.st (hcall : CallOk C.P call) {B : Nat} {M0 : Mem} {a0 : Act} {w0 : World} (st0 : St B ns M0 H0 env0 a0 w0) : ∀ k, k ≤ all.size → ∃ M a w, St B ns M (tr.Hs k) (tr.E k) a w ∧ Moved B M0 H0 M (tr.Hs k) ∧ HS ns H0 (tr.Hs k) := by
  intro k
  induction k with
  | zero => intro _; rw [tr.h0, tr.e0]; exact ⟨M0, a0, w0, st0, Moved.refl st0.hr, HS.refl ns H0⟩
  | succ k ih =>
    intro hk
    obtain ⟨M, a, w, st, m, hs⟩ := ih (by omega)
    obtain ⟨M', a', w', st', m', hs'⟩ := tr.step_st hcall (by omega) st
    exact ⟨M', a', w', st', m.trans m', hs.trans hs'⟩

theorem Tr.ok (hcall : CallOk C.P call) (hloc : CallLoc C call) {B : Nat} {M0 : Mem} {a0 : Act} {w0 : World} (st0 : St B ns M0 H0 env0 a0 w0) : tr.Ok := by
  have loc : ∀ k, k < all.size → (∀ b, b < (tr.Hs k).length → written (tr.T k) b = false → (tr.Hs (k + 1))[b]? = (tr.Hs k)[b]?) ∧ (∀ b, (tr.Hs k).length ≤ b → b < (tr.Hs (k + 1)).length → written (tr.T k) b = true) := by
    intro k hk
    have ho : all[k]? = some all[k] := Array.getElem?_eq_getElem hk
    rcases tr.step k _ ho with ⟨_, hop, hT⟩ | ⟨_, _, hH, hT⟩
    · obtain ⟨_, h2, h3⟩ := aoper_loc hloc hop k
      rw [hT]; exact ⟨h2, h3⟩
    · rw [hH]; exact ⟨fun _ _ _ => rfl, fun b h1 h2 => by omega⟩
  refine ⟨fun k hk => ?_, fun k hk => (loc k hk).1, fun k hk => (loc k hk).2⟩
  obtain ⟨M, a, w, st, _, _⟩ := tr.st hcall st0 k (by omega)
  obtain ⟨_, _, _, _, _, hs⟩ := tr.step_st hcall hk st
  exact hs.len

theorem Step.trans' {B : Nat} {M M1 M2 : Mem} {H H1 : Heap} (h : Step B M H M1) (ho : ∀ b x g, H1[b]? = some x → gOf M1 b x = some g → M.w.heap.size ≤ g ∨ ∃ x0, H[b]? = some x0 ∧ gOf M b x0 = some g) (h' : Step B M1 H1 M2) : Step B M H M2 := by
  refine ⟨h.ext.trans h'.ext, h.below.trans h'.below, fun g hg hn => ?_⟩
  obtain ⟨h1, h2⟩ := h.frame g hg hn
  have hn1 : ∀ b x, H1[b]? = some x → gOf M1 b x ≠ some g := by
    intro b x hx he
    rcases ho b x g hx he with h3 | ⟨x0, h3, h4⟩
    · omega
    · exact hn b x0 h3 h4
  obtain ⟨h3, h4⟩ := h'.frame g (Nat.lt_of_lt_of_le hg h.ext.size) hn1
  exact ⟨h3.trans h1, fun o => (h4 o).trans (h2 o)⟩
theorem Glued.trans {B : Nat} {M M1 M2 : Mem} {H H1 H2 : Heap} (h : Glued B M H M1 H1) (h' : Glued B M1 H1 M2 H2) : Glued B M H M2 H2 :=
  ⟨h'.hr, h.step.trans' h.onto h'.step, fun b x g hx hg => by
    rcases h'.onto b x g hx hg with h1 | ⟨x0, h1, h2⟩
    · exact .inl (Nat.le_trans h.step.ext.size h1)
    · exact h.onto b x0 g h1 h2⟩

variable (tr)
structure DInv (B : Nat) (M0 : Mem) (S : Nat → Bool) (a : Act) (w : World) (MS : Mem) (HP : Heap) : Prop where
  glued : Glued B M0 H0 MS HP
  hw : MS.w = w
  hd : a.defers = []
  size : a.tmps.size = env0.length
  len : HP.length = (tr.Hs all.size).length
  heap : ∀ b, b < HP.length → HP[b]? = some ((tr.stAt S b all.size).getD .dead)
  un : ∀ k, k < all.size → S k = false → ∀ b, (tr.Hs k).length ≤ b → b < (tr.Hs (k + 1)).length → ∀ v, MS.σ b v = none
  tmps : ∀ t x, a.tmps[t]? = some x → VR MS (tr.tmAt S t all.size) x
  deadσ : ∀ b, H0[b]? = some .dead → ∀ v, MS.σ b v = M0.σ b v
variable {tr}

def envMask (ls : List Tmp) (env : Env) : Env := env.mapIdx fun t v => if ls.contains t then v else .undef
theorem ev_mask {ls : List Tmp} {env : Env} {x : Operand} (h : ∀ t, x = .tmp t → t ∈ ls) : ev (envMask ls env) x = ev env x := by
  cases x with
  | tmp t =>
    have ht := h t rfl
    simp only [ev, envMask, List.getElem?_mapIdx]
    cases hq : env[t]? with
    | none => rfl
    | some v => simp [ht]
  | _ => rfl
theorem want_mask {ops : Array Oper} {o : Oper} {env : Env} : wantE ops (envMask (o.looksAt ops) env) o = wantE ops env o := by
  unfold wantE
  split
  · rfl
  · rename_i g want hg
    split
    · rename_i t ht
      have hl : t ∈ o.looksAt ops := by simp [Oper.looksAt, hg, ht]
      have : (envMask (o.looksAt ops) env)[t]? = env[t]? := by
        simp only [envMask, List.getElem?_mapIdx]
        cases hq : env[t]? with
        | none => rfl
        | some v => simp [hl]
      rw [this]
    · rfl

theorem draw_step (hcall : CallOk C.P call) (hloc : CallLoc C call) (hreg : regOk all = true) {B : Nat} {M0 : Mem} {a0 : Act} {w0 : World} (st0 : St B ns M0 H0 env0 a0 w0) {S : Nat → Bool} (hS : Closed all S) {k : Nat} (hk : k < all.size) (hr : Ready all S k) (hSk : S k = false)
    {S' : Nat → Bool} (hS' : ∀ j, j ≠ k → S' j = S j) (hSk' : S' k = true) {a : Act} {w : World} {MS : Mem} {HP : Heap} (inv : DInv tr B M0 S a w MS HP) {Q : Exit → Act → World → Prop} {K : Act → World → Prop} (hK : ∀ a' w' MS' HP', DInv tr B M0 S' a' w' MS' HP' → K a' w') :
    wpOp C.P all Q k K a w := by
  have ok : tr.Ok := tr.ok hcall hloc st0
  obtain ⟨Mk, ak, wk, stk, mk, hsk⟩ := tr.st hcall st0 k (by omega)
  have ho : all[k]? = some all[k] := Array.getElem?_eq_getElem hk
  obtain ⟨gl, rfl, hd, hsz, hlen, hheap, hun, htm, hdead⟩ := inv
  have hmono := ok.mono k hk
  have hN : (tr.Hs (k + 1)).length ≤ HP.length := by rw [hlen]; exact ok.le _ (by omega) (Nat.le_refl _)
  have hag : ∀ b, b < (tr.Hs k).length → touched (tr.T k) b = true → HP[b]? = (tr.Hs k)[b]? := by
    intro b hb ht
    rw [hheap b (by omega), tr.agree ok hS hr hk hSk ht hb, List.getElem?_eq_getElem hb]; rfl
  have hB : B ≤ MS.w.heap.size := Nat.le_trans st0.hB gl.step.ext.size
  have hmask := hr_mask gl.hr hag stk.hr.clean
  have hls : ∀ x ∈ all[k].op.operands.toList, ∀ t, x = .tmp t → t ∈ all[k].looksAt all := by
    intro x hx t ht
    subst ht
    simp only [Oper.looksAt, List.mem_append, List.mem_filterMap]
    exact .inl ⟨_, hx, rfl⟩
  have henv : EnvR (MS.below (tr.Hs k).length) (envMask (all[k].looksAt all) (tr.E k)) a := by
    refine ⟨by simp [envMask, tr.elen k (by omega), hsz], fun t v x hv hx => ?_⟩
    simp only [envMask, List.getElem?_mapIdx, Option.map_eq_some_iff] at hv
    obtain ⟨u, hu, rfl⟩ := hv
    split
    · rename_i hc
      have htl : t < env0.length := by rw [← tr.elen k (by omega)]; exact (List.getElem?_eq_some_iff.1 hu).1
      have h1 := htm t x hx
      rw [tr.tm_agree hreg hS hr hk hSk ho htl (by simpa using hc), hu] at h1
      have htk : t < ak.tmps.size := by rw [← stk.he.1]; exact (List.getElem?_eq_some_iff.1 hu).1
      exact VR.forget _ h1 ((stk.he.2 t u _ hu (Array.getElem?_eq_getElem htk)).refs stk.hr.dom)
    · exact .undef x
  have hcln : ∀ n ∈ ns, Clean n (maskH (touched (tr.T k)) (tr.Hs k)) := by
    intro n hn b cs hb hq
    rw [mask_get, Option.map_eq_some_iff] at hq
    obtain ⟨y, hy, hq⟩ := hq
    split at hq
    · subst hq; exact stk.hcl n hn b cs hb hy
    · cases hq
  have stM : St B ns (MS.below (tr.Hs k).length) (maskH (touched (tr.T k)) (tr.Hs k)) (envMask (all[k].looksAt all) (tr.E k)) a MS.w :=
    ⟨hmask, hB, henv, rfl, hd, fun n hn => by rw [mask_len]; exact stk.hns n hn, hcln⟩
  have hud : ∀ b, (tr.Hs k).length ≤ b → b < (tr.Hs (k + 1)).length → HP[b]? = some .dead := by
    intro b h1 h2
    rw [hheap b (by omega), tr.unmade ok hS hk hSk h1 h2]; rfl
  have hdk : ∀ b, H0[b]? = some Blk.dead → (tr.Hs k)[b]? = some Blk.dead := fun b hb => (mk.onto.dead b hb).1
  unfold wpOp
  rw [ho]
  simp only
  rcases tr.step k _ ho with ⟨hw, hop, hT⟩ | ⟨hw, hv, hH, hT⟩
  · have hwm : wantE all (envMask (all[k].looksAt all) (tr.E k)) all[k] = some true := by rw [want_mask]; exact hw
    rw [if_pos (wantE_ok henv hwm)]
    obtain ⟨hopM, _, _⟩ := aoper_loc hloc hop k
    rw [← hT] at hopM
    rw [aoper_env (env' := envMask (all[k].looksAt all) (tr.E k)) (fun x hx => (ev_mask (hls x hx)).symm)] at hopM
    obtain ⟨_, hwp⟩ := aoper_wp hcall stM hopM Q
    refine .inl (hwp K fun x Mh m hx => ?_)
    obtain ⟨g1, g2, g3⟩ := glue gl.hr hag hmono hN (fun b h1 h2 => hun k hk hSk b h1 h2) hud m
    have hVR : VR (MS.glue Mh (tr.Hs (k + 1)).length) (tr.V k) x := hx.ext g2
    refine hK _ _ (MS.glue Mh (tr.Hs (k + 1)).length) (HSn HP (tr.Hs (k + 1)) (tr.Hs k).length (tr.Hs (k + 1)).length (touched (tr.T k))) ⟨gl.trans g1, rfl, ?_, ?_, by rw [HSn_len]; exact hlen, ?_, ?_, ?_, ?_⟩
    · cases all[k].dst <;> exact hd
    · cases all[k].dst <;> simpa [Act.put] using hsz
    · intro b hb
      rw [HSn_len] at hb
      rw [HSn_get, hheap b hb, tr.update ok hS hr hk hSk hS' hSk' b]
      simp only [Option.map_some]
      split <;> rfl
    · intro j hj hSj b h1 h2 v
      have hjk : j ≠ k := fun e => by subst e; rw [hSk'] at hSj; cases hSj
      rw [hS' j hjk] at hSj
      by_cases hb : b < (tr.Hs (k + 1)).length
      · by_cases hbk : b < (tr.Hs k).length
        · have ht : touched (tr.T k) b = false := by
            cases hq : touched (tr.T k) b with
            | false => rfl
            | true =>
              have hjlt : j < k := by
                rcases Nat.lt_or_ge j k with h | h
                · exact h
                · have := ok.le (j := k) j h (by omega); omega
              have := prec_ready hS (tr.order hjlt hk (.inl ⟨hq, ok.fresh j hj b h1 h2⟩)) hr
              rw [hSj] at this; cases this
          rw [g3 b v hbk ht]
          exact hun j hj hSj b h1 h2 v
        · exfalso
          rcases Nat.lt_trichotomy j k with h | h | h
          · have := ok.le (j := j + 1) k (by omega) (by omega); omega
          · exact hjk h
          · have := ok.le (j := k + 1) j (by omega) (by omega); omega
      · have : (MS.glue Mh (tr.Hs (k + 1)).length).σ b v = MS.σ b v := by simp [Mem.glue, hb]
        rw [this]; exact hun j hj hSj b h1 h2 v
    · intro t y hy
      rw [tr.tm_update hreg hS hk hSk hS' hSk' t]
      have hdst : tr.dst k = all[k].dst := by simp [Tr.dst, ho]
      rw [hdst]
      by_cases hdt : all[k].dst = some t
      · rw [if_pos hdt]
        rw [hdt] at hy
        simp only [Act.put, Array.getElem?_setIfInBounds] at hy
        simp only [if_true] at hy
        split at hy
        · injection hy with hy; subst hy; exact hVR
        · cases hy
      · rw [if_neg hdt]
        have hy' : a.tmps[t]? = some y := by
          cases hq : all[k].dst with
          | none => rw [hq] at hy; exact hy
          | some d =>
            rw [hq] at hy hdt
            simp only [Act.put, Array.getElem?_setIfInBounds] at hy
            rwa [if_neg (by simpa using hdt)] at hy
        exact (htm t y hy').ext g1.step.ext
    · intro b hb v
      have hbk := hdk b hb
      have hlt := (List.getElem?_eq_some_iff.1 hbk).1
      have hmd : (maskH (touched (tr.T k)) (tr.Hs k))[b]? = some .dead := by rw [mask_get, hbk]; simp
      have h1 := (m.onto.dead b hmd).2 v
      have h2 : (MS.glue Mh (tr.Hs (k + 1)).length).σ b v = Mh.σ b v := by simp [Mem.glue, show b < (tr.Hs (k + 1)).length by omega]
      rw [h2, h1]
      simp only [Mem.below, hlt, if_true]
      exact hdead b hb v
  · have hwm : wantE all (envMask (all[k].looksAt all) (tr.E k)) all[k] = some false := by rw [want_mask]; exact hw
    rw [if_neg (by rw [wantE_ok henv hwm]; simp)]
    have hnot : ∀ b, touched (tr.T k) b = false := fun b => by rw [hT]; rfl
    refine hK _ _ MS HP ⟨gl, rfl, ?_, ?_, hlen, ?_, ?_, ?_, hdead⟩
    · cases all[k].dst <;> exact hd
    · cases all[k].dst <;> simpa [Act.put] using hsz
    · intro b hb
      rw [hheap b hb, tr.update ok hS hr hk hSk hS' hSk' b, if_neg]
      rintro ⟨h1, h2⟩
      rw [hH] at h1
      simp only [up, hnot, Bool.false_or, decide_eq_true_eq] at h2
      omega
    · intro j hj hSj b h1 h2 v
      have hjk : j ≠ k := fun e => by subst e; rw [hSk'] at hSj; cases hSj
      rw [hS' j hjk] at hSj
      exact hun j hj hSj b h1 h2 v
    · intro t y hy
      rw [tr.tm_update hreg hS hk hSk hS' hSk' t]
      have hdst : tr.dst k = all[k].dst := by simp [Tr.dst, ho]
      rw [hdst]
      by_cases hdt : all[k].dst = some t
      · rw [if_pos hdt, hv]
        rw [hdt] at hy
        simp only [Act.put, Array.getElem?_setIfInBounds] at hy
        simp only [if_true] at hy
        split at hy
        · injection hy with hy; subst hy; exact .tup [] [] rfl (fun _ _ _ h => by simp at h)
        · cases hy
      · rw [if_neg hdt]
        have hy' : a.tmps[t]? = some y := by
          cases hq : all[k].dst with
          | none => rw [hq] at hy; exact hy
          | some d =>
            rw [hq] at hy hdt
            simp only [Act.put, Array.getElem?_setIfInBounds] at hy
            rwa [if_neg (by simpa using hdt)] at hy
        exact htm t y hy'

theorem listed_all (hreg : regOk all = true) {listed : Array Bool} (hsz : listed.size = all.size) (h : Region.ready .any all listed = []) : ∀ k, k < all.size → listed.getD k false = true := by
  intro k
  induction k using Nat.strongRecOn with
  | _ k ih =>
    intro hk
    cases hq : listed.getD k false with
    | true => rfl
    | false =>
      have hmem : k ∈ Region.ready .any all listed := by
        rw [mem_ready]
        refine ⟨?_, all[k], Array.getElem?_eq_getElem hk, fun e he hb => ?_⟩
        · have hlt : k < listed.size := by omega
          simp [Array.getD, hlt] at hq ⊢; exact hq
        · have := regOk_after hreg (Array.getElem?_eq_getElem hk) he hb
          exact ih e.on this (by omega)
      rw [h] at hmem; cases hmem

theorem filter_less {p q : Nat → Bool} {l : List Nat} (hqp : ∀ i, q i = true → p i = true) {i : Nat} (hi : i ∈ l) (hp : p i = true) (hq : q i = false) : (l.filter q).length < (l.filter p).length := by
  have e : l.filter q = (l.filter p).filter q := by
    rw [List.filter_filter]
    congr 1; funext x
    cases hx : q x with
    | false => simp
    | true => simp [hqp x hx]
  rw [e, List.length_filter_lt_length_iff_exists]
  exact ⟨i, List.mem_filter.2 ⟨hi, hp⟩, by simp [hq]⟩

theorem draw_any (hcall : CallOk C.P call) (hloc : CallLoc C call) (hreg : regOk all = true) {B : Nat} {M0 : Mem} {a0 : Act} {w0 : World} (st0 : St B ns M0 H0 env0 a0 w0) {Q : Exit → Act → World → Prop}
    (hQ : ∀ S a w MS HP, (∀ k, k < all.size → S k = true) → DInv tr B M0 S a w MS HP → Q .normal a w) : ∀ (fuel : Nat) (listed : Array Bool) (a : Act) (w : World) (MS : Mem) (HP : Heap), listed.size = all.size → Closed all (fun i => listed.getD i false) →
    ((List.range all.size).filter fun i => !listed.getD i false).length ≤ fuel → DInv tr B M0 (fun i => listed.getD i false) a w MS HP → wpAny C.P .any all Q fuel listed a w := by
  intro fuel
  induction fuel with
  | zero =>
    intro listed a w MS HP hsz hS hc inv
    have hall : ∀ k, k < all.size → listed.getD k false = true := by
      intro k hk
      cases hq : listed.getD k false with
      | true => rfl
      | false =>
        have hm : k ∈ (List.range all.size).filter fun i => !listed.getD i false := List.mem_filter.2 ⟨List.mem_range.2 hk, by simp only [hq]; rfl⟩
        have := List.length_pos_of_mem hm
        omega
    refine ⟨?_, hQ _ a w MS HP hall inv⟩
    rw [List.eq_nil_iff_forall_not_mem]
    intro k hm
    rw [mem_ready] at hm
    obtain ⟨h1, o, ho, _⟩ := hm
    have hk := (Array.getElem?_eq_some_iff.1 ho).1
    have := hall k hk
    have hlt : k < listed.size := by omega
    simp [Array.getD, hlt] at h1 this
    rw [h1] at this; cases this
  | succ fuel ih =>
    intro listed a w MS HP hsz hS hc inv
    refine ⟨fun hr => hQ _ a w MS HP (listed_all hreg hsz hr) inv, fun k hm => ?_⟩
    rw [mem_ready] at hm
    obtain ⟨h1, o, ho, hafter⟩ := hm
    have hk := (Array.getElem?_eq_some_iff.1 ho).1
    have hlt : k < listed.size := by omega
    have hSk : listed.getD k false = false := by simpa [Array.getD, hlt] using h1
    have hready : Ready all (fun i => listed.getD i false) k := fun o' ho' e he hb => by
      rw [ho] at ho'; injection ho' with ho'; subst ho'; exact hafter e he hb
    have hS'k : (listed.setIfInBounds k true).getD k false = true := by simp [hlt]
    have hS' : ∀ j, j ≠ k → (listed.setIfInBounds k true).getD j false = listed.getD j false := fun j hj => getD_set_ne false (Ne.symm hj)
    refine draw_step hcall hloc hreg st0 hS hk hready hSk hS' hS'k inv fun a' w' MS' HP' inv' => ?_
    refine ih _ a' w' MS' HP' (by simpa using hsz) (fun j o' ho' hj e he hb => ?_) ?_ inv'
    · by_cases hjk : j = k
      · subst hjk
        exact getD_set_true (hready o' ho' e he hb)
      · simp only [hS' j hjk] at hj
        exact getD_set_true (hS j o' ho' hj e he hb)
    · have := filter_less (p := fun i => !listed.getD i false) (q := fun i => !(listed.setIfInBounds k true).getD i false) (l := List.range all.size) (i := k) (fun i hi => by
        by_cases hik : i = k
        · subst hik; rw [hS'k] at hi; simp at hi
        · rw [hS' i hik] at hi; exact hi) (List.mem_range.2 hk) (by simp only [hSk]; rfl) (by simp only [hS'k]; rfl)
      omega

end

/-- A region whose order is open answers as it does in the order of the text. -/
theorem draw_ok {C : Cfg} {call : Callee'} (hm : C.P.follows .mixedOrders = true) (hcall : CallOk C.P call) (hloc : CallLoc C call) : DrawOk C call := by
  intro id all B ns M0 H0 env0 a0 w0 e env' H' hreg st0 h
  simp only [statOk] at hreg
  obtain ⟨rfl, E, Hs, V, T, k1, k2, k3, k4, k5, k6, k7⟩ := adraw_tr all.toList 0 rfl h
  have hn : all.toList.length = all.size := by simp
  let tr : Tr C call ns all env0 H0 := ⟨E, Hs, V, T, k1, k2, fun k o ho => by have := k5 k o (by simpa using ho); simpa using this, fun k o ho => k6 k o (by simpa using ho), by rw [hn] at k7; exact k7⟩
  have hw0 := st0.hw
  subst hw0
  have ok : tr.Ok := tr.ok hcall hloc st0
  obtain ⟨Mn, an, wn, stn, mn, hsn⟩ := tr.st hcall st0 all.size (Nat.le_refl _)
  have hle : H0.length ≤ (tr.Hs all.size).length := by have := ok.le (j := 0) all.size (Nat.zero_le _) (Nat.le_refl _); rwa [tr.h0] at this
  rw [hn] at k3 k4
  refine wp_region_any hm ?_
  obtain ⟨hE1, hst1, hr1, ho1⟩ := step_same st0.hr (w' := { M0.w with drawn := M0.w.drawn + 1 }) rfl rfl rfl rfl
  have hS0 : ∀ i, (Array.replicate all.size false).getD i false = false := fun i => by
    simp [Array.getD]
  refine draw_any (tr := tr) hcall hloc hreg st0 (Q := Ends B ns M0 H0 .normal env' H') ?_ all.size (Array.replicate all.size false) a0 _ { M0 with w := { M0.w with drawn := M0.w.drawn + 1 } }
    (H0 ++ List.replicate ((tr.Hs all.size).length - H0.length) .dead) (by simp) (fun k o _ hk => by simp only [hS0] at hk; cases hk) (by
      have := List.length_filter_le (fun i => !(Array.replicate all.size false).getD i false) (List.range all.size)
      simpa using this) ?_
  · intro S a w MS HP hall inv
    obtain ⟨gl, rfl, hd, hsz, hlen, hheap, hun, htm, hdead⟩ := inv
    have hHP : HP = tr.Hs all.size := by
      apply List.ext_getElem?
      intro b
      rcases Nat.lt_or_ge b HP.length with hb | hb
      · rw [hheap b hb, tr.stAt_top ok hall b _ (Nat.le_refl _), List.getElem?_eq_getElem (by omega)]; rfl
      · rw [List.getElem?_eq_none hb, List.getElem?_eq_none (by omega)]
    have hH' : tr.Hs all.size = H' := k4
    have hE' : tr.E all.size = env' := k3
    subst hHP
    rw [hH'] at gl hlen mn hsn
    refine ⟨rfl, hsn, MS, ⟨gl.step, gl.hr, ⟨gl.onto, fun b hb => ⟨(mn.onto.dead b hb).1, hdead b hb⟩⟩⟩, ⟨gl.hr, Nat.le_trans st0.hB gl.step.ext.size, ?_, rfl, hd, fun n hn => Nat.le_trans (st0.hns n hn) hsn.len, fun n hn => hsn.clean n hn (st0.hns n hn) (st0.hcl n hn)⟩⟩
    refine ⟨by rw [← hE', tr.elen _ (Nat.le_refl _), hsz], fun t v x hv hx => ?_⟩
    rw [← hE'] at hv
    have htl : t < env0.length := by rw [← tr.elen all.size (Nat.le_refl _)]; exact (List.getElem?_eq_some_iff.1 hv).1
    have := htm t x hx
    rw [tr.tm_top hall htl _ (Nat.le_refl _), hv] at this
    exact this
  · have hget : ∀ (b : Nat) (x : Blk), (H0 ++ List.replicate ((tr.Hs all.size).length - H0.length) Blk.dead)[b]? = some x → x = Blk.dead ∨ H0[b]? = some x := by
      intro b x hx
      rcases Nat.lt_or_ge b H0.length with hb | hb
      · rw [List.getElem?_append_left hb] at hx; exact .inr hx
      · rw [List.getElem?_append_right hb] at hx; exact .inl (List.eq_of_mem_replicate (List.mem_of_getElem? hx))
    have hst : ∀ b k, tr.stAt (fun i => (Array.replicate all.size false).getD i false) b k = H0[b]? := by
      intro b k
      induction k with
      | zero => simp only [Tr.stAt, tr.h0]
      | succ k ih => simp only [Tr.stAt]; rw [if_neg (fun hq => by simp only [hS0] at hq; exact absurd hq.1 (by simp))]; exact ih
    have htmp : ∀ t k, tr.tmAt (fun i => (Array.replicate all.size false).getD i false) t k = (env0[t]?).getD .undef := by
      intro t k
      induction k with
      | zero => simp only [Tr.tmAt, tr.e0]
      | succ k ih => simp only [Tr.tmAt]; rw [if_neg (fun hq => by simp only [hS0] at hq; exact absurd hq.1 (by simp))]; exact ih
    refine ⟨⟨⟨fun b x hx => ?_, fun b b' x x' g h1 h2 h3 h4 => ?_, fun b v y hy => ?_, hr1.low, hr1.kept, hr1.base⟩, hst1, fun b x g hx hg => ?_⟩, rfl, st0.hd, st0.he.1.symm, by simp; omega, fun b hb => ?_, fun k hk _ b h1 h2 v => ?_, fun t x hx => ?_, fun b _ v => rfl⟩
    · rcases hget b x hx with rfl | hx
      · trivial
      · exact hr1.blk b x hx
    · rcases hget b x h1 with rfl | h1
      · simp [gOf] at h3
      · rcases hget b' x' h2 with rfl | h2
        · simp [gOf] at h4
        · exact hr1.apart b b' x x' g h1 h2 h3 h4
    · have := hr1.dom b v y hy
      simp; omega
    · rcases hget b x hx with rfl | hx
      · simp [gOf] at hg
      · exact .inr ⟨x, hx, hg⟩
    · rw [hst]
      rcases Nat.lt_or_ge b H0.length with hb2 | hb2
      · rw [List.getElem?_append_left hb2, List.getElem?_eq_getElem hb2]; rfl
      · rw [List.getElem?_append_right hb2, List.getElem?_eq_none hb2]
        simp only [Option.getD_none]
        rw [List.getElem?_replicate, if_pos (by simp at hb; omega)]
    · cases hq : M0.σ b v with
      | none => rfl
      | some y =>
        have h3 := st0.hr.dom b v y hq
        have h4 := ok.le (j := 0) k (Nat.zero_le _) (by omega)
        rw [tr.h0] at h4
        omega
    · rw [htmp]
      have hlt : t < a0.tmps.size := (Array.getElem?_eq_some_iff.1 hx).1
      have hlt2 : t < env0.length := by rw [st0.he.1]; exact hlt
      rw [List.getElem?_eq_getElem hlt2]
      exact (st0.he.2 t _ x (List.getElem?_eq_getElem hlt2) hx).ext hE1

/-- All calls, with nothing left open. -/
theorem calls_ok {C : Cfg} (hm : C.P.follows .mixedOrders = true) (hprim : PrimOk C) : ∀ n, CallOk C.P (acall C n) ∧ DrawOk C (acall C n)
  | 0 => by
    have h0 : CallOk C.P (acall C 0) := fun ns f args H v H' h => by simp [acall] at h
    exact ⟨h0, draw_ok hm h0 (acall_loc C 0)⟩
  | n + 1 => by
    obtain ⟨h1, h2⟩ := calls_ok hm hprim n
    have h3 : CallOk C.P (acall C (n + 1)) := by
      intro ns f args H v H' h B M vs hr hB hv hns hcl
      simp only [acall] at h
      split at h
      · exact icall_ok h1 h2 ns f args H v H' h B M vs hr hB hv hns hcl
      · split at h
        · cases h
        · rename_i args' H1 hf
          split at h
          · rename_i v' hv'
            injection h with e1 e2; subst e1; subst e2
            obtain ⟨M1, f1, r1⟩ := frzL_sound args hr hv hf
            have href := frzL_ref args hf
            have hw := f1.w
            have hB1 : B ≤ M1.w.heap.size := by rw [hw]; exact hB
            obtain ⟨hent, h0, hc⟩ := vcall_ok h1 h2 hprim hv' href M1.w.heap.size M1 vs (Nat.le_refl _) (hr_nil f1.hr) (r1.forget 0 href)
            refine ⟨hent, frzL_hs ns args hf, ?_⟩
            rw [← hw]
            refine Calls.mono hc fun e w' hq => ?_
            obtain ⟨y, M2, H2, rfl, m2, hw2, hy⟩ := hq
            obtain ⟨m3, hy3⟩ := back f1.hr hB1 m2 hy h0
            exact ⟨y, _, rfl, f1.moved.trans m3, hw2, hy3⟩
          · cases h
    exact ⟨h3, draw_ok hm h3 (acall_loc C (n + 1))⟩

/-- What is answered for a call of values is so. -/
theorem value_ok {C : Cfg} (hm : C.P.follows .mixedOrders = true) (hprim : PrimOk C) {n : Nat} {f : FuncId} {args : List AV} {v : AV} (h : vcall C (acall C n) f args = some v) (hr0 : refOkL 0 args = true) : ValOk C.P f args v :=
  vcall_ok (calls_ok hm hprim n).1 (calls_ok hm hprim n).2 hprim h hr0

end Go.Vi
end SViDrawE
