/- The interpreter: its shortened form of code is sound; rules to evaluate it in part. -/
import Derived.Test.YtopedkngffaplaaDoorVdDigA
set_option linter.all false
set_option linter.unusedVariables false
set_option linter.unusedSectionVars false
set_option linter.unusedSimpArgs false
section SViDigB
/- Pure operations: what their expressions come to is what they come to. -/
namespace Go.Vi
open Go
set_option linter.unusedSimpArgs false

theorem convertOf_heap {P : Program} {H H' : Heap} {s d : TypeId} {x v : AV} (h : convertOf P H s d x = some (v, H')) : H' = H := by
  unfold convertOf at h
  repeat' split at h
  all_goals first
    | (cases h; done)
    | (injection h with h; injection h with h1 h2; exact h2.symm)

theorem slOf_slice {P : Program} {H : Heap} {t : TypeId} {x v : AV} {lo hi : Option AV} (h : slOf P t x lo hi = some v) : sliceOf P H t x lo hi none = some (v, H) := by
  unfold slOf at h
  split at h
  · cases h
  · rename_i hna
    unfold sliceOf at h ⊢
    cases hix : ixOf P t with
    | none => simp [hix] at h
    | some i =>
      rw [hix] at h
      cases i with
      | arr n s => exact absurd hix (hna n s)
      | str =>
        cases x <;> simp_all
        rename_i s
        cases hb : bnds s.length lo hi none with
        | none => simp_all
        | some p =>
          obtain ⟨l, hh, ex⟩ := p
          cases ex <;> simp_all
      | sl sz by_ =>
        cases x <;> simp_all
        · cases hb : bnds 0 lo hi none <;> simp_all
        · rename_i xs e
          cases hb : bnds xs.length lo hi none with
          | none => simp_all
          | some p =>
            obtain ⟨l, hh, ex⟩ := p
            simp_all
            split at h <;> simp_all
        · rename_i b ver hs off len
          cases hb : bnds len lo hi none with
          | none => simp_all
          | some p =>
            obtain ⟨l, hh, ex⟩ := p
            have hex : ex = false := by
              unfold bnds at hb
              split at hb
              · split at hb
                · injection hb with hb; injection hb with _ hb; injection hb with _ hb; exact hb.symm
                · cases hb
              · cases hb
            subst hex
            simp_all
            split at h <;> simp_all

theorem slice_lo0 {P : Program} {H : Heap} {t : TypeId} {x : AV} {hi : Option AV} : sliceOf P H t x none hi none = sliceOf P H t x (some (.int .i64 0)) hi none := by
  have hb : ∀ n, bnds n none hi none = bnds n (some (.int .i64 0)) hi none := fun n => by simp [bnds, bnd]
  unfold sliceOf
  simp only [hb]

theorem evsL_zip (env : Env) : ∀ ps : List (Nat × Operand), evsL env ps = (ps.map (·.1)).zip (evlL env (ps.map (·.2)))
  | [] => rfl
  | p :: ps => by simp [evsL, evlL, evsL_zip env ps]

theorem evlL_length (env : Env) : ∀ os : List Operand, (evlL env os).length = os.length
  | [] => rfl
  | o :: os => by simp [evlL, evlL_length env os]

section
variable {C : Cfg} {call : Callee'} {L : Env} {H : Heap}

theorem xevL_cons {x : X} {xs : List X} {vs : List AV} (h : xevL C call L H (x :: xs) = some vs) : ∃ v vs', vs = v :: vs' ∧ xev C call L H x = some v ∧ xevL C call L H xs = some vs' := by
  simp only [xevL] at h
  split at h
  · rename_i v vs' h1 h2; injection h with h; exact ⟨v, vs', h.symm, h1, h2⟩
  · cases h
theorem xevL_nil {vs : List AV} (h : xevL C call L H [] = some vs) : vs = [] := by
  simp only [xevL] at h; injection h with h; exact h.symm
theorem xevL_one {x : X} {v : AV} (h : xev C call L H x = some v) : xevL C call L H [x] = some [v] := by simp [xevL, h]
theorem xevL_two {x y : X} {v u : AV} (h : xev C call L H x = some v) (h' : xev C call L H y = some u) : xevL C call L H [x, y] = some [v, u] := by simp [xevL, h, h']
theorem xevL_three {x y z : X} {v u w : AV} (h : xev C call L H x = some v) (h' : xev C call L H y = some u) (h2 : xev C call L H z = some w) : xevL C call L H [x, y, z] = some [v, u, w] := by simp [xevL, h, h', h2]

/-- value calls of arguments without own rows do not look at memory -/
def CallVal (C : Cfg) (call : Callee') : Prop := ∀ ns f vs H, C.inl f = false → rowFree.rowFreeL vs = true → call ns f vs H = (match call [] f vs H with
  | .ok v _ => .ok v H
  | .fail => .fail)

/-- the expression's value is strict in its parts -/
theorem pureX_strict {P : Program} {inl : FuncId → Bool} {o : Op} {xs : List X} {x : X} (h : pureX P inl o xs = some x) (hn : tmpsOf (opnds o) ≠ []) {v : AV} (hv : xev C call L H x = some v) : ∃ vs, xevL C call L H xs = some vs := by
  unfold pureX at h
  split at h
  case h_1 => simp [opnds, tmpsOf] at hn
  case h_2 => simp [opnds, tmpsOf] at hn
  case h_3 => injection h with h; subst h; exact ⟨_, xevL_one hv⟩
  case h_4 => injection h with h; subst h; exact ⟨_, xevL_one hv⟩
  case h_5 => injection h with h; subst h; simp only [xev] at hv; split at hv <;> first | (cases hv; done) | (rename_i h1; exact ⟨_, xevL_one h1⟩)
  case h_6 => injection h with h; subst h; simp only [xev] at hv; split at hv <;> first | (cases hv; done) | (rename_i h1; exact ⟨_, xevL_one h1⟩)
  case h_7 => injection h with h; subst h; simp only [xev] at hv; split at hv <;> first | (cases hv; done) | (rename_i h1 h2; exact ⟨_, xevL_two h1 h2⟩)
  case h_8 => injection h with h; subst h; simp only [xev] at hv; split at hv <;> first | (cases hv; done) | (rename_i h1; exact ⟨_, xevL_one h1⟩)
  case h_9 => injection h with h; subst h; simp only [xev] at hv; split at hv <;> first | (cases hv; done) | (rename_i h1; exact ⟨_, xevL_one h1⟩)
  case h_10 => injection h with h; subst h; simp only [xev] at hv; split at hv <;> first | (cases hv; done) | (rename_i h1; exact ⟨_, h1⟩)
  case h_11 => injection h with h; subst h; simp only [xev] at hv; split at hv <;> first | (cases hv; done) | (rename_i h1; exact ⟨_, xevL_one h1⟩)
  case h_12 => injection h with h; subst h; simp only [xev] at hv; split at hv <;> first | (cases hv; done) | (rename_i h1; exact ⟨_, xevL_one h1⟩)
  case h_13 => injection h with h; subst h; simp only [xev] at hv; split at hv <;> first | (cases hv; done) | (rename_i h1 h2; exact ⟨_, xevL_two h1 h2⟩)
  case h_14 => injection h with h; subst h; simp only [xev] at hv; split at hv <;> first | (cases hv; done) | (rename_i h1 h2; exact ⟨_, xevL_two h1 h2⟩)
  case h_15 => injection h with h; subst h; simp only [xev] at hv; split at hv <;> first | (cases hv; done) | (rename_i h1; exact ⟨_, xevL_one h1⟩)
  case h_16 => split at h
               · injection h with h; subst h; simp only [xev] at hv; split at hv <;> first | (cases hv; done) | (rename_i h1; exact ⟨_, h1⟩)
               · cases h
  case h_17 =>
    split at h
    · cases h
    · split at h
      · injection h with h; subst h; simp only [xev] at hv; split at hv <;> first | (cases hv; done) | (rename_i h1 h2; exact ⟨_, xevL_one h1⟩)
      · injection h with h; subst h; simp only [xev] at hv; split at hv <;> first | (cases hv; done) | (rename_i h1 h2; exact ⟨_, xevL_two h1 h2⟩)
      · injection h with h; subst h; simp only [xev] at hv; split at hv <;> first | (cases hv; done) | (rename_i h1 h2 h3; exact ⟨_, xevL_two h1 h3⟩)
      · injection h with h; subst h; simp only [xev] at hv; split at hv <;> first | (cases hv; done) | (rename_i h1 h2 h3; exact ⟨_, xevL_three h1 h2 h3⟩)
      · cases h
  case h_18 => split at h
               · injection h with h; subst h; simp only [xev] at hv; split at hv <;> first | (cases hv; done) | (rename_i h1; exact ⟨_, xevL_one h1⟩)
               · cases h
  case h_19 => injection h with h; subst h; simp only [xev] at hv; split at hv <;> first | (cases hv; done) | (rename_i h1 h2; exact ⟨_, xevL_two h1 h2⟩)
  case h_20 => injection h with h; subst h; simp only [xev] at hv; split at hv <;> first | (cases hv; done) | (rename_i h1 h2; exact ⟨_, xevL_two h1 h2⟩)
  case h_21 =>
    split at h
    · cases h
    · injection h with h; subst h; simp only [xev] at hv; split at hv <;> first | (cases hv; done) | (rename_i h1; exact ⟨_, by simp only [xevL, xev, h1]; rfl⟩)
  case h_22 => cases h

/-- A PURE OPERATION. -/
theorem pureX_sound {ns : List Nat} {E : Env} {o : Oper} (hc : CallVal C call) {xs : List X} {x : X} (h : pureX C.P C.inl o.op xs = some x) {v : AV} (hv : xev C call L H x = some v)
    (hl : ∀ vs, xevL C call L H xs = some vs → evlL E (opnds o.op) = vs) : aoper C.P call ns E H o = .ok v H := by
  obtain ⟨dst, op, ty, pos, aft, gd⟩ := o
  simp only at h hl
  unfold pureX at h
  split at h
  case h_1 =>
    split at h
    · cases h
    · rename_i c hn
      injection h with h; subst h; simp only [xev] at hv; injection hv with hv; subst hv
      simp only [aoper, aop]
      have : moveOf E H (.const c) = (aval c, H) := by
        unfold moveOf
        split <;> simp_all [isNilS, aval, aval0]
      rw [this]
  case h_2 =>
    split at h
    · cases h
    · rename_i c hn
      injection h with h; subst h; simp only [xev] at hv; injection hv with hv; subst hv
      simp only [aoper, aop]
      have : moveOf E H (.const c) = (aval c, H) := by
        unfold moveOf
        split <;> simp_all [isNilS, aval, aval0]
      rw [this]
  case h_3 =>
    rename_i y x' hne
    injection h with h; subst h
    have := hl _ (xevL_one hv)
    simp only [opnds, evlL, List.cons.injEq, and_true] at this
    simp only [aoper, aop]
    cases y with
    | const c => exact absurd rfl (hne c)
    | tmp t => simp only [ev] at this; simp only [moveOf, this]
    | func f => simp only [ev] at this; simp only [moveOf, this]
    | global g => simp only [ev] at this; simp only [moveOf, this]
  case h_4 =>
    rename_i y x' hne
    injection h with h; subst h
    have := hl _ (xevL_one hv)
    simp only [opnds, evlL, List.cons.injEq, and_true] at this
    simp only [aoper, aop]
    cases y with
    | const c => exact absurd rfl (hne c)
    | tmp t => simp only [ev] at this; simp only [moveOf, this]
    | func f => simp only [ev] at this; simp only [moveOf, this]
    | global g => simp only [ev] at this; simp only [moveOf, this]
  case h_5 =>
    injection h with h; subst h; simp only [xev] at hv; split at hv
    · rename_i h1
      have := hl _ (xevL_one h1)
      simp only [opnds, evlL, List.cons.injEq, and_true] at this
      simp only [aoper, aop, this]
      unfold loadOf at hv
      split at hv <;> simp_all
    · cases hv
  case h_6 =>
    injection h with h; subst h; simp only [xev] at hv; split at hv
    · rename_i h1
      have := hl _ (xevL_one h1)
      simp only [opnds, evlL, List.cons.injEq, and_true] at this
      simp only [aoper, aop, this]
      unfold nckOf at hv
      split at hv <;> simp_all
    · cases hv
  case h_7 =>
    injection h with h; subst h; simp only [xev] at hv; split at hv
    · rename_i h1 h2
      have := hl _ (xevL_two h1 h2)
      simp only [opnds, evlL, List.cons.injEq, and_true] at this
      simp only [aoper, aop, this.1, this.2, hv]
    · cases hv
  case h_8 =>
    injection h with h; subst h; simp only [xev] at hv; split at hv
    · rename_i h1
      have := hl _ (xevL_one h1)
      simp only [opnds, evlL, List.cons.injEq, and_true] at this
      simp only [aoper, aop, this, hv]
    · cases hv
  case h_9 =>
    injection h with h; subst h; simp only [xev] at hv; split at hv
    · rename_i h1
      have := hl _ (xevL_one h1)
      simp only [opnds, evlL, List.cons.injEq, and_true] at this
      simp only [aoper, aop, this]
      split at hv
      · rename_i h2
        obtain rfl := convertOf_heap h2
        rw [h2]; injection hv with hv; rw [hv]
      · cases hv
    · cases hv
  case h_10 =>
    injection h with h; subst h; simp only [xev] at hv; split at hv
    · rename_i h1
      have := hl _ h1
      simp only [opnds] at this
      simp only [aoper, aop, evs, evsL_zip, this, hv]
    · cases hv
  case h_11 =>
    injection h with h; subst h; simp only [xev] at hv; split at hv
    · rename_i h1
      have := hl _ (xevL_one h1)
      simp only [opnds, evlL, List.cons.injEq, and_true] at this
      simp only [aoper, aop, this]
      unfold faOf at hv
      split at hv <;> simp_all
    · cases hv
  case h_12 =>
    injection h with h; subst h; simp only [xev] at hv; split at hv
    · rename_i h1
      have := hl _ (xevL_one h1)
      simp only [opnds, evlL, List.cons.injEq, and_true] at this
      simp only [aoper, aop, this]
      unfold fdOf at hv
      split at hv <;> simp_all
    · cases hv
  case h_13 =>
    injection h with h; subst h; simp only [xev] at hv; split at hv
    · rename_i h1 h2
      have := hl _ (xevL_two h1 h2)
      simp only [opnds, evlL, List.cons.injEq, and_true] at this
      simp only [aoper, aop, this.1, this.2]
      unfold iaOf at hv
      split at hv <;> simp_all
    · cases hv
  case h_14 =>
    injection h with h; subst h; simp only [xev] at hv; split at hv
    · rename_i h1 h2
      have := hl _ (xevL_two h1 h2)
      simp only [opnds, evlL, List.cons.injEq, and_true] at this
      simp only [aoper, aop, this.1, this.2]
      unfold ixvOf at hv
      split at hv <;> simp_all
    · cases hv
  case h_15 =>
    injection h with h; subst h; simp only [xev] at hv; split at hv
    · rename_i h1
      have := hl _ (xevL_one h1)
      simp only [opnds, evlL, List.cons.injEq, and_true] at this
      simp only [aoper, aop, this]
      unfold extOf at hv
      split at hv <;> simp_all
    · cases hv
  case h_16 =>
    split at h
    · rename_i hf
      injection h with h; subst h; simp only [xev] at hv; split at hv
      · rename_i h1
        have := hl _ h1
        simp only [opnds] at this
        injection hv with hv; subst hv
        simp only [aoper, aop, evl, this, hf, if_true]
      · cases hv
    · cases h
  case h_17 =>
    split at h
    · cases h
    · split at h
      · injection h with h; subst h; simp only [xev] at hv; split at hv
        · rename_i h1 h2
          have := hl _ (xevL_one h1)
          simp only [opnds, evlL, List.cons.injEq, and_true, Option.toList, List.append_nil, List.nil_append] at this
          injection h2 with h2; subst h2
          simp only [aoper, aop, this, Option.map_none, slice_lo0, slOf_slice hv]
        · cases hv
      · injection h with h; subst h; simp only [xev] at hv; split at hv
        · rename_i h1 h2
          have := hl _ (xevL_two h1 h2)
          simp only [opnds, evlL, List.cons.injEq, and_true, Option.toList, List.append_nil, List.nil_append, List.cons_append] at this
          simp only [aoper, aop, this.1, this.2, Option.map_none, Option.map_some, slOf_slice hv]
        · cases hv
      · injection h with h; subst h; simp only [xev] at hv; split at hv
        · rename_i h1 h2 h3
          have := hl _ (xevL_two h1 h3)
          simp only [opnds, evlL, List.cons.injEq, and_true, Option.toList, List.append_nil, List.nil_append, List.cons_append] at this
          injection h2 with h2; subst h2
          simp only [aoper, aop, this.1, this.2, Option.map_none, Option.map_some, slice_lo0, slOf_slice hv]
        · cases hv
      · injection h with h; subst h; simp only [xev] at hv; split at hv
        · rename_i h1 h2 h3
          have := hl _ (xevL_three h1 h2 h3)
          simp only [opnds, evlL, List.cons.injEq, and_true, Option.toList, List.append_nil, List.nil_append, List.cons_append] at this
          simp only [aoper, aop, this.1, this.2.1, this.2.2, Option.map_none, Option.map_some, slOf_slice hv]
        · cases hv
      · cases h
  case h_18 =>
    split at h
    · rename_i t ht
      injection h with h; subst h; simp only [xev] at hv; split at hv
      · rename_i h1
        have := hl _ (xevL_one h1)
        simp only [opnds] at this
        simp only [aoper, aop, evl, this, builtinOf, ht, hv]
      · cases hv
    · cases h
  case h_19 =>
    injection h with h; subst h; simp only [xev] at hv; split at hv
    · rename_i h1 h2
      have := hl _ (xevL_two h1 h2)
      simp only [opnds] at this
      unfold mmOf at hv
      split at hv
      · injection hv with hv; subst hv
        simp only [aoper, aop, evl, this, builtinOf, if_true]
      · cases hv
    · cases hv
  case h_20 =>
    injection h with h; subst h; simp only [xev] at hv; split at hv
    · rename_i h1 h2
      have := hl _ (xevL_two h1 h2)
      simp only [opnds] at this
      unfold mmOf at hv
      split at hv
      · injection hv with hv; subst hv
        simp [aoper, aop, evl, this, builtinOf]
      · cases hv
    · cases hv
  case h_21 =>
    split at h
    · cases h
    · rename_i hinl
      injection h with h; subst h; simp only [xev] at hv; split at hv
      · rename_i vs h1
        have := hl _ (by simp only [xevL, xev, h1]; rfl)
        simp only [opnds, evlL, List.cons.injEq] at this
        split at hv
        · rename_i hcond
          simp only [aoper, ev, evl, this.2, List.append_nil]
          rw [hc _ _ _ _ hcond.1 hcond.2]
          split at hv
          · rename_i h2
            injection hv with hv; rw [h2, hv]
          · cases hv
        · cases hv
      · cases hv
  case h_22 => cases h
end
end Go.Vi
end SViDigB
