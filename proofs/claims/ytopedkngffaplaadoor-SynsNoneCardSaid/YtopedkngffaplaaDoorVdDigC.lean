/- The interpreter: its shortened form of code is sound; rules to evaluate it in part. -/
import Derived.Test.YtopedkngffaplaaDoorVdDigB
set_option linter.all false
set_option linter.unusedVariables false
set_option linter.unusedSectionVars false
set_option linter.unusedSimpArgs false
section SViDigC
/- Operations that turn memory, and regions as they are: they come to the same from slots that are known. -/
namespace Go.Vi
open Go
set_option linter.unusedSimpArgs false

theorem ev_tmp0 (v : AV) (vs : List AV) : ev (v :: vs) (.tmp 0) = v := rfl
theorem ev_tmp1 (v u : AV) (vs : List AV) : ev (v :: u :: vs) (.tmp 1) = u := rfl
theorem ev_tmp2 (v u w : AV) (vs : List AV) : ev (v :: u :: w :: vs) (.tmp 2) = w := rfl
theorem ev_tmp3 (v u w z : AV) (vs : List AV) : ev (v :: u :: w :: z :: vs) (.tmp 3) = z := rfl

theorem evlL_range : ∀ (pre vs : List AV) , evlL (pre ++ vs) ((List.range' pre.length vs.length).map Operand.tmp) = vs
  | _, [] => rfl
  | pre, v :: vs => by
    have h1 : ev (pre ++ v :: vs) (.tmp pre.length) = v := by simp [ev]
    have := evlL_range (pre ++ [v]) vs
    simp only [List.length_append, List.length_cons, List.length_nil, Nat.zero_add, List.append_assoc, List.cons_append, List.nil_append] at this
    simp only [List.length_cons, List.range'_succ, List.map_cons, evlL, h1, this]

theorem evs_renum (vs : List AV) (is : List Nat) (n : Nat) (h : vs.length = n) (h' : is.length = n) : evsL vs (List.zip is ((List.range n).map Operand.tmp)) = is.zip vs := by
  rw [evsL_zip]
  have h1 : (List.zip is ((List.range n).map Operand.tmp)).map (·.1) = is := by
    rw [← List.unzip_fst, List.unzip_zip_left]; simp [h']
  have h2 : (List.zip is ((List.range n).map Operand.tmp)).map (·.2) = (List.range n).map Operand.tmp := by
    rw [← List.unzip_snd, List.unzip_zip_right]; simp [h']
  rw [h1, h2, List.range_eq_range', ← h]
  have := evlL_range [] vs
  simp only [List.length_nil, List.nil_append] at this
  rw [this]

theorem effO_sound {P : Program} {ns : List Nat} {E : Env} {H : Heap} {o : Oper} {o' : Op} {os : List Operand} (h : effO o.op = some (o', os)) : aop P ns E H o = aop P ns (evlL E os) H (mkOper o') := by
  obtain ⟨dst, op, ty, pos, aft, gd⟩ := o
  simp only at h
  unfold effO at h
  split at h
  case h_1 =>
    split at h
    · rename_i c hn
      injection h with h; injection h with h1 h2; subst h1; subst h2
      cases c <;> first | (simp [isNilS] at hn; done) | skip
      simp only [aop, mkOper, evlL]
      unfold moveOf
      unfold isNilS at hn
      split at hn
      · rename_i heq; injection heq with h1 h2 h3; subst h2; subst h3; rfl
      · cases hn
    · cases h
  case h_2 =>
    split at h
    · rename_i c hn
      injection h with h; injection h with h1 h2; subst h1; subst h2
      cases c <;> first | (simp [isNilS] at hn; done) | skip
      simp only [aop, mkOper, evlL]
      unfold moveOf
      unfold isNilS at hn
      split at hn
      · rename_i heq; injection heq with h1 h2 h3; subst h2; subst h3; rfl
      · cases hn
    · cases h
  case h_3 => injection h with h; injection h with h1 h2; subst h1; subst h2; simp only [aop, mkOper]
  case h_4 => injection h with h; injection h with h1 h2; subst h1; subst h2; simp only [aop, mkOper, evlL, ev_tmp0]; rfl
  case h_5 => injection h with h; injection h with h1 h2; subst h1; subst h2; simp only [aop, mkOper, evlL, ev_tmp0, ev_tmp1]
  case h_6 =>
    rename_i t n ps
    injection h with h; injection h with h1 h2; subst h1; subst h2
    have e : evs (evlL E (ps.toList.map (·.2))) (List.zip (ps.toList.map (·.1)) ((List.range ps.size).map Operand.tmp)).toArray = evs E ps := by
      simp only [evs]
      rw [evs_renum _ _ ps.size (by simp [evlL_length]) (by simp), evsL_zip]
    simp only [aop, mkOper, e]
  case h_7 => injection h with h; injection h with h1 h2; subst h1; subst h2; simp only [aop, mkOper, evlL, ev_tmp0, ev_tmp1]
  case h_8 => injection h with h; injection h with h1 h2; subst h1; subst h2; simp only [aop, mkOper, evlL, ev_tmp0, ev_tmp1, ev_tmp2, ev_tmp3, Option.map_none, Option.map_some]
  case h_9 => injection h with h; injection h with h1 h2; subst h1; subst h2; simp only [aop, mkOper, evlL, ev_tmp0, ev_tmp1, ev_tmp2, ev_tmp3, Option.map_none, Option.map_some]
  case h_10 => injection h with h; injection h with h1 h2; subst h1; subst h2; simp only [aop, mkOper, evlL, ev_tmp0, ev_tmp1, ev_tmp2, ev_tmp3, Option.map_none, Option.map_some]
  case h_11 => injection h with h; injection h with h1 h2; subst h1; subst h2; simp only [aop, mkOper, evlL, ev_tmp0, ev_tmp1, ev_tmp2, ev_tmp3, Option.map_none, Option.map_some]
  case h_12 => injection h with h; injection h with h1 h2; subst h1; subst h2; simp only [aop, mkOper, evlL, ev_tmp0, ev_tmp1, ev_tmp2, ev_tmp3, Option.map_none, Option.map_some]
  case h_13 => injection h with h; injection h with h1 h2; subst h1; subst h2; simp only [aop, mkOper, evlL, ev_tmp0, ev_tmp1, ev_tmp2, ev_tmp3, Option.map_none, Option.map_some]
  case h_14 => injection h with h; injection h with h1 h2; subst h1; subst h2; simp only [aop, mkOper, evlL, ev_tmp0]
  case h_15 =>
    rename_i it b
    injection h with h; injection h with h1 h2; subst h1; subst h2
    cases b <;> simp only [aop, mkOper, evlL, ev_tmp0]
  case h_16 =>
    rename_i args ats
    split at h
    · rename_i s x hargs
      injection h with h; injection h with h1 h2; subst h1; subst h2
      simp only [aop, mkOper, evl, hargs, evlL, ev_tmp0, ev_tmp1]
    · cases h
  case h_17 => cases h

/-! regions as they are -/
def Rl (E L : Env) : Prop := E.length = L.length ∧ ∀ t v, rd L t = some v → E[t]? = some v

theorem rd_some {L : Env} {t : Nat} {v : AV} (h : rd L t = some v) : L[t]? = some v ∧ v ≠ .undef := by
  unfold rd at h
  split at h
  · cases h
  · rename_i u hu hne
    injection h with h; subst h
    exact ⟨hne, fun hq => hu hq⟩
  · cases h
theorem rd_of {L : Env} {t : Nat} {v : AV} (h : L[t]? = some v) (hn : v ≠ .undef) : rd L t = some v := by
  unfold rd
  rw [h]
  cases v <;> simp_all

theorem known_ev {E L : Env} (h : Rl E L) {x : Operand} (hk : known L x = true) : ev E x = ev L x := by
  cases x with
  | tmp t =>
    simp only [known] at hk
    obtain ⟨v, hv⟩ := Option.isSome_iff_exists.1 hk
    have := h.2 t v hv
    simp only [ev, this, (rd_some hv).1]
  | const c => rfl
  | func f => rfl
  | global g => rfl
theorem known_evlL {E L : Env} (h : Rl E L) : ∀ {xs : List Operand}, knownL L xs = true → evlL E xs = evlL L xs
  | [], _ => rfl
  | x :: xs, hk => by
    simp only [knownL, Bool.and_eq_true] at hk
    simp only [evlL, known_ev h hk.1, known_evlL h hk.2]

theorem move_ev {E L : Env} {H : Heap} {x : Operand} (h : ev E x = ev L x) : moveOf E H x = moveOf L H x := by
  cases x with
  | tmp t => simp only [ev] at h; simp only [moveOf, h]
  | const c => unfold moveOf; split <;> simp_all
  | func f => rfl
  | global g => rfl

theorem aoper_same {P : Program} {call : Callee'} {ns : List Nat} {E L : Env} {H : Heap} {o : Oper} (h : evlL E (opnds o.op) = evlL L (opnds o.op)) : aoper P call ns E H o = aoper P call ns L H o := by
  obtain ⟨dst, op, ty, pos, aft, gd⟩ := o
  simp only at h
  cases op with
  | move x => simp only [opnds, evlL, List.cons.injEq, and_true] at h; simp only [aoper, aop, move_ev h]
  | assign x => simp only [opnds, evlL, List.cons.injEq, and_true] at h; simp only [aoper, aop, move_ev h]
  | pick c a b => simp only [opnds, evlL, List.cons.injEq, and_true] at h; simp only [aoper, aop, h.1, h.2.1, h.2.2]
  | alloc t => rfl
  | box t x => simp only [opnds, evlL, List.cons.injEq, and_true] at h; simp only [aoper, aop, h]
  | build t ps => simp only [opnds] at h; simp only [aoper, aop, evs, evsL_zip, h]
  | buildSlice t n ps => simp only [opnds] at h; simp only [aoper, aop, evs, evsL_zip, h]
  | load t a => simp only [opnds, evlL, List.cons.injEq, and_true] at h; simp only [aoper, aop, h]
  | store t a x => simp only [opnds, evlL, List.cons.injEq, and_true] at h; simp only [aoper, aop, h.1, h.2]
  | nilCheck x => simp only [opnds, evlL, List.cons.injEq, and_true] at h; simp only [aoper, aop, h]
  | binOp op t x y u => simp only [opnds, evlL, List.cons.injEq, and_true] at h; simp only [aoper, aop, h.1, h.2]
  | unOp op t x => simp only [opnds, evlL, List.cons.injEq, and_true] at h; simp only [aoper, aop, h]
  | convert s d x => simp only [opnds, evlL, List.cons.injEq, and_true] at h; simp only [aoper, aop, h]
  | makeFunc f first cs =>
    simp only [opnds] at h
    cases f <;> simp only [aoper, aop, evl, h]
  | makeSlice t l c => simp only [opnds, evlL, List.cons.injEq, and_true] at h; simp only [aoper, aop, h.1, h.2]
  | slice t x lo hi mx =>
    cases lo <;> cases hi <;> cases mx <;> simp only [opnds, evlL, List.cons.injEq, and_true, Option.toList, List.append_nil, List.nil_append, List.cons_append] at h <;> simp only [aoper, aop, h, Option.map_none, Option.map_some]
  | fieldAddr t x f => simp only [opnds, evlL, List.cons.injEq, and_true] at h; simp only [aoper, aop, h]
  | field t x f => simp only [opnds, evlL, List.cons.injEq, and_true] at h; simp only [aoper, aop, h]
  | indexAddr t x i => simp only [opnds, evlL, List.cons.injEq, and_true] at h; simp only [aoper, aop, h.1, h.2]
  | index t x i => simp only [opnds, evlL, List.cons.injEq, and_true] at h; simp only [aoper, aop, h.1, h.2]
  | range t x => simp only [opnds, evlL, List.cons.injEq, and_true] at h; simp only [aoper, aop, h]
  | next it b => simp only [opnds, evlL, List.cons.injEq, and_true] at h; cases b <;> simp only [aoper, aop, h]
  | extract t i => simp only [opnds, evlL, List.cons.injEq, and_true] at h; simp only [aoper, aop, h]
  | call c =>
    obtain ⟨callee, args, ats⟩ := c
    cases callee with
    | value f => simp only [opnds, evlL, List.cons.injEq] at h; simp only [aoper, evl, h.1, h.2]
    | builtin b => simp only [opnds] at h; simp only [aoper, aop, evl, h]
    | invoke r m => rfl
  | _ => rfl

theorem touch_same {inl : FuncId → Bool} {E L : Env} {n m j : Nat} {o : Oper} (h : evlL E (opnds o.op) = evlL L (opnds o.op)) : touch inl E n m j o = touch inl L n m j o := by
  obtain ⟨dst, op, ty, pos, aft, gd⟩ := o
  simp only at h
  cases op with
  | load t a => simp only [opnds, evlL, List.cons.injEq, and_true] at h; simp only [touch, h]
  | store t a x => simp only [opnds, evlL, List.cons.injEq, and_true] at h; simp only [touch, h.1, h.2]
  | buildSlice t n ps => simp only [opnds] at h; simp only [touch, evs, evsL_zip, h]
  | convert s d x => simp only [opnds, evlL, List.cons.injEq, and_true] at h; simp only [touch, h]
  | slice t x lo hi mx =>
    cases lo <;> cases hi <;> cases mx <;> simp only [opnds, evlL, List.cons.injEq, and_true, Option.toList, List.append_nil, List.nil_append, List.cons_append] at h <;> simp only [touch, h]
  | next it b => simp only [opnds, evlL, List.cons.injEq, and_true] at h; simp only [touch, h]
  | call c =>
    obtain ⟨callee, args, ats⟩ := c
    cases callee with
    | value f => simp only [opnds, evlL, List.cons.injEq] at h; simp only [touch, evl, h.1, h.2]
    | builtin b => simp only [opnds] at h; cases b <;> simp only [touch, evl, h]
    | invoke r m => rfl
  | _ => rfl

theorem want_same {E L : Env} (h : Rl E L) {all : Array Oper} {o : Oper} {b : Bool} (hw : wantE all L o = some b) : wantE all E o = some b := by
  unfold wantE at hw ⊢
  split at hw
  · exact hw
  · split at hw
    · rename_i t ht
      split at hw
      · rename_i c hq; rw [h.2 t _ (rd_of hq (by simp))]; exact hw
      · rename_i hq; rw [h.2 t _ (rd_of hq (by simp))]; exact hw
      · cases hw
    · cases hw

theorem Rl.put {E L : Env} (h : Rl E L) (d : Option Tmp) (v : AV) : Rl (putE E d v) (putE L d v) := by
  cases d with
  | none => exact h
  | some d =>
    refine ⟨by simp [putE, h.1], fun t u hu => ?_⟩
    obtain ⟨h1, h2⟩ := rd_some hu
    simp only [putE] at h1 ⊢
    rw [List.getElem?_set] at h1 ⊢
    split at h1
    · rename_i he
      rw [if_pos he]
      split at h1
      · rename_i hlt; rw [if_pos (by rw [h.1]; exact hlt)]; exact h1
      · cases h1
    · rename_i he
      rw [if_neg he]
      exact h.2 t u (rd_of h1 h2)

theorem saops_sound {P : Program} {call : Callee'} {ns : List Nat} {all : Array Oper} : ∀ {os : List Oper} {E L : Env} {H : Heap} {e : Ex} {L' : Env} {H' : Heap}, Rl E L → saops P call ns all os L H = .ok e L' H' →
    ∃ E', aops P call ns all os E H = .ok e E' H' ∧ Rl E' L'
  | [], E, L, H, e, L', H', hr, h => by
    simp only [saops] at h; injection h with h1 h2 h3; subst h1; subst h2; subst h3
    exact ⟨E, rfl, hr⟩
  | o :: os, E, L, H, e, L', H', hr, h => by
    simp only [saops] at h
    split at h
    · rename_i hw
      split at h
      · rename_i hk
        split at h
        · rename_i v H1 ha
          simp only [aops, want_same hr hw, aoper_same (known_evlL hr hk), ha]
          exact saops_sound (hr.put _ _) h
        · cases h
      · cases h
    · rename_i hw
      simp only [aops, want_same hr hw]
      exact saops_sound (hr.put _ _) h
    · cases h
theorem sadraw_sound {P : Program} {inl : FuncId → Bool} {call : Callee'} {ns : List Nat} {all : Array Oper} : ∀ {os : List Oper} {j : Nat} {log : Log} {E L : Env} {H : Heap} {e : Ex} {L' : Env} {H' : Heap}, Rl E L → sadraw P inl call ns all j os L H log = .ok e L' H' →
    ∃ E', adraw P inl call ns all j os E H log = .ok e E' H' ∧ Rl E' L'
  | [], j, log, E, L, H, e, L', H', hr, h => by
    simp only [sadraw] at h
    split at h
    · rename_i hl
      injection h with h1 h2 h3; subst h1; subst h2; subst h3
      exact ⟨E, by simp only [adraw, hl, if_true], hr⟩
    · cases h
  | o :: os, j, log, E, L, H, e, L', H', hr, h => by
    simp only [sadraw] at h
    split at h
    · rename_i hw
      split at h
      · rename_i hk
        split at h
        · rename_i v H1 ha
          simp only [adraw, want_same hr hw, aoper_same (known_evlL hr hk), ha, touch_same (known_evlL hr hk)]
          exact sadraw_sound (hr.put _ _) h
        · cases h
      · cases h
    · rename_i hw
      simp only [adraw, want_same hr hw]
      exact sadraw_sound (hr.put _ _) h
    · cases h
end Go.Vi
end SViDigC
