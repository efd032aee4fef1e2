/- The interpreter: its shortened form of code is sound; rules to evaluate it in part. -/
import Derived.Test.YtopedkngffaplaaDoorVdDigE
set_option linter.all false
set_option linter.unusedVariables false
set_option linter.unusedSectionVars false
set_option linter.unusedSimpArgs false
section SViDigF
/- THE DIGEST OF A FUNCTION answers as the function. -/
namespace Go.Vi
open Go
set_option linter.unusedSimpArgs false
set_option linter.unusedVariables false

section
variable {C : Cfg} {call : Callee'}

theorem digPure_wf {P : Program} {inl : FuncId → Bool} {hn : Hint} {rid j : Nat} {all : Array Oper} {st st1 : DSt} {o : Oper} (hp1 : digPure P inl hn rid j all st o = some st1) (hwf : Wf st.σ) : Wf st1.σ := by
  unfold digPure at hp1
  split at hp1
  · rename_i go d hgo hd
    split at hp1
    · rename_i hc
      split at hp1
      · injection hp1 with hp1; subst hp1
        intro t g y hf
        have hext : ∀ (x : X) g, gin st.σ g = true → gin ((d, go, x) :: st.σ) g = true := by
          intro x g hgi
          cases g with
          | none => rfl
          | some p => simp only [gin, fnd_cons] at hgi ⊢; split <;> simp_all
        simp only [fnd_cons] at hf
        split at hf
        · injection hf with hf; injection hf with hf1 hf2; subst hf1; exact hext _ _ hc.2.1
        · exact hext _ _ (hwf t g y hf)
      · cases hp1
    · cases hp1
  · cases hp1
theorem wf_empty : Wf emptySt.σ := by intro t g x hf; simp [emptySt, fnd] at hf
theorem flushD_wf {st st' : DSt} {s : S} (h : flushD st = some (s, st')) (hwf : Wf st.σ) : Wf st'.σ := by
  unfold flushD at h
  split at h
  · injection h with h; injection h with h1 h2; subst h2; exact hwf
  · split at h
    · injection h with h; injection h with h1 h2; subst h2; exact wf_empty
    · cases h
theorem digEff_empty {hn : Hint} {st st' : DSt} {o : Oper} {s : S} (h : digEff hn st o = some (s, st')) : st' = emptySt := by
  unfold digEff at h
  split at h
  · split at h
    · split at h
      · split at h
        · injection h with h; injection h with h1 h2; exact h2.symm
        · cases h
      · split at h
        · split at h
          · injection h with h; injection h with h1 h2; exact h2.symm
          · cases h
        · cases h
    · cases h
  · cases h
theorem digOps_wf {P : Program} {inl : FuncId → Bool} {hn : Hint} {rid : Nat} {all : Array Oper} : ∀ {os : List Oper} {j : Nat} {st st' : DSt} {s : S}, digOps P inl hn rid all j os st = some (s, st') → Wf st.σ → Wf st'.σ
  | [], j, st, st', s, h, hwf => by simp only [digOps] at h; injection h with h; injection h with h1 h2; subst h2; exact hwf
  | o :: os, j, st, st', s, h, hwf => by
    simp only [digOps] at h
    split at h
    · rename_i st1 hp; exact digOps_wf h (digPure_wf hp hwf)
    · split at h
      · rename_i s1 st1 he
        split at h
        · rename_i s2 st2 h2
          injection h with h; injection h with h4 h5; subst h5
          refine digOps_wf h2 ?_
          rw [digEff_empty he]; exact wf_empty
        · cases h
      · cases h

theorem dig_wf {P : Program} {inl : FuncId → Bool} {hn : Hint} : ∀ {c : Code} {st st' : DSt} {n n' : Nat} {s : S}, dig P inl hn c st n = some (s, st', n') → Wf st.σ → Wf st'.σ
  | .skip, st, st', n, n', s, h, hwf => by simp only [dig] at h; injection h with h; injection h with h1 h2; injection h2 with h2 h3; subst h2; exact hwf
  | .region id ops draw, st, st', n, n', s, h, hwf => by
    simp only [dig] at h
    split at h
    · split at h
      · split at h
        · injection h with h; injection h with h1 h2; injection h2 with h2 h3; subst h2; exact wf_empty
        · cases h
      · split at h
        · rename_i s1 st1 hd
          split at h
          · cases h
          · split at h
            · rename_i s2 st2 hf
              injection h with h; injection h with h1 h2; injection h2 with h2 h3; subst h2
              exact flushD_wf hf (digOps_wf hd wf_empty)
            · cases h
        · cases h
    · cases h
  | .seq a b, st, st', n, n', s, h, hwf => by
    simp only [dig] at h
    split at h
    · rename_i sa st1 n1 ha
      split at h
      · rename_i sb st2 n2 hb
        injection h with h; injection h with h1 h2; injection h2 with h2 h3; subst h2
        exact dig_wf hb (dig_wf ha hwf)
      · cases h
    · cases h
  | .cond c a b, st, st', n, n', s, h, hwf => by
    simp only [dig] at h
    split at h
    · split at h
      · split at h
        · split at h
          · injection h with h; injection h with h1 h2; injection h2 with h2 h3; subst h2; exact wf_empty
          · cases h
        · cases h
      · cases h
    · cases h
  | .block id b, st, st', n, n', s, h, hwf => by
    simp only [dig] at h
    split at h
    · split at h
      · injection h with h; injection h with h1 h2; injection h2 with h2 h3; subst h2; exact wf_empty
      · cases h
    · cases h
  | .loop b, st, st', n, n', s, h, hwf => by
    simp only [dig] at h
    split at h
    · split at h
      · injection h with h; injection h with h1 h2; injection h2 with h2 h3; subst h2; exact wf_empty
      · cases h
    · cases h
  | .exit i, st, st', n, n', s, h, hwf => by
    simp only [dig] at h
    split at h
    · injection h with h; injection h with h1 h2; injection h2 with h2 h3; subst h2; exact wf_empty
    · cases h
  | .ret, st, st', n, n', s, h, hwf => by
    simp only [dig] at h
    split at h
    · injection h with h; injection h with h1 h2; injection h2 with h2 h3; subst h2; exact wf_empty
    · cases h
  | .rangeFunc .., _, _, _, _, _, h, _ => by simp [dig] at h
  | .scope .., _, _, _, _, _, h, _ => by simp [dig] at h
  | .label .., _, _, _, _, _, h, _ => by simp [dig] at h
  | .goto .., _, _, _, _, _, h, _ => by simp [dig] at h

theorem saops_end {P : Program} {hn : Hint} {ns : List Nat} {all : Array Oper} : ∀ {os : List Oper} {L : Env} {H : Heap} {e : Ex} {L' : Env} {H' : Heap}, saops P call ns all os L H = .ok e L' H' → rawOk hn os = true → (∀ t, hn.keep.contains t = false → rd L t = none) → e = .normal ∧ ∀ t, hn.keep.contains t = false → rd L' t = none
  | [], L, H, e, L', H', h, hr, he => by simp only [saops] at h; injection h with h1 h2 h3; subst h2; exact ⟨h1.symm, he⟩
  | o :: os, L, H, e, L', H', h, hr, he => by
    simp only [rawOk, Bool.and_eq_true] at hr
    simp only [saops] at h
    split at h
    · split at h
      · split at h
        · exact saops_end h hr.2 (eph_put hr.1 rfl he)
        · cases h
      · cases h
    · exact saops_end h hr.2 (eph_put hr.1 rfl he)
    · cases h
theorem sadraw_end {P : Program} {inl : FuncId → Bool} {hn : Hint} {ns : List Nat} {all : Array Oper} : ∀ {os : List Oper} {j : Nat} {log : Log} {L : Env} {H : Heap} {e : Ex} {L' : Env} {H' : Heap}, sadraw P inl call ns all j os L H log = .ok e L' H' → rawOk hn os = true → (∀ t, hn.keep.contains t = false → rd L t = none) → e = .normal ∧ ∀ t, hn.keep.contains t = false → rd L' t = none
  | [], j, log, L, H, e, L', H', h, hr, he => by
    simp only [sadraw] at h
    split at h
    · injection h with h1 h2 h3; subst h2; exact ⟨h1.symm, he⟩
    · cases h
  | o :: os, j, log, L, H, e, L', H', h, hr, he => by
    simp only [rawOk, Bool.and_eq_true] at hr
    simp only [sadraw] at h
    split at h
    · split at h
      · split at h
        · exact sadraw_end h hr.2 (eph_put hr.1 rfl he)
        · cases h
      · cases h
    · exact sadraw_end h hr.2 (eph_put hr.1 rfl he)
    · cases h

/-! a region whose order is open, all of whose operations are pure -/
def Quiet (log : Log) : Prop := ∀ t ∈ log, t.writes = [] ∧ t.loud = false
theorem meets_nil (a : List Nat) : meets a [] = false := by
  unfold meets; rw [List.any_eq_false]; intro x _; simp
theorem quiet_ok {all : Array Oper} : ∀ {log : Log}, Quiet log → logOk all log = true
  | [], _ => rfl
  | t :: log, h => by
    simp only [logOk, Bool.and_eq_true]
    refine ⟨List.all_eq_true.2 fun t' ht' => ?_, quiet_ok fun x hx => h x (List.mem_cons_of_mem _ hx)⟩
    obtain ⟨h1, h2⟩ := h t (List.mem_cons_self ..)
    obtain ⟨h3, h4⟩ := h t' (List.mem_cons_of_mem _ ht')
    have : clash t' t = false := by
      unfold clash
      rw [h1, h2, h3, h4, meets_nil]
      simp [meets]
    rw [this]; rfl
theorem quiet_put {t : Touch} {log : Log} (h1 : t.writes = [] ∧ t.loud = false) (h : Quiet log) : Quiet (put1 t log) := by
  unfold put1
  split
  · exact h
  · intro x hx
    rcases List.mem_cons.1 hx with hx | hx
    · subst hx; exact h1
    · exact h x hx
mutual
theorem refs_rowFree : ∀ {v : AV}, rowFree v = true → refs1 v = []
  | .agg cs, h => by simp only [rowFree] at h; simp only [refs1]; exact refsL_rowFree h
  | .tup cs, h => by simp only [rowFree] at h; simp only [refs1]; exact refsL_rowFree h
  | .fn f cs, h => by simp only [rowFree] at h; simp only [refs1]; exact refsL_rowFree h
  | .iface t v, h => by simp only [rowFree] at h; simp only [refs1]; exact refs_rowFree h
  | .undef, _ => rfl
  | .row .., h => by simp [rowFree] at h
  | .bool _, _ => rfl
  | .int _ _, _ => rfl
  | .str _, _ => rfl
  | .nilp, _ => rfl
  | .nils, _ => rfl
  | .view _ _, _ => rfl
  | .nilf, _ => rfl
  | .nili, _ => rfl
  | .ptr .., h => by simp [rowFree] at h
  | .rptr .., h => by simp [rowFree] at h
  | .vptr .., h => by simp [rowFree] at h
  | .iter .., h => by simp [rowFree] at h
theorem refsL_rowFree : ∀ {vs : List AV}, rowFree.rowFreeL vs = true → refs1.refsL vs = []
  | [], _ => rfl
  | v :: vs, h => by
    simp only [rowFree.rowFreeL, Bool.and_eq_true] at h
    simp only [refs1.refsL, refs_rowFree h.1, refsL_rowFree h.2, List.append_nil]
end
theorem news_nil (n : Nat) : news n n = [] := by simp [news]
theorem slOf_noptr {P : Program} {t : TypeId} {x v : AV} {lo hi : Option AV} (h : slOf P t x lo hi = some v) : ∀ b c, x ≠ .ptr b c := by
  intro b c hq
  subst hq
  unfold slOf at h
  split at h
  · cases h
  · rename_i hna
    unfold sliceOf at h
    cases hix : ixOf P t with
    | none => simp [hix] at h
    | some i =>
      rw [hix] at h
      cases i with
      | arr n s => exact absurd hix (hna n s)
      | str => simp at h
      | sl sz b => simp at h

theorem pure_quiet {C : Cfg} {call : Callee'} {E L : Env} {H : Heap} {n j : Nat} {o : Oper} {xs : List X} {x : X} (h : pureX C.P C.inl o.op xs = some x) {v : AV} (hv : xev C call L H x = some v)
    (hl : ∀ vs, xevL C call L H xs = some vs → evlL E (opnds o.op) = vs) : (touch C.inl E n n j o).writes = [] ∧ (touch C.inl E n n j o).loud = false := by
  obtain ⟨dst, op, ty, pos, aft, gd⟩ := o
  simp only at h hl
  cases op with
  | slice t y lo hi mx =>
    cases mx with
    | some m => cases lo <;> cases hi <;> simp [pureX] at h
    | none =>
      have hx : ∃ a b c, slOf C.P t (ev E y) b c = some a := by
        unfold pureX at h
        simp only at h
        split at h
        · cases h
        · split at h
          · injection h with h; subst h; simp only [xev] at hv; split at hv
            · rename_i h1 h2; have := hl _ (xevL_one h1); simp only [opnds, evlL, List.cons.injEq, and_true, Option.toList, List.append_nil, List.nil_append] at this; exact ⟨_, _, _, this ▸ hv⟩
            · cases hv
          · injection h with h; subst h; simp only [xev] at hv; split at hv
            · rename_i h1 h2; have := hl _ (xevL_two h1 h2); simp only [opnds, evlL, List.cons.injEq, and_true, Option.toList, List.append_nil, List.nil_append, List.cons_append] at this; exact ⟨_, _, _, this.1 ▸ hv⟩
            · cases hv
          · injection h with h; subst h; simp only [xev] at hv; split at hv
            · rename_i h1 h2 h3; have := hl _ (xevL_two h1 h3); simp only [opnds, evlL, List.cons.injEq, and_true, Option.toList, List.append_nil, List.nil_append, List.cons_append] at this; exact ⟨_, _, _, this.1 ▸ hv⟩
            · cases hv
          · injection h with h; subst h; simp only [xev] at hv; split at hv
            · rename_i h1 h2 h3; have := hl _ (xevL_three h1 h2 h3); simp only [opnds, evlL, List.cons.injEq, and_true, Option.toList, List.append_nil, List.nil_append, List.cons_append] at this; exact ⟨_, _, _, this.1 ▸ hv⟩
            · cases hv
          · cases h
      obtain ⟨a, b, c, hs⟩ := hx
      simp only [touch]
      split
      · rename_i b' c' hq; exact absurd hq (slOf_noptr hs b' c')
      · exact ⟨rfl, rfl⟩
  | call c =>
    obtain ⟨callee, args, ats⟩ := c
    cases callee with
    | value f =>
      unfold pureX at h
      split at h
      all_goals first | (rename_i heq; cases heq; done) | skip
      · rename_i f' args' ats' w xs' heq
        injection heq with heq; injection heq with h1 h2 h3; injection h1 with h1; subst h1; subst h2
        split at h
        · cases h
        · rename_i hinl
          injection h with h; subst h; simp only [xev] at hv; split at hv
          · rename_i vs h1
            have := hl _ (by simp only [xevL, xev, h1]; rfl)
            simp only [opnds, evlL, List.cons.injEq] at this
            split at hv
            · rename_i hcond
              simp [touch, ev, evl, this.2, refsL_rowFree hcond.2, hcond.1]
            · cases hv
          · cases hv
      · cases h
    | builtin b =>
      cases b <;> first | exact ⟨rfl, rfl⟩ | (unfold pureX at h; split at h <;> first | (rename_i heq; cases heq; done) | cases h)
    | invoke r m => exact ⟨news_nil n, rfl⟩
  | convert s d y => exact ⟨news_nil n, rfl⟩
  | load t a => exact ⟨rfl, rfl⟩
  | store t a y => simp [pureX] at h
  | next it b => simp [pureX] at h
  | buildSlice t m ps => simp [pureX] at h
  | _ => exact ⟨news_nil n, rfl⟩

theorem digX_quiet {C : Cfg} {call : Callee'} {E L : Env} {H : Heap} {st : DSt} {kp : List Nat} (hg : Good kp (xev C call L H) E L st) {go : Gd} {n j : Nat} {o : Oper} {x : X} {cov : List Nat} (h : digX C.P C.inl kp st go o.op = some (x, cov)) (hs : SW (xev C call L H) st.σ go true) {v : AV} (hv : xev C call L H x = some v) :
    (touch C.inl E n n j o).writes = [] ∧ (touch C.inl E n n j o).loud = false := by
  unfold digX at h
  split at h
  · rename_i c a e heq
    obtain ⟨dst, op, ty, pos, aft, gd⟩ := o
    simp only at heq; subst heq
    exact ⟨news_nil n, rfl⟩
  · split at h
    · rename_i xs hl
      split at h
      · rename_i x' hp
        injection h with h; injection h with h3 h4; subst h3
        exact pure_quiet hp hv (fun vs hvs => lookL_ev hg hs hl hvs)
      · cases h
    · cases h

theorem digPure_draw (hcv : CallVal C call) {L : Env} {H : Heap} {kp : List Nat} {E : Env} {st : DSt} {ns : List Nat} {hn : Hint} {rid j : Nat} {all : Array Oper} {o : Oper} {st' : DSt} (h : digPure C.P C.inl hn rid j all st o = some st') (hk : hn.keep = kp) (hg : Good kp (xev C call L H) E L st) (hp : PendOk (xev C call L H) st') {log : Log} (hlog : Quiet log) (hlen : hn.nt ≤ L.length) :
    ∃ E' log', (∀ os, aops C.P call ns all (o :: os) E H = aops C.P call ns all os E' H) ∧ (∀ os, adraw C.P C.inl call ns all j (o :: os) E H log = adraw C.P C.inl call ns all (j + 1) os E' H log') ∧ Quiet log' ∧ Good kp (xev C call L H) E' L st' := by
  subst hk
  obtain ⟨E', h1, h2⟩ := digPure_sound hcv (ns := ns) h rfl hg hp hlen
  have h' := h
  unfold digPure at h'
  split at h'
  · rename_i go d hgo hd
    split at h'
    · rename_i hc
      obtain ⟨hdn, hgin, hfd, _, hkd⟩ := hc
      split at h'
      · rename_i x cov hx
        injection h' with h'; subst h'
        obtain ⟨b, hb, hbx⟩ := hp d (by simp) go x (by simp [fnd])
        have hb' := hb.back hg.wf hfd hgin
        have hwant : wantE all E o = some b := by
          unfold wantE
          unfold gdOf at hgo
          split at hgo
          · rename_i hgn
            injection hgo with hgo; subst hgo
            simp only [hgn]
            cases hb'; rfl
          · rename_i jj w hgn
            split at hgo
            · rename_i t htt
              injection hgo with hgo; subst hgo
              simp only [hgn]
              rw [htt]
              simp only
              cases hb' with
              | hit k1 k2 k3 => rw [(hg.ent _ _ _ k1).1 k2 _ k3]
              | out k1 k2 => rw [(hg.ent _ _ _ k1).2 k2]
            · cases hgo
        have he := h1 []
        cases b with
        | true =>
          obtain ⟨v, hv⟩ := hbx rfl
          have ha := digX_sound hcv hg (ns := ns) hx hb' hv
          simp only [aops, hwant, ha] at he
          injection he with _ he _
          subst he
          refine ⟨_, put1 (ease (touch C.inl E H.length H.length j o) H H) log, h1, fun os => ?_, quiet_put (digX_quiet hg hx hb' hv) hlog, h2⟩
          simp only [adraw, hwant, ha]
        | false =>
          simp only [aops, hwant] at he
          injection he with _ he _
          subst he
          refine ⟨_, log, h1, fun os => ?_, hlog, h2⟩
          simp only [adraw, hwant]
      · cases h'
    · cases h'
  · cases h'

theorem seqS_skip {a b : S} (h : seqS a b = .skip) : a = .skip ∧ b = .skip := by
  unfold seqS at h
  split at h
  · exact ⟨rfl, h⟩
  · exact ⟨h, rfl⟩
  · cases h
theorem digEff_noskip {hn : Hint} {st st' : DSt} {o : Oper} {s : S} (h : digEff hn st o = some (s, st')) : s ≠ .skip := by
  intro hq
  subst hq
  unfold digEff at h
  split at h
  · split at h
    · split at h
      · split at h
        · injection h with h; injection h with h1 h2
          have := (seqS_skip (seqS_skip h1).2).2
          cases this
        · cases h
      · split at h
        · split at h
          · injection h with h; injection h with h1 h2
            have := (seqS_skip (seqS_skip h1).2).2
            cases this
          · cases h
        · cases h
    · cases h
  · cases h

theorem digOps_draw (hcv : CallVal C call) {hn : Hint} {rid : Nat} {all : Array Oper} {ns : List Nat} {L : Env} {H : Heap} : ∀ {os : List Oper} {j : Nat} {st st' : DSt}, digOps C.P C.inl hn rid all j os st = some (.skip, st') → hn.nt ≤ L.length → Wf st.σ → PendOk (xev C call L H) st' →
    ∀ {log : Log}, Quiet log → ∀ E, Good hn.keep (xev C call L H) E L st → ∃ E', adraw C.P C.inl call ns all j os E H log = .ok .normal E' H ∧ Good hn.keep (xev C call L H) E' L st'
  | [], j, st, st', h, hlen, hwf, hp, log, hlog, E, hg => by
    simp only [digOps] at h; injection h with h; injection h with h1 h2; subst h2
    exact ⟨E, by simp only [adraw, quiet_ok hlog, if_true], hg⟩
  | o :: os, j, st, st', h, hlen, hwf, hp, log, hlog, E, hg => by
    simp only [digOps] at h
    split at h
    · rename_i st1 hp1
      have hpend : PendOk (xev C call L H) st1 := by
        obtain ⟨_, k2⟩ := digOps_ok hcv (ns := ns) (L := L) (H := H) (e := .normal) (L' := L) (H' := H) h (by simp only [sexec]) hlen (digPure_wf hp1 hwf)
        exact (k2 hp).1
      obtain ⟨E1, log1, _, h2, h3, h4⟩ := digPure_draw hcv (ns := ns) hp1 rfl hg hpend hlog hlen
      obtain ⟨E', q1, q2⟩ := digOps_draw hcv h hlen (digPure_wf hp1 hwf) hp h3 E1 h4
      exact ⟨E', by rw [h2, q1], q2⟩
    · split at h
      · rename_i s1 st1 he
        split at h
        · injection h with h; injection h with h4 h5
          exact absurd (seqS_skip h4).1 (digEff_noskip he)
        · cases h
      · cases h

/-- how code and its digest go together -/
def Runs (C : Cfg) (call : Callee') (hn : Hint) (run : List Nat → Env → Heap → Res) (run' : List Nat → Env → Heap → Res) : Prop := ∀ ns L H e L' H', run' ns L H = .ok e L' H' → hn.nt ≤ L.length → ∀ E, Rl E L → (∀ t, hn.keep.contains t = false → rd L t = none) →
  ∃ E', run ns E H = .ok e E' H' ∧ Rl E' L' ∧ ∀ t, hn.keep.contains t = false → rd L' t = none

theorem scrub_rd {n : Nat} {L : Env} {t : Nat} {v : AV} (h : rd (scrub n L) t = some v) : rd L t = some v ∧ scrubV n v = v := by
  obtain ⟨q1, q2⟩ := rd_some h
  simp only [scrub, List.getElem?_map, Option.map_eq_some_iff] at q1
  obtain ⟨u, hu, he⟩ := q1
  have : u = v := by
    unfold scrubV at he
    split at he
    · exact he
    · exact absurd he.symm q2
  subst this
  exact ⟨rd_of hu q2, he⟩

theorem loop_runs {hn : Hint} {run run' : List Nat → Env → Heap → Res} (hr : Runs C call hn run run') (hl : ∀ ns L H e L' H', run' ns L H = .ok e L' H' → L'.length = L.length) : ∀ (k : Nat), Runs C call hn (fun ns E H => loopN run ns k E H) (fun ns L H => loopN run' ns k L H)
  | 0 => fun ns L H e L' H' h => by simp [loopN] at h
  | k + 1 => fun ns L H e L' H' h hlen E hE heph => by
    simp only [loopN] at h ⊢
    split at h
    · rename_i L1 H1 h1
      obtain ⟨E1, k1, k2, k3⟩ := hr _ _ _ _ _ _ h1 hlen E hE heph
      rw [k1]
      refine loop_runs hr hl k ns _ _ e L' H' h (by simp [scrub, hl _ _ _ _ _ _ h1]; exact hlen) _ ⟨by simp [scrub, k2.1], fun t v hv => ?_⟩ fun t ht => ?_
      · obtain ⟨q1, q2⟩ := scrub_rd hv
        have := k2.2 t v q1
        simp only [scrub, List.getElem?_map, this, Option.map_some, q2]
      · cases hq : rd (scrub H.length L1) t with
        | none => rfl
        | some v => obtain ⟨q1, _⟩ := scrub_rd hq; rw [k3 t ht] at q1; cases q1
    · rename_i L1 H1 h1
      obtain ⟨E1, k1, k2, k3⟩ := hr _ _ _ _ _ _ h1 hlen E hE heph
      injection h with h2 h3 h4; subst h2; subst h3; subst h4
      rw [k1]; exact ⟨E1, rfl, k2, k3⟩
    · rename_i i L1 H1 h1
      obtain ⟨E1, k1, k2, k3⟩ := hr _ _ _ _ _ _ h1 hlen E hE heph
      injection h with h2 h3 h4; subst h2; subst h3; subst h4
      rw [k1]; exact ⟨E1, rfl, k2, k3⟩
    · cases h

def DigOk (C : Cfg) (call : Callee') (hn : Hint) (c : Code) (st : DSt) (s : S) (st' : DSt) : Prop := ∀ ns L H e L' H', sexec C call s ns L H = .ok e L' H' → hn.nt ≤ L.length → (e = .normal → PendOk (xev C call L' H') st') →
  PendOk (xev C call L H) st ∧ ∀ E, Good hn.keep (xev C call L H) E L st → ∃ E', aexec C call c ns E H = .ok e E' H' ∧ (e = .normal → Good hn.keep (xev C call L' H') E' L' st') ∧ (e ≠ .normal → Rl E' L' ∧ ∀ t, hn.keep.contains t = false → rd L' t = none)

theorem dig_end {hn : Hint} {c : Code} {s f : S} {st' : DSt} (h : DigOk C call hn c emptySt s st') (hf : flush st' = some f) : Runs C call hn (aexec C call c) (sexec C call (seqS s f)) := by
  intro ns L H e L' H' hx hlen E hE heph
  rcases seq_ok hx with ⟨L1, H1, ha, hb⟩ | ⟨ha, hne⟩
  · obtain ⟨k1, rfl, k3, k4⟩ := flush_ok (kp := hn.keep) (E := E) hf hb
    subst k1
    obtain ⟨_, h2⟩ := h ns L H _ _ _ ha hlen (fun _ => k3)
    obtain ⟨E', h3, h4, _⟩ := h2 E (Good.empty hE heph)
    obtain ⟨q1, q2⟩ := (flush_ok (kp := hn.keep) (E := E') hf hb).2.2.2 (h4 rfl)
    exact ⟨E', h3, q1, q2⟩
  · obtain ⟨_, h2⟩ := h ns L H _ _ _ ha hlen (fun hq => absurd hq hne)
    obtain ⟨E', h3, _, h4⟩ := h2 E (Good.empty hE heph)
    exact ⟨E', h3, (h4 hne).1, (h4 hne).2⟩

theorem good_nodirt {kp : List Nat} {ev : X → Option AV} {E L : Env} {st : DSt} (hg : Good kp ev E L st) (hd : st.dirty = []) : Rl E L := ⟨hg.len, fun t u hu => by
  cases hft : fnd st.σ t with
  | none => exact hg.slot t u hft hu
  | some p =>
    obtain ⟨g', x'⟩ := p
    by_cases hkt : kp.contains t = true
    · have := (hg.dirt t g' x' hft hkt).2
      rw [hd] at this; simp at this
    · have := hg.eph t (by simpa using hkt); rw [hu] at this; cases this⟩

/-- THE DIGEST IS SOUND. -/
theorem dig_ok (hcv : CallVal C call) {hn : Hint} : ∀ {c : Code} {st st' : DSt} {n n' : Nat} {s : S}, dig C.P C.inl hn c st n = some (s, st', n') → Wf st.σ → DigOk C call hn c st s st'
  | .skip, st, st', n, n', s, h, hwf => by
    simp only [dig] at h; injection h with h; injection h with h1 h2; injection h2 with h2 h3; subst h1; subst h2
    intro ns L H e L' H' hx hlen hp
    simp only [sexec] at hx; injection hx with k1 k2 k3; subst k1; subst k2; subst k3
    exact ⟨hp rfl, fun E hg => ⟨E, rfl, fun _ => hg, fun hq => absurd rfl hq⟩⟩
  | .region id ops draw, st, st', n, n', s, h, hwf => by
    simp only [dig] at h
    split at h
    · rename_i s0 hf
      split at h
      · split at h
        · rename_i hraw
          injection h with h; injection h with h1 h2; injection h2 with h2 h3; subst h1; subst h2
          intro ns L H e L' H' hx hlen hp
          rcases seq_ok hx with ⟨L1, H1, ha, hb⟩ | ⟨ha, hne⟩
          · obtain ⟨_, rfl, k3, _⟩ := flush_ok (kp := hn.keep) (E := []) hf ha
            refine ⟨k3, fun E hg => ?_⟩
            obtain ⟨q1, q2⟩ := (flush_ok (kp := hn.keep) (E := E) hf ha).2.2.2 hg
            cases draw with
            | false =>
              simp only [sexec] at hb
              obtain ⟨E', w1, w2⟩ := saops_sound q1 hb
              obtain ⟨w3, w4⟩ := saops_end hb hraw q2
              exact ⟨E', by simp only [aexec]; exact w1, fun _ => Good.empty w2 w4, fun hq => absurd w3 hq⟩
            | true =>
              simp only [sexec] at hb
              obtain ⟨E', w1, w2⟩ := sadraw_sound q1 hb
              obtain ⟨w3, w4⟩ := sadraw_end hb hraw q2
              exact ⟨E', by simp only [aexec]; exact w1, fun _ => Good.empty w2 w4, fun hq => absurd w3 hq⟩
          · exact absurd (flush_ok (kp := hn.keep) (E := []) hf ha).1 hne
        · cases h
      · rename_i hnd
        split at h
        · rename_i s1 st1 hd
          split at h
          · cases h
          · rename_i hdr
            split at h
            · rename_i s2 st2 hf2
              injection h with h; injection h with h1 h2; injection h2 with h2 h3; subst h1; subst h2
              intro ns L H e L' H' hx hlen hp
              rcases seq_ok hx with ⟨L1, H1, ha, hb⟩ | ⟨ha, hne⟩
              · obtain ⟨_, rfl, k3, _⟩ := flush_ok (kp := hn.keep) (E := []) hf ha
                refine ⟨k3, fun E hg => ?_⟩
                obtain ⟨q1, q2⟩ := (flush_ok (kp := hn.keep) (E := E) hf ha).2.2.2 hg
                have hl1 : hn.nt ≤ L1.length := by rw [sexec_len ha]; exact hlen
                rcases seq_ok hb with ⟨L2, H2, hb1, hb2⟩ | ⟨hb1, hne⟩
                · obtain ⟨w0, rfl, w1, w2, _⟩ := flushD_ok (kp := hn.keep) (E := E) hf2 hb2
                  subst w0
                  obtain ⟨_, w3⟩ := digOps_ok hcv hd hb1 hl1 wf_empty
                  obtain ⟨_, w4⟩ := w3 (w1 (hp rfl))
                  cases draw with
                  | false =>
                    obtain ⟨E', w5, w6⟩ := w4 E (Good.empty q1 q2)
                    exact ⟨E', by simp only [aexec]; exact w5, fun _ => (flushD_ok (kp := hn.keep) (E := E') hf2 hb2).2.2.2.1 w6, fun hq => absurd rfl hq⟩
                  | true =>
                    have hsk : s1 = .skip := by
                      cases s1 <;> simp_all [isSkip]
                    subst hsk
                    simp only [sexec] at hb1; injection hb1 with z1 z2 z3; subst z2; subst z3
                    obtain ⟨E', w5, w6⟩ := digOps_draw hcv hd hl1 wf_empty (w1 (hp rfl)) (log := []) (fun t ht => by cases ht) E (Good.empty q1 q2)
                    exact ⟨E', by simp only [aexec]; exact w5, fun _ => (flushD_ok (kp := hn.keep) (E := E') hf2 hb2).2.2.2.1 w6, fun hq => absurd rfl hq⟩
                · exact absurd (digOps_ok hcv hd hb1 hl1 wf_empty).1 hne
              · exact absurd (flush_ok (kp := hn.keep) (E := []) hf ha).1 hne
            · cases h
        · cases h
    · cases h
  | .seq a b, st, st', n, n', s, h, hwf => by
    simp only [dig] at h
    split at h
    · rename_i sa st1 n1 ha
      split at h
      · rename_i sb st2 n2 hb
        injection h with h; injection h with h1 h2; injection h2 with h2 h3; subst h1; subst h2
        intro ns L H e L' H' hx hlen hp
        have iha := dig_ok hcv ha hwf
        have ihb := dig_ok hcv hb (dig_wf ha hwf)
        rcases seq_ok hx with ⟨L1, H1, hxa, hxb⟩ | ⟨hxa, hne⟩
        · obtain ⟨p1, p2⟩ := ihb ns L1 H1 e L' H' hxb (by rw [sexec_len hxa]; exact hlen) hp
          obtain ⟨p3, p4⟩ := iha ns L H .normal L1 H1 hxa hlen (fun _ => p1)
          refine ⟨p3, fun E hg => ?_⟩
          obtain ⟨E1, q1, q2, _⟩ := p4 E hg
          obtain ⟨E2, q3, q4, q5⟩ := p2 E1 (q2 rfl)
          exact ⟨E2, by simp only [aexec, q1, q3], q4, q5⟩
        · obtain ⟨p3, p4⟩ := iha ns L H e L' H' hxa hlen (fun hq => absurd hq hne)
          refine ⟨p3, fun E hg => ?_⟩
          obtain ⟨E1, q1, _, q2⟩ := p4 E hg
          refine ⟨E1, ?_, fun hq => absurd hq hne, q2⟩
          simp only [aexec, q1]
          cases e <;> first | rfl | exact absurd rfl hne
      · cases h
    · cases h
  | .cond c a b, st, st', n, n', s, h, hwf => by
    simp only [dig] at h
    split at h
    · rename_i s0 st0 hf
      split at h
      · rename_i x k sa sta n1 hl hc ha
        split at h
        · rename_i fa sb stb n2 hfa hb
          split at h
          · rename_i fb hfb
            injection h with h; injection h with h1 h2; injection h2 with h2 h3; subst h1; subst h2
            have iha := dig_end (dig_ok hcv ha wf_empty) hfa
            have ihb := dig_end (dig_ok hcv hb wf_empty) hfb
            intro ns L H e L' H' hx hlen hp
            rcases seq_ok hx with ⟨L1, H1, hx0, hx1⟩ | ⟨hx0, hne⟩
            · obtain ⟨_, rfl, k3, k4, k5⟩ := flushD_ok (kp := hn.keep) (E := []) hf hx0
              rcases seq_ok hx1 with ⟨L2, H2, hx1, hx2⟩ | ⟨hx1, hne⟩
              · obtain ⟨_, rfl, rfl, _⟩ := chks_ok hc hx1
                have hl2 : hn.nt ≤ L2.length := by rw [sexec_len hx0]; exact hlen
                simp only [sexec] at hx2
                have hll : lookL hn.keep st0.σ none [c] = some [x] := by simp only [lookL, hl]
                split at hx2
                · rename_i hxv
                  refine ⟨k3 (rest_pend k5 hll hc hx1 (xevL_one hxv)), fun E hg => ?_⟩
                  have hg0 := (flushD_ok (kp := hn.keep) (E := E) hf hx0).2.2.2.1 hg
                  obtain ⟨E', q1, q2, q3⟩ := iha ns L2 _ e L' H' hx2 hl2 E (good_nodirt hg0 k5) hg0.eph
                  exact ⟨E', by simp only [aexec, look_ev hg0 .nog hl hxv]; exact q1, fun _ => Good.empty q2 q3, fun _ => ⟨q2, q3⟩⟩
                · rename_i hxv
                  refine ⟨k3 (rest_pend k5 hll hc hx1 (xevL_one hxv)), fun E hg => ?_⟩
                  have hg0 := (flushD_ok (kp := hn.keep) (E := E) hf hx0).2.2.2.1 hg
                  obtain ⟨E', q1, q2, q3⟩ := ihb ns L2 _ e L' H' hx2 hl2 E (good_nodirt hg0 k5) hg0.eph
                  exact ⟨E', by simp only [aexec, look_ev hg0 .nog hl hxv]; exact q1, fun _ => Good.empty q2 q3, fun _ => ⟨q2, q3⟩⟩
                · cases hx2
              · exact absurd (chks_ok hc hx1).1 hne
            · exact absurd (flushD_ok (kp := hn.keep) (E := []) hf hx0).1 hne
          · cases h
        · cases h
      · cases h
    · cases h
  | .block id b, st, st', n, n', s, h, hwf => by
    simp only [dig] at h
    split at h
    · rename_i s0 sb stb n1 hf hb
      split at h
      · rename_i fb hfb
        injection h with h; injection h with h1 h2; injection h2 with h2 h3; subst h1; subst h2
        have ihb := dig_end (dig_ok hcv hb wf_empty) hfb
        intro ns L H e L' H' hx hlen hp
        rcases seq_ok hx with ⟨L1, H1, hx0, hx1⟩ | ⟨hx0, hne⟩
        · obtain ⟨_, rfl, k3, _⟩ := flush_ok (kp := hn.keep) (E := []) hf hx0
          refine ⟨k3, fun E hg => ?_⟩
          obtain ⟨q1, q2⟩ := (flush_ok (kp := hn.keep) (E := E) hf hx0).2.2.2 hg
          have hl1 : hn.nt ≤ L1.length := by rw [sexec_len hx0]; exact hlen
          simp only [sexec] at hx1
          split at hx1
          · rename_i i L2 H2 hxb
            obtain ⟨E', w1, w2, w3⟩ := ihb ns L1 _ _ L2 H2 hxb hl1 E q1 q2
            split at hx1
            · rename_i hi
              injection hx1 with z1 z2 z3; subst z1; subst z2; subst z3
              exact ⟨E', by simp only [aexec, w1, if_pos hi], fun _ => Good.empty w2 w3, fun _ => ⟨w2, w3⟩⟩
            · rename_i hi
              injection hx1 with z1 z2 z3; subst z1; subst z2; subst z3
              exact ⟨E', by simp only [aexec, w1, if_neg hi], fun _ => Good.empty w2 w3, fun _ => ⟨w2, w3⟩⟩
          · rename_i L2 H2 hxb
            obtain ⟨E', w1, w2, w3⟩ := ihb ns L1 _ _ L2 H2 hxb hl1 E q1 q2
            injection hx1 with z1 z2 z3; subst z1; subst z2; subst z3
            exact ⟨E', by simp only [aexec, w1], fun _ => Good.empty w2 w3, fun _ => ⟨w2, w3⟩⟩
          · rename_i L2 H2 hxb
            obtain ⟨E', w1, w2, w3⟩ := ihb ns L1 _ _ L2 H2 hxb hl1 E q1 q2
            injection hx1 with z1 z2 z3; subst z1; subst z2; subst z3
            exact ⟨E', by simp only [aexec, w1], fun _ => Good.empty w2 w3, fun _ => ⟨w2, w3⟩⟩
          · cases hx1
        · exact absurd (flush_ok (kp := hn.keep) (E := []) hf hx0).1 hne
      · cases h
    · cases h
  | .loop b, st, st', n, n', s, h, hwf => by
    simp only [dig] at h
    split at h
    · rename_i s0 sb stb n1 hf hb
      split at h
      · rename_i fb hfb
        injection h with h; injection h with h1 h2; injection h2 with h2 h3; subst h1; subst h2
        have ihb := dig_end (dig_ok hcv hb wf_empty) hfb
        intro ns L H e L' H' hx hlen hp
        rcases seq_ok hx with ⟨L1, H1, hx0, hx1⟩ | ⟨hx0, hne⟩
        · obtain ⟨_, rfl, k3, _⟩ := flush_ok (kp := hn.keep) (E := []) hf hx0
          refine ⟨k3, fun E hg => ?_⟩
          obtain ⟨q1, q2⟩ := (flush_ok (kp := hn.keep) (E := E) hf hx0).2.2.2 hg
          have hl1 : hn.nt ≤ L1.length := by rw [sexec_len hx0]; exact hlen
          simp only [sexec] at hx1
          have hrun : Runs C call hn (aexec C call b) (fun ns L H => sexec C call (seqS sb fb) ns (resetL L ((hn.rs[n]?).getD [])) H) := by
            intro ns L H e L' H' hx hlen E hE heph
            exact ihb ns _ H e L' H' hx (by rw [resetL_len]; exact hlen) E ⟨by rw [resetL_len]; exact hE.1, fun t v hv => hE.2 t v (resetL_get hv)⟩ fun t ht => by
              cases hq : rd (resetL L ((hn.rs[n]?).getD [])) t with
              | none => rfl
              | some v => have := resetL_get hq; rw [heph t ht] at this; cases this
          obtain ⟨E', w1, w2, w3⟩ := loop_runs hrun (fun ns L H e L' H' h => by rw [sexec_len h, resetL_len]) C.rounds ns L1 _ e L' H' hx1 hl1 E q1 q2
          exact ⟨E', by simp only [aexec]; exact w1, fun _ => Good.empty w2 w3, fun _ => ⟨w2, w3⟩⟩
        · exact absurd (flush_ok (kp := hn.keep) (E := []) hf hx0).1 hne
      · cases h
    · cases h
  | .exit i, st, st', n, n', s, h, hwf => by
    simp only [dig] at h
    split at h
    · rename_i s0 hf
      injection h with h; injection h with h1 h2; injection h2 with h2 h3; subst h1; subst h2
      intro ns L H e L' H' hx hlen hp
      rcases seq_ok hx with ⟨L1, H1, hx0, hx1⟩ | ⟨hx0, hne⟩
      · obtain ⟨_, rfl, k3, _⟩ := flush_ok (kp := hn.keep) (E := []) hf hx0
        simp only [sexec] at hx1; injection hx1 with z1 z2 z3; subst z1; subst z2; subst z3
        refine ⟨k3, fun E hg => ?_⟩
        obtain ⟨q1, q2⟩ := (flush_ok (kp := hn.keep) (E := E) hf hx0).2.2.2 hg
        exact ⟨E, rfl, fun hq => (by cases hq), fun _ => ⟨q1, q2⟩⟩
      · exact absurd (flush_ok (kp := hn.keep) (E := []) hf hx0).1 hne
    · cases h
  | .ret, st, st', n, n', s, h, hwf => by
    simp only [dig] at h
    split at h
    · rename_i s0 hf
      injection h with h; injection h with h1 h2; injection h2 with h2 h3; subst h1; subst h2
      intro ns L H e L' H' hx hlen hp
      rcases seq_ok hx with ⟨L1, H1, hx0, hx1⟩ | ⟨hx0, hne⟩
      · obtain ⟨_, rfl, k3, _⟩ := flush_ok (kp := hn.keep) (E := []) hf hx0
        simp only [sexec] at hx1; injection hx1 with z1 z2 z3; subst z1; subst z2; subst z3
        refine ⟨k3, fun E hg => ?_⟩
        obtain ⟨q1, q2⟩ := (flush_ok (kp := hn.keep) (E := E) hf hx0).2.2.2 hg
        exact ⟨E, rfl, fun hq => (by cases hq), fun _ => ⟨q1, q2⟩⟩
      · exact absurd (flush_ok (kp := hn.keep) (E := []) hf hx0).1 hne
    · cases h
  | .rangeFunc .., _, _, _, _, _, h, _ => by simp [dig] at h
  | .scope .., _, _, _, _, _, h, _ => by simp [dig] at h
  | .label .., _, _, _, _, _, h, _ => by simp [dig] at h
  | .goto .., _, _, _, _, _, h, _ => by simp [dig] at h

/-! functions -/
def env0S (nt : Nat) (args : List AV) : Env := args ++ List.replicate (nt - args.length) .undef
def getResS (P : Program) (L : Env) (H : Heap) : List ResultVar → Option (List AV)
  | [] => some []
  | .tmp t :: r => match rd L t with
    | some v => match getResS P L H r with
      | some l => some (v :: l)
      | none => none
    | none => none
  | .cell t ty :: r => match rd L t with
    | some a => match shp P ty with
      | some (g, n) => match getAt H g n a with
        | some v => match getResS P L H r with
          | some l => some (v :: l)
          | none => none
        | none => none
      | none => none
    | none => none
theorem getResS_ok {P : Program} {E L : Env} {H : Heap} (h : Rl E L) : ∀ {r : List ResultVar} {l : List AV}, getResS P L H r = some l → getRes P E H r = some l
  | [], l, hx => by simpa [getResS, getRes] using hx
  | .tmp t :: r, l, hx => by
    simp only [getResS] at hx
    split at hx
    · rename_i v hv
      split at hx
      · rename_i l' hl
        simp only [getRes, h.2 t v hv, getResS_ok h hl]; exact hx
      · cases hx
    · cases hx
  | .cell t ty :: r, l, hx => by
    simp only [getResS] at hx
    split at hx
    · rename_i v hv
      split at hx
      · rename_i g n hs
        split at hx
        · rename_i u hu
          split at hx
          · rename_i l' hl
            simp only [getRes, h.2 t v hv, hs, hu, getResS_ok h hl]; exact hx
          · cases hx
        · cases hx
      · cases hx
    · cases hx

/-- what is handed back: of a value call; of one on the caller's blocks -/
def endV (P : Program) (rs : List ResultVar) (L : Env) (H : Heap) : Option AV := match getResS P L H rs with
  | some l => match frz (packRes l) H with
    | some (v, _) => some v
    | none => none
  | none => none
def endI (P : Program) (rs : List ResultVar) (n0 : Nat) (L : Env) (H : Heap) : VRes := match getResS P L H rs with
  | some l => match expo n0 H (packRes l) [] with
    | some (v, new) => .ok v (H.take n0 ++ new.map (·.2))
    | none => .fail
  | none => .fail
def finV (P : Program) (rs : List ResultVar) : Res → Option AV
  | .ok .normal L H => endV P rs L H
  | .ok .ret L H => endV P rs L H
  | .ok (.exit _) _ _ => none
  | .fail => none
def finI (P : Program) (rs : List ResultVar) (n0 : Nat) : Res → VRes
  | .ok .normal L H => endI P rs n0 L H
  | .ok .ret L H => endI P rs n0 L H
  | .ok (.exit _) _ _ => .fail
  | .fail => .fail

theorem env0_rl {fn : Func} {hn : Hint} {args : List AV} (hk : (List.range args.length).all (fun t => hn.keep.contains t) = true) : Rl (env0 fn args) (env0S fn.ntmps args) ∧ ∀ t, hn.keep.contains t = false → rd (env0S fn.ntmps args) t = none := by
  have hget : ∀ t v, rd (env0S fn.ntmps args) t = some v → t < args.length ∧ args[t]? = some v := by
    intro t v hv
    obtain ⟨q1, q2⟩ := rd_some hv
    unfold env0S at q1
    rcases Nat.lt_or_ge t args.length with h | h
    · rw [List.getElem?_append_left h] at q1; exact ⟨h, q1⟩
    · rw [List.getElem?_append_right h, List.getElem?_replicate] at q1
      split at q1
      · injection q1 with q1; exact absurd q1.symm q2
      · cases q1
  refine ⟨⟨by simp [env0, env0S], fun t v hv => ?_⟩, fun t ht => ?_⟩
  · obtain ⟨h1, h2⟩ := hget t v hv
    unfold env0
    rw [List.getElem?_append_left h1, h2]
  · cases hq : rd (env0S fn.ntmps args) t with
    | none => rfl
    | some v =>
      obtain ⟨h1, _⟩ := hget t v hq
      rw [List.all_eq_true] at hk
      have := hk t (List.mem_range.2 h1)
      rw [ht] at this; cases this

theorem fn_runs (hcv : CallVal C call) {hn : Hint} {np : Nat} {code : Code} {s : S} (hd : digFn C.P C.inl hn np code = some s) : (List.range np).all (fun t => hn.keep.contains t) = true ∧ Runs C call hn (aexec C call code) (sexec C call s) := by
  unfold digFn at hd
  split at hd
  · rename_i hk
    split at hd
    · rename_i s1 st1 n1 h1
      split at hd
      · rename_i f hf
        injection hd with hd; subst hd
        exact ⟨hk, dig_end (dig_ok hcv h1 wf_empty) hf⟩
      · cases hd
    · cases hd
  · cases hd

theorem vcall_dig (hcv : CallVal C call) {f : FuncId} {fn : Func} {code : Code} {hn : Hint} {s : S} {args : List AV} {v : AV} {nt : Nat} {rs : List ResultVar} (hprim : C.prim f args = none) (hf : C.P.funcs[f]? = some fn) (hc : okCode C.P f = some code) (hnt : fn.ntmps = nt) (hrs : fn.results.toList = rs) (hhn : hn.nt = nt)
    (hd : digFn C.P C.inl hn args.length code = some s) (h : finV C.P rs (sexec C call s [] (env0S nt args) []) = some v) : vcall C call f args = some v := by
  obtain ⟨hk, hr⟩ := fn_runs hcv hd
  subst hnt; subst hrs
  obtain ⟨e1, e2⟩ := env0_rl (fn := fn) hk
  unfold vcall
  rw [hprim]
  simp only [hf, hc]
  cases hx : sexec C call s [] (env0S fn.ntmps args) [] with
  | fail => rw [hx] at h; cases h
  | ok e L' H' =>
    rw [hx] at h
    obtain ⟨E', h1, h2, _⟩ := hr [] _ [] e L' H' hx (by rw [hhn]; simp [env0S]; omega) _ e1 e2
    rw [h1]
    have key : endV C.P fn.results.toList L' H' = some v → leaveVal C.P fn E' H' = some v := by
      intro hq
      unfold endV at hq
      split at hq
      · rename_i l hl
        unfold leaveVal results'
        rw [getResS_ok h2 hl]
        exact hq
      · cases hq
    cases e with
    | normal => exact key h
    | ret => exact key h
    | exit i => cases h

theorem icall_dig (hcv : CallVal C call) {f : FuncId} {fn : Func} {code : Code} {hn : Hint} {s : S} {args : List AV} {v : AV} {ns : List Nat} {H H' : Heap} {nt : Nat} {rs : List ResultVar} (hf : C.P.funcs[f]? = some fn) (hc : okCode C.P f = some code) (hnt : fn.ntmps = nt) (hrs : fn.results.toList = rs) (hhn : hn.nt = nt)
    (hd : digFn C.P C.inl hn args.length code = some s) (h : finI C.P rs H.length (sexec C call s (H.length :: ns) (env0S nt args) H) = .ok v H') : icall C call ns f args H = .ok v H' := by
  obtain ⟨hk, hr⟩ := fn_runs hcv hd
  subst hnt; subst hrs
  obtain ⟨e1, e2⟩ := env0_rl (fn := fn) hk
  unfold icall
  simp only [hf, hc]
  cases hx : sexec C call s (H.length :: ns) (env0S fn.ntmps args) H with
  | fail => rw [hx] at h; cases h
  | ok e L' H1 =>
    rw [hx] at h
    obtain ⟨E', h1, h2, _⟩ := hr _ _ H e L' H1 hx (by rw [hhn]; simp [env0S]; omega) _ e1 e2
    rw [h1]
    have key : endI C.P fn.results.toList H.length L' H1 = .ok v H' → leaveInl C.P fn H.length E' H1 = .ok v H' := by
      intro hq
      unfold endI at hq
      split at hq
      · rename_i l hl
        unfold leaveInl results'
        rw [getResS_ok h2 hl]
        exact hq
      · cases hq
    cases e with
    | normal => exact key h
    | ret => exact key h
    | exit i => cases h

mutual
theorem frz_rowFree : ∀ {v : AV} {H H' : Heap}, rowFree v = true → frz v H = (match frz v H' with
    | some (u, _) => some (u, H)
    | none => none)
  | .agg cs, H, H', h => by
    simp only [rowFree] at h
    simp only [frz]
    rw [frzL_rowFree (H' := H') h]
    cases frzL cs H' with
    | none => rfl
    | some p => rfl
  | .tup cs, H, H', h => by
    simp only [rowFree] at h
    simp only [frz]
    rw [frzL_rowFree (H' := H') h]
    cases frzL cs H' with
    | none => rfl
    | some p => rfl
  | .fn f cs, H, H', h => by
    simp only [rowFree] at h
    simp only [frz]
    rw [frzL_rowFree (H' := H') h]
    cases frzL cs H' with
    | none => rfl
    | some p => rfl
  | .iface t v, H, H', h => by
    simp only [rowFree] at h
    simp only [frz]
    rw [frz_rowFree (H' := H') h]
    cases frz v H' with
    | none => rfl
    | some p => rfl
  | .undef, _, _, h => by simp [rowFree] at h
  | .row .., _, _, h => by simp [rowFree] at h
  | .bool _, _, _, _ => rfl
  | .int _ _, _, _, _ => rfl
  | .str _, _, _, _ => rfl
  | .nilp, _, _, _ => rfl
  | .nils, _, _, _ => rfl
  | .view _ _, _, _, _ => rfl
  | .nilf, _, _, _ => rfl
  | .nili, _, _, _ => rfl
  | .ptr .., _, _, h => by simp [rowFree] at h
  | .rptr .., _, _, h => by simp [rowFree] at h
  | .vptr .., _, _, h => by simp [rowFree] at h
  | .iter .., _, _, h => by simp [rowFree] at h
theorem frzL_rowFree : ∀ {vs : List AV} {H H' : Heap}, rowFree.rowFreeL vs = true → frzL vs H = (match frzL vs H' with
    | some (u, _) => some (u, H)
    | none => none)
  | [], _, _, _ => rfl
  | v :: vs, H, H', h => by
    simp only [rowFree.rowFreeL, Bool.and_eq_true] at h
    simp only [frzL]
    rw [frz_rowFree (H' := H') h.1]
    cases hv : frz v H' with
    | none => rfl
    | some p =>
      obtain ⟨v', H1⟩ := p
      simp only
      rw [frzL_rowFree (H' := H1) h.2]
      cases frzL vs H1 with
      | none => rfl
      | some q => rfl
end

theorem acall_val (C : Cfg) : ∀ n, CallVal C (acall C n)
  | 0 => fun ns f vs H _ _ => rfl
  | n + 1 => fun ns f vs H hi hr => by
    simp only [acall, hi]
    rw [if_neg (by simp), if_neg (by simp)]
    rw [frzL_rowFree (H := H) (H' := H) hr]
    cases frzL vs H with
    | none => rfl
    | some p =>
      obtain ⟨vs', H1⟩ := p
      simp only
      cases vcall C (acall C n) f vs' <;> rfl
end
end Go.Vi
end SViDigF
