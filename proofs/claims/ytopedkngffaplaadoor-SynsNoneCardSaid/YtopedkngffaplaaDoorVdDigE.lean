/- The interpreter: its shortened form of code is sound; rules to evaluate it in part. -/
import Derived.Test.YtopedkngffaplaaDoorVdDigD
set_option linter.all false
set_option linter.unusedVariables false
set_option linter.unusedSectionVars false
set_option linter.unusedSimpArgs false
section SViDigE
/- THE DIGEST IS SOUND. -/
namespace Go.Vi
open Go
set_option linter.unusedSimpArgs false
set_option linter.unusedVariables false

section
variable {C : Cfg} {call : Callee'} {kp : List Nat}

theorem sexec_seqS {a b : S} {ns : List Nat} {L : Env} {H : Heap} : sexec C call (seqS a b) ns L H = sexec C call (.seq a b) ns L H := by
  unfold seqS
  split
  · simp only [sexec]
  · simp only [sexec]
    cases hq : sexec C call a ns L H with
    | fail => rfl
    | ok e L' H' => cases e <;> rfl
  · rfl
theorem seq_ok {a b : S} {ns : List Nat} {L : Env} {H : Heap} {e : Ex} {L' : Env} {H' : Heap} (h : sexec C call (seqS a b) ns L H = .ok e L' H') :
    (∃ L1 H1, sexec C call a ns L H = .ok .normal L1 H1 ∧ sexec C call b ns L1 H1 = .ok e L' H') ∨ (sexec C call a ns L H = .ok e L' H' ∧ e ≠ .normal) := by
  rw [sexec_seqS] at h
  simp only [sexec] at h
  split at h
  · rename_i L1 H1 ha; exact .inl ⟨L1, H1, ha, h⟩
  · rename_i L1 H1 ha; injection h with h1 h2 h3; subst h1; subst h2; subst h3; exact .inr ⟨ha, by simp⟩
  · rename_i i L1 H1 ha; injection h with h1 h2 h3; subst h1; subst h2; subst h3; exact .inr ⟨ha, by simp⟩
  · cases h

theorem chks_ok {σ : Sg} {dirty : List Nat} {ns : List Nat} : ∀ {ts : List Nat} {s : S} {L : Env} {H : Heap} {e : Ex} {L' : Env} {H' : Heap}, chks σ dirty ts = some s → sexec C call s ns L H = .ok e L' H' →
    e = .normal ∧ L' = L ∧ H' = H ∧ ∀ t, ts.contains t = true → dirty.contains t = true ∨ ∃ x v, fnd σ t = some (none, x) ∧ xev C call L H x = some v
  | [], s, L, H, e, L', H', h, hx => by
    simp only [chks] at h; injection h with h; subst h
    simp only [sexec] at hx; injection hx with h1 h2 h3
    exact ⟨h1.symm, h2.symm, h3.symm, fun t ht => by simp at ht⟩
  | t :: r, s, L, H, e, L', H', h, hx => by
    simp only [chks] at h
    split at h
    · rename_i hd
      obtain ⟨h1, h2, h3, h4⟩ := chks_ok h hx
      refine ⟨h1, h2, h3, fun u hu => ?_⟩
      simp only [List.contains_cons, Bool.or_eq_true, beq_iff_eq] at hu
      rcases hu with hu | hu
      · subst hu; exact .inl hd
      · exact h4 u hu
    · split at h
      · rename_i x hf
        split at h
        · rename_i s' hs
          injection h with h; subst h
          simp only [sexec] at hx
          cases hv : xev C call L H x with
          | none => simp [hv] at hx
          | some v =>
            rw [hv] at hx
            simp only at hx
            obtain ⟨h1, h2, h3, h4⟩ := chks_ok hs hx
            refine ⟨h1, h2, h3, fun u hu => ?_⟩
            simp only [List.contains_cons, Bool.or_eq_true, beq_iff_eq] at hu
            rcases hu with hu | hu
            · subst hu; exact .inr ⟨x, v, hf, hv⟩
            · exact h4 u hu
        · cases h
      · cases h

theorem dirts_ok {σ : Sg} {L : Env} {H : Heap} : ∀ {ts : List Nat} {ds : List (Nat × X)} {vs : List (Nat × AV)}, dirts σ ts = some ds → evDs C call L H ds = some vs →
    (∀ t, ts.contains t = true → ∃ x v, fnd σ t = some (none, x) ∧ xev C call L H x = some v ∧ (t, v) ∈ vs) ∧ (∀ p ∈ vs, ts.contains p.1 = true ∧ ∃ x, fnd σ p.1 = some (none, x) ∧ xev C call L H x = some p.2)
  | [], ds, vs, h, hv => by
    simp only [dirts] at h; injection h with h; subst h
    simp only [evDs] at hv; injection hv with hv; subst hv
    exact ⟨fun t ht => by simp at ht, fun p hp => by cases hp⟩
  | t :: r, ds, vs, h, hv => by
    simp only [dirts] at h
    split at h
    · rename_i x hf
      split at h
      · rename_i ds' hd
        injection h with h; subst h
        simp only [evDs] at hv
        split at hv
        · rename_i v vs' h1 h2
          injection hv with hv; subst hv
          obtain ⟨k1, k2⟩ := dirts_ok hd h2
          refine ⟨fun u hu => ?_, fun p hp => ?_⟩
          · simp only [List.contains_cons, Bool.or_eq_true, beq_iff_eq] at hu
            rcases hu with hu | hu
            · subst hu; exact ⟨x, v, hf, h1, List.mem_cons_self ..⟩
            · obtain ⟨y, w, q1, q2, q3⟩ := k1 u hu; exact ⟨y, w, q1, q2, List.mem_cons_of_mem _ q3⟩
          · rcases List.mem_cons.1 hp with hp | hp
            · subst hp; exact ⟨by simp, x, hf, h1⟩
            · obtain ⟨q1, q2⟩ := k2 p hp; exact ⟨by rw [List.contains_cons, q1, Bool.or_true], q2⟩
        · cases hv
      · cases h
    · cases h

theorem setL_get : ∀ {vs : List (Nat × AV)} {L : Env} {t : Nat} {u : AV}, (setL L vs)[t]? = some u → (t, u) ∈ vs ∨ (L[t]? = some u ∧ ∀ v, (t, v) ∉ vs)
  | [], L, t, u, h => .inr ⟨h, fun v hv => by cases hv⟩
  | (a, w) :: r, L, t, u, h => by
    simp only [setL] at h
    rcases setL_get h with h | ⟨h1, h2⟩
    · exact .inl (List.mem_cons_of_mem _ h)
    · rw [List.getElem?_set] at h1
      split at h1
      · rename_i he
        subst he
        split at h1
        · injection h1 with h1; subst h1; exact .inl (List.mem_cons_self ..)
        · cases h1
      · rename_i he
        refine .inr ⟨h1, fun v hv => ?_⟩
        rcases List.mem_cons.1 hv with hv | hv
        · injection hv with hv1 hv2; exact he hv1.symm
        · exact h2 v hv
theorem setL_length : ∀ {vs : List (Nat × AV)} {L : Env}, (setL L vs).length = L.length
  | [], _ => rfl
  | (a, w) :: r, L => by simp [setL, setL_length]

theorem flush_ok {E L : Env} {H : Heap} {st : DSt} {s : S} {ns : List Nat} {e : Ex} {L' : Env} {H' : Heap} (h : flush st = some s) (hx : sexec C call s ns L H = .ok e L' H') :
    e = .normal ∧ H' = H ∧ PendOk (xev C call L H) st ∧ (Good kp (xev C call L H) E L st → Rl E L' ∧ ∀ t, kp.contains t = false → rd L' t = none) := by
  unfold flush at h
  -- what both ways give
  have key : ∀ ds vs a, chks st.σ st.dirty st.pend = some a → dirts st.σ st.dirty = some ds → ∀ La Ha ea, sexec C call a ns L H = .ok ea La Ha → evDs C call L H ds = some vs →
      PendOk (xev C call L H) st ∧ (Good kp (xev C call L H) E L st → Rl E (setL L vs) ∧ ∀ t, kp.contains t = false → rd (setL L vs) t = none) := by
    intro ds vs a h1 h2 La Ha ea h3 h4
    obtain ⟨_, _, _, k4⟩ := chks_ok h1 h3
    obtain ⟨d1, d2⟩ := dirts_ok h2 h4
    refine ⟨fun t ht g x hf => ?_, fun hg => ⟨⟨by rw [setL_length]; exact hg.len, fun t v hv => ?_⟩, fun t ht => ?_⟩⟩
    · rcases k4 t ht with hd | ⟨y, v, hy, hv⟩
      · obtain ⟨y, v, hy, hv, _⟩ := d1 t hd
        rw [hf] at hy; injection hy with hy; injection hy with hy1 hy2; subst hy1; subst hy2
        exact ⟨true, .nog, fun _ => ⟨v, hv⟩⟩
      · rw [hf] at hy; injection hy with hy; injection hy with hy1 hy2; subst hy1; subst hy2
        exact ⟨true, .nog, fun _ => ⟨v, hv⟩⟩
    · obtain ⟨q1, q2⟩ := rd_some hv
      rcases setL_get q1 with hin | ⟨hl, hno⟩
      · obtain ⟨_, x, hf, hxv⟩ := d2 _ hin
        exact (hg.ent t _ x hf).1 .nog v hxv
      · cases hf : fnd st.σ t with
        | none => exact hg.slot t v hf (rd_of hl q2)
        | some p =>
          obtain ⟨g, x⟩ := p
          by_cases hk : kp.contains t = true
          · obtain ⟨_, hd⟩ := hg.dirt t g x hf hk
            obtain ⟨_, w, _, _, hw⟩ := d1 t hd
            exact absurd hw (hno w)
          · have := hg.eph t (by simpa using hk)
            rw [rd_of hl q2] at this; cases this
    · cases hq : rd (setL L vs) t with
      | none => rfl
      | some v =>
        obtain ⟨q1, q2⟩ := rd_some hq
        rcases setL_get q1 with hin | ⟨hl, _⟩
        · obtain ⟨hd, _⟩ := d2 _ hin
          have := (hg.dirk t hd).1
          rw [ht] at this; cases this
        · have := hg.eph t ht
          rw [rd_of hl q2] at this; cases this
  split at h
  · rename_i a h1 h2
    injection h with h; subst h
    obtain ⟨k1, k2, k3, _⟩ := chks_ok h1 hx
    subst k2; subst k3
    obtain ⟨p1, p2⟩ := key [] [] a h1 h2 L' H' e hx rfl
    exact ⟨k1, rfl, p1, p2⟩
  · rename_i a ds hne0 h1 h2
    injection h with h; subst h
    rcases seq_ok hx with ⟨L1, H1, ha, hb⟩ | ⟨ha, hne'⟩
    · obtain ⟨_, k2, k3, _⟩ := chks_ok h1 ha
      subst k2; subst k3
      simp only [sexec] at hb
      split at hb
      · rename_i vs hvs
        injection hb with b1 b2 b3; subst b2; subst b3
        obtain ⟨p1, p2⟩ := key ds vs a h1 h2 _ _ _ ha hvs
        exact ⟨b1.symm, rfl, p1, p2⟩
      · cases hb
    · exact absurd (chks_ok h1 ha).1 hne'
  · cases h

theorem flushD_ok {E L : Env} {H : Heap} {st st' : DSt} {s : S} {ns : List Nat} {e : Ex} {L' : Env} {H' : Heap} (h : flushD st = some (s, st')) (hx : sexec C call s ns L H = .ok e L' H') :
    e = .normal ∧ H' = H ∧ (PendOk (xev C call L' H) st' → PendOk (xev C call L H) st) ∧ (Good kp (xev C call L H) E L st → Good kp (xev C call L' H) E L' st') ∧ st'.dirty = [] := by
  unfold flushD at h
  split at h
  · rename_i hd
    injection h with h; injection h with h1 h2; subst h1; subst h2
    simp only [sexec] at hx; injection hx with k1 k2 k3; subst k2; subst k3
    exact ⟨k1.symm, rfl, id, id, by simpa using hd⟩
  · split at h
    · rename_i s' hf
      injection h with h; injection h with h1 h2; subst h1; subst h2
      obtain ⟨k1, k2, k3, k4⟩ := flush_ok (kp := kp) (E := E) hf hx
      exact ⟨k1, k2, fun _ => k3, fun hg => Good.empty (k4 hg).1 (k4 hg).2, rfl⟩
    · cases h

/-- what remains to be looked at beside what an operation takes -/
theorem rest_pend {L : Env} {H : Heap} {st : DSt} {os : List Operand} {xs : List X} {c : S} {ns : List Nat} {e : Ex} {L' : Env} {H' : Heap} (hd : st.dirty = []) (hl : lookL kp st.σ none os = some xs) (hc : chks st.σ [] (rmAll (covers st.σ none (tmpsOf os)) st.pend) = some c)
    (hx : sexec C call c ns L H = .ok e L' H') {vs : List AV} (hvs : xevL C call L H xs = some vs) : PendOk (xev C call L H) st := by
  obtain ⟨_, _, _, k4⟩ := chks_ok hc hx
  intro t ht g x hf
  rcases rmAll_contains (ts := covers st.σ none (tmpsOf os)) ht with hin | hin
  · obtain ⟨k1, y, k2⟩ := covers_mem hin
    rw [hf] at k2; injection k2 with k2; injection k2 with k2 k3; subst k2; subst k3
    exact ⟨true, .nog, fun _ => lookL_tmp hl hvs k1 hf⟩
  · rcases k4 t hin with hq | ⟨y, v, hy, hv⟩
    · simp at hq
    · rw [hf] at hy; injection hy with hy; injection hy with hy1 hy2; subst hy1; subst hy2
      exact ⟨true, .nog, fun _ => ⟨v, hv⟩⟩

theorem eph_put {L : Env} {d : Option Nat} {v : AV} {hn : Hint} {o : Oper} (ho : dstOk hn o = true) (hd : o.dst = d) (he : ∀ t, hn.keep.contains t = false → rd L t = none) : ∀ t, hn.keep.contains t = false → rd (putE L d v) t = none := by
  intro t ht
  cases d with
  | none => exact he t ht
  | some d =>
    have hdk : hn.keep.contains d = true := by simpa [dstOk, hd] using ho
    have : t ≠ d := fun hq => by subst hq; rw [ht] at hdk; cases hdk
    unfold rd
    rw [putE_get this]
    exact he t ht

theorem digEff_ok {hn : Hint} {all : Array Oper} {E L : Env} {H : Heap} {st st' : DSt} {o : Oper} {s : S} {ns : List Nat} {e : Ex} {L' : Env} {H' : Heap} (h : digEff hn st o = some (s, st')) (hx : sexec C call s ns L H = .ok e L' H') :
    e = .normal ∧ PendOk (xev C call L H) st ∧ st' = emptySt ∧ (Good hn.keep (xev C call L H) E L st → ∃ E', (∀ os, aops C.P call ns all (o :: os) E H = aops C.P call ns all os E' H') ∧ Good hn.keep (xev C call L' H') E' L' st') := by
  unfold digEff at h
  split at h
  · rename_i hc
    obtain ⟨hgd, hdo⟩ := hc
    split at h
    · rename_i s0 st0 hf
      have hwant : wantE all E o = some true := by unfold wantE; rw [hgd]
      split at h
      · rename_i f args ats hop
        split at h
        · rename_i xf xs c h1 h2 h3
          injection h with h; injection h with h4 h5; subst h4; subst h5
          rcases seq_ok hx with ⟨L1, H1, ha, hb⟩ | ⟨ha, hne⟩
          · obtain ⟨_, rfl, k3, k4, k5⟩ := flushD_ok (kp := hn.keep) (E := E) hf ha
            rcases seq_ok hb with ⟨L2, H2, hb1, hb2⟩ | ⟨hb1, hne⟩
            · obtain ⟨_, rfl, rfl, _⟩ := chks_ok h3 hb1
              simp only [sexec] at hb2
              split at hb2
              · rename_i g cap vs hf1 hxs
                split at hb2
                · rename_i v H3 hcall
                  injection hb2 with q1 q2 q3; subst q1; subst q2; subst q3
                  have hl : lookL hn.keep st0.σ none (f :: args.toList) = some (xf :: xs) := by simp only [lookL, h1, h2]
                  have hvs : xevL C call L2 H2 (xf :: xs) = some (.fn g cap :: vs) := by simp only [xevL, hf1, hxs]
                  refine ⟨rfl, k3 (rest_pend k5 hl h3 hb1 hvs), rfl, fun hg => ?_⟩
                  have hg0 := k4 hg
                  have hev := lookL_ev hg0 .nog hl hvs
                  simp only [evlL, List.cons.injEq] at hev
                  refine ⟨putE E o.dst v, fun os => ?_, Good.empty (Rl.put ⟨hg0.len, fun t u hu => ?_⟩ _ _) (eph_put hdo rfl hg0.eph)⟩
                  · simp only [aops, hwant]
                    have : aoper C.P call ns E H2 o = .ok v H3 := by
                      unfold aoper; rw [hop]; simp only [hev.1, evl, hev.2, hcall]
                    rw [this]
                  · cases hft : fnd st0.σ t with
                    | none => exact hg0.slot t u hft hu
                    | some p =>
                      obtain ⟨g', x'⟩ := p
                      by_cases hkt : hn.keep.contains t = true
                      · have := (hg0.dirt t g' x' hft hkt).2
                        rw [k5] at this; simp at this
                      · have := hg0.eph t (by simpa using hkt); rw [hu] at this; cases this
                · cases hb2
              · cases hb2
            · exact absurd (chks_ok h3 hb1).1 hne
          · exact absurd (flushD_ok (kp := hn.keep) (E := E) hf ha).1 hne
        · cases h
      · rename_i hnc
        split at h
        · rename_i o' os ho
          split at h
          · rename_i xs c h2 h3
            injection h with h; injection h with h4 h5; subst h4; subst h5
            rcases seq_ok hx with ⟨L1, H1, ha, hb⟩ | ⟨ha, hne⟩
            · obtain ⟨_, rfl, k3, k4, k5⟩ := flushD_ok (kp := hn.keep) (E := E) hf ha
              rcases seq_ok hb with ⟨L2, H2, hb1, hb2⟩ | ⟨hb1, hne⟩
              · obtain ⟨_, rfl, rfl, _⟩ := chks_ok h3 hb1
                simp only [sexec] at hb2
                split at hb2
                · rename_i vs hxs
                  split at hb2
                  · rename_i v H3 hcall
                    injection hb2 with q1 q2 q3; subst q1; subst q2; subst q3
                    refine ⟨rfl, k3 (rest_pend k5 h2 h3 hb1 hxs), rfl, fun hg => ?_⟩
                    have hg0 := k4 hg
                    have hev := lookL_ev hg0 .nog h2 hxs
                    refine ⟨putE E o.dst v, fun os' => ?_, Good.empty (Rl.put ⟨hg0.len, fun t u hu => ?_⟩ _ _) (eph_put hdo rfl hg0.eph)⟩
                    · simp only [aops, hwant]
                      have : aoper C.P call ns E H2 o = .ok v H3 := by
                        unfold aoper
                        split
                        · rename_i f args ats hq; exact absurd hq (hnc f args ats)
                        · rw [effO_sound ho, hev, hcall]
                      rw [this]
                    · cases hft : fnd st0.σ t with
                      | none => exact hg0.slot t u hft hu
                      | some p =>
                        obtain ⟨g', x'⟩ := p
                        by_cases hkt : hn.keep.contains t = true
                        · have := (hg0.dirt t g' x' hft hkt).2
                          rw [k5] at this; simp at this
                        · have := hg0.eph t (by simpa using hkt); rw [hu] at this; cases this
                  · cases hb2
                · cases hb2
              · exact absurd (chks_ok h3 hb1).1 hne
            · exact absurd (flushD_ok (kp := hn.keep) (E := E) hf ha).1 hne
          · cases h
        · cases h
    · cases h
  · cases h

theorem saops_len {P : Program} {call : Callee'} {ns : List Nat} {all : Array Oper} : ∀ {os : List Oper} {L : Env} {H : Heap} {e : Ex} {L' : Env} {H' : Heap}, saops P call ns all os L H = .ok e L' H' → L'.length = L.length
  | [], L, H, e, L', H', h => by simp only [saops] at h; injection h with h1 h2 h3; rw [h2]
  | o :: os, L, H, e, L', H', h => by
    have hp : ∀ v, (putE L o.dst v).length = L.length := fun v => by cases o.dst <;> simp [putE]
    simp only [saops] at h
    split at h
    · split at h
      · split at h
        · rw [saops_len h, hp]
        · cases h
      · cases h
    · rw [saops_len h, hp]
    · cases h
theorem sadraw_len {P : Program} {inl : FuncId → Bool} {call : Callee'} {ns : List Nat} {all : Array Oper} : ∀ {os : List Oper} {j : Nat} {log : Log} {L : Env} {H : Heap} {e : Ex} {L' : Env} {H' : Heap}, sadraw P inl call ns all j os L H log = .ok e L' H' → L'.length = L.length
  | [], j, log, L, H, e, L', H', h => by
    simp only [sadraw] at h
    split at h
    · injection h with h1 h2 h3; rw [h2]
    · cases h
  | o :: os, j, log, L, H, e, L', H', h => by
    have hp : ∀ v, (putE L o.dst v).length = L.length := fun v => by cases o.dst <;> simp [putE]
    simp only [sadraw] at h
    split at h
    · split at h
      · split at h
        · rw [sadraw_len h, hp]
        · cases h
      · cases h
    · rw [sadraw_len h, hp]
    · cases h
theorem resetL_len : ∀ {rs : List Nat} {L : Env}, (resetL L rs).length = L.length
  | [], _ => rfl
  | t :: r, L => by simp [resetL, resetL_len]
theorem resetL_get : ∀ {rs : List Nat} {L : Env} {t : Nat} {v : AV}, rd (resetL L rs) t = some v → rd L t = some v
  | [], _, _, _, h => h
  | u :: r, L, t, v, h => by
    have h1 := resetL_get (rs := r) h
    obtain ⟨q1, q2⟩ := rd_some h1
    rw [List.getElem?_set] at q1
    split at q1
    · split at q1
      · injection q1 with q1; exact absurd q1.symm q2
      · cases q1
    · exact rd_of q1 q2

theorem loopN_len {run : List Nat → Env → Heap → Res} {ns : List Nat} (hrun : ∀ ns L H e L' H', run ns L H = .ok e L' H' → L'.length = L.length) : ∀ {n : Nat} {L : Env} {H : Heap} {e : Ex} {L' : Env} {H' : Heap}, loopN run ns n L H = .ok e L' H' → L'.length = L.length
  | 0, L, H, e, L', H', h => by simp [loopN] at h
  | n + 1, L, H, e, L', H', h => by
    simp only [loopN] at h
    split at h
    · rename_i hr; rw [loopN_len hrun h]; simp [scrub, hrun _ _ _ _ _ _ hr]
    · rename_i hr; injection h with h1 h2 h3; subst h2; exact hrun _ _ _ _ _ _ hr
    · rename_i hr; injection h with h1 h2 h3; subst h2; exact hrun _ _ _ _ _ _ hr
    · cases h

theorem sexec_len : ∀ {s : S} {ns : List Nat} {L : Env} {H : Heap} {e : Ex} {L' : Env} {H' : Heap}, sexec C call s ns L H = .ok e L' H' → L'.length = L.length
  | .skip, ns, L, H, e, L', H', h => by simp only [sexec] at h; injection h with h1 h2 h3; rw [h2]
  | .sets ds, ns, L, H, e, L', H', h => by
    simp only [sexec] at h
    split at h
    · injection h with h1 h2 h3; rw [← h2, setL_length]
    · cases h
  | .chk x, ns, L, H, e, L', H', h => by
    simp only [sexec] at h
    split at h
    · injection h with h1 h2 h3; rw [h2]
    · cases h
  | .eff d o xs, ns, L, H, e, L', H', h => by
    simp only [sexec] at h
    split at h
    · split at h
      · injection h with h1 h2 h3; rw [← h2]; cases d <;> simp [putE]
      · cases h
    · cases h
  | .cal d f xs, ns, L, H, e, L', H', h => by
    simp only [sexec] at h
    split at h
    · split at h
      · injection h with h1 h2 h3; rw [← h2]; cases d <;> simp [putE]
      · cases h
    · cases h
  | .raw ops false, ns, L, H, e, L', H', h => by simp only [sexec] at h; exact saops_len h
  | .raw ops true, ns, L, H, e, L', H', h => by simp only [sexec] at h; exact sadraw_len h
  | .seq a b, ns, L, H, e, L', H', h => by
    simp only [sexec] at h
    split at h
    · rename_i ha; rw [sexec_len h, sexec_len ha]
    · rename_i ha; injection h with h1 h2 h3; subst h2; exact sexec_len ha
    · rename_i ha; injection h with h1 h2 h3; subst h2; exact sexec_len ha
    · cases h
  | .cond x a b, ns, L, H, e, L', H', h => by
    simp only [sexec] at h
    split at h
    · exact sexec_len h
    · exact sexec_len h
    · cases h
  | .block id b, ns, L, H, e, L', H', h => by
    simp only [sexec] at h
    split at h
    · rename_i ha; split at h <;> (injection h with h1 h2 h3; subst h2; exact sexec_len ha)
    · rename_i ha; injection h with h1 h2 h3; subst h2; exact sexec_len ha
    · rename_i ha; injection h with h1 h2 h3; subst h2; exact sexec_len ha
    · cases h
  | .loop rs b, ns, L, H, e, L', H', h => by
    simp only [sexec] at h
    exact loopN_len (fun ns L H e L' H' h => by rw [sexec_len h, resetL_len]) h
  | .exit i, ns, L, H, e, L', H', h => by simp only [sexec] at h; injection h with h1 h2 h3; rw [h2]
  | .ret, ns, L, H, e, L', H', h => by simp only [sexec] at h; injection h with h1 h2 h3; rw [h2]

theorem digOps_ok (hcv : CallVal C call) {hn : Hint} {rid : Nat} {all : Array Oper} {ns : List Nat} : ∀ {os : List Oper} {j : Nat} {st st' : DSt} {s : S} {L : Env} {H : Heap} {e : Ex} {L' : Env} {H' : Heap},
    digOps C.P C.inl hn rid all j os st = some (s, st') → sexec C call s ns L H = .ok e L' H' → hn.nt ≤ L.length → Wf st.σ →
    e = .normal ∧ (PendOk (xev C call L' H') st' → PendOk (xev C call L H) st ∧ ∀ E, Good hn.keep (xev C call L H) E L st → ∃ E', aops C.P call ns all os E H = .ok .normal E' H' ∧ Good hn.keep (xev C call L' H') E' L' st')
  | [], j, st, st', s, L, H, e, L', H', h, hx, hlen, hwf => by
    simp only [digOps] at h; injection h with h; injection h with h1 h2; subst h1; subst h2
    simp only [sexec] at hx; injection hx with k1 k2 k3; subst k2; subst k3
    exact ⟨k1.symm, fun hp => ⟨hp, fun E hg => ⟨E, rfl, hg⟩⟩⟩
  | o :: os, j, st, st', s, L, H, e, L', H', h, hx, hlen, hwf => by
    simp only [digOps] at h
    split at h
    · rename_i st1 hp1
      have hwf1 : Wf st1.σ := by
        unfold digPure at hp1
        split at hp1
        · rename_i go d hgo hd
          split at hp1
          · rename_i hc
            split at hp1
            · injection hp1 with hp1; subst hp1
              intro t g y hf
              have hext : ∀ (x : X) g, gin st.σ g = true → gin ((d, go, x) :: st.σ) g = true := by
                intro x g hgi
                cases g with
                | none => rfl
                | some p => simp only [gin, fnd_cons] at hgi ⊢; split <;> simp_all
              simp only [fnd_cons] at hf
              split at hf
              · injection hf with hf; injection hf with hf1 hf2; subst hf1; exact hext _ _ hc.2.1
              · exact hext _ _ (hwf t g y hf)
            · cases hp1
          · cases hp1
        · cases hp1
      obtain ⟨k1, k2⟩ := digOps_ok hcv h hx hlen hwf1
      refine ⟨k1, fun hp => ?_⟩
      obtain ⟨k3, k4⟩ := k2 hp
      refine ⟨digPure_pend hp1 rfl hwf k3, fun E hg => ?_⟩
      obtain ⟨E1, h1, h2⟩ := digPure_sound hcv (ns := ns) hp1 rfl hg k3 hlen
      obtain ⟨E', h3, h4⟩ := k4 E1 h2
      exact ⟨E', by rw [h1, h3], h4⟩
    · split at h
      · rename_i s1 st1 he
        split at h
        · rename_i s2 st2 h2
          injection h with h; injection h with h4 h5; subst h4; subst h5
          rcases seq_ok hx with ⟨L1, H1, ha, hb⟩ | ⟨ha, hne⟩
          · have hst : st1 = emptySt := (digEff_ok (all := all) (E := []) he ha).2.2.1
            obtain ⟨k1, k2⟩ := digOps_ok hcv h2 hb (by rw [sexec_len ha]; exact hlen) (by rw [hst]; intro t g x hf; simp [emptySt, fnd] at hf)
            refine ⟨k1, fun hp => ?_⟩
            obtain ⟨k3, k4⟩ := k2 hp
            refine ⟨(digEff_ok (all := all) (E := []) he ha).2.1, fun E hg => ?_⟩
            obtain ⟨E1, q1, q2⟩ := (digEff_ok (all := all) (E := E) he ha).2.2.2 hg
            obtain ⟨E', h3, h4⟩ := k4 E1 q2
            exact ⟨E', by rw [q1, h3], h4⟩
          · exact absurd (digEff_ok (all := all) (E := []) he ha).1 hne
        · cases h
      · cases h
end
end Go.Vi
end SViDigE
