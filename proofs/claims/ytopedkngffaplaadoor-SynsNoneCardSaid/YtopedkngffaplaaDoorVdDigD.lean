/- The interpreter: its shortened form of code is sound; rules to evaluate it in part. -/
import Derived.Test.YtopedkngffaplaaDoorVdDigC
set_option linter.all false
set_option linter.unusedVariables false
set_option linter.unusedSectionVars false
set_option linter.unusedSimpArgs false
section SViDigD
/- A region digested: one operation after the other. -/
namespace Go.Vi
open Go
set_option linter.unusedSimpArgs false

/-- whether a guard is met -/
inductive SW (ev : X → Option AV) (σ : Sg) : Gd → Bool → Prop
  | nog : SW ev σ none true
  | hit {t : Nat} {w : Bool} {g : Gd} {c : X} {b : Bool} : fnd σ t = some (g, c) → SW ev σ g true → ev c = some (.bool b) → SW ev σ (some (t, w)) (b == w)
  | out {t : Nat} {w : Bool} {g : Gd} {c : X} : fnd σ t = some (g, c) → SW ev σ g false → SW ev σ (some (t, w)) false

theorem SW.det {ev : X → Option AV} {σ : Sg} {g : Gd} {b : Bool} (h : SW ev σ g b) : ∀ {b'}, SW ev σ g b' → b = b' := by
  induction h with
  | nog => intro b' h; cases h; rfl
  | hit h1 h2 h3 ih =>
    intro b' h
    cases h with
    | hit k1 k2 k3 =>
      rw [h1] at k1; injection k1 with k1; injection k1 with k1 k4; subst k1; subst k4
      rw [h3] at k3; injection k3 with k3; injection k3 with k3; subst k3; rfl
    | out k1 k2 =>
      rw [h1] at k1; injection k1 with k1; injection k1 with k1 k4; subst k1
      cases ih k2
  | out h1 h2 ih =>
    intro b' h
    cases h with
    | hit k1 k2 k3 =>
      rw [h1] at k1; injection k1 with k1; injection k1 with k1 k4; subst k1
      cases ih k2
    | out k1 k2 => rfl

theorem gdEq_eq {a b : Gd} (h : gdEq a b = true) : a = b := by
  cases a with
  | none => cases b with
    | none => rfl
    | some q => simp [gdEq] at h
  | some p => cases b with
    | none => simp [gdEq] at h
    | some q =>
      obtain ⟨t, w⟩ := p; obtain ⟨u, v⟩ := q
      simp only [gdEq, Bool.and_eq_true, beq_iff_eq] at h
      rw [h.1, h.2]

theorem impl_sw {ev : X → Option AV} {σ : Sg} : ∀ {n : Nat} {go g : Gd}, impl σ n go g = true → SW ev σ go true → SW ev σ g true
  | n, go, none, _, _ => .nog
  | 0, go, some g, h, _ => by simp [impl] at h
  | n + 1, go, some g, h, hs => by
    simp only [impl, Bool.or_eq_true] at h
    rcases h with h | h
    · rw [← gdEq_eq h]; exact hs
    · split at h
      · rename_i t w
        split at h
        · rename_i g' x hf
          refine impl_sw h ?_
          generalize hb : true = bb at hs
          cases hs with
          | hit k1 k2 k3 => rw [hf] at k1; injection k1 with k1; injection k1 with k1 k4; subst k1; rw [← hb]; exact k2
          | out k1 k2 => cases hb
        · cases h
      · cases h

theorem fnd_cons {t u : Nat} {e : Gd × X} {σ : Sg} : fnd ((t, e) :: σ) u = if t = u then some e else fnd σ u := rfl

theorem SW.ext {ev : X → Option AV} {σ : Sg} {g : Gd} {b : Bool} (h : SW ev σ g b) {d : Nat} {e : Gd × X} (hd : fnd σ d = none) : SW ev ((d, e) :: σ) g b := by
  induction h with
  | nog => exact .nog
  | @hit t w g c b h1 h2 h3 ih => exact .hit (by rw [fnd_cons, if_neg (fun hq => by subst hq; rw [hd] at h1; cases h1)]; exact h1) ih h3
  | @out t w g c h1 h2 ih => exact .out (by rw [fnd_cons, if_neg (fun hq => by subst hq; rw [hd] at h1; cases h1)]; exact h1) ih

def Wf (σ : Sg) : Prop := ∀ t g x, fnd σ t = some (g, x) → gin σ g = true
theorem SW.back {ev : X → Option AV} {σ : Sg} (hwf : Wf σ) {d : Nat} {e : Gd × X} (hd : fnd σ d = none) {g : Gd} {b : Bool} (h : SW ev ((d, e) :: σ) g b) : gin σ g = true → SW ev σ g b := by
  induction h with
  | nog => intro _; exact .nog
  | @hit t w g c b h1 h2 h3 ih =>
    intro hg
    have ht : d ≠ t := fun hq => by subst hq; simp [gin, hd] at hg
    rw [fnd_cons, if_neg ht] at h1
    exact .hit h1 (ih (hwf _ _ _ h1)) h3
  | @out t w g c h1 h2 ih =>
    intro hg
    have ht : d ≠ t := fun hq => by subst hq; simp [gin, hd] at hg
    rw [fnd_cons, if_neg ht] at h1
    exact .out h1 (ih (hwf _ _ _ h1))

structure Good (kp : List Nat) (ev : X → Option AV) (E L : Env) (st : DSt) : Prop where
  len : E.length = L.length
  slot : ∀ t v, fnd st.σ t = none → rd L t = some v → E[t]? = some v
  ent : ∀ t g x, fnd st.σ t = some (g, x) → (SW ev st.σ g true → ∀ v, ev x = some v → E[t]? = some v) ∧ (SW ev st.σ g false → E[t]? = some (.tup []))
  wf : Wf st.σ
  eph : ∀ t, kp.contains t = false → rd L t = none
  dirt : ∀ t g x, fnd st.σ t = some (g, x) → kp.contains t = true → g = none ∧ st.dirty.contains t = true
  dirk : ∀ t, st.dirty.contains t = true → kp.contains t = true ∧ ∃ x, fnd st.σ t = some (none, x)

def PendOk (ev : X → Option AV) (st : DSt) : Prop := ∀ t, st.pend.contains t = true → ∀ g x, fnd st.σ t = some (g, x) → ∃ b, SW ev st.σ g b ∧ (b = true → ∃ v, ev x = some v)

theorem Good.empty {kp : List Nat} {ev : X → Option AV} {E L : Env} (h : Rl E L) (he : ∀ t, kp.contains t = false → rd L t = none) : Good kp ev E L emptySt :=
  ⟨h.1, fun t v _ hv => h.2 t v hv, fun t g x h => by simp [emptySt, fnd] at h, fun t g x h => by simp [emptySt, fnd] at h, he, fun t g x h => by simp [emptySt, fnd] at h, fun t h => by simp [emptySt] at h⟩
theorem Good.rl {kp : List Nat} {ev : X → Option AV} {E L : Env} (h : Good kp ev E L emptySt) : Rl E L := ⟨h.len, fun t v hv => h.slot t v rfl hv⟩
theorem PendOk.empty {ev : X → Option AV} : PendOk ev emptySt := fun t h => by simp [emptySt] at h

section
variable {C : Cfg} {call : Callee'} {L : Env} {H : Heap} {kp : List Nat} {E : Env} {st : DSt}

/-- an operand -/
theorem look_ev (hg : Good kp (xev C call L H) E L st) {go : Gd} (hs : SW (xev C call L H) st.σ go true) {o : Operand} {x : X} (h : look kp st.σ go o = some x) {v : AV} (hv : xev C call L H x = some v) : ev E o = v := by
  cases o with
  | const c => simp only [look] at h; injection h with h; subst h; simp only [xev] at hv; injection hv with hv
  | func f => simp only [look] at h; injection h with h; subst h; simp only [xev] at hv; injection hv with hv
  | global g => simp [look] at h
  | tmp t =>
    simp only [look] at h
    split at h
    · rename_i g x' hf
      split at h
      · rename_i hi
        injection h with h; subst h
        simp only [ev, ((hg.ent t g x' hf).1 (impl_sw hi hs) v hv), Option.getD_some]
      · cases h
    · rename_i hf
      split at h
      · injection h with h; subst h
        simp only [xev] at hv
        simp only [ev, hg.slot t v hf hv, Option.getD_some]
      · cases h
theorem lookL_ev (hg : Good kp (xev C call L H) E L st) {go : Gd} (hs : SW (xev C call L H) st.σ go true) : ∀ {os : List Operand} {xs : List X}, lookL kp st.σ go os = some xs → ∀ {vs}, xevL C call L H xs = some vs → evlL E os = vs
  | [], xs, h, vs, hv => by
    simp only [lookL] at h; injection h with h; subst h; rw [xevL_nil hv]; rfl
  | o :: os, xs, h, vs, hv => by
    simp only [lookL] at h
    split at h
    · rename_i y ys h1 h2
      injection h with h; subst h
      obtain ⟨v, vs', rfl, k1, k2⟩ := xevL_cons hv
      simp only [evlL, look_ev hg hs h1 k1, lookL_ev hg hs h2 k2]
    · cases h
/-- the parts that are temporaries -/
theorem lookL_tmp {go : Gd} : ∀ {os : List Operand} {xs : List X}, lookL kp st.σ go os = some xs → ∀ {vs}, xevL C call L H xs = some vs → ∀ {t g x}, t ∈ tmpsOf os → fnd st.σ t = some (g, x) → ∃ v, xev C call L H x = some v
  | [], xs, h, vs, hv, t, g, x, ht, hf => by simp [tmpsOf] at ht
  | o :: os, xs, h, vs, hv, t, g, x, ht, hf => by
    simp only [lookL] at h
    split at h
    · rename_i y ys h1 h2
      injection h with h; subst h
      obtain ⟨v, vs', rfl, k1, k2⟩ := xevL_cons hv
      have hrec := fun ht => lookL_tmp (go := go) h2 k2 (t := t) (g := g) (x := x) ht hf
      cases o with
      | tmp u =>
        simp only [tmpsOf, List.mem_cons] at ht
        rcases ht with ht | ht
        · subst ht
          simp only [look, hf] at h1
          split at h1
          · injection h1 with h1; subst h1; exact ⟨v, k1⟩
          · cases h1
        · exact hrec ht
      | const c => simp only [tmpsOf] at ht; exact hrec ht
      | func f => simp only [tmpsOf] at ht; exact hrec ht
      | global g => simp only [tmpsOf] at ht; exact hrec ht
    · cases h

theorem covers_mem {σ : Sg} {go : Gd} : ∀ {ts : List Nat} {t : Nat}, t ∈ covers σ go ts → t ∈ ts ∧ ∃ x, fnd σ t = some (go, x)
  | [], t, h => by simp [covers] at h
  | u :: r, t, h => by
    simp only [covers] at h
    split at h
    · rename_i g x hf
      split at h
      · rename_i he
        rcases List.mem_cons.1 h with h | h
        · subst h; exact ⟨List.mem_cons_self .., x, by rw [hf, gdEq_eq he]⟩
        · obtain ⟨h1, h2⟩ := covers_mem h; exact ⟨List.mem_cons_of_mem _ h1, h2⟩
      · obtain ⟨h1, h2⟩ := covers_mem h; exact ⟨List.mem_cons_of_mem _ h1, h2⟩
    · obtain ⟨h1, h2⟩ := covers_mem h; exact ⟨List.mem_cons_of_mem _ h1, h2⟩

theorem rmAll_contains {ts p : List Nat} {t : Nat} (h : p.contains t = true) : t ∈ ts ∨ (rmAll ts p).contains t = true := by
  by_cases hq : t ∈ ts
  · exact .inl hq
  · refine .inr ?_
    simp only [rmAll, List.contains_eq_mem, List.mem_filter, decide_eq_true_eq, Bool.not_eq_true', decide_eq_false_iff_not] at h ⊢
    exact ⟨h, hq⟩

/-- what a value of an operation's expression brings with it -/
theorem digX_cov {P : Program} {inl : FuncId → Bool} {go : Gd} {o : Op} {x : X} {cov : List Nat} (h : digX P inl kp st go o = some (x, cov)) {b : Bool} (hs : SW (xev C call L H) st.σ go b) (hx : b = true → ∃ v, xev C call L H x = some v) {t : Nat} (ht : t ∈ cov) :
    ∀ g y, fnd st.σ t = some (g, y) → ∃ b, SW (xev C call L H) st.σ g b ∧ (b = true → ∃ v, xev C call L H y = some v) := by
  intro g y hf
  unfold digX at h
  split at h
  · rename_i c a e
    unfold digPick at h
    split at h
    · rename_i tc
      split at h
      · rename_i gc xc hfc
        split at h
        · rename_i hge
          obtain rfl := gdEq_eq hge
          split at h
          · rename_i xa xb h1 h2
            injection h with h; injection h with h3 h4; subst h3; subst h4
            -- the condition
            have hcond : b = true → ∃ bb, xev C call L H xc = some (.bool bb) ∧ (bb = true → ∃ v, xev C call L H xa = some v) ∧ (bb = false → ∃ v, xev C call L H xb = some v) := by
              intro hb
              obtain ⟨v, hv⟩ := hx hb
              simp only [xev] at hv
              split at hv
              · rename_i hc; exact ⟨true, hc, fun _ => ⟨v, hv⟩, fun hq => by cases hq⟩
              · rename_i hc; exact ⟨false, hc, fun hq => (by cases hq), fun _ => ⟨v, hv⟩⟩
              · cases hv
            rcases List.mem_cons.1 ht with ht | ht
            · subst ht
              rw [hfc] at hf; injection hf with hf; injection hf with hf1 hf2; subst hf1; subst hf2
              exact ⟨b, hs, fun hb => by obtain ⟨bb, hbb, _⟩ := hcond hb; exact ⟨_, hbb⟩⟩
            · rcases List.mem_append.1 ht with ht | ht
              · obtain ⟨k1, k2, k3⟩ := covers_mem ht
                rw [hf] at k3; injection k3 with k3; injection k3 with k3 k4; subst k3
                cases b with
                | false => exact ⟨false, .out hfc hs, fun hq => by cases hq⟩
                | true =>
                  obtain ⟨bb, hbb, ha, _⟩ := hcond rfl
                  refine ⟨bb == true, .hit hfc hs hbb, fun hq => ?_⟩
                  have : lookL kp st.σ (some (tc, true)) [a] = some [xa] := by simp [lookL, h1]
                  obtain ⟨v, hv⟩ := ha (by simpa using hq)
                  exact lookL_tmp this (xevL_one hv) k1 hf
              · obtain ⟨k1, k2, k3⟩ := covers_mem ht
                rw [hf] at k3; injection k3 with k3; injection k3 with k3 k4; subst k3
                cases b with
                | false => exact ⟨false, .out hfc hs, fun hq => by cases hq⟩
                | true =>
                  obtain ⟨bb, hbb, _, ha⟩ := hcond rfl
                  refine ⟨bb == false, .hit hfc hs hbb, fun hq => ?_⟩
                  have : lookL kp st.σ (some (tc, false)) [e] = some [xb] := by simp [lookL, h2]
                  obtain ⟨v, hv⟩ := ha (by simpa using hq)
                  exact lookL_tmp this (xevL_one hv) k1 hf
          · cases h
        · cases h
      · cases h
    · cases h
  · split at h
    · rename_i xs hl
      split at h
      · rename_i x' hp
        injection h with h; injection h with h3 h4; subst h3; subst h4
        obtain ⟨k1, k2, k3⟩ := covers_mem ht
        rw [hf] at k3; injection k3 with k3; injection k3 with k3 k4; subst k3
        refine ⟨b, hs, fun hb => ?_⟩
        obtain ⟨v, hv⟩ := hx hb
        obtain ⟨vs, hvs⟩ := pureX_strict hp (fun hq => by rw [hq] at k1; simp at k1) hv
        exact lookL_tmp hl hvs k1 hf
      · cases h
    · cases h

/-- the operation comes to its expression's value -/
theorem digX_sound (hcv : CallVal C call) (hg : Good kp (xev C call L H) E L st) {ns : List Nat} {go : Gd} {o : Oper} {x : X} {cov : List Nat} (h : digX C.P C.inl kp st go o.op = some (x, cov)) (hs : SW (xev C call L H) st.σ go true) {v : AV} (hv : xev C call L H x = some v) :
    aoper C.P call ns E H o = .ok v H := by
  unfold digX at h
  split at h
  · rename_i c a e heq
    unfold digPick at h
    split at h
    · rename_i tc
      split at h
      · rename_i gc xc hfc
        split at h
        · rename_i hge
          obtain rfl := gdEq_eq hge
          split at h
          · rename_i xa xb h1 h2
            injection h with h; injection h with h3 h4; subst h3
            obtain ⟨dst, op, ty, pos, aft, gd⟩ := o
            simp only at heq; subst heq
            simp only [xev] at hv
            split at hv
            · rename_i hc
              have := (hg.ent tc _ xc hfc).1 hs _ hc
              simp only [aoper, aop, ev, this, Option.getD_some, if_true]
              rw [← look_ev hg (SW.hit (w := true) hfc hs hc) h1 hv]; rfl
            · rename_i hc
              have := (hg.ent tc _ xc hfc).1 hs _ hc
              simp only [aoper, aop, ev, this, Option.getD_some]
              rw [← look_ev hg (SW.hit (w := false) hfc hs hc) h2 hv]; rfl
            · cases hv
          · cases h
        · cases h
      · cases h
    · cases h
  · split at h
    · rename_i xs hl
      split at h
      · rename_i x' hp
        injection h with h; injection h with h3 h4; subst h3
        exact pureX_sound hcv hp hv (fun vs hvs => lookL_ev hg hs hl hvs)
      · cases h
    · cases h

/-- A PURE OPERATION AS THE DIGEST TAKES IT. -/
theorem digPure_pend {P : Program} {inl : FuncId → Bool} {hn : Hint} {rid j : Nat} {all : Array Oper} {o : Oper} {st' : DSt} (h : digPure P inl hn rid j all st o = some st') (hk : hn.keep = kp) (hwf : Wf st.σ) (hp : PendOk (xev C call L H) st') : PendOk (xev C call L H) st := by
  unfold digPure at h
  split at h
  · rename_i go d hgo hd
    split at h
    · rename_i hc
      obtain ⟨hdn, hgin, hfd, _, hkd⟩ := hc
      split at h
      · rename_i x cov hx
        injection h with h; subst h
        subst hk
        have hfirst := hp d (by simp) go x (by simp [fnd])
        obtain ⟨b, hb, hbx⟩ := hfirst
        have hb' := hb.back hwf hfd hgin
        intro t ht g y hf
        have htd : d ≠ t := fun hq => by subst hq; rw [hfd] at hf; cases hf
        rcases rmAll_contains (ts := cov) ht with hin | hin
        · exact digX_cov hx hb' hbx hin g y hf
        · obtain ⟨b2, h1, h2⟩ := hp t (by simp only [List.contains_cons, Bool.or_eq_true]; exact .inr hin) g y (by simp only [fnd_cons, if_neg htd]; exact hf)
          exact ⟨b2, h1.back hwf hfd (hwf _ _ _ hf), h2⟩
      · cases h
    · cases h
  · cases h

theorem putE_get {E : Env} {d : Nat} {v : AV} {t : Nat} (h : t ≠ d) : (putE E (some d) v)[t]? = E[t]? := by
  simp only [putE, List.getElem?_set]; rw [if_neg (fun hq => h hq.symm)]

/-- a slot of the environment -/
theorem digPure_sound (hcv : CallVal C call) {ns : List Nat} {hn : Hint} {rid j : Nat} {all : Array Oper} {o : Oper} {st' : DSt} (h : digPure C.P C.inl hn rid j all st o = some st') (hk : hn.keep = kp) (hg : Good kp (xev C call L H) E L st) (hp : PendOk (xev C call L H) st') (hlen : hn.nt ≤ L.length) :
    ∃ E', (∀ os, aops C.P call ns all (o :: os) E H = aops C.P call ns all os E' H) ∧ Good kp (xev C call L H) E' L st' := by
  unfold digPure at h
  split at h
  · rename_i go d hgo hd
    split at h
    · rename_i hc
      obtain ⟨hdn, hgin, hfd, _, hkd⟩ := hc
      split at h
      · rename_i x cov hx
        injection h with h; subst h
        subst hk
        obtain ⟨b, hb, hbx⟩ := hp d (by simp) go x (by simp [fnd])
        have hb' := hb.back hg.wf hfd hgin
        have hdl : d < E.length := by rw [hg.len]; exact Nat.lt_of_lt_of_le hdn hlen
        -- is it wanted
        have hwant : wantE all E o = some b := by
          unfold wantE
          unfold gdOf at hgo
          split at hgo
          · rename_i hgn
            injection hgo with hgo; subst hgo
            simp only [hgn]
            cases hb'; rfl
          · rename_i jj w hgn
            split at hgo
            · rename_i t htt
              injection hgo with hgo; subst hgo
              simp only [hgn]
              rw [htt]
              simp only
              cases hb' with
              | hit k1 k2 k3 => rw [(hg.ent _ _ _ k1).1 k2 _ k3]
              | out k1 k2 => rw [(hg.ent _ _ _ k1).2 k2]
            · cases hgo
        have mk : ∀ u, (b = true → ∀ v, xev C call L H x = some v → u = v) → (b = false → u = .tup []) → Good hn.keep (xev C call L H) (putE E (some d) u) L { σ := (d, go, x) :: st.σ, pend := d :: rmAll cov st.pend, dirty := if hn.keep.contains d = true then d :: st.dirty else st.dirty } := by
          intro u hu1 hu2
          refine ⟨by simp [putE, hg.len], fun t v hf hv => ?_, fun t g y hf => ?_, fun t g y hf => ?_, hg.eph, fun t g y hf hkt => ?_, fun t htt => ?_⟩
          · simp only [fnd_cons] at hf
            split at hf
            · cases hf
            · rename_i hne
              rw [putE_get (fun hq => hne hq.symm)]
              exact hg.slot t v hf hv
          · simp only [fnd_cons] at hf
            split at hf
            · rename_i he; subst he
              injection hf with hf; injection hf with hf1 hf2; subst hf1; subst hf2
              have hget : (putE E (some d) u)[d]? = some u := by simp [putE, hdl]
              rw [hget]
              refine ⟨fun hs v hv => ?_, fun hs => ?_⟩
              · have := (hs.back hg.wf hfd hgin).det hb'
                rw [hu1 this.symm v hv]
              · have := (hs.back hg.wf hfd hgin).det hb'
                rw [hu2 this.symm]
            · rename_i hne
              rw [putE_get (fun hq => hne hq.symm)]
              have := hg.ent t g y hf
              have hgi := hg.wf t g y hf
              exact ⟨fun hs => this.1 (hs.back hg.wf hfd hgi), fun hs => this.2 (hs.back hg.wf hfd hgi)⟩
          · simp only [fnd_cons] at hf
            have hext : ∀ g, gin st.σ g = true → gin ((d, go, x) :: st.σ) g = true := by
              intro g hgi
              cases g with
              | none => rfl
              | some p => simp only [gin, fnd_cons] at hgi ⊢; split <;> simp_all
            split at hf
            · injection hf with hf; injection hf with hf1 hf2; subst hf1; exact hext _ hgin
            · exact hext _ (hg.wf t g y hf)
          · simp only [fnd_cons] at hf
            split at hf
            · rename_i he; subst he
              injection hf with hf; injection hf with hf1 hf2; subst hf1
              exact ⟨hkd hkt, by simp [hkt, List.contains_eq_mem] at hkt ⊢; simp [hkt]⟩
            · have := hg.dirt t g y hf hkt
              refine ⟨this.1, ?_⟩
              simp only
              split
              · simp only [List.contains_cons, this.2, Bool.or_true]
              · exact this.2
          · simp only at htt ⊢
            by_cases hdk : hn.keep.contains d = true
            · rw [if_pos hdk] at htt
              simp only [List.contains_cons, Bool.or_eq_true, beq_iff_eq] at htt
              rcases htt with htt | htt
              · subst htt
                exact ⟨hdk, x, by simp [fnd_cons, hkd hdk]⟩
              · obtain ⟨k1, y, k2⟩ := hg.dirk t htt
                exact ⟨k1, y, by rw [fnd_cons, if_neg (fun hq => by subst hq; rw [hfd] at k2; cases k2)]; exact k2⟩
            · rw [if_neg hdk] at htt
              obtain ⟨k1, y, k2⟩ := hg.dirk t htt
              exact ⟨k1, y, by rw [fnd_cons, if_neg (fun hq => by subst hq; rw [hfd] at k2; cases k2)]; exact k2⟩
        cases b with
        | true =>
          obtain ⟨v, hv⟩ := hbx rfl
          refine ⟨putE E (some d) v, fun os => ?_, mk v (fun _ u hu => by rw [hv] at hu; injection hu) (fun hq => by cases hq)⟩
          simp only [aops, hwant, digX_sound hcv hg hx hb' hv, hd]
        | false =>
          refine ⟨putE E (some d) (.tup []), fun os => ?_, mk _ (fun hq => by cases hq) (fun _ => rfl)⟩
          simp only [aops, hwant, hd]
      · cases h
    · cases h
  · cases h
end
end Go.Vi
end SViDigD
