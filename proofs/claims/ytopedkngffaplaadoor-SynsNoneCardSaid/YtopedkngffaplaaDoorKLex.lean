/- The seat: contracts of its functions. -/
import Derived.Test.YtopedkngffaplaaDoorDig
import Derived.Test.YtopedkngffaplaaDoorSp
set_option linter.all false
set_option linter.unusedVariables false
set_option linter.unusedSectionVars false
set_option linter.unusedSimpArgs false
section STrydLex
/- Contracts: signs of a line (lexr). -/
namespace Go.Proofs.YtopedkngffaplaaDoor
open Go Go.Vi Go.Vi.Sp
set_option linter.unusedSimpArgs false
set_option linter.unusedVariables false
set_option maxRecDepth 10000
theorem K.letter (n : Nat) (x : Int) : vcall cfg (acall cfg n) 53 [.int .i32 x] = some (.bool (letterI x)) := by
  apply D.v53
  simp [-List.map_drop, -List.map_take, D.s53, letterI]
theorem K.Digit (n : Nat) (x : Int) : vcall cfg (acall cfg n) 55 [.int .i32 x] = some (.bool (digitI x)) := by
  apply D.v55
  simp [-List.map_drop, -List.map_take, D.s55, digitI]
theorem ia_runes {l : List Int} {a : Nat} {x : Int} (h : l[a]? = some x) : indexAddrOf cfg.P 58 (.view (l.map (.int .i32)) false) (a : Int) = some (.vptr (.int .i32 x) 0) :=
  ia_view (P := cfg.P) T.ix58 (by simp [-List.map_drop, -List.map_take, h]) rfl
theorem K.Alone (n : Nat) (l : List Int) (a : Nat) : vcall cfg (acall cfg (n+1)) 29 [runesV l, .int .i64 a] = some (.bool (aloneI l a)) := by
  apply D.v29
  cases h : l[a]? with
  | none =>
    have := List.getElem?_eq_none_iff.1 h
    simp [-List.map_drop, -List.map_take, D.s29, this, aloneI, h]
  | some x =>
    have h1 : a < l.length := (List.getElem?_eq_some_iff.1 h).1
    have h3 : ¬ l.length ≤ a := by omega
    simp [-List.map_drop, -List.map_take, D.s29, h3, ia_runes h, K.letter, K.Digit, aloneI, h]
theorem K.name1 (n : Nat) (x : Int) : vcall cfg (acall cfg (n+1)) 77 [.int .i32 x] = some (.bool (!wordI x)) := by
  apply D.v77
  simp [-List.map_drop, -List.map_take, D.s77, K.letter, K.Digit, wordI]
theorem digit_rng {x : Int} (h : digitI x = true) : 48 ≤ x ∧ x ≤ 57 := by simpa [-List.map_drop, -List.map_take, digitI] using h
theorem drop_of {α : Type} {l : List α} {a : Nat} {x : α} (h : l[a]? = some x) : l.drop a = x :: l.drop (a + 1) := by
  have h1 : a < l.length := (List.getElem?_eq_some_iff.1 h).1
  rw [List.drop_eq_getElem_cons h1]; congr 1; exact Option.some.inj ((List.getElem?_eq_getElem h1).symm.trans h)
theorem numGo_nil (m : Nat) (n : Int) : numGo m n [] = (n, 0) := by cases m <;> rfl
theorem L.Num (N : Nat) (l : List Int) (most from_ : Nat) (hm : most ≤ 9) (hl : l.length < 4611686018427387904) (ns : List Nat) : ∀ (m fuel at_ : Nat) (ai n : Int) (x6 x7 x8 : AV), ai = at_ → m < fuel → at_ + m = from_ + most → from_ ≤ at_ → 0 ≤ n → n < 10 ^ (most - m) →
    loopS cfg (acall cfg (N + 1)) [6, 7, 8] D.b56_0 ns fuel (runesV l :: .int .i64 ai :: .int .i64 most :: .undef :: .undef :: .undef :: x6 :: x7 :: x8 :: .int .i64 n :: .int .i64 from_ :: pad 52) []
    = .ok (.exit 0) (runesV l :: .int .i64 (ai + (numGo m n (l.drop at_)).2) :: .int .i64 most :: .undef :: .undef :: .undef :: .undef :: .undef :: .undef :: .int .i64 (numGo m n (l.drop at_)).1 :: .int .i64 from_ :: pad 52) [] := by
  intro m
  induction m with
  | zero =>
    intro fuel at_ ai n x6 x7 x8 hai hf ha hfa hn hn2
    subst hai
    obtain ⟨f, rfl⟩ : ∃ f, fuel = f + 1 := ⟨fuel - 1, by omega⟩
    have hw : IntKind.wrap .i64 ((at_ : Int) - from_) = (at_ : Int) - from_ := wr64 (by omega) (by omega)
    have hc : ¬ ((at_ : Int) - from_ < most) := by omega
    cases h : l[at_]? with
    | none =>
      have h1 : ¬ at_ < l.length := by have := List.getElem?_eq_none_iff.1 h; omega
      simp [-List.map_drop, -List.map_take, loopS_succ, D.e56_0, numGo, h1]
    | some x =>
      have h1 : at_ < l.length := (List.getElem?_eq_some_iff.1 h).1
      simp [-List.map_drop, -List.map_take, loopS_succ, D.e56_0, numGo, h1, ia_runes h, K.Digit, hw, hc]
  | succ m ih =>
    intro fuel at_ ai n x6 x7 x8 hai hf ha hfa hn hn2
    subst hai
    obtain ⟨f, rfl⟩ : ∃ f, fuel = f + 1 := ⟨fuel - 1, by omega⟩
    have hw : IntKind.wrap .i64 ((at_ : Int) - from_) = (at_ : Int) - from_ := wr64 (by omega) (by omega)
    have hc : ((at_ : Int) - from_ < most) := by omega
    cases h : l[at_]? with
    | none =>
      have h1 : ¬ at_ < l.length := by have := List.getElem?_eq_none_iff.1 h; omega
      have h2 : l.drop at_ = [] := List.drop_eq_nil_of_le (by omega)
      simp [-List.map_drop, -List.map_take, loopS_succ, D.e56_0, numGo_nil, h1, h2]
    | some x =>
      have h1 : at_ < l.length := (List.getElem?_eq_some_iff.1 h).1
      cases hx : digitI x with
      | false => simp [-List.map_drop, -List.map_take, loopS_succ, D.e56_0, numGo, h1, ia_runes h, K.Digit, hw, hc, hx, drop_of h]
      | true =>
        obtain ⟨q1, q2⟩ := digit_rng hx
        have hp : (10 : Int) ^ (most - m) = 10 * 10 ^ (most - (m + 1)) := by
          rw [show most - m = most - (m + 1) + 1 by omega, Int.pow_succ, Int.mul_comm]
        have hp9 : (10 : Int) ^ (most - m) ≤ 10 ^ 9 := by
          exact_mod_cast Nat.pow_le_pow_right (by decide) (show most - m ≤ 9 by omega)
        have w1 : IntKind.wrap .i32 (x - 48) = x - 48 := wr32 (by omega) (by omega)
        have w2 : IntKind.wrap .i64 (x - 48) = x - 48 := wr64 (by omega) (by omega)
        have w3 : IntKind.wrap .i64 (10 * n) = 10 * n := wr64 (by omega) (by omega)
        have w4 : IntKind.wrap .i64 (10 * n + (x - 48)) = 10 * n + (x - 48) := wr64 (by omega) (by omega)
        have w5 : IntKind.wrap .i64 ((at_ : Int) + 1) = (at_ : Int) + 1 := wr64 (by omega) (by omega)
        have := ih f (at_ + 1) (at_ + 1 : Int) (10 * n + (x - 48)) .undef .undef .undef (by simp [-List.map_drop, -List.map_take]) (by omega) (by omega) (by omega) (by omega) (by omega)
        simp [-List.map_drop, -List.map_take, loopS_succ, D.e56_0, h1, ia_runes h, K.Digit, hw, hc, hx, w1, w2, w3, w4, w5, this, numGo, drop_of h]
        omega
def numV (l : List Int) (at_ : Nat) : Option (Int × Nat) → AV
  | none => .tup [.int .i64 0, .int .i64 at_, .bool false]
  | some (n, k) => .tup [.int .i64 n, .int .i64 (at_ + k : Nat), .bool true]
theorem K.Num (N : Nat) (l : List Int) (most at_ : Nat) (hm : most ≤ 9) (hl : l.length < 4611686018427387904) : vcall cfg (acall cfg (N + 1)) 56 [runesV l, .int .i64 at_, .int .i64 most] = some (numV l at_ (numS most (l.drop at_))) := by
  apply D.v56
  cases h : l[at_]? with
  | none =>
    have h1 : l.length ≤ at_ := List.getElem?_eq_none_iff.1 h
    have h2 : l.drop at_ = [] := List.drop_eq_nil_of_le (by omega)
    simp [-List.map_drop, -List.map_take, D.s56, h1, h2, numS, numV]
  | some x =>
    have h1 : ¬ l.length ≤ at_ := by have := (List.getElem?_eq_some_iff.1 h).1; omega
    cases hx : digitI x with
    | false => simp [-List.map_drop, -List.map_take, D.s56, h1, ia_runes h, K.Digit, hx, numS, drop_of h, numV]
    | true =>
      have w5 : IntKind.wrap .i64 ((at_ : Int) + 1) = (at_ : Int) + 1 := wr64 (by omega) (by omega)
      by_cases h48 : x = 48
      · subst h48; simp [-List.map_drop, -List.map_take, D.s56, h1, ia_runes h, K.Digit, hx, numS, drop_of h, numV, w5]
      · have := fun ns x6 x7 x8 => L.Num N l most at_ hm hl ns most 4294967296 at_ at_ 0 x6 x7 x8 rfl (by omega) (by omega) (by omega) (by omega) (by simp [-List.map_drop, -List.map_take])
        simp [-List.map_drop, -List.map_take, D.s56, h1, ia_runes h, K.Digit, hx, numS, drop_of h, numV, h48, w5, sexec_loop, cfgRounds, this]
theorem L.Runes (N : Nat) (s : Bytes) (ns : List Nat) : ∀ (k fuel pos ver len : Nat) (xs : List Int) (x0 x2 x5 x8 x11 x12 x13 x14 : AV), k < fuel → s.length ≤ pos + k → len = xs.length → len + k ≤ 4294967296 →
    ∃ pos' ver', loopS cfg (acall cfg N) [0, 2, 5, 8, 11, 12, 13, 14] D.b19_0 ns fuel (x0 :: .undef :: x2 :: rowV 1 ver 1 len :: .undef :: x5 :: .undef :: .iter 2 :: x8 :: .undef :: .undef :: x11 :: x12 :: x13 :: x14 :: pad 1) [.row 0 [] 0 0, rowB ver 1 (xs.map (.int .i32)), .iter s pos]
    = .ok (.exit 0) (.undef :: .undef :: .undef :: rowV 1 ver' 1 (xs ++ runesGo s k pos).length :: .undef :: .undef :: .undef :: .iter 2 :: .tup [.bool false] :: .undef :: .undef :: .undef :: .undef :: .undef :: .undef :: pad 1) [.row 0 [] 0 0, rowB ver' 1 ((xs ++ runesGo s k pos).map (.int .i32)), .iter s pos'] := by
  intro k
  induction k with
  | zero =>
    intro fuel pos ver len xs x0 x2 x5 x8 x11 x12 x13 x14 hf hp hlen hl
    subst hlen
    obtain ⟨f, rfl⟩ : ∃ f, fuel = f + 1 := ⟨fuel - 1, by omega⟩
    have h1 : ¬ pos < s.length := by omega
    refine ⟨pos, ver, ?_⟩
    simp [-List.map_drop, -List.map_take, loopS_succ, D.e19_0, aop_next (H := [.row 0 [] 0 0, rowB ver 1 (xs.map (.int .i32)), .iter s pos]) (b := 2) rfl, h1, runesGo]
  | succ k ih =>
    intro fuel pos ver len xs x0 x2 x5 x8 x11 x12 x13 x14 hf hp hlen hl
    subst hlen
    obtain ⟨f, rfl⟩ : ∃ f, fuel = f + 1 := ⟨fuel - 1, by omega⟩
    by_cases h1 : pos < s.length
    · have hw := decode_width ⟨s.toArray⟩ pos
      obtain ⟨pos', ver', h⟩ := ih f (pos + (Utf8.decode ⟨s.toArray⟩ pos).2) (ver + 1) (xs.length + 1) (xs ++ [((Utf8.decode ⟨s.toArray⟩ pos).1 : Int)]) .undef .undef (.int .i32 (Utf8.decode ⟨s.toArray⟩ pos).1) (.tup [.bool true, .int .i64 pos, .int .i32 (Utf8.decode ⟨s.toArray⟩ pos).1]) (rowV 1 ver 1 xs.length) (.int .i32 (Utf8.decode ⟨s.toArray⟩ pos).1) .undef (rowV 1 (ver + 1) 1 (xs.length + 1)) (by omega) (by omega) (by simp [-List.map_drop, -List.map_take]) (by omega)
      refine ⟨pos', ver', ?_⟩
      have e1 : xs ++ runesGo s (k + 1) pos = (xs ++ [((Utf8.decode ⟨s.toArray⟩ pos).1 : Int)]) ++ runesGo s k (pos + (Utf8.decode ⟨s.toArray⟩ pos).2) := by
        simp only [runesGo, h1, if_true, List.append_assoc, List.cons_append, List.nil_append]
      rw [e1, ← h]
      have e2 := append_row (H := [.row 0 [] 0 0, rowB ver 1 (xs.map (.int .i32)), .iter s (pos + (Utf8.decode ⟨s.toArray⟩ pos).2), .row 1 [.int .i32 (Utf8.decode ⟨s.toArray⟩ pos).1] 0 0]) (sz := 1) (bs := 4) (b := 1) (ver := ver) (xs := xs.map (.int .i32)) (ys := [.int .i32 (Utf8.decode ⟨s.toArray⟩ pos).1]) rfl (by decide) (by decide) rfl (by simp [-List.map_drop, -List.map_take, maxRoom]; omega)
      simp only [List.length_map] at e2
      simp [-List.map_drop, -List.map_take, loopS_succ, D.e19_0, aop_next (H := [.row 0 [] 0 0, rowB ver 1 (xs.map (.int .i32)), .iter s pos]) (b := 2) rfl, h1, aop_bs, evs, evsL, ev, elemsOf, e2]
    · refine ⟨pos, ver, ?_⟩
      simp [-List.map_drop, -List.map_take, loopS_succ, D.e19_0, aop_next (H := [.row 0 [] 0 0, rowB ver 1 (xs.map (.int .i32)), .iter s pos]) (b := 2) rfl, h1, runesGo]
theorem K.Runes (N : Nat) (s : Bytes) (hs : s.length ≤ 4294967290) : vcall cfg (acall cfg N) 19 [.str s] = some (runesV (runes s)) := by
  apply D.v19
  obtain ⟨pos', ver', h⟩ := L.Runes N s [] s.length 4294967296 0 0 0 [] (.str s) (.row 0 0 0 0 0) .undef .undef .undef .undef .undef .undef (by omega) (by omega) rfl (by omega)
  simp only [List.nil_append, List.map_nil] at h
  rw [← rowV_nil, ← rowB_nil] at h
  have e2 := frz_rowV (H := [.row 0 [] 0 0, rowB ver' 1 ((runesGo s s.length 0).map (.int .i32)), .iter s pos']) (sz := 1) (b := 1) (ver := ver') (xs := (runesGo s s.length 0).map (.int .i32)) rfl
  simp only [List.length_map] at e2
  simp [-List.map_drop, -List.map_take, D.s19, sexec_loop, cfgRounds, h, e2, runes]
theorem L.IndexFunc (N : Nat) (l : List Int) (hl : l.length < 4611686018427387904) (ns : List Nat) (H : Heap) : ∀ (k fuel i : Nat) (ii : Int) (x4 x5 x16 : AV), ii = i → l.length - i = k → k < fuel → i ≤ l.length →
    ∃ y4 y5 y16, loopS cfg (acall cfg (N + 2)) [4, 5, 16] D.b76_0 ns fuel (runesV l :: .fn 77 [] :: .undef :: .undef :: x4 :: x5 :: .undef :: .int .i64 l.length :: .int .i64 ii :: .undef :: .undef :: .undef :: .undef :: .undef :: .undef :: .undef :: x16 :: pad 2) H
    = (if nameLen (l.drop i) < (l.drop i).length then .ok .ret (runesV l :: .fn 77 [] :: .undef :: .undef :: .int .i64 (ii + nameLen (l.drop i)) :: y5 :: .undef :: .int .i64 l.length :: .int .i64 (ii + nameLen (l.drop i)) :: .undef :: .undef :: .undef :: .undef :: .undef :: .undef :: .undef :: y16 :: pad 2) H
       else .ok (.exit 0) (runesV l :: .fn 77 [] :: .undef :: .undef :: y4 :: y5 :: .undef :: .int .i64 l.length :: .int .i64 l.length :: .undef :: .undef :: .undef :: .undef :: .undef :: .undef :: .undef :: y16 :: pad 2) H) := by
  intro k
  induction k with
  | zero =>
    intro fuel i ii x4 x5 x16 hi hk hf hle
    subst hi
    obtain ⟨f, rfl⟩ : ∃ f, fuel = f + 1 := ⟨fuel - 1, by omega⟩
    have h0 : i = l.length := by omega
    subst h0
    refine ⟨.undef, .undef, .undef, ?_⟩
    simp [-List.map_drop, -List.map_take, loopS_succ, D.e76_0, nameLen]
  | succ k ih =>
    intro fuel i ii x4 x5 x16 hi hk hf hle
    subst hi
    obtain ⟨f, rfl⟩ : ∃ f, fuel = f + 1 := ⟨fuel - 1, by omega⟩
    have hlt : i < l.length := by omega
    have h : l[i]? = some l[i] := List.getElem?_eq_getElem hlt
    generalize l[i] = x at h
    have hd := drop_of h
    cases hx : wordI x with
    | false =>
      refine ⟨.undef, .int .i64 i, .bool true, ?_⟩
      simp [-List.map_drop, -List.map_take, loopS_succ, D.e76_0, hlt, ia_runes h, K.name1, hx, hd, nameLen]
    | true =>
      have w : IntKind.wrap .i64 ((i : Int) + 1) = (i : Int) + 1 := wr64 (by omega) (by omega)
      obtain ⟨y4, y5, y16, e⟩ := ih f (i + 1) ((i : Int) + 1) .undef (.int .i64 i) (.bool false) (by simp [-List.map_drop, -List.map_take]) (by omega) (by omega) (by omega)
      refine ⟨y4, y5, y16, ?_⟩
      have c1 : ((nameLen (l.drop i) < (l.drop i).length) ↔ (nameLen (l.drop (i + 1)) < (l.drop (i + 1)).length)) := by
        rw [hd]; simp [-List.map_drop, -List.map_take, nameLen, hx]
      have c2 : (i : Int) + nameLen (l.drop i) = (i : Int) + 1 + nameLen (l.drop (i + 1)) := by rw [hd]; simp [-List.map_drop, -List.map_take, nameLen, hx]; omega
      simp only [c1, c2]
      rw [← e]
      simp [-List.map_drop, -List.map_take, loopS_succ, D.e76_0, hlt, ia_runes h, K.name1, hx, w]
theorem K.IndexFunc (N : Nat) (ns : List Nat) (l : List Int) (hl : l.length < 4294967290) (H : Heap) : acall cfg (N + 3) ns 76 [runesV l, .fn 77 []] H = .ok (.int .i64 (if nameLen l < l.length then (nameLen l : Int) else -1)) H := by
  apply D.i76
  obtain ⟨y4, y5, y16, e⟩ := L.IndexFunc N l (by omega) (H.length :: ns) H l.length 4294967296 0 0 (.int .i64 0) .undef .undef rfl (by omega) (by omega) (by omega)
  simp only [List.drop_zero] at e
  by_cases hc : nameLen l < l.length
  · rw [if_pos hc] at e
    simp [-List.map_drop, -List.map_take, D.s76, sexec_loop, cfgRounds, e, hc, expo]
  · rw [if_neg hc] at e
    simp [-List.map_drop, -List.map_take, D.s76, sexec_loop, cfgRounds, e, hc, expo]
theorem K.name (N : Nat) (l : List Int) (hl : l.length < 4294967290) (a : Nat) (ha : a ≤ l.length) : vcall cfg (acall cfg (N + 3)) 54 [runesV l, .int .i64 a] = some (.int .i64 (a + nameLen (l.drop a) : Nat)) := by
  apply D.v54
  have h1 := slh_view (P := cfg.P) T.ix58 (f := .int .i32) (fun _ => rfl) (l := l) (e := false) (k := .i64) ha
  have h2 := fun ns H => K.IndexFunc N ns (l.drop a) (by simp [-List.map_drop, -List.map_take]; omega) H
  have h3 := nameLen_le (l.drop a)
  by_cases hc : nameLen (l.drop a) < (l.drop a).length
  · have h4 : ¬ ((nameLen (l.drop a) : Int) < 0) := by omega
    have w : IntKind.wrap .i64 ((a : Int) + nameLen (l.drop a)) = (a : Int) + nameLen (l.drop a) := wr64 (by omega) (by simp [-List.map_drop, -List.map_take] at hc; omega)
    simp only [hc, if_true] at h2
    simp [-List.map_drop, -List.map_take, D.s54, h1, h2, h4, w]
  · have h4 : a + nameLen (l.drop a) = l.length := by simp [-List.map_drop, -List.map_take] at hc h3; omega
    simp only [hc, if_false] at h2
    simp [-List.map_drop, -List.map_take, D.s54, h1, h2, ← h4]
theorem K.Contains (n : Nat) (s t : Bytes) (hs : s.length < 4294967281) : vcall cfg (acall cfg n) 57 [.str s, .str t] = some (.bool (Go.Lib.contains s t)) := by
  unfold vcall
  rw [cfgPrimF]
  simp [-List.map_drop, -List.map_take, primF, hs]
def signV (l : List Int) (at_ : Nat) : Option (Tok × Nat) → AV
  | some (t, e) => .tup [tokV t, .int .i64 e, .bool true]
  | none => .tup [.agg [.int .i64 0, .str [], .int .i64 0, .int .i64 0], .int .i64 at_, .bool false]
theorem K.sign (N : Nat) (l : List Int) (hl : l.length < 4294967290) (a : Nat) (c : Int) (hc : l[a]? = some c) (hsg : letterI c = false → digitI c = false → Go.Lib.contains [44, 58, 91, 93, 43] (encR c) = isSign c) :
    vcall cfg (acall cfg (N + 4)) 28 [runesV l, .int .i64 a] = some (signV l a (signS l a c)) := by
  apply D.v28
  have hlt : a < l.length := (List.getElem?_eq_some_iff.1 hc).1
  have h0 := ia_runes hc
  have hd := drop_of hc
  cases hL : letterI c with
  | true =>
    have h3 := nameLen_le (l.drop a)
    have h4 : a + nameLen (l.drop a) ≤ l.length := by simp [-List.map_drop, -List.map_take] at h3; omega
    have h1 := slb_view (P := cfg.P) T.ix58 (f := .int .i32) (fun _ => rfl) (l := l) (e := false) (k := .i64) (k' := .i64) (i := a) (j := a + nameLen (l.drop a)) (by omega) h4
    have h5 := K.name N l hl a (by omega)
    have h6 := cvt_runes (P := cfg.P) (H := [.box [.int .i64 0, .str [], .int .i64 0, .int .i64 0]]) (e := false) T.cv58_9 (runesOf_map ((l.drop a).take (nameLen (l.drop a))))
    rw [show a + nameLen (l.drop a) - a = nameLen (l.drop a) by omega] at h1
    simp only [signS, hL, if_true]
    generalize he : a + nameLen (l.drop a) = e at *
    simp [-List.map_drop, -List.map_take, D.s28, h0, K.letter, hL, h5, h1, h6, signV]
  | false =>
    cases hD : digitI c with
    | true =>
      cases hn : numS 5 (l.drop a) with
      | none => rw [hd] at hn; simp [-List.map_drop, -List.map_take, numS, hD] at hn; split at hn <;> cases hn
      | some p =>
        obtain ⟨n, k⟩ := p
        have h3 := numS_le hn
        have h4 : a + k ≤ l.length := by simp [-List.map_drop, -List.map_take] at h3; omega
        have h1 := slb_view (P := cfg.P) T.ix58 (f := .int .i32) (fun _ => rfl) (l := l) (e := false) (k := .i64) (k' := .i64) (i := a) (j := a + k) (by omega) h4
        have h5 := K.Num (N + 2) l 5 a (by omega) (by omega)
        have h6 := cvt_runes (P := cfg.P) (H := [.box [.int .i64 0, .str [], .int .i64 0, .int .i64 0]]) (e := false) T.cv58_9 (runesOf_map ((l.drop a).take k))
        rw [show a + k - a = k by omega] at h1
        simp only [hn, numV] at h5
        rw [show ((5 : Nat) : Int) = 5 from rfl] at h5
        have hL' := hL
        simp only [signS, hL, hD, if_true, hn]
        generalize he : a + k = e at *
        simp [-List.map_drop, -List.map_take, D.s28, h0, K.letter, hL, K.Digit, hD, h5, h1, h6, signV]
    | false =>
      have h7 := hsg hL hD
      have h8 := fun N => K.Contains N [44, 58, 91, 93, 43] (encR c) (by decide)
      have w : IntKind.wrap .i64 ((a : Int) + 1) = (a : Int) + 1 := wr64 (by omega) (by omega)
      simp only [encR] at h8 h7
      simp only [signS, hL, hD]
      cases hS : isSign c with
      | true =>
        simp only [hS] at h7
        simp [-List.map_drop, -List.map_take, D.s28, h0, K.letter, hL, K.Digit, hD, h8, h7, signV, w, encR]
      | false =>
        simp only [hS] at h7
        simp [-List.map_drop, -List.map_take, D.s28, h0, K.letter, hL, K.Digit, hD, h8, h7, signV]
/-- what the program's sign table says of each rune -/
def SignOk (l : List Int) : Prop := ∀ c ∈ l, letterI c = false → digitI c = false → Go.Lib.contains [44, 58, 91, 93, 43] (encR c) = isSign c
theorem L.Line (N : Nat) (l : List Int) (hl : l.length < 4294967290) (hsg : SignOk l) (ns : List Nat) : ∀ (k fuel a ver len : Nat) (ai : Int) (out : List Tok), ai = a → k < fuel → l.length < a + k → a ≤ l.length → len = out.length → len ≤ a → ∀ (x0 x2 x3 x4 x8 x9 x10 x42 x43 x44 x47 x57 x58 x59 x60 x61 : AV),
    finV cfg.P [.tmp 2, .tmp 3, .tmp 4] (seqR cfg (acall cfg (N + 5)) (.seq (.sets [(4, (.val (.bool true))), (3, (.val (.int .i64 0))), (2, (.loc 6))]) .ret) ns (blockR 0
      (loopS cfg (acall cfg (N + 5)) [0, 2, 3, 4, 8, 9, 10, 42, 43, 44, 47, 57, 58, 59, 60, 61] D.b17_0 ns fuel (x0 :: .undef :: x2 :: x3 :: x4 :: runesV l :: rowV 1 ver 4 len :: .int .i64 ai :: x8 :: x9 :: x10 :: .undef :: .undef :: .undef :: .undef :: .undef :: .undef :: .undef :: .undef :: .undef :: .undef :: .undef :: .undef :: .undef :: .undef :: .undef :: .undef :: .undef :: .undef :: .undef :: .undef :: .undef :: .undef :: .undef :: .undef :: .undef :: .undef :: .undef :: .undef :: .undef :: .undef :: .undef :: x42 :: x43 :: x44 :: .undef :: .undef :: x47 :: .undef :: .undef :: .undef :: .undef :: .undef :: .undef :: .undef :: .undef :: .undef :: x57 :: x58 :: x59 :: x60 :: x61 :: pad 2) [.row 0 [] 0 0, rowB ver 4 (out.map tokV)])))
    = some (lexV (lexGo l k a out)) := by
  intro k
  induction k with
  | zero => intro fuel a ver len ai out hai hf hk ha; omega
  | succ k ih =>
    intro fuel a ver len ai out hai hf hk ha hlen hla x0 x2 x3 x4 x8 x9 x10 x42 x43 x44 x47 x57 x58 x59 x60 x61
    subst hai; subst hlen
    obtain ⟨f, rfl⟩ : ∃ f, fuel = f + 1 := ⟨fuel - 1, by omega⟩
    cases hc : l[a]? with
    | none =>
      have h1 : ¬ a < l.length := by have := List.getElem?_eq_none_iff.1 hc; omega
      have e2 := frz_rowV (H := [.row 0 [] 0 0, rowB ver 4 (out.map tokV)]) (sz := 4) (b := 1) (ver := ver) (xs := out.map tokV) rfl
      simp only [List.length_map] at e2
      simp [-List.map_drop, -List.map_take, loopS_succ, D.e17_0, h1, lexGo, hc, lexV, e2]
    | some c =>
      have hlt : a < l.length := (List.getElem?_eq_some_iff.1 hc).1
      have h0 := ia_runes hc
      have w : IntKind.wrap .i64 ((a : Int) + 1) = (a : Int) + 1 := wr64 (by omega) (by omega)
      by_cases h59 : c = 59
      · subst h59
        have e2 := frz_rowV (H := [.row 0 [] 0 0, rowB ver 4 (out.map tokV)]) (sz := 4) (b := 1) (ver := ver) (xs := out.map tokV) rfl
        simp only [List.length_map] at e2
        have ht : lexGo l (k + 1) a out = .ok out := by simp only [lexGo, hc, if_true]
        rw [ht]
        simp [-List.map_drop, -List.map_take, loopS_succ, D.e17_0, hlt, h0, lexV, e2]
      · by_cases hb : c = 32 ∨ c = 9
        · have := ih f (a + 1) ver out.length ((a : Int) + 1) out (by simp [-List.map_drop, -List.map_take]) (by omega) (by omega) (by omega) rfl (by omega)
          have ht : lexGo l (k + 1) a out = lexGo l k (a + 1) out := by simp only [lexGo, hc, if_neg h59, if_pos hb]
          rw [ht]
          rcases hb with hb | hb
          · subst hb; simp [-List.map_drop, -List.map_take, loopS_succ, D.e17_0, hlt, h0, w, this]
          · subst hb; simp [-List.map_drop, -List.map_take, loopS_succ, D.e17_0, hlt, h0, w, this]
        · have hb1 : ¬ c = 32 := fun h => hb (.inl h)
          have hb2 : ¬ c = 9 := fun h => hb (.inr h)
          have hs := K.sign N l hl a c hc (hsg c (List.mem_of_getElem? hc))
          cases hS : signS l a c with
          | none =>
            simp only [hS, signV] at hs
            have ht : lexGo l (k + 1) a out = .error a := by simp only [lexGo, hc, if_neg h59, if_neg hb, hS]
            rw [ht]
            simp [-List.map_drop, -List.map_take, loopS_succ, D.e17_0, hlt, h0, h59, hb1, hb2, hs, lexV, frz]
          | some p =>
            obtain ⟨t, e⟩ := p
            obtain ⟨he1, he2⟩ := signS_pos hc hS
            simp only [hS, signV] at hs
            have hA := K.Alone (N + 3) l e
            by_cases hbad : t.kind = 2 ∧ aloneI l e = false
            · have ht : lexGo l (k + 1) a out = .error e := by simp only [lexGo, hc, if_neg h59, if_neg hb, hS, if_pos hbad]
              rw [ht]
              obtain ⟨hk2, hal⟩ := hbad
              simp only [hal] at hA
              simp [-List.map_drop, -List.map_take, loopS_succ, D.e17_0, hlt, h0, h59, hb1, hb2, hs, lexV, frz, hk2, hA]
            · have e2 := fun cs => append_row (H := [.row 0 [] 0 0, rowB ver 4 (out.map tokV), .box cs, .row 4 [tokV t] 0 0]) (sz := 4) (bs := 40) (b := 1) (ver := ver) (xs := out.map tokV) (ys := [tokV t]) rfl (by decide) (by decide) rfl (by simp [-List.map_drop, -List.map_take, maxRoom]; omega)
              simp only [List.length_map] at e2
              have := ih f e (ver + 1) (out.length + 1) e (out ++ [t]) rfl (by omega) (by omega) (by omega) (by simp [-List.map_drop, -List.map_take]) (by omega)
              simp only [List.map_append, List.map_cons, List.map_nil] at this
              have ht : lexGo l (k + 1) a out = lexGo l k e (out ++ [t]) := by simp only [lexGo, hc, if_neg h59, if_neg hb, hS, if_neg hbad]
              rw [ht]
              have hcnd : (t.kind = 2 → aloneI l e = true) := fun h2 => by cases hq : aloneI l e <;> simp_all [-List.map_drop, -List.map_take]
              by_cases hk2 : t.kind = 2
              · have hal := hcnd hk2
                simp only [hal] at hA
                simp only [tokV, hk2] at e2 this
                simp [-List.map_drop, -List.map_take, loopS_succ, D.e17_0, hlt, h0, h59, hb1, hb2, hs, hk2, hA, aop_bs, evs, evsL, ev, elemsOf, e2, this]
              · simp [-List.map_drop, -List.map_take, loopS_succ, D.e17_0, hlt, h0, h59, hb1, hb2, hs, hk2, aop_bs, evs, evsL, ev, elemsOf, e2, this]
theorem K.Line (N : Nat) (s : Bytes) (hl : s.length ≤ 4294967280) (hr : (runes s).length ≤ s.length) (hsg : SignOk (runes s)) : vcall cfg (acall cfg (N + 5)) 17 [.str s] = some (lexV (lexLine (runes s))) := by
  apply D.v17
  have h1 := fun N => K.Runes N s (by omega)
  have := L.Line N (runes s) (by omega) hsg [] ((runes s).length + 1) 4294967296 0 0 0 0 [] rfl (by omega) (by omega) (by omega) rfl (by omega)
  rw [← rowV_nil, List.map_nil, ← rowB_nil] at this
  simp [-List.map_drop, -List.map_take, D.s17, h1, sexec_loop, cfgRounds, this, lexLine]
end Go.Proofs.YtopedkngffaplaaDoor
end STrydLex
