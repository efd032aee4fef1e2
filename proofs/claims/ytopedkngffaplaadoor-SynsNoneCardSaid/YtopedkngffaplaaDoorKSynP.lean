/- The seat: contracts of its functions. -/
import Derived.Test.YtopedkngffaplaaDoorKSyn
set_option linter.all false
set_option linter.unusedVariables false
set_option linter.unusedSectionVars false
set_option linter.unusedSimpArgs false
section STrydSynP
/- Contracts: one line's meaning (syns), second part: print. -/
namespace Go.Proofs.YtopedkngffaplaaDoor
open Go Go.Vi Go.Vi.Sp
set_option linter.unusedSimpArgs false
set_option linter.unusedVariables false
set_option maxRecDepth 10000
theorem K.Itoa (n : Nat) (m : Int) (h : rng m) : vcall cfg (acall cfg n) 38 [.int .i64 m] = some (.str (itoaS m)) := by
  unfold vcall
  rw [cfgPrimF, ← itoa_eq h.1 h.2]
  simp [-List.map_drop, -List.map_take, -List.set_append_left, -List.set_append_right, primF, h.1, h.2]
theorem K.val (N : Nat) (v : Val) (h : rng v.n) : vcall cfg (acall cfg (N + 1)) 67 [valV v] = some (.str (valT v)) := by
  apply D.v67
  have h1 := itoa_len h
  cases hr : v.reg <;> simp (disch := first | (simp; done) | (simp only [List.length_append, List.length_cons, List.length_nil, maxRoom]; omega)) [-List.map_drop, -List.map_take, -List.set_append_left, -List.set_append_right, D.s67, K.Itoa _ _ h, hr, valT, bo_sadd]
theorem K.register (N : Nat) (n : Int) (h : rng n) : vcall cfg (acall cfg (N + 2)) 39 [.int .i64 n] = some (.str (registerT n)) := by
  apply D.v39
  have := fun N => K.val N ⟨true, n⟩ h
  simp [-List.map_drop, -List.map_take, -List.set_append_left, -List.set_append_right, D.s39, this, valT, registerT]
theorem K.word (N : Nat) (n : Int) : vcall cfg (acall cfg (N + 1)) 68 [.int .i64 n] = some (.str (wordT n)) := by
  apply D.v68
  by_cases h0 : n < 0
  · simp [-List.map_drop, -List.map_take, -List.set_append_left, -List.set_append_right, D.s68, h0, wordT]
  · by_cases h1 : 11 ≤ n
    · simp [-List.map_drop, -List.map_take, -List.set_append_left, -List.set_append_right, D.s68, h0, h1, wordT, K.ops, opsL]
    · obtain ⟨k, rfl⟩ := Int.eq_ofNat_of_zero_le (show 0 ≤ n by omega)
      have hk : k < opsL.length := by simp [-List.map_drop, -List.map_take, -List.set_append_left, -List.set_append_right, opsL]; omega
      have h2 := ia_strs (List.getElem?_eq_getElem hk)
      have h3 : ¬ (11 : Int) ≤ (k : Int) := h1
      have h4 : (opsL.length : Int) = 11 := rfl
      have h5 : opsL[k]? = some opsL[k] := List.getElem?_eq_getElem hk
      generalize opsL[k] = y at h2 h5
      simp [-List.map_drop, -List.map_take, -List.set_append_left, -List.set_append_right, D.s68, h0, h3, wordT, K.ops, h2, h4, h5]
theorem K.line (N : Nat) (i : Ins) (h : InsRng i) : vcall cfg (acall cfg (N + 4)) 40 [insV i] = some (.str (lineT i)) := by
  apply D.v40
  have a1 := fun N => K.val N i.a h.a
  have a2 := fun N => K.val N i.b h.b
  have a3 := fun N => K.register N i.d h.d
  have b1 := valT_len h.a
  have b2 := valT_len h.b
  have b3 := registerT_len h.d
  have b4 := wordT_len i.op
  have b5 := h.name
  by_cases h1 : i.kind = 1
  · simp (disch := first | (simp; done) | (simp only [List.length_append, List.length_cons, List.length_nil, maxRoom]; omega)) [-List.map_drop, -List.map_take, -List.set_append_left, -List.set_append_right, D.s40, a1, a2, a3, K.word, lineT, bo_sadd, h1]
  · by_cases h2 : i.kind = 2
    · simp (disch := first | (simp; done) | (simp only [List.length_append, List.length_cons, List.length_nil, maxRoom]; omega)) [-List.map_drop, -List.map_take, -List.set_append_left, -List.set_append_right, D.s40, a1, a2, a3, K.word, lineT, bo_sadd, h1, h2]
    · by_cases h3 : i.kind = 3
      · simp (disch := first | (simp; done) | (simp only [List.length_append, List.length_cons, List.length_nil, maxRoom]; omega)) [-List.map_drop, -List.map_take, -List.set_append_left, -List.set_append_right, D.s40, a1, a2, a3, K.word, lineT, bo_sadd, h1, h2, h3]
      · by_cases h4 : i.kind = 4
        · simp (disch := first | (simp; done) | (simp only [List.length_append, List.length_cons, List.length_nil, maxRoom]; omega)) [-List.map_drop, -List.map_take, -List.set_append_left, -List.set_append_right, D.s40, a1, a2, a3, K.word, lineT, bo_sadd, h1, h2, h3, h4]
        · by_cases h5 : i.kind = 5
          · simp (disch := first | (simp; done) | (simp only [List.length_append, List.length_cons, List.length_nil, maxRoom]; omega)) [-List.map_drop, -List.map_take, -List.set_append_left, -List.set_append_right, D.s40, a1, a2, a3, K.word, lineT, bo_sadd, h1, h2, h3, h4, h5]
          · by_cases h6 : i.kind = 6
            · simp (disch := first | (simp; done) | (simp only [List.length_append, List.length_cons, List.length_nil, maxRoom]; omega)) [-List.map_drop, -List.map_take, -List.set_append_left, -List.set_append_right, D.s40, a1, a2, a3, K.word, lineT, bo_sadd, h1, h2, h3, h4, h5, h6]
            · by_cases h7 : i.kind = 7
              · simp (disch := first | (simp; done) | (simp only [List.length_append, List.length_cons, List.length_nil, maxRoom]; omega)) [-List.map_drop, -List.map_take, -List.set_append_left, -List.set_append_right, D.s40, a1, a2, a3, K.word, lineT, bo_sadd, h1, h2, h3, h4, h5, h6, h7]
              · by_cases h8 : i.kind = 8
                · simp (disch := first | (simp; done) | (simp only [List.length_append, List.length_cons, List.length_nil, maxRoom]; omega)) [-List.map_drop, -List.map_take, -List.set_append_left, -List.set_append_right, D.s40, a1, a2, a3, K.word, lineT, bo_sadd, h1, h2, h3, h4, h5, h6, h7, h8]
                · by_cases h9 : i.kind = 9
                  · simp (disch := first | (simp; done) | (simp only [List.length_append, List.length_cons, List.length_nil, maxRoom]; omega)) [-List.map_drop, -List.map_take, -List.set_append_left, -List.set_append_right, D.s40, a1, a2, a3, K.word, lineT, bo_sadd, h1, h2, h3, h4, h5, h6, h7, h8, h9]
                  · by_cases h10 : i.kind = 10
                    · simp (disch := first | (simp; done) | (simp only [List.length_append, List.length_cons, List.length_nil, maxRoom]; omega)) [-List.map_drop, -List.map_take, -List.set_append_left, -List.set_append_right, D.s40, a1, a2, a3, K.word, lineT, bo_sadd, h1, h2, h3, h4, h5, h6, h7, h8, h9, h10]
                    · by_cases h11 : i.kind = 11
                      · simp (disch := first | (simp; done) | (simp only [List.length_append, List.length_cons, List.length_nil, maxRoom]; omega)) [-List.map_drop, -List.map_take, -List.set_append_left, -List.set_append_right, D.s40, a1, a2, a3, K.word, lineT, bo_sadd, h1, h2, h3, h4, h5, h6, h7, h8, h9, h10, h11]
                      · simp (disch := first | (simp; done) | (simp only [List.length_append, List.length_cons, List.length_nil, maxRoom]; omega)) [-List.map_drop, -List.map_take, -List.set_append_left, -List.set_append_right, D.s40, a1, a2, a3, K.word, lineT, bo_sadd, h1, h2, h3, h4, h5, h6, h7, h8, h9, h10, h11]
theorem K.text (N : Nat) (i : Sp.Item) (h : ItemRng i) : vcall cfg (acall cfg (N + 5)) 20 [itemV i] = some (.str (textT i)) := by
  apply D.v20
  have a1 := fun N => K.line N i.ins h.ins
  have a2 := fun N => K.Itoa N i.n h.n
  have a3 := fun N => K.register N i.ins.d h.ins.d
  have b1 := itoa_len h.n
  have b3 := registerT_len h.ins.d
  have b5 := h.name
  cases hs : i.secret
  all_goals
    by_cases h0 : i.kind = 0
    · simp (disch := first | (simp; done) | (simp only [List.length_append, List.length_cons, List.length_nil, maxRoom]; omega)) [-List.map_drop, -List.map_take, -List.set_append_left, -List.set_append_right, D.s20, a1, a2, a3, textT, bo_sadd, hs, h0]
    · by_cases h1 : i.kind = 1
      · simp (disch := first | (simp; done) | (simp only [List.length_append, List.length_cons, List.length_nil, maxRoom]; omega)) [-List.map_drop, -List.map_take, -List.set_append_left, -List.set_append_right, D.s20, a1, a2, a3, textT, bo_sadd, hs, h0, h1]
      · by_cases h2 : i.kind = 2
        · simp (disch := first | (simp; done) | (simp only [List.length_append, List.length_cons, List.length_nil, maxRoom]; omega)) [-List.map_drop, -List.map_take, -List.set_append_left, -List.set_append_right, D.s20, a1, a2, a3, textT, bo_sadd, hs, h0, h1, h2]
        · by_cases h3 : i.kind = 3
          · simp (disch := first | (simp; done) | (simp only [List.length_append, List.length_cons, List.length_nil, maxRoom]; omega)) [-List.map_drop, -List.map_take, -List.set_append_left, -List.set_append_right, D.s20, a1, a2, a3, textT, bo_sadd, hs, h0, h1, h2, h3]
          · by_cases h4 : i.kind = 4
            · simp (disch := first | (simp; done) | (simp only [List.length_append, List.length_cons, List.length_nil, maxRoom]; omega)) [-List.map_drop, -List.map_take, -List.set_append_left, -List.set_append_right, D.s20, a1, a2, a3, textT, bo_sadd, hs, h0, h1, h2, h3, h4]
            · by_cases h5 : i.kind = 5
              · simp (disch := first | (simp; done) | (simp only [List.length_append, List.length_cons, List.length_nil, maxRoom]; omega)) [-List.map_drop, -List.map_take, -List.set_append_left, -List.set_append_right, D.s20, a1, a2, a3, textT, bo_sadd, hs, h0, h1, h2, h3, h4, h5]
              · by_cases h6 : i.kind = 6
                · simp (disch := first | (simp; done) | (simp only [List.length_append, List.length_cons, List.length_nil, maxRoom]; omega)) [-List.map_drop, -List.map_take, -List.set_append_left, -List.set_append_right, D.s20, a1, a2, a3, textT, bo_sadd, hs, h0, h1, h2, h3, h4, h5, h6]
                · by_cases h7 : i.kind = 7
                  · simp (disch := first | (simp; done) | (simp only [List.length_append, List.length_cons, List.length_nil, maxRoom]; omega)) [-List.map_drop, -List.map_take, -List.set_append_left, -List.set_append_right, D.s20, a1, a2, a3, textT, bo_sadd, hs, h0, h1, h2, h3, h4, h5, h6, h7]
                  · simp (disch := first | (simp; done) | (simp only [List.length_append, List.length_cons, List.length_nil, maxRoom]; omega)) [-List.map_drop, -List.map_take, -List.set_append_left, -List.set_append_right, D.s20, a1, a2, a3, textT, bo_sadd, hs, h0, h1, h2, h3, h4, h5, h6, h7]
theorem K.Parse' (N : Nat) (s : Bytes) (hl : s.length ≤ 4294967280) : vcall cfg (acall cfg (N + 11)) 8 [.str s] = some (parseV (parseS s)) := K.Parse N s hl fun c _ _ _ => sign_all c
theorem item_eq {a b : Sp.Item} (h : decide (a = b) = true) : a = b := of_decide_eq_true h
theorem K.Print (N : Nat) (i : Sp.Item) (h : ItemRng i) : vcall cfg (acall cfg (N + 12)) 11 [itemV i] = some (.tup [.str (printS i).1, .bool (printS i).2]) := by
  apply D.v11
  have h1 := fun N => K.text N i h
  have h2 := fun N => K.Parse' N (textT i) (by have := textT_len h; omega)
  cases hp : parseS (textT i) with
  | mk j q =>
    obtain ⟨at_, ok⟩ := q
    simp only [hp] at h2
    cases ok with
    | false => simp [-List.map_drop, -List.map_take, -List.set_append_left, -List.set_append_right, D.s11, h1, h2, printS, hp]
    | true =>
      by_cases hj : j = i
      · subst hj
        simp [-List.map_drop, -List.map_take, -List.set_append_left, -List.set_append_right, D.s11, h1, h2, printS, hp]
      · simp [-List.map_drop, -List.map_take, -List.set_append_left, -List.set_append_right, D.s11, h1, h2, printS, hp, hj]
        intro e1 e2 e3 e4 e5 e6 e7 e8 e9 e10 e11 e12 e13
        exact hj (item_ext e1 e2 e3 e4 e5 e6 e7 e8 e9 e10 e11 e12 e13)
end Go.Proofs.YtopedkngffaplaaDoor
end STrydSynP
