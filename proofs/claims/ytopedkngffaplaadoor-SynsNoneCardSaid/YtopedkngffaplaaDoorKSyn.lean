/- The seat: contracts of its functions. -/
import Derived.Test.YtopedkngffaplaaDoorKLex
import Derived.Test.YtopedkngffaplaaDoorSp
set_option linter.all false
set_option linter.unusedVariables false
set_option linter.unusedSectionVars false
set_option linter.unusedSimpArgs false
section STrydSyn
/- Contracts: one line's meaning (syns), first part: words, and the reader. -/
namespace Go.Proofs.YtopedkngffaplaaDoor
open Go Go.Vi Go.Vi.Sp
set_option linter.unusedSimpArgs false
set_option linter.unusedVariables false
set_option maxRecDepth 10000
theorem K.words (n : Nat) : vcall cfg (acall cfg n) 60 [] = some (strsV wordsL) := by
  apply D.v60
  simp [-List.map_drop, -List.map_take, -List.set_append_left, -List.set_append_right, D.s60, D.x60_0, aop_bs, evs, evsL, ev, frz, wordsL]
theorem K.ops (n : Nat) : vcall cfg (acall cfg n) 80 [] = some (strsV opsL) := by
  apply D.v80
  simp [-List.map_drop, -List.map_take, -List.set_append_left, -List.set_append_right, D.s80, D.x80_0, aop_bs, evs, evsL, ev, frz, opsL]
theorem ia_strs {l : List Bytes} {a : Nat} {x : Bytes} (h : l[a]? = some x) : indexAddrOf cfg.P 34 (.view (l.map .str) false) (a : Int) = some (.vptr (.str x) 0) :=
  ia_view (P := cfg.P) T.ix34 (by simp [-List.map_drop, -List.map_take, -List.set_append_left, -List.set_append_right, h]) rfl
theorem L.Index (N : Nat) (l : List Bytes) (x : Bytes) (hl : l.length < 4611686018427387904) (ns : List Nat) : ∀ (k fuel a : Nat) (ai : Int), ai = a → k < fuel → l.length ≤ a + k → a ≤ l.length → ∀ (x4 x5 : AV),
    finV cfg.P [.tmp 4] (seqR cfg (acall cfg N) (.seq (.sets [(4, (.val (.int .i64 (-1))))]) .ret) ns (blockR 0 (loopS cfg (acall cfg N) [4, 5] D.b79_0 ns fuel (strsV l :: .str x :: .undef :: .undef :: x4 :: x5 :: .undef :: .int .i64 l.length :: .int .i64 ai :: pad 10) [])))
    = some (.int .i64 (idxGo x (l.drop a) ai)) := by
  intro k
  induction k with
  | zero =>
    intro fuel a ai hai hf hk ha x4 x5
    subst hai
    obtain ⟨f, rfl⟩ : ∃ f, fuel = f + 1 := ⟨fuel - 1, by omega⟩
    have h1 : ¬ a < l.length := by omega
    have h2 : l.drop a = [] := List.drop_eq_nil_of_le (by omega)
    rw [h2]
    simp [-List.map_drop, -List.map_take, -List.set_append_left, -List.set_append_right, loopS_succ, D.e79_0, h1, idxGo]
  | succ k ih =>
    intro fuel a ai hai hf hk ha x4 x5
    subst hai
    obtain ⟨f, rfl⟩ : ∃ f, fuel = f + 1 := ⟨fuel - 1, by omega⟩
    by_cases h1 : a < l.length
    · have h : l[a]? = some l[a] := List.getElem?_eq_getElem h1
      generalize l[a] = y at h
      have h0 := ia_strs h
      rw [drop_of h, idxGo]
      have w : IntKind.wrap .i64 ((a : Int) + 1) = (a : Int) + 1 := wr64 (by omega) (by omega)
      by_cases hxy : x = y
      · subst hxy; simp [-List.map_drop, -List.map_take, -List.set_append_left, -List.set_append_right, loopS_succ, D.e79_0, h1, h0]
      · have := ih f (a + 1) ((a : Int) + 1) (by simp [-List.map_drop, -List.map_take, -List.set_append_left, -List.set_append_right]) (by omega) (by omega) (by omega)
        simp [-List.map_drop, -List.map_take, -List.set_append_left, -List.set_append_right, loopS_succ, D.e79_0, h1, h0, hxy, w, this]
    · have h2 : l.drop a = [] := List.drop_eq_nil_of_le (by omega)
      rw [h2]
      simp [-List.map_drop, -List.map_take, -List.set_append_left, -List.set_append_right, loopS_succ, D.e79_0, h1, idxGo]
theorem K.Index (N : Nat) (l : List Bytes) (x : Bytes) (hl : l.length < 4294967290) : vcall cfg (acall cfg N) 79 [strsV l, .str x] = some (.int .i64 (idxS l x)) := by
  apply D.v79
  have := L.Index N l x (by omega) [] l.length 4294967296 0 0 rfl (by omega) (by omega) (by omega)
  simp only [List.drop_zero] at this
  simp [-List.map_drop, -List.map_take, -List.set_append_left, -List.set_append_right, D.s79, sexec_loop, cfgRounds, this, idxS]
theorem K.op (N : Nat) (s : Bytes) : vcall cfg (acall cfg (N + 1)) 58 [.str s] = some (.int .i64 (opS s)) := by
  apply D.v58
  have h := fun N => K.Index N opsL s (by decide)
  simp [-List.map_drop, -List.map_take, -List.set_append_left, -List.set_append_right, D.s58, K.ops, h, opS]
theorem K.ContainsS (N : Nat) (l : List Bytes) (x : Bytes) (hl : l.length < 4294967290) : vcall cfg (acall cfg (N + 1)) 59 [strsV l, .str x] = some (.bool (decide (0 ≤ idxS l x))) := by
  apply D.v59
  simp [-List.map_drop, -List.map_take, -List.set_append_left, -List.set_append_right, D.s59, K.Index _ l x hl]
def regV : Option Int → AV
  | some n => .tup [.int .i64 n, .bool true]
  | none => .tup [.int .i64 0, .bool false]
theorem K.reg (N : Nat) (s : Bytes) : vcall cfg (acall cfg N) 34 [.str s] = some (regV (regS s)) := by
  apply D.v34
  match s with
  | [] => simp [-List.map_drop, -List.map_take, -List.set_append_left, -List.set_append_right, D.s34, regS, regV]
  | [a] => simp [-List.map_drop, -List.map_take, -List.set_append_left, -List.set_append_right, D.s34, regS, regV]
  | a :: b :: c :: r =>
    have : ¬ (((r.length : Int) + 1 + 1 + 1) = 2) := by omega
    simp [-List.map_drop, -List.map_take, -List.set_append_left, -List.set_append_right, D.s34, regS, regV, this]
  | [a, b] =>
    have h0 := ix_str (P := cfg.P) T.ix9 (s := [a, b]) (i := 0) rfl
    have h1 := ix_str (P := cfg.P) T.ix9 (s := [a, b]) (i := 1) rfl
    simp only [Int.natCast_zero, Int.natCast_one] at h0 h1
    by_cases ha : a = 114
    · subst ha
      by_cases hb : 48 ≤ b.toNat
      · by_cases hb2 : b.toNat < 52
        · have w : IntKind.wrap .u8 ((b.toNat : Int) - 48) = (b.toNat : Int) - 48 := by simp [-List.map_drop, -List.map_take, -List.set_append_left, -List.set_append_right, IntKind.wrap, IntKind.signed, IntKind.bits]; omega
          have w2 : IntKind.wrap .i64 ((b.toNat : Int) - 48) = (b.toNat : Int) - 48 := wr64 (by omega) (by omega)
          have c1 : ¬ ((b.toNat : Int) < 48) := by omega
          have c2 : ¬ ((52 : Int) ≤ b.toNat) := by omega
          simp [-List.map_drop, -List.map_take, -List.set_append_left, -List.set_append_right, D.s34, regS, regV, h0, h1, hb, hb2, w, w2, c1, c2]
        · have c1 : ¬ ((b.toNat : Int) < 48) := by omega
          have c2 : ((52 : Int) ≤ b.toNat) := by omega
          simp [-List.map_drop, -List.map_take, -List.set_append_left, -List.set_append_right, D.s34, regS, regV, h0, h1, hb, hb2, c1, c2]
      · have c1 : ((b.toNat : Int) < 48) := by omega
        simp [-List.map_drop, -List.map_take, -List.set_append_left, -List.set_append_right, D.s34, regS, regV, h0, h1, hb, c1]
    · have c0 : ¬ ((a.toNat : Int) = 114) := fun h => ha (by have : a.toNat = 114 := by omega
                                                             exact UInt8.toNat_inj.1 this)
      simp [-List.map_drop, -List.map_take, -List.set_append_left, -List.set_append_right, D.s34, regS, regV, h0, h1, ha, c0]
theorem K.free (N : Nat) (s : Bytes) : vcall cfg (acall cfg (N + 2)) 31 [.str s] = some (.bool (freeS s)) := by
  apply D.v31
  have h1 := fun N => K.reg N s
  have h2 := fun N => K.ContainsS N wordsL s (by decide)
  cases hr : regS s with
  | none =>
    simp only [hr, regV] at h1
    simp [-List.map_drop, -List.map_take, -List.set_append_left, -List.set_append_right, D.s31, h1, K.op, K.words, h2, freeS, hr]
  | some n =>
    simp only [hr, regV] at h1
    simp [-List.map_drop, -List.map_take, -List.set_append_left, -List.set_append_right, D.s31, h1, K.op, K.words, h2, freeS, hr]
/-! the reader -/
section
variable {b : Nat} {H : Heap}
theorem nf1 {X : Blk} {K : Heap} (hb : b < H.length) : H.set b X ++ K = (H ++ K).set b X := by rw [List.set_append_left _ _ hb]
theorem nf2 {X : Blk} {K K2 : Heap} (hb : b < H.length) : (H ++ K).set b X ++ K2 = (H ++ (K ++ K2)).set b X := by rw [← List.append_assoc, List.set_append_left (s := H ++ K) _ _ (by rw [List.length_append]; omega)]
theorem nf3 {X Y : Blk} {K : Heap} {i : Nat} (hb : b < H.length) : ((H ++ K).set b X).set (H.length + i) Y = (H ++ K.set i Y).set b X := by
  rw [List.set_comm _ _ (by omega), List.set_append_right _ _ (by omega)]; simp [-List.map_drop, -List.map_take, -List.set_append_left, -List.set_append_right]
theorem nf3' {X Y : Blk} {K : Heap} (hb : b < H.length) : ((H ++ K).set b X).set H.length Y = (H ++ K.set 0 Y).set b X := nf3 (i := 0) hb
theorem nf4 {X : Blk} {K : Heap} {i : Nat} (hb : b < H.length) : hget ((H ++ K).set b X) (H.length + i) = hget K i := by
  unfold hget
  rw [List.getElem?_set_ne (by omega), List.getElem?_append_right (by omega)]; simp [-List.map_drop, -List.map_take, -List.set_append_left, -List.set_append_right]
theorem nf4' {X : Blk} {K : Heap} (hb : b < H.length) : hget ((H ++ K).set b X) H.length = hget K 0 := nf4 (i := 0) hb
theorem nf5 {X : Blk} {K : Heap} (hb : b < H.length) : hget ((H ++ K).set b X) b = some X := by
  unfold hget; rw [List.getElem?_set_self (by simp [-List.map_drop, -List.map_take, -List.set_append_left, -List.set_append_right]; omega)]
theorem nf5' {X : Blk} (hb : b < H.length) : hget (H.set b X) b = some X := List.getElem?_set_self hb
theorem nf6 {X : Blk} {K : Heap} (hb : b < H.length) : ((H ++ K).set b X).take H.length = H.set b X := by
  rw [List.set_append_left _ _ hb]; exact List.take_left' (by simp [-List.map_drop, -List.map_take, -List.set_append_left, -List.set_append_right])
theorem nf6' {X : Blk} : (H.set b X).take H.length = H.set b X := List.take_of_length_le (by simp [-List.map_drop, -List.map_take, -List.set_append_left, -List.set_append_right])
end
theorem ia_tok0 {t : Tok} {l : List Tok} : indexAddrOf cfg.P 49 (toksV (t :: l)) 0 = some (.vptr (tokV t) 0) :=
  ia_view (P := cfg.P) T.ix49 (i := 0) (by simp [-List.map_drop, -List.map_take, -List.set_append_left, -List.set_append_right]) rfl
theorem K.next (N : Nat) (ns : List Nat) (b : Nat) (H : Heap) (hb : b < H.length) (r : Rd) (kind : Int) : acall cfg (N + 1) ns 30 [.ptr b 0, .int .i64 kind] (H.set b (rdB r)) = .ok (tokV (nextS r kind).1) (H.set b (rdB (nextS r kind).2)) := by
  apply D.i30
  obtain ⟨l, bad⟩ := r
  cases bad with
  | true =>
    simp [-List.map_drop, -List.map_take, -List.set_append_left, -List.set_append_right, D.s30, nf1 hb, nf3' hb, nf4' hb, nf5 hb, nf5' hb, nf6 hb, nf6', nextS]
  | false =>
    cases l with
    | nil => simp [-List.map_drop, -List.map_take, -List.set_append_left, -List.set_append_right, D.s30, nf1 hb, nf3' hb, nf4' hb, nf5 hb, nf5' hb, nf6 hb, nf6', nextS]
    | cons t l =>
      have h0 := ia_tok0 (t := t) (l := l)
      have hne : ¬ ((l.length : Int) + 1 = 0) := by omega
      by_cases hk : t.kind = kind
      · simp [-List.map_drop, -List.map_take, -List.set_append_left, -List.set_append_right, D.s30, nf1 hb, nf3' hb, nf4' hb, nf5 hb, nf5' hb, nf6 hb, nf6', nextS, h0, hk, hne]
      · simp [-List.map_drop, -List.map_take, -List.set_append_left, -List.set_append_right, D.s30, nf1 hb, nf3' hb, nf4' hb, nf5 hb, nf5' hb, nf6 hb, nf6', nextS, h0, hk, hne]
theorem K.done (N : Nat) (ns : List Nat) (b : Nat) (H : Heap) (hb : b < H.length) (r : Rd) (ok : Bool) (hr : r.bad = false → ok = true → r.l ≠ []) : acall cfg (N + 1) ns 32 [.ptr b 0, .bool ok] (H.set b (rdB r)) = .ok (.tup []) (H.set b (rdB (doneS r ok))) := by
  apply D.i32
  obtain ⟨l, bad⟩ := r
  cases bad with
  | true => simp [-List.map_drop, -List.map_take, -List.set_append_left, -List.set_append_right, D.s32, nf5' hb, nf6', doneS]
  | false =>
    cases ok with
    | false => simp [-List.map_drop, -List.map_take, -List.set_append_left, -List.set_append_right, D.s32, nf5' hb, nf6', doneS]
    | true =>
      cases l with
      | nil => exact absurd rfl (hr rfl rfl)
      | cons t l =>
        have h1 : slh' cfg.P 49 (toksV (t :: l)) (.int .i64 1) = some (toksV l) := slh_view (P := cfg.P) T.ix49 (f := tokV) (fun _ => rfl) (l := t :: l) (e := false) (k := .i64) (i := 1) (by simp [-List.map_drop, -List.map_take, -List.set_append_left, -List.set_append_right])
        simp [-List.map_drop, -List.map_take, -List.set_append_left, -List.set_append_right, D.s32, nf5' hb, nf6', doneS, h1]
        trace_state
theorem K.done' (N : Nat) (ns : List Nat) (b : Nat) (H : Heap) (hb : b < H.length) (r : Rd) (k : Int) (ok : Bool) : acall cfg (N + 1) ns 32 [.ptr b 0, .bool ok] (H.set b (rdB (nextS r k).2)) = .ok (.tup []) (H.set b (rdB (doneS (nextS r k).2 ok))) := K.done N ns b H hb _ ok fun h _ => nextS_ne h
theorem K.xsign (N : Nat) (ns : List Nat) (b : Nat) (H : Heap) (hb : b < H.length) (r : Rd) (s : Bytes) : acall cfg (N + 2) ns 33 [.ptr b 0, .str s] (H.set b (rdB r)) = .ok (.tup []) (H.set b (rdB (signR r s))) := by
  apply D.i33
  have hb1 := Nat.lt_add_right 1 hb; have hb2 := Nat.lt_add_right 2 hb; have hb3 := Nat.lt_add_right 3 hb; have hb4 := Nat.lt_add_right 4 hb
  simp [-List.map_drop, -List.map_take, -List.set_append_left, -List.set_append_right, D.s33, hb, nf1 hb, nf2 hb, nf3 hb, nf3' hb, nf4 hb, nf4' hb, nf5 hb, nf5' hb, nf6 hb, nf6', hb1, hb2, hb3, hb4, K.next, K.done', signR]
theorem K.xnum (N : Nat) (ns : List Nat) (b : Nat) (H : Heap) (hb : b < H.length) (r : Rd) : acall cfg (N + 5) ns 35 [.ptr b 0] (H.set b (rdB r)) = .ok (.int .i64 (numR r).1) (H.set b (rdB (numR r).2)) := by
  apply D.i35
  have hb1 := Nat.lt_add_right 1 hb; have hb2 := Nat.lt_add_right 2 hb; have hb3 := Nat.lt_add_right 3 hb; have hb4 := Nat.lt_add_right 4 hb
  simp [-List.map_drop, -List.map_take, -List.set_append_left, -List.set_append_right, D.s35, hb, nf1 hb, nf2 hb, nf3 hb, nf3' hb, nf4 hb, nf4' hb, nf5 hb, nf5' hb, nf6 hb, nf6', hb1, hb2, hb3, hb4, K.next, K.done', numR]
theorem K.xname (N : Nat) (ns : List Nat) (b : Nat) (H : Heap) (hb : b < H.length) (r : Rd) : acall cfg (N + 5) ns 61 [.ptr b 0] (H.set b (rdB r)) = .ok (.str (nameR r).1) (H.set b (rdB (nameR r).2)) := by
  apply D.i61
  have hb1 := Nat.lt_add_right 1 hb; have hb2 := Nat.lt_add_right 2 hb; have hb3 := Nat.lt_add_right 3 hb; have hb4 := Nat.lt_add_right 4 hb
  cases hq : (doneS (nextS r 1).2 (freeS (nextS r 1).1.text)).bad <;> simp [-List.map_drop, -List.map_take, -List.set_append_left, -List.set_append_right, D.s61, hb, nf1 hb, nf2 hb, nf3 hb, nf3' hb, nf4 hb, nf4' hb, nf5 hb, nf5' hb, nf6 hb, nf6', hb1, hb2, hb3, hb4, K.next, K.done', K.free, nameR, hq]
theorem K.xreg (N : Nat) (ns : List Nat) (b : Nat) (H : Heap) (hb : b < H.length) (r : Rd) : acall cfg (N + 5) ns 82 [.ptr b 0] (H.set b (rdB r)) = .ok (.int .i64 (regR r).1) (H.set b (rdB (regR r).2)) := by
  apply D.i82
  have hb1 := Nat.lt_add_right 1 hb; have hb2 := Nat.lt_add_right 2 hb; have hb3 := Nat.lt_add_right 3 hb; have hb4 := Nat.lt_add_right 4 hb
  have h1 := fun N => K.reg N (nextS r 1).1.text
  cases hr : regS (nextS r 1).1.text with
  | none =>
    simp only [hr, regV] at h1
    simp [-List.map_drop, -List.map_take, -List.set_append_left, -List.set_append_right, D.s82, hb, nf1 hb, nf2 hb, nf3 hb, nf3' hb, nf4 hb, nf4' hb, nf5 hb, nf5' hb, nf6 hb, nf6', hb1, hb2, hb3, hb4, K.next, K.done', h1, regR, hr]
  | some n =>
    simp only [hr, regV] at h1
    simp [-List.map_drop, -List.map_take, -List.set_append_left, -List.set_append_right, D.s82, hb, nf1 hb, nf2 hb, nf3 hb, nf3' hb, nf4 hb, nf4' hb, nf5 hb, nf5' hb, nf6 hb, nf6', hb1, hb2, hb3, hb4, K.next, K.done', h1, regR, hr]
theorem K.xval (N : Nat) (ns : List Nat) (b : Nat) (H : Heap) (hb : b < H.length) (r : Rd) : acall cfg (N + 6) ns 64 [.ptr b 0] (H.set b (rdB r)) = .ok (valV (valP r).1) (H.set b (rdB (valP r).2)) := by
  apply D.i64
  have hb1 := Nat.lt_add_right 1 hb; have hb2 := Nat.lt_add_right 2 hb; have hb3 := Nat.lt_add_right 3 hb; have hb4 := Nat.lt_add_right 4 hb
  obtain ⟨l, bad⟩ := r
  cases bad with
  | true => simp [-List.map_drop, -List.map_take, -List.set_append_left, -List.set_append_right, D.s64, hb, nf1 hb, nf2 hb, nf3 hb, nf3' hb, nf4 hb, nf4' hb, nf5 hb, nf5' hb, nf6 hb, nf6', hb1, hb2, hb3, hb4, K.xnum, K.xreg, valP, isNum]
  | false =>
    cases l with
    | nil => simp [-List.map_drop, -List.map_take, -List.set_append_left, -List.set_append_right, D.s64, hb, nf1 hb, nf2 hb, nf3 hb, nf3' hb, nf4 hb, nf4' hb, nf5 hb, nf5' hb, nf6 hb, nf6', hb1, hb2, hb3, hb4, K.xnum, K.xreg, valP, isNum]
    | cons t l =>
      have h0 := ia_tok0 (t := t) (l := l)
      have hp : (0 : Int) < (l.length : Int) + 1 := by omega
      by_cases hk : t.kind = 2 <;> simp [-List.map_drop, -List.map_take, -List.set_append_left, -List.set_append_right, D.s64, hb, nf1 hb, nf2 hb, nf3 hb, nf3' hb, nf4 hb, nf4' hb, nf5 hb, nf5' hb, nf6 hb, nf6', hb1, hb2, hb3, hb4, K.xnum, K.xreg, valP, isNum, h0, hk, hp]
theorem K.xtwo (N : Nat) (ns : List Nat) (b : Nat) (H : Heap) (hb : b < H.length) (r : Rd) : acall cfg (N + 7) ns 83 [.ptr b 0] (H.set b (rdB r)) = .ok (.tup [valV (twoR r).1, valV (twoR r).2.1]) (H.set b (rdB (twoR r).2.2)) := by
  apply D.i83
  have hb1 := Nat.lt_add_right 1 hb; have hb2 := Nat.lt_add_right 2 hb; have hb3 := Nat.lt_add_right 3 hb; have hb4 := Nat.lt_add_right 4 hb
  simp [-List.map_drop, -List.map_take, -List.set_append_left, -List.set_append_right, D.s83, hb, nf1 hb, nf2 hb, nf3 hb, nf3' hb, nf4 hb, nf4' hb, nf5 hb, nf5' hb, nf6 hb, nf6', hb1, hb2, hb3, hb4, K.xval, K.xsign, twoR]
  have hne : b ≠ H.length := Nat.ne_of_lt hb
  simp [-List.map_drop, -List.map_take, -List.set_append_left, -List.set_append_right, hb, nf1 hb, nf2 hb, nf3 hb, nf3' hb, nf4 hb, nf4' hb, nf5 hb, nf5' hb, nf6 hb, nf6', hb1, hb2, hb3, hb4, sexec_raw1, moveOf, aval, aval0, regOps, regOps?, sadraw_nil, sadraw_cons, wantE, knownL, known, opnds, aoper, aop, ev, evl, evlL, evs, evsL, touch, refs1, refs1.refsL, put1, logOk, clash, meets, prec, Region.binds, news, F.c83, Tryd.f83, K.xval]
  rw [sadraw_nil (by simp [-List.map_drop, -List.map_take, -List.set_append_left, -List.set_append_right, logOk, clash, meets, prec, Region.binds, List.getElem?_set, hne, hne.symm])]
  simp [-List.map_drop, -List.map_take, -List.set_append_left, -List.set_append_right, hb, nf1 hb, nf2 hb, nf3 hb, nf3' hb, nf4 hb, nf4' hb, nf5 hb, nf5' hb, nf6 hb, nf6', hb1, hb2, hb3, hb4]
theorem K.xdest (N : Nat) (ns : List Nat) (b : Nat) (H : Heap) (hb : b < H.length) (r : Rd) : acall cfg (N + 7) ns 84 [.ptr b 0] (H.set b (rdB r)) = .ok (.int .i64 (destR r).1) (H.set b (rdB (destR r).2)) := by
  apply D.i84
  have hb1 := Nat.lt_add_right 1 hb; have hb2 := Nat.lt_add_right 2 hb; have hb3 := Nat.lt_add_right 3 hb; have hb4 := Nat.lt_add_right 4 hb
  simp [-List.map_drop, -List.map_take, -List.set_append_left, -List.set_append_right, D.s84, hb, nf1 hb, nf2 hb, nf3 hb, nf3' hb, nf4 hb, nf4' hb, nf5 hb, nf5' hb, nf6 hb, nf6', hb1, hb2, hb3, hb4, K.xreg, K.xsign, destR]
theorem K.xaddress (N : Nat) (ns : List Nat) (b : Nat) (H : Heap) (hb : b < H.length) (r : Rd) : acall cfg (N + 7) ns 81 [.ptr b 0] (H.set b (rdB r)) = .ok (.tup [valV (addressR r).1, valV (addressR r).2.1]) (H.set b (rdB (addressR r).2.2)) := by
  apply D.i81
  have hb1 := Nat.lt_add_right 1 hb; have hb2 := Nat.lt_add_right 2 hb; have hb3 := Nat.lt_add_right 3 hb; have hb4 := Nat.lt_add_right 4 hb
  simp [-List.map_drop, -List.map_take, -List.set_append_left, -List.set_append_right, D.s81, hb, nf1 hb, nf2 hb, nf3 hb, nf3' hb, nf4 hb, nf4' hb, nf5 hb, nf5' hb, nf6 hb, nf6', hb1, hb2, hb3, hb4, K.xval, K.xsign, addressR]
  simp [-List.map_drop, -List.map_take, -List.set_append_left, -List.set_append_right, hb, nf1 hb, nf2 hb, nf3 hb, nf3' hb, nf4 hb, nf4' hb, nf5 hb, nf5' hb, nf6 hb, nf6', hb1, hb2, hb3, hb4, sexec_raw1, regOps, regOps?, F.c81, Tryd.f81, sadraw_nil, sadraw_cons, wantE, knownL, known, opnds, aoper, aop, ev, touch, refs1, put1, logOk, clash, meets, prec, Region.binds]
theorem K.xstore (N : Nat) (ns : List Nat) (b : Nat) (H : Heap) (hb : b < H.length) (r : Rd) : acall cfg (N + 8) ns 62 [.ptr b 0] (H.set b (rdB r)) = .ok (insV (storeR r).1) (H.set b (rdB (storeR r).2)) := by
  apply D.i62
  have hb1 := Nat.lt_add_right 1 hb; have hb2 := Nat.lt_add_right 2 hb; have hb3 := Nat.lt_add_right 3 hb; have hb4 := Nat.lt_add_right 4 hb
  simp [-List.map_drop, -List.map_take, -List.set_append_left, -List.set_append_right, D.s62, hb, nf1 hb, nf2 hb, nf3 hb, nf3' hb, nf4 hb, nf4' hb, nf5 hb, nf5' hb, nf6 hb, nf6', hb1, hb2, hb3, hb4, K.xaddress, K.xsign, K.xreg, storeR]
theorem K.xbranch (N : Nat) (ns : List Nat) (b : Nat) (H : Heap) (hb : b < H.length) (r : Rd) : acall cfg (N + 8) ns 63 [.ptr b 0] (H.set b (rdB r)) = .ok (insV (branchR r).1) (H.set b (rdB (branchR r).2)) := by
  apply D.i63
  have hb1 := Nat.lt_add_right 1 hb; have hb2 := Nat.lt_add_right 2 hb; have hb3 := Nat.lt_add_right 3 hb; have hb4 := Nat.lt_add_right 4 hb
  simp [-List.map_drop, -List.map_take, -List.set_append_left, -List.set_append_right, D.s63, hb, nf1 hb, nf2 hb, nf3 hb, nf3' hb, nf4 hb, nf4' hb, nf5 hb, nf5' hb, nf6 hb, nf6', hb1, hb2, hb3, hb4, K.next, K.done', K.op, K.xtwo, K.xsign, K.xname, branchR]
theorem K.xmoves (N : Nat) (ns : List Nat) (b : Nat) (H : Heap) (hb : b < H.length) (r : Rd) (word : Bytes) : acall cfg (N + 8) ns 65 [.ptr b 0, .str word] (H.set b (rdB r)) = .ok (insV (movesR r word).1) (H.set b (rdB (movesR r word).2)) := by
  apply D.i65
  have hb1 := Nat.lt_add_right 1 hb; have hb2 := Nat.lt_add_right 2 hb; have hb3 := Nat.lt_add_right 3 hb; have hb4 := Nat.lt_add_right 4 hb
  by_cases h1 : word = [109, 111, 118]
  · simp [-List.map_drop, -List.map_take, -List.set_append_left, -List.set_append_right, D.s65, hb, nf1 hb, nf2 hb, nf3 hb, nf3' hb, nf4 hb, nf4' hb, nf5 hb, nf5' hb, nf6 hb, nf6', hb1, hb2, hb3, hb4, K.xdest, K.op, K.xtwo, K.xaddress, K.xval, movesR, h1]
  · by_cases h2 : word = [108, 111, 97, 100]
    · simp [-List.map_drop, -List.map_take, -List.set_append_left, -List.set_append_right, D.s65, hb, nf1 hb, nf2 hb, nf3 hb, nf3' hb, nf4 hb, nf4' hb, nf5 hb, nf5' hb, nf6 hb, nf6', hb1, hb2, hb3, hb4, K.xdest, K.op, K.xtwo, K.xaddress, K.xval, movesR, h1, h2]
    · by_cases h3 : word = [99, 109, 111, 118]
      · simp [-List.map_drop, -List.map_take, -List.set_append_left, -List.set_append_right, D.s65, hb, nf1 hb, nf2 hb, nf3 hb, nf3' hb, nf4 hb, nf4' hb, nf5 hb, nf5' hb, nf6 hb, nf6', hb1, hb2, hb3, hb4, K.xdest, K.op, K.xtwo, K.xaddress, K.xval, movesR, h1, h2, h3]
      · simp [-List.map_drop, -List.map_take, -List.set_append_left, -List.set_append_right, D.s65, hb, nf1 hb, nf2 hb, nf3 hb, nf3' hb, nf4 hb, nf4' hb, nf5 hb, nf5' hb, nf6 hb, nf6', hb1, hb2, hb3, hb4, K.xdest, K.op, K.xtwo, K.xaddress, K.xval, movesR, h1, h2, h3]
theorem K.xins (N : Nat) (ns : List Nat) (b : Nat) (H : Heap) (hb : b < H.length) (r : Rd) (word : Bytes) : acall cfg (N + 9) ns 37 [.ptr b 0, .str word] (H.set b (rdB r)) = .ok (.tup [insV (insR r word).1, .bool (insR r word).2.1]) (H.set b (rdB (insR r word).2.2)) := by
  apply D.i37
  have hb1 := Nat.lt_add_right 1 hb; have hb2 := Nat.lt_add_right 2 hb; have hb3 := Nat.lt_add_right 3 hb; have hb4 := Nat.lt_add_right 4 hb
  by_cases h1 : word = [115, 116, 111, 114, 101]
  · simp [-List.map_drop, -List.map_take, -List.set_append_left, -List.set_append_right, D.s37, hb, nf1 hb, nf2 hb, nf3 hb, nf3' hb, nf4 hb, nf4' hb, nf5 hb, nf5' hb, nf6 hb, nf6', hb1, hb2, hb3, hb4, K.xstore, insR, h1]
  · by_cases h2 : word = [98, 114]
    · simp [-List.map_drop, -List.map_take, -List.set_append_left, -List.set_append_right, D.s37, hb, nf1 hb, nf2 hb, nf3 hb, nf3' hb, nf4 hb, nf4' hb, nf5 hb, nf5' hb, nf6 hb, nf6', hb1, hb2, hb3, hb4, K.xbranch, insR, h1, h2]
    · by_cases h3 : word = [106, 109, 112]
      · simp [-List.map_drop, -List.map_take, -List.set_append_left, -List.set_append_right, D.s37, hb, nf1 hb, nf2 hb, nf3 hb, nf3' hb, nf4 hb, nf4' hb, nf5 hb, nf5' hb, nf6 hb, nf6', hb1, hb2, hb3, hb4, K.xname, insR, h1, h2, h3]
      · by_cases h4 : word = [99, 97, 108, 108]
        · simp [-List.map_drop, -List.map_take, -List.set_append_left, -List.set_append_right, D.s37, hb, nf1 hb, nf2 hb, nf3 hb, nf3' hb, nf4 hb, nf4' hb, nf5 hb, nf5' hb, nf6 hb, nf6', hb1, hb2, hb3, hb4, K.xname, insR, h1, h2, h3, h4]
        · by_cases h5 : word = [105, 110, 100]
          · simp [-List.map_drop, -List.map_take, -List.set_append_left, -List.set_append_right, D.s37, hb, nf1 hb, nf2 hb, nf3 hb, nf3' hb, nf4 hb, nf4' hb, nf5 hb, nf5' hb, nf6 hb, nf6', hb1, hb2, hb3, hb4, K.xval, insR, h1, h2, h3, h4, h5]
          · by_cases h6 : word = [114, 101, 116]
            · simp [-List.map_drop, -List.map_take, -List.set_append_left, -List.set_append_right, D.s37, hb, nf1 hb, nf2 hb, nf3 hb, nf3' hb, nf4 hb, nf4' hb, nf5 hb, nf5' hb, nf6 hb, nf6', hb1, hb2, hb3, hb4, insR, h1, h2, h3, h4, h5, h6]
            · by_cases h7 : word = [102, 101, 110, 99, 101]
              · simp [-List.map_drop, -List.map_take, -List.set_append_left, -List.set_append_right, D.s37, hb, nf1 hb, nf2 hb, nf3 hb, nf3' hb, nf4 hb, nf4' hb, nf5 hb, nf5' hb, nf6 hb, nf6', hb1, hb2, hb3, hb4, insR, h1, h2, h3, h4, h5, h6, h7]
              · by_cases h8 : word = [104, 97, 108, 116]
                · simp [-List.map_drop, -List.map_take, -List.set_append_left, -List.set_append_right, D.s37, hb, nf1 hb, nf2 hb, nf3 hb, nf3' hb, nf4 hb, nf4' hb, nf5 hb, nf5' hb, nf6 hb, nf6', hb1, hb2, hb3, hb4, insR, h1, h2, h3, h4, h5, h6, h7, h8]
                · by_cases h9 : 0 < opS word ∨ word = [109, 111, 118] ∨ word = [108, 111, 97, 100] ∨ word = [99, 109, 111, 118]
                  · have h9' : ((decide (0 < opS word) || decide (word = [109, 111, 118])) || decide (word = [108, 111, 97, 100])) || decide (word = [99, 109, 111, 118]) = true := by simpa [-List.map_drop, -List.map_take, -List.set_append_left, -List.set_append_right, or_assoc] using h9
                    simp [-List.map_drop, -List.map_take, -List.set_append_left, -List.set_append_right, D.s37, hb, nf1 hb, nf2 hb, nf3 hb, nf3' hb, nf4 hb, nf4' hb, nf5 hb, nf5' hb, nf6 hb, nf6', hb1, hb2, hb3, hb4, K.op, K.xmoves, insR, h1, h2, h3, h4, h5, h6, h7, h8, h9, or_assoc]
                  · have h10 := h9
                    simp only [not_or] at h10
                    obtain ⟨q1, q2, q3, q4⟩ := h10
                    simp [-List.map_drop, -List.map_take, -List.set_append_left, -List.set_append_right, D.s37, hb, nf1 hb, nf2 hb, nf3 hb, nf3' hb, nf4 hb, nf4' hb, nf5 hb, nf5' hb, nf6 hb, nf6', hb1, hb2, hb3, hb4, K.op, insR, h1, h2, h3, h4, h5, h6, h7, h8, q1, q2, q3, q4]
theorem K.xplace (N : Nat) (ns : List Nat) (b : Nat) (H : Heap) (hb : b < H.length) (r : Rd) (secret : Bool) : acall cfg (N + 9) ns 36 [.ptr b 0, .bool secret] (H.set b (rdB r)) = .ok (itemV (placeR r secret).1) (H.set b (rdB (placeR r secret).2)) := by
  apply D.i36
  have hb1 := Nat.lt_add_right 1 hb; have hb2 := Nat.lt_add_right 2 hb; have hb3 := Nat.lt_add_right 3 hb; have hb4 := Nat.lt_add_right 4 hb
  obtain ⟨l, bad⟩ := r
  cases bad with
  | true => simp [-List.map_drop, -List.map_take, -List.set_append_left, -List.set_append_right, D.s36, hb, nf1 hb, nf2 hb, nf3 hb, nf3' hb, nf4 hb, nf4' hb, nf5 hb, nf5' hb, nf6 hb, nf6', hb1, hb2, hb3, hb4, K.xname, K.xnum, placeR, isReg]
  | false =>
    cases l with
    | nil => simp [-List.map_drop, -List.map_take, -List.set_append_left, -List.set_append_right, D.s36, hb, nf1 hb, nf2 hb, nf3 hb, nf3' hb, nf4 hb, nf4' hb, nf5 hb, nf5' hb, nf6 hb, nf6', hb1, hb2, hb3, hb4, K.xname, K.xnum, placeR, isReg]
    | cons t l =>
      have h0 := ia_tok0 (t := t) (l := l)
      have hp : (0 : Int) < (l.length : Int) + 1 := by omega
      have h1 := fun N => K.reg N t.text
      have h2 := fun N ns H hb => K.done N ns b H hb ⟨t :: l, false⟩ true (fun _ _ => by simp [-List.map_drop, -List.map_take, -List.set_append_left, -List.set_append_right])
      cases hr : regS t.text with
      | none =>
        simp only [hr, regV] at h1
        simp [-List.map_drop, -List.map_take, -List.set_append_left, -List.set_append_right, D.s36, hb, nf1 hb, nf2 hb, nf3 hb, nf3' hb, nf4 hb, nf4' hb, nf5 hb, nf5' hb, nf6 hb, nf6', hb1, hb2, hb3, hb4, K.xname, K.xnum, placeR, isReg, h0, hp, h1, hr]
      | some n =>
        simp only [hr, regV] at h1
        simp [-List.map_drop, -List.map_take, -List.set_append_left, -List.set_append_right, D.s36, hb, nf1 hb, nf2 hb, nf3 hb, nf3' hb, nf4 hb, nf4' hb, nf5 hb, nf5' hb, nf6 hb, nf6', hb1, hb2, hb3, hb4, K.xname, K.xnum, placeR, isReg, h0, hp, h1, hr, h2]
theorem K.xitem (N : Nat) (ns : List Nat) (b : Nat) (H : Heap) (hb : b < H.length) (r : Rd) : acall cfg (N + 10) ns 18 [.ptr b 0] (H.set b (rdB r)) = .ok (itemV (itemR r).1) (H.set b (rdB (itemR r).2)) := by
  apply D.i18
  have hb1 := Nat.lt_add_right 1 hb; have hb2 := Nat.lt_add_right 2 hb; have hb3 := Nat.lt_add_right 3 hb; have hb4 := Nat.lt_add_right 4 hb
  by_cases hl : r.l = []
  · simp [-List.map_drop, -List.map_take, -List.set_append_left, -List.set_append_right, D.s18, hb, nf1 hb, nf2 hb, nf3 hb, nf3' hb, nf4 hb, nf4' hb, nf5 hb, nf5' hb, nf6 hb, nf6', hb1, hb2, hb3, hb4, itemR, hl]
  · have hne : ¬ ((r.l.length : Int) = 0) := by have := List.length_pos_iff.2 hl; omega
    cases hbad : (nextS r 1).2.bad with
    | true => simp [-List.map_drop, -List.map_take, -List.set_append_left, -List.set_append_right, D.s18, hb, nf1 hb, nf2 hb, nf3 hb, nf3' hb, nf4 hb, nf4' hb, nf5 hb, nf5' hb, nf6 hb, nf6', hb1, hb2, hb3, hb4, itemR, hl, hne, K.next, hbad]
    | false =>
      have h1 := fun N => K.reg N (nextS r 1).1.text
      cases hf : freeS (nextS r 1).1.text with
      | true => simp [-List.map_drop, -List.map_take, -List.set_append_left, -List.set_append_right, D.s18, hb, nf1 hb, nf2 hb, nf3 hb, nf3' hb, nf4 hb, nf4' hb, nf5 hb, nf5' hb, nf6 hb, nf6', hb1, hb2, hb3, hb4, itemR, hl, hne, K.next, hbad, K.free, hf, K.done', K.xsign]
      | false =>
        cases hr : regS (nextS r 1).1.text with
        | some n =>
          simp only [hr, regV] at h1
          simp [-List.map_drop, -List.map_take, -List.set_append_left, -List.set_append_right, D.s18, hb, nf1 hb, nf2 hb, nf3 hb, nf3' hb, nf4 hb, nf4' hb, nf5 hb, nf5' hb, nf6 hb, nf6', hb1, hb2, hb3, hb4, itemR, hl, hne, K.next, hbad, K.free, hf, h1, hr]
        | none =>
          simp only [hr, regV] at h1
          by_cases q1 : (nextS r 1).1.text = [119, 105, 100, 116, 104]
          · simp only [q1] at hf hr h1
            simp [-List.map_drop, -List.map_take, -List.set_append_left, -List.set_append_right, D.s18, hb, nf1 hb, nf2 hb, nf3 hb, nf3' hb, nf4 hb, nf4' hb, nf5 hb, nf5' hb, nf6 hb, nf6', hb1, hb2, hb3, hb4, itemR, hl, hne, K.next, hbad, K.free, hf, h1, hr, K.done', K.xnum, q1]
          · by_cases q2 : (nextS r 1).1.text = [119, 105, 110, 100, 111, 119]
            · simp only [q2] at hf hr h1
              simp [-List.map_drop, -List.map_take, -List.set_append_left, -List.set_append_right, D.s18, hb, nf1 hb, nf2 hb, nf3 hb, nf3' hb, nf4 hb, nf4' hb, nf5 hb, nf5' hb, nf6 hb, nf6', hb1, hb2, hb3, hb4, itemR, hl, hne, K.next, hbad, K.free, hf, h1, hr, K.done', K.xnum, q1, q2]
            · by_cases q3 : (nextS r 1).1.text = [102, 117, 101, 108]
              · simp only [q3] at hf hr h1
                simp [-List.map_drop, -List.map_take, -List.set_append_left, -List.set_append_right, D.s18, hb, nf1 hb, nf2 hb, nf3 hb, nf3' hb, nf4 hb, nf4' hb, nf5 hb, nf5' hb, nf6 hb, nf6', hb1, hb2, hb3, hb4, itemR, hl, hne, K.next, hbad, K.free, hf, h1, hr, K.done', K.xnum, q1, q2, q3]
              · by_cases q4 : (nextS r 1).1.text = [112, 117, 98, 108, 105, 99]
                · simp only [q4] at hf hr h1
                  simp [-List.map_drop, -List.map_take, -List.set_append_left, -List.set_append_right, D.s18, hb, nf1 hb, nf2 hb, nf3 hb, nf3' hb, nf4 hb, nf4' hb, nf5 hb, nf5' hb, nf6 hb, nf6', hb1, hb2, hb3, hb4, itemR, hl, hne, K.next, hbad, K.free, hf, h1, hr, K.done', K.xplace, q1, q2, q3, q4]
                · by_cases q5 : (nextS r 1).1.text = [115, 101, 99, 114, 101, 116]
                  · simp only [q5] at hf hr h1
                    simp [-List.map_drop, -List.map_take, -List.set_append_left, -List.set_append_right, D.s18, hb, nf1 hb, nf2 hb, nf3 hb, nf3' hb, nf4 hb, nf4' hb, nf5 hb, nf5' hb, nf6 hb, nf6', hb1, hb2, hb3, hb4, itemR, hl, hne, K.next, hbad, K.free, hf, h1, hr, K.done', K.xplace, q1, q2, q3, q4, q5]
                  · simp [-List.map_drop, -List.map_take, -List.set_append_left, -List.set_append_right, D.s18, hb, nf1 hb, nf2 hb, nf3 hb, nf3' hb, nf4 hb, nf4' hb, nf5 hb, nf5' hb, nf6 hb, nf6', hb1, hb2, hb3, hb4, itemR, hl, hne, K.next, hbad, K.free, hf, h1, hr, K.done', K.xins, q1, q2, q3, q4, q5]
abbrev parseV (x : Sp.Item × Int × Bool) : AV := .tup [itemV x.1, .int .i64 x.2.1, .bool x.2.2]
theorem K.Parse (N : Nat) (s : Bytes) (hl : s.length ≤ 4294967280) (hsg : SignOk (runes s)) : vcall cfg (acall cfg (N + 11)) 8 [.str s] = some (parseV (parseS s)) := by
  apply D.v8
  have h1 := fun N => K.Line N s hl (runesGo_len s s.length 0) hsg
  have hR := fun N => K.Runes N s (by omega)
  cases hL : lexLine (runes s) with
  | error p =>
    simp only [hL, lexV] at h1
    simp [-List.map_drop, -List.map_take, -List.set_append_left, -List.set_append_right, D.s8, h1, parseS, hL]
  | ok l =>
    simp only [hL, lexV] at h1
    have hI : ∀ ns B0, acall cfg (N + 11) ns 18 [.ptr 1 0] [B0, .box [toksV l, .bool false]] = .ok (itemV (itemR ⟨l, false⟩).1) [B0, .box [toksV (itemR ⟨l, false⟩).2.l, .bool (itemR ⟨l, false⟩).2.bad]] :=
      fun ns B0 => K.xitem (N + 1) ns 1 [B0, .dead] (by simp [-List.map_drop, -List.map_take, -List.set_append_left, -List.set_append_right]) ⟨l, false⟩
    cases hr : (itemR ⟨l, false⟩).2.l with
    | cons t r =>
      have h0 := ia_tok0 (t := t) (l := r)
      have hp : (0 : Int) < (r.length : Int) + 1 := by omega
      simp only [hr] at hI
      simp [-List.map_drop, -List.map_take, -List.set_append_left, -List.set_append_right, D.s8, h1, parseS, hL, hI, hr, h0, hp]
      simp [-List.map_drop, -List.map_take, -List.set_append_left, -List.set_append_right, sexec_raw1, moveOf, aval, aval0, regOps, regOps?, sadraw_nil, sadraw_cons, wantE, knownL, known, opnds, aoper, aop, ev, evl, evlL, evs, evsL, touch, refs1, refs1.refsL, put1, logOk, clash, meets, prec, Region.binds, news, F.c8, Tryd.f8, h0, hp]
    | nil =>
      simp only [hr] at hI
      cases hb : (itemR ⟨l, false⟩).2.bad with
      | true =>
        simp only [hb] at hI
        simp [-List.map_drop, -List.map_take, -List.set_append_left, -List.set_append_right, D.s8, h1, parseS, hL, hI, hr, hb, hR]
      | false =>
        simp only [hb] at hI
        simp [-List.map_drop, -List.map_take, -List.set_append_left, -List.set_append_right, D.s8, h1, parseS, hL, hI, hr, hb]
end Go.Proofs.YtopedkngffaplaaDoor
end STrydSyn
