/-
  Chapter 33: outboxes. No condition.
-/
import Derived.Test.YtoddlpnnmoaogaaW33A
set_option linter.unusedVariables false
set_option linter.unusedSimpArgs false
set_option linter.unusedSectionVars false
namespace Go.Proofs.S33
open Go Go.Ev Go.Proofs
set_option linter.unusedSimpArgs false
set_option linter.unusedVariables false
variable {gl : Gl} {n : Nat}
def ss (l : List (List UInt8)) : List AV := l.map .str
def sat (l : List (List UInt8)) (i : Nat) : List UInt8 := l.getD i []
theorem ss_length (l : List (List UInt8)) : (ss l).length = l.length := by simp [ss]
theorem ss_at {l : List (List UInt8)} {i : Nat} (h : i < l.length) : (ss l)[i]? = some (.str (sat l i)) := by simp [ss, sat, h]
theorem ss_app (l : List (List UInt8)) (s : List UInt8) : ss (l ++ [s]) = ss l ++ [.str s] := by simp [ss]
theorem ss_drop (l : List (List UInt8)) (k : Nat) : (ss l).drop k = ss (l.drop k) := by simp [ss, List.map_drop]
theorem ss_take' (l : List (List UInt8)) : (ss l).take l.length = ss l := by rw [← ss_length]; exact List.take_length
def Ms (l : List (List UInt8)) (m : Sh) : Prop := l = [] ∨ m = .sc
theorem Ms.eq {l : List (List UInt8)} {m : Sh} (h : Ms l m) {i : Nat} (hi : i < l.length) : m = .sc := h.resolve_left (by rintro rfl; simp at hi)
abbrev ob (b a : Int) (s : List UInt8) (f : Bool) (m : Sh) (l : List (List UInt8)) : AV := .agg [i64 b, i64 a, .str s, .lst f m (ss l)]
theorem end_at (h : 1 ≤ n) (b a : Int) (s : List UInt8) (f : Bool) (m : Sh) (l : List (List UInt8)) (hb : 0 ≤ b ∧ b ≤ 1000) (hl : l.length ≤ 1000) : call gl tab n 31 [ob b a s f m l] [] = some (i64 (b + l.length), [], []) := by
  obtain ⟨d, rfl⟩ := Nat.exists_eq_add_of_le' h
  rw [call_go (fd := fd31) rfl]
  simp (disch := ((fail_if_success (intro _)); omega)) only [go_sem, simprocAttr, ↓reduceIte, ↓Nat.reduceEqDiff, xx, fd31, m31, ss_length]
theorem long_at (h : 2 ≤ n) (s : List UInt8) (hs : s.length ≤ 1000) : call gl tab n 37 [.str s] [] = some (.bool false, [], []) := by
  obtain ⟨d, rfl⟩ := Nat.exists_eq_add_of_le' h
  have c := @isBody_at gl (d + 1) (by omega) s (by omega)
  rw [decide_eq_true (show s.length ≤ 65536 by omega)] at c
  rw [call_go (fd := fd37) rfl]
  simp (disch := ((fail_if_success (intro _)); omega)) only [go_sem, simprocAttr, ↓reduceIte, ↓Nat.reduceEqDiff, xx, fd37, m37, c]
def L40 : MC := match m40 with | .seq _ (.seq (.seq _ (.block _ (.loop _ b))) _) => b | _ => .skip
def S40 (f : Bool) (m : Sh) (l : List (List UInt8)) (i : Nat) : St := ⟨[.set 8 (i64 i), .set 7 (i64 l.length), .set 1 (.fn 37 []), .set 0 (.lst f m (ss l))], []⟩
/-- No text is too long. -/
theorem noLong_at (h : 4 ≤ n) {f : Bool} {m : Sh} {l : List (List UInt8)} (hm : Ms l m) (hl : l.length ≤ 1000) (hs : ∀ i, i < l.length → (sat l i).length ≤ 1000) : call gl tab n 36 [.lst f m (ss l), .fn 37 []] [] = some (.bool false, [], []) := by
  obtain ⟨d, rfl⟩ := Nat.exists_eq_add_of_le' h
  have c40 : call gl tab (d + 3) 40 [.lst f m (ss l), .fn 37 []] [] = some (i64 (-1), [], []) := by
    have hst : ∀ i, i < l.length → contK [.slot 0, .slot 1, .slot 7, .slot 8] (evC gl (call gl tab (d + 2)) L40 (S40 f m l i)) = some (S40 f m l (i + 1)) := fun i hi => by
      have hx := ss_at hi
      obtain rfl := hm.eq hi
      have c := @long_at gl (d + 2) (by omega) (sat l i) (hs i hi)
      simp (disch := ((fail_if_success (intro _)); omega)) only [go_sem, simprocAttr, ↓reduceIte, ↓Nat.reduceEqDiff, xx, L40, m40, S40, ss_length, hx, c]
    simp only [L40, m40] at hst
    rw [call_go (fd := fd40) rfl]
    simp (disch := ((fail_if_success (intro _)); omega)) only [go_sem, simprocAttr, ↓reduceIte, ↓Nat.reduceEqDiff, xx, fd40, m40, ss_length]
    rw [iter_to (S40 f m l) l.length (by unfold LF; omega)]
    · simp (disch := ((fail_if_success (intro _)); omega)) only [go_sem, simprocAttr, ↓reduceIte, ↓Nat.reduceEqDiff, xx, S40, ss_length]
    · simp (disch := ((fail_if_success (intro _)); omega)) only [go_sem, simprocAttr, ↓reduceIte, ↓Nat.reduceEqDiff, xx, S40, ss_length]
    · exact hst
    · simp (disch := ((fail_if_success (intro _)); omega)) only [go_sem, simprocAttr, ↓reduceIte, ↓Nat.reduceEqDiff, xx, S40, ss_length]
  rw [call_go (fd := fd36) rfl]
  simp (disch := ((fail_if_success (intro _)); omega)) only [go_sem, simprocAttr, ↓reduceIte, ↓Nat.reduceEqDiff, xx, fd36, m36, c40]
/-- An outbox as the laws have them. -/
structure VO (b a : Int) (s : List UInt8) (m : Sh) (l : List (List UInt8)) : Prop where
  pb : 0 ≤ b ∧ b ≤ 200
  pa : 0 ≤ a ∧ a ≤ b + l.length
  pn : l.length ≤ 200
  ps : s.length ≤ 1000
  pm : Ms l m
  pl : ∀ i, i < l.length → (sat l i).length ≤ 1000
set_option maxHeartbeats 1000000 in
theorem validOut_at (h : 5 ≤ n) {b a : Int} {s : List UInt8} {f : Bool} {m : Sh} {l : List (List UInt8)} (hv : VO b a s m l) : call gl tab n 29 [ob b a s f m l] [] = some (.bool true, [], []) := by
  obtain ⟨d, rfl⟩ := Nat.exists_eq_add_of_le' h
  obtain ⟨hb, ha, hn, hs, hm, hl⟩ := hv
  have c36 := @noLong_at gl (d + 4) (by omega) f m l hm (by omega) hl
  have c31 := @end_at gl (d + 4) (by omega) b a s f m l (by omega) (by omega)
  have c16 := @within_at gl (d + 4) (by omega) b 1099511627776
  have c16b := @within_at gl (d + 4) (by omega) a (b + l.length)
  have c15 := @isBody_at gl (d + 4) (by omega) s (by omega)
  rw [decide_eq_true (show s.length ≤ 65536 by omega)] at c15
  rw [show (decide (0 ≤ b) && decide (b ≤ 1099511627776)) = true by simp; omega] at c16
  rw [show (decide (0 ≤ a) && decide (a ≤ b + l.length)) = true by simp; omega] at c16b
  rw [call_go (fd := fd29) rfl]
  have hmn : min (1099511627776 : Int) (b + l.length) = b + l.length := by omega
  simp (disch := ((fail_if_success (intro _)); omega)) only [go_sem, simprocAttr, ↓reduceIte, ↓Nat.reduceEqDiff, xx, fd29, m29, c36, c31, c16, c16b, c15, ss_length, foldO, minAV, hmn]
/-! ### Put, Fold, Acknowledge, Restart -/
theorem cloneS_at (h : 1 ≤ n) {f : Bool} {m : Sh} {l : List (List UInt8)} (hm : Ms l m) (hl : l.length ≤ 1000) : call gl tab n 35 [.lst f m (ss l)] [] = some (.sl 20000 [] 0 l.length, [], [.grow .sc (ss l)]) := by
  obtain ⟨d, rfl⟩ := Nat.exists_eq_add_of_le' h
  rw [call_giv (fd := fd35) rfl rfl]
  have h1 : l.length ≤ LIM := by unfold LIM; omega
  rcases hm with rfl | rfl
  · simp [cloneG, ss]
  · simp [cloneG, ss_length, h1, Sh.beq, Sh.beqs]
set_option maxHeartbeats 1000000 in
theorem put_at (h : 6 ≤ n) {b a : Int} {s t : List UInt8} {f : Bool} {m : Sh} {l : List (List UInt8)} (hv : VO b a s m l) (ht : t.length ≤ 1000) :
    call gl tab n 25 [ob b a s f m l, .str t] [] = some (.tup [ob b a s false .sc (l ++ [t]), i64 0], [], []) := by
  obtain ⟨d, rfl⟩ := Nat.exists_eq_add_of_le' h
  have c29 := @validOut_at gl (d + 5) (by omega) b a s f m l hv
  obtain ⟨hb, ha, hn, hs, hm, hl⟩ := hv
  have c31 := @end_at gl (d + 5) (by omega) b a s f m l (by omega) (by omega)
  have c15 := @isBody_at gl (d + 5) (by omega) t (by omega)
  rw [decide_eq_true (show t.length ≤ 65536 by omega)] at c15
  have c35 := @cloneS_at gl (d + 5) (by omega) f m l hm (by omega)
  have hL : l.length + 1 ≤ LIM := by unfold LIM; omega
  have ha := ss_app l t
  have hta : List.take (l.length + 1) (ss l ++ [.str t]) = ss l ++ [.str t] := by rw [← ss_length]; exact List.take_of_length_le (by simp)
  rw [call_go (fd := fd25) rfl]
  simp (disch := ((fail_if_success (intro _)); omega)) only [go_sem, simprocAttr, ↓reduceIte, ↓Nat.reduceEqDiff, xx, fd25, m25, c29, c31, c15, c35, ss_length, hL, ha, hta, ob]
theorem ss_size {l : List (List UInt8)} {m : Sh} (hm : Ms l m) : ((ss l).isEmpty || m.size == 1) = true := by
  rcases hm with rfl | rfl <;> simp [ss, Sh.size]
theorem Ms.drop {l : List (List UInt8)} {m : Sh} (hm : Ms l m) (k : Nat) : Ms (l.drop k) m := by
  rcases hm with rfl | rfl
  · exact .inl (by simp)
  · exact .inr rfl
theorem sub_nat {b : Int} {u : Int} (h : b ≤ u) : ((u - b).toNat : Int) = u - b := by omega
set_option maxHeartbeats 1000000 in
theorem fold_at (h : 6 ≤ n) {b a : Int} {s t : List UInt8} {f : Bool} {m : Sh} {l : List (List UInt8)} (hv : VO b a s m l) (ht : t.length ≤ 1000) {k : Nat} (hk : k ≤ l.length) :
    call gl tab n 18 [ob b a s f m l, i64 (b + k), .str t] [] = some (.tup [ob (b + k) a t f m (l.drop k), i64 0], [], []) := by
  obtain ⟨d, rfl⟩ := Nat.exists_eq_add_of_le' h
  have c29 := @validOut_at gl (d + 5) (by omega) b a s f m l hv
  obtain ⟨hb, ha, hn, hs, hm, hl⟩ := hv
  have c31 := @end_at gl (d + 5) (by omega) b a s f m l (by omega) (by omega)
  have c15 := @isBody_at gl (d + 5) (by omega) t (by omega)
  rw [decide_eq_true (show t.length ≤ 65536 by omega)] at c15
  have hd := ss_drop l k
  have hz := ss_size hm
  have ht := ss_take' l
  have he : b + (k : Int) - b = k := by omega
  rw [call_go (fd := fd18) rfl]
  simp (disch := ((fail_if_success (intro _)); omega)) only [go_sem, simprocAttr, ↓reduceIte, ↓Nat.reduceEqDiff, xx, fd18, m18, c29, c31, c15, ss_length, hd, he, ob, hz, ht]
set_option maxHeartbeats 1000000 in
theorem ack_old (h : 6 ≤ n) {b a : Int} {s : List UInt8} {f : Bool} {m : Sh} {l : List (List UInt8)} (hv : VO b a s m l) {x : Int} (hx : 0 ≤ x ∧ x ≤ b + l.length) (ho : x ≤ a) :
    call gl tab n 14 [ob b a s f m l, i64 x] [] = some (.tup [ob b a s f m l, i64 0], [], []) := by
  obtain ⟨d, rfl⟩ := Nat.exists_eq_add_of_le' h
  have c29 := @validOut_at gl (d + 5) (by omega) b a s f m l hv
  obtain ⟨hb, ha, hn, hs, hm, hl⟩ := hv
  have c31 := @end_at gl (d + 5) (by omega) b a s f m l (by omega) (by omega)
  have c16 := @within_at gl (d + 5) (by omega) x (b + l.length)
  rw [show (decide (0 ≤ x) && decide (x ≤ b + l.length)) = true by simp; omega] at c16
  rw [call_go (fd := fd14) rfl]
  simp (disch := ((fail_if_success (intro _)); omega)) only [go_sem, simprocAttr, ↓reduceIte, ↓Nat.reduceEqDiff, xx, fd14, m14, c29, c31, c16, ss_length, ob]
set_option maxHeartbeats 1000000 in
theorem ack_low (h : 6 ≤ n) {b a : Int} {s : List UInt8} {f : Bool} {m : Sh} {l : List (List UInt8)} (hv : VO b a s m l) {x : Int} (hx : 0 ≤ x ∧ x ≤ b + l.length) (ho : a < x) (hl : x ≤ b) :
    call gl tab n 14 [ob b a s f m l, i64 x] [] = some (.tup [ob b x s f m l, i64 0], [], []) := by
  obtain ⟨d, rfl⟩ := Nat.exists_eq_add_of_le' h
  have c29 := @validOut_at gl (d + 5) (by omega) b a s f m l hv
  obtain ⟨hb, ha, hn, hs, hm, _⟩ := hv
  have c31 := @end_at gl (d + 5) (by omega) b a s f m l (by omega) (by omega)
  have c16 := @within_at gl (d + 5) (by omega) x (b + l.length)
  rw [show (decide (0 ≤ x) && decide (x ≤ b + l.length)) = true by simp; omega] at c16
  rw [call_go (fd := fd14) rfl]
  simp (disch := ((fail_if_success (intro _)); omega)) only [go_sem, simprocAttr, ↓reduceIte, ↓Nat.reduceEqDiff, xx, fd14, m14, c29, c31, c16, ss_length, ob]
set_option maxHeartbeats 1000000 in
theorem ack_new (h : 6 ≤ n) {b a : Int} {s : List UInt8} {f : Bool} {m : Sh} {l : List (List UInt8)} (hv : VO b a s m l) {k : Nat} (hk : k ≤ l.length) (ho : a < b + k) (hl : 0 < k) :
    call gl tab n 14 [ob b a s f m l, i64 (b + k)] [] = some (.tup [ob (b + k) (b + k) [] f m (l.drop k), i64 0], [], []) := by
  obtain ⟨d, rfl⟩ := Nat.exists_eq_add_of_le' h
  have c29 := @validOut_at gl (d + 5) (by omega) b a s f m l hv
  obtain ⟨hb, ha, hn, hs, hm, _⟩ := hv
  have c31 := @end_at gl (d + 5) (by omega) b a s f m l (by omega) (by omega)
  have c16 := @within_at gl (d + 5) (by omega) (b + k) (b + l.length)
  rw [show (decide (0 ≤ b + (k : Int)) && decide (b + (k : Int) ≤ b + l.length)) = true by simp; omega] at c16
  have hd := ss_drop l k
  have hz := ss_size hm
  have ht := ss_take' l
  have he : b + (k : Int) - b = k := by omega
  rw [call_go (fd := fd14) rfl]
  simp (disch := ((fail_if_success (intro _)); omega)) only [go_sem, simprocAttr, ↓reduceIte, ↓Nat.reduceEqDiff, xx, fd14, m14, c29, c31, c16, ss_length, hd, he, ob, hz, ht]
theorem restart_at (h : 1 ≤ n) (nx : Int) (f : Bool) (m : Sh) (l : List Fm) : call gl tab n 28 [.agg [i64 nx, .lst f m (fm l)]] [] = some (.agg [i64 nx, .lst true .sc (fm [])], [], []) := by
  obtain ⟨d, rfl⟩ := Nat.exists_eq_add_of_le' h
  rw [call_go (fd := fd28) rfl]
  simp (disch := ((fail_if_success (intro _)); omega)) only [go_sem, simprocAttr, ↓reduceIte, ↓Nat.reduceEqDiff, xx, fd28, m28, fm_nil]
end Go.Proofs.S33
namespace Go.Proofs.S33
open Go Go.Ev Go.Proofs
set_option linter.unusedSimpArgs false
set_option linter.unusedVariables false
variable {gl : Gl} {n : Nat}
def msg (k : Nat) : List UInt8 := [109, UInt8.ofNat (97 + k % 26), UInt8.ofNat (97 + k / 26 % 26)]
def smy (k : Nat) : List UInt8 := 115 :: msg k
theorem msg_len (k : Nat) : (msg k).length = 3 := rfl
theorem smy_len (k : Nat) : (smy k).length = 4 := rfl
theorem bs_add (a b : List UInt8) (h : a.length + b.length ≤ 1000) : binStr .add a b = some (.str (a ++ b)) := if_pos (by unfold LIM; omega)
theorem rem_at (k m : Nat) (hm : 0 < m) : binInt .rem .i64 (k : Int) (m : Int) = some (.int .i64 ((k % m : Nat) : Int)) := by
  show (if (m : Int) = 0 then none else some (AV.int .i64 ((k : Int).tmod m))) = _
  rw [if_neg (by omega)]; rfl
theorem quo_at (k m : Nat) (hm : 0 < m) (hk : k < 2 ^ 60) (hm2 : m < 2 ^ 60) : binInt .quo .i64 (k : Int) (m : Int) = some (.int .i64 ((k / m : Nat) : Int)) := by
  have e : (k : Int).tdiv (m : Int) = ((k / m : Nat) : Int) := rfl
  have hkm : k / m ≤ k := Nat.div_le_self k m
  show (if (m : Int) = 0 then none else some (AV.int .i64 (IntKind.i64.wrap ((k : Int).tdiv m)))) = _
  rw [if_neg (by omega), e]
  generalize k / m = q at *
  rw [wrap_i64 (by omega) (by omega)]
theorem byte1 (a : Nat) (ha : a < 26) : Ev.byteOf (AV.int .u8 ((BitVec.ofInt 8 (97 + (a : Int))).toNat : Int)) = some (UInt8.ofNat (97 + a)) := by
  have e : (BitVec.ofInt 8 (97 + (a : Int))).toNat = 97 + a := by
    rw [BitVec.toNat_ofInt, show (97 + (a : Int)) = ((97 + a : Nat) : Int) by omega]; omega
  rw [e]; rfl
theorem bytes2 (a b : Nat) (ha : a < 26) (hb : b < 26) : Ev.bytesOf [AV.int .u8 ((BitVec.ofInt 8 (97 + (a : Int))).toNat : Int), .int .u8 ((BitVec.ofInt 8 (97 + (b : Int))).toNat : Int)] = some [UInt8.ofNat (97 + a), UInt8.ofNat (97 + b)] := by
  rw [Ev.bytesOf, byte1 a ha, Ev.bytesOf, byte1 b hb]; rfl
theorem msg_at (h : 1 ≤ n) (k : Nat) (hk : k ≤ 1000) : call gl tab n 26 [i64 k] [] = some (.str (msg k), [], []) := by
  obtain ⟨d, rfl⟩ := Nat.exists_eq_add_of_le' h
  have e1 : Int.tmod (k : Int) 26 = ((k % 26 : Nat) : Int) := rfl
  have e2 : Int.tdiv (k : Int) 26 = ((k / 26 : Nat) : Int) := rfl
  have e3 : Int.tmod ((k / 26 : Nat) : Int) 26 = ((k / 26 % 26 : Nat) : Int) := rfl
  rw [call_go (fd := fd26) rfl]
  have r1 := rem_at k 26 (by omega)
  have r2 := quo_at k 26 (by omega) (by omega) (by omega)
  have r3 := rem_at (k / 26) 26 (by omega)
  simp only [Int.cast_ofNat_Int] at r1 r2 r3
  have hb := bytes2 (k % 26) (k / 26 % 26) (by omega) (by omega)
  have hs := bs_add [109] [UInt8.ofNat (97 + k % 26), UInt8.ofNat (97 + k / 26 % 26)] (by simp)
  simp (disch := ((fail_if_success (intro _)); omega)) only [go_sem, simprocAttr, ↓reduceIte, ↓Nat.reduceEqDiff, xx, fd26, m26, r1, r2, r3, hb, msg, List.cons_append, List.nil_append, hs]
theorem smy_at (h : 2 ≤ n) (k : Nat) (hk : k ≤ 1000) : call gl tab n 27 [i64 k] [] = some (.str (smy k), [], []) := by
  obtain ⟨d, rfl⟩ := Nat.exists_eq_add_of_le' h
  have c := @msg_at gl (d + 1) (by omega) k hk
  rw [call_go (fd := fd27) rfl]
  have hs := bs_add [115] (msg k) (by rw [msg_len]; simp)
  simp (disch := ((fail_if_success (intro _)); omega)) only [go_sem, simprocAttr, ↓reduceIte, ↓Nat.reduceEqDiff, xx, fd27, m27, c, smy, hs, List.cons_append, List.nil_append]
end Go.Proofs.S33
