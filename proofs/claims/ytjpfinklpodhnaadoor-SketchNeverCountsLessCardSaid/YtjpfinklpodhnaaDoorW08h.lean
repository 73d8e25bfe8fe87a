/-
  Chapter 8: the least of a key's cells; counts. No condition.
-/
import Derived.Test.YtjpfinklpodhnaaDoorW08FF
set_option linter.unusedVariables false
set_option linter.unusedSimpArgs false
set_option linter.unusedSectionVars false
namespace Go.Proofs.S08
open Go Go.Ev Go.Proofs
set_option linter.unusedSimpArgs false
set_option linter.unusedVariables false
section
variable {gl : Gl} {n : Nat}
def mn (x y : Int) : Int := if y < x then y else x
def lea (l : List Int) (p : Nat → Nat) : Nat → Int
  | 0 => 15
  | i + 1 => mn (lea l p i) (nat l (p i))
theorem P4_get (p : Nat → Nat) (i : Nat) (h : i < 4) : (P4 p)[i]? = some (i64 (p i)) := by
  match i, h with
  | 0, _ => rfl
  | 1, _ => rfl
  | 2, _ => rfl
  | 3, _ => rfl
theorem P4_len (p : Nat → Nat) : (P4 p).length = 4 := rfl
theorem P4_sc (p : Nat → Nat) : (P4 p).all AV.scalar = true := rfl
def lpr : OB := .lp 330 [.ptr 100001 []] .ready
theorem round_at (h : 1 ≤ n) (a x : Int) : call gl tab n 1000330 [.cp .sc (i64 x)] [(100000, lpr), (100001, .fix .sc (i64 a))] = some (.bool true, [(100000, lpr), (100001, .fix .sc (i64 (mn a x)))], []) := by
  obtain ⟨d, rfl⟩ := Nat.exists_eq_add_of_le' h
  rw [call_giv (fd := fdR330) rfl rfl]
  simp (disch := ((fail_if_success (intro _)); omega)) only [go_sem, simprocAttr, ↓reduceIte, ↓Nat.reduceEqDiff, xx, fdR330, ma330, mb330, lpr, foldO, minAV, mn]
theorem each_at (h : 1 ≤ n) (f : Bool) (m : Sh) (l : List Int) (p : Nat → Nat) : call gl tab n 34 [.lst f m (ns l), .agg (P4 p)] [] = some (.fn 43 [.ptr 20000 [], .ptr 20001 []], [], [.fix (.ar 4 .sc) (.agg (P4 p)), .fix .sc (.lst f m (ns l))]) := by
  obtain ⟨d, rfl⟩ := Nat.exists_eq_add_of_le' h
  rw [call_gen (fd := fd34) rfl]
  simp (disch := ((fail_if_success (intro _)); omega)) only [go_sem, simprocAttr, ↓reduceIte, ↓Nat.reduceEqDiff, xx, fd34, m34, P4]
def L43 : MC := match m43 with | .seq _ (.block _ (.loop _ b)) => b | _ => .skip
def S43 (f : Bool) (m : Sh) (l : List Int) (p : Nat → Nat) (i : Nat) : St :=
  ⟨[.set 7 (i64 i), .set 6 (.agg (P4 p)), .set 2 (.ptr 100003 []), .set 0 (.yld 100000)], [(100003, .fix .sc (.lst f m (ns l))), (100002, .fix (.ar 4 .sc) (.agg (P4 p))), (100001, .fix .sc (i64 (lea l p i))), (100000, lpr)]⟩
set_option maxHeartbeats 1000000 in
theorem least_all (h : 2 ≤ n) {f : Bool} {l : List Int} {p : Nat → Nat} (hp : ∀ i, i < 4 → p i < l.length) (hl : l.length < 2 ^ 20) :
    call gl tab n 43 [.yld 100000, .ptr 100002 [], .ptr 100003 []] [(100000, lpr), (100001, .fix .sc (i64 15)), (100002, .fix (.ar 4 .sc) (.agg (P4 p))), (100003, .fix .sc (.lst f .sc (ns l)))] =
      some (.tup [], [(100000, lpr), (100001, .fix .sc (i64 (lea l p 4))), (100002, .fix (.ar 4 .sc) (.agg (P4 p))), (100003, .fix .sc (.lst f .sc (ns l)))], []) := by
  obtain ⟨d, rfl⟩ := Nat.exists_eq_add_of_le' h
  have hs : ∀ i, i < 4 → contK [.slot 0, .slot 2, .slot 6, .slot 7] (evC gl (call gl tab (d + 1)) L43 (S43 f .sc l p i)) = some (S43 f .sc l p (i + 1)) := fun i hi => by
    have hx := ns_at (hp i hi)
    have hy := P4_get p i hi
    have hlp := P4_len p
    have hsc := P4_sc p
    have hpi := hp i hi
    have c := @round_at gl (d + 1) (by omega) (lea l p i) (nat l (p i))
    have e : lea l p (i + 1) = mn (lea l p i) (nat l (p i)) := rfl
    rw [S43, S43, e]
    simp only [lpr] at c
    generalize P4 p = q at *
    simp (disch := ((fail_if_success (intro _)); omega)) only [go_sem, simprocAttr, ↓reduceIte, ↓Nat.reduceEqDiff, xx, L43, m43, lpr, hx, hy, hlp, hsc, ns_length, c]
  simp only [L43, m43] at hs
  have hlp := P4_len p
  have hsc := P4_sc p
  rw [call_gen (fd := fd43) rfl]
  generalize hq : P4 p = q at *
  simp (disch := ((fail_if_success (intro _)); omega)) only [go_sem, simprocAttr, ↓reduceIte, ↓Nat.reduceEqDiff, xx, fd43, m43, lpr, hlp, hsc]
  rw [iter_to (S43 f .sc l p) 4 (by unfold LF; omega)]
  · rw [S43, hq]; simp (disch := ((fail_if_success (intro _)); omega)) only [go_sem, simprocAttr, ↓reduceIte, ↓Nat.reduceEqDiff, xx, lpr]
  · rw [S43, hq]; simp (disch := ((fail_if_success (intro _)); omega)) only [go_sem, simprocAttr, ↓reduceIte, ↓Nat.reduceEqDiff, xx, lpr, lea]
  · exact hs
  · rw [S43, hq]; simp (disch := ((fail_if_success (intro _)); omega)) only [go_sem, simprocAttr, ↓reduceIte, ↓Nat.reduceEqDiff, xx, lpr]
theorem least_at (h : 3 ≤ n) {f : Bool} {l : List Int} {p : Nat → Nat} (hp : ∀ i, i < 4 → p i < l.length) (hl : l.length < 2 ^ 20) :
    call gl tab n 33 [.lst f .sc (ns l), .agg (P4 p)] [] = some (i64 (lea l p 4), [], []) := by
  obtain ⟨d, rfl⟩ := Nat.exists_eq_add_of_le' h
  have c34 := @each_at gl (d + 2) (by omega) f .sc l p
  have c43 := @least_all gl (d + 2) (by omega) f l p hp hl
  have hlp := P4_len p
  have hsc := P4_sc p
  simp only [lpr] at c43
  rw [call_go (fd := fd33) rfl]
  generalize hq : P4 p = q at *
  simp (disch := ((fail_if_success (intro _)); omega)) only [go_sem, simprocAttr, ↓reduceIte, ↓Nat.reduceEqDiff, xx, fd33, m33, hlp, hsc, c34, c43]
end
section
variable {gl : Gl} {n : Nat}
theorem count_at [Nonempty (H.GlK gl)] (h : 10 ≤ n) {key : List UInt8} (hk : key.length ≤ 1000) {w : Nat} (hw : 1 ≤ w ∧ w ≤ 4096) {s a : Int} {f : Bool} {l : List Int} (hl : l.length = 4 * w) :
    call gl tab n 17 [.agg [i64 w, i64 s, i64 a, .lst f .sc (ns l)], .str key] [] = some (i64 (lea l (pl key w) 4), [], []) := by
  obtain ⟨d, rfl⟩ := Nat.exists_eq_add_of_le' h
  have c31 := @of_at gl (d + 9) _ (by omega) key hk w hw s a f l
  have c33 := @least_at gl (d + 9) (by omega) f l (pl key w) (fun i hi => by rw [hl]; exact pl_lt hw.1 hi) (by omega)
  rw [call_go (fd := fd17) rfl]
  generalize P4 (pl key w) = q at *
  generalize lea l (pl key w) 4 = x at *
  simp (disch := ((fail_if_success (intro _)); omega)) only [go_sem, simprocAttr, ↓reduceIte, ↓Nat.reduceEqDiff, xx, fd17, m17, c31, c33]
def L26 : MC := match m26 with | .seq _ (.seq _ (.seq (.seq _ (.block _ (.loop _ b))) _)) => b | _ => .skip
def S26 (g : Nat → Int) (w : Nat) (s a : Int) (f : Bool) (l : List Int) (key : List UInt8) (i : Nat) : St :=
  ⟨[.set 6 (i64 i), .set 5 (i64 (g i)), .set 2 (.ptr 2 []), .set 1 (.str key)], [(2, .fix sK (.agg [i64 w, i64 s, i64 a, .lst f .sc (ns l)]))]⟩
theorem step26 [Nonempty (H.GlR gl)] (h : 9 ≤ n) {key : List UInt8} (hk : key.length ≤ 1000) {w : Nat} (hw : 1 ≤ w ∧ w ≤ 4096) {s a : Int} {f : Bool} {l : List Int} (hl : l.length = 4 * w) {i : Nat} (hi : i < 4) :
    contK [.slot 1, .slot 2, .slot 5, .slot 6, .key 2] (evC gl (call gl tab n) L26 (S26 (lea l (pl key w)) w s a f l key i)) = some (S26 (lea l (pl key w)) w s a f l key (i + 1)) := by
  have c := @rplace_at gl n _ (by omega) key hk i w hi hw
  have hm := Nat.mod_lt (plc key i) (show 0 < w by omega)
  have hp := pl_lt (key := key) hw.1 hi
  have hx := ns_at (show pl key w i < l.length by omega)
  have hlt : i * w ≤ 3 * w := Nat.mul_le_mul_right w (by omega)
  have e : pl key w i = i * w + plc key i % w := rfl
  have e2 : lea l (pl key w) (i + 1) = mn (lea l (pl key w) i) (nat l (pl key w i)) := rfl
  rw [S26, S26, e2]
  generalize lea l (pl key w) i = b at *
  rw [e] at hx hp ⊢
  generalize plc key i % w = y at *
  generalize hz : i * w = z at *
  have hz2 : (i : Int) * (w : Int) = (z : Int) := by rw [← hz]; exact (Int.natCast_mul i w).symm
  by_cases hb : nat l (z + y) < b
  · simp (implicitDefEqProofs := false) (disch := ((fail_if_success (intro _)); omega)) only [go_sem, simprocAttr, ↓reduceIte, ↓Nat.reduceEqDiff, xx, L26, m26, c, hx, hz2, ns_length, mn, hb]
  · simp (implicitDefEqProofs := false) (disch := ((fail_if_success (intro _)); omega)) only [go_sem, simprocAttr, ↓reduceIte, ↓Nat.reduceEqDiff, xx, L26, m26, c, hx, hz2, ns_length, mn, hb]
theorem rcount_at [Nonempty (H.GlR gl)] (h : 10 ≤ n) {key : List UInt8} (hk : key.length ≤ 1000) {w : Nat} (hw : 1 ≤ w ∧ w ≤ 4096) {s a : Int} {f : Bool} {l : List Int} (hl : l.length = 4 * w) :
    call gl tab n 26 [.agg [i64 w, i64 s, i64 a, .lst f .sc (ns l)], .str key] [] = some (i64 (lea l (pl key w) 4), [], []) := by
  obtain ⟨d, rfl⟩ := Nat.exists_eq_add_of_le' h
  have hs := fun i hi => @step26 gl (d + 9) _ (by omega) key hk w hw s a f l hl i hi
  simp only [L26, m26] at hs
  have hg : lea l (pl key w) 0 = 15 := rfl
  generalize lea l (pl key w) = g at *
  rw [call_go (fd := fd26) rfl]
  simp (disch := ((fail_if_success (intro _)); omega)) only [go_sem, simprocAttr, ↓reduceIte, ↓Nat.reduceEqDiff, xx, fd26, m26]
  rw [iter_to (S26 g w s a f l key) 4 (by unfold LF; omega)]
  · simp (disch := ((fail_if_success (intro _)); omega)) only [go_sem, simprocAttr, ↓reduceIte, ↓Nat.reduceEqDiff, xx, S26]
  · simp (disch := ((fail_if_success (intro _)); omega)) only [go_sem, simprocAttr, ↓reduceIte, ↓Nat.reduceEqDiff, xx, S26, hg]
  · exact hs
  · simp (disch := ((fail_if_success (intro _)); omega)) only [go_sem, simprocAttr, ↓reduceIte, ↓Nat.reduceEqDiff, xx, S26]
end
end Go.Proofs.S08
