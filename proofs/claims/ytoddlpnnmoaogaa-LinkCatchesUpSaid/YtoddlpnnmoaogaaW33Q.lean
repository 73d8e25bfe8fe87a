/-
  Chapter 33: the rounds over what has to be sent. No condition.
-/
import Derived.Test.YtoddlpnnmoaogaaW33P
set_option linter.unusedVariables false
set_option linter.unusedSimpArgs false
set_option linter.unusedSectionVars false
namespace Go.Proofs.S33
open Go Go.Ev Go.Proofs
set_option linter.unusedSimpArgs false
set_option linter.unusedVariables false
variable {gl : Gl} {n : Nat}
def lpr : OB := .lp 130 [.ptr 100001 [], .ptr 100002 []] .ready
def lpd : OB := .lp 130 [.ptr 100001 [], .ptr 100002 []] (.done (.exit 0))
set_option maxHeartbeats 4000000 in


theorem round_nil (h : 1 ≤ n) (x : Fm) (m : Int) (hm : 1 ≤ m) : call gl tab n 1000130 [.agg [.bool x.s, i64 x.q, .str x.b]] [(100000, lpr), (100001, .fix .sc (i64 m)), (100002, .fix .sc (.lst true .sc []))] =
    some (.bool true, [(100000, lpr), (100001, .fix .sc (i64 m)), (100002, .fix .sc (.sl 20000 [] 0 1))], [.grow sF (fm [x])]) := by
  obtain ⟨d, rfl⟩ := Nat.exists_eq_add_of_le' h
  rw [call_giv (fd := fdR130) rfl rfl]
  have h1 : ((0 : Int) == m) = false := by rw [beq_eq_false_iff_ne]; omega
  have hL : 1 ≤ LIM := by unfold LIM; omega
  have e : fm [x] = [.agg [.bool x.s, i64 x.q, .str x.b]] := rfl
  rw [e]
  simp (maxSteps := 1000000) (disch := ((fail_if_success (intro _)); omega)) only [go_sem, simprocAttr, ↓reduceIte, ↓Nat.reduceEqDiff, xx, fdR130, ma130, mb130, lpr, h1, hL]
set_option maxHeartbeats 4000000 in
theorem round_own (h : 1 ≤ n) (x : Fm) (m : Int) (o : List Fm) (ho : o.length < 1000) (hm : (o.length : Int) ≠ m) : call gl tab n 1000130 [.agg [.bool x.s, i64 x.q, .str x.b]] [(100000, lpr), (100001, .fix .sc (i64 m)), (100002, .fix .sc (.sl 100003 [] 0 o.length)), (100003, .grow sF (fm o))] =
    some (.bool true, [(100000, lpr), (100001, .fix .sc (i64 m)), (100002, .fix .sc (.sl 20000 [] 0 (o.length + 1))), (100003, .dead)], [.grow sF (fm (o ++ [x]))]) := by
  obtain ⟨d, rfl⟩ := Nat.exists_eq_add_of_le' h
  rw [call_giv (fd := fdR130) rfl rfl]
  have h1 : ((o.length : Int) == m) = false := by rw [beq_eq_false_iff_ne]; omega
  have hL : o.length + 1 ≤ LIM := by unfold LIM; omega
  have e := fm_app o x
  simp (maxSteps := 1000000) (disch := ((fail_if_success (intro _)); omega)) only [go_sem, simprocAttr, ↓reduceIte, ↓Nat.reduceEqDiff, xx, fdR130, ma130, mb130, lpr, h1, hL, fm_length, e]
theorem round_end (h : 1 ≤ n) (x : Fm) (o : List Fm) (ho : o.length < 1000) : call gl tab n 1000130 [.agg [.bool x.s, i64 x.q, .str x.b]] [(100000, lpr), (100001, .fix .sc (i64 o.length)), (100002, .fix .sc (.sl 100003 [] 0 o.length)), (100003, .grow sF (fm o))] =
    some (.bool false, [(100000, lpd), (100001, .fix .sc (i64 o.length)), (100002, .fix .sc (.sl 100003 [] 0 o.length)), (100003, .grow sF (fm o))], []) := by
  obtain ⟨d, rfl⟩ := Nat.exists_eq_add_of_le' h
  rw [call_giv (fd := fdR130) rfl rfl]
  simp (disch := ((fail_if_success (intro _)); omega)) only [go_sem, simprocAttr, ↓reduceIte, ↓Nat.reduceEqDiff, xx, fdR130, ma130, mb130, lpr, lpd, fm_length, beq_self_eq_true]
end Go.Proofs.S33
namespace Go.Proofs.S33
open Go Go.Ev Go.Proofs
set_option linter.unusedSimpArgs false
set_option linter.unusedVariables false
variable {gl : Gl} {n : Nat}
def L38 : MC := match m38 with | .seq _ (.seq _ (.block _ (.loop _ b))) => b | _ => .skip
abbrev k38 : List Kp := [.slot 0, .slot 1, .slot 3, .mv 100002 [] 8020]
def mfr (b : Int) (l : List (List UInt8)) (i : Nat) : Fm := ⟨false, b + i, sat l i⟩
def bX (b a : Int) (s : List UInt8) (f : Bool) (m : Sh) (l : List (List UInt8)) : OB := .fix (.st [.sc, .sc, .sc, .sc]) (ob b a s f m l)
def bU (k : Nat) (o : List Fm) : OB := .fix .sc (.sl k [] 0 o.length)
def bM (m : Int) : OB := .fix .sc (i64 m)
def S38n (mo b a : Int) (s : List UInt8) (f : Bool) (m : Sh) (l : List (List UInt8)) (i : Nat) : St :=
  ⟨[.set 3 (i64 (b + i)), .set 1 (.ptr 100003 []), .set 0 (.yld 100000)], [(100003, bX b a s f m l), (100002, .fix .sc (.lst true .sc [])), (100001, bM mo), (100000, lpr)]⟩
def S38o (mo b a : Int) (s : List UInt8) (f : Bool) (m : Sh) (l : List (List UInt8)) (o : List Fm) (i : Nat) : St :=
  ⟨[.set 3 (i64 (b + i)), .set 1 (.ptr 100003 []), .set 0 (.yld 100000)], [(100003, bX b a s f m l), (100002, bU 8020 o), (100001, bM mo), (100000, lpr), (8020, .grow sF (fm o))]⟩
set_option maxHeartbeats 2000000 in
theorem fs_nil (h : 2 ≤ n) {mo b a : Int} {s : List UInt8} {f : Bool} {m : Sh} {l : List (List UInt8)} (hv : VO b a s m l) {i : Nat} (hi : i < l.length) (hm : 1 ≤ mo) :
    contK k38 (evC gl (call gl tab n) L38 (S38n mo b a s f m l i)) = some (S38o mo b a s f m l [mfr b l i] (i + 1)) := by
  have c31 := @end_at gl n (by omega) b a s f m l (by have := hv.pb; omega) (by have := hv.pn; omega)
  have hx := ss_at hi
  obtain ⟨hb, ha, hn, hs, hms, _⟩ := hv
  obtain rfl := hms.eq hi
  have c := @round_nil gl n (by omega) (mfr b l i) mo hm
  simp only [mfr, lpr] at c
  have he : b + (i : Int) - b = i := by omega
  have e2 : b + ((i + 1 : Nat) : Int) = b + i + 1 := by omega
  rw [S38o, e2]
  simp (disch := ((fail_if_success (intro _)); omega)) only [go_sem, simprocAttr, ↓reduceIte, ↓Nat.reduceEqDiff, xx, L38, m38, S38n, bX, bM, bU, ob, ss_length, hx, c, c31, he, mfr, lpr, List.length_singleton]
set_option maxHeartbeats 2000000 in
theorem fs_own (h : 2 ≤ n) {mo b a : Int} {s : List UInt8} {f : Bool} {m : Sh} {l : List (List UInt8)} (hv : VO b a s m l) {i : Nat} (hi : i < l.length) {o : List Fm} (ho : o.length < 1000) (hm : (o.length : Int) ≠ mo) :
    contK k38 (evC gl (call gl tab n) L38 (S38o mo b a s f m l o i)) = some (S38o mo b a s f m l (o ++ [mfr b l i]) (i + 1)) := by
  have c31 := @end_at gl n (by omega) b a s f m l (by have := hv.pb; omega) (by have := hv.pn; omega)
  have hx := ss_at hi
  obtain ⟨hb, ha, hn, hs, hms, _⟩ := hv
  obtain rfl := hms.eq hi
  have c := @round_own gl n (by omega) (mfr b l i) mo o ho hm
  have hl : (o ++ [mfr b l i]).length = o.length + 1 := by simp
  generalize ho2 : o ++ [mfr b l i] = o2 at *
  simp only [mfr, lpr] at c
  have he : b + (i : Int) - b = i := by omega
  have e2 : b + ((i + 1 : Nat) : Int) = b + i + 1 := by omega
  rw [S38o, S38o, e2]
  simp (disch := ((fail_if_success (intro _)); omega)) only [go_sem, simprocAttr, ↓reduceIte, ↓Nat.reduceEqDiff, xx, L38, m38, bX, bM, bU, ob, ss_length, hx, c, c31, he, mfr, lpr, hl]
/-- The state after the last frame that is wanted. -/
def E38 (b a : Int) (s : List UInt8) (f : Bool) (m : Sh) (l : List (List UInt8)) (o : List Fm) : Hp :=
  [(100003, bX b a s f m l), (100002, bU 8020 o), (100001, bM o.length), (100000, lpd), (8020, .grow sF (fm o))]
end Go.Proofs.S33
namespace Go.Proofs.S33
open Go Go.Ev Go.Proofs
set_option linter.unusedSimpArgs false
set_option linter.unusedVariables false
variable {gl : Gl} {n : Nat}
def mfs (b : Int) (l : List (List UInt8)) (k : Nat) : List Fm := (List.range k).map (mfr b l)
theorem mfs_s (b : Int) (l : List (List UInt8)) (k : Nat) : mfs b l (k + 1) = mfs b l k ++ [mfr b l k] := by simp [mfs, List.range_succ]
theorem mfs_length (b : Int) (l : List (List UInt8)) (k : Nat) : (mfs b l k).length = k := by simp [mfs]
/-- The summary, if it has to be sent. -/
def sfr (b a : Int) (s : List UInt8) : List Fm := if a < b then [⟨true, b, s⟩] else []
def iH (mo b a : Int) (s : List UInt8) (f : Bool) (m : Sh) (l : List (List UInt8)) : Hp := [(100000, lpr), (100001, bM mo), (100002, .fix .sc (.lst true .sc [])), (100003, bX b a s f m l)]
theorem maxb {a b : Int} (h : a ≤ b) : (if b > a then b else a) = b := by split <;> omega
/-- All frames, as many as are wanted. -/
def frs (b a : Int) (s : List UInt8) (l : List (List UInt8)) (k : Nat) : List Fm := sfr b a s ++ mfs b l k
theorem frs_s (b a : Int) (s : List UInt8) (l : List (List UInt8)) (k : Nat) : frs b a s l (k + 1) = frs b a s l k ++ [mfr b l k] := by rw [frs, mfs_s, ← List.append_assoc]; rfl
theorem frs_lt {b a : Int} {s : List UInt8} {l : List (List UInt8)} {k : Nat} (h : a < b) : (frs b a s l k).length = k + 1 := by simp [frs, sfr, if_pos h, mfs_length]
theorem frs_eq {b a : Int} {s : List UInt8} {l : List (List UInt8)} {k : Nat} (h : ¬ a < b) : (frs b a s l k).length = k := by simp [frs, sfr, if_neg h, mfs_length]
def rH (r : OB) (mo b a : Int) (s : List UInt8) (f : Bool) (m : Sh) (l : List (List UInt8)) (o : List Fm) : Option (AV × Hp × List OB) :=
  some (.tup [], [(100000, r), (100001, bM mo), (100002, .fix .sc (.sl 20000 [] 0 o.length)), (100003, bX b a s f m l)], [.grow sF (fm o)])
set_option maxHeartbeats 4000000 in
theorem fs_sum_all (h : 3 ≤ n) {mo b a : Int} {s : List UInt8} {f : Bool} {m : Sh} {l : List (List UInt8)} (hv : VO b a s m l) (hab : a < b) {N : Nat} {o : List Fm} (ho : o = frs b a s l N) (hN : N = l.length) (hm : (o.length : Nat) ≤ mo) :
    call gl tab n 38 [.yld 100000, .ptr 100003 []] (iH mo b a s f m l) = rH lpr mo b a s f m l o := by
  obtain ⟨d, rfl⟩ := Nat.exists_eq_add_of_le' h
  have c31 := @end_at gl (d + 2) (by omega) b a s f m l (by have := hv.pb; omega) (by have := hv.pn; omega)
  have hpn := hv.pn
  have hpb := hv.pb
  have hol : o.length = N + 1 := by rw [ho, frs_lt hab]
  have hst : ∀ i, i < N → contK k38 (evC gl (call gl tab (d + 2)) L38 (S38o mo b a s f m l (frs b a s l i) i)) = some (S38o mo b a s f m l (frs b a s l (i + 1)) (i + 1)) := fun i hi => by
    rw [frs_s]
    have e : (frs b a s l i).length = i + 1 := frs_lt hab
    exact fs_own (by omega) hv (by omega) (by omega) (by omega)
  simp only [L38, m38] at hst
  have c := @round_nil gl (d + 2) (by omega) ⟨true, b, s⟩ mo (by omega)
  simp only [lpr] at c
  have e0 : frs b a s l 0 = [⟨true, b, s⟩] := by rw [frs, sfr, if_pos hab]; rfl
  have hmx := maxb (show a ≤ b by omega)
  simp only [gt_iff_lt] at hmx
  subst hN
  rw [call_gen (fd := fd38) rfl]
  unfold rH
  simp (disch := ((fail_if_success (intro _)); omega)) only [go_sem, simprocAttr, ↓reduceIte, ↓Nat.reduceEqDiff, xx, fd38, m38, iH, bX, bM, ob, lpr, c, foldO, maxAV, gt_iff_lt, hmx]
  rw [iter_to (fun i => S38o mo b a s f m l (frs b a s l i) i) l.length (by unfold LF; omega)]
  rotate_left
  · rw [e0]
    simp (disch := ((fail_if_success (intro _)); omega)) only [go_sem, simprocAttr, ↓reduceIte, ↓Nat.reduceEqDiff, xx, S38o, bX, bM, bU, ob, lpr, List.length_singleton, Int.add_zero]
  · exact hst
  · rw [← ho]
    simp (disch := ((fail_if_success (intro _)); omega)) only [go_sem, simprocAttr, ↓reduceIte, ↓Nat.reduceEqDiff, xx, S38o, bX, bM, bU, ob, lpr, c31]
  · rw [← ho]
    simp (disch := ((fail_if_success (intro _)); omega)) only [go_sem, simprocAttr, ↓reduceIte, ↓Nat.reduceEqDiff, xx, S38o, bX, bM, bU, ob, lpr, c31]
set_option maxHeartbeats 4000000 in
theorem fs_all (h : 3 ≤ n) {mo b a : Int} {s : List UInt8} {f : Bool} {m : Sh} {l : List (List UInt8)} (hv : VO b a s m l) (hab : a = b) {N : Nat} {o : List Fm} (ho : o = frs b a s l N) (hN : N = l.length) (hm : (o.length : Nat) ≤ mo) (hN0 : 0 < N) :
    call gl tab n 38 [.yld 100000, .ptr 100003 []] (iH mo b a s f m l) = rH lpr mo b a s f m l o := by
  obtain ⟨d, rfl⟩ := Nat.exists_eq_add_of_le' h
  have c31 := @end_at gl (d + 2) (by omega) b a s f m l (by have := hv.pb; omega) (by have := hv.pn; omega)
  have hpn := hv.pn
  have hpb := hv.pb
  have hol : o.length = N := by rw [ho, frs_eq (show ¬ a < b by omega)]
  have hst : ∀ i, i < N → contK k38 (evC gl (call gl tab (d + 2)) L38 (if i = 0 then S38n mo b a s f m l i else S38o mo b a s f m l (frs b a s l i) i)) = some (if i + 1 = 0 then S38n mo b a s f m l (i + 1) else S38o mo b a s f m l (frs b a s l (i + 1)) (i + 1)) := fun i hi => by
    rw [frs_s, if_neg (by omega : ¬ i + 1 = 0)]
    have e : (frs b a s l i).length = i := frs_eq (by omega)
    by_cases h0 : i = 0
    · subst h0
      have e0 : frs b a s l 0 = [] := by rw [frs, sfr, if_neg (by omega)]; rfl
      rw [if_pos rfl, e0]
      exact fs_nil (by omega) hv (by omega) (by omega)
    · rw [if_neg h0]
      exact fs_own (by omega) hv (by omega) (by omega) (by omega)
  simp only [L38, m38] at hst
  have hmx := maxb (show a ≤ b by omega)
  simp only [gt_iff_lt] at hmx
  subst hN
  rw [call_gen (fd := fd38) rfl]
  unfold rH
  simp (disch := ((fail_if_success (intro _)); omega)) only [go_sem, simprocAttr, ↓reduceIte, ↓Nat.reduceEqDiff, xx, fd38, m38, iH, bX, bM, ob, lpr, foldO, maxAV, gt_iff_lt, hmx]
  rw [iter_to (fun i => if i = 0 then S38n mo b a s f m l i else S38o mo b a s f m l (frs b a s l i) i) l.length (by unfold LF; omega)]
  rotate_left
  · rw [if_pos rfl]
    simp (disch := ((fail_if_success (intro _)); omega)) only [go_sem, simprocAttr, ↓reduceIte, ↓Nat.reduceEqDiff, xx, S38n, bX, bM, bU, ob, lpr, Int.add_zero, hab]
  · exact hst
  · rw [if_neg (by omega)]; rw [← ho]
    simp (disch := ((fail_if_success (intro _)); omega)) only [go_sem, simprocAttr, ↓reduceIte, ↓Nat.reduceEqDiff, xx, S38o, bX, bM, bU, ob, lpr, c31]
  · rw [if_neg (by omega)]; rw [← ho]
    simp (disch := ((fail_if_success (intro _)); omega)) only [go_sem, simprocAttr, ↓reduceIte, ↓Nat.reduceEqDiff, xx, S38o, bX, bM, bU, ob, lpr, c31]
end Go.Proofs.S33
namespace Go.Proofs.S33
open Go Go.Ev Go.Proofs
set_option linter.unusedSimpArgs false
set_option linter.unusedVariables false
variable {gl : Gl} {n : Nat}
set_option maxHeartbeats 4000000 in
theorem fs_sum_end (h : 3 ≤ n) {mo b a : Int} {s : List UInt8} {f : Bool} {m : Sh} {l : List (List UInt8)} (hv : VO b a s m l) (hab : a < b) {N : Nat} {o : List Fm} (ho : o = frs b a s l N) (hN : N < l.length) (hm : mo = (o.length : Nat)) :
    call gl tab n 38 [.yld 100000, .ptr 100003 []] (iH mo b a s f m l) = rH lpd mo b a s f m l o := by
  obtain ⟨d, rfl⟩ := Nat.exists_eq_add_of_le' h
  have c31 := @end_at gl (d + 2) (by omega) b a s f m l (by have := hv.pb; omega) (by have := hv.pn; omega)
  have hpn := hv.pn
  have hpb := hv.pb
  have hol : o.length = N + 1 := by rw [ho, frs_lt hab]
  have hst : ∀ i, i < N → contK k38 (evC gl (call gl tab (d + 2)) L38 (S38o mo b a s f m l (frs b a s l i) i)) = some (S38o mo b a s f m l (frs b a s l (i + 1)) (i + 1)) := fun i hi => by
    rw [frs_s]
    have e : (frs b a s l i).length = i + 1 := frs_lt hab
    exact fs_own (by omega) hv (by omega) (by omega) (by omega)
  simp only [L38, m38] at hst
  have c := @round_nil gl (d + 2) (by omega) ⟨true, b, s⟩ mo (by omega)
  simp only [lpr] at c
  have e0 : frs b a s l 0 = [⟨true, b, s⟩] := by rw [frs, sfr, if_pos hab]; rfl
  have hmx := maxb (show a ≤ b by omega)
  simp only [gt_iff_lt] at hmx
  have hx := ss_at hN
  have hms := hv.pm
  obtain rfl := hms.eq hN
  have ce := @round_end gl (d + 2) (by omega) (mfr b l N) o (by omega)
  simp only [mfr, lpr, lpd] at ce
  have he : b + (N : Int) - b = N := by omega
  subst hm
  rw [call_gen (fd := fd38) rfl]
  unfold rH
  simp (disch := ((fail_if_success (intro _)); omega)) only [go_sem, simprocAttr, ↓reduceIte, ↓Nat.reduceEqDiff, xx, fd38, m38, iH, bX, bM, ob, lpr, c, foldO, maxAV, gt_iff_lt, hmx]
  rw [iter_to (fun i => S38o o.length b a s f .sc l (frs b a s l i) i) N (by unfold LF; omega)]
  rotate_left
  · rw [e0]
    simp (disch := ((fail_if_success (intro _)); omega)) only [go_sem, simprocAttr, ↓reduceIte, ↓Nat.reduceEqDiff, xx, S38o, bX, bM, bU, ob, lpr, List.length_singleton, Int.add_zero]
  · exact hst
  · rw [← ho]
    simp (disch := ((fail_if_success (intro _)); omega)) only [go_sem, simprocAttr, ↓reduceIte, ↓Nat.reduceEqDiff, xx, S38o, bX, bM, bU, ob, lpr, c31, hx, ce, he, ss_length, mfr, lpd]
  · rw [← ho]
    simp (disch := ((fail_if_success (intro _)); omega)) only [go_sem, simprocAttr, ↓reduceIte, ↓Nat.reduceEqDiff, xx, S38o, bX, bM, bU, ob, lpr, c31, hx, ce, he, ss_length, mfr, lpd]
set_option maxHeartbeats 4000000 in
theorem fs_end (h : 3 ≤ n) {mo b a : Int} {s : List UInt8} {f : Bool} {m : Sh} {l : List (List UInt8)} (hv : VO b a s m l) (hab : a = b) {N : Nat} {o : List Fm} (ho : o = frs b a s l N) (hN : N < l.length) (hm : mo = (o.length : Nat)) (hN0 : 0 < N) :
    call gl tab n 38 [.yld 100000, .ptr 100003 []] (iH mo b a s f m l) = rH lpd mo b a s f m l o := by
  obtain ⟨d, rfl⟩ := Nat.exists_eq_add_of_le' h
  have c31 := @end_at gl (d + 2) (by omega) b a s f m l (by have := hv.pb; omega) (by have := hv.pn; omega)
  have hpn := hv.pn
  have hpb := hv.pb
  have hol : o.length = N := by rw [ho, frs_eq (show ¬ a < b by omega)]
  have hst : ∀ i, i < N → contK k38 (evC gl (call gl tab (d + 2)) L38 (if i = 0 then S38n mo b a s f m l i else S38o mo b a s f m l (frs b a s l i) i)) = some (if i + 1 = 0 then S38n mo b a s f m l (i + 1) else S38o mo b a s f m l (frs b a s l (i + 1)) (i + 1)) := fun i hi => by
    rw [frs_s, if_neg (by omega : ¬ i + 1 = 0)]
    have e : (frs b a s l i).length = i := frs_eq (by omega)
    by_cases h0 : i = 0
    · subst h0
      have e0 : frs b a s l 0 = [] := by rw [frs, sfr, if_neg (by omega)]; rfl
      rw [if_pos rfl, e0]
      exact fs_nil (by omega) hv (by omega) (by omega)
    · rw [if_neg h0]
      exact fs_own (by omega) hv (by omega) (by omega) (by omega)
  simp only [L38, m38] at hst
  have hmx := maxb (show a ≤ b by omega)
  simp only [gt_iff_lt] at hmx
  have hx := ss_at hN
  have hms := hv.pm
  obtain rfl := hms.eq hN
  have ce := @round_end gl (d + 2) (by omega) (mfr b l N) o (by omega)
  simp only [mfr, lpr, lpd] at ce
  have he : b + (N : Int) - b = N := by omega
  subst hm
  rw [call_gen (fd := fd38) rfl]
  unfold rH
  simp (disch := ((fail_if_success (intro _)); omega)) only [go_sem, simprocAttr, ↓reduceIte, ↓Nat.reduceEqDiff, xx, fd38, m38, iH, bX, bM, ob, lpr, foldO, maxAV, gt_iff_lt, hmx]
  rw [iter_to (fun i => if i = 0 then S38n o.length b a s f .sc l i else S38o o.length b a s f .sc l (frs b a s l i) i) N (by unfold LF; omega)]
  rotate_left
  · rw [if_pos rfl]
    simp (disch := ((fail_if_success (intro _)); omega)) only [go_sem, simprocAttr, ↓reduceIte, ↓Nat.reduceEqDiff, xx, S38n, bX, bM, bU, ob, lpr, Int.add_zero, hab]
  · exact hst
  · rw [if_neg (by omega)]; rw [← ho]
    simp (disch := ((fail_if_success (intro _)); omega)) only [go_sem, simprocAttr, ↓reduceIte, ↓Nat.reduceEqDiff, xx, S38o, bX, bM, bU, ob, lpr, c31, hx, ce, he, ss_length, mfr, lpd]
  · rw [if_neg (by omega)]; rw [← ho]
    simp (disch := ((fail_if_success (intro _)); omega)) only [go_sem, simprocAttr, ↓reduceIte, ↓Nat.reduceEqDiff, xx, S38o, bX, bM, bU, ob, lpr, c31, hx, ce, he, ss_length, mfr, lpd]
theorem fs_none (h : 3 ≤ n) {mo b a : Int} {s : List UInt8} {f : Bool} {m : Sh} {l : List (List UInt8)} (hv : VO b a s m l) (hab : a = b) (hl : l.length = 0) :
    call gl tab n 38 [.yld 100000, .ptr 100003 []] (iH mo b a s f m l) = some (.tup [], [(100000, lpr), (100001, bM mo), (100002, .fix .sc (.lst true .sc [])), (100003, bX b a s f m l)], []) := by
  obtain ⟨d, rfl⟩ := Nat.exists_eq_add_of_le' h
  have c31 := @end_at gl (d + 2) (by omega) b a s f m l (by have := hv.pb; omega) (by have := hv.pn; omega)
  have hpb := hv.pb
  have hmx := maxb (show a ≤ b by omega)
  simp only [gt_iff_lt] at hmx
  rw [call_gen (fd := fd38) rfl]
  simp (disch := ((fail_if_success (intro _)); omega)) only [go_sem, simprocAttr, ↓reduceIte, ↓Nat.reduceEqDiff, xx, fd38, m38, iH, bX, bM, ob, lpr, foldO, maxAV, gt_iff_lt, hmx]
  rw [iter_to (S38n mo b a s f m l) 0 (by unfold LF; omega)]
  · simp (disch := ((fail_if_success (intro _)); omega)) only [go_sem, simprocAttr, ↓reduceIte, ↓Nat.reduceEqDiff, xx, S38n, bX, bM, ob, lpr, c31, hl]
  · simp (disch := ((fail_if_success (intro _)); omega)) only [go_sem, simprocAttr, ↓reduceIte, ↓Nat.reduceEqDiff, xx, S38n, bX, bM, ob, lpr, Int.add_zero, hab]
  · exact fun i hi => absurd hi (by omega)
  · simp (disch := ((fail_if_success (intro _)); omega)) only [go_sem, simprocAttr, ↓reduceIte, ↓Nat.reduceEqDiff, xx, S38n, bX, bM, ob, lpr, c31, hl]
end Go.Proofs.S33
namespace Go.Proofs.S33
open Go Go.Ev Go.Proofs
set_option linter.unusedSimpArgs false
set_option linter.unusedVariables false
variable {gl : Gl} {n : Nat}
theorem maker_at (h : 1 ≤ n) (b a : Int) (s : List UInt8) (f : Bool) (m : Sh) (l : List (List UInt8)) : call gl tab n 30 [ob b a s f m l] [] = some (.fn 38 [.ptr 20000 []], [], [bX b a s f m l]) := by
  obtain ⟨d, rfl⟩ := Nat.exists_eq_add_of_le' h
  rw [call_gen (fd := fd30) rfl]
  simp (disch := ((fail_if_success (intro _)); omega)) only [go_sem, simprocAttr, ↓reduceIte, ↓Nat.reduceEqDiff, xx, fd30, m30, bX, ob]
set_option maxHeartbeats 4000000 in
theorem frames_of (h : 6 ≤ n) {mo b a : Int} {s : List UInt8} {f : Bool} {m : Sh} {l : List (List UInt8)} (hv : VO b a s m l) (hm : 1 ≤ mo) {r : OB} (hr : r = lpr ∨ r = lpd) {o : List Fm} (ho : o.length ≤ 1000)
    (c38 : call gl tab (n - 1) 38 [.yld 100000, .ptr 100003 []] (iH mo b a s f m l) = rH r mo b a s f m l o) :
    call gl tab n 13 [ob b a s f m l, i64 mo] [] = some (.tup [.lst false sF (fm o), i64 0], [], []) := by
  obtain ⟨d, rfl⟩ := Nat.exists_eq_add_of_le' h
  rw [show d + 6 - 1 = d + 5 from rfl] at c38
  have c29 := @validOut_at gl (d + 5) (by omega) b a s f m l hv
  have c30 := @maker_at gl (d + 5) (by omega) b a s f m l
  have hft := fm_take' o
  simp only [iH, rH, lpr, bX, bM] at c38
  simp only [bX] at c30
  rw [call_go (fd := fd13) rfl]
  rcases hr with rfl | rfl
  · simp only [lpr] at c38
    simp (disch := ((fail_if_success (intro _)); omega)) only [go_sem, simprocAttr, ↓reduceIte, ↓Nat.reduceEqDiff, xx, fd13, m13, c29, ob, c30, c38, fm_length, hft]
  · simp only [lpd] at c38
    simp (disch := ((fail_if_success (intro _)); omega)) only [go_sem, simprocAttr, ↓reduceIte, ↓Nat.reduceEqDiff, xx, fd13, m13, c29, ob, c30, c38, fm_length, hft]
set_option maxHeartbeats 4000000 in
theorem frames_none (h : 6 ≤ n) {mo b a : Int} {s : List UInt8} {f : Bool} {m : Sh} {l : List (List UInt8)} (hv : VO b a s m l) (hm : 1 ≤ mo)
    (c38 : call gl tab (n - 1) 38 [.yld 100000, .ptr 100003 []] (iH mo b a s f m l) = some (.tup [], [(100000, lpr), (100001, bM mo), (100002, .fix .sc (.lst true .sc [])), (100003, bX b a s f m l)], [])) :
    call gl tab n 13 [ob b a s f m l, i64 mo] [] = some (.tup [.lst true .sc [], i64 0], [], []) := by
  obtain ⟨d, rfl⟩ := Nat.exists_eq_add_of_le' h
  rw [show d + 6 - 1 = d + 5 from rfl] at c38
  have c29 := @validOut_at gl (d + 5) (by omega) b a s f m l hv
  have c30 := @maker_at gl (d + 5) (by omega) b a s f m l
  simp only [iH, lpr, bX, bM] at c38
  simp only [bX] at c30
  rw [call_go (fd := fd13) rfl]
  simp (disch := ((fail_if_success (intro _)); omega)) only [go_sem, simprocAttr, ↓reduceIte, ↓Nat.reduceEqDiff, xx, fd13, m13, c29, ob, c30, c38]
/-- Frames returns the first of what has to be sent; all, if that is not too much. -/
theorem frames_at (h : 6 ≤ n) {mo : Nat} {b a : Int} {s : List UInt8} {f : Bool} {m : Sh} {l : List (List UInt8)} (hv : VO b a s m l) (hab : a ≤ b) (hm : 1 ≤ mo) :
    ∃ (N : Nat) (f' : Bool) (m' : Sh), N ≤ l.length ∧ ((frs b a s l l.length).length ≤ mo → N = l.length) ∧ (¬ a < b → N = 0 → l.length = 0) ∧ Mk (frs b a s l N) m' ∧
      call gl tab n 13 [ob b a s f m l, i64 mo] [] = some (.tup [.lst f' m' (fm (frs b a s l N)), i64 0], [], []) := by
  have hn := hv.pn
  by_cases hlt : a < b
  · have e := fun k => @frs_lt b a s l k hlt
    by_cases hl : l.length + 1 ≤ mo
    · exact ⟨l.length, _, _, Nat.le_refl _, fun _ => rfl, fun h => absurd hlt h, .inr rfl, frames_of h hv (by omega) (.inl rfl) (by rw [e]; omega) (fs_sum_all (by omega) hv hlt rfl rfl (by rw [e]; omega))⟩
    · exact ⟨mo - 1, _, _, by omega, fun h' => by rw [e] at h'; omega, fun h => absurd hlt h, .inr rfl, frames_of h hv (by omega) (.inr rfl) (by rw [e]; omega) (fs_sum_end (by omega) hv hlt rfl (by omega) (by rw [e]; omega))⟩
  · have e := fun k => @frs_eq b a s l k hlt
    by_cases h0 : l.length = 0
    · refine ⟨0, true, .sc, by omega, fun _ => by omega, fun _ _ => h0, .inl ?_, ?_⟩
      · exact List.eq_nil_of_length_eq_zero (e 0)
      · have : frs b a s l 0 = [] := List.eq_nil_of_length_eq_zero (e 0)
        rw [this]; exact frames_none h hv (by omega) (fs_none (by omega) hv (by omega) h0)
    by_cases hl : l.length ≤ mo
    · exact ⟨l.length, _, _, Nat.le_refl _, fun _ => rfl, fun _ h => absurd h h0, .inr rfl, frames_of h hv (by omega) (.inl rfl) (by rw [e]; omega) (fs_all (by omega) hv (by omega) rfl rfl (by rw [e]; omega) (by omega))⟩
    · exact ⟨mo, _, _, by omega, fun h' => by rw [e] at h'; omega, fun _ h => by omega, .inr rfl, frames_of h hv (by omega) (.inr rfl) (by rw [e]; omega) (fs_end (by omega) hv (by omega) rfl (by omega) (by rw [e]) (by omega))⟩
end Go.Proofs.S33
