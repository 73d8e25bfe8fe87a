/-
  Chapter 33: receiving what comes next, nothing ahead of it is due. No condition.
-/
import Derived.Test.YtoddlpnnmoaogaaW33I
set_option linter.unusedVariables false
set_option linter.unusedSimpArgs false
set_option linter.unusedSectionVars false
namespace Go.Proofs.S33
open Go Go.Ev Go.Proofs
set_option linter.unusedSimpArgs false
set_option linter.unusedVariables false
variable {gl : Gl} {n : Nat}
set_option maxHeartbeats 4000000 in
theorem rcv_now0 (h : 6 ≤ n) {f : Bool} {m : Sh} {nx : Int} {l : List Fm} (hm : Mk l m) (hv : VI nx l) {x : Fm} (hb : x.b.length ≤ 65536) (hq : 0 ≤ x.q ∧ x.q ≤ 1099511627776) (ho : x.s = false ∧ nx = x.q ∨ x.s = true ∧ nx < x.q)
    {d a : Nat} (hr : Rn l (aft x) d a) (h0 : a = 0) :
    call gl tab n 8 [.agg [i64 nx, .lst f m (fm l)], .agg [.bool x.s, i64 x.q, .str x.b]] [] = some (.tup [.agg [i64 (aft x + (a - d : Nat)), .lst false sF (fm (l.drop a))], .lst false sF (fm (oA l [x] d a l.length)), i64 0], [], []) := by
  obtain ⟨e, rfl⟩ := Nat.exists_eq_add_of_le' h
  obtain ⟨c6, c15, c16⟩ := @rcv_pre gl e f m nx l hm hv x hb
  obtain ⟨k, hp, c19⟩ := @search_at gl (e + 5) (by omega) f m nx l hm hv x.q hq
  rw [show (decide (0 ≤ x.q) && decide (x.q ≤ 1099511627776)) = true by simp; omega] at c16
  generalize (decide (k < l.length) && ((fat l k).q - x.q == 0)) = kb at c19
  have hn := hv.n
  have hal := hr.al
  have hda := hr.da
  have c22 := @clone_at gl (e + 5) (by omega) f m l hm (by omega)
  have hax : 0 ≤ aft x ∧ aft x ≤ 1099511627777 := by unfold aft; split <;> omega
  have hdt := drop_take l a zF
  have hol := @oA_len l [x] d a l.length
  have hoe : fm [x] = [.agg [.bool x.s, i64 x.q, .str x.b]] := rfl
  have hft := fm_take' (oA l [x] d a l.length)
  simp only [List.length_singleton] at hol
  have c23 : call gl tab (e + 5) 23 [.sl 100000 [] 0 l.length, .fn 24 [.ptr 100001 [], .ptr 100002 []]] [(100000, .grow sF (fm l)), (100001, bI f m (aft x) l), (100002, bO 100003 [x]), (100003, .grow sF (fm [x]))] =
      (if a = 0 then some (.sl 100000 [] 0 l.length, [(100000, .grow sF (fm l)), (100001, bI f m (aft x) l), (100002, bO 100003 [x]), (100003, .grow sF (fm [x]))], [])
       else if a - d = 0 then some (.sl 100000 [] 0 (l.length - a), [(100000, .grow sF (fm (l.drop a) ++ List.replicate a zF)), (100001, bI f m (aft x) l), (100002, bO 100003 [x]), (100003, .grow sF (fm [x]))], [])
       else some (.sl 100000 [] 0 (l.length - a), [(100000, .grow sF (fm (l.drop a) ++ List.replicate a zF)), (100001, bI f m (aft x + (a - d : Nat)) l), (100002, .fix .sc (.sl 20000 [] 0 (oA l [x] d a l.length).length)), (100003, .dead)], [.grow sF (fm (oA l [x] d a l.length))])) := by
    by_cases h0 : a = 0
    · rw [if_pos h0]
      obtain rfl : d = 0 := by omega
      subst h0
      exact delf_0 (by omega) f m (aft x) l l [x] hax (by omega) (by simp) hr
    rw [if_neg h0]
    by_cases h1 : d = 0
    · subst h1
      rw [if_neg (by omega)]
      exact delf_eq (by omega) f m (aft x) l l [x] a hax (by omega) (by simp) hr (by omega)
    · exact delf_gt (by omega) f m (aft x) l l [x] d a hax (by omega) (by simp) hr (by omega)
  simp only [bI, bO, List.length_singleton, hoe] at c23
  have ea0 : a - d = 0 → oA l [x] d a l.length = [x] := fun h => oA_pre (by unfold eN; omega)
  have hcd : l.length - a ≤ (List.drop a l).length + (List.replicate a zF).length := by simp
  rw [if_pos h0] at c23
  rw [ea0 (by omega), show a - d = 0 by omega, h0, List.drop_zero, hoe, show aft x + ((0 : Nat) : Int) = aft x by omega]
  obtain ⟨s, q, b⟩ := x
  have hft2 := fm_take' l
  simp only [aft] at *
  rcases ho with ⟨rfl, rfl⟩ | ⟨rfl, h2⟩
  · simp only [Bool.false_eq_true, if_false] at *
    rw [call_go (fd := fd8) rfl]
    simp (disch := ((fail_if_success (intro _)); omega)) only [go_sem, simprocAttr, ↓reduceIte, ↓Nat.reduceEqDiff, xx, fd8, m8, c6, c15, c16, c19, fm_length, c22, c23, hft2]
  · simp only [if_true] at *
    have h3 : (q == nx) = false := by rw [beq_eq_false_iff_ne]; omega
    rw [call_go (fd := fd8) rfl]
    simp (disch := ((fail_if_success (intro _)); omega)) only [go_sem, simprocAttr, ↓reduceIte, ↓Nat.reduceEqDiff, xx, fd8, m8, c6, c15, c16, c19, fm_length, c22, c23, hft2, h3]
end Go.Proofs.S33
namespace Go.Proofs.S33
open Go Go.Ev Go.Proofs
set_option linter.unusedSimpArgs false
set_option linter.unusedVariables false
variable {gl : Gl} {n : Nat}
set_option maxHeartbeats 4000000 in
theorem rcv_now1 (h : 6 ≤ n) {f : Bool} {m : Sh} {nx : Int} {l : List Fm} (hm : Mk l m) (hv : VI nx l) {x : Fm} (hb : x.b.length ≤ 65536) (hq : 0 ≤ x.q ∧ x.q ≤ 1099511627776) (ho : x.s = false ∧ nx = x.q ∨ x.s = true ∧ nx < x.q)
    {d a : Nat} (hr : Rn l (aft x) d a) (h0 : a ≠ 0) (h1 : a - d = 0) :
    call gl tab n 8 [.agg [i64 nx, .lst f m (fm l)], .agg [.bool x.s, i64 x.q, .str x.b]] [] = some (.tup [.agg [i64 (aft x + (a - d : Nat)), .lst false sF (fm (l.drop a))], .lst false sF (fm (oA l [x] d a l.length)), i64 0], [], []) := by
  obtain ⟨e, rfl⟩ := Nat.exists_eq_add_of_le' h
  obtain ⟨c6, c15, c16⟩ := @rcv_pre gl e f m nx l hm hv x hb
  obtain ⟨k, hp, c19⟩ := @search_at gl (e + 5) (by omega) f m nx l hm hv x.q hq
  rw [show (decide (0 ≤ x.q) && decide (x.q ≤ 1099511627776)) = true by simp; omega] at c16
  generalize (decide (k < l.length) && ((fat l k).q - x.q == 0)) = kb at c19
  have hn := hv.n
  have hal := hr.al
  have hda := hr.da
  have c22 := @clone_at gl (e + 5) (by omega) f m l hm (by omega)
  have hax : 0 ≤ aft x ∧ aft x ≤ 1099511627777 := by unfold aft; split <;> omega
  have hdt := drop_take l a zF
  have hol := @oA_len l [x] d a l.length
  have hoe : fm [x] = [.agg [.bool x.s, i64 x.q, .str x.b]] := rfl
  have hft := fm_take' (oA l [x] d a l.length)
  simp only [List.length_singleton] at hol
  have c23 : call gl tab (e + 5) 23 [.sl 100000 [] 0 l.length, .fn 24 [.ptr 100001 [], .ptr 100002 []]] [(100000, .grow sF (fm l)), (100001, bI f m (aft x) l), (100002, bO 100003 [x]), (100003, .grow sF (fm [x]))] =
      (if a = 0 then some (.sl 100000 [] 0 l.length, [(100000, .grow sF (fm l)), (100001, bI f m (aft x) l), (100002, bO 100003 [x]), (100003, .grow sF (fm [x]))], [])
       else if a - d = 0 then some (.sl 100000 [] 0 (l.length - a), [(100000, .grow sF (fm (l.drop a) ++ List.replicate a zF)), (100001, bI f m (aft x) l), (100002, bO 100003 [x]), (100003, .grow sF (fm [x]))], [])
       else some (.sl 100000 [] 0 (l.length - a), [(100000, .grow sF (fm (l.drop a) ++ List.replicate a zF)), (100001, bI f m (aft x + (a - d : Nat)) l), (100002, .fix .sc (.sl 20000 [] 0 (oA l [x] d a l.length).length)), (100003, .dead)], [.grow sF (fm (oA l [x] d a l.length))])) := by
    by_cases h0 : a = 0
    · rw [if_pos h0]
      obtain rfl : d = 0 := by omega
      subst h0
      exact delf_0 (by omega) f m (aft x) l l [x] hax (by omega) (by simp) hr
    rw [if_neg h0]
    by_cases h1 : d = 0
    · subst h1
      rw [if_neg (by omega)]
      exact delf_eq (by omega) f m (aft x) l l [x] a hax (by omega) (by simp) hr (by omega)
    · exact delf_gt (by omega) f m (aft x) l l [x] d a hax (by omega) (by simp) hr (by omega)
  simp only [bI, bO, List.length_singleton, hoe] at c23
  have ea0 : a - d = 0 → oA l [x] d a l.length = [x] := fun h => oA_pre (by unfold eN; omega)
  have hcd : l.length - a ≤ (List.drop a l).length + (List.replicate a zF).length := by simp
  rw [if_neg h0] at c23
  rw [if_pos h1] at c23
  rw [ea0 h1, h1, hoe, show aft x + ((0 : Nat) : Int) = aft x by omega]
  obtain ⟨s, q, b⟩ := x
  simp only [aft] at *
  rcases ho with ⟨rfl, rfl⟩ | ⟨rfl, h2⟩
  · simp only [Bool.false_eq_true, if_false] at *
    rw [call_go (fd := fd8) rfl]
    simp (disch := ((fail_if_success (intro _)); omega)) only [go_sem, simprocAttr, ↓reduceIte, ↓Nat.reduceEqDiff, xx, fd8, m8, c6, c15, c16, c19, fm_length, c22, c23, hdt, hcd]
  · simp only [if_true] at *
    have h3 : (q == nx) = false := by rw [beq_eq_false_iff_ne]; omega
    rw [call_go (fd := fd8) rfl]
    simp (disch := ((fail_if_success (intro _)); omega)) only [go_sem, simprocAttr, ↓reduceIte, ↓Nat.reduceEqDiff, xx, fd8, m8, c6, c15, c16, c19, fm_length, c22, c23, hdt, hcd, h3]
end Go.Proofs.S33
namespace Go.Proofs.S33
open Go Go.Ev Go.Proofs
set_option linter.unusedSimpArgs false
set_option linter.unusedVariables false
variable {gl : Gl} {n : Nat}
set_option maxHeartbeats 4000000 in
theorem rcv_now2 (h : 6 ≤ n) {f : Bool} {m : Sh} {nx : Int} {l : List Fm} (hm : Mk l m) (hv : VI nx l) {x : Fm} (hb : x.b.length ≤ 65536) (hq : 0 ≤ x.q ∧ x.q ≤ 1099511627776) (ho : x.s = false ∧ nx = x.q ∨ x.s = true ∧ nx < x.q)
    {d a : Nat} (hr : Rn l (aft x) d a) (h0 : a ≠ 0) (h1 : a - d ≠ 0) :
    call gl tab n 8 [.agg [i64 nx, .lst f m (fm l)], .agg [.bool x.s, i64 x.q, .str x.b]] [] = some (.tup [.agg [i64 (aft x + (a - d : Nat)), .lst false sF (fm (l.drop a))], .lst false sF (fm (oA l [x] d a l.length)), i64 0], [], []) := by
  obtain ⟨e, rfl⟩ := Nat.exists_eq_add_of_le' h
  obtain ⟨c6, c15, c16⟩ := @rcv_pre gl e f m nx l hm hv x hb
  obtain ⟨k, hp, c19⟩ := @search_at gl (e + 5) (by omega) f m nx l hm hv x.q hq
  rw [show (decide (0 ≤ x.q) && decide (x.q ≤ 1099511627776)) = true by simp; omega] at c16
  generalize (decide (k < l.length) && ((fat l k).q - x.q == 0)) = kb at c19
  have hn := hv.n
  have hal := hr.al
  have hda := hr.da
  have c22 := @clone_at gl (e + 5) (by omega) f m l hm (by omega)
  have hax : 0 ≤ aft x ∧ aft x ≤ 1099511627777 := by unfold aft; split <;> omega
  have hdt := drop_take l a zF
  have hol := @oA_len l [x] d a l.length
  have hoe : fm [x] = [.agg [.bool x.s, i64 x.q, .str x.b]] := rfl
  have hft := fm_take' (oA l [x] d a l.length)
  simp only [List.length_singleton] at hol
  have c23 : call gl tab (e + 5) 23 [.sl 100000 [] 0 l.length, .fn 24 [.ptr 100001 [], .ptr 100002 []]] [(100000, .grow sF (fm l)), (100001, bI f m (aft x) l), (100002, bO 100003 [x]), (100003, .grow sF (fm [x]))] =
      (if a = 0 then some (.sl 100000 [] 0 l.length, [(100000, .grow sF (fm l)), (100001, bI f m (aft x) l), (100002, bO 100003 [x]), (100003, .grow sF (fm [x]))], [])
       else if a - d = 0 then some (.sl 100000 [] 0 (l.length - a), [(100000, .grow sF (fm (l.drop a) ++ List.replicate a zF)), (100001, bI f m (aft x) l), (100002, bO 100003 [x]), (100003, .grow sF (fm [x]))], [])
       else some (.sl 100000 [] 0 (l.length - a), [(100000, .grow sF (fm (l.drop a) ++ List.replicate a zF)), (100001, bI f m (aft x + (a - d : Nat)) l), (100002, .fix .sc (.sl 20000 [] 0 (oA l [x] d a l.length).length)), (100003, .dead)], [.grow sF (fm (oA l [x] d a l.length))])) := by
    by_cases h0 : a = 0
    · rw [if_pos h0]
      obtain rfl : d = 0 := by omega
      subst h0
      exact delf_0 (by omega) f m (aft x) l l [x] hax (by omega) (by simp) hr
    rw [if_neg h0]
    by_cases h1 : d = 0
    · subst h1
      rw [if_neg (by omega)]
      exact delf_eq (by omega) f m (aft x) l l [x] a hax (by omega) (by simp) hr (by omega)
    · exact delf_gt (by omega) f m (aft x) l l [x] d a hax (by omega) (by simp) hr (by omega)
  simp only [bI, bO, List.length_singleton, hoe] at c23
  have ea0 : a - d = 0 → oA l [x] d a l.length = [x] := fun h => oA_pre (by unfold eN; omega)
  have hcd : l.length - a ≤ (List.drop a l).length + (List.replicate a zF).length := by simp
  rw [if_neg h0] at c23
  rw [if_neg h1] at c23
  generalize oA l [x] d a l.length = w at *
  obtain ⟨s, q, b⟩ := x
  simp only [aft] at *
  rcases ho with ⟨rfl, rfl⟩ | ⟨rfl, h2⟩
  · simp only [Bool.false_eq_true, if_false] at *
    rw [call_go (fd := fd8) rfl]
    simp (disch := ((fail_if_success (intro _)); omega)) only [go_sem, simprocAttr, ↓reduceIte, ↓Nat.reduceEqDiff, xx, fd8, m8, c6, c15, c16, c19, fm_length, c22, c23, hdt, hcd, hft]
  · simp only [if_true] at *
    have h3 : (q == nx) = false := by rw [beq_eq_false_iff_ne]; omega
    rw [call_go (fd := fd8) rfl]
    simp (disch := ((fail_if_success (intro _)); omega)) only [go_sem, simprocAttr, ↓reduceIte, ↓Nat.reduceEqDiff, xx, fd8, m8, c6, c15, c16, c19, fm_length, c22, c23, hdt, hcd, hft, h3]
end Go.Proofs.S33
