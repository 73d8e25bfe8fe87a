/-
  Chapter 33: receiving. No condition.
-/
import Derived.Test.YtoddlpnnmoaogaaW33E
import Derived.Test.YtoddlpnnmoaogaaW33d
set_option linter.unusedVariables false
set_option linter.unusedSimpArgs false
set_option linter.unusedSectionVars false
namespace Go.Proofs.S33
open Go Go.Ev Go.Proofs
set_option linter.unusedSimpArgs false
set_option linter.unusedVariables false
variable {gl : Gl} {n : Nat}
def insF (l : List Fm) (k : Nat) (x : Fm) : List Fm := l.take k ++ x :: l.drop k
theorem insF_fm (l : List Fm) (k : Nat) (x : Fm) : insL (fm l) k (.agg [.bool x.s, i64 x.q, .str x.b]) = fm (insF l k x) := by simp [insL, fm, insF]
theorem insF_length {l : List Fm} {k : Nat} (hk : k ≤ l.length) (x : Fm) : (insF l k x).length = l.length + 1 := by simp [insF]; omega
theorem clone_at (h : 1 ≤ n) {f : Bool} {m : Sh} {l : List Fm} (hm : Mk l m) (hl : l.length ≤ 1000) : call gl tab n 22 [.lst f m (fm l)] [] = some (.sl 20000 [] 0 l.length, [], [.grow sF (fm l)]) := by
  obtain ⟨d, rfl⟩ := Nat.exists_eq_add_of_le' h
  rw [call_giv (fd := fd22) rfl rfl]
  have h1 : l.length ≤ LIM := by unfold LIM; omega
  rcases hm with rfl | rfl
  · simp [cloneG, fm_nil]
  · simp [cloneG, fm_length, h1, Sh.beq, Sh.beqs]
theorem insert_at (h : 1 ≤ n) {l : List Fm} (hl : l.length ≤ 1000) {k : Nat} (hk : k ≤ l.length) (x : Fm) :
    call gl tab n 21 [.sl 100000 [] 0 l.length, i64 k, .sl 100001 [] 0 1] [(100000, .grow sF (fm l)), (100001, .grow sF [.agg [.bool x.s, i64 x.q, .str x.b]])] =
      some (.sl 20000 [] 0 (l.length + 1), [(100000, .dead), (100001, .grow sF [.agg [.bool x.s, i64 x.q, .str x.b]])], [.grow sF (fm (insF l k x))]) := by
  obtain ⟨d, rfl⟩ := Nat.exists_eq_add_of_le' h
  rw [call_giv (fd := fd21) rfl rfl]
  have hlim : l.length + 1 ≤ LIM := by unfold LIM; omega
  have hi := insF_fm l k x
  simp [insertG, fm_length, Sh.beq, Sh.beqs, hlim, hk, hi]
/-- What Receive's first test needs. -/
structure Rcv (gl : Gl) (d : Nat) (f : Bool) (m : Sh) (nx : Int) (l : List Fm) (x : Fm) : Prop where
  c6 : call gl tab (d + 5) 6 [.agg [i64 nx, .lst f m (fm l)]] [] = some (.bool true, [], [])
  c15 : call gl tab (d + 5) 15 [.str x.b] [] = some (.bool true, [], [])
  c16 : call gl tab (d + 5) 16 [i64 x.q, i64 1099511627776] [] = some (.bool (decide (0 ≤ x.q) && decide (x.q ≤ 1099511627776)), [], [])
theorem rcv_pre (d : Nat) {f : Bool} {m : Sh} {nx : Int} {l : List Fm} (hm : Mk l m) (hv : VI nx l) {x : Fm} (hb : x.b.length ≤ 65536) : Rcv gl d f m nx l x := by
  obtain ⟨b, hb1, hb2⟩ := @validIn_at gl (d + 5) (by omega) f m nx l hm (by have := hv.n; omega) (fun i hi => by have := (hv.ok i hi).b; omega)
  have c15 := @isBody_at gl (d + 5) (by omega) x.b (by omega)
  rw [decide_eq_true hb] at c15
  rw [hb1.2 hv] at hb2
  exact ⟨hb2, c15, within_at (by omega) x.q 1099511627776⟩
set_option maxHeartbeats 1000000 in
theorem rcv_arg (h : 6 ≤ n) {f : Bool} {m : Sh} {nx : Int} {l : List Fm} (hm : Mk l m) (hv : VI nx l) {x : Fm} (hb : x.b.length ≤ 65536) (hq : ¬ (0 ≤ x.q ∧ x.q ≤ 1099511627776)) :
    call gl tab n 8 [.agg [i64 nx, .lst f m (fm l)], .agg [.bool x.s, i64 x.q, .str x.b]] [] = some (.tup [.agg [i64 nx, .lst f m (fm l)], .lst true .sc [], i64 1], [], []) := by
  obtain ⟨d, rfl⟩ := Nat.exists_eq_add_of_le' h
  obtain ⟨c6, c15, c16⟩ := @rcv_pre gl d f m nx l hm hv x hb
  rw [show (decide (0 ≤ x.q) && decide (x.q ≤ 1099511627776)) = false by simp; omega] at c16
  rw [call_go (fd := fd8) rfl]
  simp (disch := ((fail_if_success (intro _)); omega)) only [go_sem, simprocAttr, ↓reduceIte, ↓Nat.reduceEqDiff, xx, fd8, m8, c6, c15, c16]
set_option maxHeartbeats 1000000 in
theorem rcv_old (h : 6 ≤ n) {f : Bool} {m : Sh} {nx : Int} {l : List Fm} (hm : Mk l m) (hv : VI nx l) {x : Fm} (hb : x.b.length ≤ 65536) (hq : 0 ≤ x.q ∧ x.q ≤ 1099511627776) (ho : x.q < nx ∨ x.s = true ∧ x.q = nx) :
    call gl tab n 8 [.agg [i64 nx, .lst f m (fm l)], .agg [.bool x.s, i64 x.q, .str x.b]] [] = some (.tup [.agg [i64 nx, .lst f m (fm l)], .lst true .sc [], i64 0], [], []) := by
  obtain ⟨d, rfl⟩ := Nat.exists_eq_add_of_le' h
  obtain ⟨c6, c15, c16⟩ := @rcv_pre gl d f m nx l hm hv x hb
  obtain ⟨k, hk, c19⟩ := @search_at gl (d + 5) (by omega) f m nx l hm hv x.q hq
  rw [show (decide (0 ≤ x.q) && decide (x.q ≤ 1099511627776)) = true by simp; omega] at c16
  generalize (decide (k < l.length) && ((fat l k).q - x.q == 0)) = kb at c19
  obtain ⟨s, q, b⟩ := x
  simp only at *
  rw [call_go (fd := fd8) rfl]
  rcases ho with h1 | ⟨rfl, rfl⟩
  · simp (disch := ((fail_if_success (intro _)); omega)) only [go_sem, simprocAttr, ↓reduceIte, ↓Nat.reduceEqDiff, xx, fd8, m8, c6, c15, c16, c19]
  · simp (disch := ((fail_if_success (intro _)); omega)) only [go_sem, simprocAttr, ↓reduceIte, ↓Nat.reduceEqDiff, xx, fd8, m8, c6, c15, c16, c19, beq_self_eq_true]
set_option maxHeartbeats 1000000 in
theorem rcv_keep (h : 6 ≤ n) {f : Bool} {m : Sh} {nx : Int} {l : List Fm} (hm : Mk l m) (hv : VI nx l) {x : Fm} (hb : x.b.length ≤ 65536) (hq : 0 ≤ x.q ∧ x.q ≤ 1099511627776) (ho : x.s = false ∧ nx < x.q) (hk : 64 ≤ l.length ∨ ∃ k, k < l.length ∧ (fat l k).q = x.q) :
    call gl tab n 8 [.agg [i64 nx, .lst f m (fm l)], .agg [.bool x.s, i64 x.q, .str x.b]] [] = some (.tup [.agg [i64 nx, .lst f m (fm l)], .lst true .sc [], i64 0], [], []) := by
  obtain ⟨d, rfl⟩ := Nat.exists_eq_add_of_le' h
  obtain ⟨c6, c15, c16⟩ := @rcv_pre gl d f m nx l hm hv x hb
  obtain ⟨k, hp, c19⟩ := @search_at gl (d + 5) (by omega) f m nx l hm hv x.q hq
  rw [show (decide (0 ≤ x.q) && decide (x.q ≤ 1099511627776)) = true by simp; omega] at c16
  by_cases hkb : (decide (k < l.length) && ((fat l k).q - x.q == 0)) = true
  · rw [hkb] at c19
    obtain ⟨s, q, b⟩ := x
    simp only at *
    obtain ⟨rfl, h2⟩ := ho
    rw [call_go (fd := fd8) rfl]
    simp (disch := ((fail_if_success (intro _)); omega)) only [go_sem, simprocAttr, ↓reduceIte, ↓Nat.reduceEqDiff, xx, fd8, m8, c6, c15, c16, c19]
  · have h3 : 64 ≤ l.length := by
      rcases hk with h3 | ⟨j, hj, he⟩
      · exact h3
      · exfalso
        rcases Nat.lt_trichotomy j k with h4 | h4 | h4
        · have := hp.lo j h4; omega
        · subst h4; simp [hj, he] at hkb
        · have := fq_lt hv h4 hj; have := hp.hi k (Nat.le_refl _) (by omega); omega
    rw [Bool.not_eq_true] at hkb
    rw [hkb] at c19
    obtain ⟨s, q, b⟩ := x
    simp only at *
    obtain ⟨rfl, h2⟩ := ho
    rw [call_go (fd := fd8) rfl]
    simp (disch := ((fail_if_success (intro _)); omega)) only [go_sem, simprocAttr, ↓reduceIte, ↓Nat.reduceEqDiff, xx, fd8, m8, c6, c15, c16, c19, fm_length]
set_option maxHeartbeats 1000000 in
theorem rcv_ins (h : 6 ≤ n) {f : Bool} {m : Sh} {nx : Int} {l : List Fm} (hm : Mk l m) (hv : VI nx l) {x : Fm} (hb : x.b.length ≤ 65536) (hq : 0 ≤ x.q ∧ x.q ≤ 1099511627776) (ho : x.s = false ∧ nx < x.q) (hl : l.length < 64) (hk : ∀ k, k < l.length → (fat l k).q ≠ x.q) :
    ∃ k, Pl l x.q k ∧ call gl tab n 8 [.agg [i64 nx, .lst f m (fm l)], .agg [.bool x.s, i64 x.q, .str x.b]] [] = some (.tup [.agg [i64 nx, .lst false sF (fm (insF l k x))], .lst true .sc [], i64 0], [], []) := by
  obtain ⟨d, rfl⟩ := Nat.exists_eq_add_of_le' h
  obtain ⟨c6, c15, c16⟩ := @rcv_pre gl d f m nx l hm hv x hb
  obtain ⟨k, hp, c19⟩ := @search_at gl (d + 5) (by omega) f m nx l hm hv x.q hq
  rw [show (decide (0 ≤ x.q) && decide (x.q ≤ 1099511627776)) = true by simp; omega] at c16
  rw [show (decide (k < l.length) && ((fat l k).q - x.q == 0)) = false by
    by_cases hkl : k < l.length
    · have := hk k hkl
      simp; intro _ h'; omega
    · simp [hkl]] at c19
  refine ⟨k, hp, ?_⟩
  have c22 := @clone_at gl (d + 5) (by omega) f m l hm (by omega)
  have c21 := @insert_at gl (d + 5) (by omega) l (by omega) k hp.le x
  have e1 := @insF_length l k hp.le x
  have e2 := fm_take' (insF l k x)
  rw [e1] at e2
  generalize hw : insF l k x = w at *
  obtain ⟨s, q, b⟩ := x
  simp only at *
  obtain ⟨rfl, h2⟩ := ho
  rw [call_go (fd := fd8) rfl]
  simp (disch := ((fail_if_success (intro _)); omega)) only [go_sem, simprocAttr, ↓reduceIte, ↓Nat.reduceEqDiff, xx, fd8, m8, c6, c15, c16, c19, fm_length, c22, c21, e1, e2]
end Go.Proofs.S33
namespace Go.Proofs.S33
open Go Go.Ev Go.Proofs
set_option linter.unusedSimpArgs false
set_option linter.unusedVariables false
variable {gl : Gl} {n : Nat}
/-- The number after a frame. -/
def aft (x : Fm) : Int := if x.s = true then x.q else x.q + 1
theorem drop_take (l : List Fm) (a : Nat) (z : AV) : List.take (l.length - a) (fm (l.drop a) ++ List.replicate a z) = fm (l.drop a) := by
  have h4 : l.length - a = (fm (l.drop a)).length := by simp [fm_length]
  rw [h4, List.take_left']; rfl
theorem drop_len (l : List Fm) (a : Nat) : (l.drop a).length = l.length - a := List.length_drop
end Go.Proofs.S33
