/-
  Chapter 8: keys are added as specified. No condition.
-/
import Derived.Test.YtjpfinklpodhnaaDoorW08TT
set_option linter.unusedVariables false
set_option linter.unusedSimpArgs false
set_option linter.unusedSectionVars false
namespace Go.Proofs.S08
open Go Go.Ev Go.Proofs
set_option linter.unusedSimpArgs false
set_option linter.unusedVariables false
variable {gl : Gl} {n : Nat} [Nonempty (H.GlH gl)]
def L3 : MC := match m3 with | .seq _ (.seq _ (.seq _ (.seq (.seq _ (.block _ (.loop _ b))) _))) => b | _ => .skip
def L3b : MC := match m3 with | .seq _ (.seq _ (.seq _ (.seq (.seq _ (.block _ (.loop _ (.seq _ (.seq (.block _ (.seq _ (.seq _ (.seq _ (.seq (.seq _ (.block _ (.loop _ b))) _))))) _))))) _))) => b | _ => .skip
abbrev k3 : List Kp := [.slot 1, .slot 2, .slot 6, .key 2]
abbrev k3b : List Kp := [.slot 1, .slot 2, .slot 6, .slot 7, .slot 8, .slot 9, .key 2, .key 8, .key 35]
def S3 (keys : List (List UInt8)) (w s a : Int) (l : List Int) (i : Nat) : St := ⟨[.set 6 (i64 i), .set 2 (.ptr 2 []), .set 1 (.lst false .sc (ks keys))], [(2, .fix sK (sk w s a l))]⟩
def S3b (keys : List (List UInt8)) (w s a a2 : Int) (l l2 : List Int) (i j : Nat) : St :=
  ⟨[.set 9 (i64 j), .set 8 (.ptr 8 []), .set 7 (.sl 35 [] 0 l.length), .set 6 (i64 i), .set 2 (.ptr 2 []), .set 1 (.lst false .sc (ks keys))], [(35, .grow .sc (ns l)), (8, .fix sK (sk w s a2 l2)), (2, .fix sK (sk w s a l))]⟩
set_option maxHeartbeats 4000000 in
theorem step3 (h : 14 ≤ n) {keys : List (List UInt8)} (hk : Few keys) {w : Nat} {s a : Int} {l : List Int} (hv : VS w s a l) {i : Nat} (hi : i < keys.length) :
    contK k3 (evC gl (call gl tab n) L3 (S3 keys w s a l i)) = some (S3 keys w s (addR w s a l (kat keys i)).1 (addR w s a l (kat keys i)).2 (i + 1)) := by
  have hsk := hv.sk
  have hl := hsk.kl
  have hw := hsk.kw
  have hx := ks_at hi
  have hkl := hk.1 i hi
  have hkn := hk.2
  have c12 := @add_at gl n _ (by omega) (kat keys i) (by omega) w s a false l hsk
  have c14 := @radd_at gl n _ (by omega) (kat keys i) (by omega) w s a false l hsk
  have hv2 := add_vs hv (kat keys i)
  have hl2 := @addR_len w s a l (kat keys i)
  generalize addR w s a l (kat keys i) = q at *
  obtain ⟨a2, l2⟩ := q
  simp only at c12 c14 hv2 hl2 ⊢
  have c13 := @same_at gl n (by omega) false false w s a2 l2 (by omega)
  obtain ⟨b, hb, c10⟩ := @rvalid_at gl n (by omega) false w s a2 l2 (by omega)
  rw [hb.2 hv2] at c10
  have hft := ns_take' l
  have hL : l.length ≤ LIM := by unfold LIM; omega
  have hs : ∀ j, j < l.length → contK k3b (evC gl (call gl tab n) L3b (S3b keys w s a a2 l l2 i j)) = some (S3b keys w s a a2 l l2 i (j + 1)) := fun j hj => by
    have hy := ns_at hj
    have hne : (nat l j != nat l j) = false := by simp
    simp (disch := ((fail_if_success (intro _)); omega)) only [go_sem, simprocAttr, ↓reduceIte, ↓Nat.reduceEqDiff, xx, L3b, m3, S3b, ns_length, hy, hne]
  simp only [L3b, m3] at hs
  generalize kat keys i = key at *
  simp (disch := ((fail_if_success (intro _)); omega)) only [go_sem, simprocAttr, ↓reduceIte, ↓Nat.reduceEqDiff, xx, L3, m3, S3, ns_length, ks_length, hx, c12, c14, c13, c10, hL, List.nil_append]
  rw [iter_to (S3b keys w s a a2 l l2 i) l.length (by unfold LF; omega)]
  · simp (disch := ((fail_if_success (intro _)); omega)) only [go_sem, simprocAttr, ↓reduceIte, ↓Nat.reduceEqDiff, xx, S3b, ns_length]
  · simp (disch := ((fail_if_success (intro _)); omega)) only [go_sem, simprocAttr, ↓reduceIte, ↓Nat.reduceEqDiff, xx, S3b, ns_length]
  · exact hs
  · simp (disch := ((fail_if_success (intro _)); omega)) only [go_sem, simprocAttr, ↓reduceIte, ↓Nat.reduceEqDiff, xx, S3b, ns_length]
set_option maxHeartbeats 4000000 in
theorem law3 (hn : 20 ≤ n) (ar : List AV) (h : HasKds [kSk, .sl .str] ar) : call gl tab (n + 1) 3 ar [] = some (.bool true, [], []) := by
  simp only [HasKds] at h
  obtain ⟨_, _, rfl, ⟨_, rfl, _, _, rfl, ⟨w, rfl, _⟩, _, _, rfl, ⟨s, rfl, _⟩, _, _, rfl, ⟨a, rfl, _⟩, _, _, rfl, ⟨d1, rfl, hd1, h1⟩, rfl⟩, _, _, rfl, ⟨d2, rfl, hd2, h2⟩, rfl⟩ := h
  obtain ⟨l, rfl⟩ := kd_ns h1
  obtain ⟨keys, rfl, hkb⟩ := kd_ks h2
  rw [kI_sh, kS_sh]
  rw [ns_length] at hd1
  rw [ks_length] at hd2
  have hd3 : l.length ≤ 9223372036854775807 := by simp [Go.maxLen] at hd1; omega
  have hd4 : keys.length ≤ 9223372036854775807 := by simp [Go.maxLen] at hd2; omega
  clear hd1 hd2
  have c11 := @sanity_at gl n _ (by omega)
  obtain ⟨b9, hb9, c9⟩ := @short_at gl n (by omega) keys hd4 hkb
  cases b9 with
  | false =>
    rw [call_go (fd := fd3) rfl]
    simp (disch := ((fail_if_success (intro _)); omega)) only [go_sem, simprocAttr, ↓reduceIte, ↓Nat.reduceEqDiff, xx, fd3, m3, c9, c11]
  | true =>
  have hfew := hb9.1 rfl
  by_cases hl : l.length ≤ 300
  case neg =>
    rw [call_go (fd := fd3) rfl]
    simp (disch := ((fail_if_success (intro _)); omega)) only [go_sem, simprocAttr, ↓reduceIte, ↓Nat.reduceEqDiff, xx, fd3, m3, c9, c11, ns_length]
  obtain ⟨b10, hb10, c10⟩ := @rvalid_at gl n (by omega) false w s a l (by omega)
  cases b10 with
  | false =>
    rw [call_go (fd := fd3) rfl]
    simp (disch := ((fail_if_success (intro _)); omega)) only [go_sem, simprocAttr, ↓reduceIte, ↓Nat.reduceEqDiff, xx, fd3, m3, c9, c11, ns_length, c10]
  | true =>
  have hv := hb10.1 rfl
  obtain ⟨w, rfl⟩ : ∃ v : Nat, w = v := ⟨w.toNat, by have := isP_pos hv.vp; omega⟩
  obtain ⟨st, ⟨a2, l2, hv2, rfl⟩, hit⟩ := iter_inv (f := evC gl (call gl tab n) L3) (ks := k3) (s0 := S3 keys w s a l 0) (fun i st => ∃ a l, VS w s a l ∧ st = S3 keys w s a l i) keys.length (by unfold LF; omega) ⟨a, l, hv, rfl⟩
    (fun i st hi ⟨a, l, hv, he⟩ => by
      subst he
      exact ⟨_, @step3 gl n _ (by omega) keys hfew w s a l hv i hi, _, _, add_vs hv _, rfl⟩)
    (fun st ⟨a, l, hv, he⟩ => by
      subst he
      simp (disch := ((fail_if_success (intro _)); omega)) only [go_sem, simprocAttr, ↓reduceIte, ↓Nat.reduceEqDiff, xx, L3, m3, S3, ks_length])
  simp only [L3, m3] at hit
  have hkn := hfew.2
  rw [call_go (fd := fd3) rfl]
  simp (disch := ((fail_if_success (intro _)); omega)) only [go_sem, simprocAttr, ↓reduceIte, ↓Nat.reduceEqDiff, xx, fd3, m3, c9, ns_length, c10]
  rw [hit _ (by simp (disch := ((fail_if_success (intro _)); omega)) only [go_sem, simprocAttr, ↓reduceIte, ↓Nat.reduceEqDiff, xx, S3])]
  simp (disch := ((fail_if_success (intro _)); omega)) only [go_sem, simprocAttr, ↓reduceIte, ↓Nat.reduceEqDiff, xx, S3, ks_length, c11]
end Go.Proofs.S08
