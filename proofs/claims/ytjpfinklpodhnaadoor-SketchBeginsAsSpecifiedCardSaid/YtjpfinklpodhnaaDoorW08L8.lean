/-
  Chapter 8: sketches begin as specified. No condition.
-/
import Derived.Test.YtjpfinklpodhnaaDoorW08TT
import Derived.Test.YtjpfinklpodhnaaDoorW08ZD
set_option linter.unusedVariables false
set_option linter.unusedSimpArgs false
set_option linter.unusedSectionVars false
namespace Go.Proofs.S08
open Go Go.Ev Go.Proofs
set_option linter.unusedSimpArgs false
set_option linter.unusedVariables false
variable {gl : Gl} {n : Nat}
/-- New is the specification's. -/
theorem news_at (h : 6 ≤ n) {w s : Int} (hw : w ≤ 9223372036854775807) :
    ∃ (a b c : Int) (f : Bool) (l : List Int) (e : Int), l.length < 2 ^ 20 ∧ call gl tab n 15 [i64 w, i64 s] [] = some (.tup [.agg [i64 a, i64 b, i64 c, .lst f .sc (ns l)], i64 e], [], []) ∧
      call gl tab n 24 [i64 w, i64 s] [] = some (.agg [.agg [i64 a, i64 b, i64 c, .lst f .sc (ns l)], i64 e], [], []) := by
  obtain ⟨b1, hb1, c35⟩ := @power_at gl (n - 1) (by omega) w hw
  obtain ⟨b2, hb2, c30⟩ := @rpower_at gl (n - 1) (by omega) w
  have hbb : b2 = b1 := by
    cases b1 <;> cases b2 <;> simp_all
  subst hbb
  by_cases h1 : b2 = false ∨ s < 1
  · exact ⟨0, 0, 0, true, [], 1, by simp, new_arg (by omega) h1 c35, rnew_arg (by omega) h1 c30⟩
  obtain rfl : b2 = true := by cases b2; exact absurd (.inl rfl) h1; rfl
  have hs : 1 ≤ s := by
    by_cases h : s < 1
    · exact absurd (.inr h) h1
    · omega
  by_cases h2 : 4096 < w ∨ 1048576 < s
  · exact ⟨0, 0, 0, true, [], 2, by simp, new_lim (by omega) hs h2 c35, rnew_lim (by omega) hs h2 c30⟩
  have hp := isP_pos (hb1.1 rfl)
  obtain ⟨w, rfl⟩ : ∃ v : Nat, w = v := ⟨w.toNat, by omega⟩
  exact ⟨w, s, 0, false, List.replicate (4 * w) 0, 0, by rw [rep_len]; omega, new_ok (by omega) (by omega) (by omega) c35, rnew_ok (by omega) (by omega) (by omega) c30⟩
section
variable [Nonempty (H.GlK gl)] [Nonempty (H.GlR gl)]
set_option maxHeartbeats 4000000 in
theorem law8 (hn : 20 ≤ n) (ar : List AV) (h : HasKds [.int .i64, .int .i64, kSk, .str, .int .u8] ar) : call gl tab (n + 1) 8 ar [] = some (.bool true, [], []) := by
  simp only [HasKds] at h
  obtain ⟨_, _, rfl, ⟨w0, rfl, hw0⟩, _, _, rfl, ⟨s0, rfl, _⟩, _, _, rfl, ⟨_, rfl, _, _, rfl, ⟨w, rfl, hwr⟩, _, _, rfl, ⟨s, rfl, _⟩, _, _, rfl, ⟨a, rfl, _⟩, _, _, rfl, ⟨d1, rfl, hd1, h1⟩, rfl⟩, _, _, rfl, ⟨key, rfl, hk⟩, _, _, rfl, ⟨row, rfl, hrow⟩, rfl⟩ := h
  obtain ⟨l, rfl⟩ := kd_ns h1
  rw [kI_sh]
  rw [ns_length] at hd1
  have hd3 : l.length ≤ 9223372036854775807 := by simp [Go.maxLen] at hd1; omega
  have hd5 : key.length ≤ 9223372036854775807 := by simp [Go.maxLen] at hk; omega
  have e1 : IntKind.max .i64 = 9223372036854775807 := rfl
  have e2 : IntKind.min .u8 = 0 := rfl
  have e3 : IntKind.max .u8 = 255 := rfl
  rw [e1] at hw0 hwr
  rw [e2, e3] at hrow
  have hw9 := hw0.2
  have hw8 := hwr.2
  clear hd1 hk hw0 hwr
  obtain ⟨row, rfl⟩ : ∃ v : Nat, row = v := ⟨row.toNat, by omega⟩
  have c11 := @sanity_at gl n _ (by omega)
  by_cases hl : l.length ≤ 300
  case neg =>
    rw [call_go (fd := fd8) rfl]
    simp (disch := ((fail_if_success (intro _)); omega)) only [go_sem, simprocAttr, ↓reduceIte, ↓Nat.reduceEqDiff, xx, fd8, m8, c11, ns_length]
  by_cases hk : key.length ≤ 100
  case neg =>
    rw [call_go (fd := fd8) rfl]
    simp (disch := ((fail_if_success (intro _)); omega)) only [go_sem, simprocAttr, ↓reduceIte, ↓Nat.reduceEqDiff, xx, fd8, m8, c11, ns_length]
  obtain ⟨x1, x2, x3, xf, xl, xe, hxl, c15, c24⟩ := @news_at gl n (by omega) w0 s0 hw9
  have c13 := @same_at gl n (by omega) xf xf x1 x2 x3 xl hxl
  obtain ⟨b1, hb1, c10⟩ := @rvalid_at gl n (by omega) false w s a l (by omega)
  obtain ⟨b2, hb2, c25⟩ := @valid_at gl n (by omega) false w s a l (by omega) hw8
  have hbb : b2 = b1 := by
    cases b1 <;> cases b2 <;> simp_all
  subst hbb
  have hne : (xe != xe) = false := by simp
  cases b2 with
  | false =>
    rw [call_go (fd := fd8) rfl]
    simp (disch := ((fail_if_success (intro _)); omega)) only [go_sem, simprocAttr, ↓reduceIte, ↓Nat.reduceEqDiff, xx, fd8, m8, c11, ns_length, c15, c24, c13, c10, c25, hne, bne_self_eq_false]
  | true =>
  have hv := hb1.1 rfl
  obtain ⟨w, rfl⟩ : ∃ v : Nat, w = v := ⟨w.toNat, by have := isP_pos hv.vp; omega⟩
  have hsk := hv.sk
  have hkw := hsk.kw
  have hkl := hsk.kl
  have ca := @count_at gl n _ (by omega) key (by omega) w hkw s a false l hkl
  have cb := @rcount_at gl n _ (by omega) key (by omega) w hkw s a false l hkl
  have fa := @fill_at gl n (by omega) false w s a l (by omega)
  have fb := @rfill_at gl n (by omega) false w s a l (by omega) hsk.kc
  have hr4 : row % 4 < 4 := Nat.mod_lt _ (by omega)
  have pa := @place_at gl n _ (by omega) key (by omega) (row % 4) w hr4 hkw
  have pb := @rplace_at gl n _ (by omega) key (by omega) (row % 4) w hr4 hkw
  have hrm := H.rem_nat row 4 (by omega)
  have hcv : IntKind.wrap .i64 (row : Int) = (row : Int) := wrap_i64 (by omega) (by omega)
  simp only [Int.cast_ofNat_Int] at hrm
  generalize fil l l.length = F at *
  generalize lea l (pl key w) 4 = c at *
  generalize plc key (row % 4) % w = p at *
  generalize row % 4 = r at *
  rw [call_go (fd := fd8) rfl]
  simp (disch := ((fail_if_success (intro _)); omega)) only [go_sem, simprocAttr, ↓reduceIte, ↓Nat.reduceEqDiff, xx, fd8, m8, c11, ns_length, c15, c24, c13, c10, c25, hne, bne_self_eq_false, ca, cb, fa, fb, pa, pb, hrm, hcv, beq_self_eq_true]
end
end Go.Proofs.S08
