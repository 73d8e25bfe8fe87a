/-
  Chapter 8: a merged sketch counts both. No condition.
-/
import Derived.Test.YtjpfinklpodhnaaDoorW08WW
import Derived.Test.YtjpfinklpodhnaaDoorW08v
import Derived.Test.YtjpfinklpodhnaaDoorW08L5
set_option linter.unusedVariables false
set_option linter.unusedSimpArgs false
set_option linter.unusedSectionVars false
namespace Go.Proofs.S08
open Go Go.Ev Go.Proofs
set_option linter.unusedSimpArgs false
set_option linter.unusedVariables false
theorem fil_le {M l r : List Int} : ∀ {k : Nat}, (∀ i, i < k → nat M i ≠ 0 → nat l i ≠ 0 ∨ nat r i ≠ 0) → fil M k ≤ fil l k + fil r k
  | 0, _ => by simp [fil]
  | k + 1, h => by
    have h1 := @fil_le M l r k fun i hi => h i (by omega)
    have h2 := h k (by omega)
    rw [fil, fil, fil]
    by_cases hM : nat M k = 0
    · rw [if_pos hM]; split <;> split <;> omega
    · rw [if_neg hM]
      rcases h2 hM with h3 | h3
      · rw [if_neg h3]; split <;> omega
      · rw [if_neg h3]; split <;> omega
theorem ge_aux {x y c d : Int} (h1 : c ≤ x) (h2 : d ≤ y) : mn (c + d) 15 ≤ m15' x y := by unfold mn m15'; split <;> split <;> omega
theorem mn_b {c d : Int} (h1 : 0 ≤ c) (h2 : 0 ≤ d) : 0 ≤ mn (c + d) 15 ∧ mn (c + d) 15 ≤ 15 := by unfold mn; split <;> omega
theorem mn_15 (x : Int) : mn x 15 ≤ 15 := mn_le.2
variable {gl : Gl} {n : Nat} [Nonempty (H.GlK gl)]
set_option maxHeartbeats 4000000 in
theorem law7 (hn : 20 ≤ n) (ar : List AV) (h : HasKds [kSk, kSk, .str] ar) : call gl tab (n + 1) 7 ar [] = some (.bool true, [], []) := by
  simp only [HasKds] at h
  obtain ⟨_, _, rfl, ⟨_, rfl, _, _, rfl, ⟨w, rfl, _⟩, _, _, rfl, ⟨s, rfl, _⟩, _, _, rfl, ⟨a, rfl, _⟩, _, _, rfl, ⟨d1, rfl, hd1, h1⟩, rfl⟩, _, _, rfl, ⟨_, rfl, _, _, rfl, ⟨w', rfl, _⟩, _, _, rfl, ⟨s', rfl, _⟩, _, _, rfl, ⟨b, rfl, _⟩, _, _, rfl, ⟨d2, rfl, hd2, h2⟩, rfl⟩, _, _, rfl, ⟨key, rfl, hk⟩, rfl⟩ := h
  obtain ⟨l, rfl⟩ := kd_ns h1
  obtain ⟨r, rfl⟩ := kd_ns h2
  rw [kI_sh]
  rw [ns_length] at hd1 hd2
  have hd3 : l.length ≤ 9223372036854775807 := by simp [Go.maxLen] at hd1; omega
  have hd4 : r.length ≤ 9223372036854775807 := by simp [Go.maxLen] at hd2; omega
  have hd5 : key.length ≤ 9223372036854775807 := by simp [Go.maxLen] at hk; omega
  clear hd1 hd2 hk
  have c11 := @sanity_at gl n _ (by omega)
  by_cases hl : l.length ≤ 300
  case neg =>
    rw [call_go (fd := fd7) rfl]
    simp (disch := ((fail_if_success (intro _)); omega)) only [go_sem, simprocAttr, ↓reduceIte, ↓Nat.reduceEqDiff, xx, fd7, m7, c11, ns_length]
  by_cases hr : r.length ≤ 300
  case neg =>
    rw [call_go (fd := fd7) rfl]
    simp (disch := ((fail_if_success (intro _)); omega)) only [go_sem, simprocAttr, ↓reduceIte, ↓Nat.reduceEqDiff, xx, fd7, m7, c11, ns_length]
  by_cases hk : key.length ≤ 100
  case neg =>
    rw [call_go (fd := fd7) rfl]
    simp (disch := ((fail_if_success (intro _)); omega)) only [go_sem, simprocAttr, ↓reduceIte, ↓Nat.reduceEqDiff, xx, fd7, m7, c11, ns_length]
  obtain ⟨b1, hb1, c10⟩ := @rvalid_at gl n (by omega) false w s a l (by omega)
  cases b1 with
  | false =>
    rw [call_go (fd := fd7) rfl]
    simp (disch := ((fail_if_success (intro _)); omega)) only [go_sem, simprocAttr, ↓reduceIte, ↓Nat.reduceEqDiff, xx, fd7, m7, c11, ns_length, c10]
  | true =>
  obtain ⟨b2, hb2, c10'⟩ := @rvalid_at gl n (by omega) false w' s' b r (by omega)
  cases b2 with
  | false =>
    rw [call_go (fd := fd7) rfl]
    simp (disch := ((fail_if_success (intro _)); omega)) only [go_sem, simprocAttr, ↓reduceIte, ↓Nat.reduceEqDiff, xx, fd7, m7, c11, ns_length, c10, c10']
  | true =>
  have hv := hb1.1 rfl
  have hv' := hb2.1 rfl
  have hva := hv.va
  have hvs := hv.vs
  have hvb := hv'.va
  have hvs' := hv'.vs
  have hvn := hv.vn
  have hvn' := hv'.vn
  by_cases he : w = w' ∧ s = s'
  case neg =>
    have hd : w ≠ w' ∨ s ≠ s' := by
      by_cases h : w = w'
      · exact .inr fun h' => he ⟨h, h'⟩
      · exact .inl h
    have m1 := @merge_no gl n (by omega) false false w s a w' s' b l r hd
    rw [call_go (fd := fd7) rfl]
    by_cases h1 : w = w'
    · have h2 : s ≠ s' := by rcases hd with h | h; exact absurd h1 h; exact h
      have h3 : (w != w') = false := by rw [h1]; simp
      have h4 : (s != s') = true := by rw [bne_iff_ne]; exact h2
      simp (disch := ((fail_if_success (intro _)); omega)) only [go_sem, simprocAttr, ↓reduceIte, ↓Nat.reduceEqDiff, xx, fd7, m7, c11, ns_length, c10, c10', m1, h3, h4]
    · have h3 : (w != w') = true := by rw [bne_iff_ne]; exact h1
      simp (disch := ((fail_if_success (intro _)); omega)) only [go_sem, simprocAttr, ↓reduceIte, ↓Nat.reduceEqDiff, xx, fd7, m7, c11, ns_length, c10, c10', m1, h3]
  obtain ⟨rfl, rfl⟩ := he
  obtain ⟨w, rfl⟩ : ∃ v : Nat, w = v := ⟨w.toNat, by have := isP_pos hv.vp; omega⟩
  have hsk := hv.sk
  have hsk' := hv'.sk
  have hkw := hsk.kw
  have hkl := hsk.kl
  have hkr := hsk'.kl
  have hcl := hsk.kc
  have hcr := hsk'.kc
  have hrl : r.length = l.length := by omega
  have hp : ∀ i, i < 4 → pl key w i < l.length := fun i hi => by rw [hkl]; exact pl_lt hkw.1 hi
  have m1 := @merge_at gl n (by omega) false false w s a b l r (by omega) (by omega) (by omega) hrl hcl hcr
  have hmc := mgL_cs hcl hcr hrl
  have hml0 := mgL_length l r
  have hml : (if s ≤ a + b then hlf (mgL l r) l.length else mgL l r).length = l.length := by
    split
    · exact hlf_length _ _
    · exact hml0
  have ca := @count_at gl n _ (by omega) key (by omega) w hkw s a false l hkl
  have cb := @count_at gl n _ (by omega) key (by omega) w hkw s b false r hkr
  have cm := @count_at gl n _ (by omega) key (by omega) w hkw s (if s ≤ a + b then (a + b) / 2 else a + b) false (if s ≤ a + b then hlf (mgL l r) l.length else mgL l r) (by omega)
  have fa := @fill_at gl n (by omega) false w s a l (by omega)
  have fb := @fill_at gl n (by omega) false w s b r (by omega)
  have fm := @fill_at gl n (by omega) false w s (if s ≤ a + b then (a + b) / 2 else a + b) (if s ≤ a + b then hlf (mgL l r) l.length else mgL l r) (by omega)
  have ba := lea_bd hcl hp 4 (Nat.le_refl 4)
  have bb := lea_bd hcr (fun i hi => by rw [hrl]; exact hp i hi) 4 (Nat.le_refl 4)
  have hge : mn (lea l (pl key w) 4 + lea r (pl key w) 4) 15 ≤ lea (mgL l r) (pl key w) 4 := lea_ge (mn_15 _) fun i hi => by
    rw [mgL_nat (hp i hi)]
    exact ge_aux (lea_le i hi) (lea_le i hi)
  have hhalf : lea (hlf (mgL l r) l.length) (pl key w) 4 = lea (mgL l r) (pl key w) 4 / 2 := lea_half (by omega) fun i hi => ⟨(hmc _ (by rw [hml0]; exact hp i hi)).1, (hmc _ (by rw [hml0]; exact hp i hi)).2, nat_hlf (hp i hi)⟩
  have hf1 : fil (mgL l r) l.length ≤ fil l l.length + fil r l.length := fil_le fun i hi h => by
    rw [mgL_nat hi] at h
    by_cases h3 : nat l i = 0
    · by_cases h4 : nat r i = 0
      · rw [h3, h4] at h; exact absurd rfl h
      · exact .inr h4
    · exact .inl h3
  have hf2 : fil (hlf (mgL l r) l.length) l.length ≤ fil l l.length + fil r l.length := by
    refine Int.le_trans (fil_le (l := mgL l r) (r := []) fun i hi h => ?_) (Int.le_trans (Int.add_le_add_left (?_ : fil [] l.length ≤ 0) _) (by rw [Int.add_zero]; exact hf1))
    · rw [nat_hlf hi] at h
      exact .inl fun h2 => h (by rw [h2]; rfl)
    · have : ∀ k, fil [] k = 0 := fun k => by
        induction k with
        | zero => rfl
        | succ k ih => rw [fil, ih]; rfl
      rw [this]; exact Int.le_refl 0
  rw [hml] at fm
  rw [hrl] at fb
  have hmb : 0 ≤ mn (lea l (pl key w) 4 + lea r (pl key w) 4) 15 ∧ mn (lea l (pl key w) 4 + lea r (pl key w) 4) 15 ≤ 15 := mn_b ba.1 bb.1
  have hq := quoI (x := mn (lea l (pl key w) 4 + lea r (pl key w) 4) 15) (by omega)
  have hmn : (if (15 : Int) < lea l (pl key w) 4 + lea r (pl key w) 4 then 15 else lea l (pl key w) 4 + lea r (pl key w) 4) = mn (lea l (pl key w) 4 + lea r (pl key w) 4) 15 := rfl
  have f1 := fil_bd l l.length
  have f2 := fil_bd r l.length
  by_cases hs : s ≤ a + b
  · rw [if_pos hs, if_pos hs] at m1 cm fm
    rw [hhalf] at cm
    have hne : ((a + b) / 2 != a + b) = true := by rw [bne_iff_ne]; omega
    generalize fil (hlf (mgL l r) l.length) l.length = F0 at *
    generalize hlf (mgL l r) l.length = M at *
    generalize lea (mgL l r) (pl key w) 4 = c0 at *
    generalize mn (lea l (pl key w) 4 + lea r (pl key w) 4) 15 = X at *
    generalize lea l (pl key w) 4 = c1 at *
    generalize lea r (pl key w) 4 = c2 at *
    generalize fil l l.length = F1 at *
    generalize fil r l.length = F2 at *
    have hX : X / 2 ≤ c0 / 2 := by omega
    rw [call_go (fd := fd7) rfl]
    simp (implicitDefEqProofs := false) (disch := ((fail_if_success (intro _)); omega)) only [go_sem, simprocAttr, ↓reduceIte, ↓Nat.reduceEqDiff, xx, fd7, m7, c11, ns_length, c10, c10', m1, ca, cb, cm, fa, fb, fm, hne, hq, foldO, minAV, gt_iff_lt, hmn]
  · rw [if_neg hs, if_neg hs] at m1 cm fm
    have hne : (a + b != a + b) = false := by simp
    generalize fil (mgL l r) l.length = F0 at *
    generalize lea (mgL l r) (pl key w) 4 = c0 at *
    generalize mgL l r = M at *
    generalize mn (lea l (pl key w) 4 + lea r (pl key w) 4) 15 = X at *
    generalize lea l (pl key w) 4 = c1 at *
    generalize lea r (pl key w) 4 = c2 at *
    generalize fil l l.length = F1 at *
    generalize fil r l.length = F2 at *
    rw [call_go (fd := fd7) rfl]
    simp (implicitDefEqProofs := false) (disch := ((fail_if_success (intro _)); omega)) only [go_sem, simprocAttr, ↓reduceIte, ↓Nat.reduceEqDiff, xx, fd7, m7, c11, ns_length, c10, c10', m1, ca, cb, cm, fa, fb, fm, hne, foldO, minAV, gt_iff_lt, hmn]
end Go.Proofs.S08
