/-
  Chapter 8: how adding changes counts. No condition.
-/
import Derived.Test.YtjpfinklpodhnaaDoorW08TT
set_option linter.unusedVariables false
set_option linter.unusedSimpArgs false
set_option linter.unusedSectionVars false
namespace Go.Proofs.S08
open Go Go.Ev Go.Proofs
set_option linter.unusedSimpArgs false
set_option linter.unusedVariables false
theorem lea_ge {l : List Int} {p : Nat → Nat} {x : Int} (hx : x ≤ 15) : ∀ {k : Nat}, (∀ i, i < k → x ≤ nat l (p i)) → x ≤ lea l p k
  | 0, _ => hx
  | k + 1, h => by
    have h1 := @lea_ge l p x hx k fun i hi => h i (by omega)
    have h2 := h k (by omega)
    rw [lea]; unfold mn; split <;> omega
theorem lea_le15 {l : List Int} {p : Nat → Nat} : ∀ {k : Nat}, lea l p k ≤ 15
  | 0 => by simp [lea]
  | k + 1 => by have h1 := @lea_le15 l p k; have h2 := @mn_le (lea l p k) (nat l (p k)); rw [lea]; omega
theorem lea_is {l : List Int} {p : Nat → Nat} : ∀ {k : Nat}, lea l p k = 15 ∨ ∃ i, i < k ∧ lea l p k = nat l (p i)
  | 0 => .inl rfl
  | k + 1 => by
    rw [lea]; unfold mn; split
    · exact .inr ⟨k, by omega, rfl⟩
    · rcases @lea_is l p k with h | ⟨i, hi, h⟩
      · exact .inl h
      · exact .inr ⟨i, by omega, h⟩
/-- Cells that differ by at most one make counts that do. -/
theorem lea_mono {l A : List Int} {q : Nat → Nat} {k : Nat} (h : ∀ i, i < k → nat l (q i) ≤ nat A (q i)) : lea l q k ≤ lea A q k := by
  rcases @lea_is A q k with h1 | ⟨i, hi, h1⟩
  · rw [h1]; exact lea_le15
  · rw [h1]; have := h i hi; have := @lea_le l q k i hi; omega
theorem lea_succ {l A : List Int} {q : Nat → Nat} {k : Nat} (h : ∀ i, i < k → nat A (q i) ≤ nat l (q i) + 1) : lea A q k ≤ lea l q k + 1 := by
  rcases @lea_is l q k with h1 | ⟨i, hi, h1⟩
  · rw [h1]; have := @lea_le15 A q k; omega
  · rw [h1]; have := h i hi; have := @lea_le A q k i hi; omega
theorem lea_half {A H : List Int} {q : Nat → Nat} {k : Nat} (hk : 0 < k) (h : ∀ i, i < k → 0 ≤ nat A (q i) ∧ nat A (q i) ≤ 15 ∧ nat H (q i) = nat A (q i) / 2) : lea H q k = lea A q k / 2 := by
  have h0 := h 0 hk
  have hl : ∀ i, i < k → lea A q k ≤ nat A (q i) := fun i hi => lea_le i hi
  have h1 : lea A q k / 2 ≤ lea H q k := lea_ge (by have := @lea_le15 A q k; omega) fun i hi => by have := h i hi; have := hl i hi; omega
  have h2 : lea H q k ≤ lea A q k / 2 := by
    rcases @lea_is A q k with h3 | ⟨i, hi, h3⟩
    · have h4 := @lea_le H q k 0 hk
      have := hl 0 hk; omega
    · have h4 := @lea_le H q k i hi
      have := h i hi; omega
  omega
theorem ad_one {l : List Int} {p : Nat → Nat} {c : Int} (hp : ∀ i j, i < j → p i ≠ p j) (hl : ∀ i, i < 4 → p i < l.length) : ∀ {k i : Nat}, k ≤ 4 → i < k → nat (ad l p c k) (p i) = if nat l (p i) = c ∧ c < 15 then c + 1 else nat l (p i)
  | k + 1, i, hk, hi => by
    have ho : nat (ad l p c k) (p k) = nat l (p k) := ad_other fun j hj => hp j k hj
    by_cases h : i = k
    · subst h
      rw [ad, ho]; split
      · rw [nat_set_eq (by rw [ad_length]; exact hl i (by omega))]
      · exact ho
    · have ih := @ad_one l p c hp hl k i (by omega) (by omega)
      rw [ad]; split
      · rw [nat_set_ne (fun h2 => hp i k (by omega) h2.symm)]; exact ih
      · exact ih
theorem ad_bd {l : List Int} {p : Nat → Nat} {c : Int} (hp : ∀ i j, i < j → p i ≠ p j) (hl : ∀ i, i < 4 → p i < l.length) (k : Nat) : nat l k ≤ nat (ad l p c 4) k ∧ nat (ad l p c 4) k ≤ nat l k + 1 := by
  by_cases h : ∃ i, i < 4 ∧ p i = k
  · obtain ⟨i, hi, rfl⟩ := h
    rw [ad_one hp hl (Nat.le_refl 4) hi]
    split
    · rename_i h2; omega
    · omega
  · rw [ad_other fun j hj hj2 => h ⟨j, hj, hj2⟩]; omega
/-- Adding a key makes its count one more, up to 15. -/
theorem ad_lea {l : List Int} {p : Nat → Nat} (hp : ∀ i j, i < j → p i ≠ p j) (hl : ∀ i, i < 4 → p i < l.length) (hc : Cs l) : lea (ad l p (lea l p 4) 4) p 4 = mn (lea l p 4 + 1) 15 := by
  have h15 := @lea_le15 l p 4
  have hle : ∀ i, i < 4 → lea l p 4 ≤ nat l (p i) := fun i hi => lea_le i hi
  have ho := fun i (hi : i < 4) => @ad_one l p (lea l p 4) hp hl 4 i (Nat.le_refl 4) hi
  have his := @lea_is l p 4
  generalize lea l p 4 = c at *
  have h1 : mn (c + 1) 15 ≤ lea (ad l p c 4) p 4 := lea_ge (by unfold mn; split <;> omega) fun i hi => by
    have := hle i hi; have := (hc _ (hl i hi)).2
    rw [ho i hi]; unfold mn; split <;> split <;> omega
  have h2 : lea (ad l p c 4) p 4 ≤ mn (c + 1) 15 := by
    have h3 := @lea_le15 (ad l p c 4) p 4
    rcases his with h | ⟨i, hi, h⟩
    · unfold mn; rw [if_pos (by omega)]; exact h3
    · have h4 := @lea_le (ad l p c 4) p 4 i hi
      rw [ho i hi] at h4
      unfold mn
      split at h4 <;> split <;> omega
  omega
end Go.Proofs.S08
