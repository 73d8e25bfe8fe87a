/-
  Chapter 33: what Receive makes of an inbox. No condition.
-/
import Derived.Test.YtoddlpnnmoaogaaW33m
set_option linter.unusedVariables false
set_option linter.unusedSimpArgs false
set_option linter.unusedSectionVars false
namespace Go.Proofs.S33
open Go Go.Ev Go.Proofs
set_option linter.unusedSimpArgs false
set_option linter.unusedVariables false
theorem VI.mk' {nx : Int} {l : List Fm} (hp : 0 ≤ nx ∧ nx ≤ 2199023255552) (hn : l.length ≤ 64) (h : ∀ i, i < l.length → (fat l i).s = false ∧ nx < (fat l i).q ∧ (fat l i).q ≤ 2199023255552 ∧ (fat l i).b.length ≤ 65536)
    (hs : ∀ i, i + 1 < l.length → (fat l i).q < (fat l (i + 1)).q) : VI nx l :=
  ⟨hp, hn, fun i hi => by
    obtain ⟨h1, h2, h3, h4⟩ := h i hi
    refine ⟨h1, ?_, h3, h4⟩
    cases i with
    | zero => exact h2
    | succ i => exact hs i hi⟩
theorem fat_drop (l : List Fm) (a i : Nat) : fat (l.drop a) i = fat l (a + i) := by simp [fat, List.getD_eq_getElem?_getD, List.getElem?_drop]
theorem fat_ins_lo {l : List Fm} {k i : Nat} (hk : k ≤ l.length) (x : Fm) (h : i < k) : fat (insF l k x) i = fat l i := by
  have h1 : (l.take k).length = k := by simp; omega
  simp only [fat, List.getD_eq_getElem?_getD, insF]
  rw [List.getElem?_append_left (by omega), List.getElem?_take_of_lt h]
theorem fat_ins_eq {l : List Fm} {k : Nat} (hk : k ≤ l.length) (x : Fm) : fat (insF l k x) k = x := by
  have h1 : (l.take k).length = k := by simp; omega
  simp only [fat, List.getD_eq_getElem?_getD, insF]
  rw [List.getElem?_append_right (by omega), h1, Nat.sub_self]; rfl
theorem fat_ins_hi {l : List Fm} {k i : Nat} (hk : k ≤ l.length) (x : Fm) (h : k ≤ i) : fat (insF l k x) (i + 1) = fat l i := by
  have h1 : (l.take k).length = k := by simp; omega
  simp only [fat, List.getD_eq_getElem?_getD, insF]
  rw [List.getElem?_append_right (by omega), h1, show i + 1 - k = (i - k) + 1 by omega, List.getElem?_cons_succ, List.getElem?_drop, show k + (i - k) = i by omega]
theorem rn_ex {nx : Int} {l : List Fm} (hv : VI nx l) {x : Int} (hx : nx ≤ x) (hx2 : x ≤ 1099511627777) : ∃ d a, Rn l x d a := by
  have hps := hv.pos
  have hpo : ∀ j, j < l.length → 0 ≤ (fat l j).q ∧ (fat l j).q ≤ 2199023255552 := fun j hj => by have := fq_pos hv hj; have := (hv.ok j hj).hi; omega
  rcases first_fail (fun j => (fat l j).q < x) l.length with h | ⟨d, hd, h1, h2⟩
  · exact ⟨l.length, l.length, Nat.le_refl _, Nat.le_refl _, fun j hj => ⟨(hpo j hj).1, h j hj⟩, fun j h1 h2 => by omega, fun j h1 h2 => by omega⟩
  rcases first_fail (fun j => d ≤ j → (fat l j).q = x + ((j - d : Nat) : Int)) l.length with h | ⟨a, ha, h3, h4⟩
  · exact ⟨d, l.length, by omega, Nat.le_refl _, fun j hj => ⟨(hpo j (by omega)).1, h1 j hj⟩, fun j h1 h2 => h j h2 h1, fun j h1 h2 => by omega⟩
  have hda : d ≤ a := Classical.byContradiction fun h => h4 fun h' => absurd h' h
  have hne : (fat l a).q ≠ x + ((a - d : Nat) : Int) := fun h => h4 fun _ => h
  have hge : x + ((a - d : Nat) : Int) < (fat l a).q := by
    by_cases he : a = d
    · subst he; simp at hne ⊢; omega
    · have := h3 (a - 1) (by omega) (by omega)
      have := fq_lt hv (show a - 1 < a by omega) ha
      omega
  refine ⟨d, a, hda, by omega, fun j hj => ⟨(hpo j (by omega)).1, h1 j hj⟩, fun j h5 h6 => h3 j h6 h5, fun j h5 h6 => ⟨?_, (hpo j h6).2⟩⟩
  by_cases he : j = a
  · subst he; exact hge
  · have := fq_lt hv (show a < j by omega) h6; omega
theorem vi_drop {nx : Int} {l : List Fm} (hv : VI nx l) {x : Int} (hx : 0 ≤ x ∧ x ≤ 1099511627777) {d a : Nat} (hr : Rn l x d a) : VI (x + ((a - d : Nat) : Int)) (l.drop a) := by
  have hn := hv.n
  have hal := hr.al
  refine VI.mk' (by omega) (by simp; omega) (fun i hi => ?_) (fun i hi => ?_)
  · simp only [List.length_drop] at hi
    have h1 := hv.ok (a + i) (by omega)
    have h2 := hr.hi (a + i) (by omega) (by omega)
    rw [fat_drop]; exact ⟨h1.s, h2.1, h2.2, h1.b⟩
  · simp only [List.length_drop] at hi
    rw [fat_drop, fat_drop]; exact fq_lt hv (by omega) (by omega)
theorem vi_ins {nx : Int} {l : List Fm} (hv : VI nx l) {x : Fm} (hs : x.s = false) (hx : nx < x.q ∧ x.q ≤ 1099511627776) (hb : x.b.length ≤ 65536) (hl : l.length < 64) {k : Nat} (hp : Pl l x.q k) (hk : ∀ k, k < l.length → (fat l k).q ≠ x.q) : VI nx (insF l k x) := by
  have hle := hp.le
  have hlen := insF_length hle x
  refine VI.mk' hv.pos (by omega) (fun i hi => ?_) (fun i hi => ?_)
  · rcases Nat.lt_trichotomy i k with h | h | h
    · rw [fat_ins_lo hle x h]
      have h1 := hv.ok i (by omega)
      exact ⟨h1.s, fq_pos hv (by omega), h1.hi, h1.b⟩
    · subst h; rw [fat_ins_eq hle x]; exact ⟨hs, hx.1, by omega, hb⟩
    · obtain ⟨j, rfl⟩ : ∃ j, i = j + 1 := ⟨i - 1, by omega⟩
      rw [fat_ins_hi hle x (by omega)]
      have h1 := hv.ok j (by omega)
      exact ⟨h1.s, fq_pos hv (by omega), h1.hi, h1.b⟩
  · rcases Nat.lt_trichotomy (i + 1) k with h | h | h
    · rw [fat_ins_lo hle x h, fat_ins_lo hle x (show i < k by omega)]; exact fq_lt hv (by omega) (by omega)
    · rw [fat_ins_lo hle x (show i < k by omega), ← h, fat_ins_eq (by omega) x]; exact hp.lo i (by omega)
    · by_cases h2 : i = k
      · subst h2
        rw [fat_ins_eq hle x, fat_ins_hi hle x (Nat.le_refl i)]
        have h3 := hp.hi i (Nat.le_refl i) (by omega)
        have h4 := hk i (by omega)
        omega
      · obtain ⟨j, rfl⟩ : ∃ j, i = j + 1 := ⟨i - 1, by omega⟩
        rw [fat_ins_hi hle x (by omega), fat_ins_hi hle x (by omega)]; exact fq_lt hv (by omega) (by omega)
end Go.Proofs.S33
