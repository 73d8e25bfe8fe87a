/-
  Chapter 8: what is added to stays valid. No condition.
-/
import Derived.Test.YtjpfinklpodhnaaDoorW08MM
import Derived.Test.YtjpfinklpodhnaaDoorW08II
import Derived.Test.YtjpfinklpodhnaaDoorW08PP
set_option linter.unusedVariables false
set_option linter.unusedSimpArgs false
set_option linter.unusedSectionVars false
namespace Go.Proofs.S08
open Go Go.Ev Go.Proofs
set_option linter.unusedSimpArgs false
set_option linter.unusedVariables false
theorem nat_hlf {l : List Int} {N i : Nat} (h : i < N) : nat (hlf l N) i = nat l i / 2 := by rw [← mpd_hlf, nat_mpd h]
theorem mn_le {x y : Int} : mn x y ≤ x ∧ mn x y ≤ y := by unfold mn; split <;> omega
theorem lea_le {l : List Int} {p : Nat → Nat} : ∀ {k : Nat} (i : Nat), i < k → lea l p k ≤ nat l (p i)
  | k + 1, i, h => by
    rw [lea]
    have h1 := @mn_le (lea l p k) (nat l (p k))
    by_cases h2 : i = k
    · subst h2; exact h1.2
    · have := @lea_le l p k i (by omega); omega
theorem ad_le {l : List Int} {p : Nat → Nat} {c a : Int} (hc : c ≤ a) (h : ∀ k, k < l.length → nat l k ≤ a + 1) : ∀ i k, k < l.length → nat (ad l p c i) k ≤ a + 1
  | 0, k, hk => h k hk
  | i + 1, k, hk => by
    rw [ad]; split
    · by_cases hj : p i = k
      · subst hj; rw [nat_set_eq (by rw [ad_length]; exact hk)]; omega
      · rw [nat_set_ne hj]; exact ad_le hc h i k hk
    · exact ad_le hc h i k hk
theorem add_vs {w : Nat} {s a : Int} {l : List Int} (h : VS w s a l) (key : List UInt8) : VS w s (addR w s a l key).1 (addR w s a l key).2 := by
  have hk := h.sk
  have hcs := adL_cs hk key
  have hal := adL_length w l key
  have hp : ∀ i, i < 4 → pl key w i < l.length := fun i hi => by rw [hk.kl]; exact pl_lt hk.kw.1 hi
  have hle : lea l (pl key w) 4 ≤ a := by
    have h1 := lea_le (l := l) (p := pl key w) (k := 4) 0 (by omega)
    have h2 := (h.vc _ (hp 0 (by omega))).2.2
    omega
  have hb : ∀ i, i < l.length → nat (adL w l key) i ≤ a + 1 := fun i hi => ad_le hle (fun k hk => by have := (h.vc k hk).2.2; omega) 4 i hi
  have hva := h.va
  have hvs := h.vs
  unfold addR
  by_cases h1 : a + 1 = s
  · rw [if_pos h1]
    refine ⟨h.vp, h.vw, h.vs, by simp only; omega, by simp only [hlf_length]; exact h.vn, fun i hi => ?_⟩
    simp only [hlf_length] at hi ⊢
    have h2 := hcs i (by omega)
    have h3 := hb i hi
    unfold CO
    rw [nat_hlf hi]; omega
  · rw [if_neg h1]
    refine ⟨h.vp, h.vw, h.vs, by simp only; omega, by simp only [hal]; exact h.vn, fun i hi => ?_⟩
    simp only [hal] at hi ⊢
    exact ⟨(hcs i (by omega)).1, (hcs i (by omega)).2, hb i hi⟩
theorem addR_len {w : Nat} {s a : Int} {l : List Int} {key : List UInt8} : (addR w s a l key).2.length = l.length := by
  unfold addR
  split
  · exact hlf_length _ _
  · exact adL_length _ _ _
end Go.Proofs.S08
namespace Go.Proofs.S08
open Go Go.Ev Go.Proofs
set_option linter.unusedSimpArgs false
set_option linter.unusedVariables false
variable {gl : Gl} {n : Nat}
abbrev kI : Kd := .int .i64
abbrev kSk : Kd := .st [.int .i64, .int .i64, .int .i64, .sl (.int .i64)]
theorem kI_sh : kI.sh = .sc := rfl
theorem kS_sh : (Kd.str).sh = .sc := rfl
theorem kd_ns : ∀ {l : List AV}, (∀ x ∈ l, HasKd kI x) → ∃ r : List Int, l = ns r
  | [], _ => ⟨[], rfl⟩
  | x :: l, h => by
    obtain ⟨a, rfl, _⟩ := h x (by simp)
    obtain ⟨r, rfl⟩ := kd_ns (l := l) fun y hy => h y (by simp [hy])
    exact ⟨a :: r, rfl⟩
def ks (l : List (List UInt8)) : List AV := l.map .str
def kat (l : List (List UInt8)) (i : Nat) : List UInt8 := l.getD i []
theorem ks_length (l : List (List UInt8)) : (ks l).length = l.length := by simp [ks]
theorem ks_at {l : List (List UInt8)} {i : Nat} (h : i < l.length) : (ks l)[i]? = some (.str (kat l i)) := by simp [ks, kat, h]
theorem kd_ks : ∀ {l : List AV}, (∀ x ∈ l, HasKd .str x) → ∃ r : List (List UInt8), l = ks r ∧ ∀ i, i < r.length → (kat r i).length ≤ 9223372036854775807
  | [], _ => ⟨[], rfl, fun i hi => by simp at hi⟩
  | x :: l, h => by
    obtain ⟨a, rfl, ha⟩ := h x (by simp)
    obtain ⟨r, rfl, hr⟩ := kd_ks (l := l) fun y hy => h y (by simp [hy])
    refine ⟨a :: r, rfl, fun i hi => ?_⟩
    cases i with
    | zero => simp [Go.maxLen] at ha; simp [kat]; omega
    | succ i => exact hr i (by simpa using hi)
def L9 : MC := match m9 with | .seq _ (.seq (.seq _ (.block _ (.loop _ b))) _) => b | _ => .skip
def S9 (l : List (List UInt8)) (i : Nat) : St := ⟨[.set 3 (i64 i), .set 0 (.lst false .sc (ks l))], []⟩
/-- Few short keys. -/
def Few (l : List (List UInt8)) : Prop := (∀ i, i < l.length → (kat l i).length ≤ 100) ∧ l.length ≤ 60
theorem short_at (h : 1 ≤ n) {l : List (List UInt8)} (hl : l.length ≤ 9223372036854775807) (hb : ∀ i, i < l.length → (kat l i).length ≤ 9223372036854775807) :
    ∃ b : Bool, (b = true ↔ Few l) ∧ call gl tab n 9 [.lst false .sc (ks l)] [] = some (.bool b, [], []) := by
  obtain ⟨d, rfl⟩ := Nat.exists_eq_add_of_le' h
  have hs : ∀ i, i < l.length → (kat l i).length ≤ 100 → contK [.slot 0, .slot 3] (evC gl (call gl tab d) L9 (S9 l i)) = some (S9 l (i + 1)) := fun i hi hp => by
    have hx := ks_at hi
    simp (disch := ((fail_if_success (intro _)); omega)) only [go_sem, simprocAttr, ↓reduceIte, ↓Nat.reduceEqDiff, xx, L9, m9, S9, ks_length, hx]
  have hf : ∀ i, i < l.length → ¬ (kat l i).length ≤ 100 → out1 2 (evC gl (call gl tab d) L9 (S9 l i)) = some (.ret, .bool false) := fun i hi hp => by
    have hx := ks_at hi
    have := hb i hi
    simp (disch := ((fail_if_success (intro _)); omega)) only [go_sem, simprocAttr, ↓reduceIte, ↓Nat.reduceEqDiff, xx, L9, m9, S9, ks_length, hx]
  rw [call_go (fd := fd9) rfl]
  rcases first_fail (fun i => (kat l i).length ≤ 100) l.length with ha | ⟨k, hk, hb', he⟩
  · refine ⟨decide (l.length ≤ 60), ?_, ?_⟩
    · rw [decide_eq_true_eq]; exact ⟨fun h => ⟨ha, h⟩, fun h => h.2⟩
    have hs2 := fun i hi => hs i hi (ha i hi)
    simp only [L9, m9] at hs2
    simp (disch := ((fail_if_success (intro _)); omega)) only [go_sem, simprocAttr, ↓reduceIte, ↓Nat.reduceEqDiff, xx, fd9, m9]
    rw [iter_to (S9 l) l.length (by unfold LF; omega)]
    · simp (disch := ((fail_if_success (intro _)); omega)) only [go_sem, simprocAttr, ↓reduceIte, ↓Nat.reduceEqDiff, xx, S9, ks_length]
    · simp (disch := ((fail_if_success (intro _)); omega)) only [go_sem, simprocAttr, ↓reduceIte, ↓Nat.reduceEqDiff, xx, S9]
    · exact hs2
    · simp (disch := ((fail_if_success (intro _)); omega)) only [go_sem, simprocAttr, ↓reduceIte, ↓Nat.reduceEqDiff, xx, S9, ks_length]
  · obtain ⟨st, hst, hg⟩ := out1_get (hf k hk he)
    have hs2 := fun i (hi : i < k) => hs i (by omega) (hb' i hi)
    simp only [L9, m9] at hs2 hst
    refine ⟨false, ⟨(fun h => by cases h), fun h => absurd (h.1 k hk) he⟩, ?_⟩
    simp (disch := ((fail_if_success (intro _)); omega)) only [go_sem, simprocAttr, ↓reduceIte, ↓Nat.reduceEqDiff, xx, fd9, m9]
    rw [iter_to (S9 l) k (by unfold LF; omega), hst]
    · simp (disch := ((fail_if_success (intro _)); omega)) only [go_sem, simprocAttr, ↓reduceIte, ↓Nat.reduceEqDiff, xx, hg]
    · simp (disch := ((fail_if_success (intro _)); omega)) only [go_sem, simprocAttr, ↓reduceIte, ↓Nat.reduceEqDiff, xx, S9]
    · exact hs2
    · rw [hst]; rfl
end Go.Proofs.S08
