/-
  Chapter 8: keys that were counted. No condition.
-/
import Derived.Test.YtjpfinklpodhnaaDoorW08TT
import Derived.Test.YtjpfinklpodhnaaDoorW08v
import Derived.Test.YtjpfinklpodhnaaDoorW08ZD
set_option linter.unusedVariables false
set_option linter.unusedSimpArgs false
set_option linter.unusedSectionVars false
namespace Go.Proofs.S08
open Go Go.Ev Go.Proofs
set_option linter.unusedSimpArgs false
set_option linter.unusedVariables false
variable {gl : Gl} {n : Nat}
structure Ct where
  k : List UInt8
  c : Int
def ct (l : List Ct) : List AV := l.map fun x => .agg [.str x.k, i64 x.c]
def cat (l : List Ct) (i : Nat) : Ct := l.getD i ⟨[], 0⟩
abbrev sC : Sh := .st [.sc, .sc]
theorem ct_length (l : List Ct) : (ct l).length = l.length := by simp [ct]
theorem ct_at {l : List Ct} {i : Nat} (h : i < l.length) : (ct l)[i]? = some (.agg [.str (cat l i).k, i64 (cat l i).c]) := by simp [ct, cat, h]
theorem ct_app (l : List Ct) (x : Ct) : ct (l ++ [x]) = ct l ++ [.agg [.str x.k, i64 x.c]] := by simp [ct]
theorem ct_set (l : List Ct) (i : Nat) (x : Ct) : (ct l).set i (.agg [.str x.k, i64 x.c]) = ct (l.set i x) := by simp [ct, List.map_set]
def L16 : MC := match m16 with | .seq _ (.seq (.seq _ (.block _ (.loop _ b))) _) => b | _ => .skip
def S16 (l : List Ct) (key : List UInt8) (i : Nat) : St := ⟨[.set 5 (i64 i), .set 1 (.str key), .set 0 (.sl 100000 [] 0 l.length)], [(100000, .grow sC (ct l))]⟩
theorem step16 {l : List Ct} {key : List UInt8} (hl : l.length ≤ 1000) {i : Nat} (hi : i < l.length) (hne : (cat l i).k ≠ key) : contK [.slot 0, .slot 1, .slot 5] (evC gl (call gl tab n) L16 (S16 l key i)) = some (S16 l key (i + 1)) := by
  have hx := ct_at hi
  have hb : ((cat l i).k == key) = false := by rw [beq_eq_false_iff_ne]; exact hne
  simp (disch := ((fail_if_success (intro _)); omega)) only [go_sem, simprocAttr, ↓reduceIte, ↓Nat.reduceEqDiff, xx, L16, m16, S16, ct_length, hx, hb]
theorem more_no (h : 1 ≤ n) {l : List Ct} {key : List UInt8} (hl : l.length ≤ 1000) (hne : ∀ i, i < l.length → (cat l i).k ≠ key) :
    call gl tab n 16 [.sl 100000 [] 0 l.length, .str key] [(100000, .grow sC (ct l))] = some (.sl 20000 [] 0 (l.length + 1), [(100000, .dead)], [.grow sC (ct (l ++ [⟨key, 1⟩]))]) := by
  obtain ⟨d, rfl⟩ := Nat.exists_eq_add_of_le' h
  have hs := fun i hi => @step16 gl d l key hl i hi (hne i hi)
  simp only [L16, m16] at hs
  have hL : l.length + 1 ≤ LIM := by unfold LIM; omega
  have ha := ct_app l ⟨key, 1⟩
  rw [call_gen (fd := fd16) rfl]
  simp (disch := ((fail_if_success (intro _)); omega)) only [go_sem, simprocAttr, ↓reduceIte, ↓Nat.reduceEqDiff, xx, fd16, m16]
  rw [iter_to (S16 l key) l.length (by unfold LF; omega)]
  · simp (disch := ((fail_if_success (intro _)); omega)) only [go_sem, simprocAttr, ↓reduceIte, ↓Nat.reduceEqDiff, xx, S16, ct_length, hL, ha]
  · simp (disch := ((fail_if_success (intro _)); omega)) only [go_sem, simprocAttr, ↓reduceIte, ↓Nat.reduceEqDiff, xx, S16]
  · exact hs
  · simp (disch := ((fail_if_success (intro _)); omega)) only [go_sem, simprocAttr, ↓reduceIte, ↓Nat.reduceEqDiff, xx, S16]
theorem more_yes (h : 1 ≤ n) {l : List Ct} {key : List UInt8} (hl : l.length ≤ 1000) {k : Nat} (hk : k < l.length) (hne : ∀ i, i < k → (cat l i).k ≠ key) (he : (cat l k).k = key) (hc : 0 ≤ (cat l k).c ∧ (cat l k).c ≤ 15) :
    call gl tab n 16 [.sl 100000 [] 0 l.length, .str key] [(100000, .grow sC (ct l))] = some (.sl 100000 [] 0 l.length, [(100000, .grow sC (ct (l.set k ⟨key, mn ((cat l k).c + 1) 15⟩)))], []) := by
  obtain ⟨d, rfl⟩ := Nat.exists_eq_add_of_le' h
  have hs := fun i (hi : i < k) => @step16 gl d l key hl i (by omega) (hne i hi)
  simp only [L16, m16] at hs
  have hx := ct_at hk
  rw [he] at hx
  have hset := ct_set l k ⟨key, mn ((cat l k).c + 1) 15⟩
  have hmn : (if (15 : Int) < (cat l k).c + 1 then 15 else (cat l k).c + 1) = mn ((cat l k).c + 1) 15 := rfl
  rw [call_gen (fd := fd16) rfl]
  simp (disch := ((fail_if_success (intro _)); omega)) only [go_sem, simprocAttr, ↓reduceIte, ↓Nat.reduceEqDiff, xx, fd16, m16]
  rw [iter_to (S16 l key) k (by unfold LF; omega)]
  · simp (disch := ((fail_if_success (intro _)); omega)) only [go_sem, simprocAttr, ↓reduceIte, ↓Nat.reduceEqDiff, xx, S16, ct_length, hx, beq_self_eq_true, foldO, minAV, gt_iff_lt, hmn, hset]
  · simp (disch := ((fail_if_success (intro _)); omega)) only [go_sem, simprocAttr, ↓reduceIte, ↓Nat.reduceEqDiff, xx, S16]
  · exact hs
  · simp (disch := ((fail_if_success (intro _)); omega)) only [go_sem, simprocAttr, ↓reduceIte, ↓Nat.reduceEqDiff, xx, S16, ct_length, hx, beq_self_eq_true, foldO, minAV, gt_iff_lt, hmn, hset]
end Go.Proofs.S08
namespace Go.Proofs.S08
open Go Go.Ev Go.Proofs
set_option linter.unusedSimpArgs false
set_option linter.unusedVariables false
/-- Two keys share a cell. -/
def Shd (w : Nat) (x y : List UInt8) : Prop := ∃ r, r < 4 ∧ plc x r % w = plc y r % w
theorem Shd.symm {w : Nat} {x y : List UInt8} (h : Shd w x y) : Shd w y x := by obtain ⟨r, hr, e⟩ := h; exact ⟨r, hr, e.symm⟩
theorem Shd.refl (w : Nat) (x : List UInt8) : Shd w x x := ⟨0, by omega, rfl⟩
theorem pl_ne {w : Nat} (hw : 1 ≤ w) {x y : List UInt8} (h : ¬ Shd w x y) {i j : Nat} (hi : i < 4) : pl x w i ≠ pl y w j := by
  have h1 := Nat.mod_lt (plc x i) (show 0 < w by omega)
  have h2 := Nat.mod_lt (plc y j) (show 0 < w by omega)
  intro e
  unfold pl at e
  rcases Nat.lt_trichotomy i j with hij | hij | hij
  · have h3 : (i + 1) * w ≤ j * w := Nat.mul_le_mul_right w (by omega)
    rw [Nat.add_mul] at h3; omega
  · subst hij; exact h ⟨i, hi, by omega⟩
  · have h3 : (j + 1) * w ≤ i * w := Nat.mul_le_mul_right w (by omega)
    rw [Nat.add_mul] at h3; omega
structure J (w : Nat) (l : List Int) (cs : List Ct) : Prop where
  j0 : ∀ x : List UInt8, (∀ j, j < cs.length → ¬ Shd w x (cat cs j).k) → ∀ r, r < 4 → nat l (pl x w r) = 0
  j1 : ∀ i, i < cs.length → (∀ j, j < cs.length → j ≠ i → ¬ Shd w (cat cs i).k (cat cs j).k) → ∀ r, r < 4 → nat l (pl (cat cs i).k w r) = (cat cs i).c
  j2 : ∀ i, i < cs.length → (cat cs i).c ≤ lea l (pl (cat cs i).k w) 4
  jc : ∀ i, i < cs.length → 0 ≤ (cat cs i).c ∧ (cat cs i).c ≤ 15
  jk : ∀ i, i < cs.length → (cat cs i).k.length ≤ 100
theorem lea_all {l : List Int} {p : Nat → Nat} {c : Int} (hc : c ≤ 15) (h : ∀ i, i < 4 → nat l (p i) = c) : lea l p 4 = c := by
  have h1 : c ≤ lea l p 4 := lea_ge hc fun i hi => by rw [h i hi]; exact Int.le_refl _
  have h2 := @lea_le l p 4 0 (by omega)
  rw [h 0 (by omega)] at h2; omega
theorem cat_set_eq {l : List Ct} {k : Nat} (h : k < l.length) (x : Ct) : cat (l.set k x) k = x := by simp [cat, List.getD_eq_getElem?_getD, h]
theorem cat_set_ne {l : List Ct} {k j : Nat} (h : k ≠ j) (x : Ct) : cat (l.set k x) j = cat l j := by simp [cat, List.getD_eq_getElem?_getD, List.getElem?_set, h]
theorem cat_app_lt {l : List Ct} {x : Ct} {j : Nat} (h : j < l.length) : cat (l ++ [x]) j = cat l j := by simp [cat, List.getD_eq_getElem?_getD, List.getElem?_append_left h]
theorem cat_app_eq (l : List Ct) (x : Ct) : cat (l ++ [x]) l.length = x := by simp [cat, List.getD_eq_getElem?_getD]
section
variable {w : Nat} {l : List Int} {cs : List Ct} {key : List UInt8}
theorem adL_other (hw : 1 ≤ w) {x : List UInt8} (h : ¬ Shd w x key) {r : Nat} (hr : r < 4) : nat (adL w l key) (pl x w r) = nat l (pl x w r) :=
  ad_other fun j hj e => pl_ne hw h hr e.symm
theorem adL_same (hw : 1 ≤ w) (hl : l.length = 4 * w) {c : Int} (hc : c ≤ 15) (h : ∀ r, r < 4 → nat l (pl key w r) = c) {r : Nat} (hr : r < 4) : nat (adL w l key) (pl key w r) = mn (c + 1) 15 := by
  unfold adL
  rw [ad_one (fun i j hij => pl_inj hw hij) (fun i hi => by rw [hl]; exact pl_lt hw hi) (Nat.le_refl 4) hr, lea_all hc h, h r hr]
  unfold mn; split <;> split <;> omega
theorem adL_lea (hw : 1 ≤ w) (hl : l.length = 4 * w) (hc : Cs l) : lea (adL w l key) (pl key w) 4 = mn (lea l (pl key w) 4 + 1) 15 :=
  ad_lea (fun i j hij => pl_inj hw hij) (fun i hi => by rw [hl]; exact pl_lt hw hi) hc
theorem adL_mono (hw : 1 ≤ w) (hl : l.length = 4 * w) (x : List UInt8) : lea l (pl x w) 4 ≤ lea (adL w l key) (pl x w) 4 :=
  lea_mono fun i hi => (ad_bd (fun i j hij => pl_inj hw hij) (fun i hi => by rw [hl]; exact pl_lt hw hi) _).1
theorem mn_mono {x y : Int} (h : x ≤ y) : mn (x + 1) 15 ≤ mn (y + 1) 15 := by unfold mn; split <;> split <;> omega
theorem mn_bd1 {x : Int} (h : 0 ≤ x ∧ x ≤ 15) : 0 ≤ mn (x + 1) 15 ∧ mn (x + 1) 15 ≤ 15 := by unfold mn; split <;> omega
/-- The key was counted before. -/
theorem J.yes (hj : J w l cs) (hw : 1 ≤ w) (hl : l.length = 4 * w) (hc : Cs l) {k : Nat} (hk : k < cs.length) (he : (cat cs k).k = key) : J w (adL w l key) (cs.set k ⟨key, mn ((cat cs k).c + 1) 15⟩) := by
  have hkey : ∀ j, (cat (cs.set k ⟨key, mn ((cat cs k).c + 1) 15⟩) j).k = (cat cs j).k := fun j => by
    by_cases h : k = j
    · subst h; rw [cat_set_eq hk]; exact he.symm
    · rw [cat_set_ne h]
  refine ⟨fun x h r hr => ?_, fun i hi h r hr => ?_, fun i hi => ?_, fun i hi => ?_, fun i hi => ?_⟩
  · simp only [List.length_set, hkey] at h
    rw [adL_other hw (by rw [← he]; exact h k hk) hr]
    exact hj.j0 x h r hr
  · simp only [List.length_set] at hi h
    simp only [hkey] at h ⊢
    have h1 := hj.j1 i hi h
    by_cases e : k = i
    · subst e
      rw [cat_set_eq hk]
      rw [he] at h1 ⊢
      exact adL_same hw hl (hj.jc k hk).2 h1 hr
    · rw [cat_set_ne e, adL_other hw (by rw [← he]; exact h k hk e) hr]
      exact h1 r hr
  · simp only [List.length_set] at hi
    rw [hkey]
    by_cases e : k = i
    · subst e
      have h2 := hj.j2 k hk
      rw [cat_set_eq hk]
      rw [he] at h2 ⊢
      rw [adL_lea hw hl hc]; exact mn_mono h2
    · rw [cat_set_ne e]
      exact Int.le_trans (hj.j2 i hi) (adL_mono hw hl _)
  · simp only [List.length_set] at hi
    by_cases e : k = i
    · subst e; rw [cat_set_eq hk]; exact mn_bd1 (hj.jc k hk)
    · rw [cat_set_ne e]; exact hj.jc i hi
  · simp only [List.length_set] at hi
    rw [hkey]; exact hj.jk i hi
/-- The key is new. -/
theorem J.no (hj : J w l cs) (hw : 1 ≤ w) (hl : l.length = 4 * w) (hc : Cs l) (hk : key.length ≤ 100) : J w (adL w l key) (cs ++ [⟨key, 1⟩]) := by
  refine ⟨fun x h r hr => ?_, fun i hi h r hr => ?_, fun i hi => ?_, fun i hi => ?_, fun i hi => ?_⟩
  · simp only [List.length_append, List.length_singleton] at h
    have h1 := h cs.length (by omega)
    rw [cat_app_eq] at h1
    rw [adL_other hw h1 hr]
    exact hj.j0 x (fun j hj => by have := h j (by omega); rwa [cat_app_lt hj] at this) r hr
  · simp only [List.length_append, List.length_singleton] at hi h
    by_cases e : i < cs.length
    · rw [cat_app_lt e] at h ⊢
      have h1 := h cs.length (by omega) (by omega)
      rw [cat_app_eq] at h1
      rw [adL_other hw h1 hr]
      exact hj.j1 i e (fun j hj hne => by have := h j (by omega) hne; rwa [cat_app_lt hj] at this) r hr
    · obtain rfl : i = cs.length := by omega
      rw [cat_app_eq] at h ⊢
      have h1 := hj.j0 key fun j hj => by have := h j (by omega) (by omega); rwa [cat_app_lt hj] at this
      rw [adL_same hw hl (by omega) h1 hr]; rfl
  · simp only [List.length_append, List.length_singleton] at hi
    by_cases e : i < cs.length
    · rw [cat_app_lt e]; exact Int.le_trans (hj.j2 i e) (adL_mono hw hl _)
    · obtain rfl : i = cs.length := by omega
      rw [cat_app_eq, adL_lea hw hl hc]
      have hb := lea_bd hc (fun i hi => by rw [hl]; exact pl_lt (key := key) hw hi) 4 (Nat.le_refl 4)
      have := mn_mono hb.1
      exact this
  · simp only [List.length_append, List.length_singleton] at hi
    by_cases e : i < cs.length
    · rw [cat_app_lt e]; exact hj.jc i e
    · obtain rfl : i = cs.length := by omega
      rw [cat_app_eq]; simp
  · simp only [List.length_append, List.length_singleton] at hi
    by_cases e : i < cs.length
    · rw [cat_app_lt e]; exact hj.jk i e
    · obtain rfl : i = cs.length := by omega
      rw [cat_app_eq]; exact hk
/-- The numbers, halved. -/
def hfc (l : List Ct) : List Ct := l.map fun x => ⟨x.k, x.c / 2⟩
theorem hfc_len (l : List Ct) : (hfc l).length = l.length := by simp [hfc]
theorem hfc_at {l : List Ct} {i : Nat} (h : i < l.length) : cat (hfc l) i = ⟨(cat l i).k, (cat l i).c / 2⟩ := by simp [hfc, cat, h]
theorem J.half (hj : J w l cs) (hw : 1 ≤ w) (hl : l.length = 4 * w) (hc : Cs l) : J w (hlf l l.length) (hfc cs) := by
  have hp : ∀ (x : List UInt8) i, i < 4 → pl x w i < l.length := fun x i hi => by rw [hl]; exact pl_lt hw hi
  refine ⟨fun x h r hr => ?_, fun i hi h r hr => ?_, fun i hi => ?_, fun i hi => ?_, fun i hi => ?_⟩
  · simp only [hfc_len] at h
    rw [nat_hlf (hp x r hr), hj.j0 x (fun j hj => by have := h j hj; rwa [hfc_at hj] at this) r hr]; rfl
  · simp only [hfc_len] at hi h
    rw [hfc_at hi] at h ⊢
    rw [nat_hlf (hp _ r hr), hj.j1 i hi (fun j hj hne => by have := h j hj hne; rwa [hfc_at hj] at this) r hr]
  · simp only [hfc_len] at hi
    rw [hfc_at hi]
    have h1 := hj.j2 i hi
    have h2 := lea_half (A := l) (H := hlf l l.length) (q := pl (cat cs i).k w) (k := 4) (by omega) fun r hr => ⟨(hc _ (hp _ r hr)).1, (hc _ (hp _ r hr)).2, nat_hlf (hp _ r hr)⟩
    simp only
    rw [h2]
    generalize lea l (pl (cat cs i).k w) 4 = c at *
    omega
  · simp only [hfc_len] at hi
    rw [hfc_at hi]; have := hj.jc i hi; simp only; omega
  · simp only [hfc_len] at hi
    rw [hfc_at hi]; exact hj.jk i hi
end
end Go.Proofs.S08
namespace Go.Proofs.S08
open Go Go.Ev Go.Proofs
set_option linter.unusedSimpArgs false
set_option linter.unusedVariables false
section
variable {gl : Gl} {n : Nat} [Nonempty (H.GlR gl)]
def L18 : MC := match m18 with | .seq _ (.seq (.seq _ (.block _ (.loop _ b))) _) => b | _ => .skip
def S18 (x y : List UInt8) (w r : Nat) : St := ⟨[.set 7 (i64 r), .set 2 (i64 w), .set 1 (.str y), .set 0 (.str x)], []⟩
theorem shared_at (h : 9 ≤ n) {x y : List UInt8} (hx : x.length ≤ 1000) (hy : y.length ≤ 1000) {w : Nat} (hw : 1 ≤ w ∧ w ≤ 4096) :
    ∃ b : Bool, (b = true ↔ Shd w x y) ∧ call gl tab n 18 [.str x, .str y, i64 w] [] = some (.bool b, [], []) := by
  obtain ⟨d, rfl⟩ := Nat.exists_eq_add_of_le' h
  have hs : ∀ r, r < 4 → plc x r % w ≠ plc y r % w → contK [.slot 0, .slot 1, .slot 2, .slot 7] (evC gl (call gl tab (d + 8)) L18 (S18 x y w r)) = some (S18 x y w (r + 1)) := fun r hr hp => by
    have c1 := @rplace_at gl (d + 8) _ (by omega) x hx r w hr hw
    have c2 := @rplace_at gl (d + 8) _ (by omega) y hy r w hr hw
    have hb : (((plc x r % w : Nat) : Int) == ((plc y r % w : Nat) : Int)) = false := by rw [beq_eq_false_iff_ne]; omega
    generalize plc x r % w = u at *
    generalize plc y r % w = v at *
    simp (disch := ((fail_if_success (intro _)); omega)) only [go_sem, simprocAttr, ↓reduceIte, ↓Nat.reduceEqDiff, xx, L18, m18, S18, c1, c2, hb]
  have hf : ∀ r, r < 4 → ¬ plc x r % w ≠ plc y r % w → out1 6 (evC gl (call gl tab (d + 8)) L18 (S18 x y w r)) = some (.ret, .bool true) := fun r hr hp => by
    have c1 := @rplace_at gl (d + 8) _ (by omega) x hx r w hr hw
    have c2 := @rplace_at gl (d + 8) _ (by omega) y hy r w hr hw
    have hb : (((plc x r % w : Nat) : Int) == ((plc y r % w : Nat) : Int)) = true := by rw [beq_iff_eq]; omega
    generalize plc x r % w = u at *
    generalize plc y r % w = v at *
    simp (disch := ((fail_if_success (intro _)); omega)) only [go_sem, simprocAttr, ↓reduceIte, ↓Nat.reduceEqDiff, xx, L18, m18, S18, c1, c2, hb]
  rw [call_go (fd := fd18) rfl]
  rcases first_fail (fun r => plc x r % w ≠ plc y r % w) 4 with ha | ⟨k, hk, hb', he⟩
  · refine ⟨false, ⟨(fun h => by cases h), fun ⟨r, hr, e⟩ => absurd e (ha r hr)⟩, ?_⟩
    have hs2 := fun i hi => hs i hi (ha i hi)
    simp only [L18, m18] at hs2
    simp (disch := ((fail_if_success (intro _)); omega)) only [go_sem, simprocAttr, ↓reduceIte, ↓Nat.reduceEqDiff, xx, fd18, m18]
    rw [iter_to (S18 x y w) 4 (by unfold LF; omega)]
    · simp (disch := ((fail_if_success (intro _)); omega)) only [go_sem, simprocAttr, ↓reduceIte, ↓Nat.reduceEqDiff, xx, S18]
    · simp (disch := ((fail_if_success (intro _)); omega)) only [go_sem, simprocAttr, ↓reduceIte, ↓Nat.reduceEqDiff, xx, S18]
    · exact hs2
    · simp (disch := ((fail_if_success (intro _)); omega)) only [go_sem, simprocAttr, ↓reduceIte, ↓Nat.reduceEqDiff, xx, S18]
  · obtain ⟨st, hst, hg⟩ := out1_get (hf k hk he)
    have hs2 := fun i (hi : i < k) => hs i (by omega) (hb' i hi)
    simp only [L18, m18] at hs2 hst
    refine ⟨true, ⟨fun _ => ⟨k, hk, Classical.not_not.1 he⟩, fun _ => rfl⟩, ?_⟩
    simp (disch := ((fail_if_success (intro _)); omega)) only [go_sem, simprocAttr, ↓reduceIte, ↓Nat.reduceEqDiff, xx, fd18, m18]
    rw [iter_to (S18 x y w) k (by unfold LF; omega), hst]
    · simp (disch := ((fail_if_success (intro _)); omega)) only [go_sem, simprocAttr, ↓reduceIte, ↓Nat.reduceEqDiff, xx, hg]
    · simp (disch := ((fail_if_success (intro _)); omega)) only [go_sem, simprocAttr, ↓reduceIte, ↓Nat.reduceEqDiff, xx, S18]
    · exact hs2
    · rw [hst]; rfl
end
section
variable {gl : Gl} {n : Nat}
/-- The first numbers, halved. -/
def hfp (l : List Ct) (i : Nat) : List Ct := (hfc l).take i ++ l.drop i
theorem hfp_len (l : List Ct) (i : Nat) : (hfp l i).length = l.length := by simp [hfp, hfc_len]; omega
theorem hfp_0 (l : List Ct) : hfp l 0 = l := by simp [hfp]
theorem hfp_all (l : List Ct) : hfp l l.length = hfc l := by
  have h : l.length = (hfc l).length := (hfc_len l).symm
  rw [hfp, List.drop_length, List.append_nil, h, List.take_length]
theorem hfp_at {l : List Ct} {i : Nat} (h : i < l.length) : cat (hfp l i) i = cat l i := by
  have h1 : ((hfc l).take i).length = i := by simp [hfc_len]; omega
  simp only [cat, List.getD_eq_getElem?_getD, hfp]
  rw [List.getElem?_append_right (by omega), h1, Nat.sub_self, List.getElem?_drop, Nat.add_zero]
theorem hfp_s {l : List Ct} {i : Nat} (h : i < l.length) : (hfp l i).set i ⟨(cat l i).k, (cat l i).c / 2⟩ = hfp l (i + 1) := by
  have h1 : ((hfc l).take i).length = i := by simp [hfc_len]; omega
  have h2 : l.drop i = l[i] :: l.drop (i + 1) := List.drop_eq_getElem_cons h
  have h3 : (hfc l).take (i + 1) = (hfc l).take i ++ [⟨(cat l i).k, (cat l i).c / 2⟩] := by
    rw [List.take_add_one, List.getElem?_eq_getElem (by rw [hfc_len]; exact h)]
    simp [hfc, cat, h]
  rw [hfp, List.set_append_right _ _ (by omega), h1, Nat.sub_self, h2, List.set_cons_zero, hfp, h3, List.append_assoc]; rfl
def L4b : MC := match m4 with | .seq _ (.seq _ (.seq _ (.seq _ (.seq _ (.seq (.seq _ (.block _ (.loop _ (.seq _ (.seq (.block _ (.seq _ (.seq _ (.seq _ (.seq (.seq _ (.cond _ (.seq _ (.block _ (.loop _ b))) _)) _))))) _))))) _))))) => b | _ => .skip
abbrev k4b : List Kp := [.slot 2, .slot 8, .own 10 5010 (.st [.sc, .sc]), .slot 11, .slot 13, .key 8]
def S4b (keys : List (List UInt8)) (w s a : Int) (l0 : List Int) (l : List Ct) (k i : Nat) : St := ⟨[.set 13 (i64 i), .set 11 (i64 k), .set 10 (.sl 5010 [] 0 l.length), .set 8 (.ptr 8 []), .set 2 (.lst false .sc (ks keys))], [(8, .fix sK (sk w s a l0)), (5010, .grow sC (ct l))]⟩
theorem step4b {keys : List (List UInt8)} {w s a : Int} {l0 : List Int} {l : List Ct} (hl : l.length ≤ 1000) {k i : Nat} (hi : i < l.length) (hc : 0 ≤ (cat l i).c ∧ (cat l i).c ≤ 15) :
    contK k4b (evC gl (call gl tab n) L4b (S4b keys w s a l0 (hfp l i) k i)) = some (S4b keys w s a l0 (hfp l (i + 1)) k (i + 1)) := by
  have hll := hfp_len l i
  have hx := ct_at (l := hfp l i) (show i < (hfp l i).length by omega)
  rw [hfp_at hi] at hx
  have hset := ct_set (hfp l i) i ⟨(cat l i).k, (cat l i).c / 2⟩
  rw [hfp_s hi] at hset
  have hq := quo2 hc.1
  have hq2 : IntKind.wrap .i64 ((cat l i).c / 2) = (cat l i).c / 2 := wrap_i64 (by omega) (by omega)
  have hqq : binInt .quo .i64 (cat l i).c 2 = some (.int .i64 ((cat l i).c / 2)) := by
    show (if (2 : Int) = 0 then none else some (AV.int .i64 (IntKind.wrap .i64 ((cat l i).c.tdiv 2)))) = _
    rw [if_neg (by decide), hq, hq2]
  have hl2 := hfp_len l (i + 1)
  generalize hfp l (i + 1) = M2 at *
  generalize hfp l i = M at *
  rw [S4b, S4b]
  simp (disch := ((fail_if_success (intro _)); omega)) only [go_sem, simprocAttr, ↓reduceIte, ↓Nat.reduceEqDiff, xx, L4b, m4, ct_length, hx, hqq, hset, hll, hl2]
end
section
variable {gl : Gl} {n : Nat} [Nonempty (H.GlK gl)]
def L4c : MC := match m4 with | .seq _ (.seq _ (.seq _ (.seq _ (.seq _ (.seq (.seq _ (.block _ (.loop _ (.seq _ (.seq (.block _ (.seq _ (.seq _ (.seq _ (.seq _ (.seq _ (.block _ (.loop _ b)))))))) _))))) _))))) => b | _ => .skip
abbrev k4c : List Kp := [.slot 2, .slot 8, .own 10 5010 (.st [.sc, .sc]), .slot 11, .slot 14, .key 8]
def S4c (keys : List (List UInt8)) (w s a : Int) (l0 : List Int) (l : List Ct) (k i : Nat) : St := ⟨[.set 14 (i64 i), .set 11 (i64 k), .set 10 (.sl 5010 [] 0 l.length), .set 8 (.ptr 8 []), .set 2 (.lst false .sc (ks keys))], [(8, .fix sK (sk w s a l0)), (5010, .grow sC (ct l))]⟩
theorem step4c (h : 10 ≤ n) {keys : List (List UInt8)} {w : Nat} (hw : 1 ≤ w ∧ w ≤ 4096) {s a : Int} {l0 : List Int} (hl0 : l0.length = 4 * w) {l : List Ct} (hl : l.length ≤ 1000) (hj : J w l0 l) {k i : Nat} (hi : i < l.length) :
    contK k4c (evC gl (call gl tab n) L4c (S4c keys w s a l0 l k i)) = some (S4c keys w s a l0 l k (i + 1)) := by
  have hx := ct_at hi
  have hk := hj.jk i hi
  have c17 := @count_at gl n _ h (cat l i).k (by omega) w hw s a false l0 hl0
  have hle := hj.j2 i hi
  generalize lea l0 (pl (cat l i).k w) 4 = c at *
  rw [S4c, S4c]
  simp (implicitDefEqProofs := false) (disch := ((fail_if_success (intro _)); omega)) only [go_sem, simprocAttr, ↓reduceIte, ↓Nat.reduceEqDiff, xx, L4c, m4, ct_length, hx, c17]
end
section
variable {gl : Gl} {n : Nat} [Nonempty (H.GlK gl)] [Nonempty (H.GlR gl)]
def L4d : MC := match m4 with | .seq _ (.seq _ (.seq _ (.seq _ (.seq _ (.seq _ (.seq (.seq _ (.block _ (.loop _ b))) _)))))) => b | _ => .skip
def L4e : MC := match m4 with | .seq _ (.seq _ (.seq _ (.seq _ (.seq _ (.seq _ (.seq (.seq _ (.block _ (.loop _ (.seq _ (.seq (.block _ (.seq _ (.seq (.seq _ (.block _ (.loop _ b))) _))) _))))) _)))))) => b | _ => .skip
abbrev k4d : List Kp := [.slot 8, .own 10 5010 (.st [.sc, .sc]), .slot 15, .key 8]
abbrev k4e : List Kp := [.slot 8, .own 10 5010 (.st [.sc, .sc]), .slot 15, .slot 16, .slot 17, .key 8]
def S4d (w s a : Int) (l0 : List Int) (l : List Ct) (i : Nat) : St := ⟨[.set 15 (i64 i), .set 10 (.sl 5010 [] 0 l.length), .set 8 (.ptr 8 [])], [(8, .fix sK (sk w s a l0)), (5010, .grow sC (ct l))]⟩
def S4e (w s a : Int) (l0 : List Int) (l : List Ct) (i : Nat) (b : Bool) (j : Nat) : St := ⟨[.set 17 (i64 j), .set 16 (.bool b), .set 15 (i64 i), .set 10 (.sl 5010 [] 0 l.length), .set 8 (.ptr 8 [])], [(8, .fix sK (sk w s a l0)), (5010, .grow sC (ct l))]⟩
/-- Whether a key has its cells for itself among the first. -/
def Al (w : Nat) (l : List Ct) (i j : Nat) : Prop := ∀ t, t < j → t ≠ i → ¬ Shd w (cat l i).k (cat l t).k
theorem step4e (h : 10 ≤ n) {w : Nat} (hw : 1 ≤ w ∧ w ≤ 4096) {s a : Int} {l0 : List Int} {l : List Ct} (hl : l.length ≤ 1000) (hk : ∀ i, i < l.length → (cat l i).k.length ≤ 100) {i j : Nat} (hi : i < l.length) (hj : j < l.length) {b : Bool} (hb : b = true ↔ Al w l i j) :
    ∃ b', (b' = true ↔ Al w l i (j + 1)) ∧ contK k4e (evC gl (call gl tab n) L4e (S4e w s a l0 l i b j)) = some (S4e w s a l0 l i b' (j + 1)) := by
  have hx := ct_at hi
  have hy := ct_at hj
  have hki := hk i hi
  have hkj := hk j hj
  obtain ⟨bs, hbs, c18⟩ := @shared_at gl n _ (by omega) (cat l i).k (cat l j).k (by omega) (by omega) w hw
  cases b with
  | false =>
    refine ⟨false, ⟨(fun h => by cases h), fun h => by have := hb.2 (fun t ht => h t (by omega)); cases this⟩, ?_⟩
    rw [S4e, S4e]
    simp (implicitDefEqProofs := false) (disch := ((fail_if_success (intro _)); omega)) only [go_sem, simprocAttr, ↓reduceIte, ↓Nat.reduceEqDiff, xx, L4e, m4, ct_length]
  | true =>
    have ha := hb.1 rfl
    by_cases hij : j = i
    · subst hij
      refine ⟨true, ⟨fun _ t ht hne => ha t (by omega) hne, fun _ => rfl⟩, ?_⟩
      rw [S4e, S4e]
      simp (implicitDefEqProofs := false) (disch := ((fail_if_success (intro _)); omega)) only [go_sem, simprocAttr, ↓reduceIte, ↓Nat.reduceEqDiff, xx, L4e, m4, ct_length, beq_self_eq_true]
    · have hne : ((j : Int) == (i : Int)) = false := by rw [beq_eq_false_iff_ne]; omega
      refine ⟨!bs, ?_, ?_⟩
      · constructor
        · intro h t ht hn
          by_cases e : t = j
          · subst e; intro hsh; rw [hbs.2 hsh] at h; cases h
          · exact ha t (by omega) hn
        · intro h
          cases bs with
          | false => rfl
          | true => exact absurd (hbs.1 rfl) (h j (by omega) hij)
      · rw [S4e, S4e]
        simp (implicitDefEqProofs := false) (disch := ((fail_if_success (intro _)); omega)) only [go_sem, simprocAttr, ↓reduceIte, ↓Nat.reduceEqDiff, xx, L4e, m4, ct_length, hx, hy, hne, c18]
set_option maxHeartbeats 1000000 in
theorem step4d (h : 10 ≤ n) {w : Nat} (hw : 1 ≤ w ∧ w ≤ 4096) {s a : Int} {l0 : List Int} (hl0 : l0.length = 4 * w) {l : List Ct} (hl : l.length ≤ 1000) (hj : J w l0 l) {i : Nat} (hi : i < l.length) :
    contK k4d (evC gl (call gl tab n) L4d (S4d w s a l0 l i)) = some (S4d w s a l0 l (i + 1)) := by
  have hx := ct_at hi
  have hk := hj.jk i hi
  have c17 := @count_at gl n _ h (cat l i).k (by omega) w hw s a false l0 hl0
  obtain ⟨st, ⟨b, hb, rfl⟩, hit⟩ := iter_inv (f := evC gl (call gl tab n) L4e) (ks := k4e) (s0 := S4e w s a l0 l i true 0) (fun j st => ∃ b, (b = true ↔ Al w l i j) ∧ st = S4e w s a l0 l i b j) l.length (by unfold LF; omega)
    ⟨true, ⟨fun _ t ht => absurd ht (Nat.not_lt_zero _), fun _ => rfl⟩, rfl⟩
    (fun j st hj2 ⟨b, hb, he⟩ => by
      subst he
      obtain ⟨b', h1, h2⟩ := @step4e gl n _ _ h w hw s a l0 l hl hj.jk i j hi hj2 b hb
      exact ⟨_, h2, b', h1, rfl⟩)
    (fun st ⟨b, hb, he⟩ => by
      subst he
      rw [S4e]
      simp (disch := ((fail_if_success (intro _)); omega)) only [go_sem, simprocAttr, ↓reduceIte, ↓Nat.reduceEqDiff, xx, L4e, m4, ct_length])
  simp only [L4e, m4] at hit
  rw [S4d, S4d]
  have hlen : l.length ≤ 1000 := hl
  cases b with
  | false =>
    simp (disch := ((fail_if_success (intro _)); omega)) only [go_sem, simprocAttr, ↓reduceIte, ↓Nat.reduceEqDiff, xx, L4d, m4, ct_length]
    rw [hit _ (by rw [S4e]; simp (disch := ((fail_if_success (intro _)); omega)) only [go_sem, simprocAttr, ↓reduceIte, ↓Nat.reduceEqDiff, xx, ct_length])]
    rw [S4e]
    simp (implicitDefEqProofs := false) (disch := ((fail_if_success (intro _)); omega)) only [go_sem, simprocAttr, ↓reduceIte, ↓Nat.reduceEqDiff, xx, ct_length]
  | true =>
    have h1 := hj.j1 i hi fun t ht hne => (hb.1 rfl) t ht hne
    have he := lea_all (hj.jc i hi).2 h1
    rw [he] at c17
    have hne : ((cat l i).c != (cat l i).c) = false := by simp
    simp (disch := ((fail_if_success (intro _)); omega)) only [go_sem, simprocAttr, ↓reduceIte, ↓Nat.reduceEqDiff, xx, L4d, m4, ct_length]
    rw [hit _ (by rw [S4e]; simp (disch := ((fail_if_success (intro _)); omega)) only [go_sem, simprocAttr, ↓reduceIte, ↓Nat.reduceEqDiff, xx, ct_length])]
    rw [S4e]
    simp (implicitDefEqProofs := false) (disch := ((fail_if_success (intro _)); omega)) only [go_sem, simprocAttr, ↓reduceIte, ↓Nat.reduceEqDiff, xx, ct_length, hx, c17, hne]
end
end Go.Proofs.S08
