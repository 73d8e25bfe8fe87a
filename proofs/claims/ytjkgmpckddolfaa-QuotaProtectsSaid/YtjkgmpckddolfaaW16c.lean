/-
  Chapter 16: fair divisions. No condition.
-/
import Derived.Test.YtjkgmpckddolfaaW16b
set_option linter.unusedVariables false
set_option linter.unusedSimpArgs false
set_option linter.unusedSectionVars false
namespace Go.Proofs.S16
open Go Go.Ev Go.Proofs
set_option linter.unusedSimpArgs false
set_option linter.unusedVariables false
variable {gl : Gl} {n : Nat}
theorem level_at (h : 6 ≤ n) {f : Bool} {m : Sh} {l : List S2} (hm : Mk l m sS) (hv : VS l) {c : Int} (hc : 0 ≤ c ∧ c ≤ 1099511627776) {q : Int} (hq : Lv l c q) : call gl tab n 13 [i64 c, .lst f m (sh l)] [] = some (i64 q, [], []) := by
  obtain ⟨d, rfl⟩ := Nat.exists_eq_add_of_le' h
  obtain ⟨q', hq', c34⟩ := @last_at gl (d + 5) (by omega) f m l hm hv c hc
  obtain rfl := lv_uniq hv hq' hq
  rw [call_go (fd := fd13) rfl]
  simp (disch := ((fail_if_success (intro _)); omega)) only [go_sem, simprocAttr, ↓reduceIte, xx, fd13, m13, c34]
theorem lv_exists {l : List S2} (hv : VS l) {c : Int} (hc : 0 ≤ c ∧ c ≤ 1099511627776) : ∃ q, Lv l c q := by
  obtain ⟨q, hq, _⟩ := @last_at glS 4 (by omega) false sS l (.inr rfl) hv c hc
  exact ⟨q, hq⟩
def L14 : MC := match m14 with | .seq _ (.seq _ (.seq _ (.seq (.block _ (.loop _ b)) _))) => b | _ => .skip
def S14 (f : Bool) (m : Sh) (l : List S2) (c : Int) (a : Int × Int) : St := ⟨[.set 6 (i64 a.2), .set 5 (i64 a.1), .set 1 (.lst f m (sh l)), .set 0 (i64 c)], []⟩
theorem rlevel_at (h : 4 ≤ n) {f : Bool} {m : Sh} {l : List S2} (hm : Mk l m sS) (hv : VS l) {c : Int} (hc : 0 ≤ c ∧ c ≤ 1099511627776) {q : Int} (hq : Lv l c q) : call gl tab n 14 [i64 c, .lst f m (sh l)] [] = some (i64 q, [], []) := by
  obtain ⟨d, rfl⟩ := Nat.exists_eq_add_of_le' h
  obtain ⟨a, hI, hg, hit⟩ := iter_meas (f := evC gl (call gl tab (d + 3)) L14) (ks := [.slot 0, .slot 1, .slot 5, .slot 6]) (S14 f m l c) (Bs l c) (fun a => (a.2 - a.1).toNat) (bsN l c) (fun a => decide (1 < a.2 - a.1)) (a0 := (0, 1099511627777)) (by unfold LF; simp) (bs_0 hv hc.1)
    (fun a hI hg => by
      simp only [decide_eq_true_eq] at hg
      obtain ⟨h1, h2⟩ := bs_next hI hg
      refine ⟨?_, h1, h2⟩
      obtain ⟨k1, k2, k3, _, _⟩ := hI
      have hq2 := quo2 (show 0 ≤ a.1 + a.2 by omega)
      have hmid : (a.1 + a.2) / 2 = mid a := by unfold mid; omega
      have hm1 : 0 ≤ mid a ∧ mid a ≤ 1099511627777 := by rw [← hmid]; omega
      have c37 := @rall_at gl (d + 3) (by omega) f m l hm hv (mid a) hm1
      by_cases hd : allF l (mid a) l.length ≤ c
      · have e : bsN l c a = (mid a, a.2) := if_pos hd
        rw [e]
        simp (disch := ((fail_if_success (intro _)); omega)) only [go_sem, simprocAttr, ↓reduceIte, xx, L14, m14, S14, binInt, hq2, hmid, c37]
      · have e : bsN l c a = (a.1, mid a) := if_neg hd
        rw [e]
        simp (disch := ((fail_if_success (intro _)); omega)) only [go_sem, simprocAttr, ↓reduceIte, xx, L14, m14, S14, binInt, hq2, hmid, c37])
    (fun a hI hg => by
      simp only [decide_eq_false_iff_not] at hg
      obtain ⟨k1, k2, k3, _, _⟩ := hI
      simp (disch := ((fail_if_success (intro _)); omega)) only [go_sem, simprocAttr, ↓reduceIte, xx, L14, m14, S14])
  simp only [decide_eq_false_iff_not] at hg
  obtain rfl := lv_uniq hv (bs_end hI hg) hq
  obtain ⟨k1, k2, k3, _, _⟩ := hI
  simp only [L14, m14] at hit
  rw [call_go (fd := fd14) rfl]
  simp (disch := ((fail_if_success (intro _)); omega)) only [go_sem, simprocAttr, ↓reduceIte, xx, fd14, m14]
  rw [hit _ (by simp (disch := ((fail_if_success (intro _)); omega)) only [go_sem, simprocAttr, ↓reduceIte, xx, S14])]
  simp (disch := ((fail_if_success (intro _)); omega)) only [go_sem, simprocAttr, ↓reduceIte, xx, S14]
/-! ### The division -/
def mor (s : S2) (m lf : Int) : Int := mn (mn lf s.w) (s.x - at1 s m)
theorem mor_alt (s : S2) (m lf : Int) : mor s m lf = mn lf (mn s.w (s.x - at1 s m)) := by
  unfold mor mn; repeat' split
  all_goals omega
def lef (l : List S2) (m c : Int) : Nat → Int
  | 0 => c - allF l m l.length
  | i + 1 => lef l m c i - mor (sat l i) m (lef l m c i)
def get1 (l : List S2) (m c : Int) (i : Nat) : Int := at1 (sat l i) m + mor (sat l i) m (lef l m c i)
def gets (l : List S2) (m c : Int) : Nat → List Int
  | 0 => []
  | i + 1 => gets l m c i ++ [get1 l m c i]
theorem gets_length (l : List S2) (m c : Int) : ∀ i, (gets l m c i).length = i
  | 0 => rfl
  | i + 1 => by rw [gets, List.length_append, gets_length l m c i]; rfl
theorem gets_at (l : List S2) (m c : Int) : ∀ {i j : Nat}, j < i → nat (gets l m c i) j = get1 l m c j
  | i + 1, j, h => by
    rw [gets, nat, List.getD_eq_getElem?_getD]
    by_cases hj : j < i
    · rw [List.getElem?_append_left (by rw [gets_length]; exact hj), ← List.getD_eq_getElem?_getD]; exact gets_at l m c hj
    · have e : j = i := by omega
      subst e
      rw [List.getElem?_append_right (by rw [gets_length]; exact Nat.le_refl _), gets_length, Nat.sub_self]; rfl
theorem mor_bd {s : S2} (h : SOk s) {m lf : Int} (hm : 0 ≤ m ∧ m ≤ 1099511627777) (hl : 0 ≤ lf) : 0 ≤ mor s m lf ∧ mor s m lf ≤ lf ∧ mor s m lf ≤ s.w ∧ mor s m lf ≤ s.x - at1 s m := by
  have h1 := at1_bd h hm
  have h2 := h.w
  unfold mor mn; repeat' split
  all_goals omega
theorem lef_bd {l : List S2} (hv : VS l) {c m : Int} (h : Lv l c m) : ∀ {i : Nat}, i ≤ l.length → 0 ≤ lef l m c i ∧ lef l m c i ≤ c
  | 0, _ => by
    have h1 := h.le; have h2 := h.lo; have h3 := h.hi
    have := all_bd2 hv (show 0 ≤ m ∧ m ≤ 1099511627777 by omega) (Nat.le_refl _)
    rw [lef]; omega
  | i + 1, hi => by
    have h1 := lef_bd hv h (show i ≤ l.length by omega)
    have := mor_bd (hv.ok i (by omega)) (show 0 ≤ m ∧ m ≤ 1099511627777 by have := h.lo; have := h.hi; omega) h1.1
    rw [lef]; omega
def buf (l : List S2) (m c : Int) (i : Nat) : List Int := gets l m c i ++ List.replicate (l.length - i) 0
theorem buf_length {l : List S2} {m c : Int} {i : Nat} (h : i ≤ l.length) : (buf l m c i).length = l.length := by rw [buf, List.length_append, gets_length, List.length_replicate]; omega
theorem buf_set {l : List S2} {m c : Int} {i : Nat} (h : i < l.length) : (buf l m c i).set i (get1 l m c i) = buf l m c (i + 1) := by
  rw [buf, buf, gets, List.set_append_right _ _ (by rw [gets_length]; exact Nat.le_refl _), gets_length, Nat.sub_self]
  obtain ⟨k, hk⟩ : ∃ k, l.length - i = k + 1 := ⟨l.length - i - 1, by omega⟩
  rw [hk, show l.length - (i + 1) = k by omega, List.replicate_succ, List.set_cons_zero, List.append_assoc]; rfl
theorem buf_end (l : List S2) (m c : Int) : buf l m c l.length = gets l m c l.length := by rw [buf, Nat.sub_self]; exact List.append_nil _
theorem ns_set (l : List Int) (i : Nat) (v : Int) : (ns l).set i (i64 v) = ns (l.set i v) := by simp [ns]
theorem ns_rep (k : Nat) : List.replicate k (AV.int .i64 0) = ns (List.replicate k 0) := by simp [ns]
def L16 : MC := match m16 with | .seq _ (.seq _ (.seq _ (.seq _ (.seq (.seq _ (.block _ (.loop _ b))) _)))) => b | _ => .skip
def S16 (f : Bool) (k : Sh) (l : List S2) (m c : Int) (i : Nat) : St :=
  ⟨[.set 25 (i64 i), .set 24 (i64 l.length), .set 23 (.lst f k (sh l)), .set 7 (.sl 22 [] 0 l.length), .set 6 (i64 (lef l m c i)), .set 5 (i64 m)], [(22, .grow .sc (ns (buf l m c i)))]⟩
theorem fair_at (h : 8 ≤ n) {f : Bool} {k : Sh} {l : List S2} (hm : Mk l k sS) (hv : VS l) {c : Int} (hc : 0 ≤ c ∧ c ≤ 1099511627776) {m : Int} (hq : Lv l c m) :
    call gl tab n 16 [i64 c, .lst f k (sh l)] [] = some (.sl 20000 [] 0 l.length, [], [.grow .sc (ns (gets l m c l.length))]) := by
  obtain ⟨d, rfl⟩ := Nat.exists_eq_add_of_le' h
  have hn := hv.n
  have h0 := hq.lo; have h00 := hq.hi
  have hmb : 0 ≤ m ∧ m ≤ 1099511627777 := by omega
  have c13 := @level_at gl (d + 7) (by omega) f k l hm hv c hc m hq
  have c36 := @all_at gl (d + 7) (by omega) f k l hm hv m hmb
  have hab := all_bd2 hv hmb (Nat.le_refl _)
  have hs : ∀ i, i < l.length → contK [.slot 5, .slot 6, .slot 7, .slot 23, .slot 24, .slot 25, .key 22] (evC gl (call gl tab (d + 7)) L16 (S16 f k l m c i)) = some (S16 f k l m c (i + 1)) := fun i hi => by
    have hx := sh_at hi
    obtain rfl := hm.eq hi
    have h1 := mul_bd (hv.ok i hi) hmb
    have h2 := at1_bd (hv.ok i hi) hmb
    have h3 := lef_bd hv hq (show i ≤ l.length by omega)
    have h5 := mor_bd (hv.ok i hi) hmb h3.1
    have h4 := (hv.ok i hi).x
    have hb := @buf_length l m c i (by omega)
    have hg : i < (buf l m c i).length := by omega
    have hnx := ns_at hg
    have hst := @buf_set l m c i hi
    have e1 : (if (sat l i).x < (sat l i).w * m then (sat l i).x else (sat l i).w * m) = at1 (sat l i) m := rfl
    have e2 : (if (sat l i).x - at1 (sat l i) m < (if (sat l i).w < lef l m c i then (sat l i).w else lef l m c i) then (sat l i).x - at1 (sat l i) m else (if (sat l i).w < lef l m c i then (sat l i).w else lef l m c i)) = mor (sat l i) m (lef l m c i) := rfl
    have e3 : at1 (sat l i) m + mor (sat l i) m (lef l m c i) = get1 l m c i := rfl
    have e4 : lef l m c i - mor (sat l i) m (lef l m c i) = lef l m c (i + 1) := rfl
    simp (disch := ((fail_if_success (intro _)); omega)) only [go_sem, simprocAttr, ↓reduceIte, xx, L16, m16, S16, sh_length, hx, foldO, minAV, gt_iff_lt, e1, e2, e3, e4, hb, ns_length, hnx, ns_set, hst]
  simp only [L16, m16] at hs
  have hlim : l.length ≤ LIM := by unfold LIM; omega
  have hlim2 : (l.length : Int) ≤ (LIM : Nat) := by unfold LIM; omega
  rw [call_go (fd := fd16) rfl]
  simp (disch := ((fail_if_success (intro _)); omega)) only [go_sem, simprocAttr, ↓reduceIte, xx, fd16, m16, sh_length, c13, c36, hlim, hlim2]
  rw [iter_to (S16 f k l m c) l.length (by unfold LF; omega)]
  · simp (disch := ((fail_if_success (intro _)); omega)) only [go_sem, simprocAttr, ↓reduceIte, xx, S16, sh_length, buf_end, ns_length, gets_length]
  · simp (disch := ((fail_if_success (intro _)); omega)) only [go_sem, simprocAttr, ↓reduceIte, xx, S16, sh_length, lef, buf, gets, ns_rep, ns_length, List.length_replicate, Nat.sub_zero]
  · exact hs
  · simp (disch := ((fail_if_success (intro _)); omega)) only [go_sem, simprocAttr, ↓reduceIte, xx, S16, sh_length]
end Go.Proofs.S16
