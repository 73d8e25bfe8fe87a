/-
  Chapter 8: adding a key. No condition.
-/
import Derived.Test.YtjpfinklpodhnaaDoorW08h
import Derived.Test.YtjpfinklpodhnaaDoorW08BB
set_option linter.unusedVariables false
set_option linter.unusedSimpArgs false
set_option linter.unusedSectionVars false
namespace Go.Proofs.S08
open Go Go.Ev Go.Proofs
set_option linter.unusedSimpArgs false
set_option linter.unusedVariables false
section
variable {gl : Gl} {n : Nat}
/-- The cells after the first of the key's were counted. -/
def ad (l : List Int) (p : Nat → Nat) (c : Int) : Nat → List Int
  | 0 => l
  | i + 1 => if nat (ad l p c i) (p i) = c ∧ c < 15 then (ad l p c i).set (p i) (c + 1) else ad l p c i
theorem ad_length (l : List Int) (p : Nat → Nat) (c : Int) : ∀ i, (ad l p c i).length = l.length
  | 0 => rfl
  | i + 1 => by
    rw [ad]; split
    · rw [List.length_set, ad_length l p c i]
    · exact ad_length l p c i
def lp2 : OB := .lp 120 [.ptr 100001 []] .ready
theorem round2_at (h : 1 ≤ n) (c : Int) (hc : 0 ≤ c ∧ c ≤ 15) (l : List Int) (k : Nat) (hk : k < l.length) (hx : 0 ≤ nat l k ∧ nat l k ≤ 15) : call gl tab n 1000120 [.ptr 100002 [k]] [(100000, lp2), (100001, .fix .sc (i64 c)), (100002, .grow .sc (ns l))] =
    some (.bool true, [(100000, lp2), (100001, .fix .sc (i64 c)), (100002, .grow .sc (ns (if nat l k = c ∧ c < 15 then l.set k (c + 1) else l)))], []) := by
  obtain ⟨d, rfl⟩ := Nat.exists_eq_add_of_le' h
  have hx1 := ns_at hk
  have hs := ns_set l k (c + 1)
  rw [call_giv (fd := fdR120) rfl rfl]
  by_cases h1 : nat l k = c
  · rw [h1] at hx1
    by_cases h2 : c < 15
    · rw [if_pos ⟨h1, h2⟩, ← hs]
      simp (disch := ((fail_if_success (intro _)); omega)) only [go_sem, simprocAttr, ↓reduceIte, ↓Nat.reduceEqDiff, xx, fdR120, ma120, mb120, lp2, hx1, ns_length, beq_self_eq_true]
    · rw [if_neg (fun h => h2 h.2)]
      simp (disch := ((fail_if_success (intro _)); omega)) only [go_sem, simprocAttr, ↓reduceIte, ↓Nat.reduceEqDiff, xx, fdR120, ma120, mb120, lp2, hx1, ns_length, beq_self_eq_true]
  · rw [if_neg (fun h => h1 h.1)]
    have h3 : (nat l k == c) = false := by rw [beq_eq_false_iff_ne]; exact h1
    simp (disch := ((fail_if_success (intro _)); omega)) only [go_sem, simprocAttr, ↓reduceIte, ↓Nat.reduceEqDiff, xx, fdR120, ma120, mb120, lp2, hx1, ns_length, h3]
theorem each_own (h : 1 ≤ n) (l : List Int) (N : Nat) (p : Nat → Nat) : call gl tab n 34 [.sl 100000 [] 0 N, .agg (P4 p)] [(100000, .grow .sc (ns l))] =
    some (.fn 43 [.ptr 20000 [], .ptr 20001 []], [(100000, .grow .sc (ns l))], [.fix (.ar 4 .sc) (.agg (P4 p)), .fix .sc (.sl 100000 [] 0 N)]) := by
  obtain ⟨d, rfl⟩ := Nat.exists_eq_add_of_le' h
  rw [call_gen (fd := fd34) rfl]
  simp (disch := ((fail_if_success (intro _)); omega)) only [go_sem, simprocAttr, ↓reduceIte, ↓Nat.reduceEqDiff, xx, fd34, m34, P4]
def S43b (N : Nat) (l : List Int) (c : Int) (p : Nat → Nat) (i : Nat) : St :=
  ⟨[.set 7 (i64 i), .set 6 (.agg (P4 p)), .set 2 (.ptr 100003 []), .set 0 (.yld 100000)], [(100004, .grow .sc (ns l)), (100003, .fix .sc (.sl 100004 [] 0 N)), (100002, .fix (.ar 4 .sc) (.agg (P4 p))), (100001, .fix .sc (i64 c)), (100000, lp2)]⟩
theorem ad_cs {l : List Int} {p : Nat → Nat} {c : Int} (h : Cs l) (hc : 0 ≤ c ∧ c ≤ 15) : ∀ i, Cs (ad l p c i)
  | 0 => h
  | i + 1 => by
    rw [ad]; split
    · rename_i h2
      intro j hj
      rw [List.length_set] at hj
      by_cases hj2 : p i = j
      · subst hj2
        have : nat ((ad l p c i).set (p i) (c + 1)) (p i) = c + 1 := by simp [nat, List.getD_eq_getElem?_getD, hj]
        rw [this]; omega
      · have : nat ((ad l p c i).set (p i) (c + 1)) j = nat (ad l p c i) j := by simp [nat, List.getD_eq_getElem?_getD, List.getElem?_set, hj2]
        rw [this]; exact ad_cs h hc i j hj
    · exact ad_cs h hc i
set_option maxHeartbeats 1000000 in
theorem add_all (h : 2 ≤ n) {l : List Int} {p : Nat → Nat} {c : Int} (hc : 0 ≤ c ∧ c ≤ 15) (hp : ∀ i, i < 4 → p i < l.length) (hl : l.length < 2 ^ 20) (hcs : Cs l) :
    call gl tab n 43 [.yld 100000, .ptr 100002 [], .ptr 100003 []] [(100000, lp2), (100001, .fix .sc (i64 c)), (100002, .fix (.ar 4 .sc) (.agg (P4 p))), (100003, .fix .sc (.sl 100004 [] 0 l.length)), (100004, .grow .sc (ns l))] =
      some (.tup [], [(100000, lp2), (100001, .fix .sc (i64 c)), (100002, .fix (.ar 4 .sc) (.agg (P4 p))), (100003, .fix .sc (.sl 100004 [] 0 l.length)), (100004, .grow .sc (ns (ad l p c 4)))], []) := by
  obtain ⟨d, rfl⟩ := Nat.exists_eq_add_of_le' h
  have hs : ∀ i, i < 4 → contK [.slot 0, .slot 2, .slot 6, .slot 7] (evC gl (call gl tab (d + 1)) L43 (S43b l.length (ad l p c i) c p i)) = some (S43b l.length (ad l p c (i + 1)) c p (i + 1)) := fun i hi => by
    have hy := P4_get p i hi
    have hlp := P4_len p
    have hsc := P4_sc p
    have hpi := hp i hi
    have hal := ad_length l p c i
    have c1 := @round2_at gl (d + 1) (by omega) c hc (ad l p c i) (p i) (by omega) (ad_cs hcs hc i (p i) (by omega))
    have e : ad l p c (i + 1) = if nat (ad l p c i) (p i) = c ∧ c < 15 then (ad l p c i).set (p i) (c + 1) else ad l p c i := rfl
    rw [← e] at c1
    rw [S43b, S43b]
    simp only [lp2] at c1
    generalize P4 p = q at *
    generalize ad l p c (i + 1) = l2 at *
    generalize ad l p c i = l1 at *
    simp (disch := ((fail_if_success (intro _)); omega)) only [go_sem, simprocAttr, ↓reduceIte, ↓Nat.reduceEqDiff, xx, L43, m43, lp2, hy, hlp, hsc, ns_length, hal, c1]
  simp only [L43, m43] at hs
  have hlp := P4_len p
  have hsc := P4_sc p
  rw [call_gen (fd := fd43) rfl]
  generalize hq : P4 p = q at *
  simp (disch := ((fail_if_success (intro _)); omega)) only [go_sem, simprocAttr, ↓reduceIte, ↓Nat.reduceEqDiff, xx, fd43, m43, lp2, hlp, hsc]
  rw [iter_to (fun i => S43b l.length (ad l p c i) c p i) 4 (by unfold LF; omega)]
  · rw [S43b, hq]; simp (disch := ((fail_if_success (intro _)); omega)) only [go_sem, simprocAttr, ↓reduceIte, ↓Nat.reduceEqDiff, xx, lp2]
  · rw [S43b, hq]; simp (disch := ((fail_if_success (intro _)); omega)) only [go_sem, simprocAttr, ↓reduceIte, ↓Nat.reduceEqDiff, xx, lp2, ad]
  · exact hs
  · rw [S43b, hq]; simp (disch := ((fail_if_success (intro _)); omega)) only [go_sem, simprocAttr, ↓reduceIte, ↓Nat.reduceEqDiff, xx, lp2]
theorem cloneI_at (h : 1 ≤ n) {f : Bool} {l : List Int} (hl : l.length < 2 ^ 20) : call gl tab n 32 [.lst f .sc (ns l)] [] = some (.sl 20000 [] 0 l.length, [], [.grow .sc (ns l)]) := by
  obtain ⟨d, rfl⟩ := Nat.exists_eq_add_of_le' h
  rw [call_giv (fd := fd32) rfl rfl]
  have h1 : l.length ≤ LIM := by unfold LIM; omega
  simp [cloneG, ns_length, h1, Sh.beq, Sh.beqs]
end
end Go.Proofs.S08
namespace Go.Proofs.S08
open Go Go.Ev Go.Proofs
set_option linter.unusedSimpArgs false
set_option linter.unusedVariables false
section
variable {gl : Gl} {n : Nat} [Nonempty (H.GlK gl)]
/-- A valid sketch, but for its sample: its cells are counts. -/
structure Sk (w : Nat) (s a : Int) (l : List Int) : Prop where
  kw : 1 ≤ w ∧ w ≤ 4096
  ks : 1 ≤ s ∧ s ≤ 1048576
  ka : 0 ≤ a ∧ a < s
  kl : l.length = 4 * w
  kc : Cs l
def adL (w : Nat) (l : List Int) (key : List UInt8) : List Int := ad l (pl key w) (lea l (pl key w) 4) 4
theorem adL_length (w : Nat) (l : List Int) (key : List UInt8) : (adL w l key).length = l.length := ad_length _ _ _ _
theorem mn_bd {x y : Int} (hx : 0 ≤ x ∧ x ≤ 15) (hy : 0 ≤ y ∧ y ≤ 15) : 0 ≤ mn x y ∧ mn x y ≤ 15 := by unfold mn; split <;> omega
theorem lea_bd {l : List Int} (hc : Cs l) {p : Nat → Nat} (hp : ∀ i, i < 4 → p i < l.length) : ∀ i, i ≤ 4 → 0 ≤ lea l p i ∧ lea l p i ≤ 15
  | 0, _ => by simp [lea]
  | i + 1, h => by rw [lea]; exact mn_bd (lea_bd hc hp i (by omega)) (hc _ (hp i (by omega)))
theorem adL_cs {w : Nat} {s a : Int} {l : List Int} (h : Sk w s a l) (key : List UInt8) : Cs (adL w l key) :=
  ad_cs h.kc (lea_bd h.kc (fun i hi => by rw [h.kl]; exact pl_lt h.kw.1 hi) 4 (Nat.le_refl 4)) 4
/-- What Add returns. -/
def addR (w : Nat) (s a : Int) (l : List Int) (key : List UInt8) : Int × List Int := if a + 1 = s then ((a + 1) / 2, hlf (adL w l key) l.length) else (a + 1, adL w l key)
set_option maxHeartbeats 2000000 in
theorem add_at (h : 12 ≤ n) {key : List UInt8} (hk : key.length ≤ 1000) {w : Nat} {s a : Int} {f : Bool} {l : List Int} (hv : Sk w s a l) :
    call gl tab n 12 [.agg [i64 w, i64 s, i64 a, .lst f .sc (ns l)], .str key] [] = some (.agg [i64 w, i64 s, i64 (addR w s a l key).1, .lst false .sc (ns (addR w s a l key).2)], [], []) := by
  obtain ⟨d, rfl⟩ := Nat.exists_eq_add_of_le' h
  have hl := hv.kl
  have hw := hv.kw
  have hsa := hv.ks
  have haa := hv.ka
  have hp : ∀ i, i < 4 → pl key w i < l.length := fun i hi => by rw [hl]; exact pl_lt hw.1 hi
  have c31 := @of_at gl (d + 11) _ (by omega) key hk w hw s a f l
  have c32 := @cloneI_at gl (d + 11) (by omega) f l (by omega)
  have c33 := @least_at gl (d + 11) (by omega) false l (pl key w) hp (by omega)
  have c34 := @each_own gl (d + 11) (by omega) l l.length (pl key w)
  have hb := lea_bd hv.kc hp 4 (Nat.le_refl 4)
  have c43 := @add_all gl (d + 11) (by omega) l (pl key w) (lea l (pl key w) 4) hb hp (by omega) hv.kc
  have hcs := adL_cs hv key
  have hal := adL_length w l key
  have c21 := @halve_own gl (d + 11) (by omega) w s (a + 1) (adL w l key) (by omega) (by omega) hcs
  rw [hal] at c21
  have hlp := P4_len (pl key w)
  have hsc := P4_sc (pl key w)
  have hft := ns_take' (adL w l key)
  have hft0 := ns_take' l
  have hhl := hlf_length (adL w l key) l.length
  have hft2 := ns_take' (hlf (adL w l key) l.length)
  have him := ns_noImms l
  rw [hhl] at hft2
  rw [hal] at hft
  simp only [lp2] at c43
  simp only [S08.hv] at c21
  unfold addR
  rw [← adL] at c43
  generalize hlf (adL w l key) l.length = H2 at *
  generalize adL w l key = A at *
  generalize lea l (pl key w) 4 = c at *
  generalize P4 (pl key w) = q at *
  rw [call_go (fd := fd12) rfl]
  by_cases h1 : a + 1 = s
  · have h2 : (a + 1 == s) = true := by rw [h1]; exact beq_self_eq_true s
    rw [if_pos h1]
    subst h1
    simp (disch := ((fail_if_success (intro _)); omega)) only [go_sem, simprocAttr, ↓reduceIte, ↓Nat.reduceEqDiff, xx, fd12, m12, c31, c32, c33, c34, c43, c21, hlp, hsc, ns_length, hal, hft, hft0, hft2, him, h2]
  · have h2 : (a + 1 == s) = false := by rw [beq_eq_false_iff_ne]; exact h1
    rw [if_neg h1]
    simp (disch := ((fail_if_success (intro _)); omega)) only [go_sem, simprocAttr, ↓reduceIte, ↓Nat.reduceEqDiff, xx, fd12, m12, c31, c32, c33, c34, c43, hlp, hsc, ns_length, hal, hft, hft0, him, h2]
end
end Go.Proofs.S08
namespace Go.Proofs.S08
open Go Go.Ev Go.Proofs
set_option linter.unusedSimpArgs false
set_option linter.unusedVariables false
section
variable {gl : Gl} {n : Nat} [Nonempty (H.GlR gl)]
theorem pl_inj {key : List UInt8} {w i j : Nat} (hw : 1 ≤ w) (hij : i < j) : pl key w i ≠ pl key w j := by
  have h1 := Nat.mod_lt (plc key i) (show 0 < w by omega)
  have h2 : (i + 1) * w ≤ j * w := Nat.mul_le_mul_right w (by omega)
  rw [Nat.add_mul] at h2
  unfold pl; omega
theorem nat_set_ne {l : List Int} {k j : Nat} (h : k ≠ j) (v : Int) : nat (l.set k v) j = nat l j := by simp [nat, List.getD_eq_getElem?_getD, List.getElem?_set, h]
theorem nat_set_eq {l : List Int} {k : Nat} (h : k < l.length) (v : Int) : nat (l.set k v) k = v := by simp [nat, List.getD_eq_getElem?_getD, h]
theorem ad_other {l : List Int} {p : Nat → Nat} {c : Int} {k : Nat} : ∀ {i : Nat}, (∀ j, j < i → p j ≠ k) → nat (ad l p c i) k = nat l k
  | 0, _ => rfl
  | i + 1, h => by
    rw [ad]; split
    · rw [nat_set_ne (h i (by omega)), ad_other fun j hj => h j (by omega)]
    · exact ad_other fun j hj => h j (by omega)
def L14 : MC := match m14 with | .seq _ (.seq _ (.seq _ (.seq (.seq _ (.block _ (.loop _ b))) _))) => b | _ => .skip
def z4' : AV := .agg [i64 0, i64 0, i64 0, .lst true .sc []]
def S14 (w : Nat) (s a : Int) (f : Bool) (l A : List Int) (c : Int) (key : List UInt8) (i : Nat) : St :=
  ⟨[.set 7 (i64 i), .set 6 (.ptr 6 []), .set 5 (i64 c), .set 4 (.ptr 4 []), .set 2 (.ptr 2 []), .set 1 (.str key)],
   [(22, .grow .sc (ns A)), (6, .fix sK (.aggR [i64 w, i64 s, i64 (a + 1), .sl 22 [] 0 l.length])), (4, .fix sK z4'), (2, .fix sK (.agg [i64 w, i64 s, i64 a, .lst f .sc (ns l)]))]⟩
set_option maxHeartbeats 2000000 in
theorem step14 (h : 9 ≤ n) {key : List UInt8} (hk : key.length ≤ 1000) {w : Nat} {s a : Int} {f : Bool} {l : List Int} (hv : Sk w s a l) {c : Int} (hc : 0 ≤ c ∧ c ≤ 15) {i : Nat} (hi : i < 4) :
    contK [.slot 1, .slot 2, .slot 4, .slot 5, .slot 6, .slot 7, .key 2, .key 4, .key 6, .key 22] (evC gl (call gl tab n) L14 (S14 w s a f l (ad l (pl key w) c i) c key i)) = some (S14 w s a f l (ad l (pl key w) c (i + 1)) c key (i + 1)) := by
  have hw := hv.kw
  have hl := hv.kl
  have hsa := hv.ks
  have haa := hv.ka
  have c29 := @rplace_at gl n _ (by omega) key hk i w hi hw
  have hm := Nat.mod_lt (plc key i) (show 0 < w by omega)
  have hp := pl_lt (key := key) hw.1 hi
  have hx := ns_at (show pl key w i < l.length by omega)
  have hlt : i * w ≤ 3 * w := Nat.mul_le_mul_right w (by omega)
  have e : pl key w i = i * w + plc key i % w := rfl
  have hal := ad_length l (pl key w) c i
  have ho : nat (ad l (pl key w) c i) (pl key w i) = nat l (pl key w i) := ad_other fun j hj => pl_inj hw.1 hj
  have e2 : ad l (pl key w) c (i + 1) = if nat l (pl key w i) = c ∧ c < 15 then (ad l (pl key w) c i).set (pl key w i) (c + 1) else ad l (pl key w) c i := by rw [ad, ho]
  have hs := ns_set (ad l (pl key w) c i) (pl key w i) (c + 1)
  have hx2 := ns_at (show pl key w i < (ad l (pl key w) c i).length by omega)
  rw [S14, S14, e2]
  clear ho e2
  generalize ad l (pl key w) c i = A at *
  rw [e] at hx hp hs hx2 ⊢
  generalize plc key i % w = y at *
  generalize hz : i * w = z at *
  have hz2 : (i : Int) * (w : Int) = (z : Int) := by rw [← hz]; exact (Int.natCast_mul i w).symm
  have hx3 := hx
  by_cases h1 : nat l (z + y) = c
  · rw [h1] at hx
    by_cases h2 : c < 15
    · rw [if_pos ⟨h1, h2⟩, ← hs]
      simp (implicitDefEqProofs := false) (disch := ((fail_if_success (intro _)); omega)) only [go_sem, simprocAttr, ↓reduceIte, ↓Nat.reduceEqDiff, xx, L14, m14, c29, hx, hx2, hz2, ns_length, hal, z4', beq_self_eq_true]
    · rw [if_neg (fun h => h2 h.2)]
      simp (implicitDefEqProofs := false) (disch := ((fail_if_success (intro _)); omega)) only [go_sem, simprocAttr, ↓reduceIte, ↓Nat.reduceEqDiff, xx, L14, m14, c29, hx, hx2, hz2, ns_length, hal, z4', beq_self_eq_true]
  · rw [if_neg (fun h => h1 h.1)]
    have h3 : (nat l (z + y) == c) = false := by rw [beq_eq_false_iff_ne]; exact h1
    simp (implicitDefEqProofs := false) (disch := ((fail_if_success (intro _)); omega)) only [go_sem, simprocAttr, ↓reduceIte, ↓Nat.reduceEqDiff, xx, L14, m14, c29, hx, hx2, hz2, ns_length, hal, z4', h3]
set_option maxHeartbeats 2000000 in
theorem radd_at (h : 12 ≤ n) {key : List UInt8} (hk : key.length ≤ 1000) {w : Nat} {s a : Int} {f : Bool} {l : List Int} (hv : Sk w s a l) :
    call gl tab n 14 [.agg [i64 w, i64 s, i64 a, .lst f .sc (ns l)], .str key] [] = some (.agg [i64 w, i64 s, i64 (addR w s a l key).1, .lst false .sc (ns (addR w s a l key).2)], [], []) := by
  obtain ⟨d, rfl⟩ := Nat.exists_eq_add_of_le' h
  have hl := hv.kl
  have hw := hv.kw
  have hsa := hv.ks
  have haa := hv.ka
  have hp : ∀ i, i < 4 → pl key w i < l.length := fun i hi => by rw [hl]; exact pl_lt hw.1 hi
  have c26 := @rcount_at gl (d + 11) _ (by omega) key hk w hw s a f l hl
  have hb := lea_bd hv.kc hp 4 (Nat.le_refl 4)
  have hst := fun i hi => @step14 gl (d + 11) _ (by omega) key hk w s a f l hv (lea l (pl key w) 4) hb i hi
  simp only [L14, m14] at hst
  have hcs := adL_cs hv key
  have hal := adL_length w l key
  have c22 := @rhalve_own gl (d + 11) (by omega) w s (a + 1) (adL w l key) (by omega) (by omega) (by omega) hcs
  rw [hal] at c22
  have hft := ns_take' (adL w l key)
  have hft0 := ns_take' l
  have hhl := hlf_length (adL w l key) l.length
  have hft2 := ns_take' (hlf (adL w l key) l.length)
  have hL : l.length ≤ LIM := by unfold LIM; omega
  rw [hhl] at hft2
  rw [hal] at hft
  simp only [S08.hv] at c22
  unfold addR
  have e4 : adL w l key = ad l (pl key w) (lea l (pl key w) 4) 4 := rfl
  have e0 : ad l (pl key w) (lea l (pl key w) 4) 0 = l := rfl
  generalize hlf (adL w l key) l.length = H2 at *
  generalize adL w l key = A at *
  generalize lea l (pl key w) 4 = c at *
  generalize ad l (pl key w) c = g at *
  rw [call_go (fd := fd14) rfl]
  simp (disch := ((fail_if_success (intro _)); omega)) only [go_sem, simprocAttr, ↓reduceIte, ↓Nat.reduceEqDiff, xx, fd14, m14, c26, ns_length, hL, List.nil_append, List.append_nil]
  rw [iter_to (fun i => S14 w s a f l (g i) c key i) 4 (by unfold LF; omega)]
  · rw [← e4]
    by_cases h1 : a + 1 = s
    · have h2 : (a + 1 == s) = true := by rw [h1]; exact beq_self_eq_true s
      rw [if_pos h1]
      subst h1
      simp (disch := ((fail_if_success (intro _)); omega)) only [go_sem, simprocAttr, ↓reduceIte, ↓Nat.reduceEqDiff, xx, S14, c22, ns_length, hal, hft, hft2, h2]
    · have h2 : (a + 1 == s) = false := by rw [beq_eq_false_iff_ne]; exact h1
      rw [if_neg h1]
      simp (disch := ((fail_if_success (intro _)); omega)) only [go_sem, simprocAttr, ↓reduceIte, ↓Nat.reduceEqDiff, xx, S14, ns_length, hal, hft, h2]
  · rw [e0]; simp (disch := ((fail_if_success (intro _)); omega)) only [go_sem, simprocAttr, ↓reduceIte, ↓Nat.reduceEqDiff, xx, S14, z4']
  · exact hst
  · simp (disch := ((fail_if_success (intro _)); omega)) only [go_sem, simprocAttr, ↓reduceIte, ↓Nat.reduceEqDiff, xx, S14]
end
end Go.Proofs.S08
