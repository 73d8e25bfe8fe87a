/-
  Chapter 33: what is delivered is in order. No condition.
-/
import Derived.Test.YtoddlpnnmoaogaaW33X
set_option linter.unusedVariables false
set_option linter.unusedSimpArgs false
set_option linter.unusedSectionVars false
namespace Go.Proofs.S33
open Go Go.Ev Go.Proofs
set_option linter.unusedSimpArgs false
set_option linter.unusedVariables false
variable {gl : Gl} {n : Nat}
/-- A frame that carries a message, or a summary, of those before a number. -/
structure Gd (e : Nat) (x : Fm) : Prop where
  nn : 0 ≤ x.q
  lo : x.q ≤ e
  st : x.s = false → x.q < e ∧ x.b = msg x.q.toNat
  su : x.s = true → 0 < x.q ∧ x.b = smy x.q.toNat
theorem Gd.mono {e e' : Nat} {x : Fm} (h : Gd e x) (he : e ≤ e') : Gd e' x :=
  ⟨h.nn, by have := h.lo; omega, fun hs => ⟨by have := (h.st hs).1; omega, (h.st hs).2⟩, h.su⟩
theorem Gd.len {e : Nat} {x : Fm} (h : Gd e x) : x.b.length ≤ 4 := by
  cases hs : x.s with
  | false => rw [(h.st hs).2, msg_len]; omega
  | true => rw [(h.su hs).2, smy_len]; omega
/-- The number that comes after the first ones that were delivered. -/
def nxF (de : List Fm) : Nat → Int
  | 0 => 0
  | i + 1 => aft (fat de i)
theorem nxF_0 (de : List Fm) : nxF de 0 = 0 := rfl
theorem nxF_s (de : List Fm) (i : Nat) : nxF de (i + 1) = aft (fat de i) := rfl
/-- One comes after a number. -/
def okF (y : Int) (x : Fm) : Prop := (x.s = true ∧ y < x.q ∨ x.s = false ∧ x.q = y)
structure Ord (e : Nat) (de : List Fm) (nx : Int) : Prop where
  ok : ∀ i, i < de.length → okF (nxF de i) (fat de i) ∧ Gd e (fat de i)
  nx : nxF de de.length = nx
theorem Ord.nil (e : Nat) : Ord e [] 0 := ⟨fun i hi => absurd hi (Nat.not_lt_zero _), rfl⟩
theorem fat_app_lt {l r : List Fm} {i : Nat} (h : i < l.length) : fat (l ++ r) i = fat l i := by simp [fat, List.getD_eq_getElem?_getD, List.getElem?_append_left h]
theorem fat_app_eq (l : List Fm) (x : Fm) : fat (l ++ [x]) l.length = x := by simp [fat, List.getD_eq_getElem?_getD]
theorem nxF_app {l r : List Fm} {i : Nat} (h : i ≤ l.length) : nxF (l ++ r) i = nxF l i := by
  cases i with
  | zero => rfl
  | succ i => rw [nxF_s, nxF_s, fat_app_lt (by omega)]
theorem Ord.snoc {e : Nat} {de : List Fm} {nx : Int} (h : Ord e de nx) {x : Fm} (hx : okF nx x) (hg : Gd e x) : Ord e (de ++ [x]) (aft x) := by
  refine ⟨fun i hi => ?_, ?_⟩
  · rw [List.length_append, List.length_singleton] at hi
    by_cases h2 : i < de.length
    · rw [fat_app_lt h2, nxF_app (by omega)]; exact h.ok i h2
    · obtain rfl : i = de.length := by omega
      rw [fat_app_eq, nxF_app (Nat.le_refl _), h.nx]; exact ⟨hx, hg⟩
  · rw [List.length_append, List.length_singleton, nxF_s, fat_app_eq]
theorem aft_gt {y : Int} {x : Fm} (h : okF y x) : y < aft x := by
  unfold aft; rcases h with ⟨h1, h2⟩ | ⟨h1, h2⟩ <;> simp [h1] <;> omega
theorem Ord.len {e : Nat} {de : List Fm} {nx : Int} (h : Ord e de nx) : (de.length : Int) ≤ nx := by
  have key : ∀ i, i ≤ de.length → (i : Int) ≤ nxF de i := fun i => by
    induction i with
    | zero => intro _; exact Int.le_refl _
    | succ i ih =>
      intro hi
      have h1 := ih (by omega)
      have h2 := aft_gt (h.ok i (by omega)).1
      rw [nxF_s]; omega
  have := key de.length (Nat.le_refl _)
  rw [h.nx] at this; exact this
theorem Ord.mono {e e' : Nat} {de : List Fm} {nx : Int} (h : Ord e de nx) (he : e ≤ e') : Ord e' de nx := ⟨fun i hi => ⟨(h.ok i hi).1, (h.ok i hi).2.mono he⟩, h.nx⟩
/-! ### The test -/
def L12 : MC := match m12 with | .seq _ (.seq _ (.seq (.seq _ (.block _ (.loop _ b))) _)) => b | _ => .skip
def W12 (b a : Int) (s : List UInt8) (f : Bool) (m : Sh) (l : List (List UInt8)) (nx : Int) (fi : Bool) (mi : Sh) (ah : List Fm) (f1 f2 f3 : Bool) (m1 m2 m3 : Sh) (l1 l2 : List AV) (de : List Fm) : AV :=
  .agg [ob b a s f m l, ib nx fi mi ah, .lst f1 m1 l1, .lst f2 m2 l2, .lst f3 m3 (fm de), .bool false]
abbrev shW : Sh := .st [.st [.sc, .sc, .sc, .sc], .st [.sc, .sc], .sc, .sc, .sc, .sc]
def S12 (w : AV) (de : List Fm) (i : Nat) : St := ⟨[.set 4 (i64 i), .set 3 (i64 (nxF de i)), .set 1 (.ptr 1 [])], [(1, .fix shW w)]⟩
set_option maxHeartbeats 2000000 in
theorem ordered_at (h : 4 ≤ n) {b a : Int} {s : List UInt8} {f : Bool} {m : Sh} {l : List (List UInt8)} {nx : Int} {fi : Bool} {mi : Sh} {ah : List Fm} {f1 f2 f3 : Bool} {m1 m2 m3 : Sh} {l1 l2 : List AV} {de : List Fm} (hm : Mk de m3) {e : Nat} (he : e ≤ 200) (ho : Ord e de nx) (hnx : nx ≤ e) :
    call gl tab n 12 [W12 b a s f m l nx fi mi ah f1 f2 f3 m1 m2 m3 l1 l2 de] [] = some (.bool true, [], []) := by
  obtain ⟨d, rfl⟩ := Nat.exists_eq_add_of_le' h
  have hlen := ho.len
  have hs : ∀ i, i < de.length → contK [.slot 1, .slot 3, .slot 4, .key 1] (evC gl (call gl tab (d + 3)) L12 (S12 (W12 b a s f m l nx fi mi ah f1 f2 f3 m1 m2 m3 l1 l2 de) de i)) = some (S12 (W12 b a s f m l nx fi mi ah f1 f2 f3 m1 m2 m3 l1 l2 de) de (i + 1)) := fun i hi => by
    have hx := fm_at hi
    obtain rfl := hm.eq hi
    obtain ⟨h1, h2⟩ := ho.ok i hi
    have hlo := h2.lo
    have hnn := h2.nn
    have hst := h2.st
    have hsu := h2.su
    obtain ⟨q, hq⟩ : ∃ q : Nat, (fat de i).q = q := ⟨(fat de i).q.toNat, by omega⟩
    have c26 := @msg_at gl (d + 3) (by omega) q (by omega)
    have c27 := @smy_at gl (d + 3) (by omega) q (by omega)
    have e2 : nxF de (i + 1) = aft (fat de i) := rfl
    unfold okF at h1
    rw [hq] at hx hst hsu h1 hlo
    simp only [Int.toNat_natCast] at hst hsu
    rcases h1 with ⟨h1, h3⟩ | ⟨h1, h3⟩
    · rw [h1, (hsu h1).2] at hx
      have e3 : aft (fat de i) = q := by rw [aft, if_pos h1, hq]
      rw [e3] at e2
      simp (disch := ((fail_if_success (intro _)); omega)) only [go_sem, simprocAttr, ↓reduceIte, ↓Nat.reduceEqDiff, xx, L12, m12, S12, W12, fm_length, hx, c27, e2, beq_self_eq_true, Bool.not_true]
    · rw [h1, (hst h1).2] at hx
      have e3 : aft (fat de i) = q + 1 := by rw [aft, if_neg (by rw [h1]; decide), hq]
      rw [e3] at e2
      have h4 : nxF de i = q := h3.symm
      simp (disch := ((fail_if_success (intro _)); omega)) only [go_sem, simprocAttr, ↓reduceIte, ↓Nat.reduceEqDiff, xx, L12, m12, S12, W12, fm_length, hx, c26, e2, beq_self_eq_true, Bool.not_true, h4]
  simp only [L12, m12] at hs
  rw [call_go (fd := fd12) rfl]
  simp (disch := ((fail_if_success (intro _)); omega)) only [go_sem, simprocAttr, ↓reduceIte, ↓Nat.reduceEqDiff, xx, fd12, m12, W12, fm_length]
  rw [iter_to (S12 (W12 b a s f m l nx fi mi ah f1 f2 f3 m1 m2 m3 l1 l2 de) de) de.length (by unfold LF; omega)]
  · have hnxe := ho.nx
    simp (disch := ((fail_if_success (intro _)); omega)) only [go_sem, simprocAttr, ↓reduceIte, ↓Nat.reduceEqDiff, xx, S12, W12, fm_length, hnxe, beq_self_eq_true]
  · simp (disch := ((fail_if_success (intro _)); omega)) only [go_sem, simprocAttr, ↓reduceIte, ↓Nat.reduceEqDiff, xx, S12, W12, fm_length, nxF_0]
  · exact hs
  · simp (disch := ((fail_if_success (intro _)); omega)) only [go_sem, simprocAttr, ↓reduceIte, ↓Nat.reduceEqDiff, xx, S12, W12, fm_length]
end Go.Proofs.S33
namespace Go.Proofs.S33
open Go Go.Ev Go.Proofs
set_option linter.unusedSimpArgs false
set_option linter.unusedVariables false
structure Ln where
  b : Nat
  a : Nat
  s : List UInt8
  f : Bool
  m : Sh
  q : List (List UInt8)
  nx : Int
  fi : Bool
  mi : Sh
  ah : List Fm
  se : List Fm
  to : List Int
  de : List Fm
  c : Nat
def Ln.O (w : Ln) : AV := ob w.b w.a w.s w.f w.m w.q
def Ln.I (w : Ln) : AV := ib w.nx w.fi w.mi w.ah
def Ln.e (w : Ln) : Nat := w.b + w.q.length
structure LI (k : Nat) (w : Ln) : Prop where
  en : w.e ≤ k
  ab : w.a ≤ w.b
  q : ∀ i, i < w.q.length → sat w.q i = msg (w.b + i)
  sm : w.a < w.b → w.s = smy w.b
  sl : w.s.length ≤ 4
  m : Ms w.q w.m
  vi : VI w.nx w.ah
  mi : Mk w.ah w.mi
  nx : w.nx ≤ w.e
  anx : w.a ≤ w.nx
  ah : ∀ i, i < w.ah.length → Gd w.e (fat w.ah i)
  se : ∀ i, i < w.se.length → Gd w.e (fat w.se i)
  sel : w.se.length ≤ 201 * k
  to : ∀ i, i < w.to.length → 0 ≤ tat w.to i ∧ tat w.to i ≤ w.nx
  tol : w.to.length ≤ k
  de : Ord w.e w.de w.nx
  c0 : w.c = 0 → w.se = [] ∧ w.to = [] ∧ w.de = []
  c1 : w.c = 1 → w.to = [] ∧ w.de = []
  c2 : 2 ≤ w.c → 0 < w.se.length ∧ 0 < w.to.length ∧ w.c = 2
theorem LI.vo {k : Nat} {w : Ln} (h : LI k w) (hk : k ≤ 100) : VO w.b w.a w.s w.m w.q := by
  have h1 := h.en
  unfold Ln.e at h1
  exact ⟨by omega, by have := h.ab; omega, by omega, by have := h.sl; omega, h.m, fun i hi => by rw [h.q i hi, msg_len]; omega⟩
theorem LI.mono {k k' : Nat} {w : Ln} (h : LI k w) (hk : k ≤ k') : LI k' w :=
  ⟨by have := h.en; omega, h.ab, h.q, h.sm, h.sl, h.m, h.vi, h.mi, h.nx, h.anx, h.ah, h.se, by have := h.sel; omega, h.to, by have := h.tol; omega, h.de, h.c0, h.c1, h.c2⟩
/-! ### The outbox -/
theorem sat_app_lt {l : List (List UInt8)} {x : List UInt8} {i : Nat} (h : i < l.length) : sat (l ++ [x]) i = sat l i := by simp [sat, List.getD_eq_getElem?_getD, List.getElem?_append_left h]
theorem sat_app_eq (l : List (List UInt8)) (x : List UInt8) : sat (l ++ [x]) l.length = x := by simp [sat, List.getD_eq_getElem?_getD]
theorem sat_drop (l : List (List UInt8)) (a i : Nat) : sat (l.drop a) i = sat l (a + i) := by simp [sat, List.getD_eq_getElem?_getD, List.getElem?_drop]
theorem LI.put {k : Nat} {w : Ln} (h : LI k w) : LI (k + 1) { w with f := false, m := .sc, q := w.q ++ [msg (w.b + w.q.length)] } := by
  have e : Ln.e { w with f := false, m := .sc, q := w.q ++ [msg (w.b + w.q.length)] } = w.e + 1 := by simp [Ln.e]; omega
  refine ⟨by rw [e]; have := h.en; omega, h.ab, fun i hi => ?_, h.sm, h.sl, .inr rfl, h.vi, h.mi, by rw [e]; have := h.nx; simp only; omega, h.anx, fun i hi => by rw [e]; exact (h.ah i hi).mono (by omega), fun i hi => by rw [e]; exact (h.se i hi).mono (by omega),
    by have := h.sel; simp only; omega, h.to, by have := h.tol; simp only; omega, by rw [e]; exact h.de.mono (by omega), h.c0, h.c1, h.c2⟩
  simp only [List.length_append, List.length_singleton] at hi ⊢
  by_cases h2 : i < w.q.length
  · rw [sat_app_lt h2]; exact h.q i h2
  · obtain rfl : i = w.q.length := by omega
    rw [sat_app_eq]
theorem LI.cut {k : Nat} {w : Ln} (h : LI k w) {u a : Nat} (hu : u ≤ w.q.length) (ha : a ≤ w.b + u) (hnx : a ≤ w.nx) {s : List UInt8} (hs : a < w.b + u → s = smy (w.b + u)) (hl : s.length ≤ 4) : LI k { w with b := w.b + u, a := a, s := s, q := w.q.drop u } := by
  have e : Ln.e { w with b := w.b + u, a := a, s := s, q := w.q.drop u } = w.e := by simp [Ln.e]; omega
  refine ⟨by rw [e]; exact h.en, ha, fun i hi => ?_, hs, hl, h.m.drop u, h.vi, h.mi, by rw [e]; exact h.nx, hnx, fun i hi => by rw [e]; exact h.ah i hi, fun i hi => by rw [e]; exact h.se i hi, h.sel, h.to, h.tol, by rw [e]; exact h.de, h.c0, h.c1, h.c2⟩
  simp only [List.length_drop] at hi ⊢
  rw [sat_drop, h.q (u + i) (by omega)]; congr 1; omega
theorem LI.low {k : Nat} {w : Ln} (h : LI k w) {a : Nat} (ha : w.a < a) (hb : a ≤ w.b) (hnx : a ≤ w.nx) : LI k { w with a := a } :=
  ⟨h.en, hb, h.q, fun h' => h.sm (by simp only at h'; omega), h.sl, h.m, h.vi, h.mi, h.nx, hnx, h.ah, h.se, h.sel, h.to, h.tol, h.de, h.c0, h.c1, h.c2⟩
/-! ### Frames -/
theorem gd_frs {k : Nat} {w : Ln} (h : LI k w) {N : Nat} (hN : N ≤ w.q.length) : ∀ i, i < (frs w.b w.a w.s w.q N).length → Gd w.e (fat (frs w.b w.a w.s w.q N) i) := by
  have hm : ∀ x ∈ frs w.b w.a w.s w.q N, Gd w.e x := fun x hx => by
    rw [frs, List.mem_append] at hx
    rcases hx with hx | hx
    · unfold sfr at hx
      by_cases hab : (w.a : Int) < w.b
      · rw [if_pos hab, List.mem_singleton] at hx
        subst hx
        refine ⟨by simp only; omega, by simp only [Ln.e]; omega, fun h' => (by cases h'), fun _ => ⟨by simp only; omega, ?_⟩⟩
        simp only [Int.toNat_natCast]; exact h.sm (by omega)
      · rw [if_neg hab] at hx; cases hx
    · unfold mfs at hx
      rw [List.mem_map] at hx
      obtain ⟨i, hi, rfl⟩ := hx
      rw [List.mem_range] at hi
      refine ⟨by simp only [mfr]; omega, by simp only [mfr, Ln.e]; omega, fun _ => ⟨by simp only [mfr, Ln.e]; omega, ?_⟩, fun h' => (by cases h')⟩
      simp only [mfr]
      rw [h.q i (by omega)]; congr 1
  intro i hi
  have : fat (frs w.b w.a w.s w.q N) i = (frs w.b w.a w.s w.q N)[i] := by simp [fat, hi]
  rw [this]; exact hm _ (List.getElem_mem hi)
theorem frs_len {b a : Int} {s : List UInt8} {l : List (List UInt8)} {N : Nat} : (frs b a s l N).length ≤ N + 1 := by
  by_cases h : a < b
  · rw [frs_lt h]; omega
  · rw [frs_eq h]; omega
theorem fat_app_ge {l r : List Fm} {i : Nat} (h : l.length ≤ i) : fat (l ++ r) i = fat r (i - l.length) := by simp [fat, List.getD_eq_getElem?_getD, List.getElem?_append_right h]
theorem LI.sent {k : Nat} {w : Ln} (h : LI k w) {N : Nat} (hN : N ≤ w.q.length) (hN2 : N ≤ 200) {c : Nat} (hc : c = if w.c = 0 then 1 else w.c) : LI (k + 1) { w with se := w.se ++ frs w.b w.a w.s w.q N, c := c } := by
  have hf := @frs_len w.b w.a w.s w.q N
  refine ⟨by have := h.en; simp only [Ln.e] at this ⊢; omega, h.ab, h.q, h.sm, h.sl, h.m, h.vi, h.mi, h.nx, h.anx, h.ah, fun i hi => ?_, ?_, h.to, by have := h.tol; simp only; omega, h.de, fun h' => ?_, fun h' => ?_, fun h' => ?_⟩
  · simp only [List.length_append] at hi ⊢
    by_cases h2 : i < w.se.length
    · rw [fat_app_lt h2]; exact h.se i h2
    · rw [fat_app_ge (by omega)]; exact gd_frs h hN _ (by omega)
  · have := h.sel; simp only [List.length_append]; omega
  · simp only at h'; subst h'; split at hc <;> omega
  · simp only at h'
    by_cases h0 : w.c = 0
    · have := h.c0 h0; exact ⟨this.2.1, this.2.2⟩
    · rw [if_neg h0] at hc; exact h.c1 (by omega)
  · simp only at h'
    by_cases h0 : w.c = 0
    · rw [if_pos h0] at hc; omega
    · rw [if_neg h0] at hc
      have := h.c2 (by omega)
      exact ⟨by simp only [List.length_append]; omega, this.2.1, by simp only; omega⟩
end Go.Proofs.S33
namespace Go.Proofs.S33
open Go Go.Ev Go.Proofs
set_option linter.unusedSimpArgs false
set_option linter.unusedVariables false
theorem Ord.le {e : Nat} {de : List Fm} {nx : Int} (h : Ord e de nx) : nx ≤ e := by
  rw [← h.nx]
  rcases Nat.eq_zero_or_pos de.length with h0 | h0
  · rw [h0, nxF_0]; omega
  · obtain ⟨i, hi⟩ : ∃ i, de.length = i + 1 := ⟨de.length - 1, by omega⟩
    rw [hi, nxF_s]
    have hg := (h.ok i (by omega)).2
    unfold aft
    cases hs : (fat de i).s with
    | true => simp only [if_true]; exact hg.lo
    | false => have := (hg.st hs).1; simp only [Bool.false_eq_true, if_false]; omega
theorem Ord.run {e : Nat} {de l : List Fm} {x : Fm} {d a : Nat} (ho : Ord e (de ++ [x]) (aft x)) (hr : Rn l (aft x) d a) (hg : ∀ i, i < l.length → Gd e (fat l i) ∧ (fat l i).s = false) :
    ∀ j, j ≤ a - d → Ord e (de ++ ([x] ++ (l.drop d).take j)) (aft x + (j : Nat)) := by
  have hal := hr.al
  intro j
  induction j with
  | zero =>
    intro _
    have e1 : aft x + ((0 : Nat) : Int) = aft x := by omega
    rw [e1, List.take_zero, List.append_nil]; exact ho
  | succ j ih =>
    intro hj
    have h1 := ih (by omega)
    have hlt : d + j < l.length := by omega
    have e1 : fat l (d + j) = l[d + j] := by simp [fat, hlt]
    have e2 : (l.drop d).take (j + 1) = (l.drop d).take j ++ [fat l (d + j)] := by
      rw [List.take_add_one, List.getElem?_drop, List.getElem?_eq_getElem hlt, e1]; rfl
    have hq := hr.eq (d + j) (by omega) (by omega)
    rw [show d + j - d = j by omega] at hq
    obtain ⟨g1, g2⟩ := hg (d + j) hlt
    have h2 := h1.snoc (x := fat l (d + j)) (.inr ⟨g2, hq⟩) g1
    have e3 : aft (fat l (d + j)) = aft x + ((j + 1 : Nat) : Int) := by rw [aft, g2, hq]; simp; omega
    rw [e3] at h2
    rw [e2, ← List.append_assoc, ← List.append_assoc]
    rw [← List.append_assoc] at h2
    exact h2
theorem tat_app_lt {l : List Int} {x : Int} {i : Nat} (h : i < l.length) : tat (l ++ [x]) i = tat l i := by simp [tat, List.getD_eq_getElem?_getD, List.getElem?_append_left h]
theorem tat_app_eq (l : List Int) (x : Int) : tat (l ++ [x]) l.length = x := by simp [tat, List.getD_eq_getElem?_getD]
theorem LI.rcv {k : Nat} {w : Ln} (h : LI k w) (hk : k ≤ 100) {i : Nat} (hi : i < w.se.length) {nx' : Int} {l' o : List Fm} {e : Int} (hr : RO w.nx w.ah (fat w.se i) nx' l' o e) {fi : Bool} {mi : Sh} (hm : Mk l' mi) :
    e = 0 ∧ w.nx ≤ nx' ∧ LI (k + 1) { w with nx := nx', fi := fi, mi := mi, ah := l', to := w.to ++ [nx'], de := w.de ++ o, c := 2 } := by
  have hx := h.se i hi
  generalize fat w.se i = x at *
  have hen := h.en
  have hb := hx.len
  have hvi := ro_vi h.vi (show x.b.length ≤ 65536 by omega) hr
  have hlo := hx.lo
  have hnn := hx.nn
  have key : (∀ i, i < l'.length → Gd w.e (fat l' i)) ∧ Ord w.e (w.de ++ o) nx' ∧ e = 0 := by
    cases hr with
    | arg h1 => exact absurd ⟨hnn, by omega⟩ h1
    | old h1 h2 => rw [List.append_nil]; exact ⟨h.ah, h.de, rfl⟩
    | keep h1 h2 h3 => rw [List.append_nil]; exact ⟨h.ah, h.de, rfl⟩
    | ins h1 h2 h3 h4 q h5 =>
      rw [List.append_nil]
      refine ⟨fun j hj => ?_, h.de, rfl⟩
      have hle := h5.le
      rw [insF_length hle] at hj
      rcases Nat.lt_trichotomy j q with h6 | h6 | h6
      · rw [fat_ins_lo hle x h6]; exact h.ah j (by omega)
      · subst h6; rw [fat_ins_eq hle x]; exact hx
      · obtain ⟨r, rfl⟩ : ∃ r, j = r + 1 := ⟨j - 1, by omega⟩
        rw [fat_ins_hi hle x (by omega)]; exact h.ah r (by omega)
    | now h1 h2 d a h3 =>
      have hal := h3.al
      refine ⟨fun j hj => ?_, ?_, rfl⟩
      · rw [fat_drop]; simp only [List.length_drop] at hj; exact h.ah (a + j) (by omega)
      · have ho : Ord w.e (w.de ++ [x]) (aft x) := h.de.snoc (by rcases h2 with ⟨g1, g2⟩ | ⟨g1, g2⟩; exact .inr ⟨g1, g2.symm⟩; exact .inl ⟨g1, g2⟩) hx
        have h4 := ho.run h3 (fun j hj => ⟨h.ah j hj, (h.vi.ok j hj).s⟩) (a - d) (Nat.le_refl _)
        rw [oA, show eN d a w.ah.length = a - d by unfold eN; omega]; exact h4
  obtain ⟨k1, k2, k3⟩ := key
  refine ⟨k3, hvi.2, ?_⟩
  refine ⟨by have := h.en; simp only [Ln.e] at this ⊢; omega, h.ab, h.q, h.sm, h.sl, h.m, hvi.1, hm, k2.le, by have := h.anx; simp only; omega, k1, h.se, by have := h.sel; simp only; omega, fun j hj => ?_, ?_, k2, fun h' => ?_, fun h' => ?_, fun h' => ?_⟩
  · simp only [List.length_append, List.length_singleton] at hj ⊢
    have hpos := hvi.1.pos
    by_cases h2 : j < w.to.length
    · rw [tat_app_lt h2]; have := h.to j h2; exact ⟨this.1, by omega⟩
    · obtain rfl : j = w.to.length := by omega
      rw [tat_app_eq]; exact ⟨hpos.1, Int.le_refl _⟩
  · have := h.tol; simp only [List.length_append, List.length_singleton]; omega
  · cases h'
  · cases h'
  · exact ⟨by simp only; omega, by simp, rfl⟩
theorem LI.rest {k : Nat} {w : Ln} (h : LI k w) : LI k { w with fi := true, mi := .sc, ah := [] } := by
  refine ⟨h.en, h.ab, h.q, h.sm, h.sl, h.m, ⟨h.vi.pos, by simp, fun i hi => ?_⟩, .inl rfl, h.nx, h.anx, fun i hi => ?_, h.se, h.sel, h.to, h.tol, h.de, h.c0, h.c1, h.c2⟩
  · exact absurd hi (by simp)
  · exact absurd hi (by simp)
end Go.Proofs.S33
namespace Go.Proofs.S33
open Go Go.Ev Go.Proofs
set_option linter.unusedSimpArgs false
set_option linter.unusedVariables false
variable {gl : Gl} {n : Nat}
def avL (w : Ln) (ks kt kd : Nat) : AV :=
  match w.c with
  | 0 => lwA w.O w.I
  | 1 => lwB w.O w.I ks w.se.length
  | _ => lwC w.O w.I ks w.se.length kt w.to.length kd w.de.length
def impL (w : Ln) : Hp :=
  match w.c with
  | 0 => []
  | 1 => iB w.se
  | _ => iC w.se w.to w.de
/-- What an act makes of a line: no list is new; a new list of what was sent; new lists of what was told and delivered. -/
inductive AR (gl : Gl) (n : Nat) (w w' : Ln) (x : AV) : Prop
  | same (h1 : w'.c = w.c) (h2 : w'.se = w.se) (h3 : w'.to = w.to) (h4 : w'.de = w.de) (h : call gl tab n 11 [avL w 100000 100001 100002, x] (impL w) = some (avL w' 100000 100001 100002, impL w, []))
  | sent (h1 : w'.c = if w.c = 0 then 1 else w.c) (h3 : w'.to = w.to) (h4 : w'.de = w.de) (h : call gl tab n 11 [avL w 100000 100001 100002, x] (impL w) = some (avL w' 20000 100001 100002, impL w, [.grow sF (fm w'.se)]))
  | rcvd (h0 : w.c ≠ 0) (h1 : w'.c = 2) (h2 : w'.se = w.se) (h : call gl tab n 11 [avL w 100000 100001 100002, x] (impL w) = some (avL w' 100000 20000 20001, impL w, [.grow .sc (tn w'.to), .grow sF (fm w'.de)]))
theorem msg_at' (h : 1 ≤ n) (b l : Nat) (hk : b + l ≤ 1000) : call gl tab n 26 [i64 ((b : Int) + (l : Int))] [] = some (.str (msg (b + l)), [], []) := by
  have := @msg_at gl n h (b + l) hk
  simpa only [Int.natCast_add] using this
theorem smy_at' (h : 2 ≤ n) (b l : Nat) (hk : b + l ≤ 1000) : call gl tab n 27 [i64 ((b : Int) + (l : Int))] [] = some (.str (smy (b + l)), [], []) := by
  have := @smy_at gl n h (b + l) hk
  simpa only [Int.natCast_add] using this
theorem ob_cast (b u a : Nat) (s : List UInt8) (f : Bool) (m : Sh) (l : List (List UInt8)) : ob ((b : Int) + (u : Int)) a s f m l = ob ((b + u : Nat) : Int) a s f m l := rfl
/-- Acknowledge on a line's outbox. -/
theorem ackL (h : 6 ≤ n) {k : Nat} {w : Ln} (hw : LI k w) (hk : k ≤ 100) {x : Int} (hx : 0 ≤ x ∧ x ≤ w.nx) :
    ∃ w' : Ln, LI k w' ∧ w'.c = w.c ∧ w'.se = w.se ∧ w'.to = w.to ∧ w'.de = w.de ∧ w'.I = w.I ∧ call gl tab n 14 [w.O, i64 x] [] = some (.tup [w'.O, i64 0], [], []) := by
  have hv := hw.vo hk
  have hnx := hw.nx
  have hab := hw.ab
  unfold Ln.e at hnx
  by_cases h1 : x ≤ w.a
  · exact ⟨w, hw, rfl, rfl, rfl, rfl, rfl, ack_old h hv (by omega) h1⟩
  obtain ⟨u, rfl⟩ : ∃ u : Nat, x = u := ⟨x.toNat, by omega⟩
  by_cases h2 : u ≤ w.b
  · exact ⟨_, hw.low (a := u) (by omega) h2 hx.2, rfl, rfl, rfl, rfl, rfl, ack_low h hv (by omega) (by omega) (by omega)⟩
  · obtain ⟨j, rfl⟩ : ∃ j, u = w.b + j := ⟨u - w.b, by omega⟩
    refine ⟨_, hw.cut (u := j) (a := w.b + j) (s := []) (by omega) (Nat.le_refl _) hx.2 (fun h' => absurd h' (Nat.lt_irrefl _)) (by simp), rfl, rfl, rfl, rfl, rfl, ?_⟩
    have := @ack_new gl n h w.b w.a w.s w.f w.m w.q hv j (by omega) (by omega) (by omega)
    simpa only [Ln.O, Int.natCast_add] using this
theorem act_at (h : 8 ≤ n) {k : Nat} {w : Ln} (hw : LI k w) (hk : k < 100) {x : Int} {v : Nat} (hx : 0 ≤ x ∧ x ≤ 255) (hv : v ≤ 255) :
    ∃ w', LI (k + 1) w' ∧ AR gl n w w' (.agg [.int .u8 x, .int .u8 v]) := by
  obtain ⟨n, rfl⟩ : ∃ m, n = m + 1 := ⟨n - 1, by omega⟩
  have hvo := hw.vo (by omega)
  have hpn := hvo.pn
  have hpb := hvo.pb
  have hsel := hw.sel
  have htol := hw.tol
  have hdl := hw.de.len
  have hdn := hw.nx
  have hen := hw.en
  unfold Ln.e at hdn hen
  have h6 : x.tmod 6 = 0 ∨ x.tmod 6 = 1 ∨ x.tmod 6 = 2 ∨ x.tmod 6 = 3 ∨ x.tmod 6 = 4 ∨ x.tmod 6 = 5 := by
    rw [Int.tmod_eq_emod_of_nonneg hx.1]; omega
  have hc : w.c = 0 ∨ w.c = 1 ∨ w.c = 2 := by
    by_cases h2 : 2 ≤ w.c
    · exact .inr (.inr (hw.c2 h2).2.2)
    · omega
  rcases h6 with h6 | h6 | h6 | h6 | h6 | h6
  · have c26 := @msg_at' gl n (by omega) w.b w.q.length (by omega)
    have c25 := @put_at gl n (by omega) w.b w.a w.s (msg (w.b + w.q.length)) w.f w.m w.q hvo (by rw [msg_len]; omega)
    refine ⟨_, hw.put, .same rfl rfl rfl rfl ?_⟩
    rcases hc with h0 | h0 | h0
    · simp only [avL, impL, h0]; exact putA (by omega) (by omega) c26 c25 hv h6
    · simp only [avL, impL, h0]; exact putB (by omega) (by omega) (by omega) c26 c25 hv h6
    · simp only [avL, impL, h0]; exact putC (by omega) (by omega) (by omega) (by omega) (by omega) c26 c25 hv h6
  · have hlt : v % (w.q.length + 1) < w.q.length + 1 := Nat.mod_lt _ (by omega)
    have c27 := @smy_at' gl n (by omega) w.b (v % (w.q.length + 1)) (by omega)
    have c18 := @fold_at gl n (by omega) w.b w.a w.s (smy (w.b + v % (w.q.length + 1))) w.f w.m w.q hvo (by rw [smy_len]; omega) (v % (w.q.length + 1)) (by omega)
    refine ⟨_, (hw.cut (u := v % (w.q.length + 1)) (a := w.a) (by omega) (by have := hw.ab; omega) hw.anx (fun _ => rfl) (by rw [smy_len]; omega)).mono (Nat.le_succ k), .same rfl rfl rfl rfl ?_⟩
    rcases hc with h0 | h0 | h0
    · simp only [avL, impL, h0]; exact foldA (by omega) (by omega) c27 c18 hv h6
    · simp only [avL, impL, h0]; exact foldB (by omega) (by omega) (by omega) c27 c18 hv h6
    · simp only [avL, impL, h0]; exact foldC (by omega) (by omega) (by omega) (by omega) (by omega) c27 c18 hv h6
  · have hlt : v % 20 < 20 := Nat.mod_lt _ (by omega)
    obtain ⟨N, f', m', hN, _, _, hmk, c13⟩ := @frames_at gl n (by omega) (1 + v % 20) w.b w.a w.s w.f w.m w.q hvo (by have := hw.ab; omega) (by omega)
    rw [show (((1 + v % 20 : Nat)) : Int) = 1 + ((v % 20 : Nat) : Int) by omega] at c13
    have hfl := @frs_len w.b w.a w.s w.q N
    refine ⟨_, hw.sent hN (by omega) rfl, .sent rfl rfl rfl ?_⟩
    generalize frs w.b w.a w.s w.q N = fr at *
    rcases hc with h0 | h0 | h0
    · have hz := (hw.c0 h0).1
      simp only [avL, impL, h0, hz, if_true, List.nil_append]
      rcases hmk with rfl | rfl
      · exact frames0A (by omega) (by omega) c13 hv h6
      · exact frames1A (by omega) (by omega) (by omega) c13 hv h6
    · simp only [avL, impL, h0, if_neg (show ¬ (1 : Nat) = 0 by decide)]
      rcases hmk with rfl | rfl
      · simp only [List.append_nil]; exact frames0B (by omega) (by omega) (by omega) c13 hv h6
      · exact frames1B (by omega) (by omega) (by omega) (by omega) c13 hv h6
    · simp only [avL, impL, h0, if_neg (show ¬ (2 : Nat) = 0 by decide)]
      rcases hmk with rfl | rfl
      · simp only [List.append_nil]; exact frames0C (by omega) (by omega) (by omega) (by omega) (by omega) c13 hv h6
      · exact frames1C (by omega) (by omega) (by omega) (by omega) (by omega) (by omega) c13 hv h6
  · by_cases hz : w.se.length = 0
    · refine ⟨w, hw.mono (Nat.le_succ k), .same rfl rfl rfl rfl ?_⟩
      rcases hc with h0 | h0 | h0
      · simp only [avL, impL, h0]; exact noneA (by omega) (by omega) hv h6
      · simp only [avL, impL, h0]; exact noneB (by omega) (by omega) (by omega) hz hv h6
      · have := hw.c2 (by omega); omega
    · have hlt : v % w.se.length < w.se.length := Nat.mod_lt _ (by omega)
      have hg := (hw.se _ hlt).len
      obtain ⟨nx', l', o, f', f'', m', m'', e, hro, hm', hm'', c8⟩ := @rcv_at gl n (by omega) w.fi w.mi w.nx w.ah hw.mi hw.vi (fat w.se (v % w.se.length)) (by omega)
      obtain ⟨rfl, hle, hw'⟩ := hw.rcv (by omega) hlt hro (fi := f') hm'
      have hn' := hw'.vi.n
      have hol := hw'.de.len
      have hoe := hw'.de.le
      have hee := hw'.en
      simp only [List.length_append] at hol hn' hoe
      have hz0 : w.c ≠ 0 := fun h => by have := (hw.c0 h).1; rw [this] at hz; exact hz rfl
      refine ⟨_, hw', .rcvd hz0 rfl rfl ?_⟩
      rcases hc with h0 | h0 | h0
      · exact absurd h0 hz0
      · obtain ⟨t1, t2⟩ := hw.c1 h0
        simp only [avL, impL, h0, t1, t2, List.nil_append, List.length_singleton]
        rcases hm'' with rfl | rfl
        · exact rcv0B (by omega) (by omega) (by omega) (by omega) (by omega) c8 hv h6
        · exact rcv1B (by omega) (by omega) (by omega) (by omega) (by omega) (by omega) c8 hv h6
      · simp only [avL, impL, h0]
        rcases hm'' with rfl | rfl
        · simp only [List.append_nil, List.length_append, List.length_singleton]; exact rcv0C (by omega) (by omega) (by omega) (by omega) (by omega) (by omega) (by omega) c8 hv h6
        · rw [show (w.to ++ [nx']).length = w.to.length + 1 by simp]
          exact rcv1C (by omega) (by omega) (by omega) (by omega) (by omega) (by omega) (by omega) (by omega) c8 hv h6
  · by_cases h2 : w.c = 2
    · obtain ⟨_, ht, _⟩ := hw.c2 (by omega)
      have hlt : v % w.to.length < w.to.length := Nat.mod_lt _ ht
      obtain ⟨w', hw', e1, e2, e3, e4, e5, c14⟩ := @ackL gl n (by omega) k w hw (by omega) (tat w.to (v % w.to.length)) (hw.to _ hlt)
      refine ⟨w', hw'.mono (Nat.le_succ k), .same e1 e2 e3 e4 ?_⟩
      simp only [avL, impL, e1, h2, e2, e3, e4, e5]
      exact ackC (by omega) (by omega) (by omega) (by omega) (by omega) ht c14 hv h6
    · refine ⟨w, hw.mono (Nat.le_succ k), .same rfl rfl rfl rfl ?_⟩
      rcases hc with h0 | h0 | h0
      · simp only [avL, impL, h0]; exact acknA (by omega) (by omega) hv h6
      · simp only [avL, impL, h0]; exact acknB (by omega) (by omega) (by omega) hv h6
      · exact absurd h0 h2
  · refine ⟨_, (hw.rest).mono (Nat.le_succ k), .same rfl rfl rfl rfl ?_⟩
    have c28 := @restart_at gl n (by omega) w.nx w.fi w.mi w.ah
    rcases hc with h0 | h0 | h0
    · simp only [avL, impL, h0]; exact restA (by omega) (by omega) c28 hv h6
    · simp only [avL, impL, h0]; exact restB (by omega) (by omega) (by omega) c28 hv h6
    · simp only [avL, impL, h0]; exact restC (by omega) (by omega) (by omega) (by omega) (by omega) c28 hv h6
end Go.Proofs.S33
