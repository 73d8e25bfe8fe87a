/-
  Chapter 39: credits never exceed the capacity. No condition.
-/
import Derived.Test.YtdbppejfcolacaaS39Z
set_option linter.unusedVariables false
set_option linter.unusedSimpArgs false
set_option linter.unusedSectionVars false
namespace Go.Proofs.S39
open Go Go.Ev Go.Proofs
set_option linter.unusedSimpArgs false
set_option linter.unusedVariables false
variable {gl : Gl} {n : Nat}
structure A7 where
  k : Int
  g : Int
  w : Int
  m : Int
  a : Int
  e : Int
  l : Int
def A7.av (x : A7) : AV := actv x.k x.g x.w x.m x.a x.e x.l
structure A7Ok (x : A7) : Prop where
  k : U8 x.k
  g : U8 x.g
  w : U8 x.w
  m : U8 x.m
  a : U8 x.a
  e : U8 x.e
  l : U8 x.l
def acts (l : List A7) : List AV := l.map A7.av
theorem acts_length (l : List A7) : (acts l).length = l.length := by simp [acts]
theorem acts_get {l : List A7} {j : Nat} (h : j < l.length) : (acts l)[j]? = some (.agg [u8 l[j].k, u8 l[j].g, u8 l[j].w, u8 l[j].m, u8 l[j].a, u8 l[j].e, u8 l[j].l]) := by simp [acts, h, A7.av, actv]
theorem act_ok {i : Nat} {x : Wd} {f : Fl} {y : A7} (hn : 15 ≤ n) (hI : Inv i x) (hi : i < 100) (hf : FlOk x f) (hy : A7Ok y) : Acts gl n i x f y.k y.g y.w y.m y.a y.e y.l := by
  obtain ⟨uk, ug, uw, um, ua, ue, ul⟩ := hy
  have h1 := Int.tmod_nonneg 8 uk.lo
  have h2 := Int.tmod_lt_of_pos y.k (show (0 : Int) < 8 by omega)
  rcases (show y.k.tmod 8 = 0 ∨ y.k.tmod 8 = 1 ∨ y.k.tmod 8 = 2 ∨ y.k.tmod 8 = 3 ∨ y.k.tmod 8 = 4 ∨ y.k.tmod 8 = 5 ∨ y.k.tmod 8 = 6 ∨ y.k.tmod 8 = 7 by omega) with h | h | h | h | h | h | h | h
  · exact act0 hn hI hi hf h uk ug uw um ua ue ul
  · exact act1 hn hI hi hf h uk ug uw um ua ue ul
  · exact act2 hn hI hi hf h uk ug uw um ua ue ul
  · exact act3 hn hI hi hf h uk ug uw um ua ue ul
  · exact act4 hn hI hi hf h uk ug uw um ua ue ul
  · exact act5 hn hI hi hf h uk ug uw um ua ue ul
  · exact act6 hn hI hi hf h uk ug uw um ua ue ul
  · exact act7 hn hI hi hf h uk ug uw um ua ue ul
/-! ### The beginning -/
abbrev shW : Sh := .st [.st [.sc, .sc, .sc], .ar 2 (.st [.sc, .sc]), .sc, .sc, .sc, .ar 40 .sc, .sc]
def z40 : List Int := List.replicate 40 0
theorem ints_z : ints z40 = List.replicate 40 (.int .i64 0) := rfl
theorem z40_length : z40.length = 40 := rfl
theorem z40_get (v : Nat) : z40.getD v 0 = 0 := by
  rw [z40, List.getD_eq_getElem?_getD, List.getElem?_replicate]; split <;> rfl
def w41 (c len a b : Int) : AV := .agg [.agg [i64 c, i64 len, .lst true .sc []], .agg [.agg [i64 a, .lst true .sc []], .agg [i64 b, .lst true .sc []]], .lst true .sc [], .lst true .sc [], i64 0, .agg (ints z40), .bool false]
def S41 (c : Int) (i : Nat) : St :=
  ⟨[.set 6 (i64 i), .set 5 (.ptr 5 []), .set 2 (.ptr 2 [])], [(5, .fix shW (w41 c 100 (if i = 0 then 0 else 100) (if i = 0 then 0 else if i = 1 then 0 else 100))), (2, .fix shW (w41 0 0 0 0))]⟩
def L41 : MC := match m41 with
  | .seq _ (.seq _ (.seq _ (.seq (.seq _ (.block _ (.loop _ b))) _))) => b
  | _ => .skip
theorem told_nil : told [] = [] := rfl
def W0 (c : Int) : Wd := ⟨c, [], [], [], [], [], 0, z40⟩
def F0 : Fl := ⟨true, true, true, true, true, .sc, .sc, .sc, .sc, .sc⟩
theorem vp0 : Co.VP 100 [] := ⟨by omega, Nat.zero_le _, fun i h => absurd h (Nat.not_lt_zero _)⟩
theorem vb0 {c : Int} (h : 0 ≤ c ∧ c ≤ 20) : VB c 100 [] := ⟨by omega, by omega, Nat.zero_le _, fun i h => absurd h (Nat.not_lt_zero _)⟩
theorem inv0 {c : Int} (h : 0 ≤ c ∧ c ≤ 20) : Inv 0 (W0 c) where
  c := h
  vb := vb0 h
  v0 := vp0
  v1 := vp0
  lr := Nat.le_refl _
  l0 := Nat.le_refl _
  l1 := Nat.le_refl _
  t := ⟨Int.le_refl _, by show (0 : Int) ≤ 3999; omega⟩
  out := fun v => rfl
  g0 := fun v _ => ⟨Int.le_refl _, Int.le_refl _⟩
  g1 := fun v _ => ⟨Int.le_refl _, Int.le_refl _⟩
  ds := fun m hm => by cases hm
  bs := fun m hm => by cases hm
  ld := Nat.le_refl _
  lb := Nat.le_refl _
  lc := rfl
  cs := fun v hv => by
    have : (W0 c).cs.getD v 0 = 0 := z40_get v
    rw [this]; exact ⟨Int.le_refl _, Int.le_refl _⟩
  cnt := fun v hv _ => (z40_get v).trans rfl
theorem begin_ok (hn : 10 ≤ n) {c : Int} (hc : 0 ≤ c ∧ c ≤ 20) : call gl tab (n + 1) 41 [i64 c] [] = some (wav (W0 c) F0 0, [], []) := by
  have c9 := newBank_at (gl := gl) (n := n) (by omega) c 100
  rw [if_pos (vb0 hc), if_pos (vb0 hc)] at c9
  have c27 := Co.newPurse_at (gl := gl) (n := n) (by omega) 100
  rw [if_pos vp0, if_pos vp0] at c27
  simp only [bank, purse, rows_nil] at c9 c27
  rw [call_go (fd := fd41) rfl]
  simp (disch := ((fail_if_success (intro _)); omega)) only [go_sem, simprocAttr, ↓reduceIte, xx, fd41, m41, c9, bne]
  rw [iter_to (S41 c) 2 (by unfold LF; omega)]
  · simp (disch := ((fail_if_success (intro _)); omega)) only [go_sem, simprocAttr, ↓reduceIte, xx, S41, w41, ints_z, wav, W0, F0, bank, purse, rows_nil, told_nil]
  · simp (disch := ((fail_if_success (intro _)); omega)) only [go_sem, simprocAttr, ↓reduceIte, xx, S41, w41, ints_z]
  · intro i hi
    rcases (show i = 0 ∨ i = 1 by omega) with rfl | rfl
    · simp (disch := ((fail_if_success (intro _)); omega)) only [go_sem, simprocAttr, ↓reduceIte, xx, S41, w41, ints_z, c27, bne]
    · simp (disch := ((fail_if_success (intro _)); omega)) only [go_sem, simprocAttr, ↓reduceIte, xx, S41, w41, ints_z, c27, bne]
  · simp (disch := ((fail_if_success (intro _)); omega)) only [go_sem, simprocAttr, ↓reduceIte, xx, S41, w41, ints_z]
/-! ### The law -/
abbrev kA : Kd := .st [.int .u8, .int .u8, .int .u8, .int .u8, .int .u8, .int .u8, .int .u8]
theorem kd_act {a : AV} (h : HasKd kA a) : ∃ y : A7, a = y.av ∧ A7Ok y := by
  obtain ⟨l, rfl, h⟩ := h
  simp only [HasKds] at h
  obtain ⟨_, _, rfl, ⟨k, rfl, k1, k2⟩, _, _, rfl, ⟨g, rfl, g1, g2⟩, _, _, rfl, ⟨w, rfl, w1, w2⟩, _, _, rfl, ⟨m, rfl, m1, m2⟩, _, _, rfl, ⟨a, rfl, a1, a2⟩, _, _, rfl, ⟨e, rfl, e1, e2⟩, _, _, rfl, ⟨l, rfl, l1, l2⟩, rfl⟩ := h
  exact ⟨⟨k, g, w, m, a, e, l⟩, rfl, ⟨k1, k2⟩, ⟨g1, g2⟩, ⟨w1, w2⟩, ⟨m1, m2⟩, ⟨a1, a2⟩, ⟨e1, e2⟩, ⟨l1, l2⟩⟩
theorem kd_acts : ∀ {l : List AV}, (∀ x ∈ l, HasKd kA x) → ∃ r : List A7, l = acts r ∧ ∀ y ∈ r, A7Ok y
  | [], _ => ⟨[], rfl, fun _ h => by cases h⟩
  | x :: l, h => by
    obtain ⟨x, rfl, hx⟩ := kd_act (h x (by simp))
    obtain ⟨r, rfl, hr⟩ := kd_acts (l := l) fun y hy => h y (by simp [hy])
    exact ⟨x :: r, rfl, fun y hy => by rcases List.mem_cons.1 hy with rfl | hy; exact hx; exact hr y hy⟩
def S7 (f0 : Bool) (sh0 : Sh) (l : List A7) (c : Int) (x : Wd) (f : Fl) (i : Nat) : St :=
  ⟨[.set 7 (i64 i), .set 6 (.ptr 6 []), .set 5 (i64 c), .set 1 (.lst f0 sh0 (acts l))], [(6, .fix shW (wav x f x.t))]⟩
def L7 : MC := match m7 with
  | .seq _ (.seq _ (.seq _ (.seq _ (.seq (.seq _ (.block _ (.loop _ b))) _)))) => b
  | _ => .skip
def K7 : List Kp := [.slot 1, .slot 5, .slot 6, .slot 7, .key 6]
set_option maxHeartbeats 2000000 in
theorem loop7 (hn : 16 ≤ n) {f0 : Bool} {sh0 : Sh} {l : List A7} (hs : l = [] ∨ sh0 = .st [.sc, .sc, .sc, .sc, .sc, .sc, .sc]) (hl : l.length ≤ 100) (ho : ∀ y ∈ l, A7Ok y) {c : Int} (hc : 0 ≤ c ∧ c ≤ 20) {i : Nat} (hi : i < l.length) {x : Wd} {f : Fl} (hI : Inv i x) (hf : FlOk x f) (hx : x.c = c) :
    ∃ x' f', Inv (i + 1) x' ∧ FlOk x' f' ∧ x'.c = c ∧ contK K7 (evC gl (call gl tab n) L7 (S7 f0 sh0 l c x f i)) = some (S7 f0 sh0 l c x' f' (i + 1)) := by
  obtain ⟨d, rfl⟩ : ∃ d, n = d + 1 := ⟨n - 1, by omega⟩
  obtain ⟨x', f', I2, hf2, hc2, c42⟩ := act_ok (gl := gl) (n := d) (by omega) hI (by omega) hf (ho _ (List.getElem_mem hi))
  refine ⟨x', f', I2, hf2, hc2.trans hx, ?_⟩
  have hget := acts_get hi
  have hsh := hs.resolve_left (by rintro rfl; simp at hi)
  have h40 := I2.lc
  have hib := ints_all x'.cs
  have h41 := hI.lc
  have hib1 := ints_all x.cs
  have hok := I2.ok
  have ht := I2.t
  have hqq : Int.tdiv x'.t 100 = x'.t / 100 := Int.tdiv_eq_ediv_of_nonneg ht.1
  have hqn : (x'.t / 100).toNat < x'.cs.length := by omega
  have hg2 := ints_get hqn
  have hxc : x'.c = c := hc2.trans hx
  rw [hxc] at hok
  simp only [actv, wav, bank, purse] at c42
  simp (disch := ((fail_if_success (intro _)); omega)) only [go_sem, simprocAttr, ↓reduceIte, xx, K7, L7, m7, S7, acts_length, hget, hsh, c42, wav, bank, purse, ints_length, h40, hib, h41, hib1, binInt, hqq, hg2]
set_option maxHeartbeats 2000000 in
theorem law7 (hn : 20 ≤ n) (c8 : call gl tab n 8 [] [] = some (.bool true, [], [])) (ar : List AV) (h : HasKds [.int .u8, .sl kA] ar) : call gl tab (n + 1) 7 ar [] = some (.bool true, [], []) := by
  simp only [HasKds] at h
  obtain ⟨_, _, rfl, ⟨u, rfl, u1, u2⟩, _, _, rfl, ⟨d, rfl, hd1, h⟩, rfl⟩ := h
  obtain ⟨l, rfl, ho⟩ := kd_acts h
  have u1 : 0 ≤ u := u1
  have u2 : u ≤ 255 := u2
  by_cases h1 : l.length ≤ 100
  case neg =>
    rw [call_go (fd := fd7) rfl]
    simp (disch := ((fail_if_success (intro _)); omega)) only [go_sem, simprocAttr, ↓reduceIte, xx, fd7, m7, acts_length, c8]
  have r1 := Int.tmod_nonneg 21 u1
  have r2 := Int.tmod_lt_of_pos u (show (0 : Int) < 21 by omega)
  obtain ⟨c, huc⟩ : ∃ c, u.tmod 21 = c := ⟨_, rfl⟩
  rw [huc] at r1 r2
  have c41 : call gl tab n 41 [i64 c] [] = some (wav (W0 c) F0 0, [], []) := by
    obtain ⟨d, rfl⟩ : ∃ d, n = d + 1 := ⟨n - 1, by omega⟩
    exact begin_ok (by omega) (by omega)
  obtain ⟨s, ⟨x, f, hI, hf, hx, rfl⟩, hit⟩ := iter_inv (f := evC gl (call gl tab n) L7) (ks := K7) (fun i s => ∃ x f, Inv i x ∧ FlOk x f ∧ x.c = c ∧ s = S7 false (.st [.sc, .sc, .sc, .sc, .sc, .sc, .sc]) l c x f i) l.length (by unfold LF; omega)
    (s0 := S7 false (.st [.sc, .sc, .sc, .sc, .sc, .sc, .sc]) l c (W0 c) F0 0) ⟨_, _, inv0 (by omega), ⟨.inl rfl, .inl rfl, .inl rfl, .inl rfl, .inl rfl⟩, rfl, rfl⟩
    (fun i s hi ⟨x, f, hI, hf, hx, e⟩ => by
      subst e
      obtain ⟨x', f', I2, hf2, hc2, e⟩ := loop7 (gl := gl) (n := n) (f0 := false) (by omega) (.inr rfl) h1 ho (by omega) hi hI hf hx
      exact ⟨_, e, x', f', I2, hf2, hc2, rfl⟩)
    (fun s ⟨x, f, hI, hf, hx, e⟩ => by
      subst e
      simp (disch := ((fail_if_success (intro _)); omega)) only [go_sem, simprocAttr, ↓reduceIte, xx, L7, m7, S7, acts_length])
  have hib := ints_all z40
  simp only [L7, m7, K7] at hit
  simp only [wav, W0, F0, bank, purse, rows_nil, told_nil] at c41
  rw [call_go (fd := fd7) rfl]
  simp (disch := ((fail_if_success (intro _)); omega)) only [go_sem, simprocAttr, ↓reduceIte, xx, fd7, m7, acts_length, c8, c41, huc, binInt, ints_length, z40_length, hib]
  rw [hit]
  · simp (disch := ((fail_if_success (intro _)); omega)) only [go_sem, simprocAttr, ↓reduceIte, xx, S7, acts_length, c8]
  · simp (disch := ((fail_if_success (intro _)); omega)) only [go_sem, simprocAttr, ↓reduceIte, xx, S7, wav, W0, F0, bank, purse, rows_nil, told_nil, ints_length, z40_length, hib]
    rfl
end Go.Proofs.S39
