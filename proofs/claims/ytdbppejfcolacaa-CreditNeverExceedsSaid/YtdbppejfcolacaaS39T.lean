/-
  Chapter 39: rows and coins looked up by their key. No condition.
-/
import Derived.Test.YtdbppejfcolacaaS39N
import Derived.Test.YtdbppejfcolacaaS39M
import Derived.Test.YtdbppejfcolacaaS39h
set_option linter.unusedVariables false
set_option linter.unusedSimpArgs false
set_option linter.unusedSectionVars false
namespace Go.Proofs.S39
open Go Go.Ev Go.Proofs
set_option linter.unusedSimpArgs false
set_option linter.unusedVariables false
def isK (w g : Int) (x : Q4) : Bool := x.w == w && x.g == g
theorem isK_t {w g : Int} {x : Q4} : isK w g x = true ↔ x.w = w ∧ x.g = g := by simp [isK]
def look (l : List Q4) (w g : Int) : Q4 := (l.find? (isK w g)).getD (key w g)
theorem mem_at {l : List Q4} {x : Q4} (h : x ∈ l) : ∃ j, j < l.length ∧ at' l j = x := by
  obtain ⟨j, hj, e⟩ := List.getElem_of_mem h
  exact ⟨j, hj, by rw [← at_get hj, e]⟩
theorem cmp_isK {w g : Int} {x : Q4} : x.cmp (key w g) = 0 ↔ isK w g x = true := by rw [cmp_eq, isK_t]
theorem look_lb {l : List Q4} (ha : Asc l) {w g : Int} {k : Nat} (hk : Lb l (key w g) k) : rowOr l k (key w g) = look l w g := by
  unfold rowOr look
  cases hf : l.find? (isK w g) with
  | none =>
    rw [List.find?_eq_none] at hf
    rw [if_neg]; rfl
    rintro ⟨h1, h2⟩
    refine hf (at' l k) ?_ (cmp_isK.1 h2)
    rw [← at_get h1]; exact List.getElem_mem h1
  | some x =>
    have h1 := List.find?_some hf
    obtain ⟨j, hj, e⟩ := mem_at (List.mem_of_find?_eq_some hf)
    subst e
    have h2 := lb_at ha hk hj (cmp_isK.2 h1)
    subst h2
    rw [if_pos ⟨hj, cmp_isK.2 h1⟩]; rfl
theorem look_key (l : List Q4) (w g : Int) : (look l w g).w = w ∧ (look l w g).g = g := by
  unfold look
  cases hf : l.find? (isK w g) with
  | none => exact ⟨rfl, rfl⟩
  | some x => exact isK_t.1 (List.find?_some hf)
theorem find_none {p : Q4 → Bool} {l : List Q4} (h : ∀ x ∈ l, p x = false) : l.find? p = none := by
  rw [List.find?_eq_none]; intro x hx; rw [h x hx]; decide
theorem take_lo {l : List Q4} {x : Q4} {k : Nat} (hk : Lb l x k) : ∀ y ∈ l.take k, y.cmp x < 0 := by
  intro y hy
  obtain ⟨j, hj, e⟩ := List.getElem_of_mem hy
  rw [List.getElem_take] at e
  have hj2 : j < k := by rw [List.length_take] at hj; omega
  have hj3 : j < l.length := by rw [List.length_take] at hj; omega
  rw [at_get hj3] at e
  rw [← e]; exact hk.lo j hj2
theorem look_put {l : List Q4} {x : Q4} {k : Nat} {w g : Int} (hx : x.w = w ∧ x.g = g) (hk : Lb l (key w g) k) (v o : Int) :
    look (putL l k x) v o = if v = w ∧ o = g then x else look l v o := by
  have hcx : ∀ y : Q4, y.cmp x = y.cmp (key w g) := fun y => by simp only [Q4.cmp, hx.1, hx.2]
  split
  · rename_i h
    obtain ⟨rfl, rfl⟩ := h
    unfold look putL
    rw [List.find?_append, find_none, Option.none_or, List.find?_cons, isK_t.2 hx]; rfl
    intro y hy
    have h1 := take_lo hk y hy
    rw [Bool.eq_false_iff]
    intro h2
    have := cmp_isK.2 h2
    omega
  · rename_i h
    have hn : isK v o x = false := by
      rw [Bool.eq_false_iff]; intro h2
      have h3 := isK_t.1 h2
      exact h ⟨by omega, by omega⟩
    have key2 : List.find? (isK v o) (putL l k x) = List.find? (isK v o) l := by
      unfold putL
      rw [List.find?_append, List.find?_cons, hn]
      simp only
      have e : ∀ m, List.find? (isK v o) (l.drop m) = none → True := fun _ _ => trivial
      split
      · rename_i h4
        have h5 : isK v o (at' l k) = false := by
          rw [Bool.eq_false_iff]; intro h6
          have h7 := isK_t.1 h6
          have h8 := cmp_eq.1 ((hcx _).symm.trans h4.2)
          simp only at h8
          exact h ⟨by omega, by omega⟩
        conv => rhs; rw [← List.take_append_drop k l, List.find?_append, List.drop_eq_getElem_cons h4.1, List.find?_cons, at_get h4.1, h5]
      · conv => rhs; rw [← List.take_append_drop k l, List.find?_append]
    unfold look; rw [key2]
theorem look_keep (len p : Int) (l : List Q4) (w g : Int) : look (keepL len p l) w g = if w < p / len then key w g else look l w g := by
  unfold look keepL
  rw [List.find?_filter]
  split
  · rename_i h
    rw [find_none]; rfl
    intro y _
    rw [decide_eq_false_iff_not]
    rintro ⟨hs, h2⟩
    have := isK_t.1 h2
    simp only [stay, Bool.not_eq_true', decide_eq_false_iff_not] at hs
    omega
  · rename_i h
    congr 2
    funext y
    cases hy : isK w g y with
    | false => simp
    | true =>
      have := isK_t.1 hy
      have h2 : stay len p y = true := by simp only [stay, Bool.not_eq_true', decide_eq_false_iff_not]; omega
      simp [h2]
theorem outS_keep (len p : Int) (v : Int) : ∀ l : List Q4, outS v (keepL len p l) = if v < p / len then 0 else outS v l
  | [] => by simp [keepL, outS]
  | x :: l => by
    have ih := outS_keep len p v l
    unfold keepL at ih ⊢
    rw [List.filter_cons]
    by_cases hs : stay len p x = true
    · rw [if_pos hs, outS, ih, outS]
      simp only [stay, Bool.not_eq_true', decide_eq_false_iff_not] at hs
      split
      · rw [outV_ne (by omega)]; rfl
      · rfl
    · rw [if_neg hs, ih, outS]
      simp only [stay, Bool.not_eq_true', decide_eq_false_iff_not, Classical.not_not] at hs
      split
      · rfl
      · rw [outV_ne (by omega)]; omega
theorem asc_pair {l : List Q4} : Asc l ↔ l.Pairwise fun a b => a.cmp b < 0 := by
  constructor
  · intro h
    rw [List.pairwise_iff_getElem]
    intro i j hi hj hij
    have := asc_lt h hij hj
    rwa [at_get hi, at_get hj]
  · intro h i hi
    rw [List.pairwise_iff_getElem] at h
    have := h i (i + 1) (by omega) hi (by omega)
    rwa [at_get (by omega), at_get hi] at this
theorem keep_vb {c len : Int} {l : List Q4} (hv : VB c len l) (p : Int) : VB c len (keepL len p l) := by
  have hl := List.length_filter_le (stay len p) l
  have hr := hv.r
  refine vb_intro hv.c hv.n (by unfold keepL; omega) (fun i hi => ?_) (asc_pair.2 ((asc_pair.1 (vb_asc hv)).filter _)) (fun v => ?_)
  · have hm : at' (keepL len p l) i ∈ keepL len p l := by rw [← at_get hi]; exact List.getElem_mem hi
    obtain ⟨j, hj, e⟩ := mem_at ((List.mem_filter.1 hm).1)
    rw [← e]; exact vb_row hv hj
  · rw [outS_keep]
    split
    · exact hv.c.1
    · have := vb_out hv v (Nat.le_refl _)
      rwa [outF_all] at this
theorem ret_vb {c len : Int} {l : List Q4} (hv : VB c len l) {k : Nat} {w g t : Int} (hk : Lb l (key w g) k) (ha : RArg l k w g t) : VB c len (retL l k w g t) := by
  by_cases hkn : Kn l k w g
  · rw [ret_set hkn]
    refine upd_vb (back_upd hv hkn ?_) hv
    have := ha.ht.2
    rwa [rowOr_kn hkn] at this
  · rw [ret_nkn hkn]; exact hv
theorem look_ret {c len : Int} {l : List Q4} (hv : VB c len l) {k : Nat} {w g t : Int} (hk : Lb l (key w g) k) (ha : RArg l k w g t) (v o : Int) :
    look (retL l k w g t) v o = if v = w ∧ o = g then ⟨w, g, (look l w g).d, mx (look l w g).b t⟩ else look l v o := by
  have e := look_lb (vb_asc hv) hk
  by_cases hkn : Kn l k w g
  · rw [retL, if_pos hkn, look_put (x := back l k w g t) ⟨rfl, rfl⟩ hk, back, e]
  · rw [ret_nkn hkn]
    split
    · rename_i h
      obtain ⟨rfl, rfl⟩ := h
      have h1 := ha.ht
      rw [rowOr_nkn hkn] at e h1
      simp only at h1
      rw [← e, mx, if_neg (show ¬ t > (key v o).b by show ¬ t > 0; omega)]
    · rfl
theorem outS_ret {c len : Int} {l : List Q4} (hv : VB c len l) {k : Nat} {w g t : Int} (hk : Lb l (key w g) k) (ha : RArg l k w g t) (v : Int) :
    outS v (retL l k w g t) = outS v l + if v = w then (look l w g).b - mx (look l w g).b t else 0 := by
  have e := look_lb (vb_asc hv) hk
  have hkey := look_key l w g
  by_cases hkn : Kn l k w g
  · rw [retL, if_pos hkn, outS_put v w g l k _ ⟨rfl, rfl⟩, e]
    split
    · rename_i h
      rw [outV_eq (show (back l k w g t).w = v from h.symm), outV_eq (hkey.1.trans h.symm), back, e]; simp only; omega
    · rename_i h
      rw [outV_ne (fun h2 => h h2.symm), outV_ne (by rw [hkey.1]; exact fun h2 => h h2.symm)]; omega
  · rw [ret_nkn hkn]
    have h1 := ha.ht
    rw [rowOr_nkn hkn] at e h1
    simp only at h1
    rw [← e, mx, if_neg (show ¬ t > (key w g).b by show ¬ t > 0; omega)]; split <;> omega
namespace Co
def isW (w : Int) (x : Q4) : Bool := x.w == w
theorem isW_t {w : Int} {x : Q4} : isW w x = true ↔ x.w = w := by simp [isW]
def look (l : List Q4) (w : Int) : Q4 := (l.find? (isW w)).getD (keyW w)
theorem lb_at {l : List Q4} (ha : Asc l) {x : Q4} {k j : Nat} (hk : Lb l x k) (hj : j < l.length) (hc : (at' l j).cmpW x = 0) : j = k := by
  have h1 : ¬ j < k := fun h => by have := hk.lo j h; omega
  by_cases h2 : k < j
  · have h3 := cmp_lt.1 (asc_lt ha h2 hj)
    have h4 := hk.hi k (Nat.le_refl _) (by omega)
    have h5 : ¬ (at' l k).cmpW x < 0 := by omega
    rw [cmp_lt] at h5
    have := cmp_eq.1 hc
    omega
  · omega
theorem cmp_isW {w : Int} {x : Q4} : x.cmpW (keyW w) = 0 ↔ isW w x = true := by rw [cmp_eq, isW_t]
theorem look_lb {l : List Q4} (ha : Asc l) {w : Int} {k : Nat} (hk : Lb l (keyW w) k) : coinOr l k (keyW w) = look l w := by
  unfold coinOr look
  cases hf : l.find? (isW w) with
  | none =>
    rw [List.find?_eq_none] at hf
    rw [if_neg]; rfl
    rintro ⟨h1, h2⟩
    refine hf (at' l k) ?_ (cmp_isW.1 h2)
    rw [← at_get h1]; exact List.getElem_mem h1
  | some x =>
    have h1 := List.find?_some hf
    obtain ⟨j, hj, e⟩ := mem_at (List.mem_of_find?_eq_some hf)
    subst e
    have h2 := lb_at ha hk hj (cmp_isW.2 h1)
    subst h2
    rw [if_pos ⟨hj, cmp_isW.2 h1⟩]; rfl
theorem take_lo {l : List Q4} {x : Q4} {k : Nat} (hk : Lb l x k) : ∀ y ∈ l.take k, y.cmpW x < 0 := by
  intro y hy
  obtain ⟨j, hj, e⟩ := List.getElem_of_mem hy
  rw [List.getElem_take] at e
  have hj2 : j < k := by rw [List.length_take] at hj; omega
  have hj3 : j < l.length := by rw [List.length_take] at hj; omega
  rw [at_get hj3] at e
  rw [← e]; exact hk.lo j hj2
theorem look_put {l : List Q4} {x : Q4} {k : Nat} {w : Int} (hx : x.w = w) (hk : Lb l (keyW w) k) (v : Int) :
    look (putL l k x) v = if v = w then x else look l v := by
  have hcx : ∀ y : Q4, y.cmpW x = y.cmpW (keyW w) := fun y => by simp only [Q4.cmpW, hx]
  split
  · rename_i h
    subst h
    unfold look putL
    rw [List.find?_append, find_none, Option.none_or, List.find?_cons, isW_t.2 hx]; rfl
    intro y hy
    have h1 := take_lo hk y hy
    rw [Bool.eq_false_iff]
    intro h2
    have := cmp_isW.2 h2
    omega
  · rename_i h
    have hn : isW v x = false := by
      rw [Bool.eq_false_iff]; intro h2
      have h3 := isW_t.1 h2
      exact h (by omega)
    have key2 : List.find? (isW v) (putL l k x) = List.find? (isW v) l := by
      unfold putL
      rw [List.find?_append, List.find?_cons, hn]
      simp only
      split
      · rename_i h4
        have h5 : isW v (at' l k) = false := by
          rw [Bool.eq_false_iff]; intro h6
          have h7 := isW_t.1 h6
          have h8 := cmp_eq.1 ((hcx _).symm.trans h4.2)
          simp only at h8
          exact h (by omega)
        conv => rhs; rw [← List.take_append_drop k l, List.find?_append, List.drop_eq_getElem_cons h4.1, List.find?_cons, at_get h4.1, h5]
      · conv => rhs; rw [← List.take_append_drop k l, List.find?_append]
    unfold look; rw [key2]
theorem look_keep (len p : Int) (l : List Q4) (w : Int) : look (keepL len p l) w = if w < p / len then keyW w else look l w := by
  unfold look keepL
  rw [List.find?_filter]
  split
  · rename_i h
    rw [find_none]; rfl
    intro y _
    rw [decide_eq_false_iff_not]
    rintro ⟨hs, h2⟩
    have := isW_t.1 h2
    simp only [stay, Bool.not_eq_true', decide_eq_false_iff_not] at hs
    omega
  · rename_i h
    congr 2
    funext y
    cases hy : isW w y with
    | false => simp
    | true =>
      have := isW_t.1 hy
      have h2 : stay len p y = true := by simp only [stay, Bool.not_eq_true', decide_eq_false_iff_not]; omega
      simp [h2]
theorem vp_intro {len : Int} {l : List Q4} (hn : 1 ≤ len ∧ len ≤ 3600000) (hr : l.length ≤ 10000) (ho : ∀ i, i < l.length → CoinVal (at' l i)) (ha : Asc l) : VP len l :=
  ⟨hn, hr, fun i hi => coinOk_iff.2 ⟨ho i hi, fun h0 => by have := ha (i - 1) (by omega); rw [show i - 1 + 1 = i by omega] at this; exact cmp_lt.1 this⟩⟩
theorem asc_pair {l : List Q4} : Asc l ↔ l.Pairwise fun a b => a.cmpW b < 0 := by
  constructor
  · intro h
    rw [List.pairwise_iff_getElem]
    intro i j hi hj hij
    have := asc_lt h hij hj
    rwa [at_get hi, at_get hj]
  · intro h i hi
    rw [List.pairwise_iff_getElem] at h
    have := h i (i + 1) (by omega) hi (by omega)
    rwa [at_get (by omega), at_get hi] at this
theorem keep_vp {len : Int} {l : List Q4} (hv : VP len l) (p : Int) : VP len (keepL len p l) := by
  have hl := List.length_filter_le (stay len p) l
  have hr := hv.r
  refine vp_intro hv.n (by unfold keepL; omega) (fun i hi => ?_) (asc_pair.2 ((asc_pair.1 (vp_asc hv)).filter _))
  have hm : at' (keepL len p l) i ∈ keepL len p l := by rw [← at_get hi]; exact List.getElem_mem hi
  obtain ⟨j, hj, e⟩ := mem_at ((List.mem_filter.1 hm).1)
  rw [← e]; exact (coinOk_iff.1 (hv.ok j hj)).1
end Co
end Go.Proofs.S39
namespace Go.Proofs.S39
open Go Go.Ev Go.Proofs
set_option linter.unusedSimpArgs false
set_option linter.unusedVariables false
structure T3 where
  g : Int
  w : Int
  n : Int
structure Wd where
  c : Int
  rows : List Q4
  p0 : List Q4
  p1 : List Q4
  ds : List T3
  bs : List T3
  t : Int
  cs : List Int
def Wd.p (x : Wd) (g : Int) : List Q4 := if g = 0 then x.p0 else x.p1
structure MsgOk (m : T3) : Prop where
  g : m.g = 0 ∨ m.g = 1
  w : 0 ≤ m.w ∧ m.w ≤ 41
  n : 0 ≤ m.n ∧ m.n ≤ 1099511627776
def gap (x : Q4) : Int := x.d - x.b
structure GOk (r q : Q4) : Prop where
  d : q.g ≤ r.d
  b : r.b ≤ q.b
structure Inv (i : Nat) (x : Wd) : Prop where
  c : 0 ≤ x.c ∧ x.c ≤ 20
  vb : VB x.c 100 x.rows
  v0 : Co.VP 100 x.p0
  v1 : Co.VP 100 x.p1
  lr : x.rows.length ≤ i
  l0 : x.p0.length ≤ i
  l1 : x.p1.length ≤ i
  t : 0 ≤ x.t ∧ x.t ≤ 3999
  out : ∀ v, outS v x.rows = gap (look x.rows v 1) + gap (look x.rows v 2)
  g0 : ∀ v, x.t / 100 ≤ v → GOk (look x.rows v 1) (Co.look x.p0 v)
  g1 : ∀ v, x.t / 100 ≤ v → GOk (look x.rows v 2) (Co.look x.p1 v)
  ds : ∀ m ∈ x.ds, MsgOk m ∧ (x.t / 100 ≤ m.w → m.n ≤ (look x.rows m.w (m.g + 1)).d)
  bs : ∀ m ∈ x.bs, MsgOk m ∧ (x.t / 100 ≤ m.w → m.n ≤ (Co.look (x.p m.g) m.w).b)
  ld : x.ds.length ≤ i
  lb : x.bs.length ≤ i
  lc : x.cs.length = 40
  cs : ∀ v : Nat, v < 40 → 0 ≤ x.cs.getD v 0 ∧ x.cs.getD v 0 ≤ i
  cnt : ∀ v : Nat, v < 40 → x.t / 100 ≤ v → x.cs.getD v 0 = (Co.look x.p0 v).d + (Co.look x.p1 v).d
namespace Inv
variable {i : Nat} {x : Wd}
theorem time (h : Inv i x) {t : Int} (h1 : x.t ≤ t) (h2 : t ≤ 3999) : Inv i { x with t := t } :=
  { h with
    t := ⟨by have := h.t; show 0 ≤ t; omega, h2⟩
    g0 := fun v hv => h.g0 v (by have : t / 100 ≤ v := hv; omega)
    g1 := fun v hv => h.g1 v (by have : t / 100 ≤ v := hv; omega)
    ds := fun m hm => ⟨(h.ds m hm).1, fun hv => (h.ds m hm).2 (by have : t / 100 ≤ m.w := hv; omega)⟩
    bs := fun m hm => ⟨(h.bs m hm).1, fun hv => (h.bs m hm).2 (by have : t / 100 ≤ m.w := hv; omega)⟩
    cnt := fun v h3 hv => h.cnt v h3 (by have : t / 100 ≤ (v : Int) := hv; omega) }
theorem more (h : Inv i x) : Inv (i + 1) x :=
  { h with
    lr := Nat.le_succ_of_le h.lr
    l0 := Nat.le_succ_of_le h.l0
    l1 := Nat.le_succ_of_le h.l1
    ld := Nat.le_succ_of_le h.ld
    lb := Nat.le_succ_of_le h.lb
    cs := fun v hv => by have := h.cs v hv; omega }
theorem vp (h : Inv i x) {g : Int} : Co.VP 100 (x.p g) := by unfold Wd.p; split; exact h.v0; exact h.v1
theorem lp (h : Inv i x) {g : Int} : (x.p g).length ≤ i := by unfold Wd.p; split; exact h.l0; exact h.l1
theorem gg (h : Inv i x) {g : Int} (hg : g = 0 ∨ g = 1) {v : Int} (hv : x.t / 100 ≤ v) : GOk (look x.rows v (g + 1)) (Co.look (x.p g) v) := by
  rcases hg with rfl | rfl
  · exact h.g0 v hv
  · exact h.g1 v hv
/-- The count of the current window is within the capacity. -/
theorem ok (h : Inv i x) : x.cs.getD (x.t / 100).toNat 0 ≤ x.c := by
  have ht := h.t
  have h1 : (((x.t / 100).toNat : Nat) : Int) = x.t / 100 := by omega
  rw [h.cnt _ (by omega) (by omega), h1]
  have h2 := h.g0 (x.t / 100) (Int.le_refl _)
  have h3 := h.g1 (x.t / 100) (Int.le_refl _)
  have h4 := h.out (x.t / 100)
  have h5 := vb_out h.vb (x.t / 100) (Nat.le_refl _)
  rw [outF_all] at h5
  obtain ⟨k, hk⟩ := Co.exists_lb (Co.vp_asc h.v0) (Co.keyW (x.t / 100))
  obtain ⟨k', hk'⟩ := Co.exists_lb (Co.vp_asc h.v1) (Co.keyW (x.t / 100))
  have h6 := Co.coin_val h.v0 k (w := x.t / 100) (by omega)
  have h7 := Co.coin_val h.v1 k' (w := x.t / 100) (by omega)
  rw [Co.look_lb (Co.vp_asc h.v0) hk] at h6
  rw [Co.look_lb (Co.vp_asc h.v1) hk'] at h7
  have := h6.b; have := h7.b; have := h2.d; have := h2.b; have := h3.d; have := h3.b
  simp only [gap] at h4
  omega
theorem putL_len {l : List Q4} {k : Nat} {x : Q4} (hk : k ≤ l.length) : (putL l k x).length ≤ l.length + 1 := by
  unfold putL; split <;> simp <;> omega
/-- The bank deals. -/
theorem deal (h : Inv i x) (hi : i < 10000) {g w m : Int} (hg : g = 0 ∨ g = 1) (hw : x.t / 100 ≤ w ∧ w ≤ 41) (hm : 1 ≤ m ∧ m ≤ 8) {k : Nat} (hk : Lb x.rows (key w (g + 1)) k) (hr : DRoom x.c x.rows k w (g + 1) m) :
    Inv (i + 1) { x with rows := putL x.rows k (S39.more x.rows k w (g + 1) m), ds := x.ds ++ [⟨g, w, (S39.more x.rows k w (g + 1) m).d⟩] } := by
  have ht := h.t
  have ha : DArg w (g + 1) m := ⟨by omega, by omega, by omega⟩
  obtain ⟨hv1, _⟩ := deal_vb h.vb hk ha hr
  have hbd := rowOr_bd h.vb k w (g + 1)
  have hlk := look_lb (vb_asc h.vb) hk
  have hkey := look_key x.rows w (g + 1)
  have hd := hr.d
  have hle := hk.le
  have hlen := h.lr
  have hset : ∀ v o, look (putL x.rows k (S39.more x.rows k w (g + 1) m)) v o = if v = w ∧ o = g + 1 then S39.more x.rows k w (g + 1) m else look x.rows v o :=
    fun v o => look_put ⟨rfl, rfl⟩ hk v o
  have hmd : (S39.more x.rows k w (g + 1) m).d = (look x.rows w (g + 1)).d + m := by unfold S39.more; rw [hlk]
  have hmb : (S39.more x.rows k w (g + 1) m).b = (look x.rows w (g + 1)).b := by unfold S39.more; rw [hlk]
  have hmono : ∀ v o, (look x.rows v o).d ≤ (look (putL x.rows k (S39.more x.rows k w (g + 1) m)) v o).d ∧ (look (putL x.rows k (S39.more x.rows k w (g + 1) m)) v o).b = (look x.rows v o).b := fun v o => by
    rw [hset]; split
    · rename_i e; obtain ⟨rfl, rfl⟩ := e; rw [hmd, hmb]; omega
    · exact ⟨Int.le_refl _, rfl⟩
  refine { h.more with vb := hv1, lr := ?_, out := ?_, g0 := ?_, g1 := ?_, ds := ?_, ld := ?_ }
  · have := @putL_len x.rows k (S39.more x.rows k w (g + 1) m) hle; show (putL x.rows k (S39.more x.rows k w (g + 1) m)).length ≤ _; omega
  · intro v
    show outS v (putL x.rows k (S39.more x.rows k w (g + 1) m)) = _
    rw [outS_put v w (g + 1) x.rows k _ ⟨rfl, rfl⟩, h.out v, hlk]
    show _ = gap (look (putL x.rows k (S39.more x.rows k w (g + 1) m)) v 1) + gap (look (putL x.rows k (S39.more x.rows k w (g + 1) m)) v 2)
    rw [hset, hset]
    by_cases e : w = v
    · subst e
      rw [outV_eq (show (S39.more x.rows k w (g + 1) m).w = w from rfl), outV_eq hkey.1]
      rcases hg with rfl | rfl
      · rw [if_pos ⟨rfl, rfl⟩, if_neg (by omega)]; simp only [gap, hmd, hmb, Int.zero_add]; omega
      · rw [if_neg (by omega), if_pos ⟨rfl, rfl⟩]; simp only [gap, hmd, hmb, show (1 : Int) + 1 = 2 from rfl]; omega
    · rw [outV_ne (show ¬ (S39.more x.rows k w (g + 1) m).w = v from e), outV_ne (by rw [hkey.1]; exact e), if_neg (fun e2 => e e2.1.symm), if_neg (fun e2 => e e2.1.symm)]; omega
  · intro v hv
    have h1 := h.g0 v hv
    have h2 := hmono v 1
    exact ⟨Int.le_trans h1.d h2.1, Int.le_trans (Int.le_of_eq h2.2) h1.b⟩
  · intro v hv
    have h1 := h.g1 v hv
    have h2 := hmono v 2
    exact ⟨Int.le_trans h1.d h2.1, Int.le_trans (Int.le_of_eq h2.2) h1.b⟩
  · intro y hy
    rcases List.mem_append.1 hy with hy | hy
    · obtain ⟨h1, h2⟩ := h.ds y hy
      refine ⟨h1, fun hv => ?_⟩
      have := h2 hv
      have := (hmono y.w (y.g + 1)).1
      show y.n ≤ (look (putL x.rows k (S39.more x.rows k w (g + 1) m)) y.w (y.g + 1)).d
      omega
    · obtain rfl := List.mem_singleton.1 hy
      refine ⟨⟨hg, ⟨by show 0 ≤ w; omega, hw.2⟩, ⟨by show 0 ≤ (S39.more x.rows k w (g + 1) m).d; rw [hmd]; rw [hlk] at hbd; omega, by show (S39.more x.rows k w (g + 1) m).d ≤ _; unfold S39.more; exact hd⟩⟩, fun hv => ?_⟩
      show _ ≤ (look (putL x.rows k (S39.more x.rows k w (g + 1) m)) w (g + 1)).d
      rw [hset, if_pos ⟨rfl, rfl⟩]; exact Int.le_refl _
  · have := h.ld
    show (x.ds ++ [_]).length ≤ _
    simp only [List.length_append, List.length_singleton]; omega
/-- Credits have come back to the bank. -/
theorem ret (h : Inv i x) {m : T3} (hm : m ∈ x.bs) {k : Nat} (hk : Lb x.rows (key m.w (m.g + 1)) k) (hr : RArg x.rows k m.w (m.g + 1) m.n) :
    Inv (i + 1) { x with rows := retL x.rows k m.w (m.g + 1) m.n } := by
  have hset := look_ret h.vb hk hr
  have hle := hk.le
  have hlen := h.lr
  obtain ⟨hmo, hmn⟩ := h.bs m hm
  have hmx := hr.ht
  have hmd : ∀ v o, (look (retL x.rows k m.w (m.g + 1) m.n) v o).d = (look x.rows v o).d := fun v o => by
    rw [hset]; split
    · rename_i e; obtain ⟨rfl, rfl⟩ := e; rfl
    · rfl
  refine { h.more with vb := ret_vb h.vb hk hr, lr := ?_, out := ?_, g0 := ?_, g1 := ?_, ds := ?_ }
  · show (retL x.rows k m.w (m.g + 1) m.n).length ≤ _
    unfold retL; split
    · have := @putL_len x.rows k (back x.rows k m.w (m.g + 1) m.n) hle; omega
    · omega
  · intro v
    show outS v (retL x.rows k m.w (m.g + 1) m.n) = gap (look (retL x.rows k m.w (m.g + 1) m.n) v 1) + gap (look (retL x.rows k m.w (m.g + 1) m.n) v 2)
    rw [outS_ret h.vb hk hr, h.out, hset, hset]
    by_cases e : v = m.w
    · subst e
      rw [if_pos rfl]
      rcases hmo.g with e | e
      · rw [e, if_pos ⟨rfl, rfl⟩, if_neg (by omega)]; simp only [gap, Int.zero_add]; omega
      · rw [e, if_neg (by omega), if_pos ⟨rfl, rfl⟩]; simp only [gap, show (1 : Int) + 1 = 2 from rfl]; omega
    · rw [if_neg e, if_neg (fun h => e h.1), if_neg (fun h => e h.1)]; omega
  · intro v hv
    have h1 := h.g0 v hv
    refine ⟨by have := h1.d; show _ ≤ (look (retL x.rows k m.w (m.g + 1) m.n) v 1).d; rw [hmd]; exact this, ?_⟩
    show (look (retL x.rows k m.w (m.g + 1) m.n) v 1).b ≤ (Co.look x.p0 v).b
    rw [hset]
    have h3 := h1.b
    split
    · rename_i e
      obtain ⟨rfl, e⟩ := e
      have h4 := hmn hv
      have e2 : m.g = 0 := by omega
      rw [e2] at h4 ⊢
      have h4 : m.n ≤ (Co.look x.p0 m.w).b := h4
      show mx _ _ ≤ _
      unfold mx
      simp only [Int.zero_add]
      split <;> omega
    · exact h3
  · intro v hv
    have h1 := h.g1 v hv
    refine ⟨by have := h1.d; show _ ≤ (look (retL x.rows k m.w (m.g + 1) m.n) v 2).d; rw [hmd]; exact this, ?_⟩
    show (look (retL x.rows k m.w (m.g + 1) m.n) v 2).b ≤ (Co.look x.p1 v).b
    rw [hset]
    have h3 := h1.b
    split
    · rename_i e
      obtain ⟨rfl, e⟩ := e
      have h4 := hmn hv
      have e2 : m.g = 1 := by omega
      rw [e2] at h4 ⊢
      have h4 : m.n ≤ (Co.look x.p1 m.w).b := h4
      show mx _ _ ≤ _
      unfold mx
      simp only [show (1 : Int) + 1 = 2 from rfl]
      split <;> omega
    · exact h3
  · intro y hy
    obtain ⟨h1, h2⟩ := h.ds y hy
    refine ⟨h1, fun hv => ?_⟩
    show y.n ≤ (look (retL x.rows k m.w (m.g + 1) m.n) y.w (y.g + 1)).d
    rw [hmd]; exact h2 hv
end Inv
def Wd.setP (x : Wd) (g : Int) (l : List Q4) : Wd := if g = 0 then { x with p0 := l } else { x with p1 := l }
namespace Inv
variable {i : Nat} {x : Wd}
theorem setP0 (l : List Q4) : x.setP 0 l = { x with p0 := l } := rfl
theorem setP1 (l : List Q4) : x.setP 1 l = { x with p1 := l } := rfl
/-- What a gateway's purse may become: the counts being as they are. -/
theorem purse' (h : Inv i x) {g : Int} (hg : g = 0 ∨ g = 1) {l : List Q4} (hv : Co.VP 100 l) (hl : l.length ≤ i + 1)
    (hk : ∀ v, x.t / 100 ≤ v → (Co.look l v).g ≤ (look x.rows v (g + 1)).d ∧ (Co.look (x.p g) v).b ≤ (Co.look l v).b ∧ (Co.look l v).d = (Co.look (x.p g) v).d) :
    Inv (i + 1) (x.setP g l) := by
  have hgg := fun v hv => h.gg hg (v := v) hv
  rcases hg with rfl | rfl
  · rw [setP0]
    refine { h.more with v0 := hv, l0 := hl, g0 := fun v h1 => ⟨(hk v h1).1, Int.le_trans (hgg v h1).b (hk v h1).2.1⟩, bs := fun m hm => ?_, cnt := fun v h1 h2 => ?_ }
    · obtain ⟨h1, h2⟩ := h.bs m hm
      refine ⟨h1, fun h3 => ?_⟩
      have h4 := h2 h3
      rcases h1.g with e | e <;> rw [e] at h4 ⊢
      · have := (hk m.w h3).2.1
        show m.n ≤ (Co.look l m.w).b
        omega
      · exact h4
    · have := h.cnt v h1 h2
      have h3 := (hk v h2).2.2
      have e : (Co.look (x.p 0) v).d = (Co.look x.p0 v).d := rfl
      show x.cs.getD v 0 = (Co.look l v).d + (Co.look x.p1 v).d
      omega
  · rw [setP1]
    refine { h.more with v1 := hv, l1 := hl, g1 := fun v h1 => ⟨(hk v h1).1, Int.le_trans (hgg v h1).b (hk v h1).2.1⟩, bs := fun m hm => ?_, cnt := fun v h1 h2 => ?_ }
    · obtain ⟨h1, h2⟩ := h.bs m hm
      refine ⟨h1, fun h3 => ?_⟩
      have h4 := h2 h3
      rcases h1.g with e | e <;> rw [e] at h4 ⊢
      · exact h4
      · have := (hk m.w h3).2.1
        show m.n ≤ (Co.look l m.w).b
        omega
    · have := h.cnt v h1 h2
      have h3 := (hk v h2).2.2
      have e : (Co.look (x.p 1) v).d = (Co.look x.p1 v).d := rfl
      show x.cs.getD v 0 = (Co.look x.p0 v).d + (Co.look l v).d
      omega
theorem cput_len {l : List Q4} {k : Nat} {x : Q4} (hk : k ≤ l.length) : (Co.putL l k x).length ≤ l.length + 1 := by
  unfold Co.putL; split <;> simp <;> omega
theorem coin_ok (h : Inv i x) {g w : Int} (hw : 0 ≤ w ∧ w ≤ 41) {k : Nat} (hk : Co.Lb (x.p g) (Co.keyW w) k) : Co.coinOr (x.p g) k (Co.keyW w) = Co.look (x.p g) w ∧ Co.CoinVal (Co.look (x.p g) w) ∧ (Co.look (x.p g) w).w = w := by
  have h1 := Co.look_lb (Co.vp_asc h.vp) hk
  have h2 := Co.coin_val (h.vp (g := g)) k (w := w) (by omega)
  have h3 := Co.coin_key (x.p g) k w
  rw [h1] at h2 h3
  exact ⟨h1, h2, h3⟩
/-- A gateway hears of credits. -/
theorem recv (h : Inv i x) (hi : i < 10000) {m : T3} (hm : m ∈ x.ds) {k : Nat} (hk : Co.Lb (x.p m.g) (Co.keyW m.w) k) (hr : ¬ m.n ≤ (Co.coinOr (x.p m.g) k (Co.keyW m.w)).g) :
    Inv (i + 1) (x.setP m.g (Co.putL (x.p m.g) k (Co.gotC (Co.coinOr (x.p m.g) k (Co.keyW m.w)) m.n))) := by
  obtain ⟨hmo, hmn⟩ := h.ds m hm
  obtain ⟨e1, hc, e2⟩ := h.coin_ok hmo.w hk
  rw [e1] at hr ⊢
  have hn := hmo.n
  have := hc.w; have := hc.g; have := hc.d; have := hc.b
  have hx : Co.CoinVal (Co.gotC (Co.look (x.p m.g) m.w) m.n) := ⟨hc.w, hn, ⟨hc.d.1, by show (Co.look (x.p m.g) m.w).d ≤ m.n; omega⟩, ⟨hc.b.1, by show (Co.look (x.p m.g) m.w).b ≤ m.n - (Co.look (x.p m.g) m.w).d; omega⟩⟩
  have hlp := h.lp (g := m.g)
  obtain ⟨hv, _, _⟩ := Co.coin_put h.vp (x := Co.gotC (Co.look (x.p m.g) m.w) m.n) e2 hk hx (.inr (by omega))
  have hle := hk.le
  refine h.purse' hmo.g hv (by have := @cput_len (x.p m.g) k (Co.gotC (Co.look (x.p m.g) m.w) m.n) hle; omega) fun v hv => ?_
  have hgg := h.gg hmo.g hv
  rw [Co.look_put (x := Co.gotC (Co.look (x.p m.g) m.w) m.n) e2 hk]
  split
  · rename_i e; subst e
    exact ⟨hmn hv, Int.le_refl _, rfl⟩
  · exact ⟨hgg.d, Int.le_refl _, rfl⟩
/-- A gateway gives back. -/
theorem give (h : Inv i x) (hi : i < 10000) {g w m : Int} (hg : g = 0 ∨ g = 1) (hw : x.t / 100 ≤ w ∧ w ≤ 41) (hm : 1 ≤ m ∧ m ≤ 4) {k : Nat} (hk : Co.Lb (x.p g) (Co.keyW w) k) (hr : m ≤ Co.leftF (Co.coinOr (x.p g) k (Co.keyW w))) :
    Inv (i + 1) { x.setP g (Co.putL (x.p g) k (Co.backC (Co.coinOr (x.p g) k (Co.keyW w)) m)) with bs := x.bs ++ [⟨g, w, (Co.backC (Co.coinOr (x.p g) k (Co.keyW w)) m).b⟩] } := by
  have ht := h.t
  obtain ⟨e1, hc, e2⟩ := h.coin_ok (show 0 ≤ w ∧ w ≤ 41 by omega) hk
  rw [e1] at hr ⊢
  simp only [Co.leftF] at hr
  have := hc.w; have := hc.g; have := hc.d; have := hc.b
  have hx : Co.CoinVal (Co.backC (Co.look (x.p g) w) m) := ⟨hc.w, hc.g, hc.d, ⟨by show 0 ≤ (Co.look (x.p g) w).b + m; omega, by show (Co.look (x.p g) w).b + m ≤ (Co.look (x.p g) w).g - (Co.look (x.p g) w).d; omega⟩⟩
  have hlp := h.lp (g := g)
  obtain ⟨hv, _, _⟩ := Co.coin_put h.vp (x := Co.backC (Co.look (x.p g) w) m) e2 hk hx (.inr (by omega))
  have hle := hk.le
  have hset := Co.look_put (x := Co.backC (Co.look (x.p g) w) m) e2 hk
  have h2 := h.purse' hg hv (by have := @cput_len (x.p g) k (Co.backC (Co.look (x.p g) w) m) hle; omega) fun v hv => by
    have hgg := h.gg hg hv
    rw [hset]
    split
    · rename_i e; subst e
      exact ⟨hgg.d, by show (Co.look (x.p g) v).b ≤ (Co.look (x.p g) v).b + m; omega, rfl⟩
    · exact ⟨hgg.d, Int.le_refl _, rfl⟩
  refine { h2 with bs := fun y hy => ?_, lb := ?_ }
  · rcases List.mem_append.1 hy with hy | hy
    · have e : (x.setP g (Co.putL (x.p g) k (Co.backC (Co.look (x.p g) w) m))).bs = x.bs := by unfold Wd.setP; split <;> rfl
      exact h2.bs y (by rw [e]; exact hy)
    · obtain rfl := List.mem_singleton.1 hy
      refine ⟨⟨hg, ⟨by show 0 ≤ w; omega, hw.2⟩, ⟨by show 0 ≤ (Co.look (x.p g) w).b + m; omega, by show (Co.look (x.p g) w).b + m ≤ _; omega⟩⟩, fun _ => ?_⟩
      have e : (x.setP g (Co.putL (x.p g) k (Co.backC (Co.look (x.p g) w) m))).p g = Co.putL (x.p g) k (Co.backC (Co.look (x.p g) w) m) := by
        rcases hg with rfl | rfl <;> rfl
      show _ ≤ (Co.look ((x.setP g (Co.putL (x.p g) k (Co.backC (Co.look (x.p g) w) m))).p g) w).b
      rw [e, hset, if_pos rfl]; exact Int.le_refl _
  · have := h.lb
    show (x.bs ++ [_]).length ≤ _
    simp only [List.length_append, List.length_singleton]; omega
/-- A request is sent. -/
theorem spend (h : Inv i x) (hi : i < 10000) {g w : Int} (hg : g = 0 ∨ g = 1) (hw : w = x.t / 100) {k : Nat} (hk : Co.Lb (x.p g) (Co.keyW w) k) (hr : ¬ Co.leftF (Co.coinOr (x.p g) k (Co.keyW w)) = 0) :
    Inv (i + 1) { x.setP g (Co.putL (x.p g) k (Co.spentC (Co.coinOr (x.p g) k (Co.keyW w)))) with cs := x.cs.set w.toNat (x.cs.getD w.toNat 0 + 1) } := by
  have ht := h.t
  obtain ⟨e1, hc, e2⟩ := h.coin_ok (show 0 ≤ w ∧ w ≤ 41 by omega) hk
  rw [e1] at hr ⊢
  simp only [Co.leftF] at hr
  have := hc.w; have := hc.g; have := hc.d; have := hc.b
  have hx : Co.CoinVal (Co.spentC (Co.look (x.p g) w)) := ⟨hc.w, hc.g, ⟨by show 0 ≤ (Co.look (x.p g) w).d + 1; omega, by show (Co.look (x.p g) w).d + 1 ≤ (Co.look (x.p g) w).g; omega⟩, ⟨hc.b.1, by show (Co.look (x.p g) w).b ≤ (Co.look (x.p g) w).g - ((Co.look (x.p g) w).d + 1); omega⟩⟩
  have hlp := h.lp (g := g)
  obtain ⟨hv, _, _⟩ := Co.coin_put h.vp (x := Co.spentC (Co.look (x.p g) w)) e2 hk hx (.inr (by omega))
  have hle := hk.le
  have hlen := @cput_len (x.p g) k (Co.spentC (Co.look (x.p g) w)) hle
  have hset := Co.look_put (x := Co.spentC (Co.look (x.p g) w)) e2 hk
  have hlc := h.lc
  have hw2 : ((w.toNat : Nat) : Int) = w := by omega
  have hgd : ∀ v : Nat, v < 40 → (x.cs.set w.toNat (x.cs.getD w.toNat 0 + 1)).getD v 0 = x.cs.getD v 0 + if v = w.toNat then 1 else 0 := fun v hv => by
    rw [List.getD_eq_getElem?_getD, List.getElem?_set]
    by_cases e : w.toNat = v
    · rw [if_pos e, if_pos (by omega), if_pos e.symm, e]; rfl
    · rw [if_neg e, if_neg (fun h => e h.symm), ← List.getD_eq_getElem?_getD]; omega
  have hbs : ∀ v, (Co.look (x.p g) v).b = (Co.look (Co.putL (x.p g) k (Co.spentC (Co.look (x.p g) w))) v).b := fun v => by
    rw [hset]; split
    · rename_i e; subst e; rfl
    · rfl
  have hgs : ∀ v, (Co.look (x.p g) v).g = (Co.look (Co.putL (x.p g) k (Co.spentC (Co.look (x.p g) w))) v).g := fun v => by
    rw [hset]; split
    · rename_i e; subst e; rfl
    · rfl
  have hdd : ∀ v : Nat, (Co.look (Co.putL (x.p g) k (Co.spentC (Co.look (x.p g) w))) v).d = (Co.look (x.p g) v).d + if v = w.toNat then 1 else 0 := fun v => by
    rw [hset]
    by_cases e : v = w.toNat
    · subst e
      rw [if_pos hw2, if_pos rfl, hw2]; rfl
    · rw [if_neg (by omega), if_neg e]; omega
  have hcs : ∀ v : Nat, v < 40 → 0 ≤ (x.cs.set w.toNat (x.cs.getD w.toNat 0 + 1)).getD v 0 ∧ (x.cs.set w.toNat (x.cs.getD w.toNat 0 + 1)).getD v 0 ≤ ((i + 1 : Nat) : Int) := fun v hv => by
    rw [hgd v hv]; have := h.cs v hv; split <;> omega
  have hgg := fun v hv => h.gg hg (v := v) hv
  rcases hg with rfl | rfl
  · rw [setP0]
    refine { h.more with v0 := hv, l0 := by show (Co.putL (x.p 0) k (Co.spentC (Co.look (x.p 0) w))).length ≤ _; omega, g0 := fun v h1 => ⟨?_, ?_⟩, bs := fun m hm => ?_, lc := by rw [List.length_set]; exact hlc, cs := hcs, cnt := fun v h1 h2 => ?_ }
    · have := (hgg v h1).d; rw [hgs] at this; exact this
    · have := (hgg v h1).b; rw [hbs] at this; exact this
    · obtain ⟨h1, h2⟩ := h.bs m hm
      refine ⟨h1, fun h3 => ?_⟩
      have h4 := h2 h3
      rcases h1.g with e | e <;> rw [e] at h4 ⊢
      · rw [hbs] at h4; exact h4
      · exact h4
    · have h5 := h.cnt v h1 h2
      have e : (Co.look (x.p 0) v).d = (Co.look x.p0 v).d := rfl
      have h6 := hdd v
      have h7 := hgd v h1
      show (x.cs.set w.toNat (x.cs.getD w.toNat 0 + 1)).getD v 0 = (Co.look (Co.putL (x.p 0) k (Co.spentC (Co.look (x.p 0) w))) v).d + (Co.look x.p1 v).d
      rw [h6, h7, h5, e]; omega
  · rw [setP1]
    refine { h.more with v1 := hv, l1 := by show (Co.putL (x.p 1) k (Co.spentC (Co.look (x.p 1) w))).length ≤ _; omega, g1 := fun v h1 => ⟨?_, ?_⟩, bs := fun m hm => ?_, lc := by rw [List.length_set]; exact hlc, cs := hcs, cnt := fun v h1 h2 => ?_ }
    · have := (hgg v h1).d; rw [hgs] at this; exact this
    · have := (hgg v h1).b; rw [hbs] at this; exact this
    · obtain ⟨h1, h2⟩ := h.bs m hm
      refine ⟨h1, fun h3 => ?_⟩
      have h4 := h2 h3
      rcases h1.g with e | e <;> rw [e] at h4 ⊢
      · exact h4
      · rw [hbs] at h4; exact h4
    · have h5 := h.cnt v h1 h2
      have e : (Co.look (x.p 1) v).d = (Co.look x.p1 v).d := rfl
      have h6 := hdd v
      have h7 := hgd v h1
      show (x.cs.set w.toNat (x.cs.getD w.toNat 0 + 1)).getD v 0 = (Co.look x.p0 v).d + (Co.look (Co.putL (x.p 1) k (Co.spentC (Co.look (x.p 1) w))) v).d
      rw [h6, h7, h5, e]; omega
/-- Old windows are forgotten. -/
theorem forget (h : Inv i x) {g p : Int} (hg : g = 0 ∨ g = 1) (hp : 0 ≤ p ∧ p ≤ x.t) : Inv (i + 1) { x.setP g (keepL 100 p (x.p g)) with rows := keepL 100 p x.rows } := by
  have hl := List.length_filter_le (stay 100 p) (x.p g)
  have hl2 := List.length_filter_le (stay 100 p) x.rows
  have hlp := h.lp (g := g)
  have hlr := h.lr
  have h2 := h.purse' hg (Co.keep_vp (h.vp (g := g)) p) (by unfold keepL; omega) fun v hv => by
    rw [Co.look_keep, if_neg (by omega)]
    exact ⟨(h.gg hg hv).d, Int.le_refl _, rfl⟩
  have hlk : ∀ v o, x.t / 100 ≤ v → look (keepL 100 p x.rows) v o = look x.rows v o := fun v o hv => by rw [look_keep, if_neg (by omega)]
  have e1 : (x.setP g (keepL 100 p (x.p g))).rows = x.rows := by unfold Wd.setP; split <;> rfl
  have e2 : (x.setP g (keepL 100 p (x.p g))).c = x.c := by unfold Wd.setP; split <;> rfl
  have e3 : (x.setP g (keepL 100 p (x.p g))).t = x.t := by unfold Wd.setP; split <;> rfl
  refine { h2 with vb := ?_, lr := by show (keepL 100 p x.rows).length ≤ _; unfold keepL; omega, out := fun v => ?_, g0 := fun v hv => ?_, g1 := fun v hv => ?_, ds := fun m hm => ?_ }
  · show VB (x.setP g (keepL 100 p (x.p g))).c 100 (keepL 100 p x.rows)
    rw [e2]; exact keep_vb h.vb p
  · show outS v (keepL 100 p x.rows) = gap (look (keepL 100 p x.rows) v 1) + gap (look (keepL 100 p x.rows) v 2)
    rw [outS_keep, look_keep, look_keep]
    split
    · rfl
    · exact h.out v
  · have := h2.g0 v hv
    rw [e1] at this
    show GOk (look (keepL 100 p x.rows) v 1) _
    rw [hlk v 1 (by rw [← e3]; exact hv)]; exact this
  · have := h2.g1 v hv
    rw [e1] at this
    show GOk (look (keepL 100 p x.rows) v 2) _
    rw [hlk v 2 (by rw [← e3]; exact hv)]; exact this
  · obtain ⟨h3, h4⟩ := h2.ds m hm
    refine ⟨h3, fun hv => ?_⟩
    have := h4 hv
    rw [e1] at this
    show m.n ≤ (look (keepL 100 p x.rows) m.w (m.g + 1)).d
    rw [hlk m.w _ (by rw [← e3]; exact hv)]; exact this
end Inv
end Go.Proofs.S39
