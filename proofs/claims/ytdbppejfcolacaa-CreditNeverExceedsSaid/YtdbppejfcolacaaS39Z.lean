/-
  Chapter 39: an act of the world of law 7. No condition.
-/
import Derived.Test.YtdbppejfcolacaaS39T
import Derived.Test.YtdbppejfcolacaaS39E
import Derived.Test.YtdbppejfcolacaaS39r
import Derived.Test.YtdbppejfcolacaaS39y
import Derived.Test.YtdbppejfcolacaaS39cf
import Derived.Test.YtdbppejfcolacaaS39cx
import Derived.Test.YtdbppejfcolacaaS39K
import Derived.Test.YtdbppejfcolacaaEvY
set_option linter.unusedVariables false
set_option linter.unusedSimpArgs false
set_option linter.unusedSectionVars false
namespace Go.Proofs.S39
open Go Go.Ev Go.Proofs
set_option linter.unusedSimpArgs false
set_option linter.unusedVariables false
set_option linter.unusedSectionVars false
variable {gl : Gl} {n : Nat}
def told (l : List T3) : List AV := l.map fun m => .agg [i64 m.g, i64 m.w, i64 m.n]
theorem told_app (l : List T3) (m : T3) : told (l ++ [m]) = told l ++ [.agg [i64 m.g, i64 m.w, i64 m.n]] := by simp [told]
theorem told_length (l : List T3) : (told l).length = l.length := by simp [told]
theorem told_one (m : T3) : told [m] = [.agg [i64 m.g, i64 m.w, i64 m.n]] := rfl
theorem told_take (l : List T3) (v : AV) : (told l ++ [v]).take (l.length + 1) = told l ++ [v] := by rw [← told_length]; exact List.take_of_length_le (by simp)
theorem told_get {l : List T3} {j : Nat} (h : j < l.length) : (told l)[j]? = some (.agg [i64 l[j].g, i64 l[j].w, i64 l[j].n]) := by simp [told, h]
abbrev sT : Sh := .st [.sc, .sc, .sc]
def ints (l : List Int) : List AV := l.map i64
theorem ints_length (l : List Int) : (ints l).length = l.length := by simp [ints]
theorem ints_set (l : List Int) (k : Nat) (v : Int) : (ints l).set k (i64 v) = ints (l.set k v) := by simp [ints]
theorem ints_get {l : List Int} {j : Nat} (h : j < l.length) : (ints l)[j]? = some (i64 (l.getD j 0)) := by simp [ints, h]
theorem ints_all (l : List Int) : ((ints l).all fun x => x.scalar) = true := by simp only [ints, List.all_map, List.all_eq_true]; intro x _; rfl
theorem ints_imm : ∀ l : List Int, noImms (ints l) = true
  | [] => rfl
  | x :: l => by show (noImm (i64 x) && noImms (ints l)) = true; rw [ints_imm l]; rfl
theorem told_imm : ∀ l : List T3, noImms (told l) = true
  | [] => rfl
  | x :: l => by show (noImm (.agg [i64 x.g, i64 x.w, i64 x.n]) && noImms (told l)) = true; rw [told_imm l]; rfl
structure Fl where
  fb : Bool
  f0 : Bool
  f1 : Bool
  fd : Bool
  fe : Bool
  sb : Sh
  s0 : Sh
  s1 : Sh
  sd : Sh
  se : Sh
structure FlOk (x : Wd) (f : Fl) : Prop where
  b : Shp x.rows f.sb
  h0 : Shp x.p0 f.s0
  h1 : Shp x.p1 f.s1
  d : x.ds = [] ∨ f.sd = sT
  e : x.bs = [] ∨ f.se = sT
def wav (x : Wd) (f : Fl) (t : Int) : AV :=
  .agg [bank x.c 100 f.fb f.sb x.rows, .agg [purse 100 f.f0 f.s0 x.p0, purse 100 f.f1 f.s1 x.p1], .lst f.fd f.sd (told x.ds), .lst f.fe f.se (told x.bs), i64 t, .agg (ints x.cs), .bool false]
abbrev u8 (n : Int) : AV := .int .u8 n
def actv (k g w m a e l : Int) : AV := .agg [u8 k, u8 g, u8 w, u8 m, u8 a, u8 e, u8 l]
structure U8 (n : Int) : Prop where
  lo : 0 ≤ n
  hi : n ≤ 255
/-- What is computed before an act's kind is looked at. -/
structure Pre (t0 a e l g w m : Int) (aa T ee lo ll gg q ww m8 m4 : Int) : Prop where
  a : Int.tmod a 64 = aa
  t : (if t0 + aa < 3999 then t0 + aa else 3999) = T
  e : Int.tmod e 60 = ee
  lo : (if 0 < T - ee then T - ee else 0) = lo
  l : Int.tmod l 60 = ll
  g : Int.tmod g 2 = gg
  q : Int.tdiv T 100 = q
  w : Int.tmod w 3 = ww
  m8 : Int.tmod m 8 = m8
  m4 : Int.tmod m 4 = m4
theorem pre_ok {t0 a e l g w m : Int} (h0 : 0 ≤ t0 ∧ t0 ≤ 3999) (ha : U8 a) (he : U8 e) (hl : U8 l) (hg : U8 g) (hw : U8 w) (hm : U8 m) :
    ∃ aa T ee lo ll gg q ww m8 m4, Pre t0 a e l g w m aa T ee lo ll gg q ww m8 m4 ∧ 0 ≤ aa ∧ aa ≤ 63 ∧ t0 ≤ T ∧ T ≤ 3999 ∧ 0 ≤ ee ∧ ee ≤ 59 ∧ 0 ≤ lo ∧ lo ≤ T ∧ 0 ≤ ll ∧ ll ≤ 59 ∧ (gg = 0 ∨ gg = 1) ∧ q = T / 100 ∧ 0 ≤ ww ∧ ww ≤ 2 ∧ 0 ≤ m8 ∧ m8 ≤ 7 ∧ 0 ≤ m4 ∧ m4 ≤ 3 := by
  have r : ∀ {x : Int} (y : Int), U8 x → 0 < y → 0 ≤ Int.tmod x y ∧ Int.tmod x y < y := fun y hx hy => ⟨Int.tmod_nonneg _ hx.lo, Int.tmod_lt_of_pos _ hy⟩
  have r1 := r 64 ha (by omega)
  have r2 := r 60 he (by omega)
  have r3 := r 60 hl (by omega)
  have r4 := r 2 hg (by omega)
  have r5 := r 3 hw (by omega)
  have r6 := r 8 hm (by omega)
  have r7 := r 4 hm (by omega)
  refine ⟨_, _, _, _, _, _, _, _, _, _, ⟨rfl, rfl, rfl, rfl, rfl, rfl, rfl, rfl, rfl, rfl⟩, r1.1, by omega, by split <;> omega, by split <;> omega, r2.1, by omega, by split <;> omega, ?_, r3.1, by omega, by omega, Int.tdiv_eq_ediv_of_nonneg (by split <;> omega), r5.1, by omega, r6.1, by omega, r7.1, by omega⟩
  split <;> split <;> omega
theorem at41 {T q w : Int} (h : q = T / 100) (h1 : T ≤ 3999) (h2 : w ≤ 2) (h0 : 0 ≤ w) : T / 100 ≤ q + w ∧ q + w ≤ 41 := by omega
section
variable {i : Nat} {x : Wd} {f : Fl} {k g w m a e l : Int}
def Acts (gl : Gl) (n i : Nat) (x : Wd) (f : Fl) (k g w m a e l : Int) : Prop :=
  ∃ x' f', Inv (i + 1) x' ∧ FlOk x' f' ∧ x'.c = x.c ∧ call gl tab (n + 1) 42 [wav x f x.t, actv k g w m a e l] [] = some (wav x' f' x'.t, [], [])
end
end Go.Proofs.S39
namespace Go.Proofs.S39
open Go Go.Ev Go.Proofs
set_option linter.unusedSimpArgs false
set_option linter.unusedVariables false
variable {gl : Gl} {n : Nat}
section
variable {i : Nat} {x : Wd} {f : Fl} {k g w m a e l : Int}
set_option maxHeartbeats 4000000 in
theorem act0 (hn : 15 ≤ n) (hI : Inv i x) (hi : i < 100) (hf : FlOk x f) (hk : Int.tmod k 8 = 0) (uk : U8 k) (ug : U8 g) (uw : U8 w) (um : U8 m) (ua : U8 a) (ue : U8 e) (ul : U8 l) : Acts gl n i x f k g w m a e l := by
  obtain ⟨aa, T, ee, lo, ll, gg, q, ww, m8, m4, P, a1, a2, t1, t2, e1, e2, l1, l2, l3, l4, hg, hq, w1, w2, n1, n2, n3, n4⟩ := pre_ok hI.t ua ue ul ug uw um
  obtain ⟨ha, ht, he, hlo, hl, hgg, hqq, hww, hm8, hm4⟩ := P
  have I2 := hI.time t1 t2
  have hat := at41 hq t2 w2 w1
  have ht0 := hI.t
  have hlr := hI.lr
  have hl0 := hI.l0
  have hl1 := hI.l1
  have hld := hI.ld
  have hlb := hI.lb
  have h40 := hI.lc
  have hib := ints_all x.cs
  have li1 : 1 ≤ LIM := by unfold LIM; omega
  have li2 : x.ds.length ≤ LIM := by unfold LIM; omega
  have li3 : x.ds.length + 1 ≤ LIM := by unfold LIM; omega
  have li4 : x.bs.length ≤ LIM := by unfold LIM; omega
  have li5 : x.bs.length + 1 ≤ LIM := by unfold LIM; omega
  obtain ⟨u1, u2⟩ := uk; obtain ⟨u3, u4⟩ := ug; obtain ⟨u5, u6⟩ := uw; obtain ⟨u7, u8⟩ := um; obtain ⟨u9, u10⟩ := ua; obtain ⟨u11, u12⟩ := ue; obtain ⟨u13, u14⟩ := ul
  obtain ⟨kk, hkk⟩ := exists_lb (vb_asc hI.vb) (key (q + ww) (gg + 1))
  have hda : DArg (q + ww) (gg + 1) (1 + m8) := ⟨by omega, by omega, by omega⟩
  have hll : x.rows.length < 2 ^ 30 := by omega
  by_cases hr : DRoom x.c x.rows kk (q + ww) (gg + 1) (1 + m8)
  · have I3 := Inv.deal I2 (by omega) hg ⟨hat.1, hat.2⟩ (by omega) hkk hr
    have c10 := deal_ok (gl := gl) (n := n) (f := f.fb) hf.b hll (by omega) hI.vb hda hkk hr
    obtain ⟨p1, p2, p3, p4⟩ := rowOr_put (vb_asc hI.vb) (x := more x.rows kk (q + ww) (gg + 1) (1 + m8)) (w := q + ww) (g := gg + 1) ⟨rfl, rfl⟩ hkk
    have v3 : VB x.c 100 (putL x.rows kk (more x.rows kk (q + ww) (gg + 1) (1 + m8))) := I3.vb
    have c20 := dealt_t (gl := gl) (n := n) (by omega) x.c 100 false (.inr rfl) (q + ww) (gg + 1) v3 p2
    rw [p4] at c20
    refine ⟨_, ⟨false, f.f0, f.f1, false, f.fe, sR, f.s0, f.s1, sT, f.se⟩, I3, ⟨.inr rfl, hf.h0, hf.h1, .inr rfl, hf.e⟩, rfl, ?_⟩
    have hd := hf.d
    generalize (more x.rows kk (q + ww) (gg + 1) (1 + m8)).d = dd at *
    generalize putL x.rows kk (more x.rows kk (q + ww) (gg + 1) (1 + m8)) = rr at *
    simp only [bank] at c10 c20
    clear v3 I3 p1 p2 p3 p4 hr hda hkk I2 hI
    rw [call_go (fd := fd42) rfl]
    rcases hd with hd | hd
    · simp (disch := ((fail_if_success (intro _)); omega)) only [go_sem, simprocAttr, ↓reduceIte, xx, guardK_tt', Co.guardK_ff', fd42, m42, wav, actv, bank, purse, told_length, told_app, told_one, told_take, ints_length, hib, h40, foldO, minAV, maxAV, gt_iff_lt, binInt, hk, ha, ht, he, hlo, hl, hgg, hqq, hww, hm8, hm4, li1, li2, li3, li4, li5, bne, c10, c20, hd, show told [] = [] from rfl]
    · simp (disch := ((fail_if_success (intro _)); omega)) only [go_sem, simprocAttr, ↓reduceIte, xx, guardK_tt', Co.guardK_ff', fd42, m42, wav, actv, bank, purse, told_length, told_app, told_one, told_take, ints_length, hib, h40, foldO, minAV, maxAV, gt_iff_lt, binInt, hk, ha, ht, he, hlo, hl, hgg, hqq, hww, hm8, hm4, li1, li2, li3, li4, li5, bne, c10, c20, hd]
  · have c10 := deal_lim (gl := gl) (n := n) (f := f.fb) hf.b hll (by omega) hI.vb hda hkk hr
    refine ⟨_, f, I2.more, ⟨hf.b, hf.h0, hf.h1, hf.d, hf.e⟩, rfl, ?_⟩
    simp only [bank, bank0, rows_nil] at c10
    clear hr hda hkk I2 hI
    rw [call_go (fd := fd42) rfl]
    simp (disch := ((fail_if_success (intro _)); omega)) only [go_sem, simprocAttr, ↓reduceIte, xx, guardK_tt', Co.guardK_ff', fd42, m42, wav, actv, bank, purse, told_length, told_app, told_one, told_take, ints_length, hib, h40, foldO, minAV, maxAV, gt_iff_lt, binInt, hk, ha, ht, he, hlo, hl, hgg, hqq, hww, hm8, hm4, li1, li2, li3, li4, li5, bne, c10]
end
end Go.Proofs.S39
namespace Go.Proofs.S39
open Go Go.Ev Go.Proofs
set_option linter.unusedSimpArgs false
set_option linter.unusedVariables false
variable {gl : Gl} {n : Nat}
section
variable {i : Nat} {x : Wd} {f : Fl} {k g w m a e l : Int}
set_option maxHeartbeats 4000000 in
theorem act1 (hn : 15 ≤ n) (hI : Inv i x) (hi : i < 100) (hf : FlOk x f) (hk : Int.tmod k 8 = 1) (uk : U8 k) (ug : U8 g) (uw : U8 w) (um : U8 m) (ua : U8 a) (ue : U8 e) (ul : U8 l) : Acts gl n i x f k g w m a e l := by
  obtain ⟨aa, T, ee, lo, ll, gg, q, ww, m8, m4, P, a1, a2, t1, t2, e1, e2, l1, l2, l3, l4, hg, hq, w1, w2, n1, n2, n3, n4⟩ := pre_ok hI.t ua ue ul ug uw um
  obtain ⟨ha, ht, he, hlo, hl, hgg, hqq, hww, hm8, hm4⟩ := P
  have I2 := hI.time t1 t2
  have hat := at41 hq t2 w2 w1
  have ht0 := hI.t
  have hlr := hI.lr
  have hl0 := hI.l0
  have hl1 := hI.l1
  have hld := hI.ld
  have hlb := hI.lb
  have h40 := hI.lc
  have hib := ints_all x.cs
  have li1 : 1 ≤ LIM := by unfold LIM; omega
  have li2 : x.ds.length ≤ LIM := by unfold LIM; omega
  have li3 : x.ds.length + 1 ≤ LIM := by unfold LIM; omega
  have li4 : x.bs.length ≤ LIM := by unfold LIM; omega
  have li5 : x.bs.length + 1 ≤ LIM := by unfold LIM; omega
  obtain ⟨u1, u2⟩ := uk; obtain ⟨u3, u4⟩ := ug; obtain ⟨u5, u6⟩ := uw; obtain ⟨u7, u8⟩ := um; obtain ⟨u9, u10⟩ := ua; obtain ⟨u11, u12⟩ := ue; obtain ⟨u13, u14⟩ := ul
  by_cases h0 : x.ds = []
  · refine ⟨_, f, I2.more, ⟨hf.b, hf.h0, hf.h1, hf.d, hf.e⟩, rfl, ?_⟩
    clear I2 hI
    rw [call_go (fd := fd42) rfl]
    simp (disch := ((fail_if_success (intro _)); omega)) only [go_sem, simprocAttr, ↓reduceIte, xx, guardK_tt', Co.guardK_ff', fd42, m42, wav, actv, bank, purse, told_length, told_app, told_one, told_take, ints_length, hib, h40, foldO, minAV, maxAV, gt_iff_lt, binInt, hk, ha, ht, he, hlo, hl, hgg, hqq, hww, hm8, hm4, li1, li2, li3, li4, li5, bne, h0, show told [] = [] from rfl]
  have hpos : 0 < x.ds.length := List.length_pos_iff.2 h0
  have hjj := Int.tmod_lt_of_pos m (show (0 : Int) < x.ds.length by omega)
  have hj0 := Int.tmod_nonneg (x.ds.length : Int) u7
  obtain ⟨j, hj⟩ : ∃ j : Nat, Int.tmod m x.ds.length = j := ⟨(Int.tmod m x.ds.length).toNat, by omega⟩
  rw [hj] at hjj hj0
  have hjl : j < x.ds.length := by omega
  have hget := told_get hjl
  have hmem := List.getElem_mem hjl
  obtain ⟨hmo, hmn⟩ := hI.ds _ hmem
  have hlz : ¬ ((x.ds.length : Int) = 0) := by omega
  have hsd := hf.d.resolve_left h0
  obtain ⟨kk, hkk⟩ := Co.exists_lb (Co.vp_asc hI.vp) (Co.keyW x.ds[j].w) (l := x.p x.ds[j].g)
  have hca : Co.CArg x.ds[j].w x.ds[j].n := ⟨by have := hmo.w; omega, hmo.n⟩
  obtain ⟨o1, o2⟩ := hmo.w
  obtain ⟨o3, o4⟩ := hmo.n
  by_cases hr : x.ds[j].n ≤ (Co.coinOr (x.p x.ds[j].g) kk (Co.keyW x.ds[j].w)).g
  · refine ⟨_, f, I2.more, ⟨hf.b, hf.h0, hf.h1, hf.d, hf.e⟩, rfl, ?_⟩
    rcases hmo.g with hmg | hmg <;> rw [hmg] at hkk hr
    · have c24 := Co.receive_same (gl := gl) (n := n) (f := f.f0) hf.h0 (by omega) (by omega) hI.v0 hca hkk hr
      simp only [purse] at c24
      rw [hmg] at hget
      generalize x.ds[j].w = v1 at *
      generalize x.ds[j].n = v2 at *
      clear hmo hmn hr hca hkk I2 hI hmem
      rw [call_go (fd := fd42) rfl]
      simp (disch := ((fail_if_success (intro _)); omega)) only [go_sem, simprocAttr, ↓reduceIte, xx, guardK_tt', Co.guardK_ff', fd42, m42, wav, actv, bank, purse, told_length, told_app, told_one, told_take, ints_length, hib, h40, foldO, minAV, maxAV, gt_iff_lt, binInt, hk, ha, ht, he, hlo, hl, hgg, hqq, hww, hm8, hm4, li1, li2, li3, li4, li5, bne, hj, hlz, hget, c24, hsd]
    · have c24 := Co.receive_same (gl := gl) (n := n) (f := f.f1) hf.h1 (by omega) (by omega) hI.v1 hca hkk hr
      simp only [purse] at c24
      rw [hmg] at hget
      generalize x.ds[j].w = v1 at *
      generalize x.ds[j].n = v2 at *
      clear hmo hmn hr hca hkk I2 hI hmem
      rw [call_go (fd := fd42) rfl]
      simp (disch := ((fail_if_success (intro _)); omega)) only [go_sem, simprocAttr, ↓reduceIte, xx, guardK_tt', Co.guardK_ff', fd42, m42, wav, actv, bank, purse, told_length, told_app, told_one, told_take, ints_length, hib, h40, foldO, minAV, maxAV, gt_iff_lt, binInt, hk, ha, ht, he, hlo, hl, hgg, hqq, hww, hm8, hm4, li1, li2, li3, li4, li5, bne, hj, hlz, hget, c24, hsd]
  · have I3 := Inv.recv I2 (by omega) hmem hkk hr
    rcases hmo.g with hmg | hmg <;> rw [hmg] at hkk hr I3
    · have c24 := Co.receive_ok (gl := gl) (n := n) (f := f.f0) hf.h0 (by omega) (by omega) hI.v0 hca hkk hr (.inr (by omega))
      have I4 : Inv (i + 1) { x with t := T, p0 := Co.putL x.p0 kk (Co.gotC (Co.coinOr x.p0 kk (Co.keyW x.ds[j].w)) x.ds[j].n) } := I3
      refine ⟨_, ⟨f.fb, false, f.f1, f.fd, f.fe, f.sb, sR, f.s1, f.sd, f.se⟩, I4, ⟨hf.b, .inr rfl, hf.h1, hf.d, hf.e⟩, rfl, ?_⟩
      simp only [purse] at c24
      rw [hmg] at hget
      clear I3 I4
      generalize Co.putL x.p0 kk (Co.gotC (Co.coinOr x.p0 kk (Co.keyW x.ds[j].w)) x.ds[j].n) = rr at *
      generalize x.ds[j].w = v1 at *
      generalize x.ds[j].n = v2 at *
      clear hmo hmn hr hca hkk I2 hI hmem
      rw [call_go (fd := fd42) rfl]
      simp (disch := ((fail_if_success (intro _)); omega)) only [go_sem, simprocAttr, ↓reduceIte, xx, guardK_tt', Co.guardK_ff', fd42, m42, wav, actv, bank, purse, told_length, told_app, told_one, told_take, ints_length, hib, h40, foldO, minAV, maxAV, gt_iff_lt, binInt, hk, ha, ht, he, hlo, hl, hgg, hqq, hww, hm8, hm4, li1, li2, li3, li4, li5, bne, hj, hlz, hget, c24, hsd]
    · have c24 := Co.receive_ok (gl := gl) (n := n) (f := f.f1) hf.h1 (by omega) (by omega) hI.v1 hca hkk hr (.inr (by omega))
      have I4 : Inv (i + 1) { x with t := T, p1 := Co.putL x.p1 kk (Co.gotC (Co.coinOr x.p1 kk (Co.keyW x.ds[j].w)) x.ds[j].n) } := I3
      refine ⟨_, ⟨f.fb, f.f0, false, f.fd, f.fe, f.sb, f.s0, sR, f.sd, f.se⟩, I4, ⟨hf.b, hf.h0, .inr rfl, hf.d, hf.e⟩, rfl, ?_⟩
      simp only [purse] at c24
      rw [hmg] at hget
      clear I3 I4
      generalize Co.putL x.p1 kk (Co.gotC (Co.coinOr x.p1 kk (Co.keyW x.ds[j].w)) x.ds[j].n) = rr at *
      generalize x.ds[j].w = v1 at *
      generalize x.ds[j].n = v2 at *
      clear hmo hmn hr hca hkk I2 hI hmem
      rw [call_go (fd := fd42) rfl]
      simp (disch := ((fail_if_success (intro _)); omega)) only [go_sem, simprocAttr, ↓reduceIte, xx, guardK_tt', Co.guardK_ff', fd42, m42, wav, actv, bank, purse, told_length, told_app, told_one, told_take, ints_length, hib, h40, foldO, minAV, maxAV, gt_iff_lt, binInt, hk, ha, ht, he, hlo, hl, hgg, hqq, hww, hm8, hm4, li1, li2, li3, li4, li5, bne, hj, hlz, hget, c24, hsd]
end
end Go.Proofs.S39
namespace Go.Proofs.S39
open Go Go.Ev Go.Proofs
set_option linter.unusedSimpArgs false
set_option linter.unusedVariables false
variable {gl : Gl} {n : Nat}
section
variable {i : Nat} {x : Wd} {f : Fl} {k g w m a e l : Int}
set_option maxHeartbeats 4000000 in
theorem act2 (hn : 15 ≤ n) (hI : Inv i x) (hi : i < 100) (hf : FlOk x f) (hk : Int.tmod k 8 = 2) (uk : U8 k) (ug : U8 g) (uw : U8 w) (um : U8 m) (ua : U8 a) (ue : U8 e) (ul : U8 l) : Acts gl n i x f k g w m a e l := by
  obtain ⟨aa, T, ee, lo, ll, gg, q, ww, m8, m4, P, a1, a2, t1, t2, e1, e2, l1, l2, l3, l4, hg, hq, w1, w2, n1, n2, n3, n4⟩ := pre_ok hI.t ua ue ul ug uw um
  obtain ⟨ha, ht, he, hlo, hl, hgg, hqq, hww, hm8, hm4⟩ := P
  have I2 := hI.time t1 t2
  have hat := at41 hq t2 w2 w1
  have ht0 := hI.t
  have hlr := hI.lr
  have hl0 := hI.l0
  have hl1 := hI.l1
  have hld := hI.ld
  have hlb := hI.lb
  have h40 := hI.lc
  have hib := ints_all x.cs
  have li1 : 1 ≤ LIM := by unfold LIM; omega
  have li2 : x.ds.length ≤ LIM := by unfold LIM; omega
  have li3 : x.ds.length + 1 ≤ LIM := by unfold LIM; omega
  have li4 : x.bs.length ≤ LIM := by unfold LIM; omega
  have li5 : x.bs.length + 1 ≤ LIM := by unfold LIM; omega
  obtain ⟨u1, u2⟩ := uk; obtain ⟨u3, u4⟩ := ug; obtain ⟨u5, u6⟩ := uw; obtain ⟨u7, u8⟩ := um; obtain ⟨u9, u10⟩ := ua; obtain ⟨u11, u12⟩ := ue; obtain ⟨u13, u14⟩ := ul
  have hpv : PV lo (T + ll) := ⟨l1, by omega, by omega⟩
  have hqt : 0 ≤ q ∧ q ≤ 39 := by omega
  have hqn : q.toNat < x.cs.length := by omega
  have hget := ints_get hqn
  have hcb := hI.cs q.toNat (by omega)
  by_cases htm : (T + ll) / 100 = lo / 100
  case neg =>
    refine ⟨_, f, I2.more, ⟨hf.b, hf.h0, hf.h1, hf.d, hf.e⟩, rfl, ?_⟩
    rcases hg with hg | hg <;> rw [hg] at hgg
    · have c30 := Co.spend_time (gl := gl) (n := n) (f := f.f0) hf.h0 (by omega) (by omega) hI.v0 hpv htm
      simp only [purse, Co.purse0, rows_nil] at c30
      clear I2 hI
      rw [call_go (fd := fd42) rfl]
      simp (disch := ((fail_if_success (intro _)); omega)) only [go_sem, simprocAttr, ↓reduceIte, xx, guardK_tt', Co.guardK_ff', fd42, m42, wav, actv, bank, purse, told_length, told_app, told_one, told_take, ints_length, hib, h40, foldO, minAV, maxAV, gt_iff_lt, binInt, hk, ha, ht, he, hlo, hl, hgg, hqq, hww, hm8, hm4, li1, li2, li3, li4, li5, bne, c30]
    · have c30 := Co.spend_time (gl := gl) (n := n) (f := f.f1) hf.h1 (by omega) (by omega) hI.v1 hpv htm
      simp only [purse, Co.purse0, rows_nil] at c30
      clear I2 hI
      rw [call_go (fd := fd42) rfl]
      simp (disch := ((fail_if_success (intro _)); omega)) only [go_sem, simprocAttr, ↓reduceIte, xx, guardK_tt', Co.guardK_ff', fd42, m42, wav, actv, bank, purse, told_length, told_app, told_one, told_take, ints_length, hib, h40, foldO, minAV, maxAV, gt_iff_lt, binInt, hk, ha, ht, he, hlo, hl, hgg, hqq, hww, hm8, hm4, li1, li2, li3, li4, li5, bne, c30]
  have hlq : lo / 100 = q := by omega
  obtain ⟨kk, hkk⟩ := Co.exists_lb (Co.vp_asc hI.vp) (Co.keyW (lo / 100)) (l := x.p gg)
  by_cases hr : Co.leftF (Co.coinOr (x.p gg) kk (Co.keyW (lo / 100))) = 0
  · refine ⟨_, f, I2.more, ⟨hf.b, hf.h0, hf.h1, hf.d, hf.e⟩, rfl, ?_⟩
    rcases hg with hg | hg <;> rw [hg] at hgg hkk hr
    · have c30 := Co.spend_state (gl := gl) (n := n) (f := f.f0) hf.h0 (by omega) (by omega) hI.v0 hpv htm hkk hr
      simp only [purse, Co.purse0, rows_nil] at c30
      clear I2 hI
      rw [call_go (fd := fd42) rfl]
      simp (disch := ((fail_if_success (intro _)); omega)) only [go_sem, simprocAttr, ↓reduceIte, xx, guardK_tt', Co.guardK_ff', fd42, m42, wav, actv, bank, purse, told_length, told_app, told_one, told_take, ints_length, hib, h40, foldO, minAV, maxAV, gt_iff_lt, binInt, hk, ha, ht, he, hlo, hl, hgg, hqq, hww, hm8, hm4, li1, li2, li3, li4, li5, bne, c30]
    · have c30 := Co.spend_state (gl := gl) (n := n) (f := f.f1) hf.h1 (by omega) (by omega) hI.v1 hpv htm hkk hr
      simp only [purse, Co.purse0, rows_nil] at c30
      clear I2 hI
      rw [call_go (fd := fd42) rfl]
      simp (disch := ((fail_if_success (intro _)); omega)) only [go_sem, simprocAttr, ↓reduceIte, xx, guardK_tt', Co.guardK_ff', fd42, m42, wav, actv, bank, purse, told_length, told_app, told_one, told_take, ints_length, hib, h40, foldO, minAV, maxAV, gt_iff_lt, binInt, hk, ha, ht, he, hlo, hl, hgg, hqq, hww, hm8, hm4, li1, li2, li3, li4, li5, bne, c30]
  · have I3 := Inv.spend I2 (by omega) hg (hlq.trans hq) hkk hr
    rw [hlq] at I3
    rcases hg with hg | hg <;> rw [hg] at hgg hkk hr I3
    · have c30 := Co.spend_ok (gl := gl) (n := n) (f := f.f0) hf.h0 (by omega) (by omega) hI.v0 hpv htm hkk hr
      rw [hlq] at c30
      have I4 : Inv (i + 1) { x with t := T, p0 := Co.putL x.p0 kk (Co.spentC (Co.coinOr x.p0 kk (Co.keyW q))), cs := x.cs.set q.toNat (x.cs.getD q.toNat 0 + 1) } := I3
      refine ⟨_, ⟨f.fb, false, f.f1, f.fd, f.fe, f.sb, sR, f.s1, f.sd, f.se⟩, I4, ⟨hf.b, .inr rfl, hf.h1, hf.d, hf.e⟩, rfl, ?_⟩
      simp only [purse] at c30
      have hib2 := ints_all (x.cs.set q.toNat (x.cs.getD q.toNat 0 + 1))
      clear I3 I4
      generalize Co.putL x.p0 kk (Co.spentC (Co.coinOr x.p0 kk (Co.keyW q))) = rr at *
      clear hr hkk I2 hI
      rw [call_go (fd := fd42) rfl]
      simp (disch := ((fail_if_success (intro _)); omega)) only [go_sem, simprocAttr, ↓reduceIte, xx, guardK_tt', Co.guardK_ff', fd42, m42, wav, actv, bank, purse, told_length, told_app, told_one, told_take, ints_length, hib, h40, foldO, minAV, maxAV, gt_iff_lt, binInt, hk, ha, ht, he, hlo, hl, hgg, hqq, hww, hm8, hm4, li1, li2, li3, li4, li5, bne, hget, ints_set, List.length_set, hib2, c30]
    · have c30 := Co.spend_ok (gl := gl) (n := n) (f := f.f1) hf.h1 (by omega) (by omega) hI.v1 hpv htm hkk hr
      rw [hlq] at c30
      have I4 : Inv (i + 1) { x with t := T, p1 := Co.putL x.p1 kk (Co.spentC (Co.coinOr x.p1 kk (Co.keyW q))), cs := x.cs.set q.toNat (x.cs.getD q.toNat 0 + 1) } := I3
      refine ⟨_, ⟨f.fb, f.f0, false, f.fd, f.fe, f.sb, f.s0, sR, f.sd, f.se⟩, I4, ⟨hf.b, hf.h0, .inr rfl, hf.d, hf.e⟩, rfl, ?_⟩
      simp only [purse] at c30
      have hib2 := ints_all (x.cs.set q.toNat (x.cs.getD q.toNat 0 + 1))
      clear I3 I4
      generalize Co.putL x.p1 kk (Co.spentC (Co.coinOr x.p1 kk (Co.keyW q))) = rr at *
      clear hr hkk I2 hI
      rw [call_go (fd := fd42) rfl]
      simp (disch := ((fail_if_success (intro _)); omega)) only [go_sem, simprocAttr, ↓reduceIte, xx, guardK_tt', Co.guardK_ff', fd42, m42, wav, actv, bank, purse, told_length, told_app, told_one, told_take, ints_length, hib, h40, foldO, minAV, maxAV, gt_iff_lt, binInt, hk, ha, ht, he, hlo, hl, hgg, hqq, hww, hm8, hm4, li1, li2, li3, li4, li5, bne, hget, ints_set, List.length_set, hib2, c30]
end
end Go.Proofs.S39
namespace Go.Proofs.S39
open Go Go.Ev Go.Proofs
set_option linter.unusedSimpArgs false
set_option linter.unusedVariables false
variable {gl : Gl} {n : Nat}
section
variable {i : Nat} {x : Wd} {f : Fl} {k g w m a e l : Int}
set_option maxHeartbeats 4000000 in
theorem act3 (hn : 15 ≤ n) (hI : Inv i x) (hi : i < 100) (hf : FlOk x f) (hk : Int.tmod k 8 = 3) (uk : U8 k) (ug : U8 g) (uw : U8 w) (um : U8 m) (ua : U8 a) (ue : U8 e) (ul : U8 l) : Acts gl n i x f k g w m a e l := by
  obtain ⟨aa, T, ee, lo, ll, gg, q, ww, m8, m4, P, a1, a2, t1, t2, e1, e2, l1, l2, l3, l4, hg, hq, w1, w2, n1, n2, n3, n4⟩ := pre_ok hI.t ua ue ul ug uw um
  obtain ⟨ha, ht, he, hlo, hl, hgg, hqq, hww, hm8, hm4⟩ := P
  have I2 := hI.time t1 t2
  have hat := at41 hq t2 w2 w1
  have ht0 := hI.t
  have hlr := hI.lr
  have hl0 := hI.l0
  have hl1 := hI.l1
  have hld := hI.ld
  have hlb := hI.lb
  have h40 := hI.lc
  have hib := ints_all x.cs
  have li1 : 1 ≤ LIM := by unfold LIM; omega
  have li2 : x.ds.length ≤ LIM := by unfold LIM; omega
  have li3 : x.ds.length + 1 ≤ LIM := by unfold LIM; omega
  have li4 : x.bs.length ≤ LIM := by unfold LIM; omega
  have li5 : x.bs.length + 1 ≤ LIM := by unfold LIM; omega
  obtain ⟨u1, u2⟩ := uk; obtain ⟨u3, u4⟩ := ug; obtain ⟨u5, u6⟩ := uw; obtain ⟨u7, u8⟩ := um; obtain ⟨u9, u10⟩ := ua; obtain ⟨u11, u12⟩ := ue; obtain ⟨u13, u14⟩ := ul
  have hpv : PV lo (T + ll) := ⟨l1, by omega, by omega⟩
  have hqt : 0 ≤ q ∧ q ≤ 39 := by omega
  have hqn : q.toNat < x.cs.length := by omega
  have hget := ints_get hqn
  have hcb := hI.cs q.toNat (by omega)
  by_cases htm : (T + ll) / 100 = lo / 100
  case neg =>
    refine ⟨_, f, I2.more, ⟨hf.b, hf.h0, hf.h1, hf.d, hf.e⟩, rfl, ?_⟩
    rcases hg with hg | hg <;> rw [hg] at hgg
    · have c30 := Co.spend_time (gl := gl) (n := n) (f := f.f0) hf.h0 (by omega) (by omega) hI.v0 hpv htm
      simp only [purse, Co.purse0, rows_nil] at c30
      clear I2 hI
      rw [call_go (fd := fd42) rfl]
      simp (disch := ((fail_if_success (intro _)); omega)) only [go_sem, simprocAttr, ↓reduceIte, xx, guardK_tt', Co.guardK_ff', fd42, m42, wav, actv, bank, purse, told_length, told_app, told_one, told_take, ints_length, hib, h40, foldO, minAV, maxAV, gt_iff_lt, binInt, hk, ha, ht, he, hlo, hl, hgg, hqq, hww, hm8, hm4, li1, li2, li3, li4, li5, bne, c30]
    · have c30 := Co.spend_time (gl := gl) (n := n) (f := f.f1) hf.h1 (by omega) (by omega) hI.v1 hpv htm
      simp only [purse, Co.purse0, rows_nil] at c30
      clear I2 hI
      rw [call_go (fd := fd42) rfl]
      simp (disch := ((fail_if_success (intro _)); omega)) only [go_sem, simprocAttr, ↓reduceIte, xx, guardK_tt', Co.guardK_ff', fd42, m42, wav, actv, bank, purse, told_length, told_app, told_one, told_take, ints_length, hib, h40, foldO, minAV, maxAV, gt_iff_lt, binInt, hk, ha, ht, he, hlo, hl, hgg, hqq, hww, hm8, hm4, li1, li2, li3, li4, li5, bne, c30]
  have hlq : lo / 100 = q := by omega
  obtain ⟨kk, hkk⟩ := Co.exists_lb (Co.vp_asc hI.vp) (Co.keyW (lo / 100)) (l := x.p gg)
  by_cases hr : Co.leftF (Co.coinOr (x.p gg) kk (Co.keyW (lo / 100))) = 0
  · refine ⟨_, f, I2.more, ⟨hf.b, hf.h0, hf.h1, hf.d, hf.e⟩, rfl, ?_⟩
    rcases hg with hg | hg <;> rw [hg] at hgg hkk hr
    · have c30 := Co.spend_state (gl := gl) (n := n) (f := f.f0) hf.h0 (by omega) (by omega) hI.v0 hpv htm hkk hr
      simp only [purse, Co.purse0, rows_nil] at c30
      clear I2 hI
      rw [call_go (fd := fd42) rfl]
      simp (disch := ((fail_if_success (intro _)); omega)) only [go_sem, simprocAttr, ↓reduceIte, xx, guardK_tt', Co.guardK_ff', fd42, m42, wav, actv, bank, purse, told_length, told_app, told_one, told_take, ints_length, hib, h40, foldO, minAV, maxAV, gt_iff_lt, binInt, hk, ha, ht, he, hlo, hl, hgg, hqq, hww, hm8, hm4, li1, li2, li3, li4, li5, bne, c30]
    · have c30 := Co.spend_state (gl := gl) (n := n) (f := f.f1) hf.h1 (by omega) (by omega) hI.v1 hpv htm hkk hr
      simp only [purse, Co.purse0, rows_nil] at c30
      clear I2 hI
      rw [call_go (fd := fd42) rfl]
      simp (disch := ((fail_if_success (intro _)); omega)) only [go_sem, simprocAttr, ↓reduceIte, xx, guardK_tt', Co.guardK_ff', fd42, m42, wav, actv, bank, purse, told_length, told_app, told_one, told_take, ints_length, hib, h40, foldO, minAV, maxAV, gt_iff_lt, binInt, hk, ha, ht, he, hlo, hl, hgg, hqq, hww, hm8, hm4, li1, li2, li3, li4, li5, bne, c30]
  · have I3 := Inv.spend I2 (by omega) hg (hlq.trans hq) hkk hr
    rw [hlq] at I3
    rcases hg with hg | hg <;> rw [hg] at hgg hkk hr I3
    · have c30 := Co.spend_ok (gl := gl) (n := n) (f := f.f0) hf.h0 (by omega) (by omega) hI.v0 hpv htm hkk hr
      rw [hlq] at c30
      have I4 : Inv (i + 1) { x with t := T, p0 := Co.putL x.p0 kk (Co.spentC (Co.coinOr x.p0 kk (Co.keyW q))), cs := x.cs.set q.toNat (x.cs.getD q.toNat 0 + 1) } := I3
      refine ⟨_, ⟨f.fb, false, f.f1, f.fd, f.fe, f.sb, sR, f.s1, f.sd, f.se⟩, I4, ⟨hf.b, .inr rfl, hf.h1, hf.d, hf.e⟩, rfl, ?_⟩
      simp only [purse] at c30
      have hib2 := ints_all (x.cs.set q.toNat (x.cs.getD q.toNat 0 + 1))
      clear I3 I4
      generalize Co.putL x.p0 kk (Co.spentC (Co.coinOr x.p0 kk (Co.keyW q))) = rr at *
      clear hr hkk I2 hI
      rw [call_go (fd := fd42) rfl]
      simp (disch := ((fail_if_success (intro _)); omega)) only [go_sem, simprocAttr, ↓reduceIte, xx, guardK_tt', Co.guardK_ff', fd42, m42, wav, actv, bank, purse, told_length, told_app, told_one, told_take, ints_length, hib, h40, foldO, minAV, maxAV, gt_iff_lt, binInt, hk, ha, ht, he, hlo, hl, hgg, hqq, hww, hm8, hm4, li1, li2, li3, li4, li5, bne, hget, ints_set, List.length_set, hib2, c30]
    · have c30 := Co.spend_ok (gl := gl) (n := n) (f := f.f1) hf.h1 (by omega) (by omega) hI.v1 hpv htm hkk hr
      rw [hlq] at c30
      have I4 : Inv (i + 1) { x with t := T, p1 := Co.putL x.p1 kk (Co.spentC (Co.coinOr x.p1 kk (Co.keyW q))), cs := x.cs.set q.toNat (x.cs.getD q.toNat 0 + 1) } := I3
      refine ⟨_, ⟨f.fb, f.f0, false, f.fd, f.fe, f.sb, f.s0, sR, f.sd, f.se⟩, I4, ⟨hf.b, hf.h0, .inr rfl, hf.d, hf.e⟩, rfl, ?_⟩
      simp only [purse] at c30
      have hib2 := ints_all (x.cs.set q.toNat (x.cs.getD q.toNat 0 + 1))
      clear I3 I4
      generalize Co.putL x.p1 kk (Co.spentC (Co.coinOr x.p1 kk (Co.keyW q))) = rr at *
      clear hr hkk I2 hI
      rw [call_go (fd := fd42) rfl]
      simp (disch := ((fail_if_success (intro _)); omega)) only [go_sem, simprocAttr, ↓reduceIte, xx, guardK_tt', Co.guardK_ff', fd42, m42, wav, actv, bank, purse, told_length, told_app, told_one, told_take, ints_length, hib, h40, foldO, minAV, maxAV, gt_iff_lt, binInt, hk, ha, ht, he, hlo, hl, hgg, hqq, hww, hm8, hm4, li1, li2, li3, li4, li5, bne, hget, ints_set, List.length_set, hib2, c30]
end
end Go.Proofs.S39
namespace Go.Proofs.S39
open Go Go.Ev Go.Proofs
set_option linter.unusedSimpArgs false
set_option linter.unusedVariables false
variable {gl : Gl} {n : Nat}
section
variable {i : Nat} {x : Wd} {f : Fl} {k g w m a e l : Int}
set_option maxHeartbeats 4000000 in
theorem act4 (hn : 15 ≤ n) (hI : Inv i x) (hi : i < 100) (hf : FlOk x f) (hk : Int.tmod k 8 = 4) (uk : U8 k) (ug : U8 g) (uw : U8 w) (um : U8 m) (ua : U8 a) (ue : U8 e) (ul : U8 l) : Acts gl n i x f k g w m a e l := by
  obtain ⟨aa, T, ee, lo, ll, gg, q, ww, m8, m4, P, a1, a2, t1, t2, e1, e2, l1, l2, l3, l4, hg, hq, w1, w2, n1, n2, n3, n4⟩ := pre_ok hI.t ua ue ul ug uw um
  obtain ⟨ha, ht, he, hlo, hl, hgg, hqq, hww, hm8, hm4⟩ := P
  have I2 := hI.time t1 t2
  have hat := at41 hq t2 w2 w1
  have ht0 := hI.t
  have hlr := hI.lr
  have hl0 := hI.l0
  have hl1 := hI.l1
  have hld := hI.ld
  have hlb := hI.lb
  have h40 := hI.lc
  have hib := ints_all x.cs
  have li1 : 1 ≤ LIM := by unfold LIM; omega
  have li2 : x.ds.length ≤ LIM := by unfold LIM; omega
  have li3 : x.ds.length + 1 ≤ LIM := by unfold LIM; omega
  have li4 : x.bs.length ≤ LIM := by unfold LIM; omega
  have li5 : x.bs.length + 1 ≤ LIM := by unfold LIM; omega
  obtain ⟨u1, u2⟩ := uk; obtain ⟨u3, u4⟩ := ug; obtain ⟨u5, u6⟩ := uw; obtain ⟨u7, u8⟩ := um; obtain ⟨u9, u10⟩ := ua; obtain ⟨u11, u12⟩ := ue; obtain ⟨u13, u14⟩ := ul
  have hpv : PV lo (T + ll) := ⟨l1, by omega, by omega⟩
  have hqt : 0 ≤ q ∧ q ≤ 39 := by omega
  have hqn : q.toNat < x.cs.length := by omega
  have hget := ints_get hqn
  have hcb := hI.cs q.toNat (by omega)
  by_cases htm : (T + ll) / 100 = lo / 100
  case neg =>
    refine ⟨_, f, I2.more, ⟨hf.b, hf.h0, hf.h1, hf.d, hf.e⟩, rfl, ?_⟩
    rcases hg with hg | hg <;> rw [hg] at hgg
    · have c30 := Co.spend_time (gl := gl) (n := n) (f := f.f0) hf.h0 (by omega) (by omega) hI.v0 hpv htm
      simp only [purse, Co.purse0, rows_nil] at c30
      clear I2 hI
      rw [call_go (fd := fd42) rfl]
      simp (disch := ((fail_if_success (intro _)); omega)) only [go_sem, simprocAttr, ↓reduceIte, xx, guardK_tt', Co.guardK_ff', fd42, m42, wav, actv, bank, purse, told_length, told_app, told_one, told_take, ints_length, hib, h40, foldO, minAV, maxAV, gt_iff_lt, binInt, hk, ha, ht, he, hlo, hl, hgg, hqq, hww, hm8, hm4, li1, li2, li3, li4, li5, bne, c30]
    · have c30 := Co.spend_time (gl := gl) (n := n) (f := f.f1) hf.h1 (by omega) (by omega) hI.v1 hpv htm
      simp only [purse, Co.purse0, rows_nil] at c30
      clear I2 hI
      rw [call_go (fd := fd42) rfl]
      simp (disch := ((fail_if_success (intro _)); omega)) only [go_sem, simprocAttr, ↓reduceIte, xx, guardK_tt', Co.guardK_ff', fd42, m42, wav, actv, bank, purse, told_length, told_app, told_one, told_take, ints_length, hib, h40, foldO, minAV, maxAV, gt_iff_lt, binInt, hk, ha, ht, he, hlo, hl, hgg, hqq, hww, hm8, hm4, li1, li2, li3, li4, li5, bne, c30]
  have hlq : lo / 100 = q := by omega
  obtain ⟨kk, hkk⟩ := Co.exists_lb (Co.vp_asc hI.vp) (Co.keyW (lo / 100)) (l := x.p gg)
  by_cases hr : Co.leftF (Co.coinOr (x.p gg) kk (Co.keyW (lo / 100))) = 0
  · refine ⟨_, f, I2.more, ⟨hf.b, hf.h0, hf.h1, hf.d, hf.e⟩, rfl, ?_⟩
    rcases hg with hg | hg <;> rw [hg] at hgg hkk hr
    · have c30 := Co.spend_state (gl := gl) (n := n) (f := f.f0) hf.h0 (by omega) (by omega) hI.v0 hpv htm hkk hr
      simp only [purse, Co.purse0, rows_nil] at c30
      clear I2 hI
      rw [call_go (fd := fd42) rfl]
      simp (disch := ((fail_if_success (intro _)); omega)) only [go_sem, simprocAttr, ↓reduceIte, xx, guardK_tt', Co.guardK_ff', fd42, m42, wav, actv, bank, purse, told_length, told_app, told_one, told_take, ints_length, hib, h40, foldO, minAV, maxAV, gt_iff_lt, binInt, hk, ha, ht, he, hlo, hl, hgg, hqq, hww, hm8, hm4, li1, li2, li3, li4, li5, bne, c30]
    · have c30 := Co.spend_state (gl := gl) (n := n) (f := f.f1) hf.h1 (by omega) (by omega) hI.v1 hpv htm hkk hr
      simp only [purse, Co.purse0, rows_nil] at c30
      clear I2 hI
      rw [call_go (fd := fd42) rfl]
      simp (disch := ((fail_if_success (intro _)); omega)) only [go_sem, simprocAttr, ↓reduceIte, xx, guardK_tt', Co.guardK_ff', fd42, m42, wav, actv, bank, purse, told_length, told_app, told_one, told_take, ints_length, hib, h40, foldO, minAV, maxAV, gt_iff_lt, binInt, hk, ha, ht, he, hlo, hl, hgg, hqq, hww, hm8, hm4, li1, li2, li3, li4, li5, bne, c30]
  · have I3 := Inv.spend I2 (by omega) hg (hlq.trans hq) hkk hr
    rw [hlq] at I3
    rcases hg with hg | hg <;> rw [hg] at hgg hkk hr I3
    · have c30 := Co.spend_ok (gl := gl) (n := n) (f := f.f0) hf.h0 (by omega) (by omega) hI.v0 hpv htm hkk hr
      rw [hlq] at c30
      have I4 : Inv (i + 1) { x with t := T, p0 := Co.putL x.p0 kk (Co.spentC (Co.coinOr x.p0 kk (Co.keyW q))), cs := x.cs.set q.toNat (x.cs.getD q.toNat 0 + 1) } := I3
      refine ⟨_, ⟨f.fb, false, f.f1, f.fd, f.fe, f.sb, sR, f.s1, f.sd, f.se⟩, I4, ⟨hf.b, .inr rfl, hf.h1, hf.d, hf.e⟩, rfl, ?_⟩
      simp only [purse] at c30
      have hib2 := ints_all (x.cs.set q.toNat (x.cs.getD q.toNat 0 + 1))
      clear I3 I4
      generalize Co.putL x.p0 kk (Co.spentC (Co.coinOr x.p0 kk (Co.keyW q))) = rr at *
      clear hr hkk I2 hI
      rw [call_go (fd := fd42) rfl]
      simp (disch := ((fail_if_success (intro _)); omega)) only [go_sem, simprocAttr, ↓reduceIte, xx, guardK_tt', Co.guardK_ff', fd42, m42, wav, actv, bank, purse, told_length, told_app, told_one, told_take, ints_length, hib, h40, foldO, minAV, maxAV, gt_iff_lt, binInt, hk, ha, ht, he, hlo, hl, hgg, hqq, hww, hm8, hm4, li1, li2, li3, li4, li5, bne, hget, ints_set, List.length_set, hib2, c30]
    · have c30 := Co.spend_ok (gl := gl) (n := n) (f := f.f1) hf.h1 (by omega) (by omega) hI.v1 hpv htm hkk hr
      rw [hlq] at c30
      have I4 : Inv (i + 1) { x with t := T, p1 := Co.putL x.p1 kk (Co.spentC (Co.coinOr x.p1 kk (Co.keyW q))), cs := x.cs.set q.toNat (x.cs.getD q.toNat 0 + 1) } := I3
      refine ⟨_, ⟨f.fb, f.f0, false, f.fd, f.fe, f.sb, f.s0, sR, f.sd, f.se⟩, I4, ⟨hf.b, hf.h0, .inr rfl, hf.d, hf.e⟩, rfl, ?_⟩
      simp only [purse] at c30
      have hib2 := ints_all (x.cs.set q.toNat (x.cs.getD q.toNat 0 + 1))
      clear I3 I4
      generalize Co.putL x.p1 kk (Co.spentC (Co.coinOr x.p1 kk (Co.keyW q))) = rr at *
      clear hr hkk I2 hI
      rw [call_go (fd := fd42) rfl]
      simp (disch := ((fail_if_success (intro _)); omega)) only [go_sem, simprocAttr, ↓reduceIte, xx, guardK_tt', Co.guardK_ff', fd42, m42, wav, actv, bank, purse, told_length, told_app, told_one, told_take, ints_length, hib, h40, foldO, minAV, maxAV, gt_iff_lt, binInt, hk, ha, ht, he, hlo, hl, hgg, hqq, hww, hm8, hm4, li1, li2, li3, li4, li5, bne, hget, ints_set, List.length_set, hib2, c30]
end
end Go.Proofs.S39
namespace Go.Proofs.S39
open Go Go.Ev Go.Proofs
set_option linter.unusedSimpArgs false
set_option linter.unusedVariables false
variable {gl : Gl} {n : Nat}
section
variable {i : Nat} {x : Wd} {f : Fl} {k g w m a e l : Int}
set_option maxHeartbeats 4000000 in
theorem act5 (hn : 15 ≤ n) (hI : Inv i x) (hi : i < 100) (hf : FlOk x f) (hk : Int.tmod k 8 = 5) (uk : U8 k) (ug : U8 g) (uw : U8 w) (um : U8 m) (ua : U8 a) (ue : U8 e) (ul : U8 l) : Acts gl n i x f k g w m a e l := by
  obtain ⟨aa, T, ee, lo, ll, gg, q, ww, m8, m4, P, a1, a2, t1, t2, e1, e2, l1, l2, l3, l4, hg, hq, w1, w2, n1, n2, n3, n4⟩ := pre_ok hI.t ua ue ul ug uw um
  obtain ⟨ha, ht, he, hlo, hl, hgg, hqq, hww, hm8, hm4⟩ := P
  have I2 := hI.time t1 t2
  have hat := at41 hq t2 w2 w1
  have ht0 := hI.t
  have hlr := hI.lr
  have hl0 := hI.l0
  have hl1 := hI.l1
  have hld := hI.ld
  have hlb := hI.lb
  have h40 := hI.lc
  have hib := ints_all x.cs
  have li1 : 1 ≤ LIM := by unfold LIM; omega
  have li2 : x.ds.length ≤ LIM := by unfold LIM; omega
  have li3 : x.ds.length + 1 ≤ LIM := by unfold LIM; omega
  have li4 : x.bs.length ≤ LIM := by unfold LIM; omega
  have li5 : x.bs.length + 1 ≤ LIM := by unfold LIM; omega
  obtain ⟨u1, u2⟩ := uk; obtain ⟨u3, u4⟩ := ug; obtain ⟨u5, u6⟩ := uw; obtain ⟨u7, u8⟩ := um; obtain ⟨u9, u10⟩ := ua; obtain ⟨u11, u12⟩ := ue; obtain ⟨u13, u14⟩ := ul
  obtain ⟨kk, hkk⟩ := Co.exists_lb (Co.vp_asc hI.vp) (Co.keyW (q + ww)) (l := x.p gg)
  have hga : Co.GArg (q + ww) (1 + m4) := ⟨by omega, by omega⟩
  by_cases hr : 1 + m4 ≤ Co.leftF (Co.coinOr (x.p gg) kk (Co.keyW (q + ww)))
  case neg =>
    refine ⟨_, f, I2.more, ⟨hf.b, hf.h0, hf.h1, hf.d, hf.e⟩, rfl, ?_⟩
    rcases hg with hg | hg <;> rw [hg] at hgg hkk hr
    · have c28 := Co.give_state (gl := gl) (n := n) (f := f.f0) hf.h0 (by omega) (by omega) hI.v0 hga hkk hr
      simp only [purse, Co.purse0, rows_nil] at c28
      clear I2 hI
      rw [call_go (fd := fd42) rfl]
      simp (disch := ((fail_if_success (intro _)); omega)) only [go_sem, simprocAttr, ↓reduceIte, xx, guardK_tt', Co.guardK_ff', fd42, m42, wav, actv, bank, purse, told_length, told_app, told_one, told_take, ints_length, hib, h40, foldO, minAV, maxAV, gt_iff_lt, binInt, hk, ha, ht, he, hlo, hl, hgg, hqq, hww, hm8, hm4, li1, li2, li3, li4, li5, bne, c28]
    · have c28 := Co.give_state (gl := gl) (n := n) (f := f.f1) hf.h1 (by omega) (by omega) hI.v1 hga hkk hr
      simp only [purse, Co.purse0, rows_nil] at c28
      clear I2 hI
      rw [call_go (fd := fd42) rfl]
      simp (disch := ((fail_if_success (intro _)); omega)) only [go_sem, simprocAttr, ↓reduceIte, xx, guardK_tt', Co.guardK_ff', fd42, m42, wav, actv, bank, purse, told_length, told_app, told_one, told_take, ints_length, hib, h40, foldO, minAV, maxAV, gt_iff_lt, binInt, hk, ha, ht, he, hlo, hl, hgg, hqq, hww, hm8, hm4, li1, li2, li3, li4, li5, bne, c28]
  have I3 := Inv.give I2 (by omega) hg ⟨hat.1, hat.2⟩ (by omega) hkk hr
  have hd := hf.e
  rcases hg with hg | hg <;> rw [hg] at hgg hkk hr I3
  · have c28 := Co.give_ok (gl := gl) (n := n) (f := f.f0) hf.h0 (by omega) (by omega) hI.v0 hga hkk hr
    have v3 : Co.VP 100 (Co.putL x.p0 kk (Co.backC (Co.coinOr x.p0 kk (Co.keyW (q + ww))) (1 + m4))) := I3.v0
    have p2 : Co.Lb (Co.putL x.p0 kk (Co.backC (Co.coinOr x.p0 kk (Co.keyW (q + ww))) (1 + m4))) (Co.keyW (q + ww)) kk ∧ Co.coinOr (Co.putL x.p0 kk (Co.backC (Co.coinOr x.p0 kk (Co.keyW (q + ww))) (1 + m4))) kk (Co.keyW (q + ww)) = Co.backC (Co.coinOr x.p0 kk (Co.keyW (q + ww))) (1 + m4) := by
      have e0 := Co.coin_key x.p0 kk (q + ww)
      have e1 := Co.coin_val hI.v0 kk (w := q + ww) (by omega)
      have : 1 + m4 ≤ Co.leftF (Co.coinOr x.p0 kk (Co.keyW (q + ww))) := hr
      simp only [Co.leftF] at this
      have := e1.d; have := e1.b
      exact (Co.coin_put hI.v0 (x := Co.backC (Co.coinOr x.p0 kk (Co.keyW (q + ww))) (1 + m4)) e0 hkk ⟨e1.w, e1.g, e1.d, ⟨by simp only [Co.backC]; omega, by simp only [Co.backC]; omega⟩⟩ (.inr (by omega))).2
    have c29 := Co.back_t (gl := gl) (n := n) (by omega) 100 false (.inr rfl) (q + ww) v3 p2.1
    rw [p2.2] at c29
    have I4 : Inv (i + 1) { x with t := T, p0 := Co.putL x.p0 kk (Co.backC (Co.coinOr x.p0 kk (Co.keyW (q + ww))) (1 + m4)), bs := x.bs ++ [⟨0, q + ww, (Co.backC (Co.coinOr x.p0 kk (Co.keyW (q + ww))) (1 + m4)).b⟩] } := I3
    refine ⟨_, ⟨f.fb, false, f.f1, f.fd, false, f.sb, sR, f.s1, f.sd, sT⟩, I4, ⟨hf.b, .inr rfl, hf.h1, hf.d, .inr rfl⟩, rfl, ?_⟩
    simp only [purse] at c28 c29
    clear I3 I4
    generalize (Co.backC (Co.coinOr x.p0 kk (Co.keyW (q + ww))) (1 + m4)).b = dd at *
    generalize Co.putL x.p0 kk (Co.backC (Co.coinOr x.p0 kk (Co.keyW (q + ww))) (1 + m4)) = rr at *
    clear v3 p2 hr hkk I2 hI
    rw [call_go (fd := fd42) rfl]
    rcases hd with hd | hd
    · simp (disch := ((fail_if_success (intro _)); omega)) only [go_sem, simprocAttr, ↓reduceIte, xx, guardK_tt', Co.guardK_ff', fd42, m42, wav, actv, bank, purse, told_length, told_app, told_one, told_take, ints_length, hib, h40, foldO, minAV, maxAV, gt_iff_lt, binInt, hk, ha, ht, he, hlo, hl, hgg, hqq, hww, hm8, hm4, li1, li2, li3, li4, li5, bne, c28, c29, hd, show told [] = [] from rfl]
    · simp (disch := ((fail_if_success (intro _)); omega)) only [go_sem, simprocAttr, ↓reduceIte, xx, guardK_tt', Co.guardK_ff', fd42, m42, wav, actv, bank, purse, told_length, told_app, told_one, told_take, ints_length, hib, h40, foldO, minAV, maxAV, gt_iff_lt, binInt, hk, ha, ht, he, hlo, hl, hgg, hqq, hww, hm8, hm4, li1, li2, li3, li4, li5, bne, c28, c29, hd]
  · have c28 := Co.give_ok (gl := gl) (n := n) (f := f.f1) hf.h1 (by omega) (by omega) hI.v1 hga hkk hr
    have v3 : Co.VP 100 (Co.putL x.p1 kk (Co.backC (Co.coinOr x.p1 kk (Co.keyW (q + ww))) (1 + m4))) := I3.v1
    have p2 : Co.Lb (Co.putL x.p1 kk (Co.backC (Co.coinOr x.p1 kk (Co.keyW (q + ww))) (1 + m4))) (Co.keyW (q + ww)) kk ∧ Co.coinOr (Co.putL x.p1 kk (Co.backC (Co.coinOr x.p1 kk (Co.keyW (q + ww))) (1 + m4))) kk (Co.keyW (q + ww)) = Co.backC (Co.coinOr x.p1 kk (Co.keyW (q + ww))) (1 + m4) := by
      have e0 := Co.coin_key x.p1 kk (q + ww)
      have e1 := Co.coin_val hI.v1 kk (w := q + ww) (by omega)
      have : 1 + m4 ≤ Co.leftF (Co.coinOr x.p1 kk (Co.keyW (q + ww))) := hr
      simp only [Co.leftF] at this
      have := e1.d; have := e1.b
      exact (Co.coin_put hI.v1 (x := Co.backC (Co.coinOr x.p1 kk (Co.keyW (q + ww))) (1 + m4)) e0 hkk ⟨e1.w, e1.g, e1.d, ⟨by simp only [Co.backC]; omega, by simp only [Co.backC]; omega⟩⟩ (.inr (by omega))).2
    have c29 := Co.back_t (gl := gl) (n := n) (by omega) 100 false (.inr rfl) (q + ww) v3 p2.1
    rw [p2.2] at c29
    have I4 : Inv (i + 1) { x with t := T, p1 := Co.putL x.p1 kk (Co.backC (Co.coinOr x.p1 kk (Co.keyW (q + ww))) (1 + m4)), bs := x.bs ++ [⟨1, q + ww, (Co.backC (Co.coinOr x.p1 kk (Co.keyW (q + ww))) (1 + m4)).b⟩] } := I3
    refine ⟨_, ⟨f.fb, f.f0, false, f.fd, false, f.sb, f.s0, sR, f.sd, sT⟩, I4, ⟨hf.b, hf.h0, .inr rfl, hf.d, .inr rfl⟩, rfl, ?_⟩
    simp only [purse] at c28 c29
    clear I3 I4
    generalize (Co.backC (Co.coinOr x.p1 kk (Co.keyW (q + ww))) (1 + m4)).b = dd at *
    generalize Co.putL x.p1 kk (Co.backC (Co.coinOr x.p1 kk (Co.keyW (q + ww))) (1 + m4)) = rr at *
    clear v3 p2 hr hkk I2 hI
    rw [call_go (fd := fd42) rfl]
    rcases hd with hd | hd
    · simp (disch := ((fail_if_success (intro _)); omega)) only [go_sem, simprocAttr, ↓reduceIte, xx, guardK_tt', Co.guardK_ff', fd42, m42, wav, actv, bank, purse, told_length, told_app, told_one, told_take, ints_length, hib, h40, foldO, minAV, maxAV, gt_iff_lt, binInt, hk, ha, ht, he, hlo, hl, hgg, hqq, hww, hm8, hm4, li1, li2, li3, li4, li5, bne, c28, c29, hd, show told [] = [] from rfl]
    · simp (disch := ((fail_if_success (intro _)); omega)) only [go_sem, simprocAttr, ↓reduceIte, xx, guardK_tt', Co.guardK_ff', fd42, m42, wav, actv, bank, purse, told_length, told_app, told_one, told_take, ints_length, hib, h40, foldO, minAV, maxAV, gt_iff_lt, binInt, hk, ha, ht, he, hlo, hl, hgg, hqq, hww, hm8, hm4, li1, li2, li3, li4, li5, bne, c28, c29, hd]
end
end Go.Proofs.S39
namespace Go.Proofs.S39
open Go Go.Ev Go.Proofs
set_option linter.unusedSimpArgs false
set_option linter.unusedVariables false
variable {gl : Gl} {n : Nat}
section
variable {i : Nat} {x : Wd} {f : Fl} {k g w m a e l : Int}
set_option maxHeartbeats 4000000 in
theorem act6 (hn : 15 ≤ n) (hI : Inv i x) (hi : i < 100) (hf : FlOk x f) (hk : Int.tmod k 8 = 6) (uk : U8 k) (ug : U8 g) (uw : U8 w) (um : U8 m) (ua : U8 a) (ue : U8 e) (ul : U8 l) : Acts gl n i x f k g w m a e l := by
  obtain ⟨aa, T, ee, lo, ll, gg, q, ww, m8, m4, P, a1, a2, t1, t2, e1, e2, l1, l2, l3, l4, hg, hq, w1, w2, n1, n2, n3, n4⟩ := pre_ok hI.t ua ue ul ug uw um
  obtain ⟨ha, ht, he, hlo, hl, hgg, hqq, hww, hm8, hm4⟩ := P
  have I2 := hI.time t1 t2
  have hat := at41 hq t2 w2 w1
  have ht0 := hI.t
  have hlr := hI.lr
  have hl0 := hI.l0
  have hl1 := hI.l1
  have hld := hI.ld
  have hlb := hI.lb
  have h40 := hI.lc
  have hib := ints_all x.cs
  have li1 : 1 ≤ LIM := by unfold LIM; omega
  have li2 : x.ds.length ≤ LIM := by unfold LIM; omega
  have li3 : x.ds.length + 1 ≤ LIM := by unfold LIM; omega
  have li4 : x.bs.length ≤ LIM := by unfold LIM; omega
  have li5 : x.bs.length + 1 ≤ LIM := by unfold LIM; omega
  obtain ⟨u1, u2⟩ := uk; obtain ⟨u3, u4⟩ := ug; obtain ⟨u5, u6⟩ := uw; obtain ⟨u7, u8⟩ := um; obtain ⟨u9, u10⟩ := ua; obtain ⟨u11, u12⟩ := ue; obtain ⟨u13, u14⟩ := ul
  by_cases h0 : x.bs = []
  · refine ⟨_, f, I2.more, ⟨hf.b, hf.h0, hf.h1, hf.d, hf.e⟩, rfl, ?_⟩
    clear I2 hI
    rw [call_go (fd := fd42) rfl]
    simp (disch := ((fail_if_success (intro _)); omega)) only [go_sem, simprocAttr, ↓reduceIte, xx, guardK_tt', Co.guardK_ff', fd42, m42, wav, actv, bank, purse, told_length, told_app, told_one, told_take, ints_length, hib, h40, foldO, minAV, maxAV, gt_iff_lt, binInt, hk, ha, ht, he, hlo, hl, hgg, hqq, hww, hm8, hm4, li1, li2, li3, li4, li5, bne, h0, show told [] = [] from rfl]
  have hpos : 0 < x.bs.length := List.length_pos_iff.2 h0
  have hjj := Int.tmod_lt_of_pos m (show (0 : Int) < x.bs.length by omega)
  have hj0 := Int.tmod_nonneg (x.bs.length : Int) u7
  obtain ⟨j, hj⟩ : ∃ j : Nat, Int.tmod m x.bs.length = j := ⟨(Int.tmod m x.bs.length).toNat, by omega⟩
  rw [hj] at hjj hj0
  have hjl : j < x.bs.length := by omega
  have hget := told_get hjl
  have hmem := List.getElem_mem hjl
  obtain ⟨hmo, hmn⟩ := hI.bs _ hmem
  have hlz : ¬ ((x.bs.length : Int) = 0) := by omega
  have hse := hf.e.resolve_left h0
  obtain ⟨kk, hkk⟩ := exists_lb (vb_asc hI.vb) (key x.bs[j].w (x.bs[j].g + 1))
  have hll : x.rows.length < 2 ^ 30 := by omega
  obtain ⟨o1, o2⟩ := hmo.w
  have o5 := hmo.g
  by_cases hr : RArg x.rows kk x.bs[j].w (x.bs[j].g + 1) x.bs[j].n
  · have I3 := Inv.ret I2 hmem hkk hr
    obtain ⟨f', sh', s1, c11⟩ := ret_ok (gl := gl) (n := n) (f := f.fb) hf.b hll (by omega) hI.vb hkk hr
    refine ⟨_, ⟨f', f.f0, f.f1, f.fd, f.fe, sh', f.s0, f.s1, f.sd, f.se⟩, I3, ⟨s1, hf.h0, hf.h1, hf.d, hf.e⟩, rfl, ?_⟩
    clear I3 s1
    simp only [bank] at c11
    generalize retL x.rows kk x.bs[j].w (x.bs[j].g + 1) x.bs[j].n = rr at *
    generalize x.bs[j].g = v0 at *
    generalize x.bs[j].w = v1 at *
    generalize x.bs[j].n = v2 at *
    clear hmo hmn hr hkk I2 hI hmem
    rw [call_go (fd := fd42) rfl]
    simp (disch := ((fail_if_success (intro _)); omega)) only [go_sem, simprocAttr, ↓reduceIte, xx, guardK_tt', Co.guardK_ff', fd42, m42, wav, actv, bank, purse, told_length, told_app, told_one, told_take, ints_length, hib, h40, foldO, minAV, maxAV, gt_iff_lt, binInt, hk, ha, ht, he, hlo, hl, hgg, hqq, hww, hm8, hm4, li1, li2, li3, li4, li5, bne, hj, hlz, hget, c11, hse]
  · have c11 := ret_arg (gl := gl) (n := n) (f := f.fb) hf.b hll (by omega) hI.vb hkk hr
    refine ⟨_, f, I2.more, ⟨hf.b, hf.h0, hf.h1, hf.d, hf.e⟩, rfl, ?_⟩
    simp only [bank, bank0, rows_nil] at c11
    generalize x.bs[j].g = v0 at *
    generalize x.bs[j].w = v1 at *
    generalize x.bs[j].n = v2 at *
    clear hmo hmn hr hkk I2 hI hmem
    rw [call_go (fd := fd42) rfl]
    simp (disch := ((fail_if_success (intro _)); omega)) only [go_sem, simprocAttr, ↓reduceIte, xx, guardK_tt', Co.guardK_ff', fd42, m42, wav, actv, bank, purse, told_length, told_app, told_one, told_take, ints_length, hib, h40, foldO, minAV, maxAV, gt_iff_lt, binInt, hk, ha, ht, he, hlo, hl, hgg, hqq, hww, hm8, hm4, li1, li2, li3, li4, li5, bne, hj, hlz, hget, c11, hse]
end
end Go.Proofs.S39
namespace Go.Proofs.S39
open Go Go.Ev Go.Proofs
set_option linter.unusedSimpArgs false
set_option linter.unusedVariables false
variable {gl : Gl} {n : Nat}
section
variable {i : Nat} {x : Wd} {f : Fl} {k g w m a e l : Int}
set_option maxHeartbeats 4000000 in
theorem act7 (hn : 15 ≤ n) (hI : Inv i x) (hi : i < 100) (hf : FlOk x f) (hk : Int.tmod k 8 = 7) (uk : U8 k) (ug : U8 g) (uw : U8 w) (um : U8 m) (ua : U8 a) (ue : U8 e) (ul : U8 l) : Acts gl n i x f k g w m a e l := by
  obtain ⟨aa, T, ee, lo, ll, gg, q, ww, m8, m4, P, a1, a2, t1, t2, e1, e2, l1, l2, l3, l4, hg, hq, w1, w2, n1, n2, n3, n4⟩ := pre_ok hI.t ua ue ul ug uw um
  obtain ⟨ha, ht, he, hlo, hl, hgg, hqq, hww, hm8, hm4⟩ := P
  have I2 := hI.time t1 t2
  have hat := at41 hq t2 w2 w1
  have ht0 := hI.t
  have hlr := hI.lr
  have hl0 := hI.l0
  have hl1 := hI.l1
  have hld := hI.ld
  have hlb := hI.lb
  have h40 := hI.lc
  have hib := ints_all x.cs
  have li1 : 1 ≤ LIM := by unfold LIM; omega
  have li2 : x.ds.length ≤ LIM := by unfold LIM; omega
  have li3 : x.ds.length + 1 ≤ LIM := by unfold LIM; omega
  have li4 : x.bs.length ≤ LIM := by unfold LIM; omega
  have li5 : x.bs.length + 1 ≤ LIM := by unfold LIM; omega
  obtain ⟨u1, u2⟩ := uk; obtain ⟨u3, u4⟩ := ug; obtain ⟨u5, u6⟩ := uw; obtain ⟨u7, u8⟩ := um; obtain ⟨u9, u10⟩ := ua; obtain ⟨u11, u12⟩ := ue; obtain ⟨u13, u14⟩ := ul
  have hpv : PV lo (T + ll) := ⟨l1, by omega, by omega⟩
  have I3 := Inv.forget I2 hg (p := lo) ⟨l1, l2⟩
  have c12 := forget_ok (gl := gl) (n := n) (by omega) x.c 100 f.fb hf.b hI.vb lo (T + ll) hpv
  simp only [bank] at c12
  rcases hg with hg | hg <;> rw [hg] at hgg I3
  · have c31 := Co.drop_ok (gl := gl) (n := n) (by omega) 100 f.f0 hf.h0 hI.v0 lo (T + ll) hpv
    have I4 : Inv (i + 1) { x with t := T, p0 := keepL 100 lo x.p0, rows := keepL 100 lo x.rows } := I3
    refine ⟨_, ⟨false, false, f.f1, f.fd, f.fe, sR, sR, f.s1, f.sd, f.se⟩, I4, ⟨.inr rfl, .inr rfl, hf.h1, hf.d, hf.e⟩, rfl, ?_⟩
    clear I3 I4
    simp only [purse] at c31
    generalize keepL 100 lo x.rows = rr at *
    generalize keepL 100 lo x.p0 = rq at *
    clear I2 hI
    rw [call_go (fd := fd42) rfl]
    simp (disch := ((fail_if_success (intro _)); omega)) only [go_sem, simprocAttr, ↓reduceIte, xx, guardK_tt', Co.guardK_ff', fd42, m42, wav, actv, bank, purse, told_length, told_app, told_one, told_take, ints_length, hib, h40, foldO, minAV, maxAV, gt_iff_lt, binInt, hk, ha, ht, he, hlo, hl, hgg, hqq, hww, hm8, hm4, li1, li2, li3, li4, li5, bne, c12, c31]
  · have c31 := Co.drop_ok (gl := gl) (n := n) (by omega) 100 f.f1 hf.h1 hI.v1 lo (T + ll) hpv
    have I4 : Inv (i + 1) { x with t := T, p1 := keepL 100 lo x.p1, rows := keepL 100 lo x.rows } := I3
    refine ⟨_, ⟨false, f.f0, false, f.fd, f.fe, sR, f.s0, sR, f.sd, f.se⟩, I4, ⟨.inr rfl, hf.h0, .inr rfl, hf.d, hf.e⟩, rfl, ?_⟩
    clear I3 I4
    simp only [purse] at c31
    generalize keepL 100 lo x.rows = rr at *
    generalize keepL 100 lo x.p1 = rq at *
    clear I2 hI
    rw [call_go (fd := fd42) rfl]
    simp (disch := ((fail_if_success (intro _)); omega)) only [go_sem, simprocAttr, ↓reduceIte, xx, guardK_tt', Co.guardK_ff', fd42, m42, wav, actv, bank, purse, told_length, told_app, told_one, told_take, ints_length, hib, h40, foldO, minAV, maxAV, gt_iff_lt, binInt, hk, ha, ht, he, hlo, hl, hgg, hqq, hww, hm8, hm4, li1, li2, li3, li4, li5, bne, c12, c31]
end
end Go.Proofs.S39
