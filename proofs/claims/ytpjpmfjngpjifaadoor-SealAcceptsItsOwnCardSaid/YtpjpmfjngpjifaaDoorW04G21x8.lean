/-
  Chapter 4: the examples. No condition.
-/
import Derived.Test.YtpjpmfjngpjifaaDoorW04p
import Derived.KernelRfl
set_option linter.unusedVariables false
set_option linter.unusedSimpArgs false
set_option linter.unusedSectionVars false
namespace Go.Proofs.S04
open Go Go.Ev Go.Proofs
open Go.Proofs.S04.H (strsAV strsAV_length strsAV_get Sml GlK GlR zints Few64 nsI)
set_option maxRecDepth 100000
variable {gl : Gl} {n : Nat}
abbrev k1 : Ky := ⟨1, 1, [115], 0, 100⟩
abbrev z16 : List UInt8 := List.replicate 16 0
theorem x_add (d : Nat) : call gl tab (d + 6) 13 [.lst true .sc [], .agg [i64 1, i64 1, .str [115], i64 0, i64 100]] [] = some (.tup [.lst false sY [.agg [i64 1, i64 1, .str [115], i64 0, i64 100]], i64 0], [], []) := by kernel_rfl
theorem x_add2 (d : Nat) : call gl tab (d + 6) 13 [.lst false sY [.agg [i64 1, i64 1, .str [115], i64 0, i64 100]], .agg [i64 1, i64 1, .str [115], i64 0, i64 100]] [] = some (.tup [.lst true .sc [], i64 6], [], []) := by kernel_rfl
theorem x_add3 (d : Nat) : call gl tab (d + 6) 13 [.lst false sY [.agg [i64 1, i64 1, .str [115], i64 0, i64 100]], .agg [i64 1, i64 2, .str [115], i64 5, i64 5]] [] = some (.tup [.lst true .sc [], i64 1], [], []) := by kernel_rfl
theorem x_cur (d : Nat) : call gl tab (d + 6) 18 [.lst false sY [.agg [i64 1, i64 1, .str [115], i64 0, i64 100]], i64 1, .agg [i64 3, i64 99]] [] = some (.tup [.agg [i64 1, i64 1, .str [115], i64 0, i64 100], i64 0], [], []) := by kernel_rfl
theorem x_cur2 (d : Nat) : call gl tab (d + 6) 18 [.lst false sY [.agg [i64 1, i64 1, .str [115], i64 0, i64 100]], i64 1, .agg [i64 3, i64 100]] [] = some (.tup [ky0, i64 9], [], []) := by kernel_rfl
theorem x_cur3 (d : Nat) : call gl tab (d + 6) 18 [.lst false sY [.agg [i64 1, i64 1, .str [115], i64 0, i64 100]], i64 2, .agg [i64 3, i64 99]] [] = some (.tup [ky0, i64 5], [], []) := by kernel_rfl
theorem x_rot (d : Nat) : call gl tab (d + 6) 20 [.lst false sY [.agg [i64 1, i64 1, .str [115], i64 0, i64 100]], i64 1, .str [116], i64 50, i64 10] [] =
    some (.tup [.lst false sY [.agg [i64 1, i64 1, .str [115], i64 0, i64 60], .agg [i64 1, i64 2, .str [116], i64 50, i64 1099511627776]], i64 0], [], []) := by kernel_rfl
abbrev le1 : Le := ⟨3, 7, 100, 0, z16⟩
theorem le1_ok : LeOk le1 := ⟨⟨by decide, by decide⟩, rfl⟩
theorem k1_ok : KOk k1 := ⟨by unfold R64; decide, by unfold R64; decide, by decide⟩
theorem vr1 : VR [k1] := ⟨by decide, fun i hi => by
  match i, hi with
  | 0, _ => exact ⟨⟨by decide, by decide, by decide, by decide, by decide⟩, fun h => absurd h (by decide)⟩⟩
abbrev le2 : Le := ⟨3, 8, 100, 1, sea [115] 43 (leP (leK k1 le1))⟩
abbrev le3 : Le := ⟨3, 7, 101, 1, sea [115] 43 (leP (leK k1 le1))⟩
theorem few4 {a b c d : Int} (h : R64 a) (h2 : R64 b) (h3 : R64 c) (h4 : R64 d) : Few64 [a, b, c, d] := few_mk h (few_mk h2 (few_mk h3 (few_mk h4 few_nil (by simp)) (by simp)) (by simp)) (by simp)
theorem le2_ok : LeOk le2 := ⟨⟨by simp, by decide⟩, sea_len _ _ _⟩
theorem le3_ok : LeOk le3 := ⟨⟨by simp, by decide⟩, sea_len _ _ _⟩
theorem fn1 : fnK [k1] 1 1 = some k1 := rfl
theorem leC1 : leC [k1] (leS k1 le1) = 0 := by
  have e : leP (leS k1 le1) = leP (leK k1 le1) := rfl
  rw [leC, if_pos (by decide), if_pos (by decide), e]
  unfold ckE
  rw [show (leS k1 le1).ser = 1 from rfl, fn1]
  simp only
  rw [if_pos (by decide)]
  exact if_pos rfl
theorem ne12 : sea [115] 43 (leP le2) ≠ sea [115] 43 (leP (leK k1 le1)) := by decide +kernel
theorem leC2 : leC [k1] le2 = 8 := by
  rw [leC, if_pos (by decide), if_pos (by decide)]
  unfold ckE
  rw [show le2.ser = 1 from rfl, fn1]
  simp only
  rw [if_pos (by decide), if_neg ne12]
theorem leC3 : leC [k1] le3 = 9 := by
  rw [leC, if_pos (by decide), if_pos (by decide)]
  unfold ckE
  rw [show le3.ser = 1 from rfl, fn1]
  simp only
  rw [if_neg (by decide)]
set_option maxHeartbeats 1000000 in
theorem sanity_at [Nonempty (GlK gl)] (h : 18 ≤ n) : call gl tab n 12 [] [] = some (.bool true, [], []) := by
  obtain ⟨d, rfl⟩ := Nat.exists_eq_add_of_le' h
  have a1 := @x_add gl (d + 11)
  have a2 := @x_add2 gl (d + 11)
  have a3 := @x_add3 gl (d + 11)
  have u1 := @x_cur gl (d + 11)
  have u2 := @x_cur2 gl (d + 11)
  have u3 := @x_cur3 gl (d + 11)
  have r1 := @x_rot gl (d + 11)
  have c51 := @leS_at gl (d + 17) _ (by omega) k1 k1_ok le1 le1_ok
  have d1 := @leC_at gl (d + 17) false sY [k1] _ (by omega) (.inr rfl) vr1 (leS k1 le1) (leS_ok k1_ok le1_ok)
  have d2 := @leC_at gl (d + 17) false sY [k1] _ (by omega) (.inr rfl) vr1 le2 le2_ok
  have d3 := @leC_at gl (d + 17) false sY [k1] _ (by omega) (.inr rfl) vr1 le3 le3_ok
  rw [leC1] at d1
  rw [leC2] at d2
  rw [leC3] at d3
  have e0 : bytesAV z16 = H.out16l := rfl
  have e1 : bytesAV (sea [115] 43 (leP (leK k1 le1))) = sAV [115] 43 (leP (leK k1 le1)) := rfl
  have b1 := sAV_len [115] 43 (leP (leK k1 le1))
  have b2 := sAV_all [115] 43 (leP (leK k1 le1))
  have b3 := sAV_pl [115] 43 (leP (leK k1 le1))
  simp only [leAV, bAV, leS, e0, e1, ks, List.map_cons, List.map_nil] at c51 d1 d2 d3
  generalize sAV [115] 43 (leP (leK k1 le1)) = z at *
  rw [call_go (fd := fd12) rfl]
  simp (implicitDefEqProofs := false) (disch := ((fail_if_success (intro _)); omega)) only [go_sem, simprocAttr, ↓reduceIte, ↓Nat.reduceEqDiff, xx, fd12, m12, a1, a2, a3, u1, u2, u3, r1, c51, d1, d2, d3, b1, b2, b3, ↓out16_eq, H.out16_len, H.out16_all, H.out16_pl, eqAV, eqAVs, beq_self_eq_true]
end Go.Proofs.S04
namespace Go.Proofs.S04
open Go Go.Ev Go.Proofs
open Go.Proofs.S04.H (strsAV strsAV_length strsAV_get Sml GlK GlR zints Few64 nsI)
abbrev kI : Kd := .int .i64
abbrev kKy : Kd := .st [kI, kI, .str, kI, kI]
abbrev kPe : Kd := .st [kI, kI]
abbrev kB : Kd := .ar 16 (.int .u8)
abbrev kPu : Kd := .st [kI, .str, .bool]
abbrev kSp : Kd := .st [.str, .str, kI, kI, kB, .str, kPe, kI, kI, kB]
abbrev kEp : Kd := .st [kI, kB, kPe, .sl kPu, .sl kB, kI, kB]
abbrev kLe : Kd := .st [kI, kI, kI, kI, kB]
abbrev kHd : Kd := .st [kI, kI, kB, kPe, kI, kB]
theorem kKy_sh : kKy.sh = sY := rfl
theorem kPu_sh : kPu.sh = sPu := rfl
theorem kB_sh : kB.sh = sB := rfl
theorem kS_sh : (Kd.str).sh = .sc := rfl
abbrev ML : Nat := 9223372036854775807
theorem ml_le {n : Nat} (h : n ≤ Go.maxLen) : n ≤ ML := by simpa [Go.maxLen] using h
theorem kd_i {a : AV} (h : HasKd kI a) : ∃ n, a = i64 n ∧ R64 n := by
  obtain ⟨n, rfl, h1, h2⟩ := h
  exact ⟨n, rfl, h1, h2⟩
theorem kd_str {a : AV} (h : HasKd .str a) : ∃ l, a = .str l ∧ l.length ≤ ML := by
  obtain ⟨l, rfl, h1⟩ := h
  exact ⟨l, rfl, ml_le h1⟩
theorem byte_of {a : AV} (h : HasKd (.int .u8) a) : ∃ b : UInt8, a = .int .u8 b.toNat := by
  obtain ⟨n, rfl, h1, h2⟩ := h
  have h3 : 0 ≤ n := h1
  have h4 : n ≤ 255 := h2
  refine ⟨UInt8.ofNat n.toNat, ?_⟩
  congr 1
  rw [UInt8.toNat_ofNat']
  omega
theorem bytes_of : ∀ {l : List AV}, (∀ x ∈ l, HasKd (.int .u8) x) → ∃ b : List UInt8, l = bytesAV b
  | [], _ => ⟨[], rfl⟩
  | x :: l, h => by
    obtain ⟨a, rfl⟩ := byte_of (h x (by simp))
    obtain ⟨r, rfl⟩ := bytes_of (l := l) fun y hy => h y (by simp [hy])
    exact ⟨a :: r, rfl⟩
theorem kd_B {a : AV} (h : HasKd kB a) : ∃ b, a = bAV b ∧ b.length = 16 := by
  obtain ⟨l, rfl, h1, h2⟩ := h
  obtain ⟨b, rfl⟩ := bytes_of h2
  rw [bytesAV_length] at h1
  exact ⟨b, rfl, h1⟩
theorem kd_Pe {a : AV} (h : HasKd kPe a) : ∃ lo hi, a = .agg [i64 lo, i64 hi] ∧ R64 lo ∧ R64 hi := by
  obtain ⟨_, rfl, _, _, rfl, h1, _, _, rfl, h2, rfl⟩ := h
  obtain ⟨x, rfl, hx⟩ := kd_i h1
  obtain ⟨y, rfl, hy⟩ := kd_i h2
  exact ⟨x, y, rfl, hx, hy⟩
structure KyB (x : Ky) : Prop where
  p : R64 x.p
  s : R64 x.s
  k : x.k.length ≤ ML
theorem kd_ky {a : AV} (h : HasKd kKy a) : ∃ x, a = ky x ∧ KyB x := by
  obtain ⟨_, rfl, _, _, rfl, h1, _, _, rfl, h2, _, _, rfl, h3, _, _, rfl, h4, _, _, rfl, h5, rfl⟩ := h
  obtain ⟨p, rfl, hp⟩ := kd_i h1
  obtain ⟨s, rfl, hs⟩ := kd_i h2
  obtain ⟨k, rfl, hk⟩ := kd_str h3
  obtain ⟨f, rfl, hf⟩ := kd_i h4
  obtain ⟨t, rfl, ht⟩ := kd_i h5
  exact ⟨⟨p, s, k, f, t⟩, rfl, hp, hs, hk⟩
theorem kd_ks : ∀ {l : List AV}, (∀ x ∈ l, HasKd kKy x) → ∃ r : List Ky, l = ks r ∧ ∀ i, i < r.length → KyB (yat r i)
  | [], _ => ⟨[], rfl, fun i hi => by simp at hi⟩
  | x :: l, h => by
    obtain ⟨a, rfl, ha⟩ := kd_ky (h x (by simp))
    obtain ⟨r, rfl, hr⟩ := kd_ks (l := l) fun y hy => h y (by simp [hy])
    refine ⟨a :: r, rfl, fun i hi => ?_⟩
    cases i with
    | zero => exact ha
    | succ i => exact hr i (by simpa using hi)
def sat (l : List (List UInt8)) (i : Nat) : List UInt8 := l.getD i []
theorem kd_strs : ∀ {l : List AV}, (∀ x ∈ l, HasKd .str x) → ∃ r : List (List UInt8), l = strsAV r ∧ ∀ i, i < r.length → (sat r i).length ≤ ML
  | [], _ => ⟨[], rfl, fun i hi => by simp at hi⟩
  | x :: l, h => by
    obtain ⟨a, rfl, ha⟩ := kd_str (h x (by simp))
    obtain ⟨r, rfl, hr⟩ := kd_strs (l := l) fun y hy => h y (by simp [hy])
    refine ⟨a :: r, rfl, fun i hi => ?_⟩
    cases i with
    | zero => exact ha
    | succ i => exact hr i (by simpa using hi)
theorem kd_pus : ∀ {l : List AV}, (∀ x ∈ l, HasKd kPu x) → ∃ r : List Pu, l = puL r ∧ ∀ i, i < r.length → R64 (puA r i).kind ∧ (puA r i).what.length ≤ ML
  | [], _ => ⟨[], rfl, fun i hi => by simp at hi⟩
  | x :: l, h => by
    obtain ⟨_, rfl, _, _, rfl, h1, _, _, rfl, h2, _, _, rfl, ⟨b, rfl⟩, rfl⟩ := h x (by simp)
    obtain ⟨p, rfl, hp⟩ := kd_i h1
    obtain ⟨k, rfl, hk⟩ := kd_str h2
    obtain ⟨r, rfl, hr⟩ := kd_pus (l := l) fun y hy => h y (by simp [hy])
    refine ⟨⟨p, k, b⟩ :: r, rfl, fun i hi => ?_⟩
    cases i with
    | zero => exact ⟨hp, hk⟩
    | succ i => exact hr i (by simpa using hi)
theorem kd_dgs : ∀ {l : List AV}, (∀ x ∈ l, HasKd kB x) → ∃ r : List (List UInt8), l = dgL r ∧ ∀ i, i < r.length → (dgA r i).length = 16
  | [], _ => ⟨[], rfl, fun i hi => by simp at hi⟩
  | x :: l, h => by
    obtain ⟨a, rfl, ha⟩ := kd_B (h x (by simp))
    obtain ⟨r, rfl, hr⟩ := kd_dgs (l := l) fun y hy => h y (by simp [hy])
    refine ⟨a :: r, rfl, fun i hi => ?_⟩
    cases i with
    | zero => exact ha
    | succ i => exact hr i (by simpa using hi)
structure SpB (x : Sp) : Prop where
  a : x.addr.length ≤ ML
  v : x.var.length ≤ ML
  t : x.tags.length ≤ ML
theorem kd_sp {a : AV} (h : HasKd kSp a) : ∃ x, a = spAV x ∧ SpOk x ∧ SpB x := by
  obtain ⟨_, rfl, _, _, rfl, h1, _, _, rfl, h2, _, _, rfl, h3, _, _, rfl, h4, _, _, rfl, h5, _, _, rfl, h6, _, _, rfl, h7, _, _, rfl, h8, _, _, rfl, h9, _, _, rfl, h10, rfl⟩ := h
  obtain ⟨a1, rfl, b1⟩ := kd_str h1
  obtain ⟨a2, rfl, b2⟩ := kd_str h2
  obtain ⟨a3, rfl, b3⟩ := kd_i h3
  obtain ⟨a4, rfl, b4⟩ := kd_i h4
  obtain ⟨a5, rfl, b5⟩ := kd_B h5
  obtain ⟨a6, rfl, b6⟩ := kd_str h6
  obtain ⟨lo, hi, rfl, b7, b7'⟩ := kd_Pe h7
  obtain ⟨a8, rfl, b8⟩ := kd_i h8
  obtain ⟨a9, rfl, b9⟩ := kd_i h9
  obtain ⟨a10, rfl, b10⟩ := kd_B h10
  exact ⟨⟨a1, a2, a3, a4, a5, a6, lo, hi, a8, a9, a10⟩, rfl, ⟨few_mk b3 (few_mk b4 (few_mk b7 (few_mk b7' (few_mk b8 (few_mk b9 few_nil (by simp)) (by simp)) (by simp)) (by simp)) (by simp)) (by simp), b5, b10⟩, ⟨b1, b2, b6⟩⟩
theorem kd_le {a : AV} (h : HasKd kLe a) : ∃ x, a = leAV x ∧ LeOk x := by
  obtain ⟨_, rfl, _, _, rfl, h1, _, _, rfl, h2, _, _, rfl, h3, _, _, rfl, h4, _, _, rfl, h5, rfl⟩ := h
  obtain ⟨a1, rfl, b1⟩ := kd_i h1
  obtain ⟨a2, rfl, b2⟩ := kd_i h2
  obtain ⟨a3, rfl, b3⟩ := kd_i h3
  obtain ⟨a4, rfl, b4⟩ := kd_i h4
  obtain ⟨a5, rfl, b5⟩ := kd_B h5
  exact ⟨⟨a1, a2, a3, a4, a5⟩, rfl, few4 b1 b2 b3 b4, b5⟩
theorem kd_hd {a : AV} (h : HasKd kHd a) : ∃ x, a = hdAV x ∧ HdOk x := by
  obtain ⟨_, rfl, _, _, rfl, h1, _, _, rfl, h2, _, _, rfl, h3, _, _, rfl, h4, _, _, rfl, h5, _, _, rfl, h6, rfl⟩ := h
  obtain ⟨a1, rfl, b1⟩ := kd_i h1
  obtain ⟨a2, rfl, b2⟩ := kd_i h2
  obtain ⟨a3, rfl, b3⟩ := kd_B h3
  obtain ⟨lo, hi, rfl, b4, b4'⟩ := kd_Pe h4
  obtain ⟨a5, rfl, b5⟩ := kd_i h5
  obtain ⟨a6, rfl, b6⟩ := kd_B h6
  exact ⟨⟨a1, a2, a3, lo, hi, a5, a6⟩, rfl, few_mk b1 (few_mk b2 (few_mk b4 (few_mk b4' (few_mk b5 few_nil (by simp)) (by simp)) (by simp)) (by simp)) (by simp), b3, b6⟩
structure EpB (x : Ep) : Prop where
  i : Few64 [x.num, x.lo, x.hi, x.ser]
  p : x.prev.length = 16
  s : x.sgn.length = 16
  pl : x.pur.length ≤ ML
  pk : ∀ i, i < x.pur.length → R64 (puA x.pur i).kind ∧ (puA x.pur i).what.length ≤ ML
  rl : x.rev.length ≤ ML
  r : ∀ i, i < x.rev.length → (dgA x.rev i).length = 16
theorem kd_ep {a : AV} (h : HasKd kEp a) : ∃ x, a = epAV false false x ∧ EpB x := by
  obtain ⟨_, rfl, _, _, rfl, h1, _, _, rfl, h2, _, _, rfl, h3, _, _, rfl, ⟨l1, rfl, n1, h4⟩, _, _, rfl, ⟨l2, rfl, n2, h5⟩, _, _, rfl, h6, _, _, rfl, h7, rfl⟩ := h
  obtain ⟨a1, rfl, b1⟩ := kd_i h1
  obtain ⟨a2, rfl, b2⟩ := kd_B h2
  obtain ⟨lo, hi, rfl, b3, b3'⟩ := kd_Pe h3
  obtain ⟨pu, rfl, b4⟩ := kd_pus h4
  obtain ⟨rv, rfl, b5⟩ := kd_dgs h5
  obtain ⟨a6, rfl, b6⟩ := kd_i h6
  obtain ⟨a7, rfl, b7⟩ := kd_B h7
  rw [puL_length] at n1
  rw [dgL_length] at n2
  exact ⟨⟨a1, a2, lo, hi, pu, rv, a6, a7⟩, rfl, ⟨few4 b1 b3 b3' b6, b2, b7, ml_le n1, b4, ml_le n2, b5⟩⟩
end Go.Proofs.S04
