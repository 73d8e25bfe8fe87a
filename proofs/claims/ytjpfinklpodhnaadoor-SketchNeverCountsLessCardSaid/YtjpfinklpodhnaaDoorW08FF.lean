/-
  Chapter 8: where a key is counted. No condition.
-/
import Derived.Test.YtjpfinklpodhnaaDoorW08HZZ
import Derived.Test.YtjpfinklpodhnaaDoorW08e
set_option linter.unusedVariables false
set_option linter.unusedSimpArgs false
set_option linter.unusedSectionVars false
namespace Go.Proofs.S08
open Go Go.Ev Go.Proofs
set_option linter.unusedSimpArgs false
set_option linter.unusedVariables false
variable {gl : Gl} {n : Nat}
/-- A byte of a row's digest of a key. -/
def dgB (key : List UInt8) (r i : Nat) : Nat := ((H.dig (H.inp (80 + (r : Int)) [key])).getD i 0).toNat
def plc (key : List UInt8) (r : Nat) : Nat := dgB key r 0 * 16777216 + dgB key r 1 * 65536 + dgB key r 2 * 256 + dgB key r 3
theorem dgB_lt (key : List UInt8) (r i : Nat) : dgB key r i < 256 := UInt8.toNat_lt _
theorem sml_key {key : List UInt8} (h : key.length ≤ 1000) : H.Sml [key] := ⟨by simp, fun x hx => by rw [List.mem_singleton] at hx; subst hx; omega⟩
theorem shl8 (a : Nat) (h : a < 2 ^ 50) : binShift .shl .i64 (a : Int) 8 = some (.int .i64 ((a * 256 : Nat) : Int)) := by
  show (if (8 : Int) < 0 then none else some (AV.int .i64 (IntKind.wrap .i64 ((a : Int) * 2 ^ (min (8 : Int).toNat IntKind.i64.bits))))) = _
  rw [if_neg (by omega), show min (8 : Int).toNat IntKind.i64.bits = 8 from rfl, wrap_i64 (by omega) (by omega)]
  congr 2
theorem or8 (a b : Nat) (h : a < 2 ^ 50) (hb : b < 256) : binInt .or .i64 ((a * 256 : Nat) : Int) (b : Int) = some (.int .i64 ((a * 256 + b : Nat) : Int)) := by
  rw [or_i64, BitVec.ofInt_natCast, BitVec.ofInt_natCast]
  have e : (BitVec.ofNat 64 (a * 256) ||| BitVec.ofNat 64 b).toNat = a * 256 + b := by
    rw [BitVec.toNat_or, BitVec.toNat_ofNat, BitVec.toNat_ofNat, Nat.mod_eq_of_lt (by omega), Nat.mod_eq_of_lt (by omega)]
    have := Nat.shiftLeft_add_eq_or_of_lt (i := 8) (show b < 2 ^ 8 by omega) a
    rw [Nat.shiftLeft_eq] at this
    exact this.symm
  rw [BitVec.toInt_eq_toNat_of_lt (by rw [e]; omega), e]
def acc (key : List UInt8) (r : Nat) : Nat → Nat
  | 0 => 0
  | i + 1 => acc key r i * 256 + dgB key r i
theorem acc_lt (key : List UInt8) (r : Nat) : ∀ i, acc key r i < 256 ^ i
  | 0 => by rw [acc]; omega
  | i + 1 => by
    have h1 := acc_lt key r i
    have h2 := dgB_lt key r i
    rw [acc, Nat.pow_succ]; omega
theorem acc_4 (key : List UInt8) (r : Nat) : acc key r 4 = plc key r := by simp only [acc, plc]; omega
theorem dg_at (key : List UInt8) (r i : Nat) (h : i < 16) : (bytesAV (H.dig (H.inp (80 + (r : Int)) [key])))[i]? = some (.int .u8 (dgB key r i : Int)) := by
  rw [H.bytesAV_getD (by rw [H.dig_len]; exact h)]; rfl
theorem rplace_at [Nonempty (H.GlR gl)] (h : 8 ≤ n) {key : List UInt8} (hk : key.length ≤ 1000) {r w : Nat} (hr : r < 4) (hw : 1 ≤ w ∧ w ≤ 4096) : call gl tab n 29 [.str key, i64 r, i64 w] [] = some (i64 ((plc key r % w : Nat) : Int), [], []) := by
  obtain ⟨d, rfl⟩ := Nat.exists_eq_add_of_le' h
  have c : call gl tab (d + 7) 42 [.int .i64 (80 + (r : Int)), .lst false .sc [.str key]] [] = some (.agg (bytesAV (H.dig (H.inp (80 + (r : Int)) [key]))), [], []) := H.rof_at (gl := gl) (n := d + 5) (by omega) (80 + (r : Int)) false [key] (sml_key hk)
  have g0 := dg_at key r 0 (by omega)
  have g1 := dg_at key r 1 (by omega)
  have g2 := dg_at key r 2 (by omega)
  have g3 := dg_at key r 3 (by omega)
  have b0 := dgB_lt key r 0
  have b1 := dgB_lt key r 1
  have b2 := dgB_lt key r 2
  have b3 := dgB_lt key r 3
  have hl := H.dig_len (H.inp (80 + (r : Int)) [key])
  have hr2 := H.rem_nat (plc key r) w (by omega)
  unfold plc at hr2 ⊢
  simp only [Int.natCast_add, Int.natCast_mul, Int.cast_ofNat_Int] at hr2
  generalize H.dig (H.inp (80 + (r : Int)) [key]) = D at *
  generalize dgB key r 0 = x0 at *
  generalize dgB key r 1 = x1 at *
  generalize dgB key r 2 = x2 at *
  generalize dgB key r 3 = x3 at *
  rw [call_go (fd := fd29) rfl]
  simp (disch := ((fail_if_success (intro _)); omega)) only [go_sem, simprocAttr, ↓reduceIte, ↓Nat.reduceEqDiff, xx, fd29, m29, c, g0, g1, g2, g3, bytesAV_length, hl, H.bytes_all, hr2, H.noImms_bytesAV]
def L28 : MC := match m28 with | .seq _ (.seq _ (.seq _ (.seq (.seq _ (.block _ (.loop _ b))) _))) => b | _ => .skip
def S28 (D : List UInt8) (w a : Nat) (i : Nat) : St := ⟨[.set 18 (i64 i), .set 17 (i64 4), .set 16 (.sl 8 [] 0 4), .set 7 (i64 a), .set 2 (i64 w)], [(8, .fix (.ar 16 .sc) (.agg (bytesAV D)))]⟩
theorem place_at [Nonempty (H.GlK gl)] (h : 8 ≤ n) {key : List UInt8} (hk : key.length ≤ 1000) {r w : Nat} (hr : r < 4) (hw : 1 ≤ w ∧ w ≤ 4096) : call gl tab n 28 [.str key, i64 r, i64 w] [] = some (i64 ((plc key r % w : Nat) : Int), [], []) := by
  obtain ⟨d, rfl⟩ := Nat.exists_eq_add_of_le' h
  have c : call gl tab (d + 7) 41 [.int .i64 (80 + (r : Int)), .lst false .sc [.str key]] [] = some (.agg (bytesAV (H.dig (H.inp (80 + (r : Int)) [key]))), [], []) := H.of_at (gl := gl) (n := d + 6) (by omega) (80 + (r : Int)) false [key] (sml_key hk)
  have hl := H.dig_len (H.inp (80 + (r : Int)) [key])
  have hr2 := H.rem_nat (plc key r) w (by omega)
  have hg := fun i hi => dg_at key r i hi
  have ha := acc_lt key r
  rw [← acc_4] at hr2 ⊢
  generalize H.dig (H.inp (80 + (r : Int)) [key]) = D at *
  have hs : ∀ i, i < 4 → contK [.slot 2, .slot 7, .slot 16, .slot 17, .slot 18, .key 8] (evC gl (call gl tab (d + 7)) L28 (S28 D w (acc key r i) i)) = some (S28 D w (acc key r (i + 1)) (i + 1)) := fun i hi => by
    have hx := hg i (by omega)
    have h1 : acc key r i < 2 ^ 50 := Nat.lt_of_lt_of_le (ha i) (Nat.le_trans (Nat.pow_le_pow_right (by omega) (show i ≤ 3 by omega)) (by decide))
    have h2 := shl8 _ h1
    have h3 := or8 _ _ h1 (dgB_lt key r i)
    have hb := dgB_lt key r i
    rw [acc]
    generalize acc key r i = a at *
    generalize dgB key r i = x at *
    simp (disch := ((fail_if_success (intro _)); omega)) only [go_sem, simprocAttr, ↓reduceIte, ↓Nat.reduceEqDiff, xx, L28, m28, S28, hx, h2, h3, bytesAV_length, hl]
  simp only [L28, m28] at hs
  rw [call_go (fd := fd28) rfl]
  simp (disch := ((fail_if_success (intro _)); omega)) only [go_sem, simprocAttr, ↓reduceIte, ↓Nat.reduceEqDiff, xx, fd28, m28, c, bytesAV_length, hl, H.bytes_all, H.noImms_bytesAV]
  rw [iter_to (fun i => S28 D w (acc key r i) i) 4 (by unfold LF; omega)]
  · simp (disch := ((fail_if_success (intro _)); omega)) only [go_sem, simprocAttr, ↓reduceIte, ↓Nat.reduceEqDiff, xx, S28, hr2]
  · simp (disch := ((fail_if_success (intro _)); omega)) only [go_sem, simprocAttr, ↓reduceIte, ↓Nat.reduceEqDiff, xx, S28, acc]
  · exact hs
  · simp (disch := ((fail_if_success (intro _)); omega)) only [go_sem, simprocAttr, ↓reduceIte, ↓Nat.reduceEqDiff, xx, S28]
end Go.Proofs.S08
namespace Go.Proofs.S08
open Go Go.Ev Go.Proofs
set_option linter.unusedSimpArgs false
set_option linter.unusedVariables false
section
variable {gl : Gl} {n : Nat} [Nonempty (H.GlK gl)]
/-- A key's cell in a row. -/
def pl (key : List UInt8) (w r : Nat) : Nat := r * w + plc key r % w
theorem pl_lt {key : List UInt8} {w r : Nat} (hw : 1 ≤ w) (hr : r < 4) : pl key w r < 4 * w := by
  have h1 := Nat.mod_lt (plc key r) (show 0 < w by omega)
  have h2 : r * w ≤ 3 * w := Nat.mul_le_mul_right w (by omega)
  unfold pl; omega
def P4 (p : Nat → Nat) : List AV := [i64 (p 0), i64 (p 1), i64 (p 2), i64 (p 3)]
def o4 (p : Nat → Nat) (i : Nat) : List AV := [i64 (if 0 < i then (p 0 : Nat) else 0), i64 (if 1 < i then (p 1 : Nat) else 0), i64 (if 2 < i then (p 2 : Nat) else 0), i64 (if 3 < i then (p 3 : Nat) else 0)]
theorem o4_len (p : Nat → Nat) (i : Nat) : (o4 p i).length = 4 := rfl
theorem o4_get (p : Nat → Nat) (i : Nat) (h : i < 4) : (o4 p i)[i]? = some (i64 0) := by
  match i, h with
  | 0, _ => rfl
  | 1, _ => rfl
  | 2, _ => rfl
  | 3, _ => rfl
theorem o4_set (p : Nat → Nat) (i : Nat) (h : i < 4) : (o4 p i).set i (i64 (p i)) = o4 p (i + 1) := by
  match i, h with
  | 0, _ => rfl
  | 1, _ => rfl
  | 2, _ => rfl
  | 3, _ => rfl
theorem o4_4 (p : Nat → Nat) : o4 p 4 = P4 p := rfl
theorem o4_sc (p : Nat → Nat) (i : Nat) : (o4 p i).all AV.scalar = true := rfl
def L31 : MC := match m31 with | .seq _ (.seq (.seq _ (.block _ (.loop _ b))) _) => b | _ => .skip
def S31 (w : Nat) (s a : Int) (f : Bool) (l : List Int) (key : List UInt8) (i : Nat) : St :=
  ⟨[.set 6 (i64 i), .set 4 (.ptr 4 []), .set 2 (.ptr 2 []), .set 1 (.str key)], [(4, .fix (.ar 4 .sc) (.agg (o4 (pl key w) i))), (2, .fix sK (.agg [i64 w, i64 s, i64 a, .lst f .sc (ns l)]))]⟩
theorem of_at (h : 9 ≤ n) {key : List UInt8} (hk : key.length ≤ 1000) {w : Nat} (hw : 1 ≤ w ∧ w ≤ 4096) {s a : Int} {f : Bool} {l : List Int} : call gl tab n 31 [.agg [i64 w, i64 s, i64 a, .lst f .sc (ns l)], .str key] [] = some (.agg (P4 (pl key w)), [], []) := by
  obtain ⟨d, rfl⟩ := Nat.exists_eq_add_of_le' h
  have hs : ∀ i, i < 4 → contK [.slot 1, .slot 2, .slot 4, .slot 6, .key 2, .key 4] (evC gl (call gl tab (d + 8)) L31 (S31 w s a f l key i)) = some (S31 w s a f l key (i + 1)) := fun i hi => by
    have c := @place_at gl (d + 8) _ (by omega) key hk i w hi hw
    have hm := Nat.mod_lt (plc key i) (show 0 < w by omega)
    have hx := o4_get (pl key w) i hi
    have hy := o4_set (pl key w) i hi
    have hl := o4_len (pl key w) i
    have hsc := o4_sc (pl key w) i
    have hlt : i * w ≤ 3 * w := Nat.mul_le_mul_right w (by omega)
    have e : pl key w i = i * w + plc key i % w := rfl
    rw [e] at hy
    simp only [Int.natCast_add, Int.natCast_mul] at hy
    generalize plc key i % w = y at *
    generalize hz : i * w = z at *
    have hz2 : (i : Int) * (w : Int) = (z : Int) := by rw [← hz]; exact (Int.natCast_mul i w).symm
    rw [hz2] at hy
    rw [S31, S31, ← hy]
    generalize o4 (pl key w) i = o at *
    simp (disch := ((fail_if_success (intro _)); omega)) only [go_sem, simprocAttr, ↓reduceIte, ↓Nat.reduceEqDiff, xx, L31, m31, c, hx, hl, hsc, hz2, Int.natCast_mul]
  simp only [L31, m31] at hs
  rw [call_go (fd := fd31) rfl]
  simp (disch := ((fail_if_success (intro _)); omega)) only [go_sem, simprocAttr, ↓reduceIte, ↓Nat.reduceEqDiff, xx, fd31, m31]
  rw [iter_to (S31 w s a f l key) 4 (by unfold LF; omega)]
  · rw [S31, o4_4]; simp (disch := ((fail_if_success (intro _)); omega)) only [go_sem, simprocAttr, ↓reduceIte, ↓Nat.reduceEqDiff, xx, P4]
  · simp (disch := ((fail_if_success (intro _)); omega)) only [go_sem, simprocAttr, ↓reduceIte, ↓Nat.reduceEqDiff, xx, S31, o4]
  · exact hs
  · simp (disch := ((fail_if_success (intro _)); omega)) only [go_sem, simprocAttr, ↓reduceIte, ↓Nat.reduceEqDiff, xx, S31]
end
end Go.Proofs.S08
