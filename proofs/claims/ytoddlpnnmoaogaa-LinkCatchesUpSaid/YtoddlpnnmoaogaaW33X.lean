/-
  Chapter 33: a line. No condition.
-/
import Derived.Test.YtoddlpnnmoaogaaW33Q
import Derived.Test.YtoddlpnnmoaogaaW33P
import Derived.Test.YtoddlpnnmoaogaaW33N
set_option linter.unusedVariables false
set_option linter.unusedSimpArgs false
set_option linter.unusedSectionVars false
namespace Go.Proofs.S33
open Go Go.Ev Go.Proofs
set_option linter.unusedSimpArgs false
set_option linter.unusedVariables false
variable {gl : Gl} {n : Nat}
def tn (l : List Int) : List AV := l.map fun x => i64 x
def tat (l : List Int) (i : Nat) : Int := l.getD i 0
theorem tn_at {l : List Int} {i : Nat} (h : i < l.length) : (tn l)[i]? = some (i64 (tat l i)) := by simp [tn, tat, h]
theorem tn_app (l : List Int) (x : Int) : tn (l ++ [x]) = tn l ++ [i64 x] := by simp [tn]
theorem tn_one (x : Int) : tn [x] = [i64 x] := rfl
theorem fm_app2 (l r : List Fm) : fm (l ++ r) = fm l ++ fm r := by simp [fm]
theorem tn_length (l : List Int) : (tn l).length = l.length := by simp [tn]
abbrev nilL : AV := .lst true .sc []
abbrev lwA (O I : AV) : AV := .agg [O, I, nilL, nilL, nilL, .bool false]
abbrev lwB (O I : AV) (ks s : Nat) : AV := .aggR [O, I, .sl ks [] 0 s, nilL, nilL, .bool false]
abbrev lwC (O I : AV) (ks s kt t kd d : Nat) : AV := .aggR [O, I, .sl ks [] 0 s, .sl kt [] 0 t, .sl kd [] 0 d, .bool false]
abbrev ib (nx : Int) (f : Bool) (m : Sh) (l : List Fm) : AV := .agg [i64 nx, .lst f m (fm l)]
def iB (se : List Fm) : Hp := [(100000, .grow sF (fm se))]
def iC (se : List Fm) (to : List Int) (de : List Fm) : Hp := [(100000, .grow sF (fm se)), (100001, .grow .sc (tn to)), (100002, .grow sF (fm de))]
theorem rem8 {k c : Int} (h : k.tmod 6 = c) : binInt .rem .u8 k 6 = some (.int .u8 c) := by
  show (if (6 : Int) = 0 then none else some (AV.int .u8 (k.tmod 6))) = _
  rw [if_neg (by decide), h]
theorem convN {v : Nat} (h : v ≤ 255) : IntKind.wrap .i64 (v : Int) = v := wrap_i64 (by omega) (by omega)
end Go.Proofs.S33
namespace Go.Proofs.S33
open Go Go.Ev Go.Proofs
set_option linter.unusedSimpArgs false
set_option linter.unusedVariables false
variable {gl : Gl} {n : Nat}
set_option maxHeartbeats 4000000 in
theorem putA {v b a : Nat} {s : List UInt8} {f : Bool} {m : Sh} {l : List (List UInt8)} {nx : Int} {fi : Bool} {mi : Sh} {ah : List Fm} (hb : b ≤ 200) (hl : l.length ≤ 200) {b2 a2 : Nat} {s2 : List UInt8} {f2 : Bool} {m2 : Sh} {l2 : List (List UInt8)} {ms : List UInt8} (c26 : call gl tab n 26 [i64 ((b : Int) + (l.length : Int))] [] = some (.str ms, [], [])) (c25 : call gl tab n 25 [ob b a s f m l, .str ms] [] = some (.tup [ob b2 a2 s2 f2 m2 l2, i64 0], [], [])) {k : Int} (hv : v ≤ 255) (hk : k.tmod 6 = 0) :
    call gl tab (n + 1) 11 [lwA (ob b a s f m l) (ib nx fi mi ah), .agg [.int .u8 k, .int .u8 v]] ([]) = some (lwA (ob b2 a2 s2 f2 m2 l2) (ib nx fi mi ah), [], []) := by
  have r := rem8 hk
  rw [call_gen (fd := fd11) rfl]
  simp (maxSteps := 1000000) (disch := ((fail_if_success (intro _)); omega)) only [go_sem, simprocAttr, ↓reduceIte, ↓Nat.reduceEqDiff, xx, fd11, m11, ss_length, tn_length, fm_length, r, c26, c25]
set_option maxHeartbeats 4000000 in
theorem foldA {v b a : Nat} {s : List UInt8} {f : Bool} {m : Sh} {l : List (List UInt8)} {nx : Int} {fi : Bool} {mi : Sh} {ah : List Fm} (hb : b ≤ 200) (hl : l.length ≤ 200) {b2 a2 : Nat} {s2 : List UInt8} {f2 : Bool} {m2 : Sh} {l2 : List (List UInt8)} {ms : List UInt8} (c27 : call gl tab n 27 [i64 ((b : Int) + ((v % (l.length + 1) : Nat) : Int))] [] = some (.str ms, [], [])) (c18 : call gl tab n 18 [ob b a s f m l, i64 ((b : Int) + ((v % (l.length + 1) : Nat) : Int)), .str ms] [] = some (.tup [ob b2 a2 s2 f2 m2 l2, i64 0], [], [])) {k : Int} (hv : v ≤ 255) (hk : k.tmod 6 = 1) :
    call gl tab (n + 1) 11 [lwA (ob b a s f m l) (ib nx fi mi ah), .agg [.int .u8 k, .int .u8 v]] ([]) = some (lwA (ob b2 a2 s2 f2 m2 l2) (ib nx fi mi ah), [], []) := by
  have r := rem8 hk
  have hw := convN hv
  have r2 := rem_at v (l.length + 1) (by omega)
  have hlt : v % (l.length + 1) < l.length + 1 := Nat.mod_lt _ (by omega)
  simp only [Int.natCast_add, Int.natCast_one] at r2
  generalize v % (l.length + 1) = u at *
  rw [call_gen (fd := fd11) rfl]
  simp (maxSteps := 1000000) (disch := ((fail_if_success (intro _)); omega)) only [go_sem, simprocAttr, ↓reduceIte, ↓Nat.reduceEqDiff, xx, fd11, m11, ss_length, tn_length, fm_length, r, hw, r2, c27, c18]
set_option maxHeartbeats 4000000 in
theorem frames0A {v b a : Nat} {s : List UInt8} {f : Bool} {m : Sh} {l : List (List UInt8)} {nx : Int} {fi : Bool} {mi : Sh} {ah : List Fm} (hb : b ≤ 200) (hl : l.length ≤ 200) {f3 : Bool} {m3 : Sh} (c13 : call gl tab n 13 [ob b a s f m l, i64 (1 + ((v % 20 : Nat) : Int))] [] = some (.tup [.lst f3 m3 [], i64 0], [], [])) {k : Int} (hv : v ≤ 255) (hk : k.tmod 6 = 2) :
    call gl tab (n + 1) 11 [lwA (ob b a s f m l) (ib nx fi mi ah), .agg [.int .u8 k, .int .u8 v]] ([]) = some (lwB (ob b a s f m l) (ib nx fi mi ah) 20000 0, [], [.grow sF (fm [])]) := by
  have r := rem8 hk
  have hw := convN hv
  have r2 := rem_at v 20 (by omega)
  have hlt : v % 20 < 20 := Nat.mod_lt _ (by omega)
  simp only [Int.cast_ofNat_Int] at r2
  generalize v % 20 = u at *
  rw [call_gen (fd := fd11) rfl]
  simp (maxSteps := 1000000) (disch := ((fail_if_success (intro _)); omega)) only [go_sem, simprocAttr, ↓reduceIte, ↓Nat.reduceEqDiff, xx, fd11, m11, ss_length, tn_length, fm_length, r, hw, r2, c13, fm_nil, List.nil_append, List.append_nil]
set_option maxHeartbeats 4000000 in
theorem frames1A {v b a : Nat} {s : List UInt8} {f : Bool} {m : Sh} {l : List (List UInt8)} {nx : Int} {fi : Bool} {mi : Sh} {ah : List Fm} (hb : b ≤ 200) (hl : l.length ≤ 200) {f3 : Bool} {fr : List Fm} (hfr : fr.length ≤ 1000) (c13 : call gl tab n 13 [ob b a s f m l, i64 (1 + ((v % 20 : Nat) : Int))] [] = some (.tup [.lst f3 sF (fm fr), i64 0], [], [])) {k : Int} (hv : v ≤ 255) (hk : k.tmod 6 = 2) :
    call gl tab (n + 1) 11 [lwA (ob b a s f m l) (ib nx fi mi ah), .agg [.int .u8 k, .int .u8 v]] ([]) = some (lwB (ob b a s f m l) (ib nx fi mi ah) 20000 fr.length, [], [.grow sF (fm fr)]) := by
  have r := rem8 hk
  have hw := convN hv
  have r2 := rem_at v 20 (by omega)
  have hlt : v % 20 < 20 := Nat.mod_lt _ (by omega)
  simp only [Int.cast_ofNat_Int] at r2
  generalize v % 20 = u at *
  have hL2 : fr.length ≤ LIM := by unfold LIM; omega
  rw [call_gen (fd := fd11) rfl]
  simp (maxSteps := 1000000) (disch := ((fail_if_success (intro _)); omega)) only [go_sem, simprocAttr, ↓reduceIte, ↓Nat.reduceEqDiff, xx, fd11, m11, ss_length, tn_length, fm_length, r, hw, r2, c13, hL2, fm_nil, List.nil_append, List.append_nil]
set_option maxHeartbeats 4000000 in
theorem noneA {v b a : Nat} {s : List UInt8} {f : Bool} {m : Sh} {l : List (List UInt8)} {nx : Int} {fi : Bool} {mi : Sh} {ah : List Fm} (hb : b ≤ 200) (hl : l.length ≤ 200) {k : Int} (hv : v ≤ 255) (hk : k.tmod 6 = 3) :
    call gl tab (n + 1) 11 [lwA (ob b a s f m l) (ib nx fi mi ah), .agg [.int .u8 k, .int .u8 v]] ([]) = some (lwA (ob b a s f m l) (ib nx fi mi ah), [], []) := by
  have r := rem8 hk
  rw [call_gen (fd := fd11) rfl]
  simp (maxSteps := 1000000) (disch := ((fail_if_success (intro _)); omega)) only [go_sem, simprocAttr, ↓reduceIte, ↓Nat.reduceEqDiff, xx, fd11, m11, ss_length, tn_length, fm_length, r]
set_option maxHeartbeats 4000000 in
theorem acknA {v b a : Nat} {s : List UInt8} {f : Bool} {m : Sh} {l : List (List UInt8)} {nx : Int} {fi : Bool} {mi : Sh} {ah : List Fm} (hb : b ≤ 200) (hl : l.length ≤ 200) {k : Int} (hv : v ≤ 255) (hk : k.tmod 6 = 4) :
    call gl tab (n + 1) 11 [lwA (ob b a s f m l) (ib nx fi mi ah), .agg [.int .u8 k, .int .u8 v]] ([]) = some (lwA (ob b a s f m l) (ib nx fi mi ah), [], []) := by
  have r := rem8 hk
  rw [call_gen (fd := fd11) rfl]
  simp (maxSteps := 1000000) (disch := ((fail_if_success (intro _)); omega)) only [go_sem, simprocAttr, ↓reduceIte, ↓Nat.reduceEqDiff, xx, fd11, m11, ss_length, tn_length, fm_length, r]
set_option maxHeartbeats 4000000 in
theorem restA {v b a : Nat} {s : List UInt8} {f : Bool} {m : Sh} {l : List (List UInt8)} {nx : Int} {fi : Bool} {mi : Sh} {ah : List Fm} (hb : b ≤ 200) (hl : l.length ≤ 200) (c28 : call gl tab n 28 [ib nx fi mi ah] [] = some (ib nx true .sc [], [], [])) {k : Int} (hv : v ≤ 255) (hk : k.tmod 6 = 5) :
    call gl tab (n + 1) 11 [lwA (ob b a s f m l) (ib nx fi mi ah), .agg [.int .u8 k, .int .u8 v]] ([]) = some (lwA (ob b a s f m l) (ib nx true .sc []), [], []) := by
  have r := rem8 hk
  rw [call_gen (fd := fd11) rfl]
  simp (maxSteps := 1000000) (disch := ((fail_if_success (intro _)); omega)) only [go_sem, simprocAttr, ↓reduceIte, ↓Nat.reduceEqDiff, xx, fd11, m11, ss_length, tn_length, fm_length, r, c28, fm_nil]
end Go.Proofs.S33
namespace Go.Proofs.S33
open Go Go.Ev Go.Proofs
set_option linter.unusedSimpArgs false
set_option linter.unusedVariables false
variable {gl : Gl} {n : Nat}
set_option maxHeartbeats 4000000 in
theorem putB {v b a : Nat} {s : List UInt8} {f : Bool} {m : Sh} {l : List (List UInt8)} {nx : Int} {fi : Bool} {mi : Sh} {ah : List Fm} {se : List Fm} (hse : se.length ≤ 50000) (hb : b ≤ 200) (hl : l.length ≤ 200) {b2 a2 : Nat} {s2 : List UInt8} {f2 : Bool} {m2 : Sh} {l2 : List (List UInt8)} {ms : List UInt8} (c26 : call gl tab n 26 [i64 ((b : Int) + (l.length : Int))] [] = some (.str ms, [], [])) (c25 : call gl tab n 25 [ob b a s f m l, .str ms] [] = some (.tup [ob b2 a2 s2 f2 m2 l2, i64 0], [], [])) {k : Int} (hv : v ≤ 255) (hk : k.tmod 6 = 0) :
    call gl tab (n + 1) 11 [lwB (ob b a s f m l) (ib nx fi mi ah) 100000 se.length, .agg [.int .u8 k, .int .u8 v]] (iB se) = some (lwB (ob b2 a2 s2 f2 m2 l2) (ib nx fi mi ah) 100000 se.length, iB se, []) := by
  have r := rem8 hk
  rw [call_gen (fd := fd11) rfl]
  simp (maxSteps := 1000000) (disch := ((fail_if_success (intro _)); omega)) only [go_sem, simprocAttr, ↓reduceIte, ↓Nat.reduceEqDiff, xx, fd11, m11, ss_length, tn_length, fm_length, iB, r, c26, c25]
set_option maxHeartbeats 4000000 in
theorem foldB {v b a : Nat} {s : List UInt8} {f : Bool} {m : Sh} {l : List (List UInt8)} {nx : Int} {fi : Bool} {mi : Sh} {ah : List Fm} {se : List Fm} (hse : se.length ≤ 50000) (hb : b ≤ 200) (hl : l.length ≤ 200) {b2 a2 : Nat} {s2 : List UInt8} {f2 : Bool} {m2 : Sh} {l2 : List (List UInt8)} {ms : List UInt8} (c27 : call gl tab n 27 [i64 ((b : Int) + ((v % (l.length + 1) : Nat) : Int))] [] = some (.str ms, [], [])) (c18 : call gl tab n 18 [ob b a s f m l, i64 ((b : Int) + ((v % (l.length + 1) : Nat) : Int)), .str ms] [] = some (.tup [ob b2 a2 s2 f2 m2 l2, i64 0], [], [])) {k : Int} (hv : v ≤ 255) (hk : k.tmod 6 = 1) :
    call gl tab (n + 1) 11 [lwB (ob b a s f m l) (ib nx fi mi ah) 100000 se.length, .agg [.int .u8 k, .int .u8 v]] (iB se) = some (lwB (ob b2 a2 s2 f2 m2 l2) (ib nx fi mi ah) 100000 se.length, iB se, []) := by
  have r := rem8 hk
  have hw := convN hv
  have r2 := rem_at v (l.length + 1) (by omega)
  have hlt : v % (l.length + 1) < l.length + 1 := Nat.mod_lt _ (by omega)
  simp only [Int.natCast_add, Int.natCast_one] at r2
  generalize v % (l.length + 1) = u at *
  rw [call_gen (fd := fd11) rfl]
  simp (maxSteps := 1000000) (disch := ((fail_if_success (intro _)); omega)) only [go_sem, simprocAttr, ↓reduceIte, ↓Nat.reduceEqDiff, xx, fd11, m11, ss_length, tn_length, fm_length, iB, r, hw, r2, c27, c18]
set_option maxHeartbeats 4000000 in
theorem frames0B {v b a : Nat} {s : List UInt8} {f : Bool} {m : Sh} {l : List (List UInt8)} {nx : Int} {fi : Bool} {mi : Sh} {ah : List Fm} {se : List Fm} (hse : se.length ≤ 50000) (hb : b ≤ 200) (hl : l.length ≤ 200) {f3 : Bool} {m3 : Sh} (c13 : call gl tab n 13 [ob b a s f m l, i64 (1 + ((v % 20 : Nat) : Int))] [] = some (.tup [.lst f3 m3 [], i64 0], [], [])) {k : Int} (hv : v ≤ 255) (hk : k.tmod 6 = 2) :
    call gl tab (n + 1) 11 [lwB (ob b a s f m l) (ib nx fi mi ah) 100000 se.length, .agg [.int .u8 k, .int .u8 v]] (iB se) = some (lwB (ob b a s f m l) (ib nx fi mi ah) 20000 se.length, iB se, [.grow sF (fm se)]) := by
  have r := rem8 hk
  have hw := convN hv
  have r2 := rem_at v 20 (by omega)
  have hlt : v % 20 < 20 := Nat.mod_lt _ (by omega)
  simp only [Int.cast_ofNat_Int] at r2
  generalize v % 20 = u at *
  have hs1 := fm_take' se
  have hL1 : se.length ≤ LIM := by unfold LIM; omega
  rw [call_gen (fd := fd11) rfl]
  simp (maxSteps := 1000000) (disch := ((fail_if_success (intro _)); omega)) only [go_sem, simprocAttr, ↓reduceIte, ↓Nat.reduceEqDiff, xx, fd11, m11, ss_length, tn_length, fm_length, iB, r, hw, r2, c13, hs1, hL1, fm_nil, List.nil_append, List.append_nil]
set_option maxHeartbeats 4000000 in
theorem frames1B {v b a : Nat} {s : List UInt8} {f : Bool} {m : Sh} {l : List (List UInt8)} {nx : Int} {fi : Bool} {mi : Sh} {ah : List Fm} {se : List Fm} (hse : se.length ≤ 50000) (hb : b ≤ 200) (hl : l.length ≤ 200) {f3 : Bool} {fr : List Fm} (hfr : fr.length ≤ 1000) (c13 : call gl tab n 13 [ob b a s f m l, i64 (1 + ((v % 20 : Nat) : Int))] [] = some (.tup [.lst f3 sF (fm fr), i64 0], [], [])) {k : Int} (hv : v ≤ 255) (hk : k.tmod 6 = 2) :
    call gl tab (n + 1) 11 [lwB (ob b a s f m l) (ib nx fi mi ah) 100000 se.length, .agg [.int .u8 k, .int .u8 v]] (iB se) = some (lwB (ob b a s f m l) (ib nx fi mi ah) 20000 (se ++ fr).length, iB se, [.grow sF (fm (se ++ fr))]) := by
  have r := rem8 hk
  have hw := convN hv
  have r2 := rem_at v 20 (by omega)
  have hlt : v % 20 < 20 := Nat.mod_lt _ (by omega)
  simp only [Int.cast_ofNat_Int] at r2
  generalize v % 20 = u at *
  have hs1 := fm_take' se
  have hL1 : se.length ≤ LIM := by unfold LIM; omega
  have hL2 : fr.length ≤ LIM := by unfold LIM; omega
  have hL3 : se.length + fr.length ≤ LIM := by unfold LIM; omega
  have ha := fm_app2 se fr
  have hla : (se ++ fr).length = se.length + fr.length := by simp
  rw [call_gen (fd := fd11) rfl]
  simp (maxSteps := 1000000) (disch := ((fail_if_success (intro _)); omega)) only [go_sem, simprocAttr, ↓reduceIte, ↓Nat.reduceEqDiff, xx, fd11, m11, ss_length, tn_length, fm_length, iB, r, hw, r2, c13, hs1, hL1, hL2, hL3, ha, hla, fm_nil, List.nil_append, List.append_nil]
set_option maxHeartbeats 4000000 in
theorem rcv0B {v b a : Nat} {s : List UInt8} {f : Bool} {m : Sh} {l : List (List UInt8)} {nx : Int} {fi : Bool} {mi : Sh} {ah : List Fm} {se : List Fm} (hse : se.length ≤ 50000) (hb : b ≤ 200) (hl : l.length ≤ 200) {nx2 : Int} {fi2 f3 : Bool} {mi2 : Sh} {ah2 : List Fm} (hah : ah2.length ≤ 1000) {m3 : Sh} (h0 : 0 < se.length) (c8 : call gl tab n 8 [ib nx fi mi ah, .agg [.bool (fat se (v % se.length)).s, i64 (fat se (v % se.length)).q, .str (fat se (v % se.length)).b]] [] = some (.tup [ib nx2 fi2 mi2 ah2, .lst f3 m3 [], i64 0], [], [])) {k : Int} (hv : v ≤ 255) (hk : k.tmod 6 = 3) :
    call gl tab (n + 1) 11 [lwB (ob b a s f m l) (ib nx fi mi ah) 100000 se.length, .agg [.int .u8 k, .int .u8 v]] (iB se) = some (lwC (ob b a s f m l) (ib nx2 fi2 mi2 ah2) 100000 se.length 20000 1 20001 0, iB se, [.grow .sc (tn [nx2]), .grow sF (fm [])]) := by
  have r := rem8 hk
  have hw := convN hv
  have r2 := rem_at v se.length h0
  have hlt : v % se.length < se.length := Nat.mod_lt _ h0
  have hx := fm_at hlt
  generalize v % se.length = u at *
  have hs1 := fm_take' se
  have hL1 : 1 ≤ LIM := by unfold LIM; omega
  rw [call_gen (fd := fd11) rfl]
  simp (maxSteps := 1000000) (disch := ((fail_if_success (intro _)); omega)) only [go_sem, simprocAttr, ↓reduceIte, ↓Nat.reduceEqDiff, xx, fd11, m11, ss_length, tn_length, fm_length, iB, r, hw, r2, hx, c8, hs1, hL1, tn_one, fm_nil, List.nil_append, List.append_nil]
set_option maxHeartbeats 4000000 in
theorem rcv1B {v b a : Nat} {s : List UInt8} {f : Bool} {m : Sh} {l : List (List UInt8)} {nx : Int} {fi : Bool} {mi : Sh} {ah : List Fm} {se : List Fm} (hse : se.length ≤ 50000) (hb : b ≤ 200) (hl : l.length ≤ 200) {nx2 : Int} {fi2 f3 : Bool} {mi2 : Sh} {ah2 : List Fm} (hah : ah2.length ≤ 1000) {o : List Fm} (ho : o.length ≤ 1000) (h0 : 0 < se.length) (c8 : call gl tab n 8 [ib nx fi mi ah, .agg [.bool (fat se (v % se.length)).s, i64 (fat se (v % se.length)).q, .str (fat se (v % se.length)).b]] [] = some (.tup [ib nx2 fi2 mi2 ah2, .lst f3 sF (fm o), i64 0], [], [])) {k : Int} (hv : v ≤ 255) (hk : k.tmod 6 = 3) :
    call gl tab (n + 1) 11 [lwB (ob b a s f m l) (ib nx fi mi ah) 100000 se.length, .agg [.int .u8 k, .int .u8 v]] (iB se) = some (lwC (ob b a s f m l) (ib nx2 fi2 mi2 ah2) 100000 se.length 20000 1 20001 o.length, iB se, [.grow .sc (tn [nx2]), .grow sF (fm o)]) := by
  have r := rem8 hk
  have hw := convN hv
  have r2 := rem_at v se.length h0
  have hlt : v % se.length < se.length := Nat.mod_lt _ h0
  have hx := fm_at hlt
  generalize v % se.length = u at *
  have hs1 := fm_take' se
  have hL1 : 1 ≤ LIM := by unfold LIM; omega
  have hL2 : o.length ≤ LIM := by unfold LIM; omega
  rw [call_gen (fd := fd11) rfl]
  simp (maxSteps := 1000000) (disch := ((fail_if_success (intro _)); omega)) only [go_sem, simprocAttr, ↓reduceIte, ↓Nat.reduceEqDiff, xx, fd11, m11, ss_length, tn_length, fm_length, iB, r, hw, r2, hx, c8, hs1, hL1, tn_one, hL2, fm_nil, List.nil_append, List.append_nil]
set_option maxHeartbeats 4000000 in
theorem noneB {v b a : Nat} {s : List UInt8} {f : Bool} {m : Sh} {l : List (List UInt8)} {nx : Int} {fi : Bool} {mi : Sh} {ah : List Fm} {se : List Fm} (hse : se.length ≤ 50000) (hb : b ≤ 200) (hl : l.length ≤ 200) (h0 : se.length = 0) {k : Int} (hv : v ≤ 255) (hk : k.tmod 6 = 3) :
    call gl tab (n + 1) 11 [lwB (ob b a s f m l) (ib nx fi mi ah) 100000 se.length, .agg [.int .u8 k, .int .u8 v]] (iB se) = some (lwB (ob b a s f m l) (ib nx fi mi ah) 100000 se.length, iB se, []) := by
  have r := rem8 hk
  rw [call_gen (fd := fd11) rfl]
  simp (maxSteps := 1000000) (disch := ((fail_if_success (intro _)); omega)) only [go_sem, simprocAttr, ↓reduceIte, ↓Nat.reduceEqDiff, xx, fd11, m11, ss_length, tn_length, fm_length, iB, r, h0]
set_option maxHeartbeats 4000000 in
theorem acknB {v b a : Nat} {s : List UInt8} {f : Bool} {m : Sh} {l : List (List UInt8)} {nx : Int} {fi : Bool} {mi : Sh} {ah : List Fm} {se : List Fm} (hse : se.length ≤ 50000) (hb : b ≤ 200) (hl : l.length ≤ 200) {k : Int} (hv : v ≤ 255) (hk : k.tmod 6 = 4) :
    call gl tab (n + 1) 11 [lwB (ob b a s f m l) (ib nx fi mi ah) 100000 se.length, .agg [.int .u8 k, .int .u8 v]] (iB se) = some (lwB (ob b a s f m l) (ib nx fi mi ah) 100000 se.length, iB se, []) := by
  have r := rem8 hk
  rw [call_gen (fd := fd11) rfl]
  simp (maxSteps := 1000000) (disch := ((fail_if_success (intro _)); omega)) only [go_sem, simprocAttr, ↓reduceIte, ↓Nat.reduceEqDiff, xx, fd11, m11, ss_length, tn_length, fm_length, iB, r]
set_option maxHeartbeats 4000000 in
theorem restB {v b a : Nat} {s : List UInt8} {f : Bool} {m : Sh} {l : List (List UInt8)} {nx : Int} {fi : Bool} {mi : Sh} {ah : List Fm} {se : List Fm} (hse : se.length ≤ 50000) (hb : b ≤ 200) (hl : l.length ≤ 200) (c28 : call gl tab n 28 [ib nx fi mi ah] [] = some (ib nx true .sc [], [], [])) {k : Int} (hv : v ≤ 255) (hk : k.tmod 6 = 5) :
    call gl tab (n + 1) 11 [lwB (ob b a s f m l) (ib nx fi mi ah) 100000 se.length, .agg [.int .u8 k, .int .u8 v]] (iB se) = some (lwB (ob b a s f m l) (ib nx true .sc []) 100000 se.length, iB se, []) := by
  have r := rem8 hk
  rw [call_gen (fd := fd11) rfl]
  simp (maxSteps := 1000000) (disch := ((fail_if_success (intro _)); omega)) only [go_sem, simprocAttr, ↓reduceIte, ↓Nat.reduceEqDiff, xx, fd11, m11, ss_length, tn_length, fm_length, iB, r, c28, fm_nil]
end Go.Proofs.S33
namespace Go.Proofs.S33
open Go Go.Ev Go.Proofs
set_option linter.unusedSimpArgs false
set_option linter.unusedVariables false
variable {gl : Gl} {n : Nat}
set_option maxHeartbeats 4000000 in
theorem putC {v b a : Nat} {s : List UInt8} {f : Bool} {m : Sh} {l : List (List UInt8)} {nx : Int} {fi : Bool} {mi : Sh} {ah : List Fm} {se de : List Fm} {to : List Int} (hse : se.length ≤ 50000) (hto : to.length ≤ 50000) (hde : de.length ≤ 50000) (hb : b ≤ 200) (hl : l.length ≤ 200) {b2 a2 : Nat} {s2 : List UInt8} {f2 : Bool} {m2 : Sh} {l2 : List (List UInt8)} {ms : List UInt8} (c26 : call gl tab n 26 [i64 ((b : Int) + (l.length : Int))] [] = some (.str ms, [], [])) (c25 : call gl tab n 25 [ob b a s f m l, .str ms] [] = some (.tup [ob b2 a2 s2 f2 m2 l2, i64 0], [], [])) {k : Int} (hv : v ≤ 255) (hk : k.tmod 6 = 0) :
    call gl tab (n + 1) 11 [lwC (ob b a s f m l) (ib nx fi mi ah) 100000 se.length 100001 to.length 100002 de.length, .agg [.int .u8 k, .int .u8 v]] (iC se to de) = some (lwC (ob b2 a2 s2 f2 m2 l2) (ib nx fi mi ah) 100000 se.length 100001 to.length 100002 de.length, iC se to de, []) := by
  have r := rem8 hk
  rw [call_gen (fd := fd11) rfl]
  simp (maxSteps := 1000000) (disch := ((fail_if_success (intro _)); omega)) only [go_sem, simprocAttr, ↓reduceIte, ↓Nat.reduceEqDiff, xx, fd11, m11, ss_length, tn_length, fm_length, iC, r, c26, c25]
set_option maxHeartbeats 4000000 in
theorem foldC {v b a : Nat} {s : List UInt8} {f : Bool} {m : Sh} {l : List (List UInt8)} {nx : Int} {fi : Bool} {mi : Sh} {ah : List Fm} {se de : List Fm} {to : List Int} (hse : se.length ≤ 50000) (hto : to.length ≤ 50000) (hde : de.length ≤ 50000) (hb : b ≤ 200) (hl : l.length ≤ 200) {b2 a2 : Nat} {s2 : List UInt8} {f2 : Bool} {m2 : Sh} {l2 : List (List UInt8)} {ms : List UInt8} (c27 : call gl tab n 27 [i64 ((b : Int) + ((v % (l.length + 1) : Nat) : Int))] [] = some (.str ms, [], [])) (c18 : call gl tab n 18 [ob b a s f m l, i64 ((b : Int) + ((v % (l.length + 1) : Nat) : Int)), .str ms] [] = some (.tup [ob b2 a2 s2 f2 m2 l2, i64 0], [], [])) {k : Int} (hv : v ≤ 255) (hk : k.tmod 6 = 1) :
    call gl tab (n + 1) 11 [lwC (ob b a s f m l) (ib nx fi mi ah) 100000 se.length 100001 to.length 100002 de.length, .agg [.int .u8 k, .int .u8 v]] (iC se to de) = some (lwC (ob b2 a2 s2 f2 m2 l2) (ib nx fi mi ah) 100000 se.length 100001 to.length 100002 de.length, iC se to de, []) := by
  have r := rem8 hk
  have hw := convN hv
  have r2 := rem_at v (l.length + 1) (by omega)
  have hlt : v % (l.length + 1) < l.length + 1 := Nat.mod_lt _ (by omega)
  simp only [Int.natCast_add, Int.natCast_one] at r2
  generalize v % (l.length + 1) = u at *
  rw [call_gen (fd := fd11) rfl]
  simp (maxSteps := 1000000) (disch := ((fail_if_success (intro _)); omega)) only [go_sem, simprocAttr, ↓reduceIte, ↓Nat.reduceEqDiff, xx, fd11, m11, ss_length, tn_length, fm_length, iC, r, hw, r2, c27, c18]
set_option maxHeartbeats 4000000 in
theorem frames0C {v b a : Nat} {s : List UInt8} {f : Bool} {m : Sh} {l : List (List UInt8)} {nx : Int} {fi : Bool} {mi : Sh} {ah : List Fm} {se de : List Fm} {to : List Int} (hse : se.length ≤ 50000) (hto : to.length ≤ 50000) (hde : de.length ≤ 50000) (hb : b ≤ 200) (hl : l.length ≤ 200) {f3 : Bool} {m3 : Sh} (c13 : call gl tab n 13 [ob b a s f m l, i64 (1 + ((v % 20 : Nat) : Int))] [] = some (.tup [.lst f3 m3 [], i64 0], [], [])) {k : Int} (hv : v ≤ 255) (hk : k.tmod 6 = 2) :
    call gl tab (n + 1) 11 [lwC (ob b a s f m l) (ib nx fi mi ah) 100000 se.length 100001 to.length 100002 de.length, .agg [.int .u8 k, .int .u8 v]] (iC se to de) = some (lwC (ob b a s f m l) (ib nx fi mi ah) 20000 se.length 100001 to.length 100002 de.length, iC se to de, [.grow sF (fm se)]) := by
  have r := rem8 hk
  have hw := convN hv
  have r2 := rem_at v 20 (by omega)
  have hlt : v % 20 < 20 := Nat.mod_lt _ (by omega)
  simp only [Int.cast_ofNat_Int] at r2
  generalize v % 20 = u at *
  have hs1 := fm_take' se
  have hL1 : se.length ≤ LIM := by unfold LIM; omega
  rw [call_gen (fd := fd11) rfl]
  simp (maxSteps := 1000000) (disch := ((fail_if_success (intro _)); omega)) only [go_sem, simprocAttr, ↓reduceIte, ↓Nat.reduceEqDiff, xx, fd11, m11, ss_length, tn_length, fm_length, iC, r, hw, r2, c13, hs1, hL1, fm_nil, List.nil_append, List.append_nil]
set_option maxHeartbeats 4000000 in
theorem frames1C {v b a : Nat} {s : List UInt8} {f : Bool} {m : Sh} {l : List (List UInt8)} {nx : Int} {fi : Bool} {mi : Sh} {ah : List Fm} {se de : List Fm} {to : List Int} (hse : se.length ≤ 50000) (hto : to.length ≤ 50000) (hde : de.length ≤ 50000) (hb : b ≤ 200) (hl : l.length ≤ 200) {f3 : Bool} {fr : List Fm} (hfr : fr.length ≤ 1000) (c13 : call gl tab n 13 [ob b a s f m l, i64 (1 + ((v % 20 : Nat) : Int))] [] = some (.tup [.lst f3 sF (fm fr), i64 0], [], [])) {k : Int} (hv : v ≤ 255) (hk : k.tmod 6 = 2) :
    call gl tab (n + 1) 11 [lwC (ob b a s f m l) (ib nx fi mi ah) 100000 se.length 100001 to.length 100002 de.length, .agg [.int .u8 k, .int .u8 v]] (iC se to de) = some (lwC (ob b a s f m l) (ib nx fi mi ah) 20000 (se ++ fr).length 100001 to.length 100002 de.length, iC se to de, [.grow sF (fm (se ++ fr))]) := by
  have r := rem8 hk
  have hw := convN hv
  have r2 := rem_at v 20 (by omega)
  have hlt : v % 20 < 20 := Nat.mod_lt _ (by omega)
  simp only [Int.cast_ofNat_Int] at r2
  generalize v % 20 = u at *
  have hs1 := fm_take' se
  have hL1 : se.length ≤ LIM := by unfold LIM; omega
  have hL2 : fr.length ≤ LIM := by unfold LIM; omega
  have hL3 : se.length + fr.length ≤ LIM := by unfold LIM; omega
  have ha := fm_app2 se fr
  have hla : (se ++ fr).length = se.length + fr.length := by simp
  rw [call_gen (fd := fd11) rfl]
  simp (maxSteps := 1000000) (disch := ((fail_if_success (intro _)); omega)) only [go_sem, simprocAttr, ↓reduceIte, ↓Nat.reduceEqDiff, xx, fd11, m11, ss_length, tn_length, fm_length, iC, r, hw, r2, c13, hs1, hL1, hL2, hL3, ha, hla, fm_nil, List.nil_append, List.append_nil]
set_option maxHeartbeats 4000000 in
theorem rcv0C {v b a : Nat} {s : List UInt8} {f : Bool} {m : Sh} {l : List (List UInt8)} {nx : Int} {fi : Bool} {mi : Sh} {ah : List Fm} {se de : List Fm} {to : List Int} (hse : se.length ≤ 50000) (hto : to.length ≤ 50000) (hde : de.length ≤ 50000) (hb : b ≤ 200) (hl : l.length ≤ 200) {nx2 : Int} {fi2 f3 : Bool} {mi2 : Sh} {ah2 : List Fm} (hah : ah2.length ≤ 1000) {m3 : Sh} (h0 : 0 < se.length) (c8 : call gl tab n 8 [ib nx fi mi ah, .agg [.bool (fat se (v % se.length)).s, i64 (fat se (v % se.length)).q, .str (fat se (v % se.length)).b]] [] = some (.tup [ib nx2 fi2 mi2 ah2, .lst f3 m3 [], i64 0], [], [])) {k : Int} (hv : v ≤ 255) (hk : k.tmod 6 = 3) :
    call gl tab (n + 1) 11 [lwC (ob b a s f m l) (ib nx fi mi ah) 100000 se.length 100001 to.length 100002 de.length, .agg [.int .u8 k, .int .u8 v]] (iC se to de) = some (lwC (ob b a s f m l) (ib nx2 fi2 mi2 ah2) 100000 se.length 20000 (to.length + 1) 20001 de.length, iC se to de, [.grow .sc (tn (to ++ [nx2])), .grow sF (fm de)]) := by
  have r := rem8 hk
  have hw := convN hv
  have r2 := rem_at v se.length h0
  have hlt : v % se.length < se.length := Nat.mod_lt _ h0
  have hx := fm_at hlt
  generalize v % se.length = u at *
  have hs1 := fm_take' se
  have hL1 : 1 ≤ LIM := by unfold LIM; omega
  have hL3 : to.length ≤ LIM := by unfold LIM; omega
  have hL4 : to.length + 1 ≤ LIM := by unfold LIM; omega
  have hL5 : de.length ≤ LIM := by unfold LIM; omega
  have ht := tn_app to nx2
  have hd1 := fm_take' de
  have htt : (tn to).take to.length = tn to := by rw [← tn_length]; exact List.take_length
  rw [call_gen (fd := fd11) rfl]
  simp (maxSteps := 1000000) (disch := ((fail_if_success (intro _)); omega)) only [go_sem, simprocAttr, ↓reduceIte, ↓Nat.reduceEqDiff, xx, fd11, m11, ss_length, tn_length, fm_length, iC, r, hw, r2, hx, c8, hs1, hL1, tn_one, hL3, hL4, hL5, ht, hd1, htt, fm_nil, List.nil_append, List.append_nil]
set_option maxHeartbeats 4000000 in
theorem rcv1C {v b a : Nat} {s : List UInt8} {f : Bool} {m : Sh} {l : List (List UInt8)} {nx : Int} {fi : Bool} {mi : Sh} {ah : List Fm} {se de : List Fm} {to : List Int} (hse : se.length ≤ 50000) (hto : to.length ≤ 50000) (hde : de.length ≤ 50000) (hb : b ≤ 200) (hl : l.length ≤ 200) {nx2 : Int} {fi2 f3 : Bool} {mi2 : Sh} {ah2 : List Fm} (hah : ah2.length ≤ 1000) {o : List Fm} (ho : o.length ≤ 1000) (h0 : 0 < se.length) (c8 : call gl tab n 8 [ib nx fi mi ah, .agg [.bool (fat se (v % se.length)).s, i64 (fat se (v % se.length)).q, .str (fat se (v % se.length)).b]] [] = some (.tup [ib nx2 fi2 mi2 ah2, .lst f3 sF (fm o), i64 0], [], [])) {k : Int} (hv : v ≤ 255) (hk : k.tmod 6 = 3) :
    call gl tab (n + 1) 11 [lwC (ob b a s f m l) (ib nx fi mi ah) 100000 se.length 100001 to.length 100002 de.length, .agg [.int .u8 k, .int .u8 v]] (iC se to de) = some (lwC (ob b a s f m l) (ib nx2 fi2 mi2 ah2) 100000 se.length 20000 (to.length + 1) 20001 (de ++ o).length, iC se to de, [.grow .sc (tn (to ++ [nx2])), .grow sF (fm (de ++ o))]) := by
  have r := rem8 hk
  have hw := convN hv
  have r2 := rem_at v se.length h0
  have hlt : v % se.length < se.length := Nat.mod_lt _ h0
  have hx := fm_at hlt
  generalize v % se.length = u at *
  have hs1 := fm_take' se
  have hL1 : 1 ≤ LIM := by unfold LIM; omega
  have hL2 : o.length ≤ LIM := by unfold LIM; omega
  have hL3 : to.length ≤ LIM := by unfold LIM; omega
  have hL4 : to.length + 1 ≤ LIM := by unfold LIM; omega
  have hL5 : de.length ≤ LIM := by unfold LIM; omega
  have ht := tn_app to nx2
  have hd1 := fm_take' de
  have htt : (tn to).take to.length = tn to := by rw [← tn_length]; exact List.take_length
  have hL6 : de.length + o.length ≤ LIM := by unfold LIM; omega
  have ha := fm_app2 de o
  have hla : (de ++ o).length = de.length + o.length := by simp
  rw [call_gen (fd := fd11) rfl]
  simp (maxSteps := 1000000) (disch := ((fail_if_success (intro _)); omega)) only [go_sem, simprocAttr, ↓reduceIte, ↓Nat.reduceEqDiff, xx, fd11, m11, ss_length, tn_length, fm_length, iC, r, hw, r2, hx, c8, hs1, hL1, tn_one, hL2, hL3, hL4, hL5, ht, hd1, htt, hL6, ha, hla, fm_nil, List.nil_append, List.append_nil]
set_option maxHeartbeats 4000000 in
theorem ackC {v b a : Nat} {s : List UInt8} {f : Bool} {m : Sh} {l : List (List UInt8)} {nx : Int} {fi : Bool} {mi : Sh} {ah : List Fm} {se de : List Fm} {to : List Int} (hse : se.length ≤ 50000) (hto : to.length ≤ 50000) (hde : de.length ≤ 50000) (hb : b ≤ 200) (hl : l.length ≤ 200) {b2 a2 : Nat} {s2 : List UInt8} {f2 : Bool} {m2 : Sh} {l2 : List (List UInt8)} (h0 : 0 < to.length) (c14 : call gl tab n 14 [ob b a s f m l, i64 (tat to (v % to.length))] [] = some (.tup [ob b2 a2 s2 f2 m2 l2, i64 0], [], [])) {k : Int} (hv : v ≤ 255) (hk : k.tmod 6 = 4) :
    call gl tab (n + 1) 11 [lwC (ob b a s f m l) (ib nx fi mi ah) 100000 se.length 100001 to.length 100002 de.length, .agg [.int .u8 k, .int .u8 v]] (iC se to de) = some (lwC (ob b2 a2 s2 f2 m2 l2) (ib nx fi mi ah) 100000 se.length 100001 to.length 100002 de.length, iC se to de, []) := by
  have r := rem8 hk
  have hw := convN hv
  have r2 := rem_at v to.length h0
  have hlt : v % to.length < to.length := Nat.mod_lt _ h0
  have hx := tn_at hlt
  generalize v % to.length = u at *
  have htt : (tn to).take to.length = tn to := by rw [← tn_length]; exact List.take_length
  rw [call_gen (fd := fd11) rfl]
  simp (maxSteps := 1000000) (disch := ((fail_if_success (intro _)); omega)) only [go_sem, simprocAttr, ↓reduceIte, ↓Nat.reduceEqDiff, xx, fd11, m11, ss_length, tn_length, fm_length, iC, r, hw, r2, hx, htt, c14]
set_option maxHeartbeats 4000000 in
theorem restC {v b a : Nat} {s : List UInt8} {f : Bool} {m : Sh} {l : List (List UInt8)} {nx : Int} {fi : Bool} {mi : Sh} {ah : List Fm} {se de : List Fm} {to : List Int} (hse : se.length ≤ 50000) (hto : to.length ≤ 50000) (hde : de.length ≤ 50000) (hb : b ≤ 200) (hl : l.length ≤ 200) (c28 : call gl tab n 28 [ib nx fi mi ah] [] = some (ib nx true .sc [], [], [])) {k : Int} (hv : v ≤ 255) (hk : k.tmod 6 = 5) :
    call gl tab (n + 1) 11 [lwC (ob b a s f m l) (ib nx fi mi ah) 100000 se.length 100001 to.length 100002 de.length, .agg [.int .u8 k, .int .u8 v]] (iC se to de) = some (lwC (ob b a s f m l) (ib nx true .sc []) 100000 se.length 100001 to.length 100002 de.length, iC se to de, []) := by
  have r := rem8 hk
  rw [call_gen (fd := fd11) rfl]
  simp (maxSteps := 1000000) (disch := ((fail_if_success (intro _)); omega)) only [go_sem, simprocAttr, ↓reduceIte, ↓Nat.reduceEqDiff, xx, fd11, m11, ss_length, tn_length, fm_length, iC, r, c28, fm_nil]
end Go.Proofs.S33
