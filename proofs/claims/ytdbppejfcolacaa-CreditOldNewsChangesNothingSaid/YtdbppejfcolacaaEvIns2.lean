/-
  Given functions of the library: slices.Insert of one element, what the evaluator's pieces come to. No condition.
-/
import Derived.Test.YtdbppejfcolacaaEvIns
namespace Go.Ev
open Go
set_option linter.unusedSimpArgs false
set_option linter.unusedVariables false
variable {gl : Gl} {cl : Cl} {sh : Sh} {z : AV} {g sz : Nat} {els : List AV} {x : AV} {i : Nat}

def inH (sh : Sh) (els : List AV) (x : AV) : Hp := [(100000, .grow sh els), (100001, .grow sh [x])]
def inS0 (sh : Sh) (els : List AV) (x : AV) (i : Nat) : St := { fr := frOf 0 [.sl 100000 [] 0 els.length, .int .i64 i, .sl 100001 [] 0 1], hp := inH sh els x }
def inS1 (sh : Sh) (els : List AV) (x : AV) (i : Nat) : St :=
  { fr := [.set 0 (.sl 100000 [] 0 els.length), .set 1 (.int .i64 i), .set 2 (.sl 100001 [] 0 1), .set 7 (.int .i64 1), .set 8 (.int .i64 els.length)], hp := inH sh els x }
theorem wI {a : Int} (h0 : 0 ≤ a) (h : a ≤ 2 ^ 40) : IntKind.wrap .i64 a = a := by simp [IntKind.wrap, IntKind.bits, IntKind.signed]; omega
theorem ins_pre_lt (hsz : sz = sh.size) (hi : i < els.length) (hl : els.length + 1 ≤ LIM) :
    ∃ st', evSeq gl cl (inMpre sh g sz) (inS0 sh els x i) = some (.norm, st') ∧ { fr := keepFr st'.fr [0, 1, 2, 7, 8], hp := st'.hp : St } = inS1 sh els x i := by
  have h1 : i ≤ els.length := Nat.le_of_lt hi
  have h2 : ((i : Int) == (els.length : Int)) = false := by simp; omega
  subst hsz
  have h3 : ((1 : Int) == 0) = false := rfl
  simp [inMpre, inM3, inM6, inS0, inS1, inH, frOf, evSeq, evC, evIts, stepOp, Opd.val, Fr.get, St.upd, Fr.upd, Hp.get, Sh.sub, bnds, h1, h2, h3, binAV, binInt, keepFr]
theorem ins_pre_eq (hsz : sz = sh.size) (hg : g ≤ 512) (hl : els.length + 1 ≤ LIM) :
    ∃ st', evSeq gl cl (inMpre sh g sz) (inS0 sh els x els.length) = some (.ret, st') ∧ { fr := keepFr st'.fr [6], hp := st'.hp : St } = { fr := [.set 6 (.sl 25 [] 0 (els.length + 1))], hp := (100000, .dead) :: (25, .grow sh (els ++ [x])) :: inH sh els x } := by
  subst hsz
  have h3 : ((1 : Int) == 0) = false := rfl
  simp [inMpre, inM3, inM6, inS0, inS1, inH, frOf, evSeq, evC, evIts, stepOp, Opd.val, Fr.get, St.upd, Fr.upd, Hp.get, Sh.sub, bnds, h3, binAV, binInt, keepFr, content, sub, Sh.beq_refl, hg, hl]
section
variable {t it bt ut : TypeId} {ov rr : Nat}
theorem ins_8a (hl : els.length + 1 ≤ LIM) : ∃ st', evIts gl cl (itsOf (((insA8 t it bt ut ov rr).zip inA8).map fun q => (q.1.dst, q.2))) (inS1 sh els x i) = some st' ∧
    { fr := keepFr st'.fr [0, 1, 2, 7, 8, 28, 29], hp := st'.hp : St } = { fr := (inS1 sh els x i).fr ++ [.set 28 (.int .i64 ((els.length : Int) + 1)), .set 29 (.sl 100000 [] 0 els.length)], hp := inH sh els x } := by
  have h1 : IntKind.wrap .i64 ((els.length : Int) + 1) = (els.length : Int) + 1 := wI (by omega) (by simp only [LIM] at hl; omega)
  simp [insA8, inA8, itsOf, evIts, stepOp, Opd.val, Fr.get, St.upd, Fr.upd, binAV, binInt, inS1, keepFr, h1]
theorem ins_9a (hi : i < els.length) (hsz : sz = sh.size) (hl : els.length + 1 ≤ LIM) : ∃ st', evIts gl cl (itsOf (((insA9 t it bt ut ov rr).zip (inA9 sz)).map fun q => (q.1.dst, q.2))) (inS1 sh els x i) = some st' ∧
    { fr := keepFr st'.fr [0, 1, 2, 7, 34, 39], hp := st'.hp : St } =
      { fr := [.set 0 (.sl 100000 [] 0 els.length), .set 1 (.int .i64 i), .set 2 (.sl 100001 [] 0 1), .set 7 (.int .i64 1), .set 34 (.sl 100000 [] 0 i), .set 39 (.int .i64 ((els.length + 1 - i : Nat) : Int))], hp := inH sh els x } := by
  have h1 : IntKind.wrap .i64 ((els.length : Int) + 1) = (els.length : Int) + 1 := wI (by omega) (by simp only [LIM] at hl; omega)
  have h2 : IntKind.wrap .i64 ((els.length : Int) + 1 - i) = ((els.length + 1 - i : Nat) : Int) := by rw [wI (by omega) (by simp only [LIM] at hl; omega)]; omega
  have h3 : i ≤ els.length := by omega
  subst hsz
  simp [insA9, inA9, itsOf, evIts, stepOp, Opd.val, Fr.get, St.upd, Fr.upd, binAV, binInt, inS1, inH, Hp.get, bnds, keepFr, h1, h2, h3]
theorem ins_13a (hl : els.length + 1 ≤ LIM) : ∃ st', evIts gl cl (itsOf (((insA13 t it bt ut ov rr).zip inA13).map fun q => (q.1.dst, q.2))) (inS1 sh els x i) = some st' ∧
    { fr := keepFr st'.fr [1, 2, 7, 56, 59], hp := st'.hp : St } =
      { fr := [.set 1 (.int .i64 i), .set 2 (.sl 100001 [] 0 1), .set 7 (.int .i64 1), .set 56 (.sl 100000 [] 0 els.length), .set 59 (.int .i64 ((els.length : Int) + 1))], hp := inH sh els x } := by
  have h1 : IntKind.wrap .i64 ((els.length : Int) + 1) = (els.length : Int) + 1 := wI (by omega) (by simp only [LIM] at hl; omega)
  simp [insA13, inA13, itsOf, evIts, stepOp, Opd.val, Fr.get, St.upd, Fr.upd, binAV, binInt, inS1, keepFr, h1]
def inS14 (sh : Sh) (els : List AV) (x : AV) (i : Nat) : St :=
  { fr := [.set 0 (.sl 100000 [] 0 (els.length + 1)), .set 1 (.int .i64 i), .set 2 (.sl 100001 [] 0 1), .set 7 (.int .i64 1)], hp := inH sh els x }
theorem ins_14a (hi : i < els.length) (hsz : sz = sh.size) (hl : els.length + 1 ≤ LIM) : ∃ st', evIts gl cl (itsOf (((insA14 t it bt ut ov rr).zip (inA14 sz)).map fun q => (q.1.dst, q.2))) (inS14 sh els x i) = some st' ∧
    { fr := keepFr st'.fr [0, 1, 2, 7, 61, 66], hp := st'.hp : St } = { fr := (inS14 sh els x i).fr ++ [.set 61 (.sl 100001 [] 0 1), .set 66 (.sl 100000 [] (i + 1) (els.length - i))], hp := inH sh els x } := by
  have h1 : IntKind.wrap .i64 ((i : Int) + 1) = ((i + 1 : Nat) : Int) := by rw [wI (by omega) (by simp only [LIM] at hl; omega)]; rfl
  have h3 : i + 1 ≤ els.length + 1 := by omega
  have h4 : ((i : Int) + 1) ≤ ((els.length : Int) + 1) := by omega
  have h5 : ((i : Int) + 1).toNat = i + 1 := by omega
  have h6 : els.length + 1 - (i + 1) = els.length - i := by omega
  have h7 : 0 ≤ (i : Int) + 1 := by omega
  subst hsz
  simp [insA14, inA14, itsOf, evIts, stepOp, Opd.val, Fr.get, St.upd, Fr.upd, binAV, binInt, inS14, inH, Hp.get, bnds, keepFr, h1, h3, h4, h5, h6, h7]
/-- The list with one more. -/
def insL (els : List AV) (i : Nat) (x : AV) : List AV := els.take i ++ x :: els.drop i
theorem ins_15 (hi : i < els.length) (hsz : sz = sh.size) (hl : els.length + 1 ≤ LIM) : ∃ st', evC gl cl (inM15 sh sz) (inS14 sh els x i) = some (.ret, st') ∧ keepFr st'.fr [6] = [.set 6 (.sl 100000 [] 0 (els.length + 1))] ∧
    ∀ k, st'.hp.get k = Hp.get ((100000, .grow sh (insL els i x)) :: [(100001, .grow sh [x])]) k := by
  have h1 : IntKind.wrap .i64 ((i : Int) + 1) = ((i + 1 : Nat) : Int) := by rw [wI (by omega) (by simp only [LIM] at hl; omega)]; rfl
  have h4 : ((i : Int) + 1) ≤ ((els.length : Int) + 1) := by omega
  have h5 : ((i : Int) + 1).toNat = i + 1 := by omega
  have h6 : els.length + 1 - (i + 1) = els.length - i := by omega
  have h7 : 0 ≤ (i : Int) + 1 := by omega
  have h8 : ¬ (i + (els.length + 1 - i) ≤ els.length) := by omega
  have h9 : min (els.length + 1 - i) (els.length - i) = els.length - i := by omega
  have h10 : i + 1 ≤ els.length := by omega
  have h11 : els.length ≤ i + 1 + (els.length - i) := by omega
  have h12 : i + (els.length - i) ≤ els.length := by omega
  have h13 : 0 < els.length - i := by omega
  have h14 : (i : Int) ≤ (els.length : Int) + 1 := by omega
  have h15 : i + (els.length + 1 - i) ≤ min (i + 1) els.length + min (els.length - i) (els.length - i) := by omega
  have h16 : min 1 (els.length + 1 - i) = 1 := by omega
  subst hsz
  have h17 : i ≤ els.length + 1 := by omega
  have h18 : ¬ (els.length + 1 ≤ els.length) := by omega
  have h19 : i + (els.length - i) = els.length := by omega
  have h20 : i + (els.length + 1 - i) = els.length + 1 := by omega
  have h21 : min (i + 1) els.length = i + 1 := by omega
  have h22 : els.length + 1 ≤ i + 1 + (els.length - i) := by omega
  simp [inM15, evC_seq, seqK, evC_draw0, evC_reg, evC_ret, flat0K_some, evFlat0_op, evFlat0_nil, normK_some, evIts, stepOp, Opd.val, Fr.get, St.upd, Fr.upd, binAV, binInt, inS14, inH, Hp.get, bnds, h1, h4, h5, h6, h7, content, h8, copyExt, h9, Sh.beq_refl, h10, h11, h12, h13, h14, Sh.sub, sub, h15, h16, h17, h18, h19, h20, h21, h22, keepFr]
  intro k
  have e' : List.take i (List.take (i + 1) els ++ List.take (els.length - i) (List.drop i els)) ++ x :: List.take (els.length - i) (List.drop i els) = insL els i x := by
    have e1 : List.take (els.length - i) (List.drop i els) = List.drop i els := List.take_of_length_le (by simp)
    have hl2 : (List.take (i + 1) els).length = i + 1 := by rw [List.length_take]; omega
    rw [e1, List.take_append_of_le_length (by omega), List.take_take]
    simp [insL, Nat.min_eq_left]
  rw [e']
  by_cases hk : 100000 = k
  · simp [hk]
  · simp [hk]
def inS10 (sh : Sh) (z : AV) (els : List AV) (x : AV) (i : Nat) : St :=
  { fr := [.set 0 (.sl 100000 [] 0 els.length), .set 1 (.int .i64 i), .set 2 (.sl 100001 [] 0 1), .set 7 (.int .i64 1), .set 9 (.sl 40 [] 0 (els.length + 1))], hp := (40, .grow sh (els.take i ++ List.replicate (els.length + 1 - i) z)) :: inH sh els x }
theorem ins_10 (hi : i < els.length) (hsz : sz = sh.size) (hl : els.length + 1 ≤ LIM) : ∃ st', evC gl cl (inM10 sh sz) (inS10 sh z els x i) = some (.ret, st') ∧ keepFr st'.fr [6] = [.set 6 (.sl 40 [] 0 (els.length + 1))] ∧
    ∀ k, st'.hp.get k = Hp.get ((40, .grow sh (insL els i x)) :: inH sh els x) k := by
  have h1 : IntKind.wrap .i64 ((i : Int) + 1) = ((i + 1 : Nat) : Int) := by rw [wI (by omega) (by simp only [LIM] at hl; omega)]; rfl
  have h2 : (i : Int) ≤ (els.length : Int) + 1 := by omega
  have h3 : ((i : Int) + 1) ≤ ((els.length : Int) + 1) := by omega
  have h4 : i ≤ els.length := by omega
  have h5 : ((i : Int) + 1).toNat = i + 1 := by omega
  have h6 : els.length + 1 - (i + 1) = els.length - i := by omega
  have h7 : 0 ≤ (i : Int) + 1 := by omega
  have h8 : i + (els.length + 1 - i) = els.length + 1 := by omega
  have h9 : min i els.length = i := by omega
  have h10 : i + (els.length - i) = els.length := by omega
  have h11 : min 1 (els.length + 1 - i) = 1 := by omega
  have h12 : i ≤ els.length + 1 := by omega
  have h13 : i + 1 + (els.length - i) = els.length + 1 := by omega
  have h14 : els.length + 1 - i - 1 = els.length - i := by omega
  have h15 : i + (1 + (els.length - i)) = els.length + 1 := by omega
  have h16 : i + (els.length - i + 1) = els.length + 1 := by omega
  have h17 : (List.take i els).length = i := by rw [List.length_take]; omega
  have h18 : List.take i (List.take i els ++ List.replicate (els.length + 1 - i) z) = List.take i els := by rw [List.take_append_of_le_length (by omega), List.take_take, Nat.min_self]
  subst hsz
  simp [inM10, evC_seq, seqK, evC_draw0, evC_reg, evC_ret, flat0K_some, evFlat0_op, evFlat0_nil, normK_some, evIts, stepOp, Opd.val, Fr.get, St.upd, Fr.upd, binAV, binInt, inS10, inH, Hp.get, bnds, h1, h2, h3, h4, h5, h6, h7, h8, h9, h10, content, Sh.beq_refl, h11, h12, Sh.sub, sub, h13, h14, h15, h16, h18, keepFr]
  intro k
  have e1 : ∀ (D : List AV), List.take (i + 1) (List.take i els ++ x :: D) = List.take i els ++ [x] := fun D => by
    rw [List.take_append, h17, List.take_take, show i + 1 - i = 1 by omega, Nat.min_eq_right (by omega)]; simp
  have e2 : List.take (els.length - i) (List.take (els.length - i) (List.drop i els)) = List.drop i els := by
    rw [List.take_take, Nat.min_self]; exact List.take_of_length_le (by simp)
  have e3 : List.drop (els.length + 1) (List.take i els ++ x :: List.drop (i + 1) (List.take i els ++ List.replicate (els.length + 1 - i) z)) = [] := by
    apply List.drop_of_length_le
    simp [h9]; omega
  by_cases hk : 40 = k
  · simp [hk, e1, e2, e3, insL]
  · simp [hk]
end
end Go.Ev
