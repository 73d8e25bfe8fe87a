/-
  Regions: what is asked of one operation, and the state after it. No condition.
-/
import Derived.Test.YtdbppejfcolacaaEvRes2
namespace Go.Ev
open Go

def Kept (w w' : World) : Prop := w'.os = w.os ∧ w'.output = w.output
theorem Kept.refl (w : World) : Kept w w := ⟨rfl, rfl⟩
theorem Kept.trans {a b c : World} (h : Kept a b) (h' : Kept b c) : Kept a c := ⟨h'.1.trans h.1, h'.2.trans h.2⟩

/-- One operation's law. -/
def OpOk (F : Fence) (n : Nat) (P : Program) (gl : Gl) (cl : Cl) : Prop :=
  ∀ {im : Im} (o : Oper) (m : MOp) (a : Act) (w : World) (G : Gh) (st : St) (v : AV) (us : Hp), GlOk w.heap G gl → StOk w.heap G st a.tmps → compOp P im o = some m → stepOp gl cl st o.dst m = some (v, us) →
    ∀ (K : Act → World → Prop) (Q : Exit → Act → World → Prop),
      (∀ v' w' G', Kept w w' → Step w.heap G st.hp w'.heap G' (us ++ st.hp) → RepT w'.heap G' v' v → K (a.put o.dst v') w') → o.wpIn F n P a w K Q

theorem put_tmps (a : Act) (d : Option Tmp) (v : Value) (hd : ∀ i, d = some i → i < a.tmps.size) (i : Nat) :
    (a.put d v).tmps.getD i undef = if d = some i then v else a.tmps.getD i undef := by
  cases d with
  | none => simp [Act.put]
  | some j =>
    have hj := hd j rfl
    simp only [Act.put, Option.some.injEq]
    by_cases h : j = i
    · subst h
      simp [hj]
    · simp only [h, if_false, Array.getD_eq_getD_getElem?]
      rw [Array.getElem?_setIfInBounds_ne h]
theorem put_size (a : Act) (d : Option Tmp) (v : Value) : (a.put d v).tmps.size = a.tmps.size := by
  cases d <;> simp [Act.put]

theorem upd_get (fr : Fr) (d : Option Nat) (v : AV) (i : Nat) : (fr.upd d v).get i = if d = some i then v else fr.get i := by
  cases d with
  | none => simp [Fr.upd]
  | some j => simp [Fr.upd, Fr.get]

theorem stOk_upd {H H' : Heap} {G G' : Gh} {st : St} {a : Act} {d : Option Tmp} {v : AV} {v' : Value} {us : Hp} (hst : StOk H G st a.tmps) (hd : ∀ i, d = some i → i < a.tmps.size)
    (hs : Step H G st.hp H' G' (us ++ st.hp)) (hv : RepT H' G' v' v) : StOk H' G' (st.upd d v us) (a.put d v').tmps := by
  refine ⟨hs.inv, fun i => ?_⟩
  rw [put_tmps a d v' hd, St.upd, upd_get]
  split
  · exact hv
  · exact (hst.fr i).mono hs.le

end Go.Ev
