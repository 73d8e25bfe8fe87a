/-
  Chapter 33: receiving, and once more. No condition.
-/
import Derived.Test.YtoddlpnnmoaogaaW33j
import Derived.Test.YtoddlpnnmoaogaaW33k
import Derived.Test.YtoddlpnnmoaogaaW33l
import Derived.Test.YtoddlpnnmoaogaaW33n
set_option linter.unusedVariables false
set_option linter.unusedSimpArgs false
set_option linter.unusedSectionVars false
namespace Go.Proofs.S33
open Go Go.Ev Go.Proofs
set_option linter.unusedSimpArgs false
set_option linter.unusedVariables false
variable {gl : Gl} {n : Nat}
/-- What Receive makes of a valid inbox and a frame that is not too long: the inbox after it, what is delivered, the error. -/
inductive RO (nx : Int) (l : List Fm) (x : Fm) : Int → List Fm → List Fm → Int → Prop
  | arg (h : ¬ (0 ≤ x.q ∧ x.q ≤ 1099511627776)) : RO nx l x nx l [] 1
  | old (h : 0 ≤ x.q ∧ x.q ≤ 1099511627776) (h1 : x.q < nx ∨ x.s = true ∧ x.q = nx) : RO nx l x nx l [] 0
  | keep (h : 0 ≤ x.q ∧ x.q ≤ 1099511627776) (h1 : x.s = false ∧ nx < x.q) (h2 : 64 ≤ l.length ∨ ∃ k, k < l.length ∧ (fat l k).q = x.q) : RO nx l x nx l [] 0
  | ins (h : 0 ≤ x.q ∧ x.q ≤ 1099511627776) (h1 : x.s = false ∧ nx < x.q) (h2 : l.length < 64) (h3 : ∀ k, k < l.length → (fat l k).q ≠ x.q) (k : Nat) (h4 : Pl l x.q k) : RO nx l x nx (insF l k x) [] 0
  | now (h : 0 ≤ x.q ∧ x.q ≤ 1099511627776) (h1 : x.s = false ∧ nx = x.q ∨ x.s = true ∧ nx < x.q) (d a : Nat) (h2 : Rn l (aft x) d a) : RO nx l x (aft x + (a - d : Nat)) (l.drop a) (oA l [x] d a l.length) 0
theorem aft_pos {nx : Int} {l : List Fm} (hv : VI nx l) {x : Fm} (h : 0 ≤ x.q ∧ x.q ≤ 1099511627776) (h1 : x.s = false ∧ nx = x.q ∨ x.s = true ∧ nx < x.q) : nx < aft x ∧ aft x ≤ 1099511627777 ∧ x.q ≤ aft x ∧ (x.s = false → x.q < aft x) := by
  have := hv.pos
  unfold aft
  rcases h1 with ⟨h1, h2⟩ | ⟨h1, h2⟩
  · rw [h1]; simp; omega
  · rw [h1]; simp; omega
theorem rcv_at (h : 6 ≤ n) {f : Bool} {m : Sh} {nx : Int} {l : List Fm} (hm : Mk l m) (hv : VI nx l) {x : Fm} (hb : x.b.length ≤ 65536) :
    ∃ (nx' : Int) (l' o : List Fm) (f' f'' : Bool) (m' m'' : Sh) (e : Int), RO nx l x nx' l' o e ∧ Mk l' m' ∧ Mk o m'' ∧
      call gl tab n 8 [.agg [i64 nx, .lst f m (fm l)], .agg [.bool x.s, i64 x.q, .str x.b]] [] = some (.tup [.agg [i64 nx', .lst f' m' (fm l')], .lst f'' m'' (fm o), i64 e], [], []) := by
  by_cases hq : 0 ≤ x.q ∧ x.q ≤ 1099511627776
  case neg => exact ⟨_, _, [], _, true, _, .sc, _, .arg hq, hm, .inl rfl, rcv_arg h hm hv hb hq⟩
  by_cases h1 : x.q < nx ∨ x.s = true ∧ x.q = nx
  · exact ⟨_, _, [], _, true, _, .sc, _, .old hq h1, hm, .inl rfl, rcv_old h hm hv hb hq h1⟩
  by_cases h2 : x.s = false ∧ nx < x.q
  · by_cases h3 : 64 ≤ l.length ∨ ∃ k, k < l.length ∧ (fat l k).q = x.q
    · exact ⟨_, _, [], _, true, _, .sc, _, .keep hq h2 h3, hm, .inl rfl, rcv_keep h hm hv hb hq h2 h3⟩
    · have h4 : l.length < 64 := by omega
      have h5 : ∀ k, k < l.length → (fat l k).q ≠ x.q := fun k hk he => h3 (.inr ⟨k, hk, he⟩)
      obtain ⟨k, hp, c⟩ := @rcv_ins gl n h f m nx l hm hv x hb hq h2 h4 h5
      exact ⟨_, _, [], _, true, _, .sc, _, .ins hq h2 h4 h5 k hp, .inr rfl, .inl rfl, c⟩
  have h3 : x.s = false ∧ nx = x.q ∨ x.s = true ∧ nx < x.q := by
    cases hs : x.s with
    | false => rw [hs] at h1 h2; simp at h1 h2; exact .inl ⟨rfl, by omega⟩
    | true => rw [hs] at h1 h2; simp at h1 h2; exact .inr ⟨rfl, by omega⟩
  obtain ⟨g1, g2, g3, g4⟩ := aft_pos hv hq h3
  obtain ⟨d, a, hr⟩ := rn_ex hv (x := aft x) (by omega) g2
  by_cases h0 : a = 0
  · exact ⟨_, _, _, _, _, _, _, _, .now hq h3 d a hr, .inr rfl, .inr rfl, rcv_now0 h hm hv hb hq h3 hr h0⟩
  by_cases h5 : a - d = 0
  · exact ⟨_, _, _, _, _, _, _, _, .now hq h3 d a hr, .inr rfl, .inr rfl, rcv_now1 h hm hv hb hq h3 hr h0 h5⟩
  · exact ⟨_, _, _, _, _, _, _, _, .now hq h3 d a hr, .inr rfl, .inr rfl, rcv_now2 h hm hv hb hq h3 hr h0 h5⟩
theorem ro_vi {nx : Int} {l : List Fm} (hv : VI nx l) {x : Fm} (hb : x.b.length ≤ 65536) {nx' : Int} {l' o : List Fm} {e : Int} (hr : RO nx l x nx' l' o e) : VI nx' l' ∧ nx ≤ nx' := by
  cases hr with
  | arg h => exact ⟨hv, Int.le_refl _⟩
  | old h h1 => exact ⟨hv, Int.le_refl _⟩
  | keep h h1 h2 => exact ⟨hv, Int.le_refl _⟩
  | ins h h1 h2 h3 k h4 => exact ⟨vi_ins hv h1.1 ⟨h1.2, h.2⟩ hb h2 h4 h3, Int.le_refl _⟩
  | now h h1 d a h2 =>
    obtain ⟨g1, g2, g3, g4⟩ := aft_pos hv h h1
    have := hv.pos
    exact ⟨vi_drop hv (by omega) h2, by omega⟩
theorem again_at (h : 6 ≤ n) {f : Bool} {m : Sh} {nx nx' : Int} {l l' o : List Fm} (hv : VI nx l) {x : Fm} (hb : x.b.length ≤ 65536) (hr : RO nx l x nx' l' o 0) (hm : Mk l' m) :
    call gl tab n 8 [.agg [i64 nx', .lst f m (fm l')], .agg [.bool x.s, i64 x.q, .str x.b]] [] = some (.tup [.agg [i64 nx', .lst f m (fm l')], .lst true .sc [], i64 0], [], []) := by
  have hv' := (ro_vi hv hb hr).1
  generalize he : (0 : Int) = e at hr
  cases hr with
  | arg h => cases he
  | old h1 h2 => exact rcv_old h hm hv hb h1 h2
  | keep h1 h2 h3 => exact rcv_keep h hm hv hb h1 h2 h3
  | ins h1 h2 h3 h4 k h5 =>
    refine rcv_keep h hm hv' hb h1 h2 (.inr ⟨k, ?_, by rw [fat_ins_eq h5.le]⟩)
    rw [insF_length h5.le]; have := h5.le; omega
  | now h1 h2 d a h3 =>
    obtain ⟨g1, g2, g3, g4⟩ := aft_pos hv h1 h2
    refine rcv_old h hm hv' hb h1 ?_
    cases hs : x.s with
    | false => have := g4 hs; exact .inl (by omega)
    | true =>
      by_cases h5 : x.q = aft x + ((a - d : Nat) : Int)
      · exact .inr ⟨rfl, h5⟩
      · exact .inl (by omega)
end Go.Proofs.S33
