/-
  Chapter 33: what Receive makes of an inbox. No condition.
-/
import Derived.Test.YtoddlpnnmoaogaaW33I
import Derived.Test.YtoddlpnnmoaogaaW33J
set_option linter.unusedVariables false
set_option linter.unusedSimpArgs false
set_option linter.unusedSectionVars false
namespace Go.Proofs.S33
open Go Go.Ev Go.Proofs
set_option linter.unusedSimpArgs false
set_option linter.unusedVariables false
theorem VI.mk' {nx : Int} {l : List Fm} (hp : 0 ≤ nx ∧ nx ≤ 2199023255552) (hn : l.length ≤ 64) (h : ∀ i, i < l.length → (fat l i).s = false ∧ nx < (fat l i).q ∧ (fat l i).q ≤ 2199023255552 ∧ (fat l i).b.length ≤ 65536)
    (hs : ∀ i, i + 1 < l.length → (fat l i).q < (fat l (i + 1)).q) : VI nx l :=
  ⟨hp, hn, fun i hi => by
    obtain ⟨h1, h2, h3, h4⟩ := h i hi
    refine ⟨h1, ?_, h3, h4⟩
    cases i with
    | zero => exact h2
    | succ i => exact hs i hi⟩
theorem fat_drop (l : List Fm) (a i : Nat) : fat (l.drop a) i = fat l (a + i) := by simp [fat, List.getD_eq_getElem?_getD, List.getElem?_drop]
theorem fat_ins_lo {l : List Fm} {k i : Nat} (hk : k ≤ l.length) (x : Fm) (h : i < k) : fat (insF l k x) i = fat l i := by
  have h1 : (l.take k).length = k := by simp; omega
  simp only [fat, List.getD_eq_getElem?_getD, insF]
  rw [List.getElem?_append_left (by omega), List.getElem?_take_of_lt h]
theorem fat_ins_eq {l : List Fm} {k : Nat} (hk : k ≤ l.length) (x : Fm) : fat (insF l k x) k = x := by
  have h1 : (l.take k).length = k := by simp; omega
  simp only [fat, List.getD_eq_getElem?_getD, insF]
  rw [List.getElem?_append_right (by omega), h1, Nat.sub_self]; rfl
theorem fat_ins_hi {l : List Fm} {k i : Nat} (hk : k ≤ l.length) (x : Fm) (h : k ≤ i) : fat (insF l k x) (i + 1) = fat l i := by
  have h1 : (l.take k).length = k := by simp; omega
  simp only [fat, List.getD_eq_getElem?_getD, insF]
  rw [List.getElem?_append_right (by omega), h1, show i + 1 - k = (i - k) + 1 by omega, List.getElem?_cons_succ, List.getElem?_drop, show k + (i - k) = i by omega]
theorem rn_ex {nx : Int} {l : List Fm} (hv : VI nx l) {x : Int} (hx : nx ≤ x) (hx2 : x ≤ 1099511627777) : ∃ d a, Rn l x d a := by
  have hps := hv.pos
  have hpo : ∀ j, j < l.length → 0 ≤ (fat l j).q ∧ (fat l j).q ≤ 2199023255552 := fun j hj => by have := fq_pos hv hj; have := (hv.ok j hj).hi; omega
  rcases first_fail (fun j => (fat l j).q < x) l.length with h | ⟨d, hd, h1, h2⟩
  · exact ⟨l.length, l.length, Nat.le_refl _, Nat.le_refl _, fun j hj => ⟨(hpo j hj).1, h j hj⟩, fun j h1 h2 => by omega, fun j h1 h2 => by omega⟩
  rcases first_fail (fun j => d ≤ j → (fat l j).q = x + ((j - d : Nat) : Int)) l.length with h | ⟨a, ha, h3, h4⟩
  · exact ⟨d, l.length, by omega, Nat.le_refl _, fun j hj => ⟨(hpo j (by omega)).1, h1 j hj⟩, fun j h1 h2 => h j h2 h1, fun j h1 h2 => by omega⟩
  have hda : d ≤ a := Classical.byContradiction fun h => h4 fun h' => absurd h' h
  have hne : (fat l a).q ≠ x + ((a - d : Nat) : Int) := fun h => h4 fun _ => h
  have hge : x + ((a - d : Nat) : Int) < (fat l a).q := by
    by_cases he : a = d
    · subst he; simp at hne ⊢; omega
    · have := h3 (a - 1) (by omega) (by omega)
      have := fq_lt hv (show a - 1 < a by omega) ha
      omega
  refine ⟨d, a, hda, by omega, fun j hj => ⟨(hpo j (by omega)).1, h1 j hj⟩, fun j h5 h6 => h3 j h6 h5, fun j h5 h6 => ⟨?_, (hpo j h6).2⟩⟩
  by_cases he : j = a
  · subst he; exact hge
  · have := fq_lt hv (show a < j by omega) h6; omega
theorem vi_drop {nx : Int} {l : List Fm} (hv : VI nx l) {x : Int} (hx : 0 ≤ x ∧ x ≤ 1099511627777) {d a : Nat} (hr : Rn l x d a) : VI (x + ((a - d : Nat) : Int)) (l.drop a) := by
  have hn := hv.n
  have hal := hr.al
  refine VI.mk' (by omega) (by simp; omega) (fun i hi => ?_) (fun i hi => ?_)
  · simp only [List.length_drop] at hi
    have h1 := hv.ok (a + i) (by omega)
    have h2 := hr.hi (a + i) (by omega) (by omega)
    rw [fat_drop]; exact ⟨h1.s, h2.1, h2.2, h1.b⟩
  · simp only [List.length_drop] at hi
    rw [fat_drop, fat_drop]; exact fq_lt hv (by omega) (by omega)
theorem vi_ins {nx : Int} {l : List Fm} (hv : VI nx l) {x : Fm} (hs : x.s = false) (hx : nx < x.q ∧ x.q ≤ 1099511627776) (hb : x.b.length ≤ 65536) (hl : l.length < 64) {k : Nat} (hp : Pl l x.q k) (hk : ∀ k, k < l.length → (fat l k).q ≠ x.q) : VI nx (insF l k x) := by
  have hle := hp.le
  have hlen := insF_length hle x
  refine VI.mk' hv.pos (by omega) (fun i hi => ?_) (fun i hi => ?_)
  · rcases Nat.lt_trichotomy i k with h | h | h
    · rw [fat_ins_lo hle x h]
      have h1 := hv.ok i (by omega)
      exact ⟨h1.s, fq_pos hv (by omega), h1.hi, h1.b⟩
    · subst h; rw [fat_ins_eq hle x]; exact ⟨hs, hx.1, by omega, hb⟩
    · obtain ⟨j, rfl⟩ : ∃ j, i = j + 1 := ⟨i - 1, by omega⟩
      rw [fat_ins_hi hle x (by omega)]
      have h1 := hv.ok j (by omega)
      exact ⟨h1.s, fq_pos hv (by omega), h1.hi, h1.b⟩
  · rcases Nat.lt_trichotomy (i + 1) k with h | h | h
    · rw [fat_ins_lo hle x h, fat_ins_lo hle x (show i < k by omega)]; exact fq_lt hv (by omega) (by omega)
    · rw [fat_ins_lo hle x (show i < k by omega), ← h, fat_ins_eq (by omega) x]; exact hp.lo i (by omega)
    · by_cases h2 : i = k
      · subst h2
        rw [fat_ins_eq hle x, fat_ins_hi hle x (Nat.le_refl i)]
        have h3 := hp.hi i (Nat.le_refl i) (by omega)
        have h4 := hk i (by omega)
        omega
      · obtain ⟨j, rfl⟩ : ∃ j, i = j + 1 := ⟨i - 1, by omega⟩
        rw [fat_ins_hi hle x (by omega), fat_ins_hi hle x (by omega)]; exact fq_lt hv (by omega) (by omega)
end Go.Proofs.S33
namespace Go.Proofs.S33
open Go Go.Ev Go.Proofs
set_option linter.unusedSimpArgs false
set_option linter.unusedVariables false
variable {gl : Gl} {n : Nat}
/-- What Receive makes of a valid inbox and a frame that is not too long: the inbox after it, what is delivered, the error. -/
inductive RO (nx : Int) (l : List Fm) (x : Fm) : Int → List Fm → List Fm → Int → Prop
  | arg (h : ¬ (0 ≤ x.q ∧ x.q ≤ 1099511627776)) : RO nx l x nx l [] 1
  | old (h : 0 ≤ x.q ∧ x.q ≤ 1099511627776) (h1 : x.q < nx ∨ x.s = true ∧ x.q = nx) : RO nx l x nx l [] 0
  | keep (h : 0 ≤ x.q ∧ x.q ≤ 1099511627776) (h1 : x.s = false ∧ nx < x.q) (h2 : 64 ≤ l.length ∨ ∃ k, k < l.length ∧ (fat l k).q = x.q) : RO nx l x nx l [] 0
  | ins (h : 0 ≤ x.q ∧ x.q ≤ 1099511627776) (h1 : x.s = false ∧ nx < x.q) (h2 : l.length < 64) (h3 : ∀ k, k < l.length → (fat l k).q ≠ x.q) (k : Nat) (h4 : Pl l x.q k) : RO nx l x nx (insF l k x) [] 0
  | now (h : 0 ≤ x.q ∧ x.q ≤ 1099511627776) (h1 : x.s = false ∧ nx = x.q ∨ x.s = true ∧ nx < x.q) (d a : Nat) (h2 : Rn l (aft x) d a) : RO nx l x (aft x + (a - d : Nat)) (l.drop a) (oA l [x] d a l.length) 0
theorem aft_pos {nx : Int} {l : List Fm} (hv : VI nx l) {x : Fm} (h : 0 ≤ x.q ∧ x.q ≤ 1099511627776) (h1 : x.s = false ∧ nx = x.q ∨ x.s = true ∧ nx < x.q) : nx < aft x ∧ aft x ≤ 1099511627777 ∧ x.q ≤ aft x ∧ (x.s = false → x.q < aft x) := by
  have := hv.pos
  unfold aft
  rcases h1 with ⟨h1, h2⟩ | ⟨h1, h2⟩
  · rw [h1]; simp; omega
  · rw [h1]; simp; omega
theorem rcv_at (h : 6 ≤ n) {f : Bool} {m : Sh} {nx : Int} {l : List Fm} (hm : Mk l m) (hv : VI nx l) {x : Fm} (hb : x.b.length ≤ 65536) :
    ∃ (nx' : Int) (l' o : List Fm) (f' f'' : Bool) (m' m'' : Sh) (e : Int), RO nx l x nx' l' o e ∧ Mk l' m' ∧ Mk o m'' ∧
      call gl tab n 8 [.agg [i64 nx, .lst f m (fm l)], .agg [.bool x.s, i64 x.q, .str x.b]] [] = some (.tup [.agg [i64 nx', .lst f' m' (fm l')], .lst f'' m'' (fm o), i64 e], [], []) := by
  by_cases hq : 0 ≤ x.q ∧ x.q ≤ 1099511627776
  case neg => exact ⟨_, _, [], _, true, _, .sc, _, .arg hq, hm, .inl rfl, rcv_arg h hm hv hb hq⟩
  by_cases h1 : x.q < nx ∨ x.s = true ∧ x.q = nx
  · exact ⟨_, _, [], _, true, _, .sc, _, .old hq h1, hm, .inl rfl, rcv_old h hm hv hb hq h1⟩
  by_cases h2 : x.s = false ∧ nx < x.q
  · by_cases h3 : 64 ≤ l.length ∨ ∃ k, k < l.length ∧ (fat l k).q = x.q
    · exact ⟨_, _, [], _, true, _, .sc, _, .keep hq h2 h3, hm, .inl rfl, rcv_keep h hm hv hb hq h2 h3⟩
    · have h4 : l.length < 64 := by omega
      have h5 : ∀ k, k < l.length → (fat l k).q ≠ x.q := fun k hk he => h3 (.inr ⟨k, hk, he⟩)
      obtain ⟨k, hp, c⟩ := @rcv_ins gl n h f m nx l hm hv x hb hq h2 h4 h5
      exact ⟨_, _, [], _, true, _, .sc, _, .ins hq h2 h4 h5 k hp, .inr rfl, .inl rfl, c⟩
  have h3 : x.s = false ∧ nx = x.q ∨ x.s = true ∧ nx < x.q := by
    cases hs : x.s with
    | false => rw [hs] at h1 h2; simp at h1 h2; exact .inl ⟨rfl, by omega⟩
    | true => rw [hs] at h1 h2; simp at h1 h2; exact .inr ⟨rfl, by omega⟩
  obtain ⟨g1, g2, g3, g4⟩ := aft_pos hv hq h3
  obtain ⟨d, a, hr⟩ := rn_ex hv (x := aft x) (by omega) g2
  by_cases h0 : a = 0
  · exact ⟨_, _, _, _, _, _, _, _, .now hq h3 d a hr, .inr rfl, .inr rfl, rcv_now0 h hm hv hb hq h3 hr h0⟩
  by_cases h5 : a - d = 0
  · exact ⟨_, _, _, _, _, _, _, _, .now hq h3 d a hr, .inr rfl, .inr rfl, rcv_now1 h hm hv hb hq h3 hr h0 h5⟩
  · exact ⟨_, _, _, _, _, _, _, _, .now hq h3 d a hr, .inr rfl, .inr rfl, rcv_now2 h hm hv hb hq h3 hr h0 h5⟩
theorem ro_vi {nx : Int} {l : List Fm} (hv : VI nx l) {x : Fm} (hb : x.b.length ≤ 65536) {nx' : Int} {l' o : List Fm} {e : Int} (hr : RO nx l x nx' l' o e) : VI nx' l' ∧ nx ≤ nx' := by
  cases hr with
  | arg h => exact ⟨hv, Int.le_refl _⟩
  | old h h1 => exact ⟨hv, Int.le_refl _⟩
  | keep h h1 h2 => exact ⟨hv, Int.le_refl _⟩
  | ins h h1 h2 h3 k h4 => exact ⟨vi_ins hv h1.1 ⟨h1.2, h.2⟩ hb h2 h4 h3, Int.le_refl _⟩
  | now h h1 d a h2 =>
    obtain ⟨g1, g2, g3, g4⟩ := aft_pos hv h h1
    have := hv.pos
    exact ⟨vi_drop hv (by omega) h2, by omega⟩
theorem again_at (h : 6 ≤ n) {f : Bool} {m : Sh} {nx nx' : Int} {l l' o : List Fm} (hv : VI nx l) {x : Fm} (hb : x.b.length ≤ 65536) (hr : RO nx l x nx' l' o 0) (hm : Mk l' m) :
    call gl tab n 8 [.agg [i64 nx', .lst f m (fm l')], .agg [.bool x.s, i64 x.q, .str x.b]] [] = some (.tup [.agg [i64 nx', .lst f m (fm l')], .lst true .sc [], i64 0], [], []) := by
  have hv' := (ro_vi hv hb hr).1
  generalize he : (0 : Int) = e at hr
  cases hr with
  | arg h => cases he
  | old h1 h2 => exact rcv_old h hm hv hb h1 h2
  | keep h1 h2 h3 => exact rcv_keep h hm hv hb h1 h2 h3
  | ins h1 h2 h3 h4 k h5 =>
    refine rcv_keep h hm hv' hb h1 h2 (.inr ⟨k, ?_, by rw [fat_ins_eq h5.le]⟩)
    rw [insF_length h5.le]; have := h5.le; omega
  | now h1 h2 d a h3 =>
    obtain ⟨g1, g2, g3, g4⟩ := aft_pos hv h1 h2
    refine rcv_old h hm hv' hb h1 ?_
    cases hs : x.s with
    | false => have := g4 hs; exact .inl (by omega)
    | true =>
      by_cases h5 : x.q = aft x + ((a - d : Nat) : Int)
      · exact .inr ⟨rfl, h5⟩
      · exact .inl (by omega)
end Go.Proofs.S33
