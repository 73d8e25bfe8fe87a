/-
  What holds between the evaluator's heap and the model's memory, and how it is kept when memory grows or is written. No condition.
-/
import Derived.Test.YtdbppejfcolacaaEvRep
import Derived.Laws.Sem
namespace Go.Ev
open Go

def free (c : Array Value) (fz : Nat × Nat) : Prop := fz.1 = fz.2 ∨ c.size ≤ fz.1

/-- As above; and no mark of a string's bytes, but on bytes. -/
def freeG (sh : Sh) (c : Array Value) (fz : Nat × Nat) : Prop := fz.1 = fz.2 ∨ (sh = .sc ∧ c.size ≤ fz.1)
theorem freeG.free {sh : Sh} {c : Array Value} {fz : Nat × Nat} (h : freeG sh c fz) : free c fz := h.imp id And.right
theorem freeG.put {sh : Sh} {c c' : Array Value} {fz : Nat × Nat} (h : freeG sh c fz) (hs : c'.size = c.size) : freeG sh c' fz := h.imp id fun h => ⟨h.1, by rw [hs]; exact h.2⟩

def ObOk (H : Heap) (G : Gh) (k : Nat) : OB → Prop
  | .fix sh a => ∃ b c e fz, G.reg k = some (.blk b sh) ∧ H[b]? = some (.cells c e fz) ∧ c.size = sh.size ∧ free c fz ∧ hasSh sh a = true ∧ a.wf ∧ RepC H G c 0 a.flat
  | .grow sh els => (els = [] ∧ G.reg k = some .nil) ∨ ∃ b cap c e fz, G.reg k = some (.blk b (.ar cap sh)) ∧ els.length ≤ cap ∧ H[b]? = some (.cells c e fz) ∧
      c.size = cap * sh.size ∧ freeG sh c fz ∧ (∀ x ∈ els, hasSh sh x = true ∧ x.plain = true ∧ x.wf) ∧ RepC H G c 0 (AV.flats els)
  | .dead => ∃ r, G.reg k = some r
  | .log id stop xs => ∃ X l E, G.reg k = some (.env X) ∧ G.yl id = some (l, E) ∧ E.stop = stop ∧ (∀ b, X b → b < H.size) ∧ E.P xs H X G.imm

def liveOb (hp : Hp) (k : Nat) : Prop := ∃ o, hp.get k = some o ∧ o ≠ .dead
def Live (G : Gh) (hp : Hp) (b : Nat) : Prop := ∃ k r, liveOb hp k ∧ G.At k b r

structure Inv (H : Heap) (G : Gh) (hp : Hp) : Prop where
  obs : ∀ k o, hp.get k = some o → ObOk H G k o
  out : ∀ k, hp.get k = none → G.reg k = none
  dist : ∀ k k' b r r', G.At k b r → G.At k' b r' → liveOb hp k → liveOb hp k' → k = k'
  imm : ∀ b, G.imm b → b < H.size ∧ ¬ Live G hp b
  lt : ∀ b, Live G hp b → b < H.size

structure Step (H : Heap) (G : Gh) (hp : Hp) (H' : Heap) (G' : Gh) (hp' : Hp) : Prop where
  inv : Inv H' G' hp'
  le : Le H G H' G'
  size : H.size ≤ H'.size
  same : ∀ b, b < H.size → ¬ Live G hp b → H'[b]? = H[b]?
  live : ∀ b, Live G' hp' b → Live G hp b ∨ H.size ≤ b
  immNew : ∀ b, G'.imm b → G.imm b ∨ H.size ≤ b ∨ Live G hp b

theorem Inv.get_reg {H : Heap} {G : Gh} {hp : Hp} (inv : Inv H G hp) {k : Nat} {o : OB} (h : hp.get k = some o) : ∃ r, G.reg k = some r := by
  have := inv.obs k o h
  cases o with
  | fix sh a => obtain ⟨b, _, _, _, h, _⟩ := this; exact ⟨_, h⟩
  | grow sh els =>
    rcases this with ⟨_, h⟩ | ⟨_, _, _, _, _, h, _⟩
    · exact ⟨_, h⟩
    · exact ⟨_, h⟩
  | dead => obtain ⟨r, h⟩ := this; exact ⟨_, h⟩
  | log _ _ _ => obtain ⟨_, _, _, h, _⟩ := this; exact ⟨_, h⟩
theorem Step.refl {H : Heap} {G : Gh} {hp : Hp} (h : Inv H G hp) : Step H G hp H G hp :=
  ⟨h, .refl H G, Nat.le_refl _, fun _ _ _ => rfl, fun _ h => .inl h, fun _ h => .inl h⟩
theorem Step.trans {H₀ H₁ H₂ : Heap} {G₀ G₁ G₂ : Gh} {p₀ p₁ p₂ : Hp} (h : Step H₀ G₀ p₀ H₁ G₁ p₁) (h' : Step H₁ G₁ p₁ H₂ G₂ p₂) : Step H₀ G₀ p₀ H₂ G₂ p₂ where
  inv := h'.inv
  le := h.le.trans h'.le
  size := Nat.le_trans h.size h'.size
  same b hb hl := by
    have : ¬ Live G₁ p₁ b := fun h1 => by
      rcases h.live b h1 with h2 | h2
      · exact hl h2
      · omega
    rw [h'.same b (Nat.lt_of_lt_of_le hb h.size) this, h.same b hb hl]
  live b hb := by
    rcases h'.live b hb with h1 | h1
    · exact h.live b h1
    · exact .inr (Nat.le_trans h.size h1)
  immNew b hb := by
    rcases h'.immNew b hb with h1 | h1 | h1
    · exact h.immNew b h1
    · exact .inr (.inl (Nat.le_trans h.size h1))
    · rcases h.live b h1 with h2 | h2
      · exact .inr (.inr h2)
      · exact .inr (.inl h2)

theorem Hp.get_cons (k : Nat) (o : OB) (hp : Hp) (j : Nat) : Hp.get ((k, o) :: hp) j = if k = j then some o else Hp.get hp j := rfl
theorem liveOb_cons {k : Nat} {o : OB} {hp : Hp} {j : Nat} : liveOb ((k, o) :: hp) j ↔ (k = j ∧ o ≠ .dead) ∨ (k ≠ j ∧ liveOb hp j) := by
  unfold liveOb
  rw [Hp.get_cons]
  by_cases h : k = j
  · simp [h]
  · simp [h]

def Gh.with (G : Gh) (k : Nat) (r : Rg) : Gh := { G with reg := fun j => if j = k then some r else G.reg j }
theorem Gh.with_at {G : Gh} {k : Nat} {q : Rg} {j b : Nat} {r : Sh} : (G.with k q).At j b r ↔ if j = k then q.at b r else G.At j b r := by
  unfold Gh.At Gh.with
  by_cases h : j = k
  · simp [h]
  · simp [h]
theorem Gh.with_le {H H' : Heap} {G : Gh} {k : Nat} {r : Rg} (hk : G.reg k = none) (hH : ∀ b, G.imm b → H'[b]? = H[b]?) : Le H G H' (G.with k r) :=
  ⟨fun b hb => ⟨hb, hH b hb⟩, regKeep fun j s hs => by
    simp only [Gh.with]
    by_cases h : j = k
    · subst h; rw [hk] at hs; cases hs
    · simp [h, hs], fun _ _ h => h⟩

theorem ObOk.mono {H H' : Heap} {G G' : Gh} {hp : Hp} (le : Le H G H' G') {k : Nat} {o : OB} (hk : liveOb hp k → ∀ b r, G.At k b r → H'[b]? = H[b]?)
    (hreg : ∀ r, G.reg k = some r → G'.reg k = some r) (ho : hp.get k = some o) (h : ObOk H G k o) : ObOk H' G' k o := by
  cases o with
  | fix sh a =>
    obtain ⟨b, c, e, fz, hr, hb, hs, hf, hsh, hw, hc⟩ := h
    exact ⟨b, c, e, fz, le.blk hr, (hk ⟨_, ho, by simp⟩ b sh (.of hr)).trans hb, hs, hf, hsh, hw, hc.mono le⟩
  | grow sh els =>
    rcases h with ⟨h1, h2⟩ | ⟨b, cap, c, e, fz, hr, hl, hb, hs, hf, hsh, hc⟩
    · exact .inl ⟨h1, le.nil h2⟩
    · exact .inr ⟨b, cap, c, e, fz, le.blk hr, hl, (hk ⟨_, ho, by simp⟩ b _ (.of hr)).trans hb, hs, hf, hsh, hc.mono le⟩
  | dead => exact let ⟨r, hr⟩ := h; let ⟨r', h', _⟩ := le.reg _ _ hr; ⟨r', h'⟩
  | log id stop xs =>
    obtain ⟨X, l, E, hr, hy, hst, hX, hP⟩ := h
    have hs : ∀ b, X b → H'[b]? = H[b]? := fun b hb => hk ⟨_, ho, by simp⟩ b .sc ⟨_, hr, hb⟩
    refine ⟨X, l, E, hreg _ hr, le.yl _ _ hy, hst, fun b hb => ?_, E.frame _ _ _ _ _ _ hs le.imm hP⟩
    have h1 := hs b hb
    rw [Array.getElem?_eq_getElem (hX b hb)] at h1
    exact (Array.getElem?_eq_some_iff.1 h1).1

/-- A new block under a new key. -/
theorem step_new {H : Heap} {G : Gh} {hp : Hp} (inv : Inv H G hp) {k : Nat} (hk : hp.get k = none) (x : Obj) (root : Sh) (ob : OB)
    (hob : Le H G (H.push x) (G.with k (.blk H.size root)) → ObOk (H.push x) (G.with k (.blk H.size root)) k ob) :
    Step H G hp (H.push x) (G.with k (.blk H.size root)) ((k, ob) :: hp) := by
  have hreg := inv.out k hk
  have hpush : ∀ b, b < H.size → (H.push x)[b]? = H[b]? := fun b hb => by
    rw [Array.getElem?_push]; simp [Nat.ne_of_lt hb]
  have hle : Le H G (H.push x) (G.with k (.blk H.size root)) := Gh.with_le hreg fun b hb => hpush b (inv.imm b hb).1
  have hlive : ∀ b, Live (G.with k (.blk H.size root)) ((k, ob) :: hp) b → Live G hp b ∨ b = H.size := by
    rintro b ⟨j, r, hl, hr⟩
    rw [Gh.with_at] at hr
    by_cases h : j = k
    · subst h; simp only [if_true, Rg.at] at hr; exact .inr hr.1.symm
    · simp only [h, if_false] at hr
      rcases liveOb_cons.1 hl with ⟨h1, _⟩ | ⟨_, h2⟩
      · exact absurd h1.symm h
      · exact .inl ⟨j, r, h2, hr⟩
  refine ⟨⟨?_, ?_, ?_, ?_, ?_⟩, hle, by simp, fun b hb _ => hpush b hb, fun b hb => ?_, fun b hb => .inl hb⟩
  · intro j o hj
    rw [Hp.get_cons] at hj
    by_cases h : k = j
    · subst h; simp at hj; subst hj; exact hob hle
    · simp only [h, if_false] at hj
      exact ObOk.mono (hp := hp) hle (fun hl b r hr => hpush b (inv.lt b ⟨j, r, hl, hr⟩)) (fun r hr => by simp only [Gh.with, show ¬ j = k from fun e => h e.symm, if_false]; exact hr) hj (inv.obs j o hj)
  · intro j hj
    rw [Hp.get_cons] at hj
    by_cases h : k = j
    · subst h; simp at hj
    · simp only [h, if_false] at hj
      simp only [Gh.with, show ¬ j = k from fun e => h e.symm, if_false]
      exact inv.out j hj
  · intro j j' b r r' hj hj' hl hl'
    rw [Gh.with_at] at hj hj'
    by_cases h : j = k
    · by_cases h' : j' = k
      · rw [h, h']
      · exfalso
        simp only [h, if_true, Rg.at] at hj
        simp only [h', if_false] at hj'
        rcases liveOb_cons.1 hl' with ⟨h1, _⟩ | ⟨_, h2⟩
        · exact h' h1.symm
        · have := inv.lt b ⟨j', r', h2, hj'⟩; omega
    · by_cases h' : j' = k
      · exfalso
        simp only [h', if_true, Rg.at] at hj'
        simp only [h, if_false] at hj
        rcases liveOb_cons.1 hl with ⟨h1, _⟩ | ⟨_, h2⟩
        · exact h h1.symm
        · have := inv.lt b ⟨j, r, h2, hj⟩; omega
      · simp only [h, if_false] at hj
        simp only [h', if_false] at hj'
        rcases liveOb_cons.1 hl with ⟨h1, _⟩ | ⟨_, h2⟩
        · exact absurd h1.symm h
        · rcases liveOb_cons.1 hl' with ⟨h1, _⟩ | ⟨_, h2'⟩
          · exact absurd h1.symm h'
          · exact inv.dist j j' b r r' hj hj' h2 h2'
  · intro b hb
    have := inv.imm b hb
    refine ⟨by simp; omega, fun hl => ?_⟩
    rcases hlive b hl with h | h
    · exact this.2 h
    · omega
  · intro b hb
    rcases hlive b hb with h | h
    · have := inv.lt b h; simp; omega
    · simp; omega
  · rcases hlive b hb with h | h
    · exact .inl h
    · exact .inr (Nat.le_of_eq h.symm)

/-- A list that grows, which is nil, under a new key. -/
theorem step_nil {H : Heap} {G : Gh} {hp : Hp} (inv : Inv H G hp) {k : Nat} (hk : hp.get k = none) (sh : Sh) :
    Step H G hp H (G.with k .nil) ((k, .grow sh []) :: hp) := by
  have hreg := inv.out k hk
  have hle : Le H G H (G.with k .nil) := Gh.with_le hreg fun b _ => rfl
  have hlive : ∀ b, Live (G.with k .nil) ((k, .grow sh []) :: hp) b → Live G hp b := by
    rintro b ⟨j, r, hl, hr⟩
    rw [Gh.with_at] at hr
    by_cases h : j = k
    · subst h; simp [Rg.at] at hr
    · simp only [h, if_false] at hr
      rcases liveOb_cons.1 hl with ⟨h1, _⟩ | ⟨_, h2⟩
      · exact absurd h1.symm h
      · exact ⟨j, r, h2, hr⟩
  refine ⟨⟨?_, ?_, ?_, ?_, ?_⟩, hle, Nat.le_refl _, fun b hb _ => rfl, fun b hb => .inl (hlive b hb), fun b hb => .inl hb⟩
  · intro j o hj
    rw [Hp.get_cons] at hj
    by_cases h : k = j
    · subst h; simp at hj; subst hj; exact .inl ⟨rfl, by simp [Gh.with]⟩
    · simp only [h, if_false] at hj
      exact ObOk.mono (hp := hp) hle (fun hl b r hr => rfl) (fun r hr => by simp only [Gh.with, show ¬ j = k from fun e => h e.symm, if_false]; exact hr) hj (inv.obs j o hj)
  · intro j hj
    rw [Hp.get_cons] at hj
    by_cases h : k = j
    · subst h; simp at hj
    · simp only [h, if_false] at hj
      simp only [Gh.with, show ¬ j = k from fun e => h e.symm, if_false]
      exact inv.out j hj
  · intro j j' b r r' hj hj' hl hl'
    rw [Gh.with_at] at hj hj'
    by_cases h : j = k
    · simp [h, Rg.at] at hj
    · by_cases h' : j' = k
      · simp [h', Rg.at] at hj'
      · simp only [h, if_false] at hj
        simp only [h', if_false] at hj'
        rcases liveOb_cons.1 hl with ⟨h1, _⟩ | ⟨_, h2⟩
        · exact absurd h1.symm h
        · rcases liveOb_cons.1 hl' with ⟨h1, _⟩ | ⟨_, h2'⟩
          · exact absurd h1.symm h'
          · exact inv.dist j j' b r r' hj hj' h2 h2'
  · intro b hb
    exact ⟨(inv.imm b hb).1, fun hl => (inv.imm b hb).2 (hlive b hl)⟩
  · exact fun b hb => inv.lt b (hlive b hb)

/-- An object that is known is turned, its block with it (or no block is). -/
theorem step_upd {H : Heap} {G : Gh} {hp : Hp} (inv : Inv H G hp) {k : Nat} {o : OB} (hk : hp.get k = some o) (H' : Heap) (ob : OB)
    (hsz : H'.size = H.size) (hoth : ∀ b, ¬ (∃ r, G.At k b r ∧ liveOb hp k) → H'[b]? = H[b]?) (hlive : ob ≠ .dead → o ≠ .dead)
    (hob : Le H G H' G → ObOk H' G k ob) : Step H G hp H' G ((k, ob) :: hp) := by
  have hle : Le H G H' G := ⟨fun b hb => ⟨hb, hoth b fun ⟨r, hr, hl⟩ => (inv.imm b hb).2 ⟨k, r, hl, hr⟩⟩, regKeep fun _ _ h => h, fun _ _ h => h⟩
  have hlo : ∀ j, liveOb ((k, ob) :: hp) j → liveOb hp j := fun j hj => by
    rcases liveOb_cons.1 hj with ⟨h1, h2⟩ | ⟨_, h2⟩
    · subst h1; exact ⟨o, hk, hlive h2⟩
    · exact h2
  have hL : ∀ b, Live G ((k, ob) :: hp) b → Live G hp b := fun b ⟨j, r, hl, hr⟩ => ⟨j, r, hlo j hl, hr⟩
  refine ⟨⟨?_, ?_, ?_, ?_, ?_⟩, hle, by omega, fun b hb hl => hoth b fun ⟨r, hr, hl'⟩ => hl ⟨k, r, hl', hr⟩, fun b hb => .inl (hL b hb), fun b hb => .inl hb⟩
  · intro j o' hj
    rw [Hp.get_cons] at hj
    by_cases h : k = j
    · subst h; simp at hj; subst hj; exact hob hle
    · simp only [h, if_false] at hj
      refine ObOk.mono (hp := hp) hle (fun hl b r hr => hoth b fun ⟨r', hr', hl'⟩ => ?_) (fun _ h => h) hj (inv.obs j o' hj)
      exact h (inv.dist k j b r' r hr' hr hl' hl)
  · intro j hj
    rw [Hp.get_cons] at hj
    by_cases h : k = j
    · subst h; simp at hj
    · simp only [h, if_false] at hj
      exact inv.out j hj
  · exact fun j j' b r r' hj hj' hl hl' => inv.dist j j' b r r' hj hj' (hlo j hl) (hlo j' hl')
  · exact fun b hb => ⟨by have := (inv.imm b hb).1; omega, fun hl => (inv.imm b hb).2 (hL b hl)⟩
  · exact fun b hb => by have := inv.lt b (hL b hb); omega

theorem step_dead {H : Heap} {G : Gh} {hp : Hp} (inv : Inv H G hp) {k : Nat} {o : OB} (hk : hp.get k = some o) : Step H G hp H G ((k, .dead) :: hp) :=
  step_upd inv hk H .dead rfl (fun _ _ => rfl) (fun h => absurd rfl h) fun _ => by
    have := inv.obs k o hk
    cases o with
    | fix sh a => obtain ⟨b, c, e, fz, hr, _⟩ := this; exact ⟨_, hr⟩
    | grow sh els =>
      rcases this with ⟨_, h⟩ | ⟨b, cap, c, e, fz, hr, _⟩
      · exact ⟨_, h⟩
      · exact ⟨_, hr⟩
    | dead => exact this
    | log _ _ _ => obtain ⟨X, l, E, hr, _⟩ := this; exact ⟨_, hr⟩

/-! ### Runs over memory -/
section runs
variable {P : Program} {w : World}
theorem cell_at {b o : Nat} {c : Array Value} {e : TypeId} {fz : Nat × Nat} (h : w.heap[b]? = some (.cells c e fz)) : w.cell? ⟨b, o, none⟩ = c[o]? := by
  simp [World.cell?, h]
theorem addr_add (b o i : Nat) : (⟨b, o, none⟩ : Addr).add i = ⟨b, o + i, none⟩ := by
  unfold Addr.add; split <;> simp_all
theorem run_load_at {b o : Nat} {c : Array Value} {e : TypeId} {fz : Nat × Nat} {v : Value} (h : w.heap[b]? = some (.cells c e fz)) (hv : c[o]? = some v) :
    (load ⟨b, o, none⟩).run P w = .ok v w := by
  simp [cell_at h, hv]
theorem run_loadCellsFrom_at {b o : Nat} {c : Array Value} {e : TypeId} {fz : Nat × Nat} (h : w.heap[b]? = some (.cells c e fz)) (val : Nat → Value) :
    ∀ (n i : Nat) (acc : Array Value), (∀ j, j < n → c[o + i + j]? = some (val (i + j))) →
      (loadCellsFrom ⟨b, o, none⟩ i n acc).run P w = .ok (acc ++ ((List.range n).map fun j => val (i + j)).toArray) w
  | 0, i, acc, _ => by simp [loadCellsFrom]
  | n + 1, i, acc, hv => by
    simp only [loadCellsFrom, Sem.run_bind, addr_add]
    rw [run_load_at h (by simpa using hv 0 (by omega))]
    simp only [Result.andThen_ok]
    rw [run_loadCellsFrom_at h val n (i + 1) _ (fun j hj => by
      have := hv (j + 1) (by omega)
      rw [show o + (i + 1) + j = o + i + (j + 1) by omega, show i + 1 + j = i + (j + 1) by omega]; exact this)]
    congr 1
    simp only [List.range_succ_eq_map, List.map_cons, List.map_map]
    apply Array.ext'
    simp only [Array.toList_append, Array.toList_push, List.append_assoc, List.singleton_append, Nat.add_zero]
    congr 2
    apply List.map_congr_left
    intro j _
    simp [Function.comp, show i + 1 + j = i + (j + 1) by omega]
theorem run_loadCells_at {b o : Nat} {c : Array Value} {e : TypeId} {fz : Nat × Nat} (h : w.heap[b]? = some (.cells c e fz)) (val : Nat → Value) (n : Nat)
    (hv : ∀ j, j < n → c[o + j]? = some (val j)) : (loadCells ⟨b, o, none⟩ n).run P w = .ok ((List.range n).map val).toArray w := by
  have := run_loadCellsFrom_at (P := P) (o := o) h val n 0 #[] (by simpa using hv)
  simpa [loadCells] using this

/-- Cells written one after the other. -/
def putCells (c : Array Value) (o : Nat) : List Value → Array Value
  | [] => c
  | v :: r => putCells (c.setIfInBounds o v) (o + 1) r
theorem putCells_size (o : Nat) (vs : List Value) : ∀ (c : Array Value), (putCells c o vs).size = c.size := by
  induction vs generalizing o with
  | nil => intro c; rfl
  | cons v r ih => intro c; simp [putCells, ih]
theorem putCells_get (vs : List Value) : ∀ (o : Nat) (c : Array Value) (j : Nat), o + vs.length ≤ c.size →
    (putCells c o vs)[j]? = if o ≤ j ∧ j < o + vs.length then vs[j - o]? else c[j]? := by
  induction vs with
  | nil => intro o c j _; simp only [putCells, List.length_nil]; rw [if_neg (by omega)]
  | cons v r ih =>
    intro o c j hl
    simp only [List.length_cons] at hl
    rw [putCells, ih (o + 1) _ j (by simp; omega)]
    by_cases h1 : o + 1 ≤ j ∧ j < o + 1 + r.length
    · rw [if_pos h1, if_pos (by simp only [List.length_cons]; omega)]
      rw [show j - o = (j - (o + 1)) + 1 by omega]; simp
    · rw [if_neg h1]
      by_cases h2 : j = o
      · subst h2
        rw [if_pos (by simp only [List.length_cons]; omega), Array.getElem?_setIfInBounds_self_of_lt (by omega)]
        simp
      · rw [if_neg (by simp only [List.length_cons]; omega), Array.getElem?_setIfInBounds_ne (Ne.symm h2)]

theorem Obj_modify {H : Heap} {b : Nat} {c : Array Value} {e : TypeId} {fz : Nat × Nat} (f : Obj → Obj) (h : H[b]? = some (.cells c e fz)) :
    H.modify b f = H.setIfInBounds b (f (.cells c e fz)) := by
  obtain ⟨hlt, hb⟩ := Array.getElem?_eq_some_iff.1 h
  apply Array.ext_getElem?
  intro i
  by_cases hi : b = i
  · subst hi; rw [Array.getElem?_modify]; simp [hlt, hb]
  · rw [Array.getElem?_setIfInBounds_ne hi, Array.getElem?_modify]; simp [hi]
theorem setIf_setIf {H : Heap} {b : Nat} (x y : Obj) : (H.setIfInBounds b x).setIfInBounds b y = H.setIfInBounds b y := by
  apply Array.ext_getElem?
  intro i
  by_cases hi : b = i
  · subst hi; simp [Array.getElem?_setIfInBounds]
  · rw [Array.getElem?_setIfInBounds_ne hi, Array.getElem?_setIfInBounds_ne hi, Array.getElem?_setIfInBounds_ne hi]
theorem setIf_self {H : Heap} {b : Nat} {x : Obj} (h : H[b]? = some x) : H.setIfInBounds b x = H := by
  apply Array.ext_getElem?
  intro i
  by_cases hi : b = i
  · subst hi
    obtain ⟨hlt, hb⟩ := Array.getElem?_eq_some_iff.1 h
    rw [Array.getElem?_setIfInBounds_self_of_lt hlt, h]
  · rw [Array.getElem?_setIfInBounds_ne hi]

theorem run_storeCells_free {b : Nat} {e : TypeId} {fz : Nat × Nat} : ∀ (vs : List Value) (o i : Nat) (c : Array Value) (w : World), w.heap[b]? = some (.cells c e fz) →
    o + i + vs.length ≤ c.size → free c fz → (∀ v ∈ vs, v.oneCell' = true) →
    (storeCells ⟨b, o, none⟩ vs i).run P w = .ok () { w with heap := w.heap.setIfInBounds b (.cells (putCells c (o + i) vs) e fz) }
  | [], o, i, c, w, h, _, _, _ => by
    simp [storeCells, putCells, setIf_self h]
  | v :: r, o, i, c, w, h, hl, hf, h1 => by
    simp only [List.length_cons] at hl
    have hi : o + i < c.size := by omega
    have hc : w.cell? ⟨b, o + i, none⟩ = some c[o + i] := by rw [cell_at h]; simp [hi]
    have hfr : w.frozen? ⟨b, o + i, none⟩ = false := by
      obtain ⟨lo, hi'⟩ := fz
      simp only [World.frozen?, h, Bool.and_eq_false_iff, decide_eq_false_iff_not]
      rcases hf with hf | hf <;> simp only at hf <;> omega
    simp only [storeCells, Sem.run_bind, addr_add]
    rw [run_store P w _ v _ (h1 v (by simp)), hc]
    simp only [hfr, Bool.false_eq_true, if_false, Result.andThen_ok]
    have hw : (w.setCell ⟨b, o + i, none⟩ v) = { w with heap := w.heap.setIfInBounds b (.cells (c.setIfInBounds (o + i) v) e fz) } := by
      simp only [World.setCell, Obj_modify _ h]; rfl
    rw [hw]
    obtain ⟨hlt, hb⟩ := Array.getElem?_eq_some_iff.1 h
    rw [run_storeCells_free (fz := fz) (e := e) r o (i + 1) (c.setIfInBounds (o + i) v) _ (by simp [hlt]) (by simp; omega)
      (by
        rcases hf with hf | hf
        · exact .inl hf
        · exact .inr (by simpa using hf)) (fun x hx => h1 x (by simp [hx]))]
    simp only [setIf_setIf]
    rfl
end runs

theorem RepS.oneCell {H : Heap} {G : Gh} {v : Value} {a : AV} (h : RepS H G v a) : v.oneCell' = true := by
  cases h <;> first | rfl | (rename_i h; revert h; cases v <;> simp [isSc, Value.oneCell'])

end Go.Ev
