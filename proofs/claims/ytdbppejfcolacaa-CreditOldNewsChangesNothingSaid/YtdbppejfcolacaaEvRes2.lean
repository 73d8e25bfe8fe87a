/-
  Heaps and ghosts cut down, objects under new keys; what memory a run may turn. No condition.
-/
import Derived.Test.YtdbppejfcolacaaEvRes
namespace Go.Ev
open Go

variable {H : Heap} {G G' : Gh}

mutual
theorem refs_flat : ∀ (x : AV) (k : Nat), k ∈ x.refs → ∃ y ∈ x.flat, k ∈ y.refs
  | .aggR l, k, h => by rw [AV.refs] at h; rw [AV.flat]; exact refss_flats l k h
  | .agg l, k, h => by simp [AV.refs] at h
  | .bool _, k, h => ⟨_, by simp [AV.flat], h⟩
  | .int _ _, k, h => ⟨_, by simp [AV.flat], h⟩
  | .str _, k, h => ⟨_, by simp [AV.flat], h⟩
  | .s _, k, h => ⟨_, by simp [AV.flat], h⟩
  | .lst _ _ _, k, h => ⟨_, by simp [AV.flat], h⟩
  | .cp _ _, k, h => ⟨_, by simp [AV.flat], h⟩
  | .unk, k, h => ⟨_, by simp [AV.flat], h⟩
  | .tup l, k, h => ⟨.tup l, by simp [AV.flat], h⟩
  | .sl k' p o l, k, h => ⟨.sl k' p o l, by simp [AV.flat], h⟩
  | .ptr k' p, k, h => ⟨.ptr k' p, by simp [AV.flat], h⟩
  | .arp k' p o l, k, h => ⟨.arp k' p o l, by simp [AV.flat], h⟩
  | .fn f l, k, h => ⟨.fn f l, by simp [AV.flat], h⟩
  | .yld i, k, h => ⟨.yld i, by simp [AV.flat], h⟩
theorem refss_flats : ∀ (l : List AV) (k : Nat), k ∈ AV.refss l → ∃ y ∈ AV.flats l, k ∈ y.refs
  | [], k, h => by simp [AV.refss] at h
  | x :: l, k, h => by
    rw [AV.refss, List.mem_append] at h
    rcases h with h | h
    · obtain ⟨y, hy, hk⟩ := refs_flat x k h; exact ⟨y, by rw [AV.flats, List.mem_append]; exact .inl hy, hk⟩
    · obtain ⟨y, hy, hk⟩ := refss_flats l k h; exact ⟨y, by rw [AV.flats, List.mem_append]; exact .inr hy, hk⟩
end

theorem RepV.known_refs {v : Value} {x : AV} (h : RepV H G v x) : ∀ k ∈ x.refs, ∃ r, G.reg k = some r := by
  obtain ⟨_, _, vs, h3, _⟩ := h
  intro k hk
  obtain ⟨y, hy, hk'⟩ := refs_flat x k hk
  obtain ⟨j, hj, rfl⟩ := List.getElem_of_mem hy
  exact (h3.get j (by rw [h3.len]; exact hj) hj).known k hk'
theorem RepC.known_refs {c : Array Value} {off : Nat} {x : AV} (h : RepC H G c off x.flat) : ∀ k ∈ x.refs, ∃ r, G.reg k = some r := by
  intro k hk
  obtain ⟨y, hy, hk'⟩ := refs_flat x k hk
  obtain ⟨j, hj, rfl⟩ := List.getElem_of_mem hy
  obtain ⟨v, _, hr⟩ := h j hj
  exact hr.known k hk'
theorem mem_refss_iff {l : List AV} {k : Nat} (h : k ∈ AV.refss l) : ∃ x ∈ l, k ∈ x.refs := by
  induction l with
  | nil => cases h
  | cons a l ih =>
    rw [AV.refss, List.mem_append] at h
    rcases h with h | h
    · exact ⟨a, by simp, h⟩
    · obtain ⟨x, hx, hk⟩ := ih h; exact ⟨x, by simp [hx], hk⟩
theorem RepT.known_refs {v : Value} {x : AV} (h : RepT H G v x) : ∀ k ∈ x.refs, ∃ r, G.reg k = some r := by
  cases x with
  | unk => intro k hk; simp [AV.refs] at hk
  | tup l =>
    obtain ⟨vs, hv, hs, hr⟩ := h
    intro k hk
    rw [AV.refs] at hk
    obtain ⟨x, hx, hk'⟩ := mem_refss_iff hk
    obtain ⟨i, hi, rfl⟩ := List.getElem_of_mem hx
    exact (hr i (by omega) hi).known_refs k hk'
  | _ => exact RepV.known_refs h

/-- An object's references are known to the ghost. -/
theorem Inv.fix_refs {hp : Hp} (inv : Inv H G hp) {k : Nat} {sh : Sh} {a : AV} (hk : hp.get k = some (.fix sh a)) : ∀ j ∈ a.refs, ∃ r, G.reg j = some r := by
  obtain ⟨b, c, e, fz, _, _, _, _, _, _, hc⟩ := inv.obs k _ hk
  exact hc.known_refs
theorem Inv.reg_get {hp : Hp} (inv : Inv H G hp) {k : Nat} {r : Rg} (h : G.reg k = some r) : ∃ o, hp.get k = some o := by
  cases h' : hp.get k with
  | none => rw [inv.out k h'] at h; cases h
  | some o => exact ⟨o, rfl⟩

/-- A heap of some of the objects, some of them under new keys; more may have become still. -/
theorem inv_map' {hp hp' : Hp} (inv : Inv H G hp) (σ : Nat → Nat) (himm' : ∀ b, G.imm b → G'.imm b) (hyl : ∀ i l, G.yl i = some l → G'.yl i = some l)
    (hsrc : ∀ k o, hp'.get k = some o → (hp.get (σ k) = some o ∧ G'.reg k = G.reg (σ k) ∧ ∀ sh a, o = .fix sh a → ∀ j ∈ a.refs, G'.reg j = G.reg j) ∨ (∃ sh, o = .grow sh [] ∧ G'.reg k = some .nil))
    (hout : ∀ k, hp'.get k = none → G'.reg k = none)
    (hinj : ∀ k k' b r r', liveOb hp' k → liveOb hp' k' → G'.At k b r → G'.At k' b r' → σ k = σ k' → k = k')
    (hok : ∀ b, G'.imm b → b < H.size) (hno : ∀ b, G'.imm b → ∀ k r, liveOb hp (σ k) → G.At (σ k) b r → G'.At k b r → liveOb hp' k → False) :
    Inv H G' hp' ∧ ∀ b, Live G' hp' b → Live G hp b := by
  have hl : ∀ k b r, liveOb hp' k → G'.At k b r → liveOb hp (σ k) ∧ G.At (σ k) b r := by
    rintro k b r ⟨o, ho, hd⟩ hr
    rcases hsrc k o ho with ⟨h1, h2, _⟩ | ⟨sh, _, h2⟩
    · exact ⟨⟨o, h1, hd⟩, (Gh.at_congr h2).1 hr⟩
    · obtain ⟨q, hq, hat⟩ := hr; rw [h2] at hq; cases hq; exact hat.elim
  have hL : ∀ b, Live G' hp' b → Live G hp b := fun b ⟨k, r, hk, hr⟩ => let ⟨h1, h2⟩ := hl k b r hk hr; ⟨σ k, r, h1, h2⟩
  refine ⟨⟨?_, hout, ?_, ?_, ?_⟩, hL⟩
  · intro k o ho
    rcases hsrc k o ho with ⟨h1, h2, h3⟩ | ⟨sh, rfl, h2⟩
    · have := inv.obs (σ k) o h1
      cases o with
      | fix sh a =>
        obtain ⟨b, c, e, fz, g1, g2, g3, g4, g5, g6, g7⟩ := this
        exact ⟨b, c, e, fz, h2.trans g1, g2, g3, g4, g5, g6, RepC.cut g7 g6 himm' hyl (h3 sh a rfl)⟩
      | grow sh els =>
        rcases this with ⟨h, h'⟩ | ⟨b, cap, c, e, fz, g1, g2, g3, g4, g5, g6, g7⟩
        · exact .inl ⟨h, h2.trans h'⟩
        · refine .inr ⟨b, cap, c, e, fz, h2.trans g1, g2, g3, g4, g5, g6, fun j hj => ?_⟩
          obtain ⟨v, hv, hr⟩ := g7 j hj
          refine ⟨v, hv, hr.cut himm' hyl fun q hq => ?_⟩
          rw [plain_flats els ((AV.wfp_iff els).2 fun x hx => (g6 x hx).2) _ (List.getElem_mem hj)] at hq
          cases hq
      | dead => exact let ⟨r, hr⟩ := this; ⟨r, h2.trans hr⟩
      | log id stop xs =>
        obtain ⟨X, l, E, hr, hy, hst, hX, hP⟩ := this
        exact ⟨X, l, E, h2.trans hr, hyl _ _ hy, hst, hX, E.frame _ _ _ _ _ _ (fun _ _ => rfl) (fun b hb => ⟨himm' b hb, rfl⟩) hP⟩
    · exact .inl ⟨rfl, h2⟩
  · intro k k' b r r' hr hr' hk hk'
    obtain ⟨h1, h2⟩ := hl k b r hk hr
    obtain ⟨h1', h2'⟩ := hl k' b r' hk' hr'
    exact hinj k k' b r r' hk hk' hr hr' (inv.dist _ _ b r r' h2 h2' h1 h1')
  · exact fun b hb => ⟨hok b hb, fun ⟨k, r, hk, hr⟩ => let ⟨h1, h2⟩ := hl k b r hk hr; hno b hb k r h1 h2 hr hk⟩
  · exact fun b hb => inv.lt b (hL b hb)
/-- A heap of some of the objects, some of them under new keys. -/
theorem inv_map {hp hp' : Hp} (inv : Inv H G hp) (σ : Nat → Nat) (himm : ∀ b, G'.imm b ↔ G.imm b) (hyl : ∀ i l, G.yl i = some l → G'.yl i = some l)
    (hsrc : ∀ k o, hp'.get k = some o → (hp.get (σ k) = some o ∧ G'.reg k = G.reg (σ k) ∧ ∀ sh a, o = .fix sh a → ∀ j ∈ a.refs, G'.reg j = G.reg j) ∨ (∃ sh, o = .grow sh [] ∧ G'.reg k = some .nil))
    (hout : ∀ k, hp'.get k = none → G'.reg k = none)
    (hinj : ∀ k k' b r r', liveOb hp' k → liveOb hp' k' → G'.At k b r → G'.At k' b r' → σ k = σ k' → k = k') :
    Inv H G' hp' ∧ ∀ b, Live G' hp' b → Live G hp b :=
  inv_map' inv σ (fun b h => (himm b).2 h) hyl hsrc hout hinj (fun b hb => (inv.imm b ((himm b).1 hb)).1) fun b hb k r h1 h2 _ _ => (inv.imm b ((himm b).1 hb)).2 ⟨σ k, r, h1, h2⟩

/-- What a run may do to memory: nothing is unlearned of what does not turn, and nothing else than what lives here turns. -/
structure Move (H : Heap) (G : Gh) (hp : Hp) (H' : Heap) (G' : Gh) (hp' : Hp) : Prop where
  inv : Inv H' G' hp'
  size : H.size ≤ H'.size
  imm : ∀ b, G.imm b → G'.imm b ∧ H'[b]? = H[b]?
  yl : ∀ i l, G.yl i = some l → G'.yl i = some l
  same : ∀ b, b < H.size → ¬ Live G hp b → H'[b]? = H[b]?
  live : ∀ b, Live G' hp' b → Live G hp b ∨ H.size ≤ b
  immNew : ∀ b, G'.imm b → G.imm b ∨ H.size ≤ b ∨ Live G hp b

theorem Step.move {hp hp' : Hp} {H' : Heap} (h : Step H G hp H' G' hp') : Move H G hp H' G' hp' :=
  ⟨h.inv, h.size, h.le.imm, h.le.yl, h.same, h.live, h.immNew⟩
theorem Move.trans {H₀ H₁ H₂ : Heap} {G₀ G₁ G₂ : Gh} {p₀ p₁ p₂ : Hp} (h : Move H₀ G₀ p₀ H₁ G₁ p₁) (h' : Move H₁ G₁ p₁ H₂ G₂ p₂) : Move H₀ G₀ p₀ H₂ G₂ p₂ where
  inv := h'.inv
  size := Nat.le_trans h.size h'.size
  imm b hb := ⟨(h'.imm b (h.imm b hb).1).1, ((h'.imm b (h.imm b hb).1).2).trans (h.imm b hb).2⟩
  yl i l hl := h'.yl i l (h.yl i l hl)
  same b hb hl := by
    have : ¬ Live G₁ p₁ b := fun h1 => by
      rcases h.live b h1 with h2 | h2
      · exact hl h2
      · omega
    rw [h'.same b (Nat.lt_of_lt_of_le hb h.size) this, h.same b hb hl]
  live b hb := by
    rcases h'.live b hb with h1 | h1
    · exact h.live b h1
    · exact .inr (Nat.le_trans h.size h1)
  immNew b hb := by
    rcases h'.immNew b hb with h1 | h1 | h1
    · exact h.immNew b h1
    · exact .inr (.inl (Nat.le_trans h.size h1))
    · rcases h.live b h1 with h2 | h2
      · exact .inr (.inr h2)
      · exact .inr (.inl h2)

end Go.Ev
