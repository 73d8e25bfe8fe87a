/-
  Ghosts cut down to the keys that are kept; what memory a run may turn. No condition.
-/
import Derived.Test.YtdbppejfcolacaaEvOpsD
namespace Go.Ev
open Go

variable {H : Heap} {G G' : Gh}


mutual
theorem plain_flat : ∀ (x : AV), x.plain = true → x.wf → ∀ y ∈ x.flat, y.refs = []
  | .agg l, _, hw, y, hy => by rw [AV.flat] at hy; rw [AV.wf] at hw; exact plain_flats l hw y hy
  | .bool _, _, _, y, hy => by simp only [AV.flat, List.mem_singleton] at hy; subst hy; rfl
  | .int _ _, _, _, y, hy => by simp only [AV.flat, List.mem_singleton] at hy; subst hy; rfl
  | .str _, _, _, y, hy => by simp only [AV.flat, List.mem_singleton] at hy; subst hy; rfl
  | .s _, _, _, y, hy => by simp only [AV.flat, List.mem_singleton] at hy; subst hy; rfl
  | .lst _ _ _, _, _, y, hy => by simp only [AV.flat, List.mem_singleton] at hy; subst hy; rfl
  | .cp _ _, _, _, y, hy => by simp only [AV.flat, List.mem_singleton] at hy; subst hy; rfl
  | .unk, h, _, _, _ => by cases h
  | .aggR _, h, _, _, _ => by cases h
  | .tup _, h, _, _, _ => by cases h
  | .sl _ _ _ _, h, _, _, _ => by cases h
  | .ptr _ _, h, _, _, _ => by cases h
  | .arp _ _ _ _, h, _, _, _ => by cases h
  | .fn _ _, h, _, _, _ => by cases h
  | .yld _, h, _, _, _ => by cases h
theorem plain_flats : ∀ (l : List AV), AV.wfp l → ∀ y ∈ AV.flats l, y.refs = []
  | [], _, y, hy => by simp [AV.flats] at hy
  | x :: l, hw, y, hy => by
    rw [AV.wfp] at hw
    rw [AV.flats, List.mem_append] at hy
    rcases hy with hy | hy
    · exact plain_flat x hw.1 hw.2.1 y hy
    · exact plain_flats l hw.2.2 y hy
end
theorem mem_refss {l : List AV} {x : AV} (hx : x ∈ l) {k : Nat} (hk : k ∈ x.refs) : k ∈ AV.refss l := by
  induction l with
  | nil => cases hx
  | cons a l ih =>
    rw [AV.refss, List.mem_append]
    rcases List.mem_cons.1 hx with rfl | h
    · exact .inl hk
    · exact .inr (ih h)
mutual
theorem flat_refs : ∀ (x : AV), x.wf → ∀ y ∈ x.flat, ∀ k ∈ y.refs, k ∈ x.refs
  | .agg l, hw, y, hy, k, hk => by
    rw [AV.flat] at hy; rw [AV.wf] at hw
    rw [plain_flats l hw y hy] at hk; cases hk
  | .aggR l, hw, y, hy, k, hk => by
    rw [AV.flat] at hy; rw [AV.wf] at hw; rw [AV.refs]; exact flats_refs l hw y hy k hk
  | .bool _, _, y, hy, k, hk => by simp only [AV.flat, List.mem_singleton] at hy; subst hy; exact hk
  | .int _ _, _, y, hy, k, hk => by simp only [AV.flat, List.mem_singleton] at hy; subst hy; exact hk
  | .str _, _, y, hy, k, hk => by simp only [AV.flat, List.mem_singleton] at hy; subst hy; exact hk
  | .s _, _, y, hy, k, hk => by simp only [AV.flat, List.mem_singleton] at hy; subst hy; exact hk
  | .lst _ _ _, _, y, hy, k, hk => by simp only [AV.flat, List.mem_singleton] at hy; subst hy; exact hk
  | .cp _ _, _, y, hy, k, hk => by simp only [AV.flat, List.mem_singleton] at hy; subst hy; exact hk
  | .unk, _, y, hy, k, hk => by simp only [AV.flat, List.mem_singleton] at hy; subst hy; exact hk
  | .tup _, _, y, hy, k, hk => by simp only [AV.flat, List.mem_singleton] at hy; subst hy; exact hk
  | .sl _ _ _ _, _, y, hy, k, hk => by simp only [AV.flat, List.mem_singleton] at hy; subst hy; exact hk
  | .ptr _ _, _, y, hy, k, hk => by simp only [AV.flat, List.mem_singleton] at hy; subst hy; exact hk
  | .arp _ _ _ _, _, y, hy, k, hk => by simp only [AV.flat, List.mem_singleton] at hy; subst hy; exact hk
  | .fn _ _, _, y, hy, k, hk => by simp only [AV.flat, List.mem_singleton] at hy; subst hy; exact hk
  | .yld _, _, y, hy, k, hk => by simp only [AV.flat, List.mem_singleton] at hy; subst hy; exact hk
theorem flats_refs : ∀ (l : List AV), AV.wfs l → ∀ y ∈ AV.flats l, ∀ k ∈ y.refs, k ∈ AV.refss l
  | [], _, y, hy, _, _ => by simp [AV.flats] at hy
  | x :: l, hw, y, hy, k, hk => by
    rw [AV.wfs] at hw
    rw [AV.flats, List.mem_append] at hy
    rw [AV.refss, List.mem_append]
    rcases hy with hy | hy
    · exact .inl (flat_refs x hw.1 y hy k hk)
    · exact .inr (flats_refs l hw.2 y hy k hk)
end

/-- A value stands for the same under a ghost that agrees on the keys that it names. -/
theorem RepS.cut {v : Value} {x : AV} (h : RepS H G v x) (himm : ∀ b, G.imm b → G'.imm b) (hyl : ∀ i l, G.yl i = some l → G'.yl i = some l) :
    (∀ k ∈ x.refs, G'.reg k = G.reg k) → RepS H G' v x := by
  induction h with
  | bool b => exact fun _ => .bool b
  | int k n => exact fun _ => .int k n
  | str l => exact fun _ => .str l
  | s v h => exact fun _ => .s v h
  | ptr k p b root off hr ho => exact fun hk => .ptr k p b root off ((hk k (by simp [AV.refs])).trans hr) ho
  | arp k p off n b root m e o hr hs ho hle => exact fun hk => .arp k p off n b root m e o ((hk k (by simp [AV.refs])).trans hr) hs ho hle
  | sl k p off len b root m e o hr hs ho hle => exact fun hk => .sl k p off len b root m e o ((hk k (by simp [AV.refs])).trans hr) hs ho hle
  | slZ k p off b x root m e hr hs ho => exact fun hk => .slZ k p off b x root m e ((hk k (by simp [AV.refs])).trans hr) hs ho
  | slNil k a hr => exact fun hk => .slNil k a ((hk k (by simp [AV.refs])).trans hr)
  | lstE full sh a cap h => exact fun _ => .lstE full sh a cap h
  | lst full sh l b off len cap c e fz hi hb hl hc hf hsh val hv hr ih =>
    exact fun _ => .lst full sh l b off len cap c e fz (himm b hi) hb hl hc hf hsh val hv fun j hj => ih j hj fun k hk => by
      rw [plain_flats l ((AV.wfp_iff l).2 fun x hx => (hsh x hx).2) _ (List.getElem_mem hj)] at hk; cases hk
  | cp sh a b off c e fz hi hb hsh val hv hr ih => exact fun _ => .cp sh a b off c e fz (himm b hi) hb hsh val hv fun j hj => ih j hj fun k hk => by rw [plain_flat a hsh.2.1 hsh.2.2 _ (List.getElem_mem hj)] at hk; cases hk
  | fn f caps vs hn hsc val hv hr ih => exact fun hk => .fn f caps vs hn hsc val hv fun i hi => ih i hi fun k h => hk k (by rw [AV.refs]; exact mem_refss (List.getElem_mem hi) h)
  | yld id l E h => exact fun _ => .yld id l E (hyl _ _ h)

theorem RepV.cut {v : Value} {x : AV} (h : RepV H G v x) (himm : ∀ b, G.imm b → G'.imm b) (hyl : ∀ i l, G.yl i = some l → G'.yl i = some l)
    (hk : ∀ k ∈ x.refs, G'.reg k = G.reg k) : RepV H G' v x := by
  obtain ⟨h1, h2, vs, h3, h4⟩ := h
  exact ⟨h1, h2, vs, ⟨h3.len, fun j a b => (h3.get j a b).cut himm hyl fun k hk' => hk k (flat_refs x h2 _ (List.getElem_mem b) k hk')⟩, h4⟩
theorem RepT.cut {v : Value} {x : AV} (h : RepT H G v x) (himm : ∀ b, G.imm b → G'.imm b) (hyl : ∀ i l, G.yl i = some l → G'.yl i = some l)
    (hk : ∀ k ∈ x.refs, G'.reg k = G.reg k) : RepT H G' v x := by
  cases x with
  | unk => trivial
  | tup l =>
    obtain ⟨vs, hv, hs, hr⟩ := h
    exact ⟨vs, hv, hs, fun i a b => (hr i a b).cut himm hyl fun k h => hk k (by rw [AV.refs]; exact mem_refss (List.getElem_mem b) h)⟩
  | _ => exact RepV.cut h himm hyl hk
theorem RepC.cut {c : Array Value} {off : Nat} {x : AV} (h : RepC H G c off x.flat) (hw : x.wf) (himm : ∀ b, G.imm b → G'.imm b) (hyl : ∀ i l, G.yl i = some l → G'.yl i = some l)
    (hk : ∀ k ∈ x.refs, G'.reg k = G.reg k) : RepC H G' c off x.flat := fun j hj =>
  let ⟨v, hv, hr⟩ := h j hj
  ⟨v, hv, hr.cut himm hyl fun k h => hk k (flat_refs x hw _ (List.getElem_mem hj) k h)⟩

/-- A key that a scalar names is known to the ghost. -/
theorem RepS.known {v : Value} {x : AV} (h : RepS H G v x) : ∀ k ∈ x.refs, ∃ r, G.reg k = some r := by
  induction h with
  | ptr k p b root off hr ho => intro k' hk; simp only [AV.refs, List.mem_singleton] at hk; exact ⟨_, hk ▸ hr⟩
  | arp k p off n b root m e o hr hs ho hle => intro k' hk; simp only [AV.refs, List.mem_singleton] at hk; exact ⟨_, hk ▸ hr⟩
  | sl k p off len b root m e o hr hs ho hle => intro k' hk; simp only [AV.refs, List.mem_singleton] at hk; exact ⟨_, hk ▸ hr⟩
  | slZ k p off b x root m e hr hs ho => intro k' hk; simp only [AV.refs, List.mem_singleton] at hk; exact ⟨_, hk ▸ hr⟩
  | slNil k a hr => intro k' hk; simp only [AV.refs, List.mem_singleton] at hk; exact ⟨_, hk ▸ hr⟩
  | fn f caps vs hn hsc val hv hr ih =>
    intro k hk
    rw [AV.refs] at hk
    have : ∀ (l : List AV), k ∈ AV.refss l → ∃ x ∈ l, k ∈ x.refs := by
      intro l
      induction l with
      | nil => intro h; cases h
      | cons a l ih =>
        intro h
        rw [AV.refss, List.mem_append] at h
        rcases h with h | h
        · exact ⟨a, by simp, h⟩
        · obtain ⟨x, hx, hk⟩ := ih h; exact ⟨x, by simp [hx], hk⟩
    obtain ⟨x, hx, hk'⟩ := this caps hk
    obtain ⟨i, hi, rfl⟩ := List.getElem_of_mem hx
    exact ih i hi k hk'
  | _ => intro k hk; simp [AV.refs] at hk

end Go.Ev
