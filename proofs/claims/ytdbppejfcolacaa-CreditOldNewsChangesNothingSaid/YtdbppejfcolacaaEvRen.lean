/-
  Values under other names. No condition.
-/
import Derived.Test.YtdbppejfcolacaaEvLend
namespace Go.Ev
open Go
set_option linter.unusedSimpArgs false
variable {H H' : Heap} {G G' : Gh}
mutual
theorem rA_plain (ρ : Nat → Nat) : ∀ (a : AV), a.plain = true → rA ρ a = a
  | .agg _, _ => rfl
  | .bool _, _ => rfl
  | .int _ _, _ => rfl
  | .str _, _ => rfl
  | .s _, _ => rfl
  | .lst _ _ _, _ => rfl
  | .cp _ _, _ => rfl
  | .unk, h => by cases h
  | .aggR _, h => by cases h
  | .tup _, h => by cases h
  | .sl _ _ _ _, h => by cases h
  | .ptr _ _, h => by cases h
  | .arp _ _ _ _, h => by cases h
  | .fn _ _, h => by cases h
  | .yld _, h => by cases h
end
theorem rAs_length (ρ : Nat → Nat) : ∀ (l : List AV), (rAs ρ l).length = l.length
  | [] => rfl
  | a :: l => by simp [rAs, rAs_length ρ l]
theorem rAs_map (ρ : Nat → Nat) : ∀ (l : List AV), rAs ρ l = l.map (rA ρ)
  | [] => rfl
  | a :: l => by simp [rAs, rAs_map ρ l]
mutual
theorem rA_scalar (ρ : Nat → Nat) : ∀ (a : AV), (rA ρ a).scalar = a.scalar
  | .agg _ => rfl
  | .bool _ => rfl
  | .int _ _ => rfl
  | .str _ => rfl
  | .s _ => rfl
  | .lst _ _ _ => rfl
  | .cp _ _ => rfl
  | .unk => rfl
  | .aggR _ => rfl
  | .tup _ => rfl
  | .sl _ _ _ _ => rfl
  | .ptr _ _ => rfl
  | .arp _ _ _ _ => rfl
  | .fn _ _ => rfl
  | .yld _ => rfl
end
theorem rA_isAgg (ρ : Nat → Nat) (a : AV) : (rA ρ a).isAgg = a.isAgg := by cases a <;> rfl
theorem rA_known (ρ : Nat → Nat) (a : AV) : (rA ρ a).known = a.known := by cases a <;> rfl
theorem rAs_scalars (ρ : Nat → Nat) : ∀ (l : List AV), AV.scalars (rAs ρ l) = AV.scalars l
  | [] => rfl
  | a :: l => by simp [rAs, AV.scalars, rA_scalar, rAs_scalars ρ l]
mutual
theorem rA_wf (ρ : Nat → Nat) : ∀ (a : AV), a.wf → (rA ρ a).wf
  | .agg _, h => h
  | .bool _, h => h
  | .int _ _, h => h
  | .str _, h => h
  | .s _, h => h
  | .lst _ _ _, h => h
  | .cp _ _, h => h
  | .unk, h => h
  | .aggR l, h => by rw [AV.wf] at h; rw [rA, AV.wf]; exact rAs_wf ρ l h
  | .tup l, h => by rw [AV.wf] at h; rw [rA, AV.wf]; exact rAs_wf ρ l h
  | .sl _ _ _ _, _ => trivial
  | .ptr _ _, _ => trivial
  | .arp _ _ _ _, _ => trivial
  | .fn _ _, _ => trivial
  | .yld _, _ => trivial
theorem rAs_wf (ρ : Nat → Nat) : ∀ (l : List AV), AV.wfs l → AV.wfs (rAs ρ l)
  | [], _ => trivial
  | a :: l, h => ⟨rA_wf ρ a h.1, rAs_wf ρ l h.2⟩
end
mutual
theorem rA_flat (ρ : Nat → Nat) : ∀ (a : AV), a.wf → (rA ρ a).flat = rAs ρ a.flat
  | .agg l, h => by
    rw [AV.wf] at h
    show (AV.agg l).flat = rAs ρ (AV.agg l).flat
    simp only [AV.flat]
    exact rAs_flats_plain ρ l h
  | .bool _, _ => rfl
  | .int _ _, _ => rfl
  | .str _, _ => rfl
  | .s _, _ => rfl
  | .lst _ _ _, _ => rfl
  | .cp _ _, _ => rfl
  | .unk, _ => rfl
  | .aggR l, h => by
    rw [AV.wf] at h
    rw [rA, AV.flat, AV.flat]; exact rAs_flats ρ l h
  | .tup _, _ => rfl
  | .sl _ _ _ _, _ => rfl
  | .ptr _ _, _ => rfl
  | .arp _ _ _ _, _ => rfl
  | .fn _ _, _ => rfl
  | .yld _, _ => rfl
theorem rAs_flats (ρ : Nat → Nat) : ∀ (l : List AV), AV.wfs l → AV.flats (rAs ρ l) = rAs ρ (AV.flats l)
  | [], _ => rfl
  | a :: l, h => by
    rw [rAs, AV.flats, AV.flats, rA_flat ρ a h.1, rAs_flats ρ l h.2, rAs_map, rAs_map, rAs_map, List.map_append]
theorem rAs_flats_plain (ρ : Nat → Nat) : ∀ (l : List AV), AV.wfp l → AV.flats l = rAs ρ (AV.flats l)
  | [], _ => rfl
  | a :: l, h => by
    have h1 : a.flat = rAs ρ a.flat := by rw [← rA_flat ρ a h.2.1, rA_plain ρ a h.1]
    rw [AV.flats, rAs_map, List.map_append, ← rAs_map, ← rAs_map, ← h1, ← rAs_flats_plain ρ l h.2.2]
end

/-- A value under new names. -/
theorem RepS.renA {v : Value} {x : AV} {ρ : Nat → Nat} (h : RepS H G v x) (himm : noImm x = false → ∀ b, G.imm b → G'.imm b) (hyl : ∀ i l, G.yl i = some l → G'.yl i = some l) :
    (∀ k ∈ x.refs, G'.reg (ρ k) = G.reg k) → RepS H G' v (rA ρ x) := by
  induction h with
  | bool b => exact fun _ => .bool b
  | int k n => exact fun _ => .int k n
  | str l => exact fun _ => .str l
  | s v h => exact fun _ => .s v h
  | ptr k p b root off hr ho => exact fun hk => .ptr _ p b root off ((hk k (by simp [AV.refs])).trans hr) ho
  | arp k p off n b root m e o hr hs ho hle => exact fun hk => .arp _ p off n b root m e o ((hk k (by simp [AV.refs])).trans hr) hs ho hle
  | sl k p off len b root m e o hr hs ho hle => exact fun hk => .sl _ p off len b root m e o ((hk k (by simp [AV.refs])).trans hr) hs ho hle
  | slZ k p off b x root m e hr hs ho => exact fun hk => .slZ _ p off b x root m e ((hk k (by simp [AV.refs])).trans hr) hs ho
  | slNil k a hr => exact fun hk => .slNil _ a ((hk k (by simp [AV.refs])).trans hr)
  | lstE full sh a cap h => exact fun _ => .lstE full sh a cap h
  | lst full sh l b off len cap c e fz hi hb hl hc hf hsh val hv hr ih =>
    intro _
    by_cases h0 : l = []
    · subst h0
      simp only [List.length_nil] at hl
      subst hl
      exact .lstE full sh _ cap fun h => hf h
    · have himm' := himm (by unfold noImm; simpa using h0)
      exact .lst full sh l b off len cap c e fz (himm' _ hi) hb hl hc hf hsh val hv fun j hj => (hr j hj).cut himm' hyl fun k hk => by
        rw [plain_flats l ((AV.wfp_iff l).2 fun x hx => (hsh x hx).2) _ (List.getElem_mem hj)] at hk; cases hk
  | cp sh a b off c e fz hi hb hsh val hv hr ih =>
    intro _
    have himm' := himm rfl
    exact .cp sh a b off c e fz (himm' _ hi) hb hsh val hv fun j hj => (hr j hj).cut himm' hyl fun k hk => by rw [plain_flat a hsh.2.1 hsh.2.2 _ (List.getElem_mem hj)] at hk; cases hk
  | fn f caps vs hn hsc val hv hr ih =>
    intro hk
    have himm' := himm rfl
    refine .fn f (rAs ρ caps) vs (by rw [rAs_length]; exact hn) (by rw [rAs_scalars]; exact hsc) val (fun i hi => hv i (by rw [rAs_length] at hi; exact hi)) fun i hi => ?_
    have hi' : i < caps.length := by rw [rAs_length] at hi; exact hi
    have : (rAs ρ caps)[i] = rA ρ caps[i] := by simp [rAs_map]
    rw [this]
    exact ih i hi' (fun _ => himm') fun k h => hk k (by rw [AV.refs]; exact mem_refss (List.getElem_mem hi') h)
  | yld id l E h => exact fun _ => .yld id l E (hyl _ _ h)

theorem RepV.renA {v : Value} {x : AV} {ρ : Nat → Nat} (h : RepV H G v x) (himm : noImm x = true ∨ ∀ b, G.imm b → G'.imm b) (hyl : ∀ i l, G.yl i = some l → G'.yl i = some l)
    (hk : ∀ k ∈ x.refs, G'.reg (ρ k) = G.reg k) : RepV H G' v (rA ρ x) := by
  obtain ⟨h1, h2, vs, h3, h4⟩ := h
  refine ⟨by rw [rA_known]; exact h1, rA_wf ρ x h2, vs, ?_, by rw [packV_agg (rA_isAgg ρ x)]; exact h4⟩
  rw [rA_flat ρ x h2]
  refine ⟨by rw [rAs_length]; exact h3.len, fun j a b => ?_⟩
  have b' : j < x.flat.length := by rw [rAs_length] at b; exact b
  have e : (rAs ρ x.flat)[j] = rA ρ x.flat[j] := by simp [rAs_map]
  rw [e]
  refine (h3.get j a b').renA (fun hni => ?_) hyl fun k h => hk k (flat_refs x h2 _ (List.getElem_mem b') k h)
  rcases himm with h | h
  · rw [noImm_flat x h _ (List.getElem_mem b')] at hni; cases hni
  · exact h
theorem RepT.renA {v : Value} {x : AV} {ρ : Nat → Nat} (h : RepT H G v x) (himm : noImm x = true ∨ ∀ b, G.imm b → G'.imm b) (hyl : ∀ i l, G.yl i = some l → G'.yl i = some l)
    (hk : ∀ k ∈ x.refs, G'.reg (ρ k) = G.reg k) : RepT H G' v (rA ρ x) := by
  cases x with
  | unk => trivial
  | tup l =>
    obtain ⟨vs, hv, hs, hr⟩ := h
    refine ⟨vs, hv, by rw [rAs_length]; exact hs, fun i a b => ?_⟩
    have b' : i < l.length := by rw [rAs_length] at b; exact b
    have e : (rAs ρ l)[i] = rA ρ l[i] := by simp [rAs_map]
    rw [e]
    refine (hr i a b').renA (himm.imp (fun h => ?_) id) hyl fun k h => hk k (by rw [AV.refs]; exact mem_refss (List.getElem_mem b') h)
    rw [noImm] at h; exact noImms_mem h _ (List.getElem_mem b')
  | _ => exact RepV.renA h himm hyl hk
end Go.Ev
