/-
  Values that are lent, moved, and renamed. No condition.
-/
import Derived.Test.YtdbppejfcolacaaEvReg5
namespace Go.Ev
open Go
set_option linter.unusedSimpArgs false

variable {H H' : Heap} {G G' : Gh}

/-! ### What a move keeps -/
def Gh.over (G G' : Gh) : Gh := { imm := G'.imm, yl := G'.yl, reg := G.reg }
theorem over_le (himm : ∀ b, G.imm b → G'.imm b ∧ H'[b]? = H[b]?) (hyl : ∀ i l, G.yl i = some l → G'.yl i = some l) : Le H G H' (G.over G') := ⟨himm, regKeep fun _ _ h => h, hyl⟩
theorem RepS.move {v : Value} {x : AV} (h : RepS H G v x) (himm : ∀ b, G.imm b → G'.imm b ∧ H'[b]? = H[b]?) (hyl : ∀ i l, G.yl i = some l → G'.yl i = some l)
    (hk : ∀ k ∈ x.refs, G'.reg k = G.reg k) : RepS H' G' v x := (h.mono (over_le himm hyl)).cut (fun _ h => h) (fun _ _ h => h) hk
theorem RepV.move {v : Value} {x : AV} (h : RepV H G v x) (himm : ∀ b, G.imm b → G'.imm b ∧ H'[b]? = H[b]?) (hyl : ∀ i l, G.yl i = some l → G'.yl i = some l)
    (hk : ∀ k ∈ x.refs, G'.reg k = G.reg k) : RepV H' G' v x := (h.mono (over_le himm hyl)).cut (fun _ h => h) (fun _ _ h => h) hk
theorem RepT.move {v : Value} {x : AV} (h : RepT H G v x) (himm : ∀ b, G.imm b → G'.imm b ∧ H'[b]? = H[b]?) (hyl : ∀ i l, G.yl i = some l → G'.yl i = some l)
    (hk : ∀ k ∈ x.refs, G'.reg k = G.reg k) : RepT H' G' v x := (h.mono (over_le himm hyl)).cut (fun _ h => h) (fun _ _ h => h) hk
theorem RepC.moveP {c : Array Value} {off : Nat} {x : AV} (h : RepC H G c off x.flat) (hw : x.wf) (hp : x.plain = true) (himm : ∀ b, G.imm b → G'.imm b ∧ H'[b]? = H[b]?) (hyl : ∀ i l, G.yl i = some l → G'.yl i = some l) :
    RepC H' G' c off x.flat := fun j hj =>
  let ⟨v, hv, hr⟩ := h j hj
  ⟨v, hv, hr.move himm hyl fun k hk => by rw [plain_flat x hp hw _ (List.getElem_mem hj)] at hk; cases hk⟩
theorem GlOk.move {gl : Gl} (h : GlOk H G gl) (himm : ∀ b, G.imm b → G'.imm b ∧ H'[b]? = H[b]?) (hyl : ∀ i l, G.yl i = some l → G'.yl i = some l) : GlOk H' G' gl := fun i sh a hi => by
  obtain ⟨h1, h2, h3, h4, c, e, fz, h5, h6⟩ := h i sh a hi
  exact ⟨(himm i h1).1, h2, h3, h4, c, e, fz, (himm i h1).2.trans h5, h6.moveP h4 h3 himm hyl⟩
theorem GlOk.moved {gl : Gl} {hp hp' : Hp} (h : GlOk H G gl) (m : Move H G hp H' G' hp') : GlOk H' G' gl := h.move m.imm m.yl
theorem Move.refl {hp : Hp} (h : Inv H G hp) : Move H G hp H G hp := (Step.refl h).move

/-! ### Lent values -/
structure LendOk (H : Heap) (G G' : Gh) (a x : AV) : Prop where
  wf : x.wf
  agg : x.isAgg = a.isAgg
  known : a.known = true → x.known = true
  scalar : a.scalar = true → x.scalar = true
  sh : ∀ sh, hasSh sh a = true → hasSh sh x = true
  rep : ∀ vs, RepL H G vs a.flat → RepL H G' vs x.flat

theorem repL_one {v : Value} {a : AV} (h : a.scalar = true) : RepL H G [v] a.flat ↔ RepS H G v a := by
  rw [AV.flat_scalar h]
  constructor
  · intro hl; exact hl.get 0 (by simp) (by simp)
  · intro hs
    refine ⟨rfl, fun j h1 h2 => ?_⟩
    have : j = 0 := by simp at h1; omega
    subst this; exact hs
theorem repL_single {vs : List Value} {a : AV} (h : a.scalar = true) (hl : RepL H G vs a.flat) : ∃ v, vs = [v] ∧ RepS H G v a := by
  have hlen := hl.len
  rw [AV.flat_scalar h] at hlen
  match vs, hlen with
  | [v], _ => exact ⟨v, rfl, (repL_one h).1 hl⟩
theorem repL_split {vs : List Value} {l m : List AV} (h : RepL H G vs (l ++ m)) : ∃ us ws, vs = us ++ ws ∧ RepL H G us l ∧ RepL H G ws m := by
  have hlen := h.len
  rw [List.length_append] at hlen
  refine ⟨vs.take l.length, vs.drop l.length, (List.take_append_drop _ _).symm, ⟨by rw [List.length_take]; omega, fun j h1 h2 => ?_⟩, ⟨by rw [List.length_drop]; omega, fun j h1 h2 => ?_⟩⟩
  · have := h.get j (by omega) (by simp; omega)
    rw [List.getElem_append_left h2] at this
    rw [List.getElem_take]; exact this
  · have := h.get (l.length + j) (by omega) (by simp; omega)
    rw [List.getElem_append_right (by omega)] at this
    rw [List.getElem_drop]
    simpa using this
theorem repL_nil {vs : List Value} : RepL H G vs [] ↔ vs = [] := by
  constructor
  · intro h; exact List.eq_nil_of_length_eq_zero h.len
  · rintro rfl; exact ⟨rfl, fun j h => by simp at h⟩

theorem lends_ok {f : AV → Option AV} : ∀ {l l' : List AV}, mapO f l = some l' → (∀ a ∈ l, ∀ x, f a = some x → LendOk H G G' a x) → AV.wfs l' ∧ l'.length = l.length ∧
    (∀ fs, hasShs fs l = true → hasShs fs l' = true) ∧ (∀ e, l.all (hasSh e) = true → l'.all (hasSh e) = true) ∧ (∀ vs, RepL H G vs (AV.flats l) → RepL H G' vs (AV.flats l')) ∧
    (AV.scalars l = true → AV.scalars l' = true) ∧ ∀ i (h : i < l.length) (h' : i < l'.length), LendOk H G G' l[i] l'[i]
  | [], l', h, _ => by
    simp only [mapO, Option.some.injEq] at h; subst h
    refine ⟨trivial, rfl, fun fs h => h, fun _ h => h, fun vs h => ?_, fun h => h, fun i h => by simp at h⟩
    rw [AV.flats, repL_nil] at h ⊢; exact h
  | a :: l, l', h, hf => by
    simp only [mapO, Option.bind_eq_some_iff, Option.map_eq_some_iff] at h
    obtain ⟨b, hb, r, hr, rfl⟩ := h
    have h1 := hf a (by simp) b hb
    obtain ⟨g1, g2, g3, g4, g5, g6, g7⟩ := lends_ok hr fun x hx => hf x (by simp [hx])
    refine ⟨⟨h1.wf, g1⟩, by simp [g2], fun fs h => ?_, fun e h => ?_, fun vs h => ?_, fun h => ?_, fun i hi hi' => ?_⟩
    · cases fs with
      | nil => simp [hasShs] at h
      | cons s fs =>
        simp only [hasShs, Bool.and_eq_true] at h ⊢
        exact ⟨h1.sh s h.1, g3 fs h.2⟩
    · simp only [List.all_cons, Bool.and_eq_true] at h ⊢
      exact ⟨h1.sh e h.1, g4 e h.2⟩
    · rw [AV.flats] at h ⊢
      obtain ⟨us, ws, rfl, k1, k2⟩ := repL_split h
      exact repL_append (h1.rep us k1) (g5 ws k2)
    · simp only [AV.scalars, Bool.and_eq_true] at h ⊢
      exact ⟨h1.scalar h.1, g6 h.2⟩
    · cases i with
      | zero => exact h1
      | succ i => exact g7 i (by simpa using hi) (by simpa using hi')

theorem wfp_of_plains : ∀ {l : List AV}, AV.wfs l → AV.plains l = true → AV.wfp l
  | [], _, _ => trivial
  | a :: l, h, hp => by
    simp only [AV.plains, Bool.and_eq_true] at hp
    exact ⟨hp.1, h.1, wfp_of_plains h.2 hp.2⟩
theorem wf_aggR {l : List AV} (h : (AV.aggR l).wf) : AV.wfs l := by simpa [AV.wf] using h

theorem lend_ok {hp : Hp} (inv : Inv H G hp) (himm : ∀ b, G.imm b → G'.imm b) (hlive : ∀ b, Live G hp b → G'.imm b) (hyl : ∀ i l, G.yl i = some l → G'.yl i = some l) :
    ∀ (n : Nat) (a x : AV), lendAV hp n a = some x → a.wf → LendOk H G G' a x := by
  have plain : ∀ (a : AV), a.plain = true → a.wf → LendOk H G G' a a := fun a hp hw =>
    ⟨hw, rfl, id, id, fun _ => id, fun vs h => ⟨h.len, fun j h1 h2 => (h.get j h1 h2).cut himm hyl fun k hk => by rw [plain_flat a hp hw _ (List.getElem_mem h2)] at hk; cases hk⟩⟩
  intro n
  induction n with
  | zero =>
    intro a x h hw
    simp only [lendAV, Option.ite_none_right_eq_some, Option.some.injEq] at h
    obtain ⟨hp, rfl⟩ := h
    exact plain a hp hw
  | succ n ih =>
    intro a x h hw
    simp only [lendAV] at h
    split at h
    · rename_i hpl
      cases h; exact plain a hpl hw
    · split at h
      · rename_i k p off len _
        simp only [Option.map_eq_some_iff] at h
        obtain ⟨⟨sh, l⟩, hc, rfl⟩ := h
        refine ⟨trivial, rfl, fun _ => rfl, fun _ => rfl, fun s hs => ?_, fun vs hvs => ?_⟩
        · cases s with
          | sc => rfl
          | st fs => simp [hasSh, AV.isAgg] at hs
          | ar n e => simp [hasSh, AV.isAgg] at hs
        · obtain ⟨v, rfl, hv⟩ := repL_single rfl hvs
          refine (repL_one rfl).2 ?_
          obtain ⟨b, cap, hev, hels, hor⟩ := content_rep inv hv hc
          have hcap : l.length ≤ cap := by
            rcases repS_sl hv with ⟨a0, _, _, hl, he, _⟩ | ⟨b1, root, m, e, o, x1, hr, hs, ho, hle, he, hx⟩
            · rw [hev] at he; injection he with _ e2 e3; omega
            · rw [hev] at he; injection he with _ e2 e3; omega
          subst hev
          refine lst_repS hcap (fun h => by cases h) hels ?_
          rcases hor with h | ⟨k1, off1, c, e, fz, h1, h2, h3⟩
          · exact .inl h
          · by_cases h0 : l = []
            · exact .inl h0
            · refine .inr ⟨k1, off1, c, e, fz, h1, ?_, h2, fun j hj => ?_⟩
              · rcases repS_sl hv with ⟨a0, _, _, hl, he, _⟩ | ⟨b1, root, m, e, o, x1, hr, hs, ho, hle, he, hx⟩
                · injection he with _ he _
                  exact absurd (List.eq_nil_of_length_eq_zero he) h0
                · injection he with he1 _ _
                  rw [h1] at he1
                  injection he1 with he1
                  injection he1 with he1 _ _
                  subst he1
                  refine hlive k1 ⟨k, root, ?_, .of hr⟩
                  simp only [content] at hc
                  split at hc
                  · exact ⟨_, by assumption, by simp⟩
                  · exact ⟨_, by assumption, by simp⟩
                  · cases hc
              · obtain ⟨w, hw1, hw2⟩ := h3 j hj
                exact ⟨w, hw1, hw2.cut himm hyl fun q hq => by
                  rw [plain_flats l ((AV.wfp_iff l).2 fun y hy => (hels y hy).2) _ (List.getElem_mem hj)] at hq; cases hq⟩
      · rename_i k p _
        split at h
        · rename_i sh b hk
          split at h
          · rename_i s x0 hs hn
            simp only [Option.bind_eq_some_iff] at h
            obtain ⟨y, hy, h⟩ := h
            split at h
            · rename_i hpy
              cases h
              refine ⟨trivial, rfl, fun _ => rfl, fun _ => rfl, fun s hs => ?_, fun vs hvs => ?_⟩
              · cases s with
                | sc => rfl
                | st fs => simp [hasSh, AV.isAgg] at hs
                | ar n e => simp [hasSh, AV.isAgg] at hs
              · obtain ⟨v, rfl, hv⟩ := repL_single rfl hvs
                refine (repL_one rfl).2 ?_
                obtain ⟨b1, root, off, rfl, hr, ho⟩ := repS_ptr hv
                obtain ⟨rfl, hsx, hwx, _, c, e, fz, hb, hf, hsz, hrc⟩ := place_fix inv hk hr ho hs hn
                have hl := ih x0 y hy hwx
                refine cp_repS (hlive b1 ⟨k, root, ⟨_, hk, by simp⟩, .of hr⟩) hb ?_ (hl.sh s hsx) hpy hl.wf
                obtain ⟨val, hv1, hv2⟩ := repC_fun hrc
                have hL : RepL H G ((List.range x0.flat.length).map val) x0.flat := ⟨by simp, fun j h1 h2 => by simpa using hv2 j h2⟩
                have hL' := hl.rep _ hL
                have hlen := hL'.len
                simp only [List.length_map, List.length_range] at hlen
                intro j hj
                refine ⟨val j, hv1 j (by omega), ?_⟩
                have := hL'.get j (by simp; omega) hj
                simpa using this
            · cases h
          · cases h
        · cases h
      · rename_i l _
        simp only [Option.bind_eq_some_iff] at h
        obtain ⟨l', hl', h⟩ := h
        split at h
        · rename_i hpl
          cases h
          have hws := wf_aggR hw
          rw [AV.wfs_iff] at hws
          obtain ⟨g1, g2, g3, g4, g5, _, _⟩ := lends_ok hl' fun a ha x hx => ih a x hx (hws a ha)
          refine ⟨?_, rfl, fun _ => rfl, fun h => by simp [AV.scalar] at h, fun s hs => ?_, fun vs hvs => ?_⟩
          · rw [AV.wf]; exact wfp_of_plains g1 hpl
          · cases s with
            | sc => simp [hasSh, AV.scalar] at hs
            | st fs => simp only [hasSh, AV.isAgg, AV.kids, Bool.true_and] at hs ⊢; exact g3 fs hs
            | ar n e => simp only [hasSh, AV.isAgg, AV.kids, Bool.true_and, Bool.and_eq_true, beq_iff_eq] at hs ⊢; exact ⟨by omega, g4 e hs.2⟩
          · simp only [AV.flat] at hvs ⊢; exact g5 vs hvs
        · cases h
      · rename_i f l _
        simp only [Option.map_eq_some_iff] at h
        obtain ⟨l', hl', rfl⟩ := h
        refine ⟨trivial, rfl, fun _ => rfl, fun _ => rfl, fun s hs => ?_, fun vs hvs => ?_⟩
        · cases s with
          | sc => rfl
          | st fs => simp [hasSh, AV.isAgg] at hs
          | ar n e => simp [hasSh, AV.isAgg] at hs
        · obtain ⟨v, rfl, hv⟩ := repL_single rfl hvs
          refine (repL_one rfl).2 ?_
          cases hv with
          | fn _ _ us hn hsc val hval hr =>
            have hws : ∀ a ∈ l, a.wf := fun a ha => AV.wf_scalar (by
              have : ∀ (l : List AV), AV.scalars l = true → ∀ a ∈ l, a.scalar = true := by
                intro l
                induction l with
                | nil => intro _ a h; cases h
                | cons b l ih =>
                  intro h a ha
                  simp only [AV.scalars, Bool.and_eq_true] at h
                  rcases List.mem_cons.1 ha with rfl | ha
                  · exact h.1
                  · exact ih h.2 a ha
              exact this l hsc a ha)
            obtain ⟨g1, g2, _, _, _, g6, g7⟩ := lends_ok hl' fun a ha x hx => ih a x hx (hws a ha)
            refine .fn f l' us (by omega) (g6 hsc) val (fun i hi => hval i (by omega)) fun i hi => ?_
            have hi' : i < l.length := by omega
            have hk := g7 i hi' hi
            have hsci : l[i].scalar = true := by
              have : ∀ (l : List AV), AV.scalars l = true → ∀ a ∈ l, a.scalar = true := by
                intro l
                induction l with
                | nil => intro _ a h; cases h
                | cons b l ih =>
                  intro h a ha
                  simp only [AV.scalars, Bool.and_eq_true] at h
                  rcases List.mem_cons.1 ha with rfl | ha
                  · exact h.1
                  · exact ih h.2 a ha
              exact this l hsc _ (List.getElem_mem hi')
            exact (repL_one (hk.scalar hsci)).1 (hk.rep _ ((repL_one hsci).2 (hr i hi')))
      · cases h

theorem packV_agg {a x : AV} (h : x.isAgg = a.isAgg) (vs : List Value) : packV x vs = packV a vs := by unfold packV; rw [h]
theorem lend_rep {hp : Hp} (inv : Inv H G hp) (himm : ∀ b, G.imm b → G'.imm b) (hlive : ∀ b, Live G hp b → G'.imm b) (hyl : ∀ i l, G.yl i = some l → G'.yl i = some l)
    {n : Nat} {a x : AV} {v : Value} (h : lendAV hp n a = some x) (hv : RepV H G v a) : RepV H G' v x := by
  obtain ⟨h1, h2, vs, h3, h4⟩ := hv
  have hl := lend_ok inv himm hlive hyl n a x h h2
  exact ⟨hl.known h1, hl.wf, vs, hl.rep vs h3, by rw [packV_agg hl.agg]; exact h4⟩
theorem lend_known {hp : Hp} : ∀ {n : Nat} {a x : AV}, lendAV hp n a = some x → a.known = true
  | 0, a, x, h => by
    simp only [lendAV, Option.ite_none_right_eq_some] at h
    have := h.1; revert this; cases a <;> simp [AV.plain, AV.known]
  | n + 1, a, x, h => by
    simp only [lendAV] at h
    cases a <;> simp_all [AV.known, AV.plain]

/-! ### Renaming -/
def ren (d k : Nat) : Nat := if 20000 ≤ k then d + 1000 * (k - 20000) else k
mutual
theorem rn_plain (d : Nat) : ∀ (a : AV), a.plain = true → rn d a = a
  | .agg _, _ => rfl
  | .bool _, _ => rfl
  | .int _ _, _ => rfl
  | .str _, _ => rfl
  | .s _, _ => rfl
  | .lst _ _ _, _ => rfl
  | .cp _ _, _ => rfl
  | .unk, h => by cases h
  | .aggR _, h => by cases h
  | .tup _, h => by cases h
  | .sl _ _ _ _, h => by cases h
  | .ptr _ _, h => by cases h
  | .arp _ _ _ _, h => by cases h
  | .fn _ _, h => by cases h
  | .yld _, h => by cases h
end
theorem rns_length (d : Nat) : ∀ (l : List AV), (rns d l).length = l.length
  | [] => rfl
  | a :: l => by simp [rns, rns_length d l]
theorem rns_map (d : Nat) : ∀ (l : List AV), rns d l = l.map (rn d)
  | [] => rfl
  | a :: l => by simp [rns, rns_map d l]
mutual
theorem rn_scalar (d : Nat) : ∀ (a : AV), (rn d a).scalar = a.scalar
  | .agg _ => rfl
  | .bool _ => rfl
  | .int _ _ => rfl
  | .str _ => rfl
  | .s _ => rfl
  | .lst _ _ _ => rfl
  | .cp _ _ => rfl
  | .unk => rfl
  | .aggR _ => rfl
  | .tup _ => rfl
  | .sl _ _ _ _ => rfl
  | .ptr _ _ => rfl
  | .arp _ _ _ _ => rfl
  | .fn _ _ => rfl
  | .yld _ => rfl
end
theorem rn_isAgg (d : Nat) (a : AV) : (rn d a).isAgg = a.isAgg := by cases a <;> rfl
theorem rn_known (d : Nat) (a : AV) : (rn d a).known = a.known := by cases a <;> rfl
theorem rns_scalars (d : Nat) : ∀ (l : List AV), AV.scalars (rns d l) = AV.scalars l
  | [] => rfl
  | a :: l => by simp [rns, AV.scalars, rn_scalar, rns_scalars d l]
mutual
theorem rn_wf (d : Nat) : ∀ (a : AV), a.wf → (rn d a).wf
  | .agg _, h => h
  | .bool _, h => h
  | .int _ _, h => h
  | .str _, h => h
  | .s _, h => h
  | .lst _ _ _, h => h
  | .cp _ _, h => h
  | .unk, h => h
  | .aggR l, h => by rw [AV.wf] at h; rw [rn, AV.wf]; exact rns_wf d l h
  | .tup l, h => by rw [AV.wf] at h; rw [rn, AV.wf]; exact rns_wf d l h
  | .sl _ _ _ _, _ => trivial
  | .ptr _ _, _ => trivial
  | .arp _ _ _ _, _ => trivial
  | .fn _ _, _ => trivial
  | .yld _, _ => trivial
theorem rns_wf (d : Nat) : ∀ (l : List AV), AV.wfs l → AV.wfs (rns d l)
  | [], _ => trivial
  | a :: l, h => ⟨rn_wf d a h.1, rns_wf d l h.2⟩
end
mutual
theorem rn_flat (d : Nat) : ∀ (a : AV), a.wf → (rn d a).flat = rns d a.flat
  | .agg l, h => by
    rw [AV.wf] at h
    show (AV.agg l).flat = rns d (AV.agg l).flat
    simp only [AV.flat]
    exact rns_flats_plain d l h
  | .bool _, _ => rfl
  | .int _ _, _ => rfl
  | .str _, _ => rfl
  | .s _, _ => rfl
  | .lst _ _ _, _ => rfl
  | .cp _ _, _ => rfl
  | .unk, _ => rfl
  | .aggR l, h => by
    rw [AV.wf] at h
    rw [rn, AV.flat, AV.flat]; exact rns_flats d l h
  | .tup _, _ => rfl
  | .sl _ _ _ _, _ => rfl
  | .ptr _ _, _ => rfl
  | .arp _ _ _ _, _ => rfl
  | .fn _ _, _ => rfl
  | .yld _, _ => rfl
theorem rns_flats (d : Nat) : ∀ (l : List AV), AV.wfs l → AV.flats (rns d l) = rns d (AV.flats l)
  | [], _ => rfl
  | a :: l, h => by
    rw [rns, AV.flats, AV.flats, rn_flat d a h.1, rns_flats d l h.2, rns_map, rns_map, rns_map, List.map_append]
theorem rns_flats_plain (d : Nat) : ∀ (l : List AV), AV.wfp l → AV.flats l = rns d (AV.flats l)
  | [], _ => rfl
  | a :: l, h => by
    have h1 : a.flat = rns d a.flat := by rw [← rn_flat d a h.2.1, rn_plain d a h.1]
    rw [AV.flats, rns_map, List.map_append, ← rns_map, ← rns_map, ← h1, ← rns_flats_plain d l h.2.2]
end

/-- A value under new names. -/
theorem RepS.rename {v : Value} {x : AV} {d : Nat} (h : RepS H G v x) (himm : noImm x = false → ∀ b, G.imm b → G'.imm b) (hyl : ∀ i l, G.yl i = some l → G'.yl i = some l) :
    (∀ k ∈ x.refs, G'.reg (ren d k) = G.reg k) → RepS H G' v (rn d x) := by
  induction h with
  | bool b => exact fun _ => .bool b
  | int k n => exact fun _ => .int k n
  | str l => exact fun _ => .str l
  | s v h => exact fun _ => .s v h
  | ptr k p b root off hr ho => exact fun hk => .ptr _ p b root off ((hk k (by simp [AV.refs])).trans hr) ho
  | arp k p off n b root m e o hr hs ho hle => exact fun hk => .arp _ p off n b root m e o ((hk k (by simp [AV.refs])).trans hr) hs ho hle
  | sl k p off len b root m e o hr hs ho hle => exact fun hk => .sl _ p off len b root m e o ((hk k (by simp [AV.refs])).trans hr) hs ho hle
  | slZ k p off b x root m e hr hs ho => exact fun hk => .slZ _ p off b x root m e ((hk k (by simp [AV.refs])).trans hr) hs ho
  | slNil k a hr => exact fun hk => .slNil _ a ((hk k (by simp [AV.refs])).trans hr)
  | lstE full sh a cap h => exact fun _ => .lstE full sh a cap h
  | lst full sh l b off len cap c e fz hi hb hl hc hf hsh val hv hr ih =>
    intro _
    by_cases h0 : l = []
    · subst h0
      simp only [List.length_nil] at hl
      subst hl
      exact .lstE full sh _ cap fun h => hf h
    · have himm' := himm (by unfold noImm; simpa using h0)
      exact .lst full sh l b off len cap c e fz (himm' _ hi) hb hl hc hf hsh val hv fun j hj => (hr j hj).cut himm' hyl fun k hk => by
        rw [plain_flats l ((AV.wfp_iff l).2 fun x hx => (hsh x hx).2) _ (List.getElem_mem hj)] at hk; cases hk
  | cp sh a b off c e fz hi hb hsh val hv hr ih =>
    intro _
    have himm' := himm rfl
    exact .cp sh a b off c e fz (himm' _ hi) hb hsh val hv fun j hj => (hr j hj).cut himm' hyl fun k hk => by rw [plain_flat a hsh.2.1 hsh.2.2 _ (List.getElem_mem hj)] at hk; cases hk
  | fn f caps vs hn hsc val hv hr ih =>
    intro hk
    have himm' := himm rfl
    refine .fn f (rns d caps) vs (by rw [rns_length]; exact hn) (by rw [rns_scalars]; exact hsc) val (fun i hi => hv i (by rw [rns_length] at hi; exact hi)) fun i hi => ?_
    have hi' : i < caps.length := by rw [rns_length] at hi; exact hi
    have : (rns d caps)[i] = rn d caps[i] := by simp [rns_map]
    rw [this]
    exact ih i hi' (fun _ => himm') fun k h => hk k (by rw [AV.refs]; exact mem_refss (List.getElem_mem hi') h)
  | yld id l E h => exact fun _ => .yld id l E (hyl _ _ h)

theorem noImms_mem : ∀ {l : List AV}, noImms l = true → ∀ a ∈ l, noImm a = true
  | [], _, _, h => by cases h
  | b :: l, h, a, ha => by
    simp only [noImms, Bool.and_eq_true] at h
    rcases List.mem_cons.1 ha with rfl | ha
    · exact h.1
    · exact noImms_mem h.2 a ha
mutual
theorem noImm_flat : ∀ (a : AV), noImm a = true → ∀ y ∈ a.flat, noImm y = true
  | .agg l, h, y, hy => by rw [AV.flat] at hy; rw [noImm] at h; exact noImms_flats l h y hy
  | .aggR l, h, y, hy => by rw [AV.flat] at hy; rw [noImm] at h; exact noImms_flats l h y hy
  | .bool _, h, y, hy => by simp only [AV.flat, List.mem_singleton] at hy; subst hy; exact h
  | .int _ _, h, y, hy => by simp only [AV.flat, List.mem_singleton] at hy; subst hy; exact h
  | .str _, h, y, hy => by simp only [AV.flat, List.mem_singleton] at hy; subst hy; exact h
  | .s _, h, y, hy => by simp only [AV.flat, List.mem_singleton] at hy; subst hy; exact h
  | .lst _ _ _, h, y, hy => by simp only [AV.flat, List.mem_singleton] at hy; subst hy; exact h
  | .cp _ _, h, y, hy => by simp only [AV.flat, List.mem_singleton] at hy; subst hy; exact h
  | .unk, h, y, hy => by simp only [AV.flat, List.mem_singleton] at hy; subst hy; exact h
  | .tup _, h, y, hy => by simp only [AV.flat, List.mem_singleton] at hy; subst hy; exact h
  | .sl _ _ _ _, h, y, hy => by simp only [AV.flat, List.mem_singleton] at hy; subst hy; exact h
  | .ptr _ _, h, y, hy => by simp only [AV.flat, List.mem_singleton] at hy; subst hy; exact h
  | .arp _ _ _ _, h, y, hy => by simp only [AV.flat, List.mem_singleton] at hy; subst hy; exact h
  | .fn _ _, h, y, hy => by simp only [AV.flat, List.mem_singleton] at hy; subst hy; exact h
  | .yld _, h, y, hy => by simp only [AV.flat, List.mem_singleton] at hy; subst hy; exact h
theorem noImms_flats : ∀ (l : List AV), noImms l = true → ∀ y ∈ AV.flats l, noImm y = true
  | [], _, y, hy => by simp [AV.flats] at hy
  | a :: l, h, y, hy => by
    simp only [noImms, Bool.and_eq_true] at h
    rw [AV.flats, List.mem_append] at hy
    rcases hy with hy | hy
    · exact noImm_flat a h.1 y hy
    · exact noImms_flats l h.2 y hy
end

theorem RepV.rename {v : Value} {x : AV} {d : Nat} (h : RepV H G v x) (himm : noImm x = true ∨ ∀ b, G.imm b → G'.imm b) (hyl : ∀ i l, G.yl i = some l → G'.yl i = some l)
    (hk : ∀ k ∈ x.refs, G'.reg (ren d k) = G.reg k) : RepV H G' v (rn d x) := by
  obtain ⟨h1, h2, vs, h3, h4⟩ := h
  refine ⟨by rw [rn_known]; exact h1, rn_wf d x h2, vs, ?_, by rw [packV_agg (rn_isAgg d x)]; exact h4⟩
  rw [rn_flat d x h2]
  refine ⟨by rw [rns_length]; exact h3.len, fun j a b => ?_⟩
  have b' : j < x.flat.length := by rw [rns_length] at b; exact b
  have e : (rns d x.flat)[j] = rn d x.flat[j] := by simp [rns_map]
  rw [e]
  refine (h3.get j a b').rename (fun hni => ?_) hyl fun k h => hk k (flat_refs x h2 _ (List.getElem_mem b') k h)
  rcases himm with h | h
  · rw [noImm_flat x h _ (List.getElem_mem b')] at hni; cases hni
  · exact h
theorem RepT.rename {v : Value} {x : AV} {d : Nat} (h : RepT H G v x) (himm : noImm x = true ∨ ∀ b, G.imm b → G'.imm b) (hyl : ∀ i l, G.yl i = some l → G'.yl i = some l)
    (hk : ∀ k ∈ x.refs, G'.reg (ren d k) = G.reg k) : RepT H G' v (rn d x) := by
  cases x with
  | unk => trivial
  | tup l =>
    obtain ⟨vs, hv, hs, hr⟩ := h
    refine ⟨vs, hv, by rw [rns_length]; exact hs, fun i a b => ?_⟩
    have b' : i < l.length := by rw [rns_length] at b; exact b
    have e : (rns d l)[i] = rn d l[i] := by simp [rns_map]
    rw [e]
    refine (hr i a b').rename (himm.imp (fun h => ?_) id) hyl fun k h => hk k (by rw [AV.refs]; exact mem_refss (List.getElem_mem b') h)
    rw [noImm] at h; exact noImms_mem h _ (List.getElem_mem b')
  | _ => exact RepV.rename h himm hyl hk
end Go.Ev
