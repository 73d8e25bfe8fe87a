/-
  For the evaluator's user: evaluation by simp, no lambda on the way. No condition.
-/
import Derived.Test.YtdbppejfcolacaaEvComp
namespace Go.Ev
open Go

theorem obind_some {α β : Type} (a : α) (f : α → Option β) : (some a).bind f = f a := rfl

def seqK (gl : Gl) (cl : Cl) (b : MC) : Option (Ex × St) → Option (Ex × St)
  | some (.norm, st) => evC gl cl b st
  | r => r
def blockK (id : Nat) : Option (Ex × St) → Option (Ex × St)
  | some (e, st) => some (if e = .exit id then .norm else e, st)
  | none => none
def keptK (ks : List Kp) : Option (Ex × St) → Option (Ex × St)
  | some (.norm, st) => (clean ks st).map fun st => (.norm, st)
  | r => r
def normK : Option St → Option (Ex × St)
  | some st => some (.norm, st)
  | none => none
def itsK (gl : Gl) (cl : Cl) (d : Option Nat) (rest : Its) (st : St) : Option (AV × Hp) → Option St
  | some (v, us) => evIts gl cl rest (st.upd d v us)
  | none => none
def iteK (gl : Gl) (cl : Cl) (lo hi d : Nat) (rest : Its) (st : St) : Option AV → Option St
  | some x => evIts gl cl rest { fr := .set d x :: .clr lo hi :: st.fr, hp := st.hp }
  | none => none
def iteB (gl : Gl) (a : Opd) : Option St → Option AV
  | some st1 => if (a.val gl st1.fr).plain then some (a.val gl st1.fr) else none
  | none => none
def flatK (gl : Gl) (cl : Cl) (o : FO) (l : List FO) (st : St) : Option (AV × Hp) → Option (St × List (List Nat))
  | some (v, us) => (evFlat gl cl l (st.upd o.d v us)).map fun q => (q.1, keysOf gl st o.m :: q.2)
  | none => none
def drawK (prs : List (Nat × Nat)) : Option (St × List (List Nat)) → Option (Ex × St)
  | some (st, ks) => if prs.all (fun p => disj (ks.getD p.1 []) (ks.getD p.2 [])) then some (.norm, st) else none
  | none => none
def fnK (fd : Fd) : Option (Ex × St) → Option (AV × Hp × List OB)
  | some (.norm, st) | some (.ret, st) => (packs st fd.res fd.pk).map fun z => (match z.1 with | [a] => a | l => .tup l, [], z.2)
  | _ => none

section
variable {gl : Gl} {cl : Cl} {st : St}
theorem evC_skip : evC gl cl .skip st = some (.norm, st) := rfl
theorem evC_ret : evC gl cl .ret st = some (.ret, st) := rfl
theorem evC_exit {i : Nat} : evC gl cl (.exit i) st = some (.exit i, st) := rfl
theorem evC_scope {b : MC} : evC gl cl (.scope b) st = evC gl cl b st := rfl
theorem evC_seq {a b : MC} : evC gl cl (.seq a b) st = seqK gl cl b (evC gl cl a st) := by
  rw [evC]; rcases evC gl cl a st with _ | ⟨_ | _ | _, _⟩ <;> rfl
theorem seqK_norm {b : MC} : seqK gl cl b (some (.norm, st)) = evC gl cl b st := by rw [seqK]
theorem seqK_ret {b : MC} : seqK gl cl b (some (.ret, st)) = some (.ret, st) := rfl
theorem seqK_exit {b : MC} {i : Nat} : seqK gl cl b (some (.exit i, st)) = some (.exit i, st) := rfl
theorem evC_block {i : Nat} {b : MC} : evC gl cl (.block i b) st = blockK i (evC gl cl b st) := by
  rw [evC]; rcases evC gl cl b st with _ | ⟨_, _⟩ <;> rfl
theorem blockK_norm {i : Nat} : blockK i (some (.norm, st)) = some (.norm, st) := rfl
theorem blockK_ret {i : Nat} : blockK i (some (.ret, st)) = some (.ret, st) := rfl
theorem blockK_exit {i j : Nat} : blockK i (some (.exit j, st)) = some (if j = i then .norm else .exit j, st) := by simp [blockK]
theorem evC_kept {ks : List Kp} {b : MC} : evC gl cl (.kept ks b) st = keptK ks (evC gl cl b st) := by
  rw [evC]; rcases evC gl cl b st with _ | ⟨_ | _ | _, _⟩ <;> rfl
theorem keptK_norm {ks : List Kp} {st' : St} (h : clean ks st = some st') : keptK ks (some (.norm, st)) = some (.norm, st') := by simp [keptK, h]
theorem keptK_ret {ks : List Kp} : keptK ks (some (.ret, st)) = some (.ret, st) := rfl
theorem keptK_exit {ks : List Kp} {i : Nat} : keptK ks (some (.exit i, st)) = some (.exit i, st) := rfl
theorem evC_reg {i : Its} : evC gl cl (.reg i) st = normK (evIts gl cl i st) := by rw [evC]; cases evIts gl cl i st <;> rfl
theorem normK_some : normK (some st) = some (.norm, st) := rfl
theorem evC_cond {c : Opd} {a b : MC} {t : Bool} (h : c.val gl st.fr = .bool t) : evC gl cl (.cond c a b) st = if t then evC gl cl a st else evC gl cl b st := by rw [evC, h]
theorem evIts_nil : evIts gl cl .nil st = some st := rfl
theorem evIts_op {d : Option Nat} {m : MOp} {r : Its} : evIts gl cl (.op d m r) st = itsK gl cl d r st (stepOp gl cl st d m) := by
  rw [evIts]; rcases stepOp gl cl st d m with _ | ⟨_, _⟩ <;> rfl
theorem itsK_some {d : Option Nat} {r : Its} {v : AV} {us : Hp} : itsK gl cl d r st (some (v, us)) = evIts gl cl r (st.upd d v us) := by rw [itsK]
theorem evC_draw {l : List FO} {prs : List (Nat × Nat)} : evC gl cl (.draw l prs) st = drawK prs (evFlat gl cl l st) := by
  rw [evC]; rcases evFlat gl cl l st with _ | ⟨_, _⟩ <;> rfl
theorem drawK_nil {ks : List (List Nat)} : drawK [] (some (st, ks)) = some (.norm, st) := rfl
end

/-- A region whose order is drawn, no pair to be looked at: no log. -/
def evFlat0 (gl : Gl) (cl : Cl) : List FO → St → Option St
  | [], st => some st
  | o :: l, st =>
    match o.g with
    | none => (stepOp gl cl st o.d o.m).bind fun r => evFlat0 gl cl l (st.upd o.d r.1 r.2)
    | some (c, want) =>
      match st.fr.get c with
      | .bool t => if t = want then (stepOp gl cl st o.d o.m).bind fun r => evFlat0 gl cl l (st.upd o.d r.1 r.2) else evFlat0 gl cl l (st.upd o.d (.tup []) [])
      | .tup [] => evFlat0 gl cl l (st.upd o.d (.tup []) [])
      | _ => none
def flat0K (gl : Gl) (cl : Cl) (d : Option Nat) (l : List FO) (st : St) : Option (AV × Hp) → Option St
  | some (v, us) => evFlat0 gl cl l (st.upd d v us)
  | none => none
section
variable {gl : Gl} {cl : Cl} {st : St}
theorem evFlat0_eq : ∀ {l : List FO} {st : St}, (evFlat gl cl l st).map (·.1) = evFlat0 gl cl l st
  | [], st => rfl
  | o :: l, st => by
    have ih := fun st => evFlat0_eq (l := l) (st := st)
    obtain ⟨d, m, g⟩ := o
    cases g with
    | none => simp only [evFlat, evFlat0]; cases stepOp gl cl st d m <;> simp [← ih, Function.comp_def]
    | some p =>
      obtain ⟨c, want⟩ := p
      simp only [evFlat, evFlat0]
      cases st.fr.get c with
      | bool t => by_cases h : t = want <;> simp only [h, if_true, if_false] <;> first | (cases stepOp gl cl st d m <;> simp [← ih, Function.comp_def]; done) | simp [← ih, Function.comp_def]
      | tup l => cases l <;> simp [← ih, Function.comp_def]
      | _ => rfl
theorem evC_draw0 {l : List FO} : evC gl cl (.draw l []) st = normK (evFlat0 gl cl l st) := by
  rw [evC, ← evFlat0_eq]; rcases evFlat gl cl l st with _ | ⟨_, _⟩ <;> rfl
theorem evFlat0_nil : evFlat0 gl cl [] st = some st := rfl
theorem evFlat0_op {d : Option Nat} {m : MOp} {l : List FO} : evFlat0 gl cl (⟨d, m, none⟩ :: l) st = flat0K gl cl d l st (stepOp gl cl st d m) := by
  rw [evFlat0]; rcases stepOp gl cl st d m with _ | ⟨_, _⟩ <;> rfl
theorem flat0K_some {d : Option Nat} {l : List FO} {v : AV} {us : Hp} : flat0K gl cl d l st (some (v, us)) = evFlat0 gl cl l (st.upd d v us) := by rw [flat0K]
end

theorem evFn_eq {gl : Gl} {cl : Cl} {fd : Fd} {args : List AV} (hg : isGen fd.pk = false) : evFn gl cl fd args [] = fnK fd (evC gl cl fd.body { fr := frOf 0 args, hp := [] }) := by
  rw [evFn, hg]; simp only [Bool.false_eq_true, if_false]; rcases evC gl cl fd.body _ with _ | ⟨_ | _ | _, _⟩ <;> rfl
theorem call_eq {gl : Gl} {tab : Nat → Option Fd} {n f : Nat} {args : List AV} {fd : Fd} (h : tab f = some fd) (hg : isGen fd.pk = false) (hv : fd.giv = none := by rfl) : call gl tab (n + 1) f args [] = fnK fd (evC gl (call gl tab n) fd.body { fr := frOf 0 args, hp := [] }) := by
  rw [call, h]; simp only [Option.bind_some, hv]; exact evFn_eq hg
theorem call_giv {gl : Gl} {tab : Nat → Option Fd} {n f : Nat} {args : List AV} {imps : Hp} {fd : Fd} {g} (h : tab f = some fd) (hv : fd.giv = some g := by rfl) : call gl tab (n + 1) f args imps = g (call gl tab n) args imps := by
  rw [call, h]; simp only [Option.bind_some, hv]

theorem iter_step {f : St → Option (Ex × St)} {ks : List Kp} {n : Nat} {st st1 st2 : St} (h : clean ks st = some st1) (hf : f st1 = some (.norm, st2)) : iter f ks (n + 1) st = iter f ks n st2 := by
  rw [iter, h]; simp [hf]
theorem iter_end {f : St → Option (Ex × St)} {ks : List Kp} {n : Nat} {st st1 st2 : St} {e : Ex} (h : clean ks st = some st1) (hf : f st1 = some (e, st2)) (he : e ≠ .norm) : iter f ks (n + 1) st = some (e, st2) := by
  rw [iter, h]; cases e <;> simp_all
/-- A loop of N rounds. -/
theorem iter_for {f : St → Option (Ex × St)} {ks : List Kp} (S : Nat → St) (N : Nat) {st out : St} {e : Ex} (hN : N < LF)
    (h0 : clean ks st = some (S 0)) (hs : ∀ i, i < N → ∃ st2, f (S i) = some (.norm, st2) ∧ clean ks st2 = some (S (i + 1))) (he : f (S N) = some (e, out)) (hne : e ≠ .norm) :
    iter f ks LF st = some (e, out) := by
  have key : ∀ (d i n : Nat) (st : St), i + d = N → d < n → clean ks st = some (S i) → iter f ks n st = some (e, out) := by
    intro d
    induction d with
    | zero =>
      intro i n st hi hn hc
      obtain ⟨n, rfl⟩ : ∃ m, n = m + 1 := ⟨n - 1, by omega⟩
      have : i = N := by omega
      subst this
      exact iter_end hc he hne
    | succ d ih =>
      intro i n st hi hn hc
      obtain ⟨n, rfl⟩ : ∃ m, n = m + 1 := ⟨n - 1, by omega⟩
      obtain ⟨st2, h1, h2⟩ := hs i (by omega)
      rw [iter_step hc h1]
      exact ih (i + 1) n st2 (by omega) (by omega) h2
  exact key N 0 LF st (by omega) hN h0
end Go.Ev
namespace Go.Ev
open Go
/-! ### Results -/
def finK (res : List ResD) (pk : List Pk) : Option (Ex × St) → Option (AV × Hp × List OB)
  | some (.norm, st) | some (.ret, st) => (packs st res pk).map fun z => (match z.1 with | [a] => a | l => .tup l, [], z.2)
  | _ => none
theorem call_go {gl : Gl} {tab : Nat → Option Fd} {n f : Nat} {args : List AV} {fd : Fd} (h : tab f = some fd) (hg : isGen fd.pk = false := by rfl) (hv : fd.giv = none := by rfl) : call gl tab (n + 1) f args [] = finK fd.res fd.pk (evC gl (call gl tab n) fd.body { fr := frOf 0 args, hp := [] }) := by
  rw [call_eq h hg hv]; rcases evC gl (call gl tab n) fd.body _ with _ | ⟨_ | _ | _, _⟩ <;> rfl

def resK : Option (List AV × List OB) → Option (AV × Hp × List OB)
  | some ([a], es) => some (a, [], es)
  | some (l, es) => some (.tup l, [], es)
  | none => none
theorem finK_norm {res : List ResD} {pk : List Pk} {st : St} : finK res pk (some (.norm, st)) = resK (packs st res pk) := by
  simp only [finK]; rcases packs st res pk with _ | ⟨_ | ⟨a, _ | ⟨b, l⟩⟩, es⟩ <;> rfl
theorem finK_ret {res : List ResD} {pk : List Pk} {st : St} : finK res pk (some (.ret, st)) = resK (packs st res pk) := by
  simp only [finK]; rcases packs st res pk with _ | ⟨_ | ⟨a, _ | ⟨b, l⟩⟩, es⟩ <;> rfl
theorem resK_one {a : AV} {es : List OB} : resK (some ([a], es)) = some (a, [], es) := rfl
theorem resK_nil {es : List OB} : resK (some ([], es)) = some (.tup [], [], es) := rfl
theorem resK_two {a b : AV} {l : List AV} {es : List OB} : resK (some (a :: b :: l, es)) = some (.tup (a :: b :: l), [], es) := rfl
def consK (a : AV) : Option (List AV) → Option (List AV)
  | some l => some (a :: l)
  | none => none
def readK (st : St) (rs : List ResD) : Option AV → Option (List AV)
  | some a => consK a (readAll st rs)
  | none => none
theorem readAll_nil {st : St} : readAll st [] = some [] := rfl
theorem readAll_cons {st : St} {r : ResD} {rs : List ResD} : readAll st (r :: rs) = readK st rs (readRes st r) := by
  rw [readAll]; rcases readRes st r with _ | a
  · rfl
  · simp only [Option.bind_some, readK]; rcases readAll st rs with _ | l <;> rfl
theorem readK_some {st : St} {rs : List ResD} {a : AV} : readK st rs (some a) = consK a (readAll st rs) := rfl
theorem consK_some {a : AV} {l : List AV} : consK a (some l) = some (a :: l) := rfl
def fstK : Option (AV × Hp) → Option AV
  | some q => some q.1
  | none => none
theorem fstK_some {a : AV} {us : Hp} : fstK (some (a, us)) = some a := rfl
theorem readRes_tmp {st : St} {t : Nat} : readRes st (.tmp t) = some (st.fr.get t) := rfl
theorem readRes_cell {st : St} {t n : Nat} {ag : Bool} : readRes st (.cell t ag n) = fstK (stepOp (fun _ => none) (fun _ _ _ => none) st none (.load ag n (.t t))) := by
  rw [readRes]; rcases stepOp _ _ st none _ with _ | ⟨a, b⟩ <;> rfl
def packsK (st : St) (pks : List Pk) : Option (List AV) → Option (List AV × List OB)
  | some rs => if nodup (ownSrcs rs pks) then packRs st.hp (deads (ownSrcs rs pks) ++ st.hp) 0 rs pks else none
  | none => none
theorem packs_eq {st : St} {res : List ResD} {pks : List Pk} : packs st res pks = packsK st pks (readAll st res) := by
  rw [packs]; rcases readAll st res with _ | rs <;> rfl
theorem packsK_some {st : St} {pks : List Pk} {rs : List AV} : packsK st pks (some rs) = if nodup (ownSrcs rs pks) then packRs st.hp (deads (ownSrcs rs pks) ++ st.hp) 0 rs pks else none := rfl
def prK (hp hp' : Hp) (j : Nat) (rs : List AV) (pks : List Pk) : Option (AV × List OB) → Option (List AV × List OB)
  | some (a, es) => (packRs hp hp' (j + es.length) rs pks).map fun z => (a :: z.1, es ++ z.2)
  | none => none
theorem packRs_nil {hp hp' : Hp} {j : Nat} {pks : List Pk} : packRs hp hp' j [] pks = some ([], []) := by cases pks <;> rfl
theorem packRs_cons {hp hp' : Hp} {j : Nat} {r : AV} {rs : List AV} {pks : List Pk} : packRs hp hp' j (r :: rs) pks = prK hp hp' j rs pks.tail (pack1 hp hp' j r (pks.headD .asis)) := by
  rw [packRs]; rcases pack1 hp hp' j r (pks.headD .asis) with _ | ⟨a, es⟩ <;> rfl
theorem prK_some {hp hp' : Hp} {j : Nat} {rs : List AV} {pks : List Pk} {a : AV} {es : List OB} : prK hp hp' j rs pks (some (a, es)) = (packRs hp hp' (j + es.length) rs pks).map fun z => (a :: z.1, es ++ z.2) := rfl
def asisK : Option AV → Option (AV × List OB)
  | some a => if a.known then some (a, []) else none
  | none => none
theorem pack1_asis {hp hp' : Hp} {j : Nat} {r : AV} : pack1 hp hp' j r .asis = asisK (lendAV hp' 4 r) := by
  rw [pack1]; rcases lendAV hp' 4 r with _ | a <;> rfl
theorem asisK_some {a : AV} : asisK (some a) = if a.known then some (a, []) else none := rfl
end Go.Ev

namespace Go.Ev
open Go
theorem evC_loop {gl : Gl} {cl : Cl} {ks : List Kp} {b : MC} {st : St} : evC gl cl (.loop ks b) st = iter (evC gl cl b) ks LF st := rfl
end Go.Ev
namespace Go.Ev
open Go
def contK (ks : List Kp) : Option (Ex × St) → Option St
  | some (.norm, st) => clean ks st
  | _ => none
theorem contK_norm {ks : List Kp} {st : St} : contK ks (some (.norm, st)) = clean ks st := rfl
def isEx : Option (Ex × St) → Bool
  | some (.exit _, _) => true
  | some (.ret, _) => true
  | _ => false
theorem isEx_exit {i : Nat} {st : St} : isEx (some (.exit i, st)) = true := rfl
theorem isEx_ret {st : St} : isEx (some (.ret, st)) = true := rfl
/-- A loop that ends in round N. -/
theorem iter_to {f : St → Option (Ex × St)} {ks : List Kp} (S : Nat → St) (N : Nat) {st : St} (hN : N < LF) (h0 : clean ks st = some (S 0)) (hs : ∀ i, i < N → contK ks (f (S i)) = some (S (i + 1))) (he : isEx (f (S N)) = true) :
    iter f ks LF st = f (S N) := by
  cases h : f (S N) with
  | none => rw [h] at he; cases he
  | some r =>
    obtain ⟨e, out⟩ := r
    refine iter_for S N hN h0 (fun i hi => ?_) h (by rw [h] at he; cases e <;> simp_all [isEx])
    have := hs i hi
    unfold contK at this
    split at this
    · rename_i st2 h2; exact ⟨st2, h2, this⟩
    · cases this
end Go.Ev
namespace Go.Ev
open Go
def condK (gl : Gl) (cl : Cl) (a b : MC) (st : St) : AV → Option (Ex × St)
  | .bool true => evC gl cl a st
  | .bool false => evC gl cl b st
  | _ => none
theorem evC_condK {gl : Gl} {cl : Cl} {c : Opd} {a b : MC} {st : St} : evC gl cl (.cond c a b) st = condK gl cl a b st (c.val gl st.fr) := by
  rw [evC]; cases c.val gl st.fr <;> first | rfl | (rename_i t; cases t <;> rfl)
theorem condK_true {gl : Gl} {cl : Cl} {a b : MC} {st : St} : condK gl cl a b st (.bool true) = evC gl cl a st := rfl
theorem condK_false {gl : Gl} {cl : Cl} {a b : MC} {st : St} : condK gl cl a b st (.bool false) = evC gl cl b st := rfl

/-! ### What is done when a condition holds -/
def plainK (x : AV) : Option AV := if x.plain then some x else none
def iteC (gl : Gl) (a : Opd) : Option St → Option AV
  | some st1 => plainK (a.val gl st1.fr)
  | none => none
def iteS (gl : Gl) (cl : Cl) (w t : Bool) (blk : Its) (a b : Opd) (st : St) : Option AV :=
  if t = w then iteC gl (if w then a else b) (evIts gl cl blk st) else some ((if w then b else a).val gl st.fr)
def iteD (gl : Gl) (cl : Cl) (w : Bool) (blk : Its) (lo hi d : Nat) (a b : Opd) (rest : Its) (st : St) : AV → Option St
  | .bool t => iteK gl cl lo hi d rest st (iteS gl cl w t blk a b st)
  | _ => none
def guardK (gl : Gl) (cl : Cl) (d : Option Nat) (m : MOp) (w : Bool) (l : List FO) (st : St) : AV → Option St
  | .bool t => if t = w then flat0K gl cl d l st (stepOp gl cl st d m) else evFlat0 gl cl l (st.upd d (.tup []) [])
  | .tup [] => evFlat0 gl cl l (st.upd d (.tup []) [])
  | _ => none
section
variable {gl : Gl} {cl : Cl} {st : St}
theorem evIts_ite {c : Nat} {w : Bool} {blk : Its} {lo hi d : Nat} {a b : Opd} {rest : Its} :
    evIts gl cl (.ite c w blk lo hi d a b rest) st = iteD gl cl w blk lo hi d a b rest st (st.fr.get c) := by
  rw [evIts]
  cases st.fr.get c with
  | bool t =>
    simp only [iteD, iteS]
    split
    · cases w <;> (simp only [if_true, if_false, Bool.false_eq_true]; cases evIts gl cl blk st with
        | none => rfl
        | some st1 => simp only [Option.bind_some, iteC, plainK]; split <;> rfl)
    · rfl
  | _ => rfl
theorem iteD_bool {t w : Bool} {blk : Its} {lo hi d : Nat} {a b : Opd} {rest : Its} : iteD gl cl w blk lo hi d a b rest st (.bool t) = iteK gl cl lo hi d rest st (iteS gl cl w t blk a b st) := rfl
theorem iteS_tt {blk : Its} {a b : Opd} : iteS gl cl true true blk a b st = iteC gl a (evIts gl cl blk st) := rfl
theorem iteS_ff {blk : Its} {a b : Opd} : iteS gl cl false false blk a b st = iteC gl b (evIts gl cl blk st) := rfl
theorem iteS_tf {blk : Its} {a b : Opd} : iteS gl cl true false blk a b st = some (b.val gl st.fr) := rfl
theorem iteS_ft {blk : Its} {a b : Opd} : iteS gl cl false true blk a b st = some (a.val gl st.fr) := rfl
theorem iteC_some {a : Opd} {st1 : St} : iteC gl a (some st1) = plainK (a.val gl st1.fr) := rfl
theorem plainK_bool {b : Bool} : plainK (.bool b) = some (.bool b) := rfl
theorem plainK_int {k : IntKind} {n : Int} : plainK (.int k n) = some (.int k n) := rfl
theorem iteK_some {lo hi d : Nat} {rest : Its} {x : AV} : iteK gl cl lo hi d rest st (some x) = evIts gl cl rest { fr := .set d x :: .clr lo hi :: st.fr, hp := st.hp } := rfl
theorem evFlat0_guard {d : Option Nat} {m : MOp} {c : Nat} {w : Bool} {l : List FO} : evFlat0 gl cl (⟨d, m, some (c, w)⟩ :: l) st = guardK gl cl d m w l st (st.fr.get c) := by
  rw [evFlat0]
  simp only
  generalize st.fr.get c = v
  cases v with
  | bool t =>
    simp only [guardK]
    by_cases h : t = w
    · simp only [h, if_true]; rcases stepOp gl cl st d m with _ | ⟨_, _⟩ <;> rfl
    · simp only [h, if_false]
  | tup l => cases l <;> rfl
  | _ => rfl
theorem guardK_tt {d : Option Nat} {m : MOp} {l : List FO} : guardK gl cl d m true l st (.bool true) = flat0K gl cl d l st (stepOp gl cl st d m) := rfl
theorem guardK_ff {d : Option Nat} {m : MOp} {l : List FO} : guardK gl cl d m false l st (.bool false) = flat0K gl cl d l st (stepOp gl cl st d m) := rfl
theorem guardK_tf {d : Option Nat} {m : MOp} {l : List FO} : guardK gl cl d m true l st (.bool false) = evFlat0 gl cl l (st.upd d (.tup []) []) := rfl
theorem guardK_ft {d : Option Nat} {m : MOp} {l : List FO} : guardK gl cl d m false l st (.bool true) = evFlat0 gl cl l (st.upd d (.tup []) []) := rfl
end
end Go.Ev

namespace Go.Ev
open Go
/-! ### Functions whose results name objects -/
def mapG : Option (List AV × Hp × List OB) → Option (AV × Hp × List OB)
  | some (l, hp, es) => some (oneOr l, hp, es)
  | none => none
def genK (st : St) (hk : List Nat) : Option (List AV) → Option (AV × Hp × List OB)
  | some rs => mapG (packG st hk rs (exports st hk rs))
  | none => none
def finG (res : List ResD) (hk : List Nat) : Option (Ex × St) → Option (AV × Hp × List OB)
  | some (.norm, st) | some (.ret, st) => genK st hk (readAll st res)
  | _ => none
theorem call_gen {gl : Gl} {tab : Nat → Option Fd} {n f : Nat} {args : List AV} {imps : Hp} {fd : Fd} (h : tab f = some fd) (hg : isGen fd.pk = true := by rfl) (hm : mcLt fd.body = true := by rfl) (hv : fd.giv = none := by rfl) :
    call gl tab (n + 1) f args imps = finG fd.res (keysH imps) (evC gl (call gl tab n) fd.body { fr := frOf 0 args, hp := imps }) := by
  have key : ∀ st : St, ((readAll st fd.res).bind fun rs => (packG st (keysH imps) rs (exports st (keysH imps) rs)).map fun z => (oneOr z.1, z.2.1, z.2.2)) = genK st (keysH imps) (readAll st fd.res) := fun st => by
    rcases readAll st fd.res with _ | rs
    · rfl
    · simp only [Option.bind_some, genK]
      rcases packG st (keysH imps) rs (exports st (keysH imps) rs) with _ | ⟨_, _, _⟩ <;> rfl
  rw [call, h]
  simp only [Option.bind_some, hv, evFn, hg, hm, if_true, Bool.not_true, Bool.false_eq_true, if_false]
  rcases evC gl (call gl tab n) fd.body _ with _ | ⟨_ | _ | _, st⟩
  · rfl
  · exact key st
  · rfl
  · exact key st
theorem finG_norm {res : List ResD} {hk : List Nat} {st : St} : finG res hk (some (.norm, st)) = genK st hk (readAll st res) := rfl
theorem finG_ret {res : List ResD} {hk : List Nat} {st : St} : finG res hk (some (.ret, st)) = genK st hk (readAll st res) := rfl
theorem genK_some {st : St} {hk : List Nat} {rs : List AV} : genK st hk (some rs) = mapG (packG st hk rs (exports st hk rs)) := rfl
theorem mapG_some {l : List AV} {hp : Hp} {es : List OB} : mapG (some (l, hp, es)) = some (oneOr l, hp, es) := rfl
end Go.Ev
