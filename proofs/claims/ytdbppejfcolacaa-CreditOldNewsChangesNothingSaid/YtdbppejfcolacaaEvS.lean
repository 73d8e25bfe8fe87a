/-
  The rules by which the evaluator's user evaluates. No condition.
-/
import Derived.Test.YtdbppejfcolacaaEvA
import Derived.Attr
namespace Go.Ev
open Go
theorem pack1_own {hp hp' : Hp} {j k n : Nat} {sh : Sh} : pack1 hp hp' j (.sl k [] 0 n) (.own sh) = (match hp.get k with
    | some (.grow sh' els) => if Sh.beq sh sh' && decide (n = els.length) then some (.sl (20000 + j) [] 0 n, [.grow sh els]) else none
    | _ => none) := rfl
theorem scalar_int {k : IntKind} {n : Int} : (AV.int k n).scalar = true := rfl
theorem scalar_bool {b : Bool} : (AV.bool b).scalar = true := rfl
theorem scalar_str {b : List UInt8} : (AV.str b).scalar = true := rfl
theorem scalar_lst {b : Bool} {sh : Sh} {l : List AV} : (AV.lst b sh l).scalar = true := rfl
theorem scalar_sl {k : Nat} {p : List Nat} {a b : Nat} : (AV.sl k p a b).scalar = true := rfl
theorem scalar_ptr {k : Nat} {p : List Nat} : (AV.ptr k p).scalar = true := rfl
theorem scalar_agg {l : List AV} : (AV.agg l).scalar = false := rfl
section
variable {hp : Hp} {n : Nat}
theorem lendk_int {k : IntKind} {x : Int} : lendAV hp n (.int k x) = some (.int k x) := by cases n <;> rfl
theorem lendk_bool {b : Bool} : lendAV hp n (.bool b) = some (.bool b) := by cases n <;> rfl
theorem lendk_str {b : List UInt8} : lendAV hp n (.str b) = some (.str b) := by cases n <;> rfl
theorem lendk_s {v : Value} : lendAV hp n (.s v) = some (.s v) := by cases n <;> rfl
theorem lendk_agg {l : List AV} : lendAV hp n (.agg l) = some (.agg l) := by cases n <;> rfl
theorem lendk_lst {b : Bool} {sh : Sh} {l : List AV} : lendAV hp n (.lst b sh l) = some (.lst b sh l) := by cases n <;> rfl
theorem lendk_cp {sh : Sh} {a : AV} : lendAV hp n (.cp sh a) = some (.cp sh a) := by cases n <;> rfl
theorem lendk_sl {k : Nat} {p : List Nat} {off len : Nat} : lendAV hp (n + 1) (.sl k p off len) = (content hp (.sl k p off len)).map fun c => .lst false c.1 c.2 := rfl
def ptrK (hp : Hp) (n : Nat) : Option Sh → Option AV → Option AV
  | some s, some x => (lendAV hp n x).bind fun y => if y.plain then some (.cp s y) else none
  | _, _ => none
def ptrO (hp : Hp) (n : Nat) (p : List Nat) : Option OB → Option AV
  | some (.fix sh b) => ptrK hp n (sh.sub p) (b.nav p)
  | _ => none
theorem lendk_ptr {k : Nat} {p : List Nat} : lendAV hp (n + 1) (.ptr k p) = ptrO hp n p (hp.get k) := by
  show (match hp.get k with | some (.fix sh b) => _ | _ => none) = _
  rcases hp.get k with _ | _ | _ | _ <;> first | rfl | (simp only [ptrO]; rcases Sh.sub _ _ with _ | _ <;> rcases AV.nav _ _ with _ | _ <;> rfl)
def aggK : Option (List AV) → Option AV
  | some l => if AV.plains l then some (.agg l) else none
  | none => none
theorem lendk_aggR {l : List AV} : lendAV hp (n + 1) (.aggR l) = aggK (mapO (lendAV hp n) l) := by
  show ((mapO (lendAV hp n) l).bind fun l' => if AV.plains l' then some (AV.agg l') else none) = _
  rcases mapO (lendAV hp n) l with _ | _ <;> rfl
theorem lendk_fn {f : Nat} {l : List AV} : lendAV hp (n + 1) (.fn f l) = (mapO (lendAV hp n) l).map (.fn f) := rfl
def consO : Option AV → Option (List AV) → Option (List AV)
  | some a, some l => some (a :: l)
  | _, _ => none
theorem mapO_cons {f : AV → Option AV} {a : AV} {l : List AV} : mapO f (a :: l) = consO (f a) (mapO f l) := by
  rw [mapO]; rcases f a with _ | _
  · rfl
  · rcases mapO f l with _ | _ <;> rfl
theorem consO_some {a : AV} {l : List AV} : consO (some a) (some l) = some (a :: l) := rfl
theorem mapO_nil {f : AV → Option AV} : mapO f [] = some [] := rfl
def retK (args : List AV) (hp : Hp) (d : Nat) : Option (AV × Hp × List OB) → Option (AV × Hp)
  | some (r, [], []) => if AV.plains args || noImm r then some (r, []) else none
  | some (r, [], e :: es) => if AV.plains args || (noImm r && (e :: es).all noImmOB) then (layNew hp d 0 (e :: es)).map fun us => (rn d r, us) else none
  | _ => none
def callK (cl : Cl) (hp : Hp) (d f : Nat) (args : List AV) : Option (List AV) → Option (AV × Hp)
  | some as => retK args hp d (cl f as [])
  | none => none
theorem doCall_k {cl : Cl} {d f : Nat} {args : List AV} : doCall cl hp d f args .lend = callK cl hp d f args (mapO (lendAV hp 4) args) := by
  simp only [doCall]
  rcases mapO (lendAV hp 4) args with _ | as
  · rfl
  · simp only [Option.bind_some, callK]
    rcases cl f as [] with _ | ⟨r, _ | ⟨_, _⟩, _ | ⟨_, _⟩⟩ <;> rfl
theorem callK_some {cl : Cl} {d f : Nat} {args as : List AV} : callK cl hp d f args (some as) = retK args hp d (cl f as []) := rfl
theorem retK_nil {d : Nat} {args : List AV} {r : AV} : retK args hp d (some (r, [], [])) = if AV.plains args || noImm r then some (r, []) else none := rfl
theorem retK_new {d : Nat} {args : List AV} {r : AV} {e : OB} {es : List OB} : retK args hp d (some (r, [], e :: es)) = if AV.plains args || (noImm r && (e :: es).all noImmOB) then (layNew hp d 0 (e :: es)).map fun us => (rn d r, us) else none := rfl
end
attribute [go_sem] scalar_int scalar_bool scalar_str scalar_lst scalar_sl scalar_ptr scalar_agg pack1_own noImmOB
attribute [go_sem] evC_skip evC_seq evC_reg evC_draw0 evC_ret evC_exit evC_block evC_kept stepOp Opd.val Fr.get St.upd Fr.upd Hp.get hasSh hasShs AV.scalars AV.isAgg AV.kids Sh.sub Sh.agg AV.nav Sh.sizes Sh.size binAV binBl parts AV.mk AV.plains AV.plain AV.setNav
attribute [go_sem] pack1_asis asisK_some lendk_int lendk_bool lendk_str lendk_s lendk_agg lendk_lst lendk_cp lendk_sl lendk_ptr ptrO ptrK lendk_aggR aggK lendk_fn mapO_cons mapO_nil consO_some AV.known itsK_some flat0K_some evIts_op evIts_nil evFlat0_op evFlat0_nil normK_some seqK_norm seqK_ret seqK_exit blockK_norm blockK_ret blockK_exit finK_norm finK_ret resK_one resK_nil resK_two readAll_nil readAll_cons readK_some consK_some fstK_some readRes_tmp readRes_cell packs_eq packsK_some packRs_nil packRs_cons prK_some frOf vals
attribute [go_sem] ownSrcs deads nodup bnds content sub Sh.beq Sh.beqs
attribute [go_sem] Option.map_some Option.map_none Option.bind_some List.map List.cons_append List.nil_append List.headD List.tail List.take ite_true ite_false if_true if_false List.getElem?_cons_zero List.getElem?_cons_succ List.set_cons_zero List.set_cons_succ List.length_cons List.length_nil and_self and_true true_and Option.isNone_none Option.isNone_some Bool.and_true Bool.true_and Bool.and_self decide_true List.replicate List.drop List.isEmpty_nil List.isEmpty_cons
attribute [go_sem] Int.ofNat_lt Int.ofNat_le Int.natCast_nonneg shr_u8 shl_u8 and_u8 or_u8 xor_u8 add_u8 sub_u8 mul_u8 wrap_u8 not_u8 shr_u16 shl_u16 and_u16 or_u16 xor_u16 add_u16 sub_u16 mul_u16 wrap_u16 not_u16 shr_u32 shl_u32 and_u32 or_u32 xor_u32 add_u32 sub_u32 mul_u32 wrap_u32 not_u32 shr_u64 shl_u64 and_u64 or_u64 xor_u64 add_u64 sub_u64 mul_u64 wrap_u64 not_u64 ofInt_toNatW BitVec.ofInt_natCast BitVec.ofNat_toNat BitVec.setWidth_eq
attribute [go_sem] doCall_k callK_some retK_nil retK_new noImm noImms noImmOB layNew rn rns clean Kp.keys Kp.owns Kp.ownSrc Kp.slotRefs keeps keep1 AV.refs AV.refss List.append_nil List.contains_nil List.contains_cons List.all_nil List.all_cons Bool.not_false Bool.not_true Bool.or_true Bool.true_or Bool.or_false Bool.false_or
attribute [go_sem] cast_lt_lit cast_le_lit lit_lt_cast lit_le_cast ge_iff_le gt_iff_lt Nat.lt_irrefl Nat.le_refl Nat.zero_le Int.cast_ofNat_Int Int.natCast_zero Int.natCast_one decide_false decide_true beq1_64 bytesAV_length bytesOf_bytesAV sw8 sw16 sw32 sw64 wrap_i64_bv
attribute [go_sem] evC_condK condK_true condK_false contK_norm isEx_exit isEx_ret evC_loop
attribute [go_sem] Nat.zero_add Nat.add_zero Int.toNat_natCast
attribute [go_sem] evIts_ite iteD_bool iteS_tt iteS_ff iteS_tf iteS_ft iteC_some plainK_bool plainK_int iteK_some evFlat0_guard guardK_tt guardK_ff guardK_tf guardK_ft beq_self_eq_true
attribute [go_sem] bytesAV_take List.take_length
attribute [go_sem] List.length_append eq_self
attribute [go_sem] bs_eql bs_neq bs_add bi_eql bi_neq bi_lss bi_leq bi_gtr bi_geq bi_add64 bi_sub64 bi_mul64
/-! ### Objects that are handed in, or leave -/
theorem doCall_imp {cl : Cl} {hp : Hp} {d f : Nat} {args : List AV} : doCall cl hp d f args .imp = impCall cl hp d f args (reaches hp (AV.refss args)) := rfl
theorem impRet_some {hp hp' : Hp} {d : Nat} {ks : List Nat} {r : AV} {es : List OB} : impRet hp d ks (some (r, hp', es)) = if sameKeys hp' 0 ks.length then (layG hp ks d 0 es).map fun us => (rA (dn ks d) r, backHp ks d hp' ++ us) else none := rfl
attribute [go_sem] doCall_imp impRet_some impCall reaches reach closedB oRefs obRefs getO idx up dn rA rAs rOB upHp backHp sameKeys layG SHK clean0 ksA bigs finG_norm finG_ret genK_some mapG_some packG exports refsH keysH handBack nm oneOr AV.knowns Option.getD_some List.getD_cons_zero List.getD_cons_succ Option.isSome_some Option.isSome_none
end Go.Ev
