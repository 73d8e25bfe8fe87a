/-
  The rules by which the evaluator's user evaluates. No condition.
-/
import Derived.Test.YtjbndhnfmhpjmaaDoorEvA
import Derived.Attr
namespace Go.Ev
open Go
attribute [go_sem] evC_skip evC_seq evC_reg evC_draw0 evC_ret evC_exit evC_block evC_kept stepOp Opd.val Fr.get St.upd Fr.upd Hp.get hasSh hasShs AV.scalar AV.scalars AV.isAgg AV.kids Sh.sub Sh.agg AV.nav Sh.sizes Sh.size binAV binBl parts AV.mk AV.plains AV.plain AV.setNav
attribute [go_sem] pack1_asis asisK_some lendAV AV.known itsK_some flat0K_some evIts_op evIts_nil evFlat0_op evFlat0_nil normK_some seqK_norm seqK_ret seqK_exit blockK_norm blockK_ret blockK_exit finK_norm finK_ret resK_one resK_nil resK_two readAll_nil readAll_cons readK_some consK_some fstK_some readRes_tmp readRes_cell packs_eq packsK_some packRs_nil packRs_cons prK_some frOf vals
attribute [go_sem] ownSrcs deads nodup bnds content sub Sh.beq Sh.beqs
attribute [go_sem] Option.map_some Option.map_none Option.bind_some List.map List.cons_append List.nil_append List.headD List.tail List.take ite_true ite_false if_true if_false List.getElem?_cons_zero List.getElem?_cons_succ List.set_cons_zero List.set_cons_succ List.length_cons List.length_nil and_self and_true true_and Option.isNone_none Option.isNone_some Bool.and_true Bool.true_and Bool.and_self decide_true List.replicate List.drop List.isEmpty_nil List.isEmpty_cons
attribute [go_sem] Int.ofNat_lt Int.ofNat_le Int.natCast_nonneg shr_u8 shl_u8 and_u8 or_u8 xor_u8 add_u8 sub_u8 mul_u8 wrap_u8 not_u8 shr_u16 shl_u16 and_u16 or_u16 xor_u16 add_u16 sub_u16 mul_u16 wrap_u16 not_u16 shr_u32 shl_u32 and_u32 or_u32 xor_u32 add_u32 sub_u32 mul_u32 wrap_u32 not_u32 shr_u64 shl_u64 and_u64 or_u64 xor_u64 add_u64 sub_u64 mul_u64 wrap_u64 not_u64 ofInt_toNatW BitVec.ofInt_natCast BitVec.ofNat_toNat BitVec.setWidth_eq
attribute [go_sem] doCall noImm noImms noImmOB layNew rn rns clean Kp.keys Kp.owns Kp.ownSrc Kp.slotRefs keeps keep1 AV.refs AV.refss List.append_nil List.contains_nil List.contains_cons List.all_nil List.all_cons Bool.not_false Bool.not_true Bool.or_true Bool.true_or Bool.or_false Bool.false_or
attribute [go_sem] cast_lt_lit cast_le_lit lit_lt_cast lit_le_cast ge_iff_le gt_iff_lt Nat.lt_irrefl Nat.le_refl Nat.zero_le Int.cast_ofNat_Int Int.natCast_zero Int.natCast_one decide_false decide_true beq1_64 bytesAV_length bytesOf_bytesAV sw8 sw16 sw32 sw64 wrap_i64_bv
attribute [go_sem] evC_condK condK_true condK_false contK_norm isEx_exit isEx_ret evC_loop
attribute [go_sem] Nat.zero_add Nat.add_zero Int.toNat_natCast mapO
attribute [go_sem] evIts_ite iteD_bool iteS_tt iteS_ff iteS_tf iteS_ft iteC_some plainK_bool plainK_int iteK_some evFlat0_guard guardK_tt guardK_ff guardK_tf guardK_ft beq_self_eq_true
attribute [go_sem] bytesAV_take List.take_length
attribute [go_sem] List.length_append eq_self
attribute [go_sem] bs_eql bs_neq bs_add bi_eql bi_neq bi_lss bi_leq bi_gtr bi_geq bi_add64 bi_sub64 bi_mul64
end Go.Ev
