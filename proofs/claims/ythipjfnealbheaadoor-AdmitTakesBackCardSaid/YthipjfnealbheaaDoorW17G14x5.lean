/-
  Chapter 8: the examples. No condition.
-/
import Derived.Test.YthipjfnealbheaaDoorW17G13x5
import Derived.Test.YthipjfnealbheaaDoorW17G12x5
import Derived.Test.YthipjfnealbheaaDoorEvD
set_option linter.all false
open Nat renaming exists_eq_add_of_le'->wB
open Bool renaming and_eq_true->wC,or_eq_true->wD
namespace Go.Proofs.S17.K
open Go Go.Ev Go.Proofs
section
variable {gl :Gl} {n:Nat}
end
theorem nat_rep {k i:Nat}(h:i<k)(c:Int):nat (List.replicate k c) i=c:=by simp[nat,h]
theorem lea_zero {w:Nat}{key:List UInt8}(hw:1<=w):lea (List.replicate (4*w) 0) (pl key w) 4=0:=by
 simp only[lea,nat_rep (zyy (key:=key) hw (show 0<4 by decide)),nat_rep (zyy (key:=key) hw (show 1<4 by decide)),nat_rep (zyy (key:=key) hw (show 2<4 by decide)),nat_rep (zyy (key:=key) hw (show 3<4 by decide))]
 decide
end Go.Proofs.S17.K
namespace Go.Proofs.S17.K
open Go Go.Ev Go.Proofs
variable {gl :Gl} {n:Nat}
abbrev cpS (w s a:Int)(f:Bool)(l:List Int):AV:=.cp (.st [.sc,.sc,.sc,.sc]) (.agg [i64 w,i64 s,i64 a,.lst f .sc (ns l)])
theorem qfs (h:1<=n){w s a:Int}{f:Bool}{l:List Int}{x:Int}(hx:0<=x/\x<=15/\x<=a):call gl tab n 48 [i64 x,cpS w s a f l] []=some (.bool false,[],[]):=by
 obtain⟨d,rfl⟩:=wB h
 rw[zah (fd:=fd48) rfl]
 simp(disch:=apply zq;omega) only[go_sem,simprocAttr,↓Nat.reduceEqDiff,xx,fd48,m48]
theorem qbr (h:1<=n){w s a:Int}{f:Bool}{l:List Int}{x:Int}(hx:¬(0<=x/\x<=15/\x<=a)):call gl tab n 48 [i64 x,cpS w s a f l] []=some (.bool true,[],[]):=by
 obtain⟨d,rfl⟩:=wB h
 rw[zah (fd:=fd48) rfl]
 by_cases g1:0<=x
 case neg=>simp(disch:=apply zq;omega) only[go_sem,simprocAttr,↓Nat.reduceEqDiff,xx,fd48,m48]
 by_cases g2:x<=15
 case neg=>simp(disch:=apply zq;omega) only[go_sem,simprocAttr,↓Nat.reduceEqDiff,xx,fd48,m48]
 simp(disch:=apply zq;omega) only[go_sem,simprocAttr,↓Nat.reduceEqDiff,xx,fd48,m48]
def L45 :MC:=match m61 with| .seq _ (.seq (.seq _ (.block _ (.loop _ b))) _)=>b|_=>.skip
def S45 (w s a:Int)(f:Bool)(l:List Int)(i:Nat):St:=⟨[.set 8 (i64 i),.set 7 (i64 l.length),.set 1 (.fn 48 [cpS w s a f l]),.set 0 (.lst f .sc (ns l))],[]⟩
theorem z4w (h:2<=n){w s a:Int}{f:Bool}{l:List Int}(hl:l.length<2^20) :
  ∃b:Bool,(b=true↔∀i,i<l.length->CO a l i)/\∃k:Int,(b=true->k=-1)/\(b=false->0<=k/\k<=1048576)/\call gl tab n 61 [.lst f .sc (ns l),.fn 48 [cpS w s a f l]] []=some (i64 k,[],[]):=by
 obtain⟨d,rfl⟩:=wB h
 have hs:∀i,i<l.length->CO a l i->zbp [.slot 0,.slot 1,.slot 7,.slot 8] (evC gl (call gl tab (d+1)) L45 (S45 w s a f l i))=some (S45 w s a f l (i+1)):=fun i hi hp=>by
  have hx:=ns_at hi
  have c:=@qfs gl (d+1) (by omega) w s a f l (nat l i) hp
  simp(disch:=apply zq;omega) only[go_sem,simprocAttr,↓Nat.reduceEqDiff,xx,L45,m61,S45,ns_length,hx,c]
 have hf:∀i,i<l.length->¬CO a l i->out1 4 (evC gl (call gl tab (d+1)) L45 (S45 w s a f l i))=some (.ret,i64 i):=fun i hi hp=>by
  have hx:=ns_at hi
  have c:=@qbr gl (d+1) (by omega) w s a f l (nat l i) hp
  simp(disch:=apply zq;omega) only[go_sem,simprocAttr,↓Nat.reduceEqDiff,xx,L45,m61,S45,ns_length,hx,c]
 rw[zah (fd:=fd61) rfl]
 rcases first_fail (CO a l) l.length with ha|⟨k,hk,hb',he⟩
 . refine⟨true,⟨fun _=>ha,fun _=>rfl⟩,-1,fun _=>rfl,(fun h=>by cases h),?_⟩
   have hs2:=fun i hi=>hs i hi (ha i hi)
   simp only[L45,m61]at hs2
   simp(disch:=apply zq;omega) only[go_sem,simprocAttr,↓Nat.reduceEqDiff,xx,fd61,m61,ns_length]
   rw[zao (S45 w s a f l) l.length (by unfold LF;omega)]
   . simp(disch:=apply zq;omega) only[go_sem,simprocAttr,↓Nat.reduceEqDiff,xx,S45,ns_length]
   . simp(disch:=apply zq;omega) only[go_sem,simprocAttr,↓Nat.reduceEqDiff,xx,S45,ns_length]
   . exact hs2
   . simp(disch:=apply zq;omega) only[go_sem,simprocAttr,↓Nat.reduceEqDiff,xx,S45,ns_length]
 . obtain⟨st,hst,hg⟩:=zcv (hf k hk he)
   have hs2:=fun i (hi:i<k)=>hs i (by omega) (hb' i hi)
   simp only[L45,m61]at hs2 hst
   refine⟨false,⟨(fun h=>by cases h),fun h=>absurd (h k hk) he⟩,k,(fun h=>by cases h),fun _=>by omega,?_⟩
   simp(disch:=apply zq;omega) only[go_sem,simprocAttr,↓Nat.reduceEqDiff,xx,fd61,m61,ns_length]
   rw[zao (S45 w s a f l) k (by unfold LF;omega),hst]
   . simp(disch:=apply zq;omega) only[go_sem,simprocAttr,↓Nat.reduceEqDiff,xx,hg]
   . simp(disch:=apply zq;omega) only[go_sem,simprocAttr,↓Nat.reduceEqDiff,xx,S45,ns_length]
   . exact hs2
   . rw[hst];rfl
theorem qba (h:3<=n){w s a:Int}{f:Bool}{l:List Int}(hl:l.length<2^20) :
  ∃b:Bool,(b=true↔∀i,i<l.length->CO a l i)/\call gl tab n 47 [.lst f .sc (ns l),.fn 48 [cpS w s a f l]] []=some (.bool (!b),[],[]):=by
 obtain⟨d,rfl⟩:=wB h
 obtain⟨b,hb,k,h1,h2,c⟩:=@z4w gl (d+2) (by omega) w s a f l hl
 refine⟨b,hb,?_⟩
 rw[zah (fd:=fd47) rfl]
 cases b with
 | true =>
   have:=h1 rfl
   simp(disch:=apply zq;omega) only[go_sem,simprocAttr,↓Nat.reduceEqDiff,xx,fd47,m47,c]
 | false =>
   have:=h2 rfl
   simp(disch:=apply zq;omega) only[go_sem,simprocAttr,↓Nat.reduceEqDiff,xx,fd47,m47,c]
set_option maxHeartbeats 4000000 in
theorem valid_at (h:6<=n){f:Bool}{w s a:Int}{l:List Int}(hl:l.length<2^20)(hw:w<=9223372036854775807) :
  ∃b:Bool,(b=true↔VS w s a l)/\call gl tab n 23 [.agg [i64 w,i64 s,i64 a,.lst f .sc (ns l)]] []=some (.bool b,[],[]):=by
 obtain⟨d,rfl⟩:=wB h
 obtain⟨bp,hbp,c30⟩:=@z31 gl (d+5) (by omega) w hw
 rw[zah (fd:=fd23) rfl]
 cases bp with
 | false =>
   refine⟨false,⟨(fun h=>by cases h),fun h=>by have:=hbp.2 h.vp;cases this⟩,?_⟩
   simp(disch:=apply zq;omega) only[go_sem,simprocAttr,↓Nat.reduceEqDiff,xx,fd23,m23,c30]
 | true =>
 have hP:=hbp.1 rfl
 have hw1:=isP_pos hP
 by_cases h1:w<=4096
 case neg =>
  refine⟨false,⟨(fun h=>by cases h),fun h=>absurd h.vw h1⟩,?_⟩
  simp(disch:=apply zq;omega) only[go_sem,simprocAttr,↓Nat.reduceEqDiff,xx,fd23,m23,c30]
 by_cases h2:1<=s
 case neg =>
  refine⟨false,⟨(fun h=>by cases h),fun h=>absurd h.vs.1 h2⟩,?_⟩
  simp(disch:=apply zq;omega) only[go_sem,simprocAttr,↓Nat.reduceEqDiff,xx,fd23,m23,c30]
 by_cases h3:s<=1048576
 case neg =>
  refine⟨false,⟨(fun h=>by cases h),fun h=>absurd h.vs.2 h3⟩,?_⟩
  simp(disch:=apply zq;omega) only[go_sem,simprocAttr,↓Nat.reduceEqDiff,xx,fd23,m23,c30]
 by_cases h4:0<=a
 case neg =>
  refine⟨false,⟨(fun h=>by cases h),fun h=>absurd h.va.1 h4⟩,?_⟩
  simp(disch:=apply zq;omega) only[go_sem,simprocAttr,↓Nat.reduceEqDiff,xx,fd23,m23,c30]
 by_cases h5:a<s
 case neg =>
  refine⟨false,⟨(fun h=>by cases h),fun h=>absurd h.va.2 h5⟩,?_⟩
  simp(disch:=apply zq;omega) only[go_sem,simprocAttr,↓Nat.reduceEqDiff,xx,fd23,m23,c30]
 by_cases h6:(l.length:Int)=4*w
 case neg =>
  refine⟨false,⟨(fun h=>by cases h),fun h=>absurd h.vn h6⟩,?_⟩
  have h7:((l.length:Int) != 4*w)=true:=by rw[bne_iff_ne];exact h6
  simp(disch:=apply zq;omega) only[go_sem,simprocAttr,↓Nat.reduceEqDiff,xx,fd23,m23,c30,ns_length,h7]
 have h7:((l.length:Int) != 4*w)=false:=by rw[h6];simp
 obtain⟨b,hb,c39⟩:=@qba gl (d+5) (by omega) w s a f l hl
 refine⟨b,⟨fun h=>⟨hP,h1,⟨h2,h3⟩,⟨h4,h5⟩,h6,hb.1 h⟩,fun h=>hb.2 h.vc⟩,?_⟩
 simp(disch:=apply zq;omega) only[go_sem,simprocAttr,↓Nat.reduceEqDiff,xx,fd23,m23,c30,ns_length,h7,c39,Bool.not_not]
theorem rnew_ok (h:2<=n){w:Nat}{s:Int}(hw:1<=w/\w<=4096)(hs:1<=s/\s<=1048576)(c30:call gl tab (n-1) 44 [i64 w] []=some (.bool true,[],[])) :
  call gl tab n 19 [i64 w,i64 s] []=some (.agg [.agg [i64 w,i64 s,i64 0,.lst false .sc (ns (List.replicate (4*w) 0))],i64 0],[],[]):=by
 obtain⟨d,rfl⟩:=wB h
 rw[show d+2-1=d+1 from rfl]at c30
 have hr:=ns_rep (4*w)
 have hL:4*w<=LIM:=by unfold LIM;omega
 rw[zah (fd:=fd19) rfl]
 have hz:(ns (List.replicate (4*w) 0)).length=4*w:=by rw[ns_length,z80]
 have hft:List.take (4*w) (ns (List.replicate (4*w) 0))=ns (List.replicate (4*w) 0):=List.take_of_length_le (by omega)
 generalize ns (List.replicate (4*w) 0)=z at *
 simp(disch:=apply zq;omega) only[go_sem,simprocAttr,↓Nat.reduceEqDiff,xx,fd19,m19,c30,hr,hL,hz,hft]
end Go.Proofs.S17.K
namespace Go.Proofs.S17.K
open Go Go.Ev Go.Proofs
section
variable {gl :Gl} {n:Nat} [Nonempty (H.GlR gl)]
end
end Go.Proofs.S17.K
namespace Go.Bl
open Go
def lt (a b:List UInt8):Bool:=Op.bytesLess a b
theorem z6t (a:List UInt8):lt a []=false:=by cases a<;>rfl
theorem zog (a b:UInt8)(x y:List UInt8):lt (a::x) (b::y)=(decide (a<b)||(a==b&&lt x y)):=rfl
theorem irrefl :∀a,lt a a=false
 | []=>rfl
 | a::x=>by
   rw[zog,irrefl x,Bool.and_false,Bool.or_false,decide_eq_false_iff_not]
   exact UInt8.lt_irrefl a
theorem trans :∀{a b c:List UInt8},lt a b=true->lt b c=true->lt a c=true
 | _,[],_,h,_=>by rw[z6t]at h;cases h
 | _,_::_,[],_,h=>by rw[z6t]at h;cases h
 | [],_::_,_::_,_,_=>rfl
 | a::x,b::y,c::z,h,h'=>by
   rw[zog,wD,decide_eq_true_eq,wC,beq_iff_eq]at h h' ⊢
   rcases h with h|⟨rfl,h⟩
   . rcases h' with h'|⟨rfl,h'⟩
     . exact .inl (UInt8.lt_trans h h')
     . exact .inl h
   . rcases h' with h'|⟨rfl,h'⟩
     . exact .inl h'
     . exact .inr ⟨rfl,trans h h'⟩
theorem tri :∀a b:List UInt8,lt a b=true\/a=b\/lt b a=true
 | [],[]=>.inr (.inl rfl)
 | [],_::_=>.inl rfl
 | _::_,[]=>.inr (.inr rfl)
 | a::x,b::y=>by
   rw[zog,zog,wD,decide_eq_true_eq,wC,beq_iff_eq,wD,decide_eq_true_eq,wC,beq_iff_eq]
   have ht:a<b\/a=b\/b<a:=by
    rcases Nat.lt_trichotomy a.toNat b.toNat with h|h|h
    . exact .inl h
    . exact .inr (.inl (UInt8.toNat_inj.1 h))
    . exact .inr (.inr h)
   rcases ht with h|rfl|h
   . exact .inl (.inl h)
   . rcases tri x y with h|rfl|h
     . exact .inl (.inr ⟨rfl,h⟩)
     . exact .inr (.inl rfl)
     . exact .inr (.inr (.inr ⟨rfl,h⟩))
   . exact .inr (.inr (.inl h))
theorem asymm {a b:List UInt8}(h:lt a b=true):lt b a=false:=by
 cases h':lt b a
 . rfl
 . have:=trans h h';rw[irrefl]at this;cases this
theorem ne {a b:List UInt8}(h:lt a b=true):a≠b:=by
 rintro rfl;rw[irrefl]at h;cases h
def cmp (a b:List UInt8):Int:=if lt a b=true then -1 else if lt b a=true then 1 else 0
theorem cmp_lt {a b:List UInt8}:cmp a b<0↔lt a b=true:=by
 unfold cmp
 split
 . simp_all
 . split<;>simp_all
theorem cmp_eq {a b:List UInt8}:cmp a b=0↔a=b:=by
 unfold cmp
 constructor
 . intro h
   split at h
   . simp at h
   . split at h
     . simp at h
     . rename_i h1 h2
       rcases tri a b with h3|h3|h3
       . exact absurd h3 h1
       . exact h3
       . exact absurd h3 h2
 . rintro rfl
   simp[irrefl]
end Go.Bl
