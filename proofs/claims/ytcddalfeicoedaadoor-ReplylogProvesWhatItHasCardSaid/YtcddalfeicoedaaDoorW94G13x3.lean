/-
  Chapter 3: leaves, nodes. No condition.
-/
import Derived.Test.YtcddalfeicoedaaDoorW94G5x3
import Derived.Test.YtcddalfeicoedaaDoorEvY
import Derived.Test.YtcddalfeicoedaaDoorW94G12x3
set_option linter.all false
open List renaming map_cons->wA,map_nil->wB,length_take->wC,length_drop->wD
open Nat renaming exists_eq_add_of_le'->wE,pow_add->wF
open Int renaming zero_add->wG
namespace Go.Proofs.S94.M
open Go Go.Ev Go.Proofs Go.Mk
open Go.Proofs.S94.H (GlK GlR)
variable {gl :Gl} {n:Nat}
abbrev i64 (n:Int):AV:=.int .i64 n
abbrev sB :Sh:=.ar 16 .sc
abbrev Dg :=List UInt8
abbrev bAV (b:Dg):AV:=.agg (zab b)
theorem b16 {b:Dg}(h:b.length=16):(zab b).length=16:=by rw[zac];exact h
theorem b16t {b:Dg}(h:b.length=16):List.take 16 (zab b)=zab b:=List.take_of_length_le (by rw[b16 h];exact Nat.le_refl _)
theorem out16_eq :List.replicate 16 (AV.int .u8 0)=H.out16l:=rfl
def z16 :Dg:=List.replicate 16 0
theorem qa9 :H.out16l=zab z16:=rfl
def dgL (l:List Dg):List AV:=l.map fun x=>.agg (zab x)
def dgA (l:List Dg)(i:Nat):Dg:=l.getD i []
theorem dgL_length (l:List Dg):(dgL l).length=l.length:=by simp[dgL]
theorem dgL_at {l:List Dg}{i:Nat}(h:i<l.length):(dgL l)[i]? =some (.agg (zab (dgA l i))):=by simp[dgL,dgA,h]
theorem dgL_nil :dgL []=[]:=rfl
theorem zl8 (l:List Dg)(d:Dg):dgL (l++[d])=dgL l++[.agg (zab d)]:=by simp[dgL]
theorem zdt (l:List Dg)(k:Nat):List.take k (dgL l)=dgL (l.take k):=by simp[dgL,List.map_take]
theorem zef (l:List Dg)(k:Nat):List.drop k (dgL l)=dgL (l.drop k):=by simp[dgL,List.map_drop]
theorem zhx (l:List Dg):List.take l.length (dgL l)=dgL l:=by rw[<-dgL_length];exact List.take_length
theorem dgL_noImms :∀(l:List Dg),zep (dgL l)=true
 | []=>rfl
 | x::l=>by
   have:=dgL_noImms l
   rw[dgL,wA,zep,<-dgL,this,zc7,H.noImms_bytesAV];rfl
def All16 (l:List Dg):Prop:=∀x∈l,x.length=16
theorem All16.at {l:List Dg}(h:All16 l){i:Nat}(hi:i<l.length):(dgA l i).length=16:=by
 rw[dgA,List.getD_eq_getElem?_getD,List.getElem?_eq_getElem hi];exact h _ (List.getElem_mem hi)
theorem All16.take {l:List Dg}(h:All16 l)(k:Nat):All16 (l.take k):=fun x hx=>h x (List.mem_of_mem_take hx)
theorem All16.drop {l:List Dg}(h:All16 l)(k:Nat):All16 (l.drop k):=fun x hx=>h x (List.mem_of_mem_drop hx)
theorem All16.app {l m:List Dg}(h:All16 l)(h':All16 m):All16 (l++m):=fun x hx=>by
 rcases List.mem_append.1 hx with hx|hx
 . exact h x hx
 . exact h' x hx
theorem All16.one {d:Dg}(h:d.length=16):All16 [d]:=fun x hx=>by simp at hx;subst hx;exact h
theorem All16.nil :All16 []:=fun x hx=>by simp at hx
theorem eqB_all :∀(a b:List UInt8),a.length=b.length->zpo ((zab a).zip (zab b)) (fun p=>eqAV .it p.1 p.2)=some (decide (a=b))
 | [],[],_=>rfl
 | x::a,y::b,h=>by
   have ih:=eqB_all a b (by simpa using h)
   simp only[zab,wA,List.zip_cons_cons,zpo,eqAV,if_pos,Option.bind_some]
   simp only[zab]at ih
   rw[ih]
   by_cases e:x=y
   . subst e;simp
   . have:((x.toNat:Int)==(y.toNat:Int))=false:=by
      rw[beq_eq_false_iff_ne];intro h2
      exact e (UInt8.toNat_inj.1 (by omega))
     rw[this];simp[e]
 | [],_::_,h=>by simp at h
 | _::_,[],h=>by simp at h
theorem eqB {a b:Dg}(ha:a.length=16)(hb:b.length=16):eqAV (.ar 16 .it) (.agg (zab a)) (.agg (zab b))=some (decide (a=b)):=by
 have:=eqB_all a b (by omega)
 rw[eqAV,if_pos ⟨by rw[zac];exact ha,by rw[zac];exact hb⟩]
 exact this
def lf (s:List UInt8):Dg:=H.dig (H.inp 30 [s])
def nd (a b:Dg):Dg:=H.dig (H.inp 31 [a,b])
def em :Dg:=H.dig (H.inp 32 [])
theorem zcx (s:List UInt8):(lf s).length=16:=H.dig_len _
theorem zd9 (a b:Dg):(nd a b).length=16:=H.dig_len _
theorem zri :em.length=16:=H.dig_len _
section
variable [Nonempty (GlK gl)]
theorem leaf_at (h:7<=n)(s:List UInt8)(hs:s.length<=1048576):call gl tab n 39 [.str s] []=some (bAV (lf s),[],[]):=by
 obtain⟨d,rfl⟩:=wE h
 have c:=@H.of_at gl _ (d+5) (by omega) 30 false [s] ⟨by simp,fun x hx=>by simp at hx;subst hx;exact hs⟩
 simp only[H.strsAV,wA,wB]at c
 rw[show H.dig (H.inp 30 [s])=lf s from rfl]at c
 have hl:=zcx s
 have hb:=H.bytes_all (lf s)
 generalize lf s=q at *
 rw[zae (fd:=fd39) rfl]
 simp(disch:=apply zq;omega) only[go_sem,simprocAttr,↓Nat.reduceEqDiff,xx,fd39,m39,↓out16_eq,H.out16_len,H.out16_all,H.out16_pl,c,hl,hb,H.noImms_bytesAV]
theorem zgn (h:7<=n){a b:Dg}(ha:a.length=16)(hb:b.length=16):call gl tab n 46 [bAV a,bAV b] []=some (bAV (nd a b),[],[]):=by
 obtain⟨d,rfl⟩:=wE h
 have c:=@H.of_at gl _ (d+5) (by omega) 31 false [a,b] ⟨by simp,fun x hx=>by simp at hx;rcases hx with rfl|rfl<;>omega⟩
 simp only[H.strsAV,wA,wB]at c
 rw[show H.dig (H.inp 31 [a,b])=nd a b from rfl]at c
 have hl:=zd9 a b
 have hq:=H.bytes_all (nd a b)
 generalize nd a b=q at *
 have a1:=b16t ha
 have a2:=H.bytes_all a
 have b1:=b16t hb
 have b2:=H.bytes_all b
 rw[zae (fd:=fd46) rfl]
 simp(implicitDefEqProofs:=false) (disch:=apply zq;omega) only[go_sem,simprocAttr,↓Nat.reduceEqDiff,xx,fd46,m46,↓out16_eq,H.out16_len,H.out16_all,H.out16_pl,c,hl,hq,ha,hb,a1,a2,b1,b2,H.noImms_bytesAV]
theorem zpp (h:7<=n):call gl tab n 48 [] []=some (bAV em,[],[]):=by
 obtain⟨d,rfl⟩:=wE h
 have c:=fun f=>@H.of_at gl _ (d+5) (by omega) 32 f [] ⟨by simp,fun x hx=>by simp at hx⟩
 simp only[H.strsAV,wB]at c
 rw[show H.dig (H.inp 32 [])=em from rfl]at c
 have hl:=zri
 have hb:=H.bytes_all em
 generalize em=q at *
 rw[zae (fd:=fd48) rfl]
 simp(disch:=apply zq;omega) only[go_sem,simprocAttr,↓Nat.reduceEqDiff,xx,fd48,m48,↓out16_eq,H.out16_len,H.out16_all,H.out16_pl,c,hl,hb,H.noImms_bytesAV]
end
section
variable [Nonempty (GlR gl)]
end
end Go.Proofs.S94.M
namespace Go.Proofs.S94.M
open Go Go.Ev Go.Proofs Go.Mk
variable {gl :Gl} {n:Nat}
def ln (x:Nat):Nat:=if x=0 then 0 else x.log2+1
theorem zlm {x k:Nat}(h:2^k<=x):ln x=k+ln (x/2^k):=by
 have hp:=Nat.two_pow_pos k
 have h1:x/2^k≠0:=by have:=Nat.div_pos h hp;omega
 unfold ln
 rw[if_neg (by omega),if_neg h1]
 have e:x.log2=(x/2^k).log2+k:=by
  rw[Nat.log2_eq_iff (by omega)]
  have a1:=Nat.log2_self_le h1
  have a2:=@Nat.lt_log2_self (x/2^k)
  constructor
  . rw[wF]
    exact(Nat.le_div_iff_mul_le hp).1 a1
  . rw[show(x/2^k).log2+k+1=(x/2^k).log2+1+k by omega,wF]
    exact(Nat.div_lt_iff_lt_mul hp).1 a2
 omega
def lenT :List UInt8:=[0,1,2,2,3,3,3,3,4,4,4,4,4,4,4,4,5,5,5,5,5,5,5,5,5,5,5,5,5,5,5,5,6,6,6,6,6,6,6,6,6,6,6,6,6,6,6,6,6,6,6,6,6,6,6,6,6,6,6,6,6,6,6,6,7,7,7,7,7,7,7,7,7,7,7,7,7,7,7,7,7,7,7,7,7,7,7,7,7,7,7,7,7,7,7,7,7,7,7,7,7,7,7,7,7,7,7,7,7,7,7,7,7,7,7,7,7,7,7,7,7,7,7,7,7,7,7,7,8,8,8,8,8,8,8,8,8,8,8,8,8,8,8,8,8,8,8,8,8,8,8,8,8,8,8,8,8,8,8,8,8,8,8,8,8,8,8,8,8,8,8,8,8,8,8,8,8,8,8,8,8,8,8,8,8,8,8,8,8,8,8,8,8,8,8,8,8,8,8,8,8,8,8,8,8,8,8,8,8,8,8,8,8,8,8,8,8,8,8,8,8,8,8,8,8,8,8,8,8,8,8,8,8,8,8,8,8,8,8,8,8,8,8,8,8,8,8,8,8,8,8,8,8,8,8,8]
theorem zey :([0,1,2,2,3,3,3,3,4,4,4,4,4,4,4,4,5,5,5,5,5,5,5,5,5,5,5,5,5,5,5,5,6,6,6,6,6,6,6,6,6,6,6,6,6,6,6,6,6,6,6,6,6,6,6,6,6,6,6,6,6,6,6,6,7,7,7,7,7,7,7,7,7,7,7,7,7,7,7,7,7,7,7,7,7,7,7,7,7,7,7,7,7,7,7,7,7,7,7,7,7,7,7,7,7,7,7,7,7,7,7,7,7,7,7,7,7,7,7,7,7,7,7,7,7,7,7,7,8,8,8,8,8,8,8,8,8,8,8,8,8,8,8,8,8,8,8,8,8,8,8,8,8,8,8,8,8,8,8,8,8,8,8,8,8,8,8,8,8,8,8,8,8,8,8,8,8,8,8,8,8,8,8,8,8,8,8,8,8,8,8,8,8,8,8,8,8,8,8,8,8,8,8,8,8,8,8,8,8,8,8,8,8,8,8,8,8,8,8,8,8,8,8,8,8,8,8,8,8,8,8,8,8,8,8,8,8,8,8,8,8,8,8,8,8,8,8,8,8,8,8,8,8,8,8,8]:List UInt8)=lenT:=rfl
theorem z87 :∀j:Fin 256,lenT[j.val]? =some (UInt8.ofNat (ln j.val))/\ln j.val<=8:=by decide +kernel
set_option maxRecDepth 20000 in
set_option maxHeartbeats 1000000 in
theorem z4f (h:1<=n)(x:BitVec 64):call gl tab n 90 [.int .u64 (x.toNat:Int)] []=some (i64 (ln x.toNat),[],[]):=by
 obtain⟨d,rfl⟩:=wE h
 have hx:=x.isLt
 have last:∀(y:BitVec 64),y.toNat<256->lenT[((y.setWidth 8).toNat)]? =some (UInt8.ofNat (ln y.toNat))/\(((UInt8.ofNat (ln y.toNat)).toNat:Nat):Int)=((ln y.toNat:Nat):Int)/\ln y.toNat<=8:=fun y hy=>by
  obtain⟨h1,h2⟩:=z87 ⟨y.toNat,hy⟩
  have e:(y.setWidth 8).toNat=y.toNat:=by rw[BitVec.toNat_setWidth];omega
  rw[e]
  refine⟨h1,?_,h2⟩
  rw[UInt8.toNat_ofNat']
  simp only at h2
  rw[Nat.mod_eq_of_lt (by omega)]
 have sh:∀(y:BitVec 64) (k:Nat),(y>>>k).toNat=y.toNat/2^k:=fun y k=>by rw[BitVec.toNat_ushiftRight,Nat.shiftRight_eq_div_pow]
 have cc:∀(a b c:Nat),a+b=c->x>>>a>>>b=x>>>c:=fun a b c e=>by rw[<-e,BitVec.shiftRight_add]
 have sh0:(x>>>(0:Nat)).toNat=x.toNat:=by simp
 rw[zae (fd:=fd90) rfl]
 by_cases h1:4294967296<=x.toNat
 . have s1:(x>>>(32:Nat)).toNat=x.toNat/2^32:=by rw[sh]
   have l1:=zlm (x:=x.toNat) (k:=32) h1
   rw[<-s1]at l1
   by_cases h2:65536<=(x>>>(32:Nat)).toNat
   . have s2:(x>>>(48:Nat)).toNat=(x>>>(32:Nat)).toNat/2^16:=by rw[<-cc 32 16 48 rfl,sh]
     have l2:=zlm (x:=(x>>>(32:Nat)).toNat) (k:=16) h2
     rw[<-s2]at l2
     by_cases h3:256<=(x>>>(48:Nat)).toNat
     . have s3:(x>>>(56:Nat)).toNat=(x>>>(48:Nat)).toNat/2^8:=by rw[<-cc 48 8 56 rfl,sh]
       have l3:=zlm (x:=(x>>>(48:Nat)).toNat) (k:=8) h3
       rw[<-s3]at l3
       obtain⟨t1,t2,t3⟩:=last (x>>>(56:Nat)) (by omega)
       rw[l1,l2,l3]
       simp(disch:=apply zq;omega) only[go_sem,simprocAttr,↓Nat.reduceEqDiff,xx,fd90,m90,↓zey,t1,t2,wG]
       refine congrArg (fun z:Int=>some (AV.int .i64 z,([]:List (Nat×OB)),[])) ?_
       omega
     . skip
       obtain⟨t1,t2,t3⟩:=last (x>>>(48:Nat)) (by omega)
       rw[l1,l2]
       simp(disch:=apply zq;omega) only[go_sem,simprocAttr,↓Nat.reduceEqDiff,xx,fd90,m90,↓zey,t1,t2,wG]
       refine congrArg (fun z:Int=>some (AV.int .i64 z,([]:List (Nat×OB)),[])) ?_
       omega
   . skip
     by_cases h3:256<=(x>>>(32:Nat)).toNat
     . have s2:(x>>>(40:Nat)).toNat=(x>>>(32:Nat)).toNat/2^8:=by rw[<-cc 32 8 40 rfl,sh]
       have l2:=zlm (x:=(x>>>(32:Nat)).toNat) (k:=8) h3
       rw[<-s2]at l2
       obtain⟨t1,t2,t3⟩:=last (x>>>(40:Nat)) (by omega)
       rw[l1,l2]
       simp(disch:=apply zq;omega) only[go_sem,simprocAttr,↓Nat.reduceEqDiff,xx,fd90,m90,↓zey,t1,t2,wG]
       refine congrArg (fun z:Int=>some (AV.int .i64 z,([]:List (Nat×OB)),[])) ?_
       omega
     . skip
       obtain⟨t1,t2,t3⟩:=last (x>>>(32:Nat)) (by omega)
       rw[l1]
       simp(disch:=apply zq;omega) only[go_sem,simprocAttr,↓Nat.reduceEqDiff,xx,fd90,m90,↓zey,t1,t2,wG]
 . skip
   by_cases h2:65536<=x.toNat
   . have s1:(x>>>(16:Nat)).toNat=x.toNat/2^16:=by rw[sh]
     have l1:=zlm (x:=x.toNat) (k:=16) h2
     rw[<-s1]at l1
     by_cases h3:256<=(x>>>(16:Nat)).toNat
     . have s2:(x>>>(24:Nat)).toNat=(x>>>(16:Nat)).toNat/2^8:=by rw[<-cc 16 8 24 rfl,sh]
       have l2:=zlm (x:=(x>>>(16:Nat)).toNat) (k:=8) h3
       rw[<-s2]at l2
       obtain⟨t1,t2,t3⟩:=last (x>>>(24:Nat)) (by omega)
       rw[l1,l2]
       simp(disch:=apply zq;omega) only[go_sem,simprocAttr,↓Nat.reduceEqDiff,xx,fd90,m90,↓zey,t1,t2,wG]
       refine congrArg (fun z:Int=>some (AV.int .i64 z,([]:List (Nat×OB)),[])) ?_
       omega
     . skip
       obtain⟨t1,t2,t3⟩:=last (x>>>(16:Nat)) (by omega)
       rw[l1]
       simp(disch:=apply zq;omega) only[go_sem,simprocAttr,↓Nat.reduceEqDiff,xx,fd90,m90,↓zey,t1,t2,wG]
   . skip
     by_cases h3:256<=x.toNat
     . have s1:(x>>>(8:Nat)).toNat=x.toNat/2^8:=by rw[sh]
       have l1:=zlm (x:=x.toNat) (k:=8) h3
       rw[<-s1]at l1
       obtain⟨t1,t2,t3⟩:=last (x>>>(8:Nat)) (by omega)
       rw[l1]
       simp(disch:=apply zq;omega) only[go_sem,simprocAttr,↓Nat.reduceEqDiff,xx,fd90,m90,↓zey,t1,t2,wG]
     . skip
       obtain⟨t1,t2,t3⟩:=last x (by omega)
       simp(disch:=apply zq;omega) only[go_sem,simprocAttr,↓Nat.reduceEqDiff,xx,fd90,m90,↓zey,t1,t2,wG]
theorem qcw (h:2<=n)(x:BitVec 64):call gl tab n 76 [.int .u64 (x.toNat:Int)] []=some (i64 (ln x.toNat),[],[]):=by
 obtain⟨d,rfl⟩:=wE h
 have c:=@z4f gl (d+1) (by omega) x
 rw[zae (fd:=fd76) rfl]
 simp(disch:=apply zq;omega) only[go_sem,simprocAttr,↓Nat.reduceEqDiff,xx,fd76,m76,c]
theorem zh6 (h:3<=n){m:Nat}(h2:2<=m)(hm:m<=4611686018427387904):call gl tab n 53 [i64 m] []=some (i64 (spl m),[],[]):=by
 obtain⟨d,rfl⟩:=wE h
 have e:(BitVec.ofInt 64 ((m:Int)-1)).toNat=m-1:=by
  rw[show((m:Int)-1)=((m-1:Nat):Int) by omega,BitVec.ofInt_natCast,BitVec.toNat_ofNat];omega
 have c:=@qcw gl (d+2) (by omega) (BitVec.ofInt 64 ((m:Int)-1))
 have hl:ln (BitVec.ofInt 64 ((m:Int)-1)).toNat=(m-1).log2+1:=by rw[e,ln,if_neg (by omega)]
 rw[hl]at c
 have hlt:(m-1).log2<62:=(Nat.log2_lt (by omega)).2 (by omega)
 have hs:=zcu h2
 have hsl:zbt .shl .i64 1 ((((m-1).log2:Nat):Int)+1-1)=some (i64 (spl m)):=by
  unfold zbt
  rw[if_neg (by omega),show((((m-1).log2:Nat):Int)+1-1).toNat=(m-1).log2 by omega,show min (m-1).log2 IntKind.i64.bits=(m-1).log2 from Nat.min_eq_left (by show _<=64;omega)]
  show some (AV.int .i64 (IntKind.i64.wrap (1*2^(m-1).log2)))=_
  have e2:(1:Int)*2^(m-1).log2=((spl m:Nat):Int):=by unfold spl;simp
  rw[e2,za5 (by omega) (by omega)]
 rw[zae (fd:=fd53) rfl]
 simp(disch:=apply zq;omega) only[go_sem,simprocAttr,↓Nat.reduceEqDiff,xx,fd53,m53,c,hsl]
end Go.Proofs.S94.M
namespace Go.Proofs.S94.M
open Go Go.Ev Go.Proofs Go.Mk
open Go.Proofs.S94.H (GlK GlR)
variable {gl :Gl} {n:Nat}
def Sd {α:Type}(l:List α)(m s:Sh):Prop:=l=[]\/m=s
theorem zc8 :sB.size=16:=rfl
theorem rt_len :∀{l:List Dg},All16 l->(rt nd em l).length=16
 | [],_=>by rw[zqd];exact zri
 | [x],h=>by rw[zub];exact h x (by simp)
 | x::y::l,h=>by rw[zh9 (by simp)];exact zd9 _ _
section
variable [Nonempty (GlK gl)]
theorem root_at :∀(c:Nat) {n:Nat} (l:List Dg) (f:Bool) (sh:Sh),l.length<=c->8+c<=n->All16 l->l.length<2^60->Sd l sh sB->call gl tab n 38 [.lst f sh (dgL l)] []=some (bAV (rt nd em l),[],[]):=by
 intro c
 induction c with
 | zero =>
   intro n l f sh hc h ha hl hs
   obtain⟨d,rfl⟩:∃d,n=d+1:=⟨n-1,by omega⟩
   obtain rfl:l=[]:=List.length_eq_zero_iff.1 (by omega)
   have e:=@zpp gl d _ (by omega)
   have e1:=zri
   have e2:=H.bytes_all em
   rw[zqd]
   generalize em=q at *
   rw[zae (fd:=fd38) rfl]
   simp(disch:=apply zq;omega) only[go_sem,simprocAttr,↓Nat.reduceEqDiff,xx,fd38,m38,↓out16_eq,H.out16_len,H.out16_all,H.out16_pl,dgL_nil,e,e1,e2,H.noImms_bytesAV]
 | succ c ih =>
   intro n l f sh hc h ha hl hs
   obtain⟨d,rfl⟩:∃d,n=d+1:=⟨n-1,by omega⟩
   have hL:=dgL_length l
   have hT:=zhx l
   match l,hs with
   | [],hs =>
     have e:=@zpp gl d _ (by omega)
     have e1:=zri
     have e2:=H.bytes_all em
     rw[zqd]
     generalize em=q at *
     rw[zae (fd:=fd38) rfl]
     simp(disch:=apply zq;omega) only[go_sem,simprocAttr,↓Nat.reduceEqDiff,xx,fd38,m38,↓out16_eq,H.out16_len,H.out16_all,H.out16_pl,dgL_nil,e,e1,e2,H.noImms_bytesAV]
   | [x],hs =>
     obtain rfl:sh=sB:=by rcases hs with hs|hs;cases hs;exact hs
     have e1:=ha.at (i:=0) (by simp)
     rw[zub]
     have e2:=H.bytes_all x
     simp only[dgA,List.getD_cons_zero]at e1
     rw[zae (fd:=fd38) rfl]
     simp(disch:=apply zq;omega) only[go_sem,simprocAttr,↓Nat.reduceEqDiff,xx,fd38,m38,↓out16_eq,H.out16_len,H.out16_all,H.out16_pl,dgL,wA,wB,zc8,e1,e2,H.noImms_bytesAV]
   | x::y::l,hs =>
     obtain rfl:sh=sB:=by rcases hs with hs|hs;cases hs;exact hs
     have h2:2<=(x::y::l).length:=by simp
     rw[zh9 h2]
     generalize (x::y::l)=l at *
     have hk:=zcu h2
     have hp:=zb6 l.length
     have k:=@zh6 gl d (by omega) l.length h2 (by omega)
     have a:=fun f'=>@ih d (l.take (spl l.length)) f' sB (by rw[wC];omega) (by omega) (ha.take _) (by rw[wC];omega) (Or.inr rfl)
     have b:=fun f'=>@ih d (l.drop (spl l.length)) f' sB (by rw[wD];omega) (by omega) (ha.drop _) (by rw[wD];omega) (Or.inr rfl)
     have ra:(rt nd em (l.take (spl l.length))).length=16:=rt_len (ha.take _)
     have rb:(rt nd em (l.drop (spl l.length))).length=16:=rt_len (ha.drop _)
     have e:=@zgn gl d _ (by omega) _ _ ra rb
     have e1:=zd9 (rt nd em (l.take (spl l.length))) (rt nd em (l.drop (spl l.length)))
     have e2:=H.bytes_all (nd (rt nd em (l.take (spl l.length))) (rt nd em (l.drop (spl l.length))))
     generalize nd (rt nd em (l.take (spl l.length))) (rt nd em (l.drop (spl l.length)))=q at *
     generalize rt nd em (l.take (spl l.length))=qa at *
     generalize rt nd em (l.drop (spl l.length))=qb at *
     simp only[<-zdt]at a;simp only[<-zef]at b
     generalize spl l.length=z at *
     generalize l.length=w at *
     rw[zae (fd:=fd38) rfl]
     simp(implicitDefEqProofs:=false) (disch:=apply zq;omega) only[go_sem,simprocAttr,↓Nat.reduceEqDiff,xx,fd38,m38,↓out16_eq,H.out16_len,H.out16_all,H.out16_pl,hL,hT,zc8,k,a,b,e,e1,e2,H.noImms_bytesAV]
end
section
variable [Nonempty (GlR gl)]
end
end Go.Proofs.S94.M
