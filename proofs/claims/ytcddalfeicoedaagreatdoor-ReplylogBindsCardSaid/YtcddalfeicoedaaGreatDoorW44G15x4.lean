/-
  Chapter 3: leaves, nodes. No condition.
-/
import Derived.Test.YtcddalfeicoedaaGreatDoorW44G6x4
import Derived.Test.YtcddalfeicoedaaGreatDoorEvY
import Derived.Test.YtcddalfeicoedaaGreatDoorW44G14x4
set_option linter.all false
open List renaming map_cons->wA,map_nil->wB,length_take->wC,length_drop->wD
open Nat renaming exists_eq_add_of_le'->wE,pow_add->wF,log2_lt->wG
open Int renaming zero_add->wH
namespace Go.Proofs.S44.M
open Go Go.Ev Go.Proofs Go.Mk
open Go.Proofs.S44.H (GlK GlR)
variable {gl :Gl} {n:Nat}
abbrev i64 (n:Int):AV:=.int .i64 n
abbrev sB :Sh:=.ar 16 .sc
abbrev Dg :=List UInt8
abbrev bAV (b:Dg):AV:=.agg (zac b)
theorem b16 {b:Dg}(h:b.length=16):(zac b).length=16:=by rw[zab];exact h
theorem b16t {b:Dg}(h:b.length=16):List.take 16 (zac b)=zac b:=List.take_of_length_le (by rw[b16 h];exact Nat.le_refl _)
theorem out16_eq :List.replicate 16 (AV.int .u8 0)=H.out16l:=rfl
def z16 :Dg:=List.replicate 16 0
theorem qcg :H.out16l=zac z16:=rfl
def dgL (l:List Dg):List AV:=l.map fun x=>.agg (zac x)
def dgA (l:List Dg)(i:Nat):Dg:=l.getD i []
theorem dgL_length (l:List Dg):(dgL l).length=l.length:=by simp[dgL]
theorem dgL_at {l:List Dg}{i:Nat}(h:i<l.length):(dgL l)[i]? =some (.agg (zac (dgA l i))):=by simp[dgL,dgA,h]
theorem zgw :dgL []=[]:=rfl
theorem zs9 (l:List Dg)(d:Dg):dgL (l++[d])=dgL l++[.agg (zac d)]:=by simp[dgL]
theorem zf8 (l:List Dg)(k:Nat):List.take k (dgL l)=dgL (l.take k):=by simp[dgL,List.map_take]
theorem zhm (l:List Dg)(k:Nat):List.drop k (dgL l)=dgL (l.drop k):=by simp[dgL,List.map_drop]
theorem zmg (l:List Dg):List.take l.length (dgL l)=dgL l:=by rw[<-dgL_length];exact List.take_length
theorem zhl :∀(l:List Dg),zdt (dgL l)=true
 | []=>rfl
 | x::l=>by
   have:=zhl l
   rw[dgL,wA,zdt,<-dgL,this,zc2,H.noImms_bytesAV];rfl
def All16 (l:List Dg):Prop:=∀x∈l,x.length=16
theorem All16.at {l:List Dg}(h:All16 l){i:Nat}(hi:i<l.length):(dgA l i).length=16:=by
 rw[dgA,List.getD_eq_getElem?_getD,List.getElem?_eq_getElem hi];exact h _ (List.getElem_mem hi)
theorem All16.take {l:List Dg}(h:All16 l)(k:Nat):All16 (l.take k):=fun x hx=>h x (List.mem_of_mem_take hx)
theorem All16.drop {l:List Dg}(h:All16 l)(k:Nat):All16 (l.drop k):=fun x hx=>h x (List.mem_of_mem_drop hx)
theorem All16.app {l m:List Dg}(h:All16 l)(h':All16 m):All16 (l++m):=fun x hx=>by
 rcases List.mem_append.1 hx with hx|hx
 . exact h x hx
 . exact h' x hx
theorem All16.one {d:Dg}(h:d.length=16):All16 [d]:=fun x hx=>by simp at hx;subst hx;exact h
theorem All16.nil :All16 []:=fun x hx=>by simp at hx
theorem eqB_all :∀(a b:List UInt8),a.length=b.length->zpo ((zac a).zip (zac b)) (fun p=>eqAV .it p.1 p.2)=some (decide (a=b))
 | [],[],_=>rfl
 | x::a,y::b,h=>by
   have ih:=eqB_all a b (by simpa using h)
   simp only[zac,wA,List.zip_cons_cons,zpo,eqAV,if_pos,Option.bind_some]
   simp only[zac]at ih
   rw[ih]
   by_cases e:x=y
   . subst e;simp
   . have:((x.toNat:Int)==(y.toNat:Int))=false:=by
      rw[beq_eq_false_iff_ne];intro h2
      exact e (UInt8.toNat_inj.1 (by omega))
     rw[this];simp[e]
 | [],_::_,h=>by simp at h
 | _::_,[],h=>by simp at h
theorem eqB {a b:Dg}(ha:a.length=16)(hb:b.length=16):eqAV (.ar 16 .it) (.agg (zac a)) (.agg (zac b))=some (decide (a=b)):=by
 have:=eqB_all a b (by omega)
 rw[eqAV,if_pos ⟨by rw[zab];exact ha,by rw[zab];exact hb⟩]
 exact this
def lf (s:List UInt8):Dg:=H.dig (H.inp 30 [s])
def nd (a b:Dg):Dg:=H.dig (H.inp 31 [a,b])
def em :Dg:=H.dig (H.inp 32 [])
theorem zde (s:List UInt8):(lf s).length=16:=H.dig_len _
theorem zfh (a b:Dg):(nd a b).length=16:=H.dig_len _
theorem zu7 :em.length=16:=H.dig_len _
section
variable [Nonempty (GlK gl)]
theorem leaf_at (h:7<=n)(s:List UInt8)(hs:s.length<=1048576):call gl tab n 85 [.str s] []=some (bAV (lf s),[],[]):=by
 obtain⟨d,rfl⟩:=wE h
 have c:=@H.of_at gl _ (d+5) (by omega) 30 false [s] ⟨by simp,fun x hx=>by simp at hx;subst hx;exact hs⟩
 simp only[H.strsAV,wA,wB]at c
 rw[show H.dig (H.inp 30 [s])=lf s from rfl]at c
 have hl:=zde s
 have hb:=H.bytes_all (lf s)
 generalize lf s=q at *
 rw[zaf (fd:=fd85) rfl]
 simp(disch:=apply zq;omega) only[go_sem,simprocAttr,↓Nat.reduceEqDiff,xx,fd85,m85,↓out16_eq,H.out16_len,H.out16_all,H.out16_pl,c,hl,hb,H.noImms_bytesAV]
theorem zls (h:7<=n){a b:Dg}(ha:a.length=16)(hb:b.length=16):call gl tab n 105 [bAV a,bAV b] []=some (bAV (nd a b),[],[]):=by
 obtain⟨d,rfl⟩:=wE h
 have c:=@H.of_at gl _ (d+5) (by omega) 31 false [a,b] ⟨by simp,fun x hx=>by simp at hx;rcases hx with rfl|rfl<;>omega⟩
 simp only[H.strsAV,wA,wB]at c
 rw[show H.dig (H.inp 31 [a,b])=nd a b from rfl]at c
 have hl:=zfh a b
 have hq:=H.bytes_all (nd a b)
 generalize nd a b=q at *
 have a1:=b16t ha
 have a2:=H.bytes_all a
 have b1:=b16t hb
 have b2:=H.bytes_all b
 rw[zaf (fd:=z5x) rfl]
 simp(implicitDefEqProofs:=false) (disch:=apply zq;omega) only[go_sem,simprocAttr,↓Nat.reduceEqDiff,xx,z5x,m105,↓out16_eq,H.out16_len,H.out16_all,H.out16_pl,c,hl,hq,ha,hb,a1,a2,b1,b2,H.noImms_bytesAV]
theorem zu6 (h:7<=n):call gl tab n 107 [] []=some (bAV em,[],[]):=by
 obtain⟨d,rfl⟩:=wE h
 have c:=fun f=>@H.of_at gl _ (d+5) (by omega) 32 f [] ⟨by simp,fun x hx=>by simp at hx⟩
 simp only[H.strsAV,wB]at c
 rw[show H.dig (H.inp 32 [])=em from rfl]at c
 have hl:=zu7
 have hb:=H.bytes_all em
 generalize em=q at *
 rw[zaf (fd:=z5w) rfl]
 simp(disch:=apply zq;omega) only[go_sem,simprocAttr,↓Nat.reduceEqDiff,xx,z5w,m107,↓out16_eq,H.out16_len,H.out16_all,H.out16_pl,c,hl,hb,H.noImms_bytesAV]
end
section
variable [Nonempty (GlR gl)]
theorem rleaf_at (h:7<=n)(s:List UInt8)(hs:s.length<=1048576):call gl tab n 79 [.str s] []=some (bAV (lf s),[],[]):=by
 obtain⟨d,rfl⟩:=wE h
 have c:=@H.rof_at gl _ (d+4) (by omega) 30 false [s] ⟨by simp,fun x hx=>by simp at hx;subst hx;exact hs⟩
 simp only[H.strsAV,wA,wB]at c
 rw[show H.dig (H.inp 30 [s])=lf s from rfl]at c
 have hl:=zde s
 have hb:=H.bytes_all (lf s)
 generalize lf s=q at *
 rw[zaf (fd:=fd79) rfl]
 simp(disch:=apply zq;omega) only[go_sem,simprocAttr,↓Nat.reduceEqDiff,xx,fd79,m79,↓out16_eq,H.out16_len,H.out16_all,H.out16_pl,c,hl,hb,H.noImms_bytesAV]
theorem zt4 (h:7<=n){a b:Dg}(ha:a.length=16)(hb:b.length=16):call gl tab n 101 [bAV a,bAV b] []=some (bAV (nd a b),[],[]):=by
 obtain⟨d,rfl⟩:=wE h
 have c:=@H.rof_at gl _ (d+4) (by omega) 31 false [a,b] ⟨by simp,fun x hx=>by simp at hx;rcases hx with rfl|rfl<;>omega⟩
 simp only[H.strsAV,wA,wB]at c
 rw[show H.dig (H.inp 31 [a,b])=nd a b from rfl]at c
 have hl:=zfh a b
 have hq:=H.bytes_all (nd a b)
 generalize nd a b=q at *
 have a1:=b16t ha
 have a2:=H.bytes_all a
 have b1:=b16t hb
 have b2:=H.bytes_all b
 rw[zaf (fd:=z50) rfl]
 simp(implicitDefEqProofs:=false) (disch:=apply zq;omega) only[go_sem,simprocAttr,↓Nat.reduceEqDiff,xx,z50,m101,↓out16_eq,H.out16_len,H.out16_all,H.out16_pl,c,hl,hq,ha,hb,a1,a2,b1,b2,H.noImms_bytesAV]
end
end Go.Proofs.S44.M
namespace Go.Proofs.S44.M
open Go Go.Ev Go.Proofs Go.Mk
variable {gl :Gl} {n:Nat}
def ln (x:Nat):Nat:=if x=0 then 0 else x.log2+1
theorem zlt {x k:Nat}(h:2^k<=x):ln x=k+ln (x/2^k):=by
 have hp:=Nat.two_pow_pos k
 have h1:x/2^k≠0:=by have:=Nat.div_pos h hp;omega
 unfold ln
 rw[if_neg (by omega),if_neg h1]
 have e:x.log2=(x/2^k).log2+k:=by
  rw[Nat.log2_eq_iff (by omega)]
  have a1:=Nat.log2_self_le h1
  have a2:=@Nat.lt_log2_self (x/2^k)
  constructor
  . rw[wF]
    exact(Nat.le_div_iff_mul_le hp).1 a1
  . rw[show(x/2^k).log2+k+1=(x/2^k).log2+1+k by omega,wF]
    exact(Nat.div_lt_iff_lt_mul hp).1 a2
 omega
def lenT :List UInt8:=[0,1,2,2,3,3,3,3,4,4,4,4,4,4,4,4,5,5,5,5,5,5,5,5,5,5,5,5,5,5,5,5,6,6,6,6,6,6,6,6,6,6,6,6,6,6,6,6,6,6,6,6,6,6,6,6,6,6,6,6,6,6,6,6,7,7,7,7,7,7,7,7,7,7,7,7,7,7,7,7,7,7,7,7,7,7,7,7,7,7,7,7,7,7,7,7,7,7,7,7,7,7,7,7,7,7,7,7,7,7,7,7,7,7,7,7,7,7,7,7,7,7,7,7,7,7,7,7,8,8,8,8,8,8,8,8,8,8,8,8,8,8,8,8,8,8,8,8,8,8,8,8,8,8,8,8,8,8,8,8,8,8,8,8,8,8,8,8,8,8,8,8,8,8,8,8,8,8,8,8,8,8,8,8,8,8,8,8,8,8,8,8,8,8,8,8,8,8,8,8,8,8,8,8,8,8,8,8,8,8,8,8,8,8,8,8,8,8,8,8,8,8,8,8,8,8,8,8,8,8,8,8,8,8,8,8,8,8,8,8,8,8,8,8,8,8,8,8,8,8,8,8,8,8,8,8]
theorem zex :([0,1,2,2,3,3,3,3,4,4,4,4,4,4,4,4,5,5,5,5,5,5,5,5,5,5,5,5,5,5,5,5,6,6,6,6,6,6,6,6,6,6,6,6,6,6,6,6,6,6,6,6,6,6,6,6,6,6,6,6,6,6,6,6,7,7,7,7,7,7,7,7,7,7,7,7,7,7,7,7,7,7,7,7,7,7,7,7,7,7,7,7,7,7,7,7,7,7,7,7,7,7,7,7,7,7,7,7,7,7,7,7,7,7,7,7,7,7,7,7,7,7,7,7,7,7,7,7,8,8,8,8,8,8,8,8,8,8,8,8,8,8,8,8,8,8,8,8,8,8,8,8,8,8,8,8,8,8,8,8,8,8,8,8,8,8,8,8,8,8,8,8,8,8,8,8,8,8,8,8,8,8,8,8,8,8,8,8,8,8,8,8,8,8,8,8,8,8,8,8,8,8,8,8,8,8,8,8,8,8,8,8,8,8,8,8,8,8,8,8,8,8,8,8,8,8,8,8,8,8,8,8,8,8,8,8,8,8,8,8,8,8,8,8,8,8,8,8,8,8,8,8,8,8,8,8]:List UInt8)=lenT:=rfl
theorem qac :∀j:Fin 256,lenT[j.val]? =some (UInt8.ofNat (ln j.val))/\ln j.val<=8:=by decide +kernel
set_option maxRecDepth 20000 in
set_option maxHeartbeats 1000000 in
theorem z4b (h:1<=n)(x:BitVec 64):call gl tab n 166 [.int .u64 (x.toNat:Int)] []=some (i64 (ln x.toNat),[],[]):=by
 obtain⟨d,rfl⟩:=wE h
 have hx:=x.isLt
 have last:∀(y:BitVec 64),y.toNat<256->lenT[((y.setWidth 8).toNat)]? =some (UInt8.ofNat (ln y.toNat))/\(((UInt8.ofNat (ln y.toNat)).toNat:Nat):Int)=((ln y.toNat:Nat):Int)/\ln y.toNat<=8:=fun y hy=>by
  obtain⟨h1,h2⟩:=qac ⟨y.toNat,hy⟩
  have e:(y.setWidth 8).toNat=y.toNat:=by rw[BitVec.toNat_setWidth];omega
  rw[e]
  refine⟨h1,?_,h2⟩
  rw[UInt8.toNat_ofNat']
  simp only at h2
  rw[Nat.mod_eq_of_lt (by omega)]
 have sh:∀(y:BitVec 64) (k:Nat),(y>>>k).toNat=y.toNat/2^k:=fun y k=>by rw[BitVec.toNat_ushiftRight,Nat.shiftRight_eq_div_pow]
 have cc:∀(a b c:Nat),a+b=c->x>>>a>>>b=x>>>c:=fun a b c e=>by rw[<-e,BitVec.shiftRight_add]
 have sh0:(x>>>(0:Nat)).toNat=x.toNat:=by simp
 rw[zaf (fd:=zme) rfl]
 by_cases h1:4294967296<=x.toNat
 . have s1:(x>>>(32:Nat)).toNat=x.toNat/2^32:=by rw[sh]
   have l1:=zlt (x:=x.toNat) (k:=32) h1
   rw[<-s1]at l1
   by_cases h2:65536<=(x>>>(32:Nat)).toNat
   . have s2:(x>>>(48:Nat)).toNat=(x>>>(32:Nat)).toNat/2^16:=by rw[<-cc 32 16 48 rfl,sh]
     have l2:=zlt (x:=(x>>>(32:Nat)).toNat) (k:=16) h2
     rw[<-s2]at l2
     by_cases h3:256<=(x>>>(48:Nat)).toNat
     . have s3:(x>>>(56:Nat)).toNat=(x>>>(48:Nat)).toNat/2^8:=by rw[<-cc 48 8 56 rfl,sh]
       have l3:=zlt (x:=(x>>>(48:Nat)).toNat) (k:=8) h3
       rw[<-s3]at l3
       obtain⟨t1,t2,t3⟩:=last (x>>>(56:Nat)) (by omega)
       rw[l1,l2,l3]
       simp(disch:=apply zq;omega) only[go_sem,simprocAttr,↓Nat.reduceEqDiff,xx,zme,m166,↓zex,t1,t2,wH]
       refine congrArg (fun z:Int=>some (AV.int .i64 z,([]:List (Nat×OB)),[])) ?_
       omega
     . skip
       obtain⟨t1,t2,t3⟩:=last (x>>>(48:Nat)) (by omega)
       rw[l1,l2]
       simp(disch:=apply zq;omega) only[go_sem,simprocAttr,↓Nat.reduceEqDiff,xx,zme,m166,↓zex,t1,t2,wH]
       refine congrArg (fun z:Int=>some (AV.int .i64 z,([]:List (Nat×OB)),[])) ?_
       omega
   . skip
     by_cases h3:256<=(x>>>(32:Nat)).toNat
     . have s2:(x>>>(40:Nat)).toNat=(x>>>(32:Nat)).toNat/2^8:=by rw[<-cc 32 8 40 rfl,sh]
       have l2:=zlt (x:=(x>>>(32:Nat)).toNat) (k:=8) h3
       rw[<-s2]at l2
       obtain⟨t1,t2,t3⟩:=last (x>>>(40:Nat)) (by omega)
       rw[l1,l2]
       simp(disch:=apply zq;omega) only[go_sem,simprocAttr,↓Nat.reduceEqDiff,xx,zme,m166,↓zex,t1,t2,wH]
       refine congrArg (fun z:Int=>some (AV.int .i64 z,([]:List (Nat×OB)),[])) ?_
       omega
     . skip
       obtain⟨t1,t2,t3⟩:=last (x>>>(32:Nat)) (by omega)
       rw[l1]
       simp(disch:=apply zq;omega) only[go_sem,simprocAttr,↓Nat.reduceEqDiff,xx,zme,m166,↓zex,t1,t2,wH]
 . skip
   by_cases h2:65536<=x.toNat
   . have s1:(x>>>(16:Nat)).toNat=x.toNat/2^16:=by rw[sh]
     have l1:=zlt (x:=x.toNat) (k:=16) h2
     rw[<-s1]at l1
     by_cases h3:256<=(x>>>(16:Nat)).toNat
     . have s2:(x>>>(24:Nat)).toNat=(x>>>(16:Nat)).toNat/2^8:=by rw[<-cc 16 8 24 rfl,sh]
       have l2:=zlt (x:=(x>>>(16:Nat)).toNat) (k:=8) h3
       rw[<-s2]at l2
       obtain⟨t1,t2,t3⟩:=last (x>>>(24:Nat)) (by omega)
       rw[l1,l2]
       simp(disch:=apply zq;omega) only[go_sem,simprocAttr,↓Nat.reduceEqDiff,xx,zme,m166,↓zex,t1,t2,wH]
       refine congrArg (fun z:Int=>some (AV.int .i64 z,([]:List (Nat×OB)),[])) ?_
       omega
     . skip
       obtain⟨t1,t2,t3⟩:=last (x>>>(16:Nat)) (by omega)
       rw[l1]
       simp(disch:=apply zq;omega) only[go_sem,simprocAttr,↓Nat.reduceEqDiff,xx,zme,m166,↓zex,t1,t2,wH]
   . skip
     by_cases h3:256<=x.toNat
     . have s1:(x>>>(8:Nat)).toNat=x.toNat/2^8:=by rw[sh]
       have l1:=zlt (x:=x.toNat) (k:=8) h3
       rw[<-s1]at l1
       obtain⟨t1,t2,t3⟩:=last (x>>>(8:Nat)) (by omega)
       rw[l1]
       simp(disch:=apply zq;omega) only[go_sem,simprocAttr,↓Nat.reduceEqDiff,xx,zme,m166,↓zex,t1,t2,wH]
     . skip
       obtain⟨t1,t2,t3⟩:=last x (by omega)
       simp(disch:=apply zq;omega) only[go_sem,simprocAttr,↓Nat.reduceEqDiff,xx,zme,m166,↓zex,t1,t2,wH]
theorem qd8 (h:2<=n)(x:BitVec 64):call gl tab n 148 [.int .u64 (x.toNat:Int)] []=some (i64 (ln x.toNat),[],[]):=by
 obtain⟨d,rfl⟩:=wE h
 have c:=@z4b gl (d+1) (by omega) x
 rw[zaf (fd:=z5e) rfl]
 simp(disch:=apply zq;omega) only[go_sem,simprocAttr,↓Nat.reduceEqDiff,xx,z5e,m148,c]
theorem zog (h:3<=n){m:Nat}(h2:2<=m)(hm:m<=4611686018427387904):call gl tab n 108 [i64 m] []=some (i64 (spl m),[],[]):=by
 obtain⟨d,rfl⟩:=wE h
 have e:(BitVec.ofInt 64 ((m:Int)-1)).toNat=m-1:=by
  rw[show((m:Int)-1)=((m-1:Nat):Int) by omega,BitVec.ofInt_natCast,BitVec.toNat_ofNat];omega
 have c:=@qd8 gl (d+2) (by omega) (BitVec.ofInt 64 ((m:Int)-1))
 have hl:ln (BitVec.ofInt 64 ((m:Int)-1)).toNat=(m-1).log2+1:=by rw[e,ln,if_neg (by omega)]
 rw[hl]at c
 have hlt:(m-1).log2<62:=(wG (by omega)).2 (by omega)
 have hs:=zej h2
 have hsl:zbv .shl .i64 1 ((((m-1).log2:Nat):Int)+1-1)=some (i64 (spl m)):=by
  unfold zbv
  rw[if_neg (by omega),show((((m-1).log2:Nat):Int)+1-1).toNat=(m-1).log2 by omega,show min (m-1).log2 IntKind.i64.bits=(m-1).log2 from Nat.min_eq_left (by show _<=64;omega)]
  show some (AV.int .i64 (IntKind.i64.wrap (1*2^(m-1).log2)))=_
  have e2:(1:Int)*2^(m-1).log2=((spl m:Nat):Int):=by unfold spl;simp
  rw[e2,zay (by omega) (by omega)]
 rw[zaf (fd:=z5v) rfl]
 simp(disch:=apply zq;omega) only[go_sem,simprocAttr,↓Nat.reduceEqDiff,xx,z5v,m108,c,hsl]
end Go.Proofs.S44.M
namespace Go.Proofs.S44.M
open Go Go.Ev Go.Proofs Go.Mk
open Go.Proofs.S44.H (GlK GlR)
variable {gl :Gl} {n:Nat}
def Sd {α:Type}(l:List α)(m s:Sh):Prop:=l=[]\/m=s
theorem zd0 :sB.size=16:=rfl
def S40 (m:Nat)(i:Nat):St:=⟨[.set 3 (i64 ((2^i:Nat):Int)),.set 0 (i64 m)],[]⟩
theorem zyy (h:1<=n){m:Nat}(h2:2<=m)(hm:m<=4611686018427387904):call gl tab n 100 [i64 m] []=some (i64 (spl m),[],[]):=by
 obtain⟨d,rfl⟩:=wE h
 have hk:(m-1).log2<62:=(wG (by omega)).2 (by omega)
 have hlo:=zej h2
 have hge:=@z61 m
 rw[zaf (fd:=z51) rfl]
 simp(disch:=apply zq;omega) only[go_sem,simprocAttr,↓Nat.reduceEqDiff,xx,z51,m100]
 rw[zam (S40 m) (m-1).log2 (by unfold LF;omega)]
 . rw[S40,show(2:Nat)^(m-1).log2=spl m from rfl]
   generalize spl m=x at *
   simp(disch:=apply zq;omega) only[go_sem,simprocAttr,↓Nat.reduceEqDiff,xx]
 . rw[S40];simp(disch:=apply zq;omega) only[go_sem,simprocAttr,↓Nat.reduceEqDiff,xx]
 . intro i hi
   have h3:2^(i+1)<=spl m:=Nat.pow_le_pow_right (by omega) hi
   have h4:(2:Nat)^(i+1)=2*2^i:=by rw[Nat.pow_succ];omega
   rw[S40,S40,h4]
   generalize spl m=y at *
   generalize 2^i=x at *
   rw[show((2*x:Nat):Int)=2*(x:Int) by omega]
   simp(disch:=apply zq;omega) only[go_sem,simprocAttr,↓Nat.reduceEqDiff,xx]
 . rw[S40,show(2:Nat)^(m-1).log2=spl m from rfl]
   generalize spl m=x at *
   simp(disch:=apply zq;omega) only[go_sem,simprocAttr,↓Nat.reduceEqDiff,xx]
theorem zlc :∀{l:List Dg},All16 l->(rt nd em l).length=16
 | [],_=>by rw[zqd];exact zu7
 | [x],h=>by rw[zt3];exact h x (by simp)
 | x::y::l,h=>by rw[zm4 (by simp)];exact zfh _ _
section
variable [Nonempty (GlK gl)]
theorem root_at :∀(c:Nat) {n:Nat} (l:List Dg) (f:Bool) (sh:Sh),l.length<=c->8+c<=n->All16 l->l.length<2^60->Sd l sh sB->call gl tab n 55 [.lst f sh (dgL l)] []=some (bAV (rt nd em l),[],[]):=by
 intro c
 induction c with
 | zero =>
   intro n l f sh hc h ha hl hs
   obtain⟨d,rfl⟩:∃d,n=d+1:=⟨n-1,by omega⟩
   obtain rfl:l=[]:=List.length_eq_zero_iff.1 (by omega)
   have e:=@zu6 gl d _ (by omega)
   have e1:=zu7
   have e2:=H.bytes_all em
   rw[zqd]
   generalize em=q at *
   rw[zaf (fd:=fd55) rfl]
   simp(disch:=apply zq;omega) only[go_sem,simprocAttr,↓Nat.reduceEqDiff,xx,fd55,m55,↓out16_eq,H.out16_len,H.out16_all,H.out16_pl,zgw,e,e1,e2,H.noImms_bytesAV]
 | succ c ih =>
   intro n l f sh hc h ha hl hs
   obtain⟨d,rfl⟩:∃d,n=d+1:=⟨n-1,by omega⟩
   have hL:=dgL_length l
   have hT:=zmg l
   match l,hs with
   | [],hs =>
     have e:=@zu6 gl d _ (by omega)
     have e1:=zu7
     have e2:=H.bytes_all em
     rw[zqd]
     generalize em=q at *
     rw[zaf (fd:=fd55) rfl]
     simp(disch:=apply zq;omega) only[go_sem,simprocAttr,↓Nat.reduceEqDiff,xx,fd55,m55,↓out16_eq,H.out16_len,H.out16_all,H.out16_pl,zgw,e,e1,e2,H.noImms_bytesAV]
   | [x],hs =>
     obtain rfl:sh=sB:=by rcases hs with hs|hs;cases hs;exact hs
     have e1:=ha.at (i:=0) (by simp)
     rw[zt3]
     have e2:=H.bytes_all x
     simp only[dgA,List.getD_cons_zero]at e1
     rw[zaf (fd:=fd55) rfl]
     simp(disch:=apply zq;omega) only[go_sem,simprocAttr,↓Nat.reduceEqDiff,xx,fd55,m55,↓out16_eq,H.out16_len,H.out16_all,H.out16_pl,dgL,wA,wB,zd0,e1,e2,H.noImms_bytesAV]
   | x::y::l,hs =>
     obtain rfl:sh=sB:=by rcases hs with hs|hs;cases hs;exact hs
     have h2:2<=(x::y::l).length:=by simp
     rw[zm4 h2]
     generalize (x::y::l)=l at *
     have hk:=zej h2
     have hp:=zdz l.length
     have k:=@zog gl d (by omega) l.length h2 (by omega)
     have a:=fun f'=>@ih d (l.take (spl l.length)) f' sB (by rw[wC];omega) (by omega) (ha.take _) (by rw[wC];omega) (Or.inr rfl)
     have b:=fun f'=>@ih d (l.drop (spl l.length)) f' sB (by rw[wD];omega) (by omega) (ha.drop _) (by rw[wD];omega) (Or.inr rfl)
     have ra:(rt nd em (l.take (spl l.length))).length=16:=zlc (ha.take _)
     have rb:(rt nd em (l.drop (spl l.length))).length=16:=zlc (ha.drop _)
     have e:=@zls gl d _ (by omega) _ _ ra rb
     have e1:=zfh (rt nd em (l.take (spl l.length))) (rt nd em (l.drop (spl l.length)))
     have e2:=H.bytes_all (nd (rt nd em (l.take (spl l.length))) (rt nd em (l.drop (spl l.length))))
     generalize nd (rt nd em (l.take (spl l.length))) (rt nd em (l.drop (spl l.length)))=q at *
     generalize rt nd em (l.take (spl l.length))=qa at *
     generalize rt nd em (l.drop (spl l.length))=qb at *
     simp only[<-zf8]at a;simp only[<-zhm]at b
     generalize spl l.length=z at *
     generalize l.length=w at *
     rw[zaf (fd:=fd55) rfl]
     simp(implicitDefEqProofs:=false) (disch:=apply zq;omega) only[go_sem,simprocAttr,↓Nat.reduceEqDiff,xx,fd55,m55,↓out16_eq,H.out16_len,H.out16_all,H.out16_pl,hL,hT,zd0,k,a,b,e,e1,e2,H.noImms_bytesAV]
end
section
variable [Nonempty (GlR gl)]
end
end Go.Proofs.S44.M
