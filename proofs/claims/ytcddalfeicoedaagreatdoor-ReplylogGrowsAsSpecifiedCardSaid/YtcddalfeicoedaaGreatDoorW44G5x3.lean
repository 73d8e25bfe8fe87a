/-
  Integers and texts as bytes. No condition.
-/
import Derived.Test.YtcddalfeicoedaaGreatDoorW44G4x3
set_option linter.all false
open List renaming length_append->wA,length_take->wB,take_succ_eq_append_getElem->wC,length_cons->wD,append_assoc->wE,take_length->wF
open Nat renaming shiftRight_eq_div_pow->wG,exists_eq_add_of_le'->wH,div_div_eq_div_mul->wI,shiftLeft_eq->wJ,pow_zero->wK,pow_succ->wL,div_one->wM
open BitVec renaming toNat_ofNat->wN,toNat_ushiftRight->wO,eq_of_toNat_eq->wP,msb_eq_false_iff_two_mul_lt->wQ,toNat_shiftLeft->wR,toNat_setWidth->wS,toNat_ofInt->wT,toNat_not->wU,toNat_mul->wV
namespace Go.Proofs.S44.H
open Go Go.Ev Go.Proofs Go.Proofs.S44
variable {gl :Gl}
def vb (z:Nat):UInt8:=ub (BitVec.ofNat 8 (z%128+128))
def ve (z:Nat):UInt8:=ub (BitVec.ofNat 8 z)
def zkk :Nat->Nat->List UInt8
 | 0,z=>[ve z]
 | f+1,z=>if z<128 then [ve z]else vb z::zkk f (z/128)
def vint (z:Nat):List UInt8:=zkk 9 z
def vpre (z:Nat):Nat->List UInt8
 | 0=>[]
 | k+1=>vpre z k++[vb (z/128^k)]
theorem zfx (z k:Nat):(vpre z k).length=k:=by
 induction k with
 | zero=>rfl
 | succ k ih=>rw[vpre,wA,ih];rfl
theorem zqf (z:Nat):∀k f,(∀j,j<k->128<=z/128^j)->vpre z k++zkk f (z/128^k)=zkk (f+k) z
 | 0,f,_=>by simp[vpre]
 | k+1,f,h=>by
   have hk:=h k (by omega)
   have ih:=zqf z k (f+1) fun j hj=>h j (by omega)
   have e:zkk (f+1) (z/128^k)=vb (z/128^k)::zkk f (z/128^(k+1)):=by
    rw[zkk,if_neg (by omega),wI,wL]
   rw[vpre,wE,List.singleton_append,<-e,ih]
   congr 1;omega
theorem zuc (z k:Nat)(hk:k<=9)(h:∀j,j<k->128<=z/128^j)(he:z/128^k<128):vpre z k++[ve (z/128^k)]=vint z:=by
 have:=zqf z k (9-k) h
 rw[show 9-k+k=9 by omega]at this
 rw[vint,<-this]
 congr 1
 cases hf:9-k with
 | zero=>rfl
 | succ f=>rw[zkk,if_pos he]
def zzN (n:Int):Nat:=if n<0 then(2*(-1-n)+1).toNat else(2*n).toNat
theorem z7q {n:Int}(h:-9223372036854775808<=n/\n<=9223372036854775807):zzN n<2^64:=by unfold zzN;split<;>omega
theorem qhr (x:BitVec 64):(x<<<(1:Nat)^^^x.sshiftRight 63).toNat=zzN x.toInt:=by
 have hx:=x.isLt
 cases hm:x.msb with
 | false =>
   have h1:x.sshiftRight 63=0#64:=by
    rw[BitVec.sshiftRight_eq_of_msb_false hm]
    apply wP
    have:=wQ.1 hm
    rw[wO,wG,wN]
    omega
   have h2:=wQ.1 hm
   rw[h1,BitVec.xor_zero,wR,BitVec.toInt_eq_toNat_of_msb hm,wJ]
   unfold zzN
   rw[if_neg (by omega)]
   omega
 | true =>
   have h2:=BitVec.msb_eq_true_iff_two_mul_ge.1 hm
   have h1:x.sshiftRight 63=BitVec.allOnes 64:=by
    rw[BitVec.sshiftRight_eq_of_msb_true hm]
    have h0: ~~~x>>>(63:Nat)=0#64:=by
     apply wP
     rw[wO,wG,wU,wN]
     omega
    rw[h0];decide
   have h3:x.toInt=(x.toNat:Int)-18446744073709551616:=by rw[BitVec.toInt_eq_msb_cond,hm];rfl
   rw[h1,BitVec.xor_allOnes,wU,wR,h3,wJ]
   unfold zzN
   rw[if_pos (by omega)]
   omega
theorem qh9 :∀b:BitVec 8,b|||128#8=BitVec.ofNat 8 (b.toNat%128+128):=by decide +kernel
theorem qhw (y:BitVec 64):(y.setWidth 8|||128#8)=BitVec.ofNat 8 (y.toNat%128+128):=by
 rw[qh9,wS];congr 2;omega
theorem zup (x:BitVec 64)(k:Nat):(x>>>(7*k)).toNat=x.toNat/128^k:=by
 rw[wO,wG,Nat.pow_mul]
theorem pow9 {z:Nat}(h:z<2^64):z/128^9<128:=by
 have:(128:Nat)^9=9223372036854775808:=by decide
 rw[this];omega
def zint (n:Int):List UInt8:=vint (zzN n)
theorem zqg :∀f z,1<=(zkk f z).length/\(zkk f z).length<=f+1
 | 0,z=>by simp[zkk]
 | f+1,z=>by
   have:=zqg f (z/128)
   rw[zkk];split
   . simp
   . simp only[wD];omega
theorem zau (n:Int):1<=(zint n).length/\(zint n).length<=10:=zqg 9 _
def S53 (x:BitVec 64)(k:Nat):St :=
 ⟨[.set 4 (.sl 5004 [] 0 k),.set 3 (u64 (x>>>(7*k)))],[(5004,.grow .sc (zac (vpre x.toNat k)))]⟩
theorem int53_ok (d:Nat)(n:Int)(h:-9223372036854775808<=n/\n<=9223372036854775807):call gl tab (d+1) 154 [.int .i64 n] []=some (.sl 20000 [] 0 (zint n).length,[],[.grow .sc (zac (zint n))]):=by
 have hz:=z7q h
 obtain⟨x,rfl⟩:=qfc h.1 h.2
 have hzz:=qhr x
 rw[zad (fd:=z54) rfl]
 simp(disch:=apply zq;omega) only[go_sem,simprocAttr,↓Nat.reduceEqDiff,xx,z54,m154,z9q]
 generalize hy:x<<<(1:Nat)^^^x.sshiftRight 63=y at *
 have hyz:zint x.toInt=vint y.toNat:=by rw[zint,hzz]
 rw[hyz]
 rw[<-hzz]at hz
 rw[zu7 (S53 y) 9 (fun k=>128<=y.toNat/128^k) (by unfold LF;omega)]
 . obtain⟨hk,hlt,hge⟩:=zix (fun k=>128<=y.toNat/128^k) 9
   generalize fstN _ _=k at *
   have he:y.toNat/128^k<128:=by
    by_cases hn:k<9
    . have:=hge hn;omega
    . have:k=9:=by omega
      subst this;exact pow9 hz
   have hv:=zuc y.toNat k hk hlt he
   have hs:=zup y k
   have hvl:(vint y.toNat).length=k+1:=by rw[<-hv,wA,zfx];rfl
   have hb:zac (vint y.toNat)=zac (vpre y.toNat k)++[.int .u8 (((y>>>(7*k)).setWidth 8).toNat:Int)]:=by
    rw[<-hv,zaf]
    congr 1
    have e:(y>>>(7*k)).setWidth 8=BitVec.ofNat 8 (y.toNat/128^k):=by
     apply wP;rw[wS,hs,wN]
    rw[e];rfl
   clear hlt hge hy hzz
   rw[hb,hvl]
   have h127:(y>>>(7*k)).toNat<128:=by omega
   simp(disch:=apply zq;omega) only[go_sem,simprocAttr,↓Nat.reduceEqDiff,xx,S53,zab,zfx,zhq (show k<2^36 by omega)]
 . simp(disch:=apply zq;omega) only[go_sem,simprocAttr,↓Nat.reduceEqDiff,xx,S53];rfl
 . intro k hk hp
   have hs:=zup y k
   have e:y>>>(7*(k+1))=y>>>(7*k)>>>(7:Nat):=by rw[<-BitVec.shiftRight_add,show 7*(k+1)=7*k+7 by omega]
   have hb:zac (vpre y.toNat (k+1))=zac (vpre y.toNat k)++[.int .u8 (((y>>>(7*k)).setWidth 8|||128#8).toNat:Int)]:=by
    rw[vpre,zaf,qhw,hs];rfl
   clear hy hzz
   unfold S53
   rw[hb,e]
   have h127:128<=(y>>>(7*k)).toNat:=by omega
   simp(disch:=apply zq;omega) only[go_sem,simprocAttr,↓Nat.reduceEqDiff,xx,zab,zfx,zhq (show k<2^36 by omega)]
 . intro k hk hp
   have hs:=zup y k
   have h127:(y>>>(7*k)).toNat<128:=by omega
   clear hy hzz
   simp(disch:=apply zq;omega) only[go_sem,simprocAttr,↓Nat.reduceEqDiff,xx,S53]
 . have hs:=zup y 9
   have h9:=pow9 hz
   have h127:(y>>>(7*9)).toNat<128:=by omega
   clear hy hzz
   unfold S53
   generalize y>>>(7*9)=u at *
   simp(disch:=apply zq;omega) only[go_sem,simprocAttr,↓Nat.reduceEqDiff,xx]
end Go.Proofs.S44.H
namespace Go.Proofs.S44.H
open Go Go.Ev Go.Proofs Go.Proofs.S44
variable {gl :Gl}
theorem qaa (a:Nat):zar .rem .u64 (a:Int) 128=some (.int .u64 ((a%128:Nat):Int)):=by
 have h8:¬((128:Int)=0):=by decide
 simp only[zar,h8,if_false];rfl
theorem qah (a:Nat)(h:a<2^64):zar .quo .u64 (a:Int) 128=some (.int .u64 ((a/128:Nat):Int)):=by
 have h8:¬((128:Int)=0):=by decide
 simp only[zar,h8,if_false,zod]
 have e:(a:Int).tdiv 128=((a/128:Nat):Int):=rfl
 rw[e,BitVec.ofInt_natCast,wN,Nat.mod_eq_of_lt (by omega)]
theorem qdb {n:Int}(h:0<=n/\n<=9223372036854775807):(BitVec.ofInt 64 n*2#64).toNat=zzN n:=by
 unfold zzN
 rw[if_neg (by omega),wV,wT]
 simp only[wN]
 omega
theorem qdc {n:Int}(h:-9223372036854775808<=n/\n<0):(BitVec.ofInt 64 (-1-n)*2#64+1#64).toNat=zzN n:=by
 unfold zzN
 rw[if_pos (by omega),BitVec.toNat_add,wV,wT]
 simp only[wN]
 omega
def S54 (z:Nat)(k:Nat):St :=
 ⟨[.set 4 (.sl 5004 [] 0 k),.set 3 (.int .u64 ((z/128^k:Nat):Int))],[(5004,.grow .sc (zac (vpre z k)))]⟩
def L54 :MC:=match m155 with
 | .seq _ (.seq _ (.seq _ (.seq _ (.seq (.block _ (.loop _ b)) _))))=>b
 | _=>.skip
def K54 :List Kp:=[.slot 3,.own 4 5004 .sc]
theorem qez (F:Ev.Cl)(z:Nat)(hz:z<2^64) :
  ∃k,k<=9/\z/128^k<128/\zac (vint z)=zac (vpre z k)++[.int .u8 ((BitVec.ofNat 8 (z/128^k)).toNat:Int)]/\(vint z).length=k+1/\∀st,zda K54 st=some (S54 z 0)->iter (evC gl F L54) K54 LF st=evC gl F L54 (S54 z k):=by
 have main:=fun st h0=>zu7 (f:=evC gl F L54) (ks:=K54) (st:=st) (S54 z) 9 (fun k=>128<=z/128^k) (by unfold LF;omega) h0 ?_ ?_ ?_
 . obtain⟨hk,hlt,hge⟩:=zix (fun k=>128<=z/128^k) 9
   generalize fstN _ _=k at *
   have he:z/128^k<128:=by
    by_cases hn:k<9
    . have:=hge hn;omega
    . have:k=9:=by omega
      subst this;exact pow9 hz
   have hv:=zuc z k hk hlt he
   refine⟨k,hk,he,?_,?_,main⟩
   . rw[<-hv,zaf];rfl
   . rw[<-hv,wA,zfx];rfl
 . intro k hk hp
   have hlt:z/128^k<2^64:=Nat.lt_of_le_of_lt (Nat.div_le_self _ _) hz
   have hb:zac (vpre z (k+1))=zac (vpre z k)++[.int .u8 ((BitVec.ofNat 8 (z/128^k%128)+128#8).toNat:Int)]:=by
    rw[vpre,zaf,<-BitVec.ofNat_add];rfl
   have e:z/128^(k+1)=z/128^k/128:=by rw[wI,wL]
   have hl:=zfx z k
   unfold S54
   rw[hb,e]
   generalize z/128^k=y at *
   simp(disch:=apply zq;omega) only[go_sem,simprocAttr,↓Nat.reduceEqDiff,xx,L54,m155,K54,qaa,qah y hlt,zab,hl,zhq (show k<2^36 by omega)]
 . intro k hk hp
   unfold S54
   generalize z/128^k=y at *
   simp(disch:=apply zq;omega) only[go_sem,simprocAttr,↓Nat.reduceEqDiff,xx,L54,m155]
 . have h9:=pow9 hz
   unfold S54
   generalize z/128^9=y at *
   simp(disch:=apply zq;omega) only[go_sem,simprocAttr,↓Nat.reduceEqDiff,xx,L54,m155]
theorem int54_ok (d:Nat)(n:Int)(h:-9223372036854775808<=n/\n<=9223372036854775807):call gl tab (d+1) 155 [.int .i64 n] []=some (.sl 20000 [] 0 (zint n).length,[],[.grow .sc (zac (zint n))]):=by
 have hz:=z7q h
 rw[zad (fd:=z13) rfl]
 obtain⟨k,hk,he,hb,hl,e⟩:=qez (gl:=gl) (call gl tab d) (zzN n) hz
 simp only[L54,m155,K54]at e
 by_cases hn:n<0
 . have h1:=qdc (n:=n) (by omega)
   simp(disch:=apply zq;omega) only[go_sem,simprocAttr,↓Nat.reduceEqDiff,xx,z13,m155,h1]
   rw[e _ (by simp(disch:=apply zq;omega) only[go_sem,simprocAttr,↓Nat.reduceEqDiff,xx,S54,vpre,zac,wK,wM]),zint,hb,hl]
   unfold S54
   have hvl:=zfx (zzN n) k
   generalize zzN n/128^k=y at *
   simp(disch:=apply zq;omega) only[go_sem,simprocAttr,↓Nat.reduceEqDiff,xx,zab,hvl,zhq (show k<2^36 by omega)]
 . have h1:=qdb (n:=n) (by omega)
   simp(disch:=apply zq;omega) only[go_sem,simprocAttr,↓Nat.reduceEqDiff,xx,z13,m155,h1]
   rw[e _ (by simp(disch:=apply zq;omega) only[go_sem,simprocAttr,↓Nat.reduceEqDiff,xx,S54,vpre,zac,wK,wM]),zint,hb,hl]
   unfold S54
   have hvl:=zfx (zzN n) k
   generalize zzN n/128^k=y at *
   simp(disch:=apply zq;omega) only[go_sem,simprocAttr,↓Nat.reduceEqDiff,xx,zab,hvl,zhq (show k<2^36 by omega)]
def encB (s:List UInt8):List UInt8:=zint s.length++s
theorem zaw (s:List UInt8):(encB s).length<=s.length+10:=by have:=zau s.length;rw[encB,wA];omega
theorem bytes48_ok (d:Nat)(s:List UInt8)(hs:s.length<2^35):call gl tab (d+2) 131 [.str s] []=some (.sl 20000 [] 0 (encB s).length,[],[.grow .sc (zac (encB s))]):=by
 have h53:=int53_ok (gl:=gl) d (s.length:Int) (by omega)
 have hl:=zau s.length
 have hL:(zint (s.length:Int)).length+s.length<=LIM:=by unfold LIM;omega
 rw[zad (fd:=z6e) rfl]
 unfold encB
 generalize zint (s.length:Int)=z at *
 simp(disch:=apply zq;omega) only[go_sem,simprocAttr,↓Nat.reduceEqDiff,xx,z6e,m131,h53,zab,hL,zaf]
theorem bytes50_ok (d:Nat)(s:List UInt8)(hs:s.length<2^35):call gl tab (d+2) 156 [.str s] []=some (.sl 20000 [] 0 (encB s).length,[],[.grow .sc (zac (encB s))]):=by
 have h54:=int54_ok (gl:=gl) d (s.length:Int) (by omega)
 have hl:=zau s.length
 have hL:(zint (s.length:Int)).length+s.length<=LIM:=by unfold LIM;omega
 rw[zad (fd:=z53) rfl]
 unfold encB
 generalize zint (s.length:Int)=z at *
 simp(disch:=apply zq;omega) only[go_sem,simprocAttr,↓Nat.reduceEqDiff,xx,z53,m156,h54,zab,hL,zaf]
end Go.Proofs.S44.H
namespace Go.Proofs.S44.H
open Go Go.Ev Go.Proofs Go.Proofs.S44
variable {gl :Gl} [Nonempty (GlR gl)]
def Sml (l:List (List UInt8)):Prop:=l.length<=1000/\∀x∈l,x.length<=1048576
theorem zy7 {l:List (List UInt8)}(h:Sml l){i:Nat}(hi:i<l.length):l[i].length<=1048576:=h.2 _ (List.getElem_mem hi)
theorem zum {l:List (List UInt8)}(h:Sml l)(k:Nat):Sml (l.take k) :=
 ⟨by rw[wB];have:=h.1;omega,fun x hx=>h.2 x (List.mem_of_mem_take hx)⟩
def encL (l:List (List UInt8)):List UInt8:=(l.map encB).flatten
def inp (t:Int)(l:List (List UInt8)):List UInt8:=ub (BitVec.ofInt 8 t)::encL l
theorem z66 {l:List (List UInt8)}(h:Sml l):(encL l).length<=1048586000:=by
 have key:∀l:List (List UInt8),(∀x∈l,x.length<=1048576)->(encL l).length<=1048586*l.length:=by
  intro l
  induction l with
  | nil=>intro _;simp[encL]
  | cons x l ih =>
    intro h
    have h1:=h x (by simp)
    have h2:=ih fun y hy=>h y (by simp[hy])
    have h3:=zaw x
    simp only[encL,List.map_cons,List.flatten_cons,wA,wD]at *
    omega
 have h1:=key l h.2;have h2:=h.1;omega
theorem z2d (l:List (List UInt8))(i:Nat)(h:i<l.length):encL (l.take (i+1))=encL (l.take i)++encB l[i]:=by
 unfold encL;rw[wC h,List.map_append,List.flatten_append];simp
theorem zu9 (t:Int)(l:List (List UInt8))(i:Nat)(h:i<l.length):inp t (l.take (i+1))=inp t (l.take i)++encB l[i]:=by
 rw[inp,inp,z2d l i h];rfl
theorem zpl {t:Int}{l:List (List UInt8)}(h:Sml l):(inp t l).length<=1048586001:=by
 have:=z66 h;simp only[inp,wD];omega
def S36 (nb:Bool)(t:Int)(l:List (List UInt8))(i:Nat):St :=
 ⟨[.set 6 (.int .i64 i),.set 5 (.sl 5005 [] 0 (inp t (l.take i)).length),.set 1 (.lst nb .sc (strsAV l))],[(5005,.grow .sc (zac (inp t (l.take i))))]⟩
theorem z5a (d:Nat)(t:Int)(nb:Bool)(l:List (List UInt8))(h:Sml l):call gl tab (d+3) 136 [.int .i64 t,.lst nb .sc (strsAV l)] []=some (.sl 20000 [] 0 (inp t l).length,[],[.grow .sc (zac (inp t l))]):=by
 have h1:=h.1
 rw[zad (fd:=z6b) rfl]
 simp(disch:=apply zq;omega) only[go_sem,simprocAttr,↓Nat.reduceEqDiff,xx,z6b,m136]
 rw[zag (S36 nb t l) l.length (by unfold LF;omega)]
 . simp(disch:=apply zq;omega) only[go_sem,simprocAttr,↓Nat.reduceEqDiff,xx,S36,zaa,wF,zab]
 . simp(disch:=apply zq;omega) only[go_sem,simprocAttr,↓Nat.reduceEqDiff,xx,S36];rfl
 . intro i hi
   have h2:=zy7 h hi
   have h3:=zpl (t:=t) (zum h i)
   have h4:=zaw l[i]
   have hb:=bytes50_ok (gl:=gl) d l[i] (by omega)
   have hL:(inp t (l.take i)).length+(encB l[i]).length<=LIM:=by unfold LIM;omega
   unfold S36
   rw[zu9 t l i hi,zaf,wA]
   generalize inp t (l.take i)=p at *
   have hgi:=zai hi
   generalize encB l[i]=q at *
   simp(disch:=apply zq;omega) only[go_sem,simprocAttr,↓Nat.reduceEqDiff,xx,hgi,zaa,hb,zab,hL]
 . simp(disch:=apply zq;omega) only[go_sem,simprocAttr,↓Nat.reduceEqDiff,xx,S36,zaa]
def dig (m:List UInt8):List UInt8:=(zjn m).take 16
theorem dig_len (m:List UInt8):(dig m).length=16:=by rw[dig,wB,ziu];rfl
def outS (h:List UInt8)(i:Nat):List UInt8:=h.take i++List.replicate (16-i) 0
theorem z0a (h:List UInt8)(i:Nat)(hl:h.length=32)(hi:i<16):outS h (i+1)=(outS h i).set i (h.getD i 0):=by
 have e:16-i=(16-(i+1))+1:=by omega
 have hi':i<h.length:=by omega
 unfold outS
 rw[e,List.replicate_succ,wC hi',List.getD_eq_getElem?_getD,List.getElem?_eq_getElem hi']
 rw[List.set_append,if_neg (by rw[wB];omega),wB,show i-min i h.length=0 by omega]
 rw[wE];rfl
theorem z4w (h:List UInt8)(i:Nat)(hl:h.length=32)(hi:i<=16):(outS h i).length=16:=by
 unfold outS;rw[wA,wB,List.length_replicate];omega
def out16l :List AV:=List.replicate 16 (.int .u8 0)
theorem zl1 :List.replicate 16 (AV.int .u8 0)=out16l:=rfl
theorem out16_len :out16l.length=16:=rfl
theorem out16_all :out16l.all AV.scalar=true:=by kernel_rfl
theorem out16_pl :AV.plains out16l=true:=by kernel_rfl
theorem oo :out16l.length=16/\out16l.all AV.scalar=true/\AV.plains out16l=true:=⟨out16_len,out16_all,out16_pl⟩
def S49 (h:List UInt8)(i:Nat):St :=
 ⟨[.set 5 (.int .i64 i),.set 4 (.ptr 4 []),.set 3 (.ptr 3 []),.set 2 (.ptr 2 [])],[(4,.fix (.ar 16 .sc) (.agg (zac (outS h i)))),(3,.fix (.ar 32 .sc) (.agg (zac h))),(2,.fix (.ar 16 .sc) (.agg out16l))]⟩
theorem zr6 (l:List UInt8)(i:Nat)(b:UInt8):zac (l.set i b)=(zac l).set i (.int .u8 (b.toBitVec.toNat:Int)):=zg1 l i b.toBitVec
theorem qen (h:List UInt8):zac (outS h 0)=out16l:=rfl
theorem z3n {n:Nat}(hn:3<=n)(nb:Bool)(m:List UInt8)(hm:m.length<2^34):call gl tab (n+1) 135 [.lst nb .sc (zac m)] []=some (.agg (zac (dig m)),[],[]):=by
 have h30:=z9x (gl:=gl) hn nb m hm
 have hl:=ziu m
 have hd:dig m=outS (zjn m) 16:=by unfold dig outS;simp
 have ho2:AV.agg (List.replicate 32 (.int .u8 0))=out32:=rfl
 have hdl:=dig_len m
 rw[zad (fd:=z6c) rfl]
 rw[hd]at hdl ⊢
 generalize zjn m=h at *
 simp(disch:=apply zq;omega) only[go_sem,simprocAttr,↓Nat.reduceEqDiff,xx,z6c,m135,h30,↓zl1,out16_len,out16_all,out16_pl,↓ho2,zab,hl,bytes_all,za4]
 rw[zag (S49 h) 16 (by unfold LF;omega)]
 . simp(disch:=apply zq;omega) only[go_sem,simprocAttr,↓Nat.reduceEqDiff,xx,S49,zab,bytes_all,hdl]
 . simp(disch:=apply zq;omega) only[go_sem,simprocAttr,↓Nat.reduceEqDiff,xx,S49,qen]
 . intro i hi
   have hol:=z4w h i hl (by omega)
   have g1:=zd6 (l:=h) (i:=i) (by omega)
   have g2:=zd6 (l:=outS h i) (i:=i) (by omega)
   unfold S49
   rw[z0a h i hl hi,zr6]
   simp(disch:=apply zq;omega) only[go_sem,simprocAttr,↓Nat.reduceEqDiff,xx,g1,g2,zab,hl,hol]
 . simp(disch:=apply zq;omega) only[go_sem,simprocAttr,↓Nat.reduceEqDiff,xx,S49]
theorem rof_at {n:Nat}(hn:3<=n)(t:Int)(nb:Bool)(l:List (List UInt8))(h:Sml l):call gl tab (n+2) 88 [.int .i64 t,.lst nb .sc (strsAV l)] []=some (.agg (zac (dig (inp t l))),[],[]):=by
 obtain⟨d,rfl⟩:=wH (show 2<=n by omega)
 have hi:=z5a (gl:=gl) d t nb l h
 have h1:=zpl (t:=t) h
 have hs:=z3n (gl:=gl) (n:=d+2) (by omega) false (inp t l) (by omega)
 have hdl:=dig_len (inp t l)
 rw[zad (fd:=fd88) rfl]
 generalize dig (inp t l)=D at *
 generalize inp t l=m at *
 simp(disch:=apply zq;omega) only[go_sem,simprocAttr,↓Nat.reduceEqDiff,xx,fd88,m88,hi,hs,↓zl1,out16_len,out16_all,out16_pl,zab,hdl,bytes_all,noImms_bytesAV]
end Go.Proofs.S44.H
namespace Go.Proofs.S44.H
open Go Go.Ev Go.Proofs Go.Proofs.S44
variable {gl :Gl} [Nonempty (GlK gl)]
def z64l :List AV:=List.replicate 64 (.int .u8 0)
theorem z8p :List.replicate 64 (AV.int .u8 0)=z64l:=rfl
def z32l :List AV:=List.replicate 32 (.int .u8 0)
theorem z8q :List.replicate 32 (AV.int .u8 0)=z32l:=rfl
def S34 (nb:Bool)(l:List (List UInt8))(s:Sm)(i:Nat):St :=
 ⟨[.set 17 (.int .i64 i),.set 16 (.int .i64 l.length),.set 15 (.lst nb .sc (strsAV l)),.set 5 (.ptr 5 []),.set 4 (.ptr 4 [])],
  [(5,.fix (.st [.ar 8 .sc,.ar 64 .sc,.sc]) s.av),(4,.fix (.ar 16 .sc) (.agg out16l))]⟩
def L34 :MC:=match m87 with
 | .seq _ (.seq _ (.seq (.seq _ (.block _ (.loop _ b))) _))=>b
 | _=>.skip
def K34 :List Kp:=[.slot 4,.slot 5,.slot 15,.slot 16,.slot 17,.key 4,.key 5]
theorem qe1 (F:Ev.Cl)(nb:Bool)(t:Int)(l:List (List UInt8))(h:Sml l)(s1:Sm)(hr1:Reps s1 [ub (BitVec.ofInt 8 t)])
  (c48:∀s:List UInt8,s.length<2^35->F 131 [.str s] []=some (.sl 20000 [] 0 (encB s).length,[],[.grow .sc (zac (encB s))]))
  (c32:∀(s:Sm) (m x:List UInt8),Reps s m->m.length+x.length<2^60->∃s',Reps s' (m++x)/\F 133 [s.av,.str x] []=some (s'.av,[],[])) :
  ∃s,Reps s (inp t l)/\∀st,zda K34 st=some (S34 nb l s1 0)->iter (evC gl F L34) K34 LF st=evC gl F L34 (S34 nb l s l.length):=by
 have h1:=h.1
 have hstep:∀i st,i<l.length->(∃s,Reps s (inp t (l.take i))/\st=S34 nb l s i)->∃st',zbd K34 (evC gl F L34 st)=some st'/\∃s,Reps s (inp t (l.take (i+1)))/\st'=S34 nb l s (i+1):=by
  rintro i _ hi ⟨s,hs,rfl⟩
  have h2:=zy7 h hi
  have h3:=zpl (t:=t) (zum h i)
  have h4:=zaw l[i]
  have c1:=c48 l[i] (by omega)
  obtain⟨s2,hr2,c2⟩:=c32 s _ (encB l[i]) hs (by omega)
  rw[<-zu9 t l i hi]at hr2
  refine⟨_,?_,s2,hr2,rfl⟩
  have hgi:=zai hi
  have hbl:=hs.2.1
  have hbl2:=hr2.2.1
  simp only[Sm.av,H8.av]at c2
  generalize encB l[i]=q at *
  simp(disch:=apply zq;omega) only[go_sem,simprocAttr,↓Nat.reduceEqDiff,xx,L34,m87,K34,S34,Sm.av,H8.av,hgi,zaa,c1,c2,zab,bytes_all,hbl,hbl2,out16_len]
 have hend:∀st,(∃s,Reps s (inp t (l.take l.length))/\st=S34 nb l s l.length)->isEx (evC gl F L34 st)=true:=by
  rintro _ ⟨s,hs,rfl⟩
  simp(disch:=apply zq;omega) only[go_sem,simprocAttr,↓Nat.reduceEqDiff,xx,L34,m87,S34]
 obtain⟨s',⟨s,hs,rfl⟩,e⟩:=z47 (f:=evC gl F L34) (ks:=K34) (fun i st=>∃s,Reps s (inp t (l.take i))/\st=S34 nb l s i) l.length (by unfold LF;omega) ⟨s1,hr1,rfl⟩ hstep hend
 rw[wF]at hs
 exact⟨s,hs,e⟩
theorem of_at {n:Nat}(hn:5<=n)(t:Int)(nb:Bool)(l:List (List UInt8))(h:Sml l):call gl tab (n+1) 87 [.int .i64 t,.lst nb .sc (strsAV l)] []=some (.agg (zac (dig (inp t l))),[],[]):=by
 have h1:=h.1
 have hb:=@zzi gl _ n (by omega)
 have hil:=zpl (t:=t) h
 obtain⟨s1,hr1,ha1⟩:=zsi (gl:=gl) (n:=n) (by omega) s0 [] [ub (BitVec.ofInt 8 t)] qh5 (by simp)
 rw[List.nil_append]at hr1
 have hbl1:=hr1.2.1
 obtain⟨s,hs,e⟩:=qe1 (gl:=gl) (call gl tab n) nb t l h s1 hr1 (fun s hs=>by
  obtain⟨d,rfl⟩:=wH (show 2<=n by omega)
  exact bytes48_ok d s hs) (fun s m x hs hm=>zsi (by omega) s m x hs hm)
 simp only[L34,m87,K34]at e
 rw[zad (fd:=fd87) rfl]
 have hub:UInt8.ofNat ((((BitVec.ofInt 8 t).toNat:Nat):Int)).toNat=ub (BitVec.ofInt 8 t):=by
  rw[Int.toNat_natCast];apply UInt8.toBitVec_inj.1
  show BitVec.ofNat 8 _=_
  rw[BitVec.ofNat_toNat,BitVec.setWidth_eq];rfl
 have hub2:UInt8.ofNat (BitVec.ofInt 8 t).toNat=ub (BitVec.ofInt 8 t):=by rw[Int.toNat_natCast]at hub;exact hub
 simp only[Sm.av,H8.av]at hb ha1
 have hb0:s0.blk.length=64:=by simp[s0]
 simp(disch:=apply zq;omega) only[go_sem,simprocAttr,↓Nat.reduceEqDiff,xx,fd87,m87,↓z8p,↓z8q,↓zl1,hb,ha1,zg0,Ev.byteOf,hub,hub2,noImms_bytesAV,zab,bytes_all,hbl1,hb0]
 rw[e _ (by simp(disch:=apply zq;omega) only[go_sem,simprocAttr,↓Nat.reduceEqDiff,xx,S34,Sm.av,H8.av,zab,zaa])]
 have hsum:=z9k (gl:=gl) hn s _ hs (by omega)
 have hl:=ziu (inp t l)
 have hdl:=dig_len (inp t l)
 have hdd:List.take 16 (zac (zjn (inp t l)))=zac (dig (inp t l)):=by rw[zhm];rfl
 have hbl:=hs.2.1
 simp only[Sm.av,H8.av]at hsum
 simp(disch:=apply zq;omega) only[go_sem,simprocAttr,↓Nat.reduceEqDiff,xx,S34,Sm.av,H8.av,zab,bytes_all,hbl,hsum,noImms_bytesAV,hl,hdl,hdd,out16_len]
end Go.Proofs.S44.H
