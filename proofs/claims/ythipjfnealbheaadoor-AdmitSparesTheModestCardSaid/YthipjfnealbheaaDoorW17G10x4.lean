/-
  Integers and texts as bytes. No condition.
-/
import Derived.Test.YthipjfnealbheaaDoorW17G9x4
import Derived.Test.YthipjfnealbheaaDoorW17
import Derived.Test.YthipjfnealbheaaDoorEvY
set_option linter.all false
open List renaming length_append->wB,length_cons->wC,length_take->wD
open BitVec renaming toNat_ushiftRight->wE,eq_of_toNat_eq->wF,toNat_ofNat->wG,msb_eq_false_iff_two_mul_lt->wH,toNat_shiftLeft->wJ,toNat_setWidth->wK,toNat_not->wL
open Nat renaming shiftRight_eq_div_pow->wM,shiftLeft_eq->wN
namespace Go.Proofs.S17.H
open Go Go.Ev Go.Proofs Go.Proofs.S17
variable {gl :Gl}
def vb (z:Nat):UInt8:=ub (BitVec.ofNat 8 (z%128+128))
def ve (z:Nat):UInt8:=ub (BitVec.ofNat 8 z)
def zj6 :Nat->Nat->List UInt8
 | 0,z=>[ve z]
 | f+1,z=>if z<128 then [ve z]else vb z::zj6 f (z/128)
def vint (z:Nat):List UInt8:=zj6 9 z
def vpre (z:Nat):Nat->List UInt8
 | 0=>[]
 | k+1=>vpre z k++[vb (z/128^k)]
theorem znu (z k:Nat):(vpre z k).length=k:=by
 induction k with
 | zero=>rfl
 | succ k ih=>rw[vpre,wB,ih];rfl
theorem zpt (z:Nat):∀k f,(∀j,j<k->128<=z/128^j)->vpre z k++zj6 f (z/128^k)=zj6 (f+k) z
 | 0,f,_=>by simp[vpre]
 | k+1,f,h=>by
   have hk:=h k (by omega)
   have ih:=zpt z k (f+1) fun j hj=>h j (by omega)
   have e:zj6 (f+1) (z/128^k)=vb (z/128^k)::zj6 f (z/128^(k+1)):=by
    rw[zj6,if_neg (by omega),Nat.div_div_eq_div_mul,Nat.pow_succ]
   rw[vpre,List.append_assoc,List.singleton_append,<-e,ih]
   congr 1;omega
theorem z3b (z k:Nat)(hk:k<=9)(h:∀j,j<k->128<=z/128^j)(he:z/128^k<128):vpre z k++[ve (z/128^k)]=vint z:=by
 have:=zpt z k (9-k) h
 rw[show 9-k+k=9 by omega]at this
 rw[vint,<-this]
 congr 1
 cases hf:9-k with
 | zero=>rfl
 | succ f=>rw[zj6,if_pos he]
def zzN (n:Int):Nat:=if n<0 then(2*(-1-n)+1).toNat else(2*n).toNat
theorem qcy {n:Int}(h:-9223372036854775808<=n/\n<=9223372036854775807):zzN n<2^64:=by unfold zzN;split<;>omega
theorem qg5 (x:BitVec 64):(x<<<(1:Nat)^^^x.sshiftRight 63).toNat=zzN x.toInt:=by
 have hx:=x.isLt
 cases hm:x.msb with
 | false =>
   have h1:x.sshiftRight 63=0#64:=by
    rw[BitVec.sshiftRight_eq_of_msb_false hm]
    apply wF
    have:=wH.1 hm
    rw[wE,wM,wG]
    omega
   have h2:=wH.1 hm
   rw[h1,BitVec.xor_zero,wJ,BitVec.toInt_eq_toNat_of_msb hm,wN]
   unfold zzN
   rw[if_neg (by omega)]
   omega
 | true =>
   have h2:=BitVec.msb_eq_true_iff_two_mul_ge.1 hm
   have h1:x.sshiftRight 63=BitVec.allOnes 64:=by
    rw[BitVec.sshiftRight_eq_of_msb_true hm]
    have h0: ~~~x>>>(63:Nat)=0#64:=by
     apply wF
     rw[wE,wM,wL,wG]
     omega
    rw[h0];decide
   have h3:x.toInt=(x.toNat:Int)-18446744073709551616:=by rw[BitVec.toInt_eq_msb_cond,hm];rfl
   rw[h1,BitVec.xor_allOnes,wL,wJ,h3,wN]
   unfold zzN
   rw[if_pos (by omega)]
   omega
theorem qho :∀b:BitVec 8,b|||128#8=BitVec.ofNat 8 (b.toNat%128+128):=by decide +kernel
theorem qhc (y:BitVec 64):(y.setWidth 8|||128#8)=BitVec.ofNat 8 (y.toNat%128+128):=by
 rw[qho,wK];congr 2;omega
theorem zt2 (x:BitVec 64)(k:Nat):(x>>>(7*k)).toNat=x.toNat/128^k:=by
 rw[wE,wM,Nat.pow_mul]
theorem pow9 {z:Nat}(h:z<2^64):z/128^9<128:=by
 have:(128:Nat)^9=9223372036854775808:=by decide
 rw[this];omega
def zint (n:Int):List UInt8:=vint (zzN n)
theorem zpu :∀f z,1<=(zj6 f z).length/\(zj6 f z).length<=f+1
 | 0,z=>by simp[zj6]
 | f+1,z=>by
   have:=zpu f (z/128)
   rw[zj6];split
   . simp
   . simp only[wC];omega
theorem ztp (n:Int):1<=(zint n).length/\(zint n).length<=10:=zpu 9 _
def S53 (x:BitVec 64)(k:Nat):St :=
 ⟨[.set 4 (.sl 5004 [] 0 k),.set 3 (u64 (x>>>(7*k)))],[(5004,.grow .sc (zad (vpre x.toNat k)))]⟩
theorem z49 (d:Nat)(n:Int)(h:-9223372036854775808<=n/\n<=9223372036854775807):call gl tab (d+1) 94 [.int .i64 n] []=some (.sl 20000 [] 0 (zint n).length,[],[.grow .sc (zad (zint n))]):=by
 have hz:=qcy h
 obtain⟨x,rfl⟩:=qe6 h.1 h.2
 have hzz:=qg5 x
 rw[zah (fd:=fd94) rfl]
 simp(disch:=apply zq;omega) only[go_sem,simprocAttr,↓Nat.reduceEqDiff,xx,fd94,m94,z9c]
 generalize hy:x<<<(1:Nat)^^^x.sshiftRight 63=y at *
 have hyz:zint x.toInt=vint y.toNat:=by rw[zint,hzz]
 rw[hyz]
 rw[<-hzz]at hz
 rw[z46 (S53 y) 9 (fun k=>128<=y.toNat/128^k) (by unfold LF;omega)]
 . obtain⟨hk,hlt,hge⟩:=zhf (fun k=>128<=y.toNat/128^k) 9
   generalize fstN _ _=k at *
   have he:y.toNat/128^k<128:=by
    by_cases hn:k<9
    . have:=hge hn;omega
    . have:k=9:=by omega
      subst this;exact pow9 hz
   have hv:=z3b y.toNat k hk hlt he
   have hs:=zt2 y k
   have hvl:(vint y.toNat).length=k+1:=by rw[<-hv,wB,znu];rfl
   have hb:zad (vint y.toNat)=zad (vpre y.toNat k)++[.int .u8 (((y>>>(7*k)).setWidth 8).toNat:Int)]:=by
    rw[<-hv,zb3]
    congr 1
    have e:(y>>>(7*k)).setWidth 8=BitVec.ofNat 8 (y.toNat/128^k):=by
     apply wF;rw[wK,hs,wG]
    rw[e];rfl
   clear hlt hge hy hzz
   rw[hb,hvl]
   have h127:(y>>>(7*k)).toNat<128:=by omega
   simp(disch:=apply zq;omega) only[go_sem,simprocAttr,↓Nat.reduceEqDiff,xx,S53,zal,znu,zud (show k<2^36 by omega)]
 . simp(disch:=apply zq;omega) only[go_sem,simprocAttr,↓Nat.reduceEqDiff,xx,S53];rfl
 . intro k hk hp
   have hs:=zt2 y k
   have e:y>>>(7*(k+1))=y>>>(7*k)>>>(7:Nat):=by rw[<-BitVec.shiftRight_add,show 7*(k+1)=7*k+7 by omega]
   have hb:zad (vpre y.toNat (k+1))=zad (vpre y.toNat k)++[.int .u8 (((y>>>(7*k)).setWidth 8|||128#8).toNat:Int)]:=by
    rw[vpre,zb3,qhc,hs];rfl
   clear hy hzz
   unfold S53
   rw[hb,e]
   have h127:128<=(y>>>(7*k)).toNat:=by omega
   simp(disch:=apply zq;omega) only[go_sem,simprocAttr,↓Nat.reduceEqDiff,xx,zal,znu,zud (show k<2^36 by omega)]
 . intro k hk hp
   have hs:=zt2 y k
   have h127:(y>>>(7*k)).toNat<128:=by omega
   clear hy hzz
   simp(disch:=apply zq;omega) only[go_sem,simprocAttr,↓Nat.reduceEqDiff,xx,S53]
 . have hs:=zt2 y 9
   have h9:=pow9 hz
   have h127:(y>>>(7*9)).toNat<128:=by omega
   clear hy hzz
   unfold S53
   generalize y>>>(7*9)=u at *
   simp(disch:=apply zq;omega) only[go_sem,simprocAttr,↓Nat.reduceEqDiff,xx]
end Go.Proofs.S17.H
namespace Go.Proofs.S17.H
open Go Go.Ev Go.Proofs Go.Proofs.S17
variable {gl :Gl}
def encB (s:List UInt8):List UInt8:=zint s.length++s
theorem zu3 (s:List UInt8):(encB s).length<=s.length+10:=by have:=ztp s.length;rw[encB,wB];omega
theorem zxx (d:Nat)(s:List UInt8)(hs:s.length<2^35):call gl tab (d+2) 91 [.str s] []=some (.sl 20000 [] 0 (encB s).length,[],[.grow .sc (zad (encB s))]):=by
 have h53:=z49 (gl:=gl) d (s.length:Int) (by omega)
 have hl:=ztp s.length
 have hL:(zint (s.length:Int)).length+s.length<=LIM:=by unfold LIM;omega
 rw[zah (fd:=fd91) rfl]
 unfold encB
 generalize zint (s.length:Int)=z at *
 simp(disch:=apply zq;omega) only[go_sem,simprocAttr,↓Nat.reduceEqDiff,xx,fd91,m91,h53,zal,hL,zb3]
end Go.Proofs.S17.H
namespace Go.Proofs.S17.H
open Go Go.Ev Go.Proofs Go.Proofs.S17
variable {gl :Gl} [Nonempty (GlR gl)]
def Sml (l:List (List UInt8)):Prop:=l.length<=1000/\∀x∈l,x.length<=1048576
theorem z86 {l:List (List UInt8)}(h:Sml l){i:Nat}(hi:i<l.length):l[i].length<=1048576:=h.2 _ (List.getElem_mem hi)
theorem z3p {l:List (List UInt8)}(h:Sml l)(k:Nat):Sml (l.take k) :=
 ⟨by rw[wD];have:=h.1;omega,fun x hx=>h.2 x (List.mem_of_mem_take hx)⟩
def encL (l:List (List UInt8)):List UInt8:=(l.map encB).flatten
def inp (t:Int)(l:List (List UInt8)):List UInt8:=ub (BitVec.ofInt 8 t)::encL l
theorem z57 {l:List (List UInt8)}(h:Sml l):(encL l).length<=1048586000:=by
 have key:∀l:List (List UInt8),(∀x∈l,x.length<=1048576)->(encL l).length<=1048586*l.length:=by
  intro l
  induction l with
  | nil=>intro _;simp[encL]
  | cons x l ih =>
    intro h
    have h1:=h x (by simp)
    have h2:=ih fun y hy=>h y (by simp[hy])
    have h3:=zu3 x
    simp only[encL,List.map_cons,List.flatten_cons,wB,wC]at *
    omega
 have h1:=key l h.2;have h2:=h.1;omega
theorem z12 (l:List (List UInt8))(i:Nat)(h:i<l.length):encL (l.take (i+1))=encL (l.take i)++encB l[i]:=by
 unfold encL;rw[List.take_succ_eq_append_getElem h,List.map_append,List.flatten_append];simp
theorem z5c (t:Int)(l:List (List UInt8))(i:Nat)(h:i<l.length):inp t (l.take (i+1))=inp t (l.take i)++encB l[i]:=by
 rw[inp,inp,z12 l i h];rfl
theorem z0w {t:Int}{l:List (List UInt8)}(h:Sml l):(inp t l).length<=1048586001:=by
 have:=z57 h;simp only[inp,wC];omega
def S36 (nb:Bool)(t:Int)(l:List (List UInt8))(i:Nat):St :=
 ⟨[.set 6 (.int .i64 i),.set 5 (.sl 5005 [] 0 (inp t (l.take i)).length),.set 1 (.lst nb .sc (zku l))],[(5005,.grow .sc (zad (inp t (l.take i))))]⟩
def dig (m:List UInt8):List UInt8:=(zq2 m).take 16
theorem dig_len (m:List UInt8):(dig m).length=16:=by rw[dig,wD,zq1];rfl
def out16l :List AV:=List.replicate 16 (.int .u8 0)
theorem zzl :List.replicate 16 (AV.int .u8 0)=out16l:=rfl
theorem zqn :out16l.length=16:=rfl
end Go.Proofs.S17.H
namespace Go.Proofs.S17.H
open Go Go.Ev Go.Proofs Go.Proofs.S17
variable {gl :Gl} [Nonempty (GlK gl)]
def z64l :List AV:=List.replicate 64 (.int .u8 0)
theorem z72 :List.replicate 64 (AV.int .u8 0)=z64l:=rfl
def z32l :List AV:=List.replicate 32 (.int .u8 0)
theorem z73 :List.replicate 32 (AV.int .u8 0)=z32l:=rfl
def S34 (nb:Bool)(l:List (List UInt8))(s:Sm)(i:Nat):St :=
 ⟨[.set 17 (.int .i64 i),.set 16 (.int .i64 l.length),.set 15 (.lst nb .sc (zku l)),.set 5 (.ptr 5 []),.set 4 (.ptr 4 [])],
  [(5,.fix (.st [.ar 8 .sc,.ar 64 .sc,.sc]) s.av),(4,.fix (.ar 16 .sc) (.agg out16l))]⟩
def L34 :MC:=match m88 with
 | .seq _ (.seq _ (.seq (.seq _ (.block _ (.loop _ b))) _))=>b
 | _=>.skip
def K34 :List Kp:=[.slot 4,.slot 5,.slot 15,.slot 16,.slot 17,.key 4,.key 5]
theorem qeq (F:Ev.Cl)(nb:Bool)(t:Int)(l:List (List UInt8))(h:Sml l)(s1:Sm)(hr1:Reps s1 [ub (BitVec.ofInt 8 t)])
  (c48:∀s:List UInt8,s.length<2^35->F 91 [.str s] []=some (.sl 20000 [] 0 (encB s).length,[],[.grow .sc (zad (encB s))]))
  (c32:∀(s:Sm) (m x:List UInt8),Reps s m->m.length+x.length<2^60->∃s',Reps s' (m++x)/\F 90 [s.av,.str x] []=some (s'.av,[],[])) :
  ∃s,Reps s (inp t l)/\∀st,zdf K34 st=some (S34 nb l s1 0)->iter (evC gl F L34) K34 LF st=evC gl F L34 (S34 nb l s l.length):=by
 have h1:=h.1
 have hstep:∀i st,i<l.length->(∃s,Reps s (inp t (l.take i))/\st=S34 nb l s i)->∃st',zbn K34 (evC gl F L34 st)=some st'/\∃s,Reps s (inp t (l.take (i+1)))/\st'=S34 nb l s (i+1):=by
  rintro i _ hi ⟨s,hs,rfl⟩
  have h2:=z86 h hi
  have h3:=z0w (t:=t) (z3p h i)
  have h4:=zu3 l[i]
  have c1:=c48 l[i] (by omega)
  obtain⟨s2,hr2,c2⟩:=c32 s _ (encB l[i]) hs (by omega)
  rw[<-z5c t l i hi]at hr2
  refine⟨_,?_,s2,hr2,rfl⟩
  have hgi:=zvt hi
  have hbl:=hs.2.1
  have hbl2:=hr2.2.1
  simp only[Sm.av,H8.av]at c2
  generalize encB l[i]=q at *
  simp(disch:=apply zq;omega) only[go_sem,simprocAttr,↓Nat.reduceEqDiff,xx,L34,m88,K34,S34,Sm.av,H8.av,hgi,zh3,c1,c2,zal,bytes_all,hbl,hbl2,zqn]
 have hend:∀st,(∃s,Reps s (inp t (l.take l.length))/\st=S34 nb l s l.length)->isEx (evC gl F L34 st)=true:=by
  rintro _ ⟨s,hs,rfl⟩
  simp(disch:=apply zq;omega) only[go_sem,simprocAttr,↓Nat.reduceEqDiff,xx,L34,m88,S34]
 obtain⟨s',⟨s,hs,rfl⟩,e⟩:=z45 (f:=evC gl F L34) (ks:=K34) (fun i st=>∃s,Reps s (inp t (l.take i))/\st=S34 nb l s i) l.length (by unfold LF;omega) ⟨s1,hr1,rfl⟩ hstep hend
 rw[List.take_length]at hs
 exact⟨s,hs,e⟩
theorem of_at {n:Nat}(hn:5<=n)(t:Int)(nb:Bool)(l:List (List UInt8))(h:Sml l):call gl tab (n+1) 88 [.int .i64 t,.lst nb .sc (zku l)] []=some (.agg (zad (dig (inp t l))),[],[]):=by
 have h1:=h.1
 have hb:=@zyy gl _ n (by omega)
 have hil:=z0w (t:=t) h
 obtain⟨s1,hr1,ha1⟩:=zr7 (gl:=gl) (n:=n) (by omega) s0 [] [ub (BitVec.ofInt 8 t)] qhm (by simp)
 rw[List.nil_append]at hr1
 have hbl1:=hr1.2.1
 obtain⟨s,hs,e⟩:=qeq (gl:=gl) (call gl tab n) nb t l h s1 hr1 (fun s hs=>by
  obtain⟨d,rfl⟩:=Nat.exists_eq_add_of_le' (show 2<=n by omega)
  exact zxx d s hs) (fun s m x hs hm=>zr7 (by omega) s m x hs hm)
 simp only[L34,m88,K34]at e
 rw[zah (fd:=fd88) rfl]
 have hub:UInt8.ofNat ((((BitVec.ofInt 8 t).toNat:Nat):Int)).toNat=ub (BitVec.ofInt 8 t):=by
  rw[Int.toNat_natCast];apply UInt8.toBitVec_inj.1
  show BitVec.ofNat 8 _=_
  rw[BitVec.ofNat_toNat,BitVec.setWidth_eq];rfl
 have hub2:UInt8.ofNat (BitVec.ofInt 8 t).toNat=ub (BitVec.ofInt 8 t):=by rw[Int.toNat_natCast]at hub;exact hub
 simp only[Sm.av,H8.av]at hb ha1
 have hb0:s0.blk.length=64:=by simp[s0]
 simp(disch:=apply zq;omega) only[go_sem,simprocAttr,↓Nat.reduceEqDiff,xx,fd88,m88,↓z72,↓z73,↓zzl,hb,ha1,zgy,Ev.byteOf,hub,hub2,noImms_bytesAV,zal,bytes_all,hbl1,hb0]
 rw[e _ (by simp(disch:=apply zq;omega) only[go_sem,simprocAttr,↓Nat.reduceEqDiff,xx,S34,Sm.av,H8.av,zal,zh3])]
 have hsum:=z82 (gl:=gl) hn s _ hs (by omega)
 have hl:=zq1 (inp t l)
 have hdl:=dig_len (inp t l)
 have hdd:List.take 16 (zad (zq2 (inp t l)))=zad (dig (inp t l)):=by rw[zjh];rfl
 have hbl:=hs.2.1
 simp only[Sm.av,H8.av]at hsum
 simp(disch:=apply zq;omega) only[go_sem,simprocAttr,↓Nat.reduceEqDiff,xx,S34,Sm.av,H8.av,zal,bytes_all,hbl,hsum,noImms_bytesAV,hl,hdl,hdd,zqn]
end Go.Proofs.S17.H
namespace Go.Proofs.S17.K
open Go Go.Ev Go.Proofs
variable {gl :Gl} {n:Nat}
abbrev i64 (n:Int):AV:=.int .i64 n
def ns (l:List Int):List AV:=l.map i64
def nat (l:List Int)(i:Nat):Int:=l.getD i 0
theorem ns_length (l:List Int):(ns l).length=l.length:=by simp[ns]
theorem ns_at {l:List Int}{i:Nat}(h:i<l.length):(ns l)[i]? =some (i64 (nat l i)):=by simp[ns,nat,h]
theorem quo2 {x:Int}(h:0<=x):Int.tdiv x 2=x/2:=Int.tdiv_eq_ediv_of_nonneg h
abbrev sK :Sh:=.st [.sc,.sc,.sc,.sc]
def hv (w s a:Int)(N:Nat):AV:=.aggR [i64 w,i64 s,i64 (a/2),.sl 20000 [] 0 N]
end Go.Proofs.S17.K
namespace Go.Proofs.S17.K
open Go Go.Ev Go.Proofs
variable {gl :Gl} {n:Nat}
def fil (l:List Int):Nat->Int
 | 0=>0
 | i+1=>fil l i+if nat l i=0 then 0 else 1
def S27 (w s a:Int)(f:Bool)(l:List Int)(i:Nat):St:=⟨[.set 4 (i64 i),.set 3 (i64 (fil l i)),.set 1 (.ptr 1 [])],[(1,.fix sK (.agg [i64 w,i64 s,i64 a,.lst f .sc (ns l)]))]⟩
end Go.Proofs.S17.K
