/-
  What Sum computes. No condition.
-/
import Derived.Test.YtaloneiaejhopaaDoorW50Hj
set_option linter.all false
open List renaming length_append->wB,append_assoc->wC,range_succ->wD,range->wE
open Nat renaming shiftRight_eq_div_pow->wF,mod_lt->wG,shiftLeft_eq->wH
open BitVec renaming toNat_ushiftRight->wJ,eq_of_toNat_eq->wK,toNat_ofNat->wL,msb_eq_false_iff_two_mul_lt->wM,toNat_shiftLeft->wN,toNat_setWidth->wO,toNat_not->wP
namespace Go.Proofs.S50.H
open Go Go.Ev Go.Proofs Go.Proofs.S50
variable {gl :Gl} [Nonempty (GlK gl)]
def padZ (n:Nat):Nat:=(119-n%64)%64
def pad1 (i:Nat):List UInt8:=128::List.replicate i 0
theorem zhr (i:Nat):(pad1 i).length=i+1:=by simp[pad1]
theorem z1k (i:Nat):zad (pad1 (i+1))=zad (pad1 i)++[.int .u8 0]:=by
 have:pad1 (i+1)=pad1 i++[0]:=by simp[pad1,List.replicate_succ']
 rw[this,zb1];rfl
def lenB (n:Nat)(i:Nat):List UInt8:=(wE i).map fun j=>ub ((BitVec.ofNat 64 (8*n)>>>(56-8*j:Nat)).setWidth 8)
theorem z2h (n i:Nat):lenB n (i+1)=lenB n i++[ub ((BitVec.ofNat 64 (8*n)>>>(56-8*i:Nat)).setWidth 8)]:=by simp[lenB,wD]
theorem zqd (n i:Nat):(lenB n i).length=i:=by simp[lenB]
def padF (n:Nat):List UInt8:=pad1 (padZ n)++lenB n 8
def out32 :AV:=.agg (List.replicate 32 (.int .u8 0))
theorem zfu :out32.refs=[]:=by kernel_rfl
def L33 :MC:=match m83 with
 | .seq _ (.seq _ (.seq _ (.seq (.block _ (.loop _ b)) _)))=>b
 | _=>.skip
def K33 :List Kp:=[.slot 1,.slot 2,.slot 3,.own 4 5004 .sc,.key 1,.key 2]
def S33 (s:Sm)(x:Nat)(pad:List UInt8):St :=
 ⟨[.set 4 (.sl 5004 [] 0 pad.length),.set 3 (.int .u64 (x:Int)),.set 2 (.ptr 2 []),.set 1 (.ptr 1 [])],
  [(2,.fix (.ar 32 .sc) out32),(1,.fix (.st [.ar 8 .sc,.ar 64 .sc,.sc]) s.av),(5004,.grow .sc (zad pad))]⟩
theorem qgh (F:Ev.Cl)(s:Sm)(x i:Nat)(hn:s.n<2^60)(hi:i<padZ s.n):zaz K33 (evC gl F L33 (S33 s x (pad1 i)))=some (S33 s x (pad1 (i+1))):=by
 have hz:padZ s.n<64:=wG _ (by omega)
 have hne:(s.n+(i+1))%64≠56:=by unfold padZ at *;omega
 have hb:((((s.n+(i+1))%64:Nat):Int) != 56)=true:=by rw[bne_iff_ne];omega
 have hw1:IntKind.wrap .i64 ((s.n:Nat):Int)=((s.n:Nat):Int):=zbf (by omega) (by omega)
 have hw2:IntKind.wrap .i64 (((s.n:Nat):Int)+((i+1:Nat):Int))=((s.n+(i+1):Nat):Int):=by rw[zbf (by omega) (by omega)];omega
 have hrem:zar .rem .i64 ((s.n+(i+1):Nat):Int) 64=some (.int .i64 (((s.n+(i+1))%64:Nat):Int)):=zuc _ 64 (by omega)
 simp only[L33,m83,K33,S33,Sm.av,H8.av,go_sem,simprocAttr,↓Nat.reduceEqDiff,hw1,hw2,hrem,hb,zhr,z1k,zwe (show i+1<2^36 by omega),zfu]
theorem qln (F:Ev.Cl)(s:Sm)(x:Nat)(hn:s.n<2^60):isEx (evC gl F L33 (S33 s x (pad1 (padZ s.n))))=true:=by
 have hz:padZ s.n<64:=wG _ (by omega)
 have hne:(s.n+(padZ s.n+1))%64=56:=by unfold padZ;omega
 have hw1:IntKind.wrap .i64 ((s.n:Nat):Int)=((s.n:Nat):Int):=zbf (by omega) (by omega)
 have hw2:IntKind.wrap .i64 (((s.n:Nat):Int)+((padZ s.n+1:Nat):Int))=((s.n+(padZ s.n+1):Nat):Int):=by rw[zbf (by omega) (by omega)];omega
 have hrem:zar .rem .i64 ((s.n+(padZ s.n+1):Nat):Int) 64=some (.int .i64 (((s.n+(padZ s.n+1))%64:Nat):Int)):=zuc _ 64 (by omega)
 have hb:((((s.n+(padZ s.n+1))%64:Nat):Int) != 56)=false:=by rw[hne];rfl
 simp only[L33,m83,S33,Sm.av,H8.av,go_sem,simprocAttr,↓Nat.reduceEqDiff,hw1,hw2,hrem,hb,zhr]
def L33b :MC:=match m83 with
 | .seq _ (.seq _ (.seq _ (.seq _ (.seq (.seq _ (.block _ (.loop _ b))) _))))=>b
 | _=>.skip
def K33b :List Kp:=[.slot 1,.slot 2,.slot 3,.own 4 5004 .sc,.slot 23,.key 1,.key 2]
def S33b (s:Sm)(x:BitVec 64)(pad:List UInt8)(i:Nat):St :=
 ⟨[.set 23 (.int .i64 i),.set 4 (.sl 5004 [] 0 pad.length),.set 3 (u64 x),.set 2 (.ptr 2 []),.set 1 (.ptr 1 [])],
  [(2,.fix (.ar 32 .sc) out32),(1,.fix (.st [.ar 8 .sc,.ar 64 .sc,.sc]) s.av),(5004,.grow .sc (zad pad))]⟩
theorem qbk (F:Ev.Cl)(s:Sm)(n i:Nat)(p:List UInt8)(hp:p.length<100)(hi:i<8) :
  zaz K33b (evC gl F L33b (S33b s (BitVec.ofNat 64 (8*n)) (p++lenB n i) i))=some (S33b s (BitVec.ofNat 64 (8*n)) (p++lenB n (i+1)) (i+1)):=by
 have hw1:IntKind.wrap .i64 (8*(i:Int))=((8*i:Nat):Int):=by rw[zbf (by omega) (by omega)];omega
 have hw2:IntKind.wrap .i64 (56-((8*i:Nat):Int))=((56-8*i:Nat):Int):=by rw[zbf (by omega) (by omega)];omega
 have e:zad (p++lenB n (i+1))=zad (p++lenB n i)++[.int .u8 ((((BitVec.ofNat 64 (8*n)>>>(56-8*i:Nat)).setWidth 8).toNat:Nat):Int)]:=by
  rw[z2h,<-wC,zb1];rfl
 have hl:(p++lenB n i).length=p.length+i:=by rw[wB,zqd]
 have hl':(p++lenB n (i+1)).length=p.length+i+1:=by rw[wB,zqd];omega
 generalize BitVec.ofNat 64 (8*n)=X at *
 unfold S33b
 rw[e,hl,hl']
 generalize p++lenB n i=P at *
 simp only[L33b,m83,K33b,Sm.av,H8.av,go_sem,simprocAttr,↓Nat.reduceEqDiff,hi,hw1,hw2,hl,zwe (show p.length+i<2^36 by omega),zfo (show i<2^62 by omega),zfu]
theorem qjb (F:Ev.Cl)(s:Sm)(x:BitVec 64)(p:List UInt8):isEx (evC gl F L33b (S33b s x p 8))=true:=by
 simp only[L33b,m83,S33b,go_sem,simprocAttr,↓Nat.reduceEqDiff]
def H8.get (s:H8):Nat->BitVec 32
 | 0=>s.a|1=>s.b|2=>s.c|3=>s.d|4=>s.e|5=>s.f|6=>s.g|_=>s.h
def outB (s:H8)(i:Nat):BitVec 8:=(s.get (i/4)>>>(24-8*(i%4):Nat)).setWidth 8
def outL (s:H8)(i:Nat):List UInt8:=((wE i).map fun j=>ub (outB s j))++List.replicate (32-i) 0
theorem zp1 (s:H8)(i:Nat)(h:i<=32):(outL s i).length=32:=by simp[outL];omega
theorem z1n (s:H8)(i:Nat)(h:i<32):outL s (i+1)=(outL s i).set i (ub (outB s i)):=by
 have e:32-i=(32-(i+1))+1:=by omega
 unfold outL
 rw[wD,List.map_append,e,List.replicate_succ]
 simp[List.set_append]
def L33c :MC:=match m83 with
 | .seq _ (.seq _ (.seq _ (.seq _ (.seq _ (.seq _ (.seq _ (.seq (.seq _ (.block _ (.loop _ b))) _)))))))=>b
 | _=>.skip
def K33c :List Kp:=[.slot 1,.slot 2,.slot 6,.slot 40,.key 1,.key 2,.key 6]
def S33c (s:Sm)(i:Nat):St :=
 ⟨[.set 40 (.int .i64 i),.set 6 (.ptr 6 []),.set 2 (.ptr 2 []),.set 1 (.ptr 1 [])],
  [(6,.fix (.ar 32 .sc) (.agg (zad (outL s.h i)))),(2,.fix (.ar 32 .sc) out32),(1,.fix (.st [.ar 8 .sc,.ar 64 .sc,.sc]) s.av)]⟩
theorem qiw (h:H8)(j:Nat)(hj:j<8):([u32 h.a,u32 h.b,u32 h.c,u32 h.d,u32 h.e,u32 h.f,u32 h.g,u32 h.h]:List AV)[j]? =some (u32 (h.get j)):=by
 match j,hj with
 | 0,_=>rfl
 | 1,_=>rfl
 | 2,_=>rfl
 | 3,_=>rfl
 | 4,_=>rfl
 | 5,_=>rfl
 | 6,_=>rfl
 | 7,_=>rfl
theorem quo4 (a:Nat)(h:a<2^62):zar .quo .i64 (a:Int) 4=some (.int .i64 ((a/4:Nat):Int)):=by
 have h8:¬((4:Int)=0):=by decide
 simp only[zar,h8,if_false]
 have e:(a:Int).tdiv 4=((a/4:Nat):Int):=rfl
 rw[e,zbf (by omega) (by omega)]
theorem rem4 (a:Nat):zar .rem .i64 (a:Int) 4=some (.int .i64 ((a%4:Nat):Int)):=by
 have h8:¬((4:Int)=0):=by decide
 simp only[zar,h8,if_false];rfl
theorem ztg (l:List UInt8)(i:Nat)(b:BitVec 8):zad (l.set i (ub b))=(zad l).set i (.int .u8 (b.toNat:Int)):=by
 simp[zad,List.map_set,ub]
theorem qbj (F:Ev.Cl)(s:Sm)(i:Nat)(hi:i<32):zaz K33c (evC gl F L33c (S33c s i))=some (S33c s (i+1)):=by
 have hw1:IntKind.wrap .i64 (8*((i%4:Nat):Int))=((8*(i%4):Nat):Int):=by rw[zbf (by omega) (by omega)];omega
 have hw2:IntKind.wrap .i64 (24-((8*(i%4):Nat):Int))=((24-8*(i%4):Nat):Int):=by rw[zbf (by omega) (by omega)];omega
 have hg:=qiw s.h (i/4) (by omega)
 have hl:=zp1 s.h i (by omega)
 have hgo:∃y,(zad (outL s.h i))[i]? =some (.int .u8 y):=⟨_,zm9 (by omega)⟩
 obtain⟨y,hgo⟩:=hgo
 have h8:i/4<8:=by omega
 unfold S33c
 rw[z1n _ _ hi,ztg]
 simp only[L33c,m83,K33c,Sm.av,H8.av,go_sem,simprocAttr,↓Nat.reduceEqDiff,hi,quo4 _ (show i<2^62 by omega),rem4,hw1,hw2,hg,h8,hgo,zal,hl,outB,zfo (show i<2^62 by omega),zfu]
theorem qja (F:Ev.Cl)(s:Sm):isEx (evC gl F L33c (S33c s 32))=true:=by
 simp only[L33c,m83,S33c,go_sem,simprocAttr,↓Nat.reduceEqDiff]
def zss (m:List UInt8):List UInt8:=outL (zgq (m++padF m.length) ((m.length+(padF m.length).length)/64)) 32
theorem qa3 (F:Ev.Cl)(s:Sm)(m:List UInt8)(hs:Reps s m)(hm:m.length<2^59)
  (c32:∀t:List UInt8,m.length+t.length<2^60->∃s',Reps s' (m++t)/\F 81 [s.av,.str t] []=some (s'.av,[],[])) :
  finK fd83.res fd83.pk (evC gl F fd83.body {fr:=frOf 0 [s.av],hp:=[]})=some (.agg (zad (zss m)),[],[]):=by
 have hn:=hs.1
 have hpl:(pad1 (padZ s.n)).length<100:=by rw[zhr];have:padZ s.n<64:=wG _ (by omega);omega
 have hpF:(padF m.length).length<200:=by unfold padF;rw[wB,zqd,<-hn];omega
 obtain⟨s',hr,e32⟩:=c32 (padF m.length) (by omega)
 have hX:(BitVec.ofNat 64 8*BitVec.ofNat 64 s.n)=BitVec.ofNat 64 (8*s.n):=by rw[BitVec.ofNat_mul]
 have e1:∀st,zcr K33 st=some (S33 s (BitVec.ofNat 64 (8*s.n)).toNat (pad1 0))->iter (evC gl F L33) K33 LF st=evC gl F L33 (S33 s (BitVec.ofNat 64 (8*s.n)).toNat (pad1 (padZ s.n))):=fun st h0 =>
  zak (fun i=>S33 s (BitVec.ofNat 64 (8*s.n)).toNat (pad1 i)) (padZ s.n) (by have:padZ s.n<64:=wG _ (by omega);unfold LF;omega) h0 (fun i hi=>qgh F s _ i (by omega) hi) (qln F s _ (by omega))
 have e2:∀st,zcr K33b st=some (S33b s (BitVec.ofNat 64 (8*s.n)) (pad1 (padZ s.n)++lenB s.n 0) 0)->iter (evC gl F L33b) K33b LF st=evC gl F L33b (S33b s (BitVec.ofNat 64 (8*s.n)) (pad1 (padZ s.n)++lenB s.n 8) 8):=fun st h0 =>
  zak (fun i=>S33b s (BitVec.ofNat 64 (8*s.n)) (pad1 (padZ s.n)++lenB s.n i) i) 8 (by unfold LF;omega) h0 (fun i hi=>qbk F s s.n i _ hpl hi) (qjb F s _ _)
 have e3:∀st,zcr K33c st=some (S33c s' 0)->iter (evC gl F L33c) K33c LF st=evC gl F L33c (S33c s' 32):=fun st h0 =>
  zak (S33c s') 32 (by unfold LF;omega) h0 (fun i hi=>qbj F s' i hi) (qja F s')
 have hend:outL s'.h 32=zss m:=by
  unfold zss;rw[hr.2.2.2,wB]
 have hpad:pad1 (padZ s.n)++lenB s.n 8=padF m.length:=by rw[hn];rfl
 have hol:(zss m).length=32:=zp1 _ 32 (by omega)
 have hbl:=hs.2.1
 have hbl':=hr.2.1
 simp only[L33,m83,K33]at e1
 simp only[L33b,m83,K33b]at e2
 simp only[L33c,m83,K33c]at e3
 have hz0:lenB s.n 0=[]:=rfl
 have hp0:zad (pad1 0)=[.int .u8 128]:=rfl
 have hq0:zad (outL s'.h 0)=List.replicate 32 (.int .u8 0):=rfl
 simp only[fd83,m83,Sm.av,H8.av,go_sem,simprocAttr,↓Nat.reduceEqDiff,zal,bytes_all,hbl,hX]
 rw[e1 _ (by simp only[S33,Sm.av,H8.av,go_sem,simprocAttr,↓Nat.reduceEqDiff,hp0,zhr];rfl)]
 have hne:(s.n+(padZ s.n+1))%64=56:=by unfold padZ;omega
 have hw1:IntKind.wrap .i64 ((s.n:Nat):Int)=((s.n:Nat):Int):=zbf (by omega) (by omega)
 have hw2:IntKind.wrap .i64 (((s.n:Nat):Int)+((padZ s.n+1:Nat):Int))=((s.n+(padZ s.n+1):Nat):Int):=by have:padZ s.n<64:=wG _ (by omega);rw[zbf (by omega) (by omega)];omega
 have hrem:zar .rem .i64 ((s.n+(padZ s.n+1):Nat):Int) 64=some (.int .i64 (((s.n+(padZ s.n+1))%64:Nat):Int)):=zuc _ 64 (by omega)
 have hb:((((s.n+(padZ s.n+1))%64:Nat):Int) != 56)=false:=by rw[hne];rfl
 simp only[S33,Sm.av,H8.av,go_sem,simprocAttr,↓Nat.reduceEqDiff,hw1,hw2,hrem,hb,zhr]
 rw[e2 _ (by simp only[S33b,Sm.av,H8.av,go_sem,simprocAttr,↓Nat.reduceEqDiff,hz0,zhr,List.append_nil,zfu])]
 rw[hpad]
 simp only[Sm.av,H8.av]at e32
 have hlim:(padF m.length).length<=LIM:=by unfold LIM;omega
 simp only[S33b,Sm.av,H8.av,go_sem,simprocAttr,↓Nat.reduceEqDiff,e32,zal,bytes_all,hbl']
 rw[e3 _ (by simp only[S33c,Sm.av,H8.av,go_sem,simprocAttr,↓Nat.reduceEqDiff,hq0,zfu])]
 simp only[S33c,Sm.av,H8.av,go_sem,simprocAttr,↓Nat.reduceEqDiff,hend,zal,bytes_all,hol]
theorem qbs {n:Nat}(h:5<=n)(s:Sm)(m:List UInt8)(hs:Reps s m)(hm:m.length<2^59):call gl tab n 83 [s.av] []=some (.agg (zad (zss m)),[],[]):=by
 obtain⟨d,rfl⟩:=Nat.exists_eq_add_of_le' h
 exact(zai (n:=d+4) (fd:=fd83) rfl).trans (qa3 (call gl tab (d+4)) s m hs hm fun t ht=>zt1 (by omega) s m t hs ht)
theorem zsr (m:List UInt8):(zss m).length=32:=zp1 _ 32 (by omega)
end Go.Proofs.S50.H
namespace Go.Proofs.S50.H
open Go Go.Ev Go.Proofs Go.Proofs.S50
variable {gl :Gl}
end Go.Proofs.S50.H
namespace Go.Proofs.S50.H
open Go Go.Ev Go.Proofs Go.Proofs.S50
variable {gl :Gl}
end Go.Proofs.S50.H
namespace Go.Proofs.S50.H
open Go Go.Ev Go.Proofs Go.Proofs.S50
variable {gl :Gl} [Nonempty (GlR gl)]
def S30 (M:List UInt8)(s:H8)(a:Nat):St :=
 ⟨[.set 5 (.int .i64 a),.set 4 (.sl 16 [] 0 M.length),.set 3 (.ptr 3 []),.set 2 (.ptr 2 [])],
  [(16,.grow .sc (zad M)),(3,.fix (.ar 8 .sc) s.av),(2,.fix (.ar 32 .sc) out32)]⟩
end Go.Proofs.S50.H
namespace Go.Proofs.S50.H
open Go Go.Ev Go.Proofs Go.Proofs.S50
variable {gl :Gl} [Nonempty (GlR gl)]
end Go.Proofs.S50.H
namespace Go.Proofs.S50.H
open Go Go.Ev Go.Proofs Go.Proofs.S50
variable {gl :Gl}
def vb (z:Nat):UInt8:=ub (BitVec.ofNat 8 (z%128+128))
def ve (z:Nat):UInt8:=ub (BitVec.ofNat 8 z)
def zk8 :Nat->Nat->List UInt8
 | 0,z=>[ve z]
 | f+1,z=>if z<128 then [ve z]else vb z::zk8 f (z/128)
def vint (z:Nat):List UInt8:=zk8 9 z
def vpre (z:Nat):Nat->List UInt8
 | 0=>[]
 | k+1=>vpre z k++[vb (z/128^k)]
theorem zo9 (z k:Nat):(vpre z k).length=k:=by
 induction k with
 | zero=>rfl
 | succ k ih=>rw[vpre,wB,ih];rfl
theorem zrd (z:Nat):∀k f,(∀j,j<k->128<=z/128^j)->vpre z k++zk8 f (z/128^k)=zk8 (f+k) z
 | 0,f,_=>by simp[vpre]
 | k+1,f,h=>by
   have hk:=h k (by omega)
   have ih:=zrd z k (f+1) fun j hj=>h j (by omega)
   have e:zk8 (f+1) (z/128^k)=vb (z/128^k)::zk8 f (z/128^(k+1)):=by
    rw[zk8,if_neg (by omega),Nat.div_div_eq_div_mul,Nat.pow_succ]
   rw[vpre,wC,List.singleton_append,<-e,ih]
   congr 1;omega
theorem z5t (z k:Nat)(hk:k<=9)(h:∀j,j<k->128<=z/128^j)(he:z/128^k<128):vpre z k++[ve (z/128^k)]=vint z:=by
 have:=zrd z k (9-k) h
 rw[show 9-k+k=9 by omega]at this
 rw[vint,<-this]
 congr 1
 cases hf:9-k with
 | zero=>rfl
 | succ f=>rw[zk8,if_pos he]
def zzN (n:Int):Nat:=if n<0 then(2*(-1-n)+1).toNat else(2*n).toNat
theorem qfg {n:Int}(h:-9223372036854775808<=n/\n<=9223372036854775807):zzN n<2^64:=by unfold zzN;split<;>omega
theorem qkd (x:BitVec 64):(x<<<(1:Nat)^^^x.sshiftRight 63).toNat=zzN x.toInt:=by
 have hx:=x.isLt
 cases hm:x.msb with
 | false =>
   have h1:x.sshiftRight 63=0#64:=by
    rw[BitVec.sshiftRight_eq_of_msb_false hm]
    apply wK
    have:=wM.1 hm
    rw[wJ,wF,wL]
    omega
   have h2:=wM.1 hm
   rw[h1,BitVec.xor_zero,wN,BitVec.toInt_eq_toNat_of_msb hm,wH]
   unfold zzN
   rw[if_neg (by omega)]
   omega
 | true =>
   have h2:=BitVec.msb_eq_true_iff_two_mul_ge.1 hm
   have h1:x.sshiftRight 63=BitVec.allOnes 64:=by
    rw[BitVec.sshiftRight_eq_of_msb_true hm]
    have h0: ~~~x>>>(63:Nat)=0#64:=by
     apply wK
     rw[wJ,wF,wP,wL]
     omega
    rw[h0];decide
   have h3:x.toInt=(x.toNat:Int)-18446744073709551616:=by rw[BitVec.toInt_eq_msb_cond,hm];rfl
   rw[h1,BitVec.xor_allOnes,wP,wN,h3,wH]
   unfold zzN
   rw[if_pos (by omega)]
   omega
theorem qkv :∀b:BitVec 8,b|||128#8=BitVec.ofNat 8 (b.toNat%128+128):=by decide +kernel
theorem qke (y:BitVec 64):(y.setWidth 8|||128#8)=BitVec.ofNat 8 (y.toNat%128+128):=by
 rw[qkv,wO];congr 2;omega
theorem zvx (x:BitVec 64)(k:Nat):(x>>>(7*k)).toNat=x.toNat/128^k:=by
 rw[wJ,wF,Nat.pow_mul]
theorem pow9 {z:Nat}(h:z<2^64):z/128^9<128:=by
 have:(128:Nat)^9=9223372036854775808:=by decide
 rw[this];omega
def zint (n:Int):List UInt8:=vint (zzN n)
theorem zre :∀f z,1<=(zk8 f z).length/\(zk8 f z).length<=f+1
 | 0,z=>by simp[zk8]
 | f+1,z=>by
   have:=zre f (z/128)
   rw[zk8];split
   . simp
   . simp only[List.length_cons];omega
theorem ziq (n:Int):1<=(zint n).length/\(zint n).length<=10:=zre 9 _
def S53 (x:BitVec 64)(k:Nat):St :=
 ⟨[.set 4 (.sl 5004 [] 0 k),.set 3 (u64 (x>>>(7*k)))],[(5004,.grow .sc (zad (vpre x.toNat k)))]⟩
theorem zqh (d:Nat)(n:Int)(h:-9223372036854775808<=n/\n<=9223372036854775807):call gl tab (d+1) 86 [.int .i64 n] []=some (.sl 20000 [] 0 (zint n).length,[],[.grow .sc (zad (zint n))]):=by
 have hz:=qfg h
 obtain⟨x,rfl⟩:=qic h.1 h.2
 have hzz:=qkd x
 rw[zai (fd:=fd86) rfl]
 simp(disch:=apply zq;omega) only[go_sem,simprocAttr,↓Nat.reduceEqDiff,xx,fd86,m86,qb1]
 generalize hy:x<<<(1:Nat)^^^x.sshiftRight 63=y at *
 have hyz:zint x.toInt=vint y.toNat:=by rw[zint,hzz]
 rw[hyz]
 rw[<-hzz]at hz
 rw[z7l (S53 y) 9 (fun k=>128<=y.toNat/128^k) (by unfold LF;omega)]
 . obtain⟨hk,hlt,hge⟩:=zlj (fun k=>128<=y.toNat/128^k) 9
   generalize fstN _ _=k at *
   have he:y.toNat/128^k<128:=by
    by_cases hn:k<9
    . have:=hge hn;omega
    . have:k=9:=by omega
      subst this;exact pow9 hz
   have hv:=z5t y.toNat k hk hlt he
   have hs:=zvx y k
   have hvl:(vint y.toNat).length=k+1:=by rw[<-hv,wB,zo9];rfl
   have hb:zad (vint y.toNat)=zad (vpre y.toNat k)++[.int .u8 (((y>>>(7*k)).setWidth 8).toNat:Int)]:=by
    rw[<-hv,zb1]
    congr 1
    have e:(y>>>(7*k)).setWidth 8=BitVec.ofNat 8 (y.toNat/128^k):=by
     apply wK;rw[wO,hs,wL]
    rw[e];rfl
   clear hlt hge hy hzz
   rw[hb,hvl]
   have h127:(y>>>(7*k)).toNat<128:=by omega
   simp(disch:=apply zq;omega) only[go_sem,simprocAttr,↓Nat.reduceEqDiff,xx,S53,zal,zo9,zwe (show k<2^36 by omega)]
 . simp(disch:=apply zq;omega) only[go_sem,simprocAttr,↓Nat.reduceEqDiff,xx,S53];rfl
 . intro k hk hp
   have hs:=zvx y k
   have e:y>>>(7*(k+1))=y>>>(7*k)>>>(7:Nat):=by rw[<-BitVec.shiftRight_add,show 7*(k+1)=7*k+7 by omega]
   have hb:zad (vpre y.toNat (k+1))=zad (vpre y.toNat k)++[.int .u8 (((y>>>(7*k)).setWidth 8|||128#8).toNat:Int)]:=by
    rw[vpre,zb1,qke,hs];rfl
   clear hy hzz
   unfold S53
   rw[hb,e]
   have h127:128<=(y>>>(7*k)).toNat:=by omega
   simp(disch:=apply zq;omega) only[go_sem,simprocAttr,↓Nat.reduceEqDiff,xx,zal,zo9,zwe (show k<2^36 by omega)]
 . intro k hk hp
   have hs:=zvx y k
   have h127:(y>>>(7*k)).toNat<128:=by omega
   clear hy hzz
   simp(disch:=apply zq;omega) only[go_sem,simprocAttr,↓Nat.reduceEqDiff,xx,S53]
 . have hs:=zvx y 9
   have h9:=pow9 hz
   have h127:(y>>>(7*9)).toNat<128:=by omega
   clear hy hzz
   unfold S53
   generalize y>>>(7*9)=u at *
   simp(disch:=apply zq;omega) only[go_sem,simprocAttr,↓Nat.reduceEqDiff,xx]
end Go.Proofs.S50.H
