/-
  What Sum computes. No condition.
-/
import Derived.Test.YthipjfnealbheaaDoorW17Hj
set_option linter.all false
open List renaming length_append->wB,range_succ->wC,range->wD
open Nat renaming mod_lt->wE
namespace Go.Proofs.S17.H
open Go Go.Ev Go.Proofs Go.Proofs.S17
variable {gl :Gl} [Nonempty (GlK gl)]
def padZ (n:Nat):Nat:=(119-n%64)%64
def pad1 (i:Nat):List UInt8:=128::List.replicate i 0
theorem zg9 (i:Nat):(pad1 i).length=i+1:=by simp[pad1]
theorem zzh (i:Nat):zad (pad1 (i+1))=zad (pad1 i)++[.int .u8 0]:=by
 have:pad1 (i+1)=pad1 i++[0]:=by simp[pad1,List.replicate_succ']
 rw[this,zb3];rfl
def lenB (n:Nat)(i:Nat):List UInt8:=(wD i).map fun j=>ub ((BitVec.ofNat 64 (8*n)>>>(56-8*j:Nat)).setWidth 8)
theorem zz9 (n i:Nat):lenB n (i+1)=lenB n i++[ub ((BitVec.ofNat 64 (8*n)>>>(56-8*i:Nat)).setWidth 8)]:=by simp[lenB,wC]
theorem zou (n i:Nat):(lenB n i).length=i:=by simp[lenB]
def padF (n:Nat):List UInt8:=pad1 (padZ n)++lenB n 8
def out32 :AV:=.agg (List.replicate 32 (.int .u8 0))
theorem zfe :out32.refs=[]:=by kernel_rfl
def L33 :MC:=match m92 with
 | .seq _ (.seq _ (.seq _ (.seq (.block _ (.loop _ b)) _)))=>b
 | _=>.skip
def K33 :List Kp:=[.slot 1,.slot 2,.slot 3,.own 4 5004 .sc,.key 1,.key 2]
def S33 (s:Sm)(x:Nat)(pad:List UInt8):St :=
 ⟨[.set 4 (.sl 5004 [] 0 pad.length),.set 3 (.int .u64 (x:Int)),.set 2 (.ptr 2 []),.set 1 (.ptr 1 [])],
  [(2,.fix (.ar 32 .sc) out32),(1,.fix (.st [.ar 8 .sc,.ar 64 .sc,.sc]) s.av),(5004,.grow .sc (zad pad))]⟩
theorem qdi (F:Ev.Cl)(s:Sm)(x i:Nat)(hn:s.n<2^60)(hi:i<padZ s.n):zbn K33 (evC gl F L33 (S33 s x (pad1 i)))=some (S33 s x (pad1 (i+1))):=by
 have hz:padZ s.n<64:=wE _ (by omega)
 have hne:(s.n+(i+1))%64≠56:=by unfold padZ at *;omega
 have hb:((((s.n+(i+1))%64:Nat):Int) != 56)=true:=by rw[bne_iff_ne];omega
 have hw1:IntKind.wrap .i64 ((s.n:Nat):Int)=((s.n:Nat):Int):=za0 (by omega) (by omega)
 have hw2:IntKind.wrap .i64 (((s.n:Nat):Int)+((i+1:Nat):Int))=((s.n+(i+1):Nat):Int):=by rw[za0 (by omega) (by omega)];omega
 have hrem:zan .rem .i64 ((s.n+(i+1):Nat):Int) 64=some (.int .i64 (((s.n+(i+1))%64:Nat):Int)):=rem_nat _ 64 (by omega)
 simp only[L33,m92,K33,S33,Sm.av,H8.av,go_sem,simprocAttr,↓Nat.reduceEqDiff,hw1,hw2,hrem,hb,zg9,zzh,zud (show i+1<2^36 by omega),zfe]
theorem qij (F:Ev.Cl)(s:Sm)(x:Nat)(hn:s.n<2^60):isEx (evC gl F L33 (S33 s x (pad1 (padZ s.n))))=true:=by
 have hz:padZ s.n<64:=wE _ (by omega)
 have hne:(s.n+(padZ s.n+1))%64=56:=by unfold padZ;omega
 have hw1:IntKind.wrap .i64 ((s.n:Nat):Int)=((s.n:Nat):Int):=za0 (by omega) (by omega)
 have hw2:IntKind.wrap .i64 (((s.n:Nat):Int)+((padZ s.n+1:Nat):Int))=((s.n+(padZ s.n+1):Nat):Int):=by rw[za0 (by omega) (by omega)];omega
 have hrem:zan .rem .i64 ((s.n+(padZ s.n+1):Nat):Int) 64=some (.int .i64 (((s.n+(padZ s.n+1))%64:Nat):Int)):=rem_nat _ 64 (by omega)
 have hb:((((s.n+(padZ s.n+1))%64:Nat):Int) != 56)=false:=by rw[hne];rfl
 simp only[L33,m92,S33,Sm.av,H8.av,go_sem,simprocAttr,↓Nat.reduceEqDiff,hw1,hw2,hrem,hb,zg9]
def L33b :MC:=match m92 with
 | .seq _ (.seq _ (.seq _ (.seq _ (.seq (.seq _ (.block _ (.loop _ b))) _))))=>b
 | _=>.skip
def K33b :List Kp:=[.slot 1,.slot 2,.slot 3,.own 4 5004 .sc,.slot 23,.key 1,.key 2]
def S33b (s:Sm)(x:BitVec 64)(pad:List UInt8)(i:Nat):St :=
 ⟨[.set 23 (.int .i64 i),.set 4 (.sl 5004 [] 0 pad.length),.set 3 (u64 x),.set 2 (.ptr 2 []),.set 1 (.ptr 1 [])],
  [(2,.fix (.ar 32 .sc) out32),(1,.fix (.st [.ar 8 .sc,.ar 64 .sc,.sc]) s.av),(5004,.grow .sc (zad pad))]⟩
theorem z81 (F:Ev.Cl)(s:Sm)(n i:Nat)(p:List UInt8)(hp:p.length<100)(hi:i<8) :
  zbn K33b (evC gl F L33b (S33b s (BitVec.ofNat 64 (8*n)) (p++lenB n i) i))=some (S33b s (BitVec.ofNat 64 (8*n)) (p++lenB n (i+1)) (i+1)):=by
 have hw1:IntKind.wrap .i64 (8*(i:Int))=((8*i:Nat):Int):=by rw[za0 (by omega) (by omega)];omega
 have hw2:IntKind.wrap .i64 (56-((8*i:Nat):Int))=((56-8*i:Nat):Int):=by rw[za0 (by omega) (by omega)];omega
 have e:zad (p++lenB n (i+1))=zad (p++lenB n i)++[.int .u8 ((((BitVec.ofNat 64 (8*n)>>>(56-8*i:Nat)).setWidth 8).toNat:Nat):Int)]:=by
  rw[zz9,<-List.append_assoc,zb3];rfl
 have hl:(p++lenB n i).length=p.length+i:=by rw[wB,zou]
 have hl':(p++lenB n (i+1)).length=p.length+i+1:=by rw[wB,zou];omega
 generalize BitVec.ofNat 64 (8*n)=X at *
 unfold S33b
 rw[e,hl,hl']
 generalize p++lenB n i=P at *
 simp only[L33b,m92,K33b,Sm.av,H8.av,go_sem,simprocAttr,↓Nat.reduceEqDiff,hi,hw1,hw2,hl,zud (show p.length+i<2^36 by omega),ze8 (show i<2^62 by omega),zfe]
theorem qfy (F:Ev.Cl)(s:Sm)(x:BitVec 64)(p:List UInt8):isEx (evC gl F L33b (S33b s x p 8))=true:=by
 simp only[L33b,m92,S33b,go_sem,simprocAttr,↓Nat.reduceEqDiff]
def H8.get (s:H8):Nat->BitVec 32
 | 0=>s.a|1=>s.b|2=>s.c|3=>s.d|4=>s.e|5=>s.f|6=>s.g|_=>s.h
def outB (s:H8)(i:Nat):BitVec 8:=(s.get (i/4)>>>(24-8*(i%4):Nat)).setWidth 8
def outL (s:H8)(i:Nat):List UInt8:=((wD i).map fun j=>ub (outB s j))++List.replicate (32-i) 0
theorem zok (s:H8)(i:Nat)(h:i<=32):(outL s i).length=32:=by simp[outL];omega
theorem zzj (s:H8)(i:Nat)(h:i<32):outL s (i+1)=(outL s i).set i (ub (outB s i)):=by
 have e:32-i=(32-(i+1))+1:=by omega
 unfold outL
 rw[wC,List.map_append,e,List.replicate_succ]
 simp[List.set_append]
def L33c :MC:=match m92 with
 | .seq _ (.seq _ (.seq _ (.seq _ (.seq _ (.seq _ (.seq _ (.seq (.seq _ (.block _ (.loop _ b))) _)))))))=>b
 | _=>.skip
def K33c :List Kp:=[.slot 1,.slot 2,.slot 6,.slot 40,.key 1,.key 2,.key 6]
def S33c (s:Sm)(i:Nat):St :=
 ⟨[.set 40 (.int .i64 i),.set 6 (.ptr 6 []),.set 2 (.ptr 2 []),.set 1 (.ptr 1 [])],
  [(6,.fix (.ar 32 .sc) (.agg (zad (outL s.h i)))),(2,.fix (.ar 32 .sc) out32),(1,.fix (.st [.ar 8 .sc,.ar 64 .sc,.sc]) s.av)]⟩
theorem qfq (h:H8)(j:Nat)(hj:j<8):([u32 h.a,u32 h.b,u32 h.c,u32 h.d,u32 h.e,u32 h.f,u32 h.g,u32 h.h]:List AV)[j]? =some (u32 (h.get j)):=by
 match j,hj with
 | 0,_=>rfl
 | 1,_=>rfl
 | 2,_=>rfl
 | 3,_=>rfl
 | 4,_=>rfl
 | 5,_=>rfl
 | 6,_=>rfl
 | 7,_=>rfl
theorem quo4 (a:Nat)(h:a<2^62):zan .quo .i64 (a:Int) 4=some (.int .i64 ((a/4:Nat):Int)):=by
 have h8:¬((4:Int)=0):=by decide
 simp only[zan,h8,if_false]
 have e:(a:Int).tdiv 4=((a/4:Nat):Int):=rfl
 rw[e,za0 (by omega) (by omega)]
theorem rem4 (a:Nat):zan .rem .i64 (a:Int) 4=some (.int .i64 ((a%4:Nat):Int)):=by
 have h8:¬((4:Int)=0):=by decide
 simp only[zan,h8,if_false];rfl
theorem zrk (l:List UInt8)(i:Nat)(b:BitVec 8):zad (l.set i (ub b))=(zad l).set i (.int .u8 (b.toNat:Int)):=by
 simp[zad,List.map_set,ub]
theorem z80 (F:Ev.Cl)(s:Sm)(i:Nat)(hi:i<32):zbn K33c (evC gl F L33c (S33c s i))=some (S33c s (i+1)):=by
 have hw1:IntKind.wrap .i64 (8*((i%4:Nat):Int))=((8*(i%4):Nat):Int):=by rw[za0 (by omega) (by omega)];omega
 have hw2:IntKind.wrap .i64 (24-((8*(i%4):Nat):Int))=((24-8*(i%4):Nat):Int):=by rw[za0 (by omega) (by omega)];omega
 have hg:=qfq s.h (i/4) (by omega)
 have hl:=zok s.h i (by omega)
 have hgo:∃y,(zad (outL s.h i))[i]? =some (.int .u8 y):=⟨_,zl8 (by omega)⟩
 obtain⟨y,hgo⟩:=hgo
 have h8:i/4<8:=by omega
 unfold S33c
 rw[zzj _ _ hi,zrk]
 simp only[L33c,m92,K33c,Sm.av,H8.av,go_sem,simprocAttr,↓Nat.reduceEqDiff,hi,quo4 _ (show i<2^62 by omega),rem4,hw1,hw2,hg,h8,hgo,zal,hl,outB,ze8 (show i<2^62 by omega),zfe]
theorem qfx (F:Ev.Cl)(s:Sm):isEx (evC gl F L33c (S33c s 32))=true:=by
 simp only[L33c,m92,S33c,go_sem,simprocAttr,↓Nat.reduceEqDiff]
def zq2 (m:List UInt8):List UInt8:=outL (zgc (m++padF m.length) ((m.length+(padF m.length).length)/64)) 32
theorem z8q (F:Ev.Cl)(s:Sm)(m:List UInt8)(hs:Reps s m)(hm:m.length<2^59)
  (c32:∀t:List UInt8,m.length+t.length<2^60->∃s',Reps s' (m++t)/\F 90 [s.av,.str t] []=some (s'.av,[],[])) :
  finK fd92.res fd92.pk (evC gl F fd92.body {fr:=frOf 0 [s.av],hp:=[]})=some (.agg (zad (zq2 m)),[],[]):=by
 have hn:=hs.1
 have hpl:(pad1 (padZ s.n)).length<100:=by rw[zg9];have:padZ s.n<64:=wE _ (by omega);omega
 have hpF:(padF m.length).length<200:=by unfold padF;rw[wB,zou,<-hn];omega
 obtain⟨s',hr,e32⟩:=c32 (padF m.length) (by omega)
 have hX:(BitVec.ofNat 64 8*BitVec.ofNat 64 s.n)=BitVec.ofNat 64 (8*s.n):=by rw[BitVec.ofNat_mul]
 have e1:∀st,zdf K33 st=some (S33 s (BitVec.ofNat 64 (8*s.n)).toNat (pad1 0))->iter (evC gl F L33) K33 LF st=evC gl F L33 (S33 s (BitVec.ofNat 64 (8*s.n)).toNat (pad1 (padZ s.n))):=fun st h0 =>
  zam (fun i=>S33 s (BitVec.ofNat 64 (8*s.n)).toNat (pad1 i)) (padZ s.n) (by have:padZ s.n<64:=wE _ (by omega);unfold LF;omega) h0 (fun i hi=>qdi F s _ i (by omega) hi) (qij F s _ (by omega))
 have e2:∀st,zdf K33b st=some (S33b s (BitVec.ofNat 64 (8*s.n)) (pad1 (padZ s.n)++lenB s.n 0) 0)->iter (evC gl F L33b) K33b LF st=evC gl F L33b (S33b s (BitVec.ofNat 64 (8*s.n)) (pad1 (padZ s.n)++lenB s.n 8) 8):=fun st h0 =>
  zam (fun i=>S33b s (BitVec.ofNat 64 (8*s.n)) (pad1 (padZ s.n)++lenB s.n i) i) 8 (by unfold LF;omega) h0 (fun i hi=>z81 F s s.n i _ hpl hi) (qfy F s _ _)
 have e3:∀st,zdf K33c st=some (S33c s' 0)->iter (evC gl F L33c) K33c LF st=evC gl F L33c (S33c s' 32):=fun st h0 =>
  zam (S33c s') 32 (by unfold LF;omega) h0 (fun i hi=>z80 F s' i hi) (qfx F s')
 have hend:outL s'.h 32=zq2 m:=by
  unfold zq2;rw[hr.2.2.2,wB]
 have hpad:pad1 (padZ s.n)++lenB s.n 8=padF m.length:=by rw[hn];rfl
 have hol:(zq2 m).length=32:=zok _ 32 (by omega)
 have hbl:=hs.2.1
 have hbl':=hr.2.1
 simp only[L33,m92,K33]at e1
 simp only[L33b,m92,K33b]at e2
 simp only[L33c,m92,K33c]at e3
 have hz0:lenB s.n 0=[]:=rfl
 have hp0:zad (pad1 0)=[.int .u8 128]:=rfl
 have hq0:zad (outL s'.h 0)=List.replicate 32 (.int .u8 0):=rfl
 simp only[fd92,m92,Sm.av,H8.av,go_sem,simprocAttr,↓Nat.reduceEqDiff,zal,bytes_all,hbl,hX]
 rw[e1 _ (by simp only[S33,Sm.av,H8.av,go_sem,simprocAttr,↓Nat.reduceEqDiff,hp0,zg9];rfl)]
 have hne:(s.n+(padZ s.n+1))%64=56:=by unfold padZ;omega
 have hw1:IntKind.wrap .i64 ((s.n:Nat):Int)=((s.n:Nat):Int):=za0 (by omega) (by omega)
 have hw2:IntKind.wrap .i64 (((s.n:Nat):Int)+((padZ s.n+1:Nat):Int))=((s.n+(padZ s.n+1):Nat):Int):=by have:padZ s.n<64:=wE _ (by omega);rw[za0 (by omega) (by omega)];omega
 have hrem:zan .rem .i64 ((s.n+(padZ s.n+1):Nat):Int) 64=some (.int .i64 (((s.n+(padZ s.n+1))%64:Nat):Int)):=rem_nat _ 64 (by omega)
 have hb:((((s.n+(padZ s.n+1))%64:Nat):Int) != 56)=false:=by rw[hne];rfl
 simp only[S33,Sm.av,H8.av,go_sem,simprocAttr,↓Nat.reduceEqDiff,hw1,hw2,hrem,hb,zg9]
 rw[e2 _ (by simp only[S33b,Sm.av,H8.av,go_sem,simprocAttr,↓Nat.reduceEqDiff,hz0,zg9,List.append_nil,zfe])]
 rw[hpad]
 simp only[Sm.av,H8.av]at e32
 have hlim:(padF m.length).length<=LIM:=by unfold LIM;omega
 simp only[S33b,Sm.av,H8.av,go_sem,simprocAttr,↓Nat.reduceEqDiff,e32,zal,bytes_all,hbl']
 rw[e3 _ (by simp only[S33c,Sm.av,H8.av,go_sem,simprocAttr,↓Nat.reduceEqDiff,hq0,zfe])]
 simp only[S33c,Sm.av,H8.av,go_sem,simprocAttr,↓Nat.reduceEqDiff,hend,zal,bytes_all,hol]
theorem z82 {n:Nat}(h:5<=n)(s:Sm)(m:List UInt8)(hs:Reps s m)(hm:m.length<2^59):call gl tab n 92 [s.av] []=some (.agg (zad (zq2 m)),[],[]):=by
 obtain⟨d,rfl⟩:=Nat.exists_eq_add_of_le' h
 exact(zah (n:=d+4) (fd:=fd92) rfl).trans (z8q (call gl tab (d+4)) s m hs hm fun t ht=>zr7 (by omega) s m t hs ht)
theorem zq1 (m:List UInt8):(zq2 m).length=32:=zok _ 32 (by omega)
end Go.Proofs.S17.H
namespace Go.Proofs.S17.H
open Go Go.Ev Go.Proofs Go.Proofs.S17
variable {gl :Gl}
end Go.Proofs.S17.H
namespace Go.Proofs.S17.H
open Go Go.Ev Go.Proofs Go.Proofs.S17
variable {gl :Gl}
def S45 (nb:Bool)(b:List UInt8)(t:Nat):St :=
 ⟨[.set 4 (.int .i64 t),.set 3 (.ptr 3 []),.set 2 (.ptr 2 []),.set 0 (.lst nb .sc (zad b))],[(3,.fix (.ar 64 .sc) (.agg (wsAV (zc6 b t)))),(2,.fix (.ar 64 .sc) zer64)]⟩
end Go.Proofs.S17.H
namespace Go.Proofs.S17.H
open Go Go.Ev Go.Proofs Go.Proofs.S17
variable {gl :Gl} [Nonempty (GlR gl)]
def S30 (M:List UInt8)(s:H8)(a:Nat):St :=
 ⟨[.set 5 (.int .i64 a),.set 4 (.sl 16 [] 0 M.length),.set 3 (.ptr 3 []),.set 2 (.ptr 2 [])],
  [(16,.grow .sc (zad M)),(3,.fix (.ar 8 .sc) s.av),(2,.fix (.ar 32 .sc) out32)]⟩
end Go.Proofs.S17.H
namespace Go.Proofs.S17.H
open Go Go.Ev Go.Proofs Go.Proofs.S17
variable {gl :Gl} [Nonempty (GlR gl)]
end Go.Proofs.S17.H
