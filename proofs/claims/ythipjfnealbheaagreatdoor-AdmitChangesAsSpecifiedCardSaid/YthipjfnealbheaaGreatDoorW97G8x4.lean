/-
  The specification's hash: what it computes. No condition.
-/
import Derived.Test.YthipjfnealbheaaGreatDoorW97G7x4
set_option linter.all false
open BitVec renaming toNat_ushiftRight->wB,eq_of_toNat_eq->wC,toNat_ofNat->wD,msb_eq_false_iff_two_mul_lt->wE,toNat_shiftLeft->wF,toNat_setWidth->wG,xor_allOnes->wH,toNat_not->wJ,allOnes->wK
open List renaming length_append->wL
open Nat renaming shiftRight_eq_div_pow->wM,exists_eq_add_of_le'->wN,shiftLeft_eq->wO
namespace Go.Proofs.S97.H
open Go Go.Ev Go.Proofs Go.Proofs.S97
variable {gl :Gl} [Nonempty (GlR gl)]
theorem qki (x:BitVec 32):x^^^4294967295#32= ~~~ x:=by
 have:(4294967295#32:BitVec 32)=wK 32:=by decide
 rw[this,wH]
def L30 :MC:=match m118 with
 | .seq _ (.seq _ (.seq _ (.seq (.seq _ (.block _ (.loop _ b))) _)))=>b
 | _=>.skip
def L30b :MC:=match L30 with
 | .seq _ (.seq (.block _ (.seq _ (.seq _ (.seq (.seq _ (.block _ (.loop _ b))) _)))) _)=>b
 | _=>.skip
def L30c :MC:=match L30 with
 | .seq _ (.seq (.block _ (.seq _ (.seq _ (.seq _ (.seq _ (.block _ (.loop _ b))))))) _)=>b
 | _=>.skip
def L30d :MC:=match m118 with
 | .seq _ (.seq _ (.seq _ (.seq _ (.seq _ (.seq (.seq _ (.block _ (.loop _ b))) _)))))=>b
 | _=>.skip
def K30 :List Kp:=[.slot 2,.slot 3,.slot 4,.slot 5,.key 2,.key 3,.key 16]
def K30b :List Kp:=[.slot 2,.slot 3,.slot 4,.slot 5,.slot 6,.slot 7,.slot 8,.key 2,.key 3,.key 6,.key 7,.key 16]
def K30c :List Kp:=[.slot 2,.slot 3,.slot 4,.slot 5,.slot 7,.slot 11,.key 2,.key 3,.key 7,.key 16]
def K30d :List Kp:=[.slot 2,.slot 3,.slot 12,.slot 13,.key 2,.key 3,.key 12]
def S30 (M:List UInt8)(s:H8)(a:Nat):St :=
 ⟨[.set 5 (.int .i64 a),.set 4 (.sl 16 [] 0 M.length),.set 3 (.ptr 3 []),.set 2 (.ptr 2 [])],
  [(16,.grow .sc (zac M)),(3,.fix (.ar 8 .sc) s.av),(2,.fix (.ar 32 .sc) out32)]⟩
def S30b (M:List UInt8)(s v:H8)(ws:Ws)(a t:Nat):St :=
 ⟨[.set 8 (.int .i64 t),.set 7 (.ptr 7 []),.set 6 (.ptr 6 []),.set 5 (.int .i64 a),.set 4 (.sl 16 [] 0 M.length),.set 3 (.ptr 3 []),.set 2 (.ptr 2 [])],
  [(16,.grow .sc (zac M)),(7,.fix (.ar 8 .sc) v.av),(6,.fix (.ar 64 .sc) (.agg (wsAV ws))),(3,.fix (.ar 8 .sc) s.av),(2,.fix (.ar 32 .sc) out32)]⟩
def S30c (M:List UInt8)(s v:H8)(a i:Nat):St :=
 ⟨[.set 11 (.int .i64 i),.set 7 (.ptr 7 []),.set 5 (.int .i64 a),.set 4 (.sl 16 [] 0 M.length),.set 3 (.ptr 3 []),.set 2 (.ptr 2 [])],
  [(16,.grow .sc (zac M)),(7,.fix (.ar 8 .sc) v.av),(3,.fix (.ar 8 .sc) s.av),(2,.fix (.ar 32 .sc) out32)]⟩
def S30d (s:H8)(i:Nat):St :=
 ⟨[.set 13 (.int .i64 i),.set 12 (.ptr 12 []),.set 3 (.ptr 3 []),.set 2 (.ptr 2 [])],
  [(12,.fix (.ar 32 .sc) (.agg (zac (outL s i)))),(3,.fix (.ar 8 .sc) s.av),(2,.fix (.ar 32 .sc) out32)]⟩
structure RotOk (F:Ev.Cl):Prop where
 r6:∀x:BitVec 32,F 124 [u32 x,.int .i64 6] []=some (u32 (rr x 6),[],[])
 r11:∀x:BitVec 32,F 124 [u32 x,.int .i64 11] []=some (u32 (rr x 11),[],[])
 r25:∀x:BitVec 32,F 124 [u32 x,.int .i64 25] []=some (u32 (rr x 25),[],[])
 r2:∀x:BitVec 32,F 124 [u32 x,.int .i64 2] []=some (u32 (rr x 2),[],[])
 r13:∀x:BitVec 32,F 124 [u32 x,.int .i64 13] []=some (u32 (rr x 13),[],[])
 r22:∀x:BitVec 32,F 124 [u32 x,.int .i64 22] []=some (u32 (rr x 22),[],[])
theorem qaw (F:Ev.Cl)(hr:RotOk F)(M:List UInt8)(s v:H8)(ws:Ws)(hl:ws.length=64)(a t:Nat)(ht:t<64)(k x:BitVec 32)(hk:kA[t]? =some (u32 k))(hx:(wsAV ws)[t]? =some (u32 x)) :
  zba K30b (evC gl F L30b (S30b M s v ws a t))=some (S30b M s (zgp v k x) ws a (t+1)):=by
 obtain⟨va,vb,vc,vd,ve,vf,vg,vh⟩:=v
 simp(disch:=apply zq;omega) only[go_sem,simprocAttr,↓Nat.reduceEqDiff,xx,L30b,L30,m118,K30b,S30b,H8.av,hk,hx,z87,z89,zb7,hl,hr.r6,hr.r11,hr.r25,hr.r2,hr.r13,hr.r22,qki,glR,zgp,zax]
theorem qh5 (F:Ev.Cl)(M:List UInt8)(s v:H8)(ws:Ws)(a:Nat):isEx (evC gl F L30b (S30b M s v ws a 64))=true:=by
 simp(disch:=apply zq;omega) only[go_sem,simprocAttr,↓Nat.reduceEqDiff,xx,L30b,L30,m118,S30b]
def zhx (s v:H8):Nat->H8
 | 0=>s
 | 1=>⟨s.a+v.a,s.b,s.c,s.d,s.e,s.f,s.g,s.h⟩
 | 2=>⟨s.a+v.a,s.b+v.b,s.c,s.d,s.e,s.f,s.g,s.h⟩
 | 3=>⟨s.a+v.a,s.b+v.b,s.c+v.c,s.d,s.e,s.f,s.g,s.h⟩
 | 4=>⟨s.a+v.a,s.b+v.b,s.c+v.c,s.d+v.d,s.e,s.f,s.g,s.h⟩
 | 5=>⟨s.a+v.a,s.b+v.b,s.c+v.c,s.d+v.d,s.e+v.e,s.f,s.g,s.h⟩
 | 6=>⟨s.a+v.a,s.b+v.b,s.c+v.c,s.d+v.d,s.e+v.e,s.f+v.f,s.g,s.h⟩
 | 7=>⟨s.a+v.a,s.b+v.b,s.c+v.c,s.d+v.d,s.e+v.e,s.f+v.f,s.g+v.g,s.h⟩
 | _+8=>addH s v
theorem qav (F:Ev.Cl)(M:List UInt8)(s v:H8)(a i:Nat)(hi:i<8):zba K30c (evC gl F L30c (S30c M (zhx s v i) v a i))=some (S30c M (zhx s v (i+1)) v a (i+1)):=by
 match i,hi with
 | 0,_=>simp(disch:=apply zq;omega) only[go_sem,simprocAttr,↓Nat.reduceEqDiff,xx,L30c,L30,m118,K30c,S30c,H8.av,zhx,zax]
 | 1,_=>simp(disch:=apply zq;omega) only[go_sem,simprocAttr,↓Nat.reduceEqDiff,xx,L30c,L30,m118,K30c,S30c,H8.av,zhx,zax]
 | 2,_=>simp(disch:=apply zq;omega) only[go_sem,simprocAttr,↓Nat.reduceEqDiff,xx,L30c,L30,m118,K30c,S30c,H8.av,zhx,zax]
 | 3,_=>simp(disch:=apply zq;omega) only[go_sem,simprocAttr,↓Nat.reduceEqDiff,xx,L30c,L30,m118,K30c,S30c,H8.av,zhx,zax]
 | 4,_=>simp(disch:=apply zq;omega) only[go_sem,simprocAttr,↓Nat.reduceEqDiff,xx,L30c,L30,m118,K30c,S30c,H8.av,zhx,zax]
 | 5,_=>simp(disch:=apply zq;omega) only[go_sem,simprocAttr,↓Nat.reduceEqDiff,xx,L30c,L30,m118,K30c,S30c,H8.av,zhx,zax]
 | 6,_=>simp(disch:=apply zq;omega) only[go_sem,simprocAttr,↓Nat.reduceEqDiff,xx,L30c,L30,m118,K30c,S30c,H8.av,zhx,zax]
 | 7,_=>simp(disch:=apply zq;omega) only[go_sem,simprocAttr,↓Nat.reduceEqDiff,xx,L30c,L30,m118,K30c,S30c,H8.av,zhx,addH,zax]
theorem qh4 (F:Ev.Cl)(M:List UInt8)(s v:H8)(a:Nat):isEx (evC gl F L30c (S30c M s v a 8))=true:=by
 simp(disch:=apply zq;omega) only[go_sem,simprocAttr,↓Nat.reduceEqDiff,xx,L30c,L30,m118,S30c]
theorem qau (F:Ev.Cl)(s:H8)(i:Nat)(hi:i<32):zba K30d (evC gl F L30d (S30d s i))=some (S30d s (i+1)):=by
 have hw1:IntKind.wrap .i64 (8*((i%4:Nat):Int))=((8*(i%4):Nat):Int):=by rw[zaw (by omega) (by omega)];omega
 have hw2:IntKind.wrap .i64 (24-((8*(i%4):Nat):Int))=((24-8*(i%4):Nat):Int):=by rw[zaw (by omega) (by omega)];omega
 have hg:=z9j s (i/4) (by omega)
 have hl:=ziw s i (by omega)
 have hgo:∃y,(zac (outL s i))[i]? =some (.int .u8 y):=⟨_,zie (by omega)⟩
 obtain⟨y,hgo⟩:=hgo
 have h8:i/4<8:=by omega
 unfold S30d
 rw[zra _ _ hi,zhc]
 simp only[L30d,m118,K30d,H8.av,go_sem,simprocAttr,↓Nat.reduceEqDiff,hi,quo4 _ (show i<2^62 by omega),rem4,hw1,hw2,hg,h8,hgo,zae,hl,outB,zd0 (show i<2^62 by omega),zax]
theorem qh3 (F:Ev.Cl)(s:H8):isEx (evC gl F L30d (S30d s 32))=true:=by
 simp(disch:=apply zq;omega) only[go_sem,simprocAttr,↓Nat.reduceEqDiff,xx,L30d,m118,S30d]
end Go.Proofs.S97.H
namespace Go.Proofs.S97.H
open Go Go.Ev Go.Proofs Go.Proofs.S97
variable {gl :Gl} [Nonempty (GlR gl)]
theorem zre :∀l:Ws,zcy (wsAV l)=true
 | []=>rfl
 | a::l=>by
   show(zc5 (u32 a)&&zcy (wsAV l))=true
   rw[zre l];rfl
theorem qfg (F:Ev.Cl)(hr:RotOk F)(M:List UInt8)(s:H8)(k:Nat)(hk:64*k+64<=M.length)(hM:M.length<2^60)
  (c45:∀b:List UInt8,b.length=64->F 123 [.lst false .sc (zac b)] []=some (.agg (wsAV (zbn b 64)),[],[])) :
  zba K30 (evC gl F L30 (S30 M s (64*k)))=some (S30 M (zm1 s (zc7 M k)) (64*k+64)):=by
 have hbl:(zc7 M k).length=64:=by unfold zc7;rw[List.length_take,List.length_drop];omega
 have hB:List.take 64 (List.drop (64*k) (zac M))=zac (zc7 M k):=by rw[zkk,zhv];rfl
 have c:=c45 _ hbl
 have e1:∀st,zc2 K30b st=some (S30b M s (zbx s (zbn (zc7 M k) 64) 0) (zbn (zc7 M k) 64) (64*k) 0)->iter (evC gl F L30b) K30b LF st=evC gl F L30b (S30b M s (zbx s (zbn (zc7 M k) 64) 64) (zbn (zc7 M k) 64) (64*k) 64):=fun st h0 =>
  zaj (fun t=>S30b M s (zbx s (zbn (zc7 M k) 64) t) (zbn (zc7 M k) 64) (64*k) t) 64 (by unfold LF;omega) h0
   (fun t ht=>qaw F hr M s _ _ (za1 _ _) _ t ht _ _ (z88 t ht) (zck (by rw[za1];omega))) (qh5 F M s _ _ _)
 have e2:∀v st,zc2 K30c st=some (S30c M (zhx s v 0) v (64*k) 0)->iter (evC gl F L30c) K30c LF st=evC gl F L30c (S30c M (zhx s v 8) v (64*k) 8):=fun v st h0 =>
  zaj (fun i=>S30c M (zhx s v i) v (64*k) i) 8 (by unfold LF;omega) h0 (fun i hi=>qav F M s v _ i hi) (qh4 F M _ v _)
 simp only[L30b,L30,m118,K30b]at e1
 simp only[L30c,L30,m118,K30c]at e2
 have h64:64*k+64-64*k=64:=by omega
 have hl64:=za1 (zc7 M k) 64
 have ec:zm1 s (zc7 M k)=zhx s (zbx s (zbn (zc7 M k) 64) 64) 8:=rfl
 rw[ec]
 have hr0:zbx s (zbn (zc7 M k) 64) 0=s:=rfl
 rw[hr0]at e1
 have hk4:wsAV (zbn (zc7 M k) 64)=wsAV (zbn (zc7 M k) 64):=rfl
 generalize zbx s (zbn (zc7 M k) 64) 64=v at *
 generalize zbn (zc7 M k) 64=ws at *
 have hsub1:IntKind.wrap .i64 (((64*k:Nat):Int)+64)=((64*k+64:Nat):Int):=by rw[w64 (by omega)];omega
 generalize 64*k=a at *
 have hz:AV.agg (List.replicate 64 (.int .u32 0))=zer64:=rfl
 simp(disch:=apply zq;omega) only[go_sem,simprocAttr,↓Nat.reduceEqDiff,xx,L30,m118,K30,S30,H8.av,zae,h64,hB,c,zb7,hl64,zuk,hsub1,zre,↓hz]
 rw[e1 _ (by simp(disch:=apply zq;omega) only[go_sem,simprocAttr,↓Nat.reduceEqDiff,xx,S30b,H8.av,zax];done)]
 obtain⟨va,vb,vc,vd,ve,vf,vg,vh⟩:=v
 simp(disch:=apply zq;omega) only[go_sem,simprocAttr,↓Nat.reduceEqDiff,xx,S30b,H8.av]
 rw[e2 ⟨va,vb,vc,vd,ve,vf,vg,vh⟩ _ (by simp(disch:=apply zq;omega) only[go_sem,simprocAttr,↓Nat.reduceEqDiff,xx,S30c,H8.av,zhx,zax])]
 simp(disch:=apply zq;omega) only[go_sem,simprocAttr,↓Nat.reduceEqDiff,xx,S30c,H8.av,zhx,addH,zax,hsub1]
theorem qlc (F:Ev.Cl)(M:List UInt8)(s:H8):isEx (evC gl F L30 (S30 M s M.length))=true:=by
 simp(disch:=apply zq;omega) only[go_sem,simprocAttr,↓Nat.reduceEqDiff,xx,L30,m118,S30]
theorem qfx (F:Ev.Cl)(hr:RotOk F)(nb:Bool)(m:List UInt8)(hm:m.length<2^34)
  (c44:F 122 [.lst nb .sc (zac m)] []=some (.sl 20000 [] 0 (m++padF m.length).length,[],[.grow .sc (zac (m++padF m.length))]))
  (c45:∀b:List UInt8,b.length=64->F 123 [.lst false .sc (zac b)] []=some (.agg (wsAV (zbn b 64)),[],[])) :
  finK fd118.res fd118.pk (evC gl F fd118.body {fr:=frOf 0 [.lst nb .sc (zac m)],hp:=[]})=some (.agg (zac (zju m)),[],[]):=by
 have hpl:(padF m.length).length=padZ m.length+1+8:=by unfold padF;rw[wL,ze4,zhq]
 have hz64:padZ m.length<64:=Nat.mod_lt _ (by omega)
 have hML:(m++padF m.length).length=m.length+(padZ m.length+1+8):=by rw[wL,hpl]
 have hdiv:64*((m.length+(padF m.length).length)/64)=(m++padF m.length).length:=by rw[hML,hpl];unfold padZ at *;omega
 have hN:(m.length+(padF m.length).length)/64<2^36:=by rw[hpl];omega
 have hhash:outL (zc3 (m++padF m.length) ((m.length+(padF m.length).length)/64)) 32=zju m:=rfl
 have hM60:(m++padF m.length).length<2^60:=by rw[hML];omega
 generalize (m.length+(padF m.length).length)/64=N at *
 generalize m++padF m.length=M at *
 have e1:∀st,zc2 K30 st=some (S30 M (zc3 M 0) (64*0))->iter (evC gl F L30) K30 LF st=evC gl F L30 (S30 M (zc3 M N) M.length):=fun st h0=>by
  rw[zaj (fun k=>S30 M (zc3 M k) (64*k)) N (by unfold LF;omega) h0 (fun k hk=>qfg F hr M _ k (by omega) hM60 c45) (by simp only[hdiv];exact qlc F M _),hdiv]
 have e2:∀s st,zc2 K30d st=some (S30d s 0)->iter (evC gl F L30d) K30d LF st=evC gl F L30d (S30d s 32):=fun s st h0 =>
  zaj (S30d s) 32 (by unfold LF;omega) h0 (fun i hi=>qau F s i hi) (qh3 F s)
 have hz:AV.agg (List.replicate 64 (.int .u32 0))=zer64:=rfl
 simp only[L30,m118,K30,hz]at e1
 simp only[L30d,m118,K30d]at e2
 have ho:AV.agg (List.replicate 32 (.int .u8 0))=out32:=rfl
 have hq0:∀s,AV.agg (zac (outL s 0))=out32:=fun s=>rfl
 have hol:(zac (outL (zc3 M N) 32)).length=32:=by rw[zae];exact ziw _ 32 (by omega)
 have hb0:(zc3 M 0).av= .agg [.int .u32 1779033703,.int .u32 3144134277,.int .u32 1013904242,.int .u32 2773480762,.int .u32 1359893119,.int .u32 2600822924,.int .u32 528734635,.int .u32 1541459225]:=by kernel_rfl
 generalize hbN:zc3 M N=s at *
 simp(disch:=apply zq;omega) only[go_sem,simprocAttr,↓Nat.reduceEqDiff,xx,fd118,m118,c44,↓ho,↓hz,zae,noImms_bytesAV]
 rw[e1 _ (by simp(disch:=apply zq;omega) only[go_sem,simprocAttr,↓Nat.reduceEqDiff,xx,S30,hb0,zax])]
 simp(disch:=apply zq;omega) only[go_sem,simprocAttr,↓Nat.reduceEqDiff,xx,S30,H8.av]
 rw[e2 s _ (by simp(disch:=apply zq;omega) only[go_sem,simprocAttr,↓Nat.reduceEqDiff,xx,S30d,H8.av,hq0,zax,↓ho])]
 have hhl:=zi5 m
 simp(disch:=apply zq;omega) only[go_sem,simprocAttr,↓Nat.reduceEqDiff,xx,S30d,H8.av,bytes_all,zae,hhash,hhl]
theorem qbg {n:Nat}(h:1<=n):RotOk (call gl tab n):=by
 obtain⟨d,rfl⟩:=wN h
 exact⟨fun x=>zfa d x 6 (by omega) (by omega),fun x=>zfa d x 11 (by omega) (by omega),fun x=>zfa d x 25 (by omega) (by omega),fun x=>zfa d x 2 (by omega) (by omega),fun x=>zfa d x 13 (by omega) (by omega),fun x=>zfa d x 22 (by omega) (by omega)⟩
theorem qbf {n:Nat}(h:3<=n)(nb:Bool)(m:List UInt8)(hm:m.length<2^34):call gl tab n 118 [.lst nb .sc (zac m)] []=some (.agg (zac (zju m)),[],[]):=by
 obtain⟨d,rfl⟩:=wN h
 exact(zaf (n:=d+2) (fd:=fd118) rfl).trans (qfx (call gl tab (d+2)) (qbg (by omega)) nb m hm (z0q (d+1) nb m hm) fun b hb=>zy9 d false b hb)
end Go.Proofs.S97.H
namespace Go.Proofs.S97.H
open Go Go.Ev Go.Proofs Go.Proofs.S97
variable {gl :Gl}
def vb (z:Nat):UInt8:=ub (BitVec.ofNat 8 (z%128+128))
def ve (z:Nat):UInt8:=ub (BitVec.ofNat 8 z)
def zko :Nat->Nat->List UInt8
 | 0,z=>[ve z]
 | f+1,z=>if z<128 then [ve z]else vb z::zko f (z/128)
def vint (z:Nat):List UInt8:=zko 9 z
def vpre (z:Nat):Nat->List UInt8
 | 0=>[]
 | k+1=>vpre z k++[vb (z/128^k)]
theorem zf5 (z k:Nat):(vpre z k).length=k:=by
 induction k with
 | zero=>rfl
 | succ k ih=>rw[vpre,wL,ih];rfl
theorem zqb (z:Nat):∀k f,(∀j,j<k->128<=z/128^j)->vpre z k++zko f (z/128^k)=zko (f+k) z
 | 0,f,_=>by simp[vpre]
 | k+1,f,h=>by
   have hk:=h k (by omega)
   have ih:=zqb z k (f+1) fun j hj=>h j (by omega)
   have e:zko (f+1) (z/128^k)=vb (z/128^k)::zko f (z/128^(k+1)):=by
    rw[zko,if_neg (by omega),Nat.div_div_eq_div_mul,Nat.pow_succ]
   rw[vpre,List.append_assoc,List.singleton_append,<-e,ih]
   congr 1;omega
theorem zul (z k:Nat)(hk:k<=9)(h:∀j,j<k->128<=z/128^j)(he:z/128^k<128):vpre z k++[ve (z/128^k)]=vint z:=by
 have:=zqb z k (9-k) h
 rw[show 9-k+k=9 by omega]at this
 rw[vint,<-this]
 congr 1
 cases hf:9-k with
 | zero=>rfl
 | succ f=>rw[zko,if_pos he]
def zzN (n:Int):Nat:=if n<0 then(2*(-1-n)+1).toNat else(2*n).toNat
theorem z8o {n:Int}(h:-9223372036854775808<=n/\n<=9223372036854775807):zzN n<2^64:=by unfold zzN;split<;>omega
theorem qi8 (x:BitVec 64):(x<<<(1:Nat)^^^x.sshiftRight 63).toNat=zzN x.toInt:=by
 have hx:=x.isLt
 cases hm:x.msb with
 | false =>
   have h1:x.sshiftRight 63=0#64:=by
    rw[BitVec.sshiftRight_eq_of_msb_false hm]
    apply wC
    have:=wE.1 hm
    rw[wB,wM,wD]
    omega
   have h2:=wE.1 hm
   rw[h1,BitVec.xor_zero,wF,BitVec.toInt_eq_toNat_of_msb hm,wO]
   unfold zzN
   rw[if_neg (by omega)]
   omega
 | true =>
   have h2:=BitVec.msb_eq_true_iff_two_mul_ge.1 hm
   have h1:x.sshiftRight 63=wK 64:=by
    rw[BitVec.sshiftRight_eq_of_msb_true hm]
    have h0: ~~~x>>>(63:Nat)=0#64:=by
     apply wC
     rw[wB,wM,wJ,wD]
     omega
    rw[h0];decide
   have h3:x.toInt=(x.toNat:Int)-18446744073709551616:=by rw[BitVec.toInt_eq_msb_cond,hm];rfl
   rw[h1,wH,wJ,wF,h3,wO]
   unfold zzN
   rw[if_pos (by omega)]
   omega
theorem qjp :∀b:BitVec 8,b|||128#8=BitVec.ofNat 8 (b.toNat%128+128):=by decide +kernel
theorem qjd (y:BitVec 64):(y.setWidth 8|||128#8)=BitVec.ofNat 8 (y.toNat%128+128):=by
 rw[qjp,wG];congr 2;omega
theorem zuy (x:BitVec 64)(k:Nat):(x>>>(7*k)).toNat=x.toNat/128^k:=by
 rw[wB,wM,Nat.pow_mul]
theorem pow9 {z:Nat}(h:z<2^64):z/128^9<128:=by
 have:(128:Nat)^9=9223372036854775808:=by decide
 rw[this];omega
def zint (n:Int):List UInt8:=vint (zzN n)
theorem zqc :∀f z,1<=(zko f z).length/\(zko f z).length<=f+1
 | 0,z=>by simp[zko]
 | f+1,z=>by
   have:=zqc f (z/128)
   rw[zko];split
   . simp
   . simp only[List.length_cons];omega
theorem zoh (n:Int):1<=(zint n).length/\(zint n).length<=10:=zqc 9 _
def S53 (x:BitVec 64)(k:Nat):St :=
 ⟨[.set 4 (.sl 5004 [] 0 k),.set 3 (u64 (x>>>(7*k)))],[(5004,.grow .sc (zac (vpre x.toNat k)))]⟩
theorem z6l (d:Nat)(n:Int)(h:-9223372036854775808<=n/\n<=9223372036854775807):call gl tab (d+1) 121 [.int .i64 n] []=some (.sl 20000 [] 0 (zint n).length,[],[.grow .sc (zac (zint n))]):=by
 have hz:=z8o h
 obtain⟨x,rfl⟩:=qg9 h.1 h.2
 have hzz:=qi8 x
 rw[zaf (fd:=z7g) rfl]
 simp(disch:=apply zq;omega) only[go_sem,simprocAttr,↓Nat.reduceEqDiff,xx,z7g,m121,qa5]
 generalize hy:x<<<(1:Nat)^^^x.sshiftRight 63=y at *
 have hyz:zint x.toInt=vint y.toNat:=by rw[zint,hzz]
 rw[hyz]
 rw[<-hzz]at hz
 rw[zvl (S53 y) 9 (fun k=>128<=y.toNat/128^k) (by unfold LF;omega)]
 . obtain⟨hk,hlt,hge⟩:=zgi (fun k=>128<=y.toNat/128^k) 9
   generalize fstN _ _=k at *
   have he:y.toNat/128^k<128:=by
    by_cases hn:k<9
    . have:=hge hn;omega
    . have:k=9:=by omega
      subst this;exact pow9 hz
   have hv:=zul y.toNat k hk hlt he
   have hs:=zuy y k
   have hvl:(vint y.toNat).length=k+1:=by rw[<-hv,wL,zf5];rfl
   have hb:zac (vint y.toNat)=zac (vpre y.toNat k)++[.int .u8 (((y>>>(7*k)).setWidth 8).toNat:Int)]:=by
    rw[<-hv,zas]
    congr 1
    have e:(y>>>(7*k)).setWidth 8=BitVec.ofNat 8 (y.toNat/128^k):=by
     apply wC;rw[wG,hs,wD]
    rw[e];rfl
   clear hlt hge hy hzz
   rw[hb,hvl]
   have h127:(y>>>(7*k)).toNat<128:=by omega
   simp(disch:=apply zq;omega) only[go_sem,simprocAttr,↓Nat.reduceEqDiff,xx,S53,zae,zf5,zh0 (show k<2^36 by omega)]
 . simp(disch:=apply zq;omega) only[go_sem,simprocAttr,↓Nat.reduceEqDiff,xx,S53];rfl
 . intro k hk hp
   have hs:=zuy y k
   have e:y>>>(7*(k+1))=y>>>(7*k)>>>(7:Nat):=by rw[<-BitVec.shiftRight_add,show 7*(k+1)=7*k+7 by omega]
   have hb:zac (vpre y.toNat (k+1))=zac (vpre y.toNat k)++[.int .u8 (((y>>>(7*k)).setWidth 8|||128#8).toNat:Int)]:=by
    rw[vpre,zas,qjd,hs];rfl
   clear hy hzz
   unfold S53
   rw[hb,e]
   have h127:128<=(y>>>(7*k)).toNat:=by omega
   simp(disch:=apply zq;omega) only[go_sem,simprocAttr,↓Nat.reduceEqDiff,xx,zae,zf5,zh0 (show k<2^36 by omega)]
 . intro k hk hp
   have hs:=zuy y k
   have h127:(y>>>(7*k)).toNat<128:=by omega
   clear hy hzz
   simp(disch:=apply zq;omega) only[go_sem,simprocAttr,↓Nat.reduceEqDiff,xx,S53]
 . have hs:=zuy y 9
   have h9:=pow9 hz
   have h127:(y>>>(7*9)).toNat<128:=by omega
   clear hy hzz
   unfold S53
   generalize y>>>(7*9)=u at *
   simp(disch:=apply zq;omega) only[go_sem,simprocAttr,↓Nat.reduceEqDiff,xx]
end Go.Proofs.S97.H
