/-
  The specification's hash: what it computes. No condition.
-/
import Derived.Test.YtcddalfeicoedaaGreatDoorW44G4x7
set_option linter.unusedVariables false
set_option linter.unusedSimpArgs false
set_option linter.unusedSectionVars false
namespace Go.Proofs.S44.H
open Go Go.Ev Go.Proofs Go.Proofs.S44
variable {gl :Gl} [Nonempty (GlR gl)]
theorem not_x (x:BitVec 32):x^^^4294967295#32= ~~~ x:=by
 have:(4294967295#32:BitVec 32)=BitVec.allOnes 32:=by decide
 rw[this,BitVec.xor_allOnes]
def L30 :MC:=match m159 with
 | .seq _ (.seq _ (.seq _ (.seq (.seq _ (.block _ (.loop _ b))) _)))=>b
 | _=>.skip
def L30b :MC:=match L30 with
 | .seq _ (.seq (.block _ (.seq _ (.seq _ (.seq (.seq _ (.block _ (.loop _ b))) _)))) _)=>b
 | _=>.skip
def L30c :MC:=match L30 with
 | .seq _ (.seq (.block _ (.seq _ (.seq _ (.seq _ (.seq _ (.block _ (.loop _ b))))))) _)=>b
 | _=>.skip
def L30d :MC:=match m159 with
 | .seq _ (.seq _ (.seq _ (.seq _ (.seq _ (.seq (.seq _ (.block _ (.loop _ b))) _)))))=>b
 | _=>.skip
def K30 :List Kp:=[.slot 2,.slot 3,.slot 4,.slot 5,.key 2,.key 3,.key 16]
def K30b :List Kp:=[.slot 2,.slot 3,.slot 4,.slot 5,.slot 6,.slot 7,.slot 8,.key 2,.key 3,.key 6,.key 7,.key 16]
def K30c :List Kp:=[.slot 2,.slot 3,.slot 4,.slot 5,.slot 7,.slot 11,.key 2,.key 3,.key 7,.key 16]
def K30d :List Kp:=[.slot 2,.slot 3,.slot 12,.slot 13,.key 2,.key 3,.key 12]
def S30 (M:List UInt8)(s:H8)(a:Nat):St :=
 ⟨[.set 5 (.int .i64 a),.set 4 (.sl 16 [] 0 M.length),.set 3 (.ptr 3 []),.set 2 (.ptr 2 [])],
  [(16,.grow .sc (zac M)),(3,.fix (.ar 8 .sc) s.av),(2,.fix (.ar 32 .sc) out32)]⟩
def S30b (M:List UInt8)(s v:H8)(ws:Ws)(a t:Nat):St :=
 ⟨[.set 8 (.int .i64 t),.set 7 (.ptr 7 []),.set 6 (.ptr 6 []),.set 5 (.int .i64 a),.set 4 (.sl 16 [] 0 M.length),.set 3 (.ptr 3 []),.set 2 (.ptr 2 [])],
  [(16,.grow .sc (zac M)),(7,.fix (.ar 8 .sc) v.av),(6,.fix (.ar 64 .sc) (.agg (wsAV ws))),(3,.fix (.ar 8 .sc) s.av),(2,.fix (.ar 32 .sc) out32)]⟩
def S30c (M:List UInt8)(s v:H8)(a i:Nat):St :=
 ⟨[.set 11 (.int .i64 i),.set 7 (.ptr 7 []),.set 5 (.int .i64 a),.set 4 (.sl 16 [] 0 M.length),.set 3 (.ptr 3 []),.set 2 (.ptr 2 [])],
  [(16,.grow .sc (zac M)),(7,.fix (.ar 8 .sc) v.av),(3,.fix (.ar 8 .sc) s.av),(2,.fix (.ar 32 .sc) out32)]⟩
def S30d (s:H8)(i:Nat):St :=
 ⟨[.set 13 (.int .i64 i),.set 12 (.ptr 12 []),.set 3 (.ptr 3 []),.set 2 (.ptr 2 [])],
  [(12,.fix (.ar 32 .sc) (.agg (zac (outL s i)))),(3,.fix (.ar 8 .sc) s.av),(2,.fix (.ar 32 .sc) out32)]⟩
structure RotOk (F:Ev.Cl):Prop where
 r6:∀x:BitVec 32,F 173 [u32 x,.int .i64 6] []=some (u32 (rr x 6),[],[])
 r11:∀x:BitVec 32,F 173 [u32 x,.int .i64 11] []=some (u32 (rr x 11),[],[])
 r25:∀x:BitVec 32,F 173 [u32 x,.int .i64 25] []=some (u32 (rr x 25),[],[])
 r2:∀x:BitVec 32,F 173 [u32 x,.int .i64 2] []=some (u32 (rr x 2),[],[])
 r13:∀x:BitVec 32,F 173 [u32 x,.int .i64 13] []=some (u32 (rr x 13),[],[])
 r22:∀x:BitVec 32,F 173 [u32 x,.int .i64 22] []=some (u32 (rr x 22),[],[])
theorem step30b (F:Ev.Cl)(hr:RotOk F)(M:List UInt8)(s v:H8)(ws:Ws)(hl:ws.length=64)(a t:Nat)(ht:t<64)(k x:BitVec 32)(hk:kA[t]? =some (u32 k))(hx:(wsAV ws)[t]? =some (u32 x)) :
  zbm K30b (evC gl F L30b (S30b M s v ws a t))=some (S30b M s (zgf v k x) ws a (t+1)):=by
 obtain⟨va,vb,vc,vd,ve,vf,vg,vh⟩:=v
 simp(disch:=(fail_if_success intro _);omega) only[go_sem,simprocAttr,↓Nat.reduceEqDiff,xx,L30b,L30,m159,K30b,S30b,H8.av,hk,hx,kA_len,kA_all,zb5,hl,hr.r6,hr.r11,hr.r25,hr.r2,hr.r13,hr.r22,not_x,glR,zgf,za2]
theorem end30b (F:Ev.Cl)(M:List UInt8)(s v:H8)(ws:Ws)(a:Nat):isEx (evC gl F L30b (S30b M s v ws a 64))=true:=by
 simp(disch:=(fail_if_success intro _);omega) only[go_sem,simprocAttr,↓Nat.reduceEqDiff,xx,L30b,L30,m159,S30b]
def zhw (s v:H8):Nat->H8
 | 0=>s
 | 1=>⟨s.a+v.a,s.b,s.c,s.d,s.e,s.f,s.g,s.h⟩
 | 2=>⟨s.a+v.a,s.b+v.b,s.c,s.d,s.e,s.f,s.g,s.h⟩
 | 3=>⟨s.a+v.a,s.b+v.b,s.c+v.c,s.d,s.e,s.f,s.g,s.h⟩
 | 4=>⟨s.a+v.a,s.b+v.b,s.c+v.c,s.d+v.d,s.e,s.f,s.g,s.h⟩
 | 5=>⟨s.a+v.a,s.b+v.b,s.c+v.c,s.d+v.d,s.e+v.e,s.f,s.g,s.h⟩
 | 6=>⟨s.a+v.a,s.b+v.b,s.c+v.c,s.d+v.d,s.e+v.e,s.f+v.f,s.g,s.h⟩
 | 7=>⟨s.a+v.a,s.b+v.b,s.c+v.c,s.d+v.d,s.e+v.e,s.f+v.f,s.g+v.g,s.h⟩
 | _+8=>addH s v
theorem step30c (F:Ev.Cl)(M:List UInt8)(s v:H8)(a i:Nat)(hi:i<8):zbm K30c (evC gl F L30c (S30c M (zhw s v i) v a i))=some (S30c M (zhw s v (i+1)) v a (i+1)):=by
 match i,hi with
 | 0,_=>simp(disch:=(fail_if_success intro _);omega) only[go_sem,simprocAttr,↓Nat.reduceEqDiff,xx,L30c,L30,m159,K30c,S30c,H8.av,zhw,za2]
 | 1,_=>simp(disch:=(fail_if_success intro _);omega) only[go_sem,simprocAttr,↓Nat.reduceEqDiff,xx,L30c,L30,m159,K30c,S30c,H8.av,zhw,za2]
 | 2,_=>simp(disch:=(fail_if_success intro _);omega) only[go_sem,simprocAttr,↓Nat.reduceEqDiff,xx,L30c,L30,m159,K30c,S30c,H8.av,zhw,za2]
 | 3,_=>simp(disch:=(fail_if_success intro _);omega) only[go_sem,simprocAttr,↓Nat.reduceEqDiff,xx,L30c,L30,m159,K30c,S30c,H8.av,zhw,za2]
 | 4,_=>simp(disch:=(fail_if_success intro _);omega) only[go_sem,simprocAttr,↓Nat.reduceEqDiff,xx,L30c,L30,m159,K30c,S30c,H8.av,zhw,za2]
 | 5,_=>simp(disch:=(fail_if_success intro _);omega) only[go_sem,simprocAttr,↓Nat.reduceEqDiff,xx,L30c,L30,m159,K30c,S30c,H8.av,zhw,za2]
 | 6,_=>simp(disch:=(fail_if_success intro _);omega) only[go_sem,simprocAttr,↓Nat.reduceEqDiff,xx,L30c,L30,m159,K30c,S30c,H8.av,zhw,za2]
 | 7,_=>simp(disch:=(fail_if_success intro _);omega) only[go_sem,simprocAttr,↓Nat.reduceEqDiff,xx,L30c,L30,m159,K30c,S30c,H8.av,zhw,addH,za2]
theorem end30c (F:Ev.Cl)(M:List UInt8)(s v:H8)(a:Nat):isEx (evC gl F L30c (S30c M s v a 8))=true:=by
 simp(disch:=(fail_if_success intro _);omega) only[go_sem,simprocAttr,↓Nat.reduceEqDiff,xx,L30c,L30,m159,S30c]
theorem step30d (F:Ev.Cl)(s:H8)(i:Nat)(hi:i<32):zbm K30d (evC gl F L30d (S30d s i))=some (S30d s (i+1)):=by
 have hw1:IntKind.wrap .i64 (8*((i%4:Nat):Int))=((8*(i%4):Nat):Int):=by rw[zaz (by omega) (by omega)];omega
 have hw2:IntKind.wrap .i64 (24-((8*(i%4):Nat):Int))=((24-8*(i%4):Nat):Int):=by rw[zaz (by omega) (by omega)];omega
 have hg:=h8_get s (i/4) (by omega)
 have hl:=zit s i (by omega)
 have hgo:∃y,(zac (outL s i))[i]? =some (.int .u8 y):=⟨_,zib (by omega)⟩
 obtain⟨y,hgo⟩:=hgo
 have h8:i/4<8:=by omega
 unfold S30d
 rw[outL_succ _ _ hi,zg6]
 simp only[L30d,m159,K30d,H8.av,go_sem,simprocAttr,↓Nat.reduceEqDiff,hi,quo4 _ (show i<2^62 by omega),rem4,hw1,hw2,hg,h8,hgo,zaa,hl,outB,zdv (show i<2^62 by omega),za2]
theorem end30d (F:Ev.Cl)(s:H8):isEx (evC gl F L30d (S30d s 32))=true:=by
 simp(disch:=(fail_if_success intro _);omega) only[go_sem,simprocAttr,↓Nat.reduceEqDiff,xx,L30d,m159,S30d]
end Go.Proofs.S44.H
namespace Go.Proofs.S44.H
open Go Go.Ev Go.Proofs Go.Proofs.S44
variable {gl :Gl} [Nonempty (GlR gl)]
theorem noImms_ws :∀l:Ws,zdy (wsAV l)=true
 | []=>rfl
 | a::l=>by
   show(zc5 (u32 a)&&zdy (wsAV l))=true
   rw[noImms_ws l];rfl
theorem step30 (F:Ev.Cl)(hr:RotOk F)(M:List UInt8)(s:H8)(k:Nat)(hk:64*k+64<=M.length)(hM:M.length<2^60)
  (c45:∀b:List UInt8,b.length=64->F 172 [.lst false .sc (zac b)] []=some (.agg (wsAV (zbs b 64)),[],[])) :
  zbm K30 (evC gl F L30 (S30 M s (64*k)))=some (S30 M (compF s (zc1 M k)) (64*k+64)):=by
 have hbl:(zc1 M k).length=64:=by unfold zc1;rw[List.length_take,List.length_drop];omega
 have hB:List.take 64 (List.drop (64*k) (zac M))=zac (zc1 M k):=by rw[zkh,zhv];rfl
 have c:=c45 _ hbl
 have e1:∀st,zc6 K30b st=some (S30b M s (zb0 s (zbs (zc1 M k) 64) 0) (zbs (zc1 M k) 64) (64*k) 0)->iter (evC gl F L30b) K30b LF st=evC gl F L30b (S30b M s (zb0 s (zbs (zc1 M k) 64) 64) (zbs (zc1 M k) 64) (64*k) 64):=fun st h0 =>
  zal (fun t=>S30b M s (zb0 s (zbs (zc1 M k) 64) t) (zbs (zc1 M k) 64) (64*k) t) 64 (by unfold LF;omega) h0
   (fun t ht=>step30b F hr M s _ _ (za6 _ _) _ t ht _ _ (kA_get t ht) (zci (by rw[za6];omega))) (end30b F M s _ _ _)
 have e2:∀v st,zc6 K30c st=some (S30c M (zhw s v 0) v (64*k) 0)->iter (evC gl F L30c) K30c LF st=evC gl F L30c (S30c M (zhw s v 8) v (64*k) 8):=fun v st h0 =>
  zal (fun i=>S30c M (zhw s v i) v (64*k) i) 8 (by unfold LF;omega) h0 (fun i hi=>step30c F M s v _ i hi) (end30c F M _ v _)
 simp only[L30b,L30,m159,K30b]at e1
 simp only[L30c,L30,m159,K30c]at e2
 have h64:64*k+64-64*k=64:=by omega
 have hl64:=za6 (zc1 M k) 64
 have ec:compF s (zc1 M k)=zhw s (zb0 s (zbs (zc1 M k) 64) 64) 8:=rfl
 rw[ec]
 have hr0:zb0 s (zbs (zc1 M k) 64) 0=s:=rfl
 rw[hr0]at e1
 have hk4:wsAV (zbs (zc1 M k) 64)=wsAV (zbs (zc1 M k) 64):=rfl
 generalize zb0 s (zbs (zc1 M k) 64) 64=v at *
 generalize zbs (zc1 M k) 64=ws at *
 have hsub1:IntKind.wrap .i64 (((64*k:Nat):Int)+64)=((64*k+64:Nat):Int):=by rw[w64 (by omega)];omega
 generalize 64*k=a at *
 have hz:AV.agg (List.replicate 64 (.int .u32 0))=zer64:=rfl
 simp(disch:=(fail_if_success intro _);omega) only[go_sem,simprocAttr,↓Nat.reduceEqDiff,xx,L30,m159,K30,S30,H8.av,zaa,h64,hB,c,zb5,hl64,ws_all,hsub1,noImms_ws,↓hz]
 rw[e1 _ (by simp(disch:=(fail_if_success intro _);omega) only[go_sem,simprocAttr,↓Nat.reduceEqDiff,xx,S30b,H8.av,za2];done)]
 obtain⟨va,vb,vc,vd,ve,vf,vg,vh⟩:=v
 simp(disch:=(fail_if_success intro _);omega) only[go_sem,simprocAttr,↓Nat.reduceEqDiff,xx,S30b,H8.av]
 rw[e2 ⟨va,vb,vc,vd,ve,vf,vg,vh⟩ _ (by simp(disch:=(fail_if_success intro _);omega) only[go_sem,simprocAttr,↓Nat.reduceEqDiff,xx,S30c,H8.av,zhw,za2])]
 simp(disch:=(fail_if_success intro _);omega) only[go_sem,simprocAttr,↓Nat.reduceEqDiff,xx,S30c,H8.av,zhw,addH,za2,hsub1]
theorem end30 (F:Ev.Cl)(M:List UInt8)(s:H8):isEx (evC gl F L30 (S30 M s M.length))=true:=by
 simp(disch:=(fail_if_success intro _);omega) only[go_sem,simprocAttr,↓Nat.reduceEqDiff,xx,L30,m159,S30]
theorem rsum_F (F:Ev.Cl)(hr:RotOk F)(nb:Bool)(m:List UInt8)(hm:m.length<2^34)
  (c44:F 171 [.lst nb .sc (zac m)] []=some (.sl 20000 [] 0 (m++padF m.length).length,[],[.grow .sc (zac (m++padF m.length))]))
  (c45:∀b:List UInt8,b.length=64->F 172 [.lst false .sc (zac b)] []=some (.agg (wsAV (zbs b 64)),[],[])) :
  finK fd159.res fd159.pk (evC gl F fd159.body {fr:=frOf 0 [.lst nb .sc (zac m)],hp:=[]})=some (.agg (zac (zjo m)),[],[]):=by
 have hpl:(padF m.length).length=padZ m.length+1+8:=by unfold padF;rw[List.length_append,zeu,zhm]
 have hz64:padZ m.length<64:=Nat.mod_lt _ (by omega)
 have hML:(m++padF m.length).length=m.length+(padZ m.length+1+8):=by rw[List.length_append,hpl]
 have hdiv:64*((m.length+(padF m.length).length)/64)=(m++padF m.length).length:=by rw[hML,hpl];unfold padZ at *;omega
 have hN:(m.length+(padF m.length).length)/64<2^36:=by rw[hpl];omega
 have hhash:outL (zcy (m++padF m.length) ((m.length+(padF m.length).length)/64)) 32=zjo m:=rfl
 have hM60:(m++padF m.length).length<2^60:=by rw[hML];omega
 generalize (m.length+(padF m.length).length)/64=N at *
 generalize m++padF m.length=M at *
 have e1:∀st,zc6 K30 st=some (S30 M (zcy M 0) (64*0))->iter (evC gl F L30) K30 LF st=evC gl F L30 (S30 M (zcy M N) M.length):=fun st h0=>by
  rw[zal (fun k=>S30 M (zcy M k) (64*k)) N (by unfold LF;omega) h0 (fun k hk=>step30 F hr M _ k (by omega) hM60 c45) (by simp only[hdiv];exact end30 F M _),hdiv]
 have e2:∀s st,zc6 K30d st=some (S30d s 0)->iter (evC gl F L30d) K30d LF st=evC gl F L30d (S30d s 32):=fun s st h0 =>
  zal (S30d s) 32 (by unfold LF;omega) h0 (fun i hi=>step30d F s i hi) (end30d F s)
 have hz:AV.agg (List.replicate 64 (.int .u32 0))=zer64:=rfl
 simp only[L30,m159,K30,hz]at e1
 simp only[L30d,m159,K30d]at e2
 have ho:AV.agg (List.replicate 32 (.int .u8 0))=out32:=rfl
 have hq0:∀s,AV.agg (zac (outL s 0))=out32:=fun s=>rfl
 have hol:(zac (outL (zcy M N) 32)).length=32:=by rw[zaa];exact zit _ 32 (by omega)
 have hb0:(zcy M 0).av= .agg [.int .u32 1779033703,.int .u32 3144134277,.int .u32 1013904242,.int .u32 2773480762,.int .u32 1359893119,.int .u32 2600822924,.int .u32 528734635,.int .u32 1541459225]:=by kernel_rfl
 generalize hbN:zcy M N=s at *
 simp(disch:=(fail_if_success intro _);omega) only[go_sem,simprocAttr,↓Nat.reduceEqDiff,xx,fd159,m159,c44,↓ho,↓hz,zaa,noImms_bytesAV]
 rw[e1 _ (by simp(disch:=(fail_if_success intro _);omega) only[go_sem,simprocAttr,↓Nat.reduceEqDiff,xx,S30,hb0,za2])]
 simp(disch:=(fail_if_success intro _);omega) only[go_sem,simprocAttr,↓Nat.reduceEqDiff,xx,S30,H8.av]
 rw[e2 s _ (by simp(disch:=(fail_if_success intro _);omega) only[go_sem,simprocAttr,↓Nat.reduceEqDiff,xx,S30d,H8.av,hq0,za2,↓ho])]
 have hhl:=ziy m
 simp(disch:=(fail_if_success intro _);omega) only[go_sem,simprocAttr,↓Nat.reduceEqDiff,xx,S30d,H8.av,bytes_all,zaa,hhash,hhl]
theorem rotr_at {n:Nat}(h:1<=n):RotOk (call gl tab n):=by
 obtain⟨d,rfl⟩:=Nat.exists_eq_add_of_le' h
 exact⟨fun x=>ze5 d x 6 (by omega) (by omega),fun x=>ze5 d x 11 (by omega) (by omega),fun x=>ze5 d x 25 (by omega) (by omega),fun x=>ze5 d x 2 (by omega) (by omega),fun x=>ze5 d x 13 (by omega) (by omega),fun x=>ze5 d x 22 (by omega) (by omega)⟩
theorem rsum_at {n:Nat}(h:3<=n)(nb:Bool)(m:List UInt8)(hm:m.length<2^34):call gl tab n 159 [.lst nb .sc (zac m)] []=some (.agg (zac (zjo m)),[],[]):=by
 obtain⟨d,rfl⟩:=Nat.exists_eq_add_of_le' h
 exact(zad (n:=d+2) (fd:=fd159) rfl).trans (rsum_F (call gl tab (d+2)) (rotr_at (by omega)) nb m hm (padded_ok (d+1) nb m hm) fun b hb=>wordsr_ok d false b hb)
end Go.Proofs.S44.H
namespace Go.Proofs.S44.H
open Go Go.Ev Go.Proofs Go.Proofs.S44
variable {gl :Gl}
def vb (z:Nat):UInt8:=ub (BitVec.ofNat 8 (z%128+128))
def ve (z:Nat):UInt8:=ub (BitVec.ofNat 8 z)
def zkl :Nat->Nat->List UInt8
 | 0,z=>[ve z]
 | f+1,z=>if z<128 then [ve z]else vb z::zkl f (z/128)
def vint (z:Nat):List UInt8:=zkl 9 z
def vpre (z:Nat):Nat->List UInt8
 | 0=>[]
 | k+1=>vpre z k++[vb (z/128^k)]
theorem zft (z k:Nat):(vpre z k).length=k:=by
 induction k with
 | zero=>rfl
 | succ k ih=>rw[vpre,List.length_append,ih];rfl
theorem vpre_join (z:Nat):∀k f,(∀j,j<k->128<=z/128^j)->vpre z k++zkl f (z/128^k)=zkl (f+k) z
 | 0,f,_=>by simp[vpre]
 | k+1,f,h=>by
   have hk:=h k (by omega)
   have ih:=vpre_join z k (f+1) fun j hj=>h j (by omega)
   have e:zkl (f+1) (z/128^k)=vb (z/128^k)::zkl f (z/128^(k+1)):=by
    rw[zkl,if_neg (by omega),Nat.div_div_eq_div_mul,Nat.pow_succ]
   rw[vpre,List.append_assoc,List.singleton_append,<-e,ih]
   congr 1;omega
theorem vint_end (z k:Nat)(hk:k<=9)(h:∀j,j<k->128<=z/128^j)(he:z/128^k<128):vpre z k++[ve (z/128^k)]=vint z:=by
 have:=vpre_join z k (9-k) h
 rw[show 9-k+k=9 by omega]at this
 rw[vint,<-this]
 congr 1
 cases hf:9-k with
 | zero=>rfl
 | succ f=>rw[zkl,if_pos he]
def zzN (n:Int):Nat:=if n<0 then(2*(-1-n)+1).toNat else(2*n).toNat
theorem zzN_lt {n:Int}(h:-9223372036854775808<=n/\n<=9223372036854775807):zzN n<2^64:=by unfold zzN;split<;>omega
theorem zz_bv (x:BitVec 64):(x<<<(1:Nat)^^^x.sshiftRight 63).toNat=zzN x.toInt:=by
 have hx:=x.isLt
 cases hm:x.msb with
 | false =>
   have h1:x.sshiftRight 63=0#64:=by
    rw[BitVec.sshiftRight_eq_of_msb_false hm]
    apply BitVec.eq_of_toNat_eq
    have:=BitVec.msb_eq_false_iff_two_mul_lt.1 hm
    rw[BitVec.toNat_ushiftRight,Nat.shiftRight_eq_div_pow,BitVec.toNat_ofNat]
    omega
   have h2:=BitVec.msb_eq_false_iff_two_mul_lt.1 hm
   rw[h1,BitVec.xor_zero,BitVec.toNat_shiftLeft,BitVec.toInt_eq_toNat_of_msb hm,Nat.shiftLeft_eq]
   unfold zzN
   rw[if_neg (by omega)]
   omega
 | true =>
   have h2:=BitVec.msb_eq_true_iff_two_mul_ge.1 hm
   have h1:x.sshiftRight 63=BitVec.allOnes 64:=by
    rw[BitVec.sshiftRight_eq_of_msb_true hm]
    have h0: ~~~x>>>(63:Nat)=0#64:=by
     apply BitVec.eq_of_toNat_eq
     rw[BitVec.toNat_ushiftRight,Nat.shiftRight_eq_div_pow,BitVec.toNat_not,BitVec.toNat_ofNat]
     omega
    rw[h0];decide
   have h3:x.toInt=(x.toNat:Int)-18446744073709551616:=by rw[BitVec.toInt_eq_msb_cond,hm];rfl
   rw[h1,BitVec.xor_allOnes,BitVec.toNat_not,BitVec.toNat_shiftLeft,h3,Nat.shiftLeft_eq]
   unfold zzN
   rw[if_pos (by omega)]
   omega
theorem or128 :∀b:BitVec 8,b|||128#8=BitVec.ofNat 8 (b.toNat%128+128):=by decide +kernel
theorem vb_or (y:BitVec 64):(y.setWidth 8|||128#8)=BitVec.ofNat 8 (y.toNat%128+128):=by
 rw[or128,BitVec.toNat_setWidth];congr 2;omega
theorem sh_div (x:BitVec 64)(k:Nat):(x>>>(7*k)).toNat=x.toNat/128^k:=by
 rw[BitVec.toNat_ushiftRight,Nat.shiftRight_eq_div_pow,Nat.pow_mul]
theorem pow9 {z:Nat}(h:z<2^64):z/128^9<128:=by
 have:(128:Nat)^9=9223372036854775808:=by decide
 rw[this];omega
def zint (n:Int):List UInt8:=vint (zzN n)
theorem vintF_len :∀f z,1<=(zkl f z).length/\(zkl f z).length<=f+1
 | 0,z=>by simp[zkl]
 | f+1,z=>by
   have:=vintF_len f (z/128)
   rw[zkl];split
   . simp
   . simp only[List.length_cons];omega
theorem zav (n:Int):1<=(zint n).length/\(zint n).length<=10:=vintF_len 9 _
def S53 (x:BitVec 64)(k:Nat):St :=
 ⟨[.set 4 (.sl 5004 [] 0 k),.set 3 (u64 (x>>>(7*k)))],[(5004,.grow .sc (zac (vpre x.toNat k)))]⟩
theorem int53_ok (d:Nat)(n:Int)(h:-9223372036854775808<=n/\n<=9223372036854775807):call gl tab (d+1) 154 [.int .i64 n] []=some (.sl 20000 [] 0 (zint n).length,[],[.grow .sc (zac (zint n))]):=by
 have hz:=zzN_lt h
 obtain⟨x,rfl⟩:=int_bv h.1 h.2
 have hzz:=zz_bv x
 rw[zad (fd:=fd154) rfl]
 simp(disch:=(fail_if_success intro _);omega) only[go_sem,simprocAttr,↓Nat.reduceEqDiff,xx,fd154,m154,shr_i64]
 generalize hy:x<<<(1:Nat)^^^x.sshiftRight 63=y at *
 have hyz:zint x.toInt=vint y.toNat:=by rw[zint,hzz]
 rw[hyz]
 rw[<-hzz]at hz
 rw[iter_fst (S53 y) 9 (fun k=>128<=y.toNat/128^k) (by unfold LF;omega)]
 . obtain⟨hk,hlt,hge⟩:=zi1 (fun k=>128<=y.toNat/128^k) 9
   generalize fstN _ _=k at *
   have he:y.toNat/128^k<128:=by
    by_cases hn:k<9
    . have:=hge hn;omega
    . have:k=9:=by omega
      subst this;exact pow9 hz
   have hv:=vint_end y.toNat k hk hlt he
   have hs:=sh_div y k
   have hvl:(vint y.toNat).length=k+1:=by rw[<-hv,List.length_append,zft];rfl
   have hb:zac (vint y.toNat)=zac (vpre y.toNat k)++[.int .u8 (((y>>>(7*k)).setWidth 8).toNat:Int)]:=by
    rw[<-hv,zaf]
    congr 1
    have e:(y>>>(7*k)).setWidth 8=BitVec.ofNat 8 (y.toNat/128^k):=by
     apply BitVec.eq_of_toNat_eq;rw[BitVec.toNat_setWidth,hs,BitVec.toNat_ofNat]
    rw[e];rfl
   clear hlt hge hy hzz
   rw[hb,hvl]
   have h127:(y>>>(7*k)).toNat<128:=by omega
   simp(disch:=(fail_if_success intro _);omega) only[go_sem,simprocAttr,↓Nat.reduceEqDiff,xx,S53,zaa,zft,zhy (show k<2^36 by omega)]
 . simp(disch:=(fail_if_success intro _);omega) only[go_sem,simprocAttr,↓Nat.reduceEqDiff,xx,S53];rfl
 . intro k hk hp
   have hs:=sh_div y k
   have e:y>>>(7*(k+1))=y>>>(7*k)>>>(7:Nat):=by rw[<-BitVec.shiftRight_add,show 7*(k+1)=7*k+7 by omega]
   have hb:zac (vpre y.toNat (k+1))=zac (vpre y.toNat k)++[.int .u8 (((y>>>(7*k)).setWidth 8|||128#8).toNat:Int)]:=by
    rw[vpre,zaf,vb_or,hs];rfl
   clear hy hzz
   unfold S53
   rw[hb,e]
   have h127:128<=(y>>>(7*k)).toNat:=by omega
   simp(disch:=(fail_if_success intro _);omega) only[go_sem,simprocAttr,↓Nat.reduceEqDiff,xx,zaa,zft,zhy (show k<2^36 by omega)]
 . intro k hk hp
   have hs:=sh_div y k
   have h127:(y>>>(7*k)).toNat<128:=by omega
   clear hy hzz
   simp(disch:=(fail_if_success intro _);omega) only[go_sem,simprocAttr,↓Nat.reduceEqDiff,xx,S53]
 . have hs:=sh_div y 9
   have h9:=pow9 hz
   have h127:(y>>>(7*9)).toNat<128:=by omega
   clear hy hzz
   unfold S53
   generalize y>>>(7*9)=u at *
   simp(disch:=(fail_if_success intro _);omega) only[go_sem,simprocAttr,↓Nat.reduceEqDiff,xx]
end Go.Proofs.S44.H
namespace Go.Proofs.S44.H
open Go Go.Ev Go.Proofs Go.Proofs.S44
variable {gl :Gl}
theorem remu128 (a:Nat):zar .rem .u64 (a:Int) 128=some (.int .u64 ((a%128:Nat):Int)):=by
 have h8:¬((128:Int)=0):=by decide
 simp only[zar,h8,if_false];rfl
theorem quou128 (a:Nat)(h:a<2^64):zar .quo .u64 (a:Int) 128=some (.int .u64 ((a/128:Nat):Int)):=by
 have h8:¬((128:Int)=0):=by decide
 simp only[zar,h8,if_false,wrap_u64]
 have e:(a:Int).tdiv 128=((a/128:Nat):Int):=rfl
 rw[e,BitVec.ofInt_natCast,BitVec.toNat_ofNat,Nat.mod_eq_of_lt (by omega)]
theorem zz_pos {n:Int}(h:0<=n/\n<=9223372036854775807):(BitVec.ofInt 64 n*2#64).toNat=zzN n:=by
 unfold zzN
 rw[if_neg (by omega),BitVec.toNat_mul,BitVec.toNat_ofInt]
 simp only[BitVec.toNat_ofNat]
 omega
theorem zz_neg {n:Int}(h:-9223372036854775808<=n/\n<0):(BitVec.ofInt 64 (-1-n)*2#64+1#64).toNat=zzN n:=by
 unfold zzN
 rw[if_pos (by omega),BitVec.toNat_add,BitVec.toNat_mul,BitVec.toNat_ofInt]
 simp only[BitVec.toNat_ofNat]
 omega
def S54 (z:Nat)(k:Nat):St :=
 ⟨[.set 4 (.sl 5004 [] 0 k),.set 3 (.int .u64 ((z/128^k:Nat):Int))],[(5004,.grow .sc (zac (vpre z k)))]⟩
def L54 :MC:=match m155 with
 | .seq _ (.seq _ (.seq _ (.seq _ (.seq (.block _ (.loop _ b)) _))))=>b
 | _=>.skip
def K54 :List Kp:=[.slot 3,.own 4 5004 .sc]
theorem loop54 (F:Ev.Cl)(z:Nat)(hz:z<2^64) :
  ∃k,k<=9/\z/128^k<128/\zac (vint z)=zac (vpre z k)++[.int .u8 ((BitVec.ofNat 8 (z/128^k)).toNat:Int)]/\(vint z).length=k+1/\∀st,zc6 K54 st=some (S54 z 0)->iter (evC gl F L54) K54 LF st=evC gl F L54 (S54 z k):=by
 have main:=fun st h0=>iter_fst (f:=evC gl F L54) (ks:=K54) (st:=st) (S54 z) 9 (fun k=>128<=z/128^k) (by unfold LF;omega) h0 ?_ ?_ ?_
 . obtain⟨hk,hlt,hge⟩:=zi1 (fun k=>128<=z/128^k) 9
   generalize fstN _ _=k at *
   have he:z/128^k<128:=by
    by_cases hn:k<9
    . have:=hge hn;omega
    . have:k=9:=by omega
      subst this;exact pow9 hz
   have hv:=vint_end z k hk hlt he
   refine⟨k,hk,he,?_,?_,main⟩
   . rw[<-hv,zaf];rfl
   . rw[<-hv,List.length_append,zft];rfl
 . intro k hk hp
   have hlt:z/128^k<2^64:=Nat.lt_of_le_of_lt (Nat.div_le_self _ _) hz
   have hb:zac (vpre z (k+1))=zac (vpre z k)++[.int .u8 ((BitVec.ofNat 8 (z/128^k%128)+128#8).toNat:Int)]:=by
    rw[vpre,zaf,<-BitVec.ofNat_add];rfl
   have e:z/128^(k+1)=z/128^k/128:=by rw[Nat.div_div_eq_div_mul,Nat.pow_succ]
   have hl:=zft z k
   unfold S54
   rw[hb,e]
   generalize z/128^k=y at *
   simp(disch:=(fail_if_success intro _);omega) only[go_sem,simprocAttr,↓Nat.reduceEqDiff,xx,L54,m155,K54,remu128,quou128 y hlt,zaa,hl,zhy (show k<2^36 by omega)]
 . intro k hk hp
   unfold S54
   generalize z/128^k=y at *
   simp(disch:=(fail_if_success intro _);omega) only[go_sem,simprocAttr,↓Nat.reduceEqDiff,xx,L54,m155]
 . have h9:=pow9 hz
   unfold S54
   generalize z/128^9=y at *
   simp(disch:=(fail_if_success intro _);omega) only[go_sem,simprocAttr,↓Nat.reduceEqDiff,xx,L54,m155]
theorem int54_ok (d:Nat)(n:Int)(h:-9223372036854775808<=n/\n<=9223372036854775807):call gl tab (d+1) 155 [.int .i64 n] []=some (.sl 20000 [] 0 (zint n).length,[],[.grow .sc (zac (zint n))]):=by
 have hz:=zzN_lt h
 rw[zad (fd:=fd155) rfl]
 obtain⟨k,hk,he,hb,hl,e⟩:=loop54 (gl:=gl) (call gl tab d) (zzN n) hz
 simp only[L54,m155,K54]at e
 by_cases hn:n<0
 . have h1:=zz_neg (n:=n) (by omega)
   simp(disch:=(fail_if_success intro _);omega) only[go_sem,simprocAttr,↓Nat.reduceEqDiff,xx,fd155,m155,h1]
   rw[e _ (by simp(disch:=(fail_if_success intro _);omega) only[go_sem,simprocAttr,↓Nat.reduceEqDiff,xx,S54,vpre,zac,Nat.pow_zero,Nat.div_one]),zint,hb,hl]
   unfold S54
   have hvl:=zft (zzN n) k
   generalize zzN n/128^k=y at *
   simp(disch:=(fail_if_success intro _);omega) only[go_sem,simprocAttr,↓Nat.reduceEqDiff,xx,zaa,hvl,zhy (show k<2^36 by omega)]
 . have h1:=zz_pos (n:=n) (by omega)
   simp(disch:=(fail_if_success intro _);omega) only[go_sem,simprocAttr,↓Nat.reduceEqDiff,xx,fd155,m155,h1]
   rw[e _ (by simp(disch:=(fail_if_success intro _);omega) only[go_sem,simprocAttr,↓Nat.reduceEqDiff,xx,S54,vpre,zac,Nat.pow_zero,Nat.div_one]),zint,hb,hl]
   unfold S54
   have hvl:=zft (zzN n) k
   generalize zzN n/128^k=y at *
   simp(disch:=(fail_if_success intro _);omega) only[go_sem,simprocAttr,↓Nat.reduceEqDiff,xx,zaa,hvl,zhy (show k<2^36 by omega)]
def encB (s:List UInt8):List UInt8:=zint s.length++s
theorem za1 (s:List UInt8):(encB s).length<=s.length+10:=by have:=zav s.length;rw[encB,List.length_append];omega
theorem bytes48_ok (d:Nat)(s:List UInt8)(hs:s.length<2^35):call gl tab (d+2) 131 [.str s] []=some (.sl 20000 [] 0 (encB s).length,[],[.grow .sc (zac (encB s))]):=by
 have h53:=int53_ok (gl:=gl) d (s.length:Int) (by omega)
 have hl:=zav s.length
 have hL:(zint (s.length:Int)).length+s.length<=LIM:=by unfold LIM;omega
 rw[zad (fd:=fd131) rfl]
 unfold encB
 generalize zint (s.length:Int)=z at *
 simp(disch:=(fail_if_success intro _);omega) only[go_sem,simprocAttr,↓Nat.reduceEqDiff,xx,fd131,m131,h53,zaa,hL,zaf]
theorem bytes50_ok (d:Nat)(s:List UInt8)(hs:s.length<2^35):call gl tab (d+2) 156 [.str s] []=some (.sl 20000 [] 0 (encB s).length,[],[.grow .sc (zac (encB s))]):=by
 have h54:=int54_ok (gl:=gl) d (s.length:Int) (by omega)
 have hl:=zav s.length
 have hL:(zint (s.length:Int)).length+s.length<=LIM:=by unfold LIM;omega
 rw[zad (fd:=fd156) rfl]
 unfold encB
 generalize zint (s.length:Int)=z at *
 simp(disch:=(fail_if_success intro _);omega) only[go_sem,simprocAttr,↓Nat.reduceEqDiff,xx,fd156,m156,h54,zaa,hL,zaf]
end Go.Proofs.S44.H
