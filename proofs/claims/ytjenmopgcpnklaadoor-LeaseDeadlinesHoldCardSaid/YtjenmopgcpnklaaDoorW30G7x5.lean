/-
  The specification's hash: the words of a block. No condition.
-/
import Derived.Test.YtjenmopgcpnklaaDoorW30G6x5
set_option linter.unusedVariables false
set_option linter.unusedSimpArgs false
set_option linter.unusedSectionVars false
namespace Go.Proofs.S30.H
open Go Go.Ev Go.Proofs Go.Proofs.S30
variable {gl :Gl}
theorem rotr7 (d:Nat)(x:BitVec 32):call gl tab (d+1) 102 [u32 x,.int .i64 7] []=some (u32 (rr x 7),[],[]):=rotr_ok d x 7 (by omega) (by omega)
theorem rotr18 (d:Nat)(x:BitVec 32):call gl tab (d+1) 102 [u32 x,.int .i64 18] []=some (u32 (rr x 18),[],[]):=rotr_ok d x 18 (by omega) (by omega)
theorem rotr17 (d:Nat)(x:BitVec 32):call gl tab (d+1) 102 [u32 x,.int .i64 17] []=some (u32 (rr x 17),[],[]):=rotr_ok d x 17 (by omega) (by omega)
theorem rotr19 (d:Nat)(x:BitVec 32):call gl tab (d+1) 102 [u32 x,.int .i64 19] []=some (u32 (rr x 19),[],[]):=rotr_ok d x 19 (by omega) (by omega)
def S45 (nb:Bool)(b:List UInt8)(t:Nat):St :=
 ⟨[.set 4 (.int .i64 t),.set 3 (.ptr 3 []),.set 2 (.ptr 2 []),.set 0 (.lst nb .sc (bytesAV b))],[(3,.fix (.ar 64 .sc) (.agg (wsAV (sched b t)))),(2,.fix (.ar 64 .sc) zer64)]⟩
def S45b (b:List UInt8)(t:Nat):St :=
 ⟨[.set 5 (.int .i64 t),.set 3 (.ptr 3 []),.set 2 (.ptr 2 [])],[(3,.fix (.ar 64 .sc) (.agg (wsAV (sched b t)))),(2,.fix (.ar 64 .sc) zer64)]⟩
theorem wordsr_ok (d:Nat)(nb:Bool)(b:List UInt8)(hb:b.length=64):call gl tab (d+2) 101 [.lst nb .sc (bytesAV b)] []=some (.agg (wsAV (sched b 64)),[],[]):=by
 have hz:AV.agg (List.replicate 64 (.int .u32 0))=zer64:=rfl
 rw[call_go (fd:=fd101) rfl]
 simp only[fd101,m101,hz,go_sem,simprocAttr,↓reduceIte,↓Nat.reduceEqDiff]
 rw[iter_to (S45 nb b) 16 (by unfold LF;omega)]
 . simp(disch:=((fail_if_success (intro _));omega)) only[go_sem,simprocAttr,↓reduceIte,↓Nat.reduceEqDiff,xx,S45]
   rw[iter_to (fun i=>S45b b (16+i)) 48 (by unfold LF;omega)]
   . simp(disch:=((fail_if_success (intro _));omega)) only[go_sem,simprocAttr,↓reduceIte,↓Nat.reduceEqDiff,xx,S45b,wsAV_length,sched_len,ws_all]
   . simp(disch:=((fail_if_success (intro _));omega)) only[go_sem,simprocAttr,↓reduceIte,↓Nat.reduceEqDiff,xx,S45b]
     rfl
   . intro i hi
     show contK _ (evC _ _ _ (S45b b (16+i)))=some (S45b b (16+i+1))
     obtain⟨t,rfl⟩:∃t,t=16+i:=⟨_,rfl⟩
     generalize ht:16+i=t at *
     have g15:=wsAV_get (l:=sched b t) (i:=t-15) (by rw[sched_len];omega)
     have g2:=wsAV_get (l:=sched b t) (i:=t-2) (by rw[sched_len];omega)
     have g7:=wsAV_get (l:=sched b t) (i:=t-7) (by rw[sched_len];omega)
     have g6:=wsAV_get (l:=sched b t) (i:=t-16) (by rw[sched_len];omega)
     have gt:=wsAV_get (l:=sched b t) (i:=t) (by rw[sched_len];omega)
     have h16:¬t<16:=by omega
     simp(disch:=((fail_if_success (intro _));omega)) only[go_sem,simprocAttr,↓reduceIte,↓Nat.reduceEqDiff,xx,S45b,zer64_refs,gt,g15,g2,g7,g6,wsAV_length,sched_len,rotr7,rotr18,rotr17,rotr19,sched,wsAV_set,nextW]
   . simp(disch:=((fail_if_success (intro _));omega)) only[go_sem,simprocAttr,↓reduceIte,↓Nat.reduceEqDiff,xx,S45b]
 . simp(disch:=((fail_if_success (intro _));omega)) only[go_sem,simprocAttr,↓reduceIte,↓Nat.reduceEqDiff,xx,S45]
   rfl
 . intro t ht
   have gt:=wsAV_get (l:=sched b t) (i:=t) (by rw[sched_len];omega)
   simp(disch:=((fail_if_success (intro _));omega)) only[go_sem,simprocAttr,↓reduceIte,↓Nat.reduceEqDiff,xx,S45,zer64_refs,gt,bytesAV_length,bytesAV_getD,hb,wsAV_length,sched_len,sched,wsAV_set,word,bt]
 . simp(disch:=((fail_if_success (intro _));omega)) only[go_sem,simprocAttr,↓reduceIte,↓Nat.reduceEqDiff,xx,S45]
end Go.Proofs.S30.H
namespace Go.Proofs.S30.H
open Go Go.Ev Go.Proofs Go.Proofs.S30
variable {gl :Gl} [Nonempty (GlR gl)]
theorem not_x (x:BitVec 32):x^^^4294967295#32= ~~~ x:=by
 have:(4294967295#32:BitVec 32)=BitVec.allOnes 32:=by decide
 rw[this,BitVec.xor_allOnes]
def L30 :MC:=match m94 with
 | .seq _ (.seq _ (.seq _ (.seq (.seq _ (.block _ (.loop _ b))) _)))=>b
 | _=>.skip
def L30b :MC:=match L30 with
 | .seq _ (.seq (.block _ (.seq _ (.seq _ (.seq (.seq _ (.block _ (.loop _ b))) _)))) _)=>b
 | _=>.skip
def L30c :MC:=match L30 with
 | .seq _ (.seq (.block _ (.seq _ (.seq _ (.seq _ (.seq _ (.block _ (.loop _ b))))))) _)=>b
 | _=>.skip
def L30d :MC:=match m94 with
 | .seq _ (.seq _ (.seq _ (.seq _ (.seq _ (.seq (.seq _ (.block _ (.loop _ b))) _)))))=>b
 | _=>.skip
def K30 :List Kp:=[.slot 2,.slot 3,.slot 4,.slot 5,.key 2,.key 3,.key 16]
def K30b :List Kp:=[.slot 2,.slot 3,.slot 4,.slot 5,.slot 6,.slot 7,.slot 8,.key 2,.key 3,.key 6,.key 7,.key 16]
def K30c :List Kp:=[.slot 2,.slot 3,.slot 4,.slot 5,.slot 7,.slot 11,.key 2,.key 3,.key 7,.key 16]
def K30d :List Kp:=[.slot 2,.slot 3,.slot 12,.slot 13,.key 2,.key 3,.key 12]
def S30 (M:List UInt8)(s:H8)(a:Nat):St :=
 ⟨[.set 5 (.int .i64 a),.set 4 (.sl 16 [] 0 M.length),.set 3 (.ptr 3 []),.set 2 (.ptr 2 [])],
  [(16,.grow .sc (bytesAV M)),(3,.fix (.ar 8 .sc) s.av),(2,.fix (.ar 32 .sc) out32)]⟩
def S30b (M:List UInt8)(s v:H8)(ws:Ws)(a t:Nat):St :=
 ⟨[.set 8 (.int .i64 t),.set 7 (.ptr 7 []),.set 6 (.ptr 6 []),.set 5 (.int .i64 a),.set 4 (.sl 16 [] 0 M.length),.set 3 (.ptr 3 []),.set 2 (.ptr 2 [])],
  [(16,.grow .sc (bytesAV M)),(7,.fix (.ar 8 .sc) v.av),(6,.fix (.ar 64 .sc) (.agg (wsAV ws))),(3,.fix (.ar 8 .sc) s.av),(2,.fix (.ar 32 .sc) out32)]⟩
def S30c (M:List UInt8)(s v:H8)(a i:Nat):St :=
 ⟨[.set 11 (.int .i64 i),.set 7 (.ptr 7 []),.set 5 (.int .i64 a),.set 4 (.sl 16 [] 0 M.length),.set 3 (.ptr 3 []),.set 2 (.ptr 2 [])],
  [(16,.grow .sc (bytesAV M)),(7,.fix (.ar 8 .sc) v.av),(3,.fix (.ar 8 .sc) s.av),(2,.fix (.ar 32 .sc) out32)]⟩
def S30d (s:H8)(i:Nat):St :=
 ⟨[.set 13 (.int .i64 i),.set 12 (.ptr 12 []),.set 3 (.ptr 3 []),.set 2 (.ptr 2 [])],
  [(12,.fix (.ar 32 .sc) (.agg (bytesAV (outL s i)))),(3,.fix (.ar 8 .sc) s.av),(2,.fix (.ar 32 .sc) out32)]⟩
structure RotOk (F:Ev.Cl):Prop where
 r6:∀x:BitVec 32,F 102 [u32 x,.int .i64 6] []=some (u32 (rr x 6),[],[])
 r11:∀x:BitVec 32,F 102 [u32 x,.int .i64 11] []=some (u32 (rr x 11),[],[])
 r25:∀x:BitVec 32,F 102 [u32 x,.int .i64 25] []=some (u32 (rr x 25),[],[])
 r2:∀x:BitVec 32,F 102 [u32 x,.int .i64 2] []=some (u32 (rr x 2),[],[])
 r13:∀x:BitVec 32,F 102 [u32 x,.int .i64 13] []=some (u32 (rr x 13),[],[])
 r22:∀x:BitVec 32,F 102 [u32 x,.int .i64 22] []=some (u32 (rr x 22),[],[])
theorem step30b (F:Ev.Cl)(hr:RotOk F)(M:List UInt8)(s v:H8)(ws:Ws)(hl:ws.length=64)(a t:Nat)(ht:t<64)(k x:BitVec 32)(hk:kA[t]? =some (u32 k))(hx:(wsAV ws)[t]? =some (u32 x)) :
  contK K30b (evC gl F L30b (S30b M s v ws a t))=some (S30b M s (roundF v k x) ws a (t+1)):=by
 obtain⟨va,vb,vc,vd,ve,vf,vg,vh⟩:=v
 simp(disch:=((fail_if_success (intro _));omega)) only[go_sem,simprocAttr,↓reduceIte,↓Nat.reduceEqDiff,xx,L30b,L30,m94,K30b,S30b,H8.av,hk,hx,kA_len,kA_all,wsAV_length,hl,hr.r6,hr.r11,hr.r25,hr.r2,hr.r13,hr.r22,not_x,glR,roundF,out32_refs]
theorem end30b (F:Ev.Cl)(M:List UInt8)(s v:H8)(ws:Ws)(a:Nat):isEx (evC gl F L30b (S30b M s v ws a 64))=true:=by
 simp(disch:=((fail_if_success (intro _));omega)) only[go_sem,simprocAttr,↓reduceIte,↓Nat.reduceEqDiff,xx,L30b,L30,m94,S30b]
def partR (s v:H8):Nat->H8
 | 0=>s
 | 1=>⟨s.a+v.a,s.b,s.c,s.d,s.e,s.f,s.g,s.h⟩
 | 2=>⟨s.a+v.a,s.b+v.b,s.c,s.d,s.e,s.f,s.g,s.h⟩
 | 3=>⟨s.a+v.a,s.b+v.b,s.c+v.c,s.d,s.e,s.f,s.g,s.h⟩
 | 4=>⟨s.a+v.a,s.b+v.b,s.c+v.c,s.d+v.d,s.e,s.f,s.g,s.h⟩
 | 5=>⟨s.a+v.a,s.b+v.b,s.c+v.c,s.d+v.d,s.e+v.e,s.f,s.g,s.h⟩
 | 6=>⟨s.a+v.a,s.b+v.b,s.c+v.c,s.d+v.d,s.e+v.e,s.f+v.f,s.g,s.h⟩
 | 7=>⟨s.a+v.a,s.b+v.b,s.c+v.c,s.d+v.d,s.e+v.e,s.f+v.f,s.g+v.g,s.h⟩
 | _+8=>addH s v
theorem step30c (F:Ev.Cl)(M:List UInt8)(s v:H8)(a i:Nat)(hi:i<8):contK K30c (evC gl F L30c (S30c M (partR s v i) v a i))=some (S30c M (partR s v (i+1)) v a (i+1)):=by
 match i,hi with
 | 0,_=>simp(disch:=((fail_if_success (intro _));omega)) only[go_sem,simprocAttr,↓reduceIte,↓Nat.reduceEqDiff,xx,L30c,L30,m94,K30c,S30c,H8.av,partR,out32_refs]
 | 1,_=>simp(disch:=((fail_if_success (intro _));omega)) only[go_sem,simprocAttr,↓reduceIte,↓Nat.reduceEqDiff,xx,L30c,L30,m94,K30c,S30c,H8.av,partR,out32_refs]
 | 2,_=>simp(disch:=((fail_if_success (intro _));omega)) only[go_sem,simprocAttr,↓reduceIte,↓Nat.reduceEqDiff,xx,L30c,L30,m94,K30c,S30c,H8.av,partR,out32_refs]
 | 3,_=>simp(disch:=((fail_if_success (intro _));omega)) only[go_sem,simprocAttr,↓reduceIte,↓Nat.reduceEqDiff,xx,L30c,L30,m94,K30c,S30c,H8.av,partR,out32_refs]
 | 4,_=>simp(disch:=((fail_if_success (intro _));omega)) only[go_sem,simprocAttr,↓reduceIte,↓Nat.reduceEqDiff,xx,L30c,L30,m94,K30c,S30c,H8.av,partR,out32_refs]
 | 5,_=>simp(disch:=((fail_if_success (intro _));omega)) only[go_sem,simprocAttr,↓reduceIte,↓Nat.reduceEqDiff,xx,L30c,L30,m94,K30c,S30c,H8.av,partR,out32_refs]
 | 6,_=>simp(disch:=((fail_if_success (intro _));omega)) only[go_sem,simprocAttr,↓reduceIte,↓Nat.reduceEqDiff,xx,L30c,L30,m94,K30c,S30c,H8.av,partR,out32_refs]
 | 7,_=>simp(disch:=((fail_if_success (intro _));omega)) only[go_sem,simprocAttr,↓reduceIte,↓Nat.reduceEqDiff,xx,L30c,L30,m94,K30c,S30c,H8.av,partR,addH,out32_refs]
theorem end30c (F:Ev.Cl)(M:List UInt8)(s v:H8)(a:Nat):isEx (evC gl F L30c (S30c M s v a 8))=true:=by
 simp(disch:=((fail_if_success (intro _));omega)) only[go_sem,simprocAttr,↓reduceIte,↓Nat.reduceEqDiff,xx,L30c,L30,m94,S30c]
theorem step30d (F:Ev.Cl)(s:H8)(i:Nat)(hi:i<32):contK K30d (evC gl F L30d (S30d s i))=some (S30d s (i+1)):=by
 have hw1:IntKind.wrap .i64 (8*((i%4:Nat):Int))=((8*(i%4):Nat):Int):=by rw[wrap_i64 (by omega) (by omega)];omega
 have hw2:IntKind.wrap .i64 (24-((8*(i%4):Nat):Int))=((24-8*(i%4):Nat):Int):=by rw[wrap_i64 (by omega) (by omega)];omega
 have hg:=h8_get s (i/4) (by omega)
 have hl:=outL_len s i (by omega)
 have hgo:∃y,(bytesAV (outL s i))[i]? =some (.int .u8 y):=⟨_,bytesAV_get (by omega)⟩
 obtain⟨y,hgo⟩:=hgo
 have h8:i/4<8:=by omega
 unfold S30d
 rw[outL_succ _ _ hi,bytesAV_set']
 simp only[L30d,m94,K30d,H8.av,go_sem,simprocAttr,↓reduceIte,↓Nat.reduceEqDiff,hi,quo4 _ (show i<2^62 by omega),rem4,hw1,hw2,hg,h8,hgo,bytesAV_length,hl,outB,wrap_succ (show i<2^62 by omega),out32_refs]
theorem end30d (F:Ev.Cl)(s:H8):isEx (evC gl F L30d (S30d s 32))=true:=by
 simp(disch:=((fail_if_success (intro _));omega)) only[go_sem,simprocAttr,↓reduceIte,↓Nat.reduceEqDiff,xx,L30d,m94,S30d]
end Go.Proofs.S30.H
namespace Go.Proofs.S30.H
open Go Go.Ev Go.Proofs Go.Proofs.S30
variable {gl :Gl} [Nonempty (GlR gl)]
theorem noImms_ws :∀l:Ws,noImms (wsAV l)=true
 | []=>rfl
 | a::l=>by
   show(noImm (u32 a)&&noImms (wsAV l))=true
   rw[noImms_ws l];rfl
theorem step30 (F:Ev.Cl)(hr:RotOk F)(M:List UInt8)(s:H8)(k:Nat)(hk:64*k+64<=M.length)(hM:M.length<2^60)
  (c45:∀b:List UInt8,b.length=64->F 101 [.lst false .sc (bytesAV b)] []=some (.agg (wsAV (sched b 64)),[],[])) :
  contK K30 (evC gl F L30 (S30 M s (64*k)))=some (S30 M (compF s (blockN M k)) (64*k+64)):=by
 have hbl:(blockN M k).length=64:=by unfold blockN;rw[List.length_take,List.length_drop];omega
 have hB:List.take 64 (List.drop (64*k) (bytesAV M))=bytesAV (blockN M k):=by rw[bytesAV_drop,bytesAV_tk];rfl
 have c:=c45 _ hbl
 have e1:∀st,clean K30b st=some (S30b M s (rounds8 s (sched (blockN M k) 64) 0) (sched (blockN M k) 64) (64*k) 0)->iter (evC gl F L30b) K30b LF st=evC gl F L30b (S30b M s (rounds8 s (sched (blockN M k) 64) 64) (sched (blockN M k) 64) (64*k) 64):=fun st h0 =>
  iter_to (fun t=>S30b M s (rounds8 s (sched (blockN M k) 64) t) (sched (blockN M k) 64) (64*k) t) 64 (by unfold LF;omega) h0
   (fun t ht=>step30b F hr M s _ _ (sched_len _ _) _ t ht _ _ (kA_get t ht) (wsAV_get (by rw[sched_len];omega))) (end30b F M s _ _ _)
 have e2:∀v st,clean K30c st=some (S30c M (partR s v 0) v (64*k) 0)->iter (evC gl F L30c) K30c LF st=evC gl F L30c (S30c M (partR s v 8) v (64*k) 8):=fun v st h0 =>
  iter_to (fun i=>S30c M (partR s v i) v (64*k) i) 8 (by unfold LF;omega) h0 (fun i hi=>step30c F M s v _ i hi) (end30c F M _ v _)
 simp only[L30b,L30,m94,K30b]at e1
 simp only[L30c,L30,m94,K30c]at e2
 have h64:64*k+64-64*k=64:=by omega
 have hl64:=sched_len (blockN M k) 64
 have ec:compF s (blockN M k)=partR s (rounds8 s (sched (blockN M k) 64) 64) 8:=rfl
 rw[ec]
 have hr0:rounds8 s (sched (blockN M k) 64) 0=s:=rfl
 rw[hr0]at e1
 have hk4:wsAV (sched (blockN M k) 64)=wsAV (sched (blockN M k) 64):=rfl
 generalize rounds8 s (sched (blockN M k) 64) 64=v at *
 generalize sched (blockN M k) 64=ws at *
 have hsub1:IntKind.wrap .i64 (((64*k:Nat):Int)+64)=((64*k+64:Nat):Int):=by rw[w64 (by omega)];omega
 generalize 64*k=a at *
 have hz:AV.agg (List.replicate 64 (.int .u32 0))=zer64:=rfl
 simp(disch:=((fail_if_success (intro _));omega)) only[go_sem,simprocAttr,↓reduceIte,↓Nat.reduceEqDiff,xx,L30,m94,K30,S30,H8.av,bytesAV_length,h64,hB,c,wsAV_length,hl64,ws_all,hsub1,noImms_ws,↓hz]
 rw[e1 _ (by simp(disch:=((fail_if_success (intro _));omega)) only[go_sem,simprocAttr,↓reduceIte,↓Nat.reduceEqDiff,xx,S30b,H8.av,out32_refs];done)]
 obtain⟨va,vb,vc,vd,ve,vf,vg,vh⟩:=v
 simp(disch:=((fail_if_success (intro _));omega)) only[go_sem,simprocAttr,↓reduceIte,↓Nat.reduceEqDiff,xx,S30b,H8.av]
 rw[e2 ⟨va,vb,vc,vd,ve,vf,vg,vh⟩ _ (by simp(disch:=((fail_if_success (intro _));omega)) only[go_sem,simprocAttr,↓reduceIte,↓Nat.reduceEqDiff,xx,S30c,H8.av,partR,out32_refs])]
 simp(disch:=((fail_if_success (intro _));omega)) only[go_sem,simprocAttr,↓reduceIte,↓Nat.reduceEqDiff,xx,S30c,H8.av,partR,addH,out32_refs,hsub1]
theorem end30 (F:Ev.Cl)(M:List UInt8)(s:H8):isEx (evC gl F L30 (S30 M s M.length))=true:=by
 simp(disch:=((fail_if_success (intro _));omega)) only[go_sem,simprocAttr,↓reduceIte,↓Nat.reduceEqDiff,xx,L30,m94,S30]
def o32 (s:H8):AV:=.agg (bytesAV (outL s 0))
theorem rsum_F (F:Ev.Cl)(hr:RotOk F)(nb:Bool)(m:List UInt8)(hm:m.length<2^34)
  (c44:F 100 [.lst nb .sc (bytesAV m)] []=some (.sl 20000 [] 0 (m++padF m.length).length,[],[.grow .sc (bytesAV (m++padF m.length))]))
  (c45:∀b:List UInt8,b.length=64->F 101 [.lst false .sc (bytesAV b)] []=some (.agg (wsAV (sched b 64)),[],[])) :
  finK fd94.res fd94.pk (evC gl F fd94.body {fr:=frOf 0 [.lst nb .sc (bytesAV m)],hp:=[]})=some (.agg (bytesAV (hashL m)),[],[]):=by
 have hpl:(padF m.length).length=padZ m.length+1+8:=by unfold padF;rw[List.length_append,pad1_len,lenB_len]
 have hz64:padZ m.length<64:=Nat.mod_lt _ (by omega)
 have hML:(m++padF m.length).length=m.length+(padZ m.length+1+8):=by rw[List.length_append,hpl]
 have hdiv:64*((m.length+(padF m.length).length)/64)=(m++padF m.length).length:=by rw[hML,hpl];unfold padZ at *;omega
 have hN:(m.length+(padF m.length).length)/64<2^36:=by rw[hpl];omega
 have hhash:outL (blocksF (m++padF m.length) ((m.length+(padF m.length).length)/64)) 32=hashL m:=rfl
 have hM60:(m++padF m.length).length<2^60:=by rw[hML];omega
 generalize (m.length+(padF m.length).length)/64=N at *
 generalize m++padF m.length=M at *
 have e1:∀st,clean K30 st=some (S30 M (blocksF M 0) (64*0))->iter (evC gl F L30) K30 LF st=evC gl F L30 (S30 M (blocksF M N) M.length):=fun st h0=>by
  rw[iter_to (fun k=>S30 M (blocksF M k) (64*k)) N (by unfold LF;omega) h0 (fun k hk=>step30 F hr M _ k (by omega) hM60 c45) (by simp only[hdiv];exact end30 F M _),hdiv]
 have e2:∀s st,clean K30d st=some (S30d s 0)->iter (evC gl F L30d) K30d LF st=evC gl F L30d (S30d s 32):=fun s st h0 =>
  iter_to (S30d s) 32 (by unfold LF;omega) h0 (fun i hi=>step30d F s i hi) (end30d F s)
 have hz:AV.agg (List.replicate 64 (.int .u32 0))=zer64:=rfl
 simp only[L30,m94,K30,hz]at e1
 simp only[L30d,m94,K30d]at e2
 have ho:AV.agg (List.replicate 32 (.int .u8 0))=out32:=rfl
 have hq0:∀s,AV.agg (bytesAV (outL s 0))=out32:=fun s=>rfl
 have hol:(bytesAV (outL (blocksF M N) 32)).length=32:=by rw[bytesAV_length];exact outL_len _ 32 (by omega)
 have hb0:(blocksF M 0).av= .agg [.int .u32 1779033703,.int .u32 3144134277,.int .u32 1013904242,.int .u32 2773480762,.int .u32 1359893119,.int .u32 2600822924,.int .u32 528734635,.int .u32 1541459225]:=by kernel_rfl
 generalize hbN:blocksF M N=s at *
 simp(disch:=((fail_if_success (intro _));omega)) only[go_sem,simprocAttr,↓reduceIte,↓Nat.reduceEqDiff,xx,fd94,m94,c44,↓ho,↓hz,bytesAV_length,noImms_bytesAV]
 rw[e1 _ (by simp(disch:=((fail_if_success (intro _));omega)) only[go_sem,simprocAttr,↓reduceIte,↓Nat.reduceEqDiff,xx,S30,hb0,out32_refs])]
 simp(disch:=((fail_if_success (intro _));omega)) only[go_sem,simprocAttr,↓reduceIte,↓Nat.reduceEqDiff,xx,S30,H8.av]
 rw[e2 s _ (by simp(disch:=((fail_if_success (intro _));omega)) only[go_sem,simprocAttr,↓reduceIte,↓Nat.reduceEqDiff,xx,S30d,H8.av,hq0,out32_refs,↓ho])]
 have hhl:=hashL_len m
 simp(disch:=((fail_if_success (intro _));omega)) only[go_sem,simprocAttr,↓reduceIte,↓Nat.reduceEqDiff,xx,S30d,H8.av,bytes_all,bytesAV_length,hhash,hhl]
theorem rotr_at {n:Nat}(h:1<=n):RotOk (call gl tab n):=by
 obtain⟨d,rfl⟩:=Nat.exists_eq_add_of_le' h
 exact⟨fun x=>rotr_ok d x 6 (by omega) (by omega),fun x=>rotr_ok d x 11 (by omega) (by omega),fun x=>rotr_ok d x 25 (by omega) (by omega),fun x=>rotr_ok d x 2 (by omega) (by omega),fun x=>rotr_ok d x 13 (by omega) (by omega),fun x=>rotr_ok d x 22 (by omega) (by omega)⟩
theorem rsum_at {n:Nat}(h:3<=n)(nb:Bool)(m:List UInt8)(hm:m.length<2^34):call gl tab n 94 [.lst nb .sc (bytesAV m)] []=some (.agg (bytesAV (hashL m)),[],[]):=by
 obtain⟨d,rfl⟩:=Nat.exists_eq_add_of_le' h
 exact(call_go (n:=d+2) (fd:=fd94) rfl).trans (rsum_F (call gl tab (d+2)) (rotr_at (by omega)) nb m hm (padded_ok (d+1) nb m hm) fun b hb=>wordsr_ok d false b hb)
end Go.Proofs.S30.H
