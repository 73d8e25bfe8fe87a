/-
  The specification's hash: its parts. No condition.
-/
import Derived.Test.YtjenmopgcpnklaaDoorW30Hn
set_option linter.unusedVariables false
set_option linter.unusedSimpArgs false
set_option linter.unusedSectionVars false
namespace Go.Proofs.S30.H
open Go Go.Ev Go.Proofs Go.Proofs.S30
variable {gl :Gl}
theorem rotr_ok (d:Nat)(x:BitVec 32)(i:Nat)(h0:0<i)(h:i<32):call gl tab (d+1) 102 [u32 x,.int .i64 (i:Int)] []=some (u32 (rr x i),[],[]):=by
 have hw1:IntKind.wrap .i64 (32-(i:Int))=((32-i:Nat):Int):=by rw[wrap_i64 (by omega) (by omega)];omega
 have e:x>>>i|||x<<<(32-i)=rr x i:=BitVec.or_comm _ _
 rw[call_go (fd:=fd102) rfl]
 simp only[fd102,m102,go_sem,simprocAttr,↓reduceIte,↓Nat.reduceEqDiff,hw1,e]
def S44 (nb:Bool)(m:List UInt8)(p:List UInt8):St :=
 ⟨[.set 3 (.sl 5003 [] 0 p.length),.set 0 (.lst nb .sc (bytesAV m))],[(5003,.grow .sc (bytesAV p))]⟩
def S44b (x:BitVec 64)(p:List UInt8)(i:Nat):St :=
 ⟨[.set 5 (.int .i64 i),.set 4 (u64 x),.set 3 (.sl 5003 [] 0 p.length)],[(5003,.grow .sc (bytesAV p))]⟩
theorem padded_ok (d:Nat)(nb:Bool)(m:List UInt8)(hm:m.length<2^34):call gl tab (d+1) 100 [.lst nb .sc (bytesAV m)] []=some (.sl 20000 [] 0 (m++padF m.length).length,[],[.grow .sc (bytesAV (m++padF m.length))]):=by
 have hz:padZ m.length<64:=Nat.mod_lt _ (by omega)
 have hl1 (i:Nat):(m++pad1 i).length=m.length+(i+1):=by rw[List.length_append,pad1_len]
 have hX:(BitVec.ofNat 64 8*BitVec.ofNat 64 m.length)=BitVec.ofNat 64 (8*m.length):=by rw[BitVec.ofNat_mul]
 have hL0:m.length<=LIM:=by unfold LIM;omega
 have hb1:bytesAV m++[.int .u8 128]=bytesAV (m++pad1 0):=by rw[bytesAV_append];rfl
 rw[call_go (fd:=fd100) rfl]
 simp only[fd100,m100,go_sem,simprocAttr,↓reduceIte,↓Nat.reduceEqDiff,bytesAV_length,hL0,lim_of (show m.length<2^36 by omega),hb1]
 rw[iter_to (fun i=>S44 nb m (m++pad1 i)) (padZ m.length) (by unfold LF;omega)]
 . have hne:(m.length+(padZ m.length+1))%64=56:=by unfold padZ;omega
   have hb:((((m.length+(padZ m.length+1))%64:Nat):Int) != 56)=false:=by rw[hne];rfl
   have hrem:binInt .rem .i64 ((m.length+(padZ m.length+1):Nat):Int) 64=some (.int .i64 (((m.length+(padZ m.length+1))%64:Nat):Int)):=rem_nat _ 64 (by omega)
   simp only[S44,go_sem,simprocAttr,↓reduceIte,↓Nat.reduceEqDiff,hl1,hrem,hb,bytesAV_length,hX]
   rw[iter_to (fun i=>S44b (BitVec.ofNat 64 (8*m.length)) (m++pad1 (padZ m.length)++lenB m.length i) i) 8 (by unfold LF;omega)]
   . have hlf:(m++pad1 (padZ m.length)++lenB m.length 8).length=(m++padF m.length).length:=by rw[List.append_assoc];rfl
     have hbf:bytesAV (m++pad1 (padZ m.length)++lenB m.length 8)=bytesAV (m++padF m.length):=by rw[List.append_assoc];rfl
     show finK _ _ (seqK _ _ _ (blockK 2 (evC _ _ _ (S44b (BitVec.ofNat 64 (8*m.length)) (m++pad1 (padZ m.length)++lenB m.length 8) 8))))=_
     unfold S44b
     rw[hlf,hbf,show m.length+(padF m.length).length=(m++padF m.length).length from(List.length_append).symm]
     generalize m++padF m.length=Q
     simp only[go_sem,simprocAttr,↓reduceIte,↓Nat.reduceEqDiff,bytesAV_length]
   . have h00:m++pad1 (padZ m.length)++lenB m.length 0=m++pad1 (padZ m.length):=List.append_nil _
     simp only[S44b,go_sem,simprocAttr,↓reduceIte,↓Nat.reduceEqDiff,h00,hl1,bytesAV_length]
   . intro i hi
     have hw1:IntKind.wrap .i64 (8*(i:Int))=((8*i:Nat):Int):=by rw[wrap_i64 (by omega) (by omega)];omega
     have hw2:IntKind.wrap .i64 (56-((8*i:Nat):Int))=((56-8*i:Nat):Int):=by rw[wrap_i64 (by omega) (by omega)];omega
     have hp:=hl1 (padZ m.length)
     generalize m++pad1 (padZ m.length)=p at *
     have e:bytesAV (p++lenB m.length (i+1))=bytesAV (p++lenB m.length i)++[.int .u8 ((((BitVec.ofNat 64 (8*m.length)>>>(56-8*i:Nat)).setWidth 8).toNat:Nat):Int)]:=by
      rw[lenB_succ,<-List.append_assoc,bytesAV_append];rfl
     have hl:(p++lenB m.length i).length=p.length+i:=by rw[List.length_append,lenB_len]
     have hl':(p++lenB m.length (i+1)).length=p.length+i+1:=by rw[List.length_append,lenB_len];omega
     show contK _ (evC _ _ _ (S44b (BitVec.ofNat 64 (8*m.length)) (p++lenB m.length i) i))=some (S44b (BitVec.ofNat 64 (8*m.length)) (p++lenB m.length (i+1)) (i+1))
     generalize BitVec.ofNat 64 (8*m.length)=X at *
     unfold S44b
     rw[e,hl,hl']
     generalize p++lenB m.length i=P at *
     simp only[go_sem,simprocAttr,↓reduceIte,↓Nat.reduceEqDiff,hi,hw1,hw2,hl,bytesAV_length,lim_of (show p.length+i<2^36 by omega),wrap_succ (show i<2^62 by omega)]
   . simp only[S44b,go_sem,simprocAttr,↓reduceIte,↓Nat.reduceEqDiff]
 . simp only[S44,go_sem,simprocAttr,↓reduceIte,↓Nat.reduceEqDiff,hl1]
 . intro i hi
   have hne:(m.length+(i+1))%64≠56:=by unfold padZ at *;omega
   have hb:((((m.length+(i+1))%64:Nat):Int) != 56)=true:=by rw[bne_iff_ne];omega
   have hrem:binInt .rem .i64 ((m.length+(i+1):Nat):Int) 64=some (.int .i64 (((m.length+(i+1))%64:Nat):Int)):=rem_nat _ 64 (by omega)
   have e:bytesAV (m++pad1 (i+1))=bytesAV (m++pad1 i)++[.int .u8 0]:=by rw[bytesAV_append,pad1_succ,<-List.append_assoc,<-bytesAV_append]
   show contK _ (evC _ _ _ (S44 nb m (m++pad1 i)))=some (S44 nb m (m++pad1 (i+1)))
   unfold S44
   rw[e,hl1,hl1]
   have hl:=hl1 i
   generalize m++pad1 i=P at *
   simp only[go_sem,simprocAttr,↓reduceIte,↓Nat.reduceEqDiff,hl,bytesAV_length,hrem,hb,lim_of (show m.length+(i+1)<2^36 by omega)]
   rfl
 . have hne:(m.length+(padZ m.length+1))%64=56:=by unfold padZ;omega
   have hb:((((m.length+(padZ m.length+1))%64:Nat):Int) != 56)=false:=by rw[hne];rfl
   have hrem:binInt .rem .i64 ((m.length+(padZ m.length+1):Nat):Int) 64=some (.int .i64 (((m.length+(padZ m.length+1))%64:Nat):Int)):=rem_nat _ 64 (by omega)
   simp only[S44,go_sem,simprocAttr,↓reduceIte,↓Nat.reduceEqDiff,hl1,hrem,hb]
end Go.Proofs.S30.H
namespace Go.Proofs.S30.H
open Go Go.Ev Go.Proofs Go.Proofs.S30
variable {gl :Gl}
theorem rotr7 (d:Nat)(x:BitVec 32):call gl tab (d+1) 102 [u32 x,.int .i64 7] []=some (u32 (rr x 7),[],[]):=rotr_ok d x 7 (by omega) (by omega)
theorem rotr18 (d:Nat)(x:BitVec 32):call gl tab (d+1) 102 [u32 x,.int .i64 18] []=some (u32 (rr x 18),[],[]):=rotr_ok d x 18 (by omega) (by omega)
theorem rotr17 (d:Nat)(x:BitVec 32):call gl tab (d+1) 102 [u32 x,.int .i64 17] []=some (u32 (rr x 17),[],[]):=rotr_ok d x 17 (by omega) (by omega)
theorem rotr19 (d:Nat)(x:BitVec 32):call gl tab (d+1) 102 [u32 x,.int .i64 19] []=some (u32 (rr x 19),[],[]):=rotr_ok d x 19 (by omega) (by omega)
def S45 (nb:Bool)(b:List UInt8)(t:Nat):St :=
 ⟨[.set 4 (.int .i64 t),.set 3 (.ptr 3 []),.set 2 (.ptr 2 []),.set 0 (.lst nb .sc (bytesAV b))],[(3,.fix (.ar 64 .sc) (.agg (wsAV (sched b t)))),(2,.fix (.ar 64 .sc) zer64)]⟩
def S45b (b:List UInt8)(t:Nat):St :=
 ⟨[.set 5 (.int .i64 t),.set 3 (.ptr 3 []),.set 2 (.ptr 2 [])],[(3,.fix (.ar 64 .sc) (.agg (wsAV (sched b t)))),(2,.fix (.ar 64 .sc) zer64)]⟩
theorem wordsr_ok (d:Nat)(nb:Bool)(b:List UInt8)(hb:b.length=64):call gl tab (d+2) 101 [.lst nb .sc (bytesAV b)] []=some (.agg (wsAV (sched b 64)),[],[]):=by
 have hz:AV.agg (List.replicate 64 (.int .u32 0))=zer64:=rfl
 rw[call_go (fd:=fd101) rfl]
 simp only[fd101,m101,hz,go_sem,simprocAttr,↓reduceIte,↓Nat.reduceEqDiff]
 rw[iter_to (S45 nb b) 16 (by unfold LF;omega)]
 . simp(disch:=((fail_if_success (intro _));omega)) only[go_sem,simprocAttr,↓reduceIte,↓Nat.reduceEqDiff,xx,S45]
   rw[iter_to (fun i=>S45b b (16+i)) 48 (by unfold LF;omega)]
   . simp(disch:=((fail_if_success (intro _));omega)) only[go_sem,simprocAttr,↓reduceIte,↓Nat.reduceEqDiff,xx,S45b,wsAV_length,sched_len,ws_all]
   . simp(disch:=((fail_if_success (intro _));omega)) only[go_sem,simprocAttr,↓reduceIte,↓Nat.reduceEqDiff,xx,S45b]
     rfl
   . intro i hi
     show contK _ (evC _ _ _ (S45b b (16+i)))=some (S45b b (16+i+1))
     obtain⟨t,rfl⟩:∃t,t=16+i:=⟨_,rfl⟩
     generalize ht:16+i=t at *
     have g15:=wsAV_get (l:=sched b t) (i:=t-15) (by rw[sched_len];omega)
     have g2:=wsAV_get (l:=sched b t) (i:=t-2) (by rw[sched_len];omega)
     have g7:=wsAV_get (l:=sched b t) (i:=t-7) (by rw[sched_len];omega)
     have g6:=wsAV_get (l:=sched b t) (i:=t-16) (by rw[sched_len];omega)
     have gt:=wsAV_get (l:=sched b t) (i:=t) (by rw[sched_len];omega)
     have h16:¬t<16:=by omega
     simp(disch:=((fail_if_success (intro _));omega)) only[go_sem,simprocAttr,↓reduceIte,↓Nat.reduceEqDiff,xx,S45b,zer64_refs,gt,g15,g2,g7,g6,wsAV_length,sched_len,rotr7,rotr18,rotr17,rotr19,sched,wsAV_set,nextW]
   . simp(disch:=((fail_if_success (intro _));omega)) only[go_sem,simprocAttr,↓reduceIte,↓Nat.reduceEqDiff,xx,S45b]
 . simp(disch:=((fail_if_success (intro _));omega)) only[go_sem,simprocAttr,↓reduceIte,↓Nat.reduceEqDiff,xx,S45]
   rfl
 . intro t ht
   have gt:=wsAV_get (l:=sched b t) (i:=t) (by rw[sched_len];omega)
   simp(disch:=((fail_if_success (intro _));omega)) only[go_sem,simprocAttr,↓reduceIte,↓Nat.reduceEqDiff,xx,S45,zer64_refs,gt,bytesAV_length,bytesAV_getD,hb,wsAV_length,sched_len,sched,wsAV_set,word,bt]
 . simp(disch:=((fail_if_success (intro _));omega)) only[go_sem,simprocAttr,↓reduceIte,↓Nat.reduceEqDiff,xx,S45]
end Go.Proofs.S30.H
namespace Go.Proofs.S30.H
open Go Go.Ev Go.Proofs Go.Proofs.S30
variable {gl :Gl} [Nonempty (GlR gl)]
theorem not_x (x:BitVec 32):x^^^4294967295#32= ~~~ x:=by
 have:(4294967295#32:BitVec 32)=BitVec.allOnes 32:=by decide
 rw[this,BitVec.xor_allOnes]
def L30 :MC:=match m94 with
 | .seq _ (.seq _ (.seq _ (.seq (.seq _ (.block _ (.loop _ b))) _)))=>b
 | _=>.skip
def L30b :MC:=match L30 with
 | .seq _ (.seq (.block _ (.seq _ (.seq _ (.seq (.seq _ (.block _ (.loop _ b))) _)))) _)=>b
 | _=>.skip
def L30c :MC:=match L30 with
 | .seq _ (.seq (.block _ (.seq _ (.seq _ (.seq _ (.seq _ (.block _ (.loop _ b))))))) _)=>b
 | _=>.skip
def L30d :MC:=match m94 with
 | .seq _ (.seq _ (.seq _ (.seq _ (.seq _ (.seq (.seq _ (.block _ (.loop _ b))) _)))))=>b
 | _=>.skip
def K30 :List Kp:=[.slot 2,.slot 3,.slot 4,.slot 5,.key 2,.key 3,.key 16]
def K30b :List Kp:=[.slot 2,.slot 3,.slot 4,.slot 5,.slot 6,.slot 7,.slot 8,.key 2,.key 3,.key 6,.key 7,.key 16]
def K30c :List Kp:=[.slot 2,.slot 3,.slot 4,.slot 5,.slot 7,.slot 11,.key 2,.key 3,.key 7,.key 16]
def K30d :List Kp:=[.slot 2,.slot 3,.slot 12,.slot 13,.key 2,.key 3,.key 12]
def S30 (M:List UInt8)(s:H8)(a:Nat):St :=
 ⟨[.set 5 (.int .i64 a),.set 4 (.sl 16 [] 0 M.length),.set 3 (.ptr 3 []),.set 2 (.ptr 2 [])],
  [(16,.grow .sc (bytesAV M)),(3,.fix (.ar 8 .sc) s.av),(2,.fix (.ar 32 .sc) out32)]⟩
def S30b (M:List UInt8)(s v:H8)(ws:Ws)(a t:Nat):St :=
 ⟨[.set 8 (.int .i64 t),.set 7 (.ptr 7 []),.set 6 (.ptr 6 []),.set 5 (.int .i64 a),.set 4 (.sl 16 [] 0 M.length),.set 3 (.ptr 3 []),.set 2 (.ptr 2 [])],
  [(16,.grow .sc (bytesAV M)),(7,.fix (.ar 8 .sc) v.av),(6,.fix (.ar 64 .sc) (.agg (wsAV ws))),(3,.fix (.ar 8 .sc) s.av),(2,.fix (.ar 32 .sc) out32)]⟩
def S30c (M:List UInt8)(s v:H8)(a i:Nat):St :=
 ⟨[.set 11 (.int .i64 i),.set 7 (.ptr 7 []),.set 5 (.int .i64 a),.set 4 (.sl 16 [] 0 M.length),.set 3 (.ptr 3 []),.set 2 (.ptr 2 [])],
  [(16,.grow .sc (bytesAV M)),(7,.fix (.ar 8 .sc) v.av),(3,.fix (.ar 8 .sc) s.av),(2,.fix (.ar 32 .sc) out32)]⟩
def S30d (s:H8)(i:Nat):St :=
 ⟨[.set 13 (.int .i64 i),.set 12 (.ptr 12 []),.set 3 (.ptr 3 []),.set 2 (.ptr 2 [])],
  [(12,.fix (.ar 32 .sc) (.agg (bytesAV (outL s i)))),(3,.fix (.ar 8 .sc) s.av),(2,.fix (.ar 32 .sc) out32)]⟩
structure RotOk (F:Ev.Cl):Prop where
 r6:∀x:BitVec 32,F 102 [u32 x,.int .i64 6] []=some (u32 (rr x 6),[],[])
 r11:∀x:BitVec 32,F 102 [u32 x,.int .i64 11] []=some (u32 (rr x 11),[],[])
 r25:∀x:BitVec 32,F 102 [u32 x,.int .i64 25] []=some (u32 (rr x 25),[],[])
 r2:∀x:BitVec 32,F 102 [u32 x,.int .i64 2] []=some (u32 (rr x 2),[],[])
 r13:∀x:BitVec 32,F 102 [u32 x,.int .i64 13] []=some (u32 (rr x 13),[],[])
 r22:∀x:BitVec 32,F 102 [u32 x,.int .i64 22] []=some (u32 (rr x 22),[],[])
theorem step30b (F:Ev.Cl)(hr:RotOk F)(M:List UInt8)(s v:H8)(ws:Ws)(hl:ws.length=64)(a t:Nat)(ht:t<64)(k x:BitVec 32)(hk:kA[t]? =some (u32 k))(hx:(wsAV ws)[t]? =some (u32 x)) :
  contK K30b (evC gl F L30b (S30b M s v ws a t))=some (S30b M s (roundF v k x) ws a (t+1)):=by
 obtain⟨va,vb,vc,vd,ve,vf,vg,vh⟩:=v
 simp(disch:=((fail_if_success (intro _));omega)) only[go_sem,simprocAttr,↓reduceIte,↓Nat.reduceEqDiff,xx,L30b,L30,m94,K30b,S30b,H8.av,hk,hx,kA_len,kA_all,wsAV_length,hl,hr.r6,hr.r11,hr.r25,hr.r2,hr.r13,hr.r22,not_x,glR,roundF,out32_refs]
theorem end30b (F:Ev.Cl)(M:List UInt8)(s v:H8)(ws:Ws)(a:Nat):isEx (evC gl F L30b (S30b M s v ws a 64))=true:=by
 simp(disch:=((fail_if_success (intro _));omega)) only[go_sem,simprocAttr,↓reduceIte,↓Nat.reduceEqDiff,xx,L30b,L30,m94,S30b]
def partR (s v:H8):Nat->H8
 | 0=>s
 | 1=>⟨s.a+v.a,s.b,s.c,s.d,s.e,s.f,s.g,s.h⟩
 | 2=>⟨s.a+v.a,s.b+v.b,s.c,s.d,s.e,s.f,s.g,s.h⟩
 | 3=>⟨s.a+v.a,s.b+v.b,s.c+v.c,s.d,s.e,s.f,s.g,s.h⟩
 | 4=>⟨s.a+v.a,s.b+v.b,s.c+v.c,s.d+v.d,s.e,s.f,s.g,s.h⟩
 | 5=>⟨s.a+v.a,s.b+v.b,s.c+v.c,s.d+v.d,s.e+v.e,s.f,s.g,s.h⟩
 | 6=>⟨s.a+v.a,s.b+v.b,s.c+v.c,s.d+v.d,s.e+v.e,s.f+v.f,s.g,s.h⟩
 | 7=>⟨s.a+v.a,s.b+v.b,s.c+v.c,s.d+v.d,s.e+v.e,s.f+v.f,s.g+v.g,s.h⟩
 | _+8=>addH s v
theorem step30c (F:Ev.Cl)(M:List UInt8)(s v:H8)(a i:Nat)(hi:i<8):contK K30c (evC gl F L30c (S30c M (partR s v i) v a i))=some (S30c M (partR s v (i+1)) v a (i+1)):=by
 match i,hi with
 | 0,_=>simp(disch:=((fail_if_success (intro _));omega)) only[go_sem,simprocAttr,↓reduceIte,↓Nat.reduceEqDiff,xx,L30c,L30,m94,K30c,S30c,H8.av,partR,out32_refs]
 | 1,_=>simp(disch:=((fail_if_success (intro _));omega)) only[go_sem,simprocAttr,↓reduceIte,↓Nat.reduceEqDiff,xx,L30c,L30,m94,K30c,S30c,H8.av,partR,out32_refs]
 | 2,_=>simp(disch:=((fail_if_success (intro _));omega)) only[go_sem,simprocAttr,↓reduceIte,↓Nat.reduceEqDiff,xx,L30c,L30,m94,K30c,S30c,H8.av,partR,out32_refs]
 | 3,_=>simp(disch:=((fail_if_success (intro _));omega)) only[go_sem,simprocAttr,↓reduceIte,↓Nat.reduceEqDiff,xx,L30c,L30,m94,K30c,S30c,H8.av,partR,out32_refs]
 | 4,_=>simp(disch:=((fail_if_success (intro _));omega)) only[go_sem,simprocAttr,↓reduceIte,↓Nat.reduceEqDiff,xx,L30c,L30,m94,K30c,S30c,H8.av,partR,out32_refs]
 | 5,_=>simp(disch:=((fail_if_success (intro _));omega)) only[go_sem,simprocAttr,↓reduceIte,↓Nat.reduceEqDiff,xx,L30c,L30,m94,K30c,S30c,H8.av,partR,out32_refs]
 | 6,_=>simp(disch:=((fail_if_success (intro _));omega)) only[go_sem,simprocAttr,↓reduceIte,↓Nat.reduceEqDiff,xx,L30c,L30,m94,K30c,S30c,H8.av,partR,out32_refs]
 | 7,_=>simp(disch:=((fail_if_success (intro _));omega)) only[go_sem,simprocAttr,↓reduceIte,↓Nat.reduceEqDiff,xx,L30c,L30,m94,K30c,S30c,H8.av,partR,addH,out32_refs]
theorem end30c (F:Ev.Cl)(M:List UInt8)(s v:H8)(a:Nat):isEx (evC gl F L30c (S30c M s v a 8))=true:=by
 simp(disch:=((fail_if_success (intro _));omega)) only[go_sem,simprocAttr,↓reduceIte,↓Nat.reduceEqDiff,xx,L30c,L30,m94,S30c]
theorem step30d (F:Ev.Cl)(s:H8)(i:Nat)(hi:i<32):contK K30d (evC gl F L30d (S30d s i))=some (S30d s (i+1)):=by
 have hw1:IntKind.wrap .i64 (8*((i%4:Nat):Int))=((8*(i%4):Nat):Int):=by rw[wrap_i64 (by omega) (by omega)];omega
 have hw2:IntKind.wrap .i64 (24-((8*(i%4):Nat):Int))=((24-8*(i%4):Nat):Int):=by rw[wrap_i64 (by omega) (by omega)];omega
 have hg:=h8_get s (i/4) (by omega)
 have hl:=outL_len s i (by omega)
 have hgo:∃y,(bytesAV (outL s i))[i]? =some (.int .u8 y):=⟨_,bytesAV_get (by omega)⟩
 obtain⟨y,hgo⟩:=hgo
 have h8:i/4<8:=by omega
 unfold S30d
 rw[outL_succ _ _ hi,bytesAV_set']
 simp only[L30d,m94,K30d,H8.av,go_sem,simprocAttr,↓reduceIte,↓Nat.reduceEqDiff,hi,quo4 _ (show i<2^62 by omega),rem4,hw1,hw2,hg,h8,hgo,bytesAV_length,hl,outB,wrap_succ (show i<2^62 by omega),out32_refs]
theorem end30d (F:Ev.Cl)(s:H8):isEx (evC gl F L30d (S30d s 32))=true:=by
 simp(disch:=((fail_if_success (intro _));omega)) only[go_sem,simprocAttr,↓reduceIte,↓Nat.reduceEqDiff,xx,L30d,m94,S30d]
end Go.Proofs.S30.H
