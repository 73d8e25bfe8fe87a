/-
  The specification's hash: its parts. No condition.
-/
import Derived.Test.YtjenmopgcpnklaaGreatDoorW90Hn
set_option linter.unusedVariables false
set_option linter.unusedSimpArgs false
set_option linter.unusedSectionVars false
namespace Go.Proofs.S90.H
open Go Go.Ev Go.Proofs Go.Proofs.S90
variable {gl :Gl}
theorem rotr_ok (d:Nat)(x:BitVec 32)(i:Nat)(h0:0<i)(h:i<32):call gl tab (d+1) 106 [u32 x,.int .i64 (i:Int)] []=some (u32 (rr x i),[],[]):=by
 have hw1:IntKind.wrap .i64 (32-(i:Int))=((32-i:Nat):Int):=by rw[wrap_i64 (by omega) (by omega)];omega
 have e:x>>>i|||x<<<(32-i)=rr x i:=BitVec.or_comm _ _
 rw[call_go (fd:=fd106) rfl]
 simp only[fd106,m106,go_sem,simprocAttr,↓reduceIte,↓Nat.reduceEqDiff,hw1,e]
def S44 (nb:Bool)(m:List UInt8)(p:List UInt8):St :=
 ⟨[.set 3 (.sl 5003 [] 0 p.length),.set 0 (.lst nb .sc (bytesAV m))],[(5003,.grow .sc (bytesAV p))]⟩
def S44b (x:BitVec 64)(p:List UInt8)(i:Nat):St :=
 ⟨[.set 5 (.int .i64 i),.set 4 (u64 x),.set 3 (.sl 5003 [] 0 p.length)],[(5003,.grow .sc (bytesAV p))]⟩
theorem padded_ok (d:Nat)(nb:Bool)(m:List UInt8)(hm:m.length<2^34):call gl tab (d+1) 104 [.lst nb .sc (bytesAV m)] []=some (.sl 20000 [] 0 (m++padF m.length).length,[],[.grow .sc (bytesAV (m++padF m.length))]):=by
 have hz:padZ m.length<64:=Nat.mod_lt _ (by omega)
 have hl1 (i:Nat):(m++pad1 i).length=m.length+(i+1):=by rw[List.length_append,pad1_len]
 have hX:(BitVec.ofNat 64 8*BitVec.ofNat 64 m.length)=BitVec.ofNat 64 (8*m.length):=by rw[BitVec.ofNat_mul]
 have hL0:m.length<=LIM:=by unfold LIM;omega
 have hb1:bytesAV m++[.int .u8 128]=bytesAV (m++pad1 0):=by rw[bytesAV_append];rfl
 rw[call_go (fd:=fd104) rfl]
 simp only[fd104,m104,go_sem,simprocAttr,↓reduceIte,↓Nat.reduceEqDiff,bytesAV_length,hL0,lim_of (show m.length<2^36 by omega),hb1]
 rw[iter_to (fun i=>S44 nb m (m++pad1 i)) (padZ m.length) (by unfold LF;omega)]
 . have hne:(m.length+(padZ m.length+1))%64=56:=by unfold padZ;omega
   have hb:((((m.length+(padZ m.length+1))%64:Nat):Int) != 56)=false:=by rw[hne];rfl
   have hrem:binInt .rem .i64 ((m.length+(padZ m.length+1):Nat):Int) 64=some (.int .i64 (((m.length+(padZ m.length+1))%64:Nat):Int)):=rem_nat _ 64 (by omega)
   simp only[S44,go_sem,simprocAttr,↓reduceIte,↓Nat.reduceEqDiff,hl1,hrem,hb,bytesAV_length,hX]
   rw[iter_to (fun i=>S44b (BitVec.ofNat 64 (8*m.length)) (m++pad1 (padZ m.length)++lenB m.length i) i) 8 (by unfold LF;omega)]
   . have hlf:(m++pad1 (padZ m.length)++lenB m.length 8).length=(m++padF m.length).length:=by rw[List.append_assoc];rfl
     have hbf:bytesAV (m++pad1 (padZ m.length)++lenB m.length 8)=bytesAV (m++padF m.length):=by rw[List.append_assoc];rfl
     show finK _ _ (seqK _ _ _ (blockK 2 (evC _ _ _ (S44b (BitVec.ofNat 64 (8*m.length)) (m++pad1 (padZ m.length)++lenB m.length 8) 8))))=_
     unfold S44b
     rw[hlf,hbf,show m.length+(padF m.length).length=(m++padF m.length).length from(List.length_append).symm]
     generalize m++padF m.length=Q
     simp only[go_sem,simprocAttr,↓reduceIte,↓Nat.reduceEqDiff,bytesAV_length]
   . have h00:m++pad1 (padZ m.length)++lenB m.length 0=m++pad1 (padZ m.length):=List.append_nil _
     simp only[S44b,go_sem,simprocAttr,↓reduceIte,↓Nat.reduceEqDiff,h00,hl1,bytesAV_length]
   . intro i hi
     have hw1:IntKind.wrap .i64 (8*(i:Int))=((8*i:Nat):Int):=by rw[wrap_i64 (by omega) (by omega)];omega
     have hw2:IntKind.wrap .i64 (56-((8*i:Nat):Int))=((56-8*i:Nat):Int):=by rw[wrap_i64 (by omega) (by omega)];omega
     have hp:=hl1 (padZ m.length)
     generalize m++pad1 (padZ m.length)=p at *
     have e:bytesAV (p++lenB m.length (i+1))=bytesAV (p++lenB m.length i)++[.int .u8 ((((BitVec.ofNat 64 (8*m.length)>>>(56-8*i:Nat)).setWidth 8).toNat:Nat):Int)]:=by
      rw[lenB_succ,<-List.append_assoc,bytesAV_append];rfl
     have hl:(p++lenB m.length i).length=p.length+i:=by rw[List.length_append,lenB_len]
     have hl':(p++lenB m.length (i+1)).length=p.length+i+1:=by rw[List.length_append,lenB_len];omega
     show contK _ (evC _ _ _ (S44b (BitVec.ofNat 64 (8*m.length)) (p++lenB m.length i) i))=some (S44b (BitVec.ofNat 64 (8*m.length)) (p++lenB m.length (i+1)) (i+1))
     generalize BitVec.ofNat 64 (8*m.length)=X at *
     unfold S44b
     rw[e,hl,hl']
     generalize p++lenB m.length i=P at *
     simp only[go_sem,simprocAttr,↓reduceIte,↓Nat.reduceEqDiff,hi,hw1,hw2,hl,bytesAV_length,lim_of (show p.length+i<2^36 by omega),wrap_succ (show i<2^62 by omega)]
   . simp only[S44b,go_sem,simprocAttr,↓reduceIte,↓Nat.reduceEqDiff]
 . simp only[S44,go_sem,simprocAttr,↓reduceIte,↓Nat.reduceEqDiff,hl1]
 . intro i hi
   have hne:(m.length+(i+1))%64≠56:=by unfold padZ at *;omega
   have hb:((((m.length+(i+1))%64:Nat):Int) != 56)=true:=by rw[bne_iff_ne];omega
   have hrem:binInt .rem .i64 ((m.length+(i+1):Nat):Int) 64=some (.int .i64 (((m.length+(i+1))%64:Nat):Int)):=rem_nat _ 64 (by omega)
   have e:bytesAV (m++pad1 (i+1))=bytesAV (m++pad1 i)++[.int .u8 0]:=by rw[bytesAV_append,pad1_succ,<-List.append_assoc,<-bytesAV_append]
   show contK _ (evC _ _ _ (S44 nb m (m++pad1 i)))=some (S44 nb m (m++pad1 (i+1)))
   unfold S44
   rw[e,hl1,hl1]
   have hl:=hl1 i
   generalize m++pad1 i=P at *
   simp only[go_sem,simprocAttr,↓reduceIte,↓Nat.reduceEqDiff,hl,bytesAV_length,hrem,hb,lim_of (show m.length+(i+1)<2^36 by omega)]
   rfl
 . have hne:(m.length+(padZ m.length+1))%64=56:=by unfold padZ;omega
   have hb:((((m.length+(padZ m.length+1))%64:Nat):Int) != 56)=false:=by rw[hne];rfl
   have hrem:binInt .rem .i64 ((m.length+(padZ m.length+1):Nat):Int) 64=some (.int .i64 (((m.length+(padZ m.length+1))%64:Nat):Int)):=rem_nat _ 64 (by omega)
   simp only[S44,go_sem,simprocAttr,↓reduceIte,↓Nat.reduceEqDiff,hl1,hrem,hb]
end Go.Proofs.S90.H
namespace Go.Proofs.S90.H
open Go Go.Ev Go.Proofs Go.Proofs.S90
variable {gl :Gl}
theorem rotr7 (d:Nat)(x:BitVec 32):call gl tab (d+1) 106 [u32 x,.int .i64 7] []=some (u32 (rr x 7),[],[]):=rotr_ok d x 7 (by omega) (by omega)
theorem rotr18 (d:Nat)(x:BitVec 32):call gl tab (d+1) 106 [u32 x,.int .i64 18] []=some (u32 (rr x 18),[],[]):=rotr_ok d x 18 (by omega) (by omega)
theorem rotr17 (d:Nat)(x:BitVec 32):call gl tab (d+1) 106 [u32 x,.int .i64 17] []=some (u32 (rr x 17),[],[]):=rotr_ok d x 17 (by omega) (by omega)
theorem rotr19 (d:Nat)(x:BitVec 32):call gl tab (d+1) 106 [u32 x,.int .i64 19] []=some (u32 (rr x 19),[],[]):=rotr_ok d x 19 (by omega) (by omega)
def S45 (nb:Bool)(b:List UInt8)(t:Nat):St :=
 ⟨[.set 4 (.int .i64 t),.set 3 (.ptr 3 []),.set 2 (.ptr 2 []),.set 0 (.lst nb .sc (bytesAV b))],[(3,.fix (.ar 64 .sc) (.agg (wsAV (sched b t)))),(2,.fix (.ar 64 .sc) zer64)]⟩
def S45b (b:List UInt8)(t:Nat):St :=
 ⟨[.set 5 (.int .i64 t),.set 3 (.ptr 3 []),.set 2 (.ptr 2 [])],[(3,.fix (.ar 64 .sc) (.agg (wsAV (sched b t)))),(2,.fix (.ar 64 .sc) zer64)]⟩
theorem wordsr_ok (d:Nat)(nb:Bool)(b:List UInt8)(hb:b.length=64):call gl tab (d+2) 105 [.lst nb .sc (bytesAV b)] []=some (.agg (wsAV (sched b 64)),[],[]):=by
 have hz:AV.agg (List.replicate 64 (.int .u32 0))=zer64:=rfl
 rw[call_go (fd:=fd105) rfl]
 simp only[fd105,m105,hz,go_sem,simprocAttr,↓reduceIte,↓Nat.reduceEqDiff]
 rw[iter_to (S45 nb b) 16 (by unfold LF;omega)]
 . simp(disch:=((fail_if_success (intro _));omega)) only[go_sem,simprocAttr,↓reduceIte,↓Nat.reduceEqDiff,xx,S45]
   rw[iter_to (fun i=>S45b b (16+i)) 48 (by unfold LF;omega)]
   . simp(disch:=((fail_if_success (intro _));omega)) only[go_sem,simprocAttr,↓reduceIte,↓Nat.reduceEqDiff,xx,S45b,wsAV_length,sched_len,ws_all]
   . simp(disch:=((fail_if_success (intro _));omega)) only[go_sem,simprocAttr,↓reduceIte,↓Nat.reduceEqDiff,xx,S45b]
     rfl
   . intro i hi
     show contK _ (evC _ _ _ (S45b b (16+i)))=some (S45b b (16+i+1))
     obtain⟨t,rfl⟩:∃t,t=16+i:=⟨_,rfl⟩
     generalize ht:16+i=t at *
     have g15:=wsAV_get (l:=sched b t) (i:=t-15) (by rw[sched_len];omega)
     have g2:=wsAV_get (l:=sched b t) (i:=t-2) (by rw[sched_len];omega)
     have g7:=wsAV_get (l:=sched b t) (i:=t-7) (by rw[sched_len];omega)
     have g6:=wsAV_get (l:=sched b t) (i:=t-16) (by rw[sched_len];omega)
     have gt:=wsAV_get (l:=sched b t) (i:=t) (by rw[sched_len];omega)
     have h16:¬t<16:=by omega
     simp(disch:=((fail_if_success (intro _));omega)) only[go_sem,simprocAttr,↓reduceIte,↓Nat.reduceEqDiff,xx,S45b,zer64_refs,gt,g15,g2,g7,g6,wsAV_length,sched_len,rotr7,rotr18,rotr17,rotr19,sched,wsAV_set,nextW]
   . simp(disch:=((fail_if_success (intro _));omega)) only[go_sem,simprocAttr,↓reduceIte,↓Nat.reduceEqDiff,xx,S45b]
 . simp(disch:=((fail_if_success (intro _));omega)) only[go_sem,simprocAttr,↓reduceIte,↓Nat.reduceEqDiff,xx,S45]
   rfl
 . intro t ht
   have gt:=wsAV_get (l:=sched b t) (i:=t) (by rw[sched_len];omega)
   simp(disch:=((fail_if_success (intro _));omega)) only[go_sem,simprocAttr,↓reduceIte,↓Nat.reduceEqDiff,xx,S45,zer64_refs,gt,bytesAV_length,bytesAV_getD,hb,wsAV_length,sched_len,sched,wsAV_set,word,bt]
 . simp(disch:=((fail_if_success (intro _));omega)) only[go_sem,simprocAttr,↓reduceIte,↓Nat.reduceEqDiff,xx,S45]
end Go.Proofs.S90.H
