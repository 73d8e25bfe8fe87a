/-
  Streams that are hashed: what one round of Add does. No condition.
-/
import Derived.Test.YtcddalfeicoedaaGreatDoorW44G2x5
set_option linter.unusedVariables false
set_option linter.unusedSimpArgs false
set_option linter.unusedSectionVars false
namespace Go.Proofs.S44.H
open Go Go.Ev Go.Proofs Go.Proofs.S44
variable {gl :Gl} [Nonempty (GlK gl)]
structure Sm where
 h:H8
 blk:List UInt8
 n:Nat
def Sm.av (s:Sm):AV:=.agg [s.h.av,.agg (bytesAV s.blk),.int .u64 (s.n:Int)]
def chunkK (s:Sm)(t:List UInt8):Nat:=min t.length (64-s.n%64)
def chunkB (s:Sm)(t:List UInt8):List UInt8:=s.blk.take (s.n%64)++t.take (chunkK s t)++s.blk.drop (s.n%64+chunkK s t)
def chunk (s:Sm)(t:List UInt8):Sm:=⟨if s.n%64+chunkK s t=64 then compF s.h (chunkB s t)else s.h,chunkB s t,s.n+chunkK s t⟩
def zst :AV:=.agg [z8,.agg (List.replicate 64 (.int .u8 0)),.int .u64 0]
theorem zst_refs :zst.refs=[]:=by kernel_rfl
def L32 :MC:=match m133 with
 | .seq _ (.seq (.block _ (.loop _ b)) _)=>b
 | _=>.skip
def K32 :List Kp:=[.slot 1,.slot 2,.slot 4,.key 2,.key 4]
def S32 (s:Sm)(t:List UInt8):St :=
 ⟨[.set 4 (.ptr 4 []),.set 2 (.ptr 2 []),.set 1 (.str t)],[(4,.fix (.st [.ar 8 .sc,.ar 64 .sc,.sc]) zst),(2,.fix (.st [.ar 8 .sc,.ar 64 .sc,.sc]) s.av)]⟩
theorem remu (a:Nat):binInt .rem .u64 (a:Int) 64=some (.int .u64 ((a%64:Nat):Int)):=by
 have h8:¬((64:Int)=0):=by decide
 simp only[binInt,h8,if_false];rfl
theorem bytesAV_drop (l:List UInt8)(k:Nat):(bytesAV l).drop k=bytesAV (l.drop k):=by simp[bytesAV,List.map_drop]
theorem bytesAV_tk (l:List UInt8)(k:Nat):(bytesAV l).take k=bytesAV (l.take k):=by simp[bytesAV,List.map_take]
theorem chunkB_len (s:Sm)(t:List UInt8)(hb:s.blk.length=64):(chunkB s t).length=64:=by
 unfold chunkB chunkK
 simp only[List.length_append,List.length_take,List.length_drop,hb]
 have:=Nat.mod_lt s.n (show 0<64 by omega)
 omega
theorem step32 (F:Ev.Cl)(s:Sm)(t:List UInt8)(hb:s.blk.length=64)(hn:s.n<2^62)(ht:t≠[])(htl:t.length<2^62)
  (c47:F 158 [s.h.av,.lst false .sc (bytesAV (chunkB s t))] []=some ((compF s.h (chunkB s t)).av,[],[])) :
  contK K32 (evC gl F L32 (S32 s t))=some (S32 (chunk s t) (t.drop (chunkK s t))):=by
 have hat:s.n%64<64:=Nat.mod_lt _ (by omega)
 have hne:(!(t==[]))=true:=by simp[ht]
 have hw1:IntKind.wrap .i64 ((s.n%64:Nat):Int)=((s.n%64:Nat):Int):=wrap_i64 (by omega) (by omega)
 have hk:chunkK s t=min t.length (64-s.n%64):=rfl
 have hk1:chunkK s t<=t.length:=by rw[hk];exact Nat.min_le_left _ _
 have hk2:s.n%64+chunkK s t<=64:=by have:=Nat.min_le_right t.length (64-s.n%64);omega
 have hBl:=chunkB_len s t hb
 have hadd:(BitVec.ofNat 64 s.n+BitVec.ofNat 64 (chunkK s t)).toNat=s.n+chunkK s t:=by
  rw[<-BitVec.ofNat_add,BitVec.toNat_ofNat,Nat.mod_eq_of_lt (by omega)]
 have hw2:IntKind.wrap .i64 (((s.n%64:Nat):Int)+((chunkK s t:Nat):Int))=((s.n%64+chunkK s t:Nat):Int):=by rw[wrap_i64 (by omega) (by omega)];omega
 have hB:List.take (s.n%64) (bytesAV s.blk)++(List.take (chunkK s t) (bytesAV t)++List.drop (s.n%64+chunkK s t) (bytesAV s.blk))=bytesAV (chunkB s t):=by
  rw[bytesAV_tk,bytesAV_tk,bytesAV_drop,<-bytesAV_append,<-bytesAV_append,chunkB,List.append_assoc]
 have hB':List.take (s.n%64) (bytesAV s.blk)++List.take (chunkK s t) (bytesAV t)++List.drop (s.n%64+chunkK s t) (bytesAV s.blk)=bytesAV (chunkB s t):=by rw[List.append_assoc,hB]
 have hte:(bytesAV t).isEmpty=false:=by
  cases t with
  | nil=>exact absurd rfl ht
  | cons a l=>rfl
 have hle:s.n%64<=64:=by omega
 have hof:s.n%64+(64-s.n%64)=64:=by omega
 have htk:(bytesAV (chunkB s t)).take 64=bytesAV (chunkB s t):=bytesAV_take' hBl
 simp only[H8.av]at c47
 by_cases h64:s.n%64+chunkK s t=64
 . have he:(((s.n%64+chunkK s t:Nat):Int)==64)=true:=by rw[h64];rfl
   simp only[L32,m133,K32,S32,Sm.av,H8.av,go_sem,simprocAttr,↓reduceIte,↓Nat.reduceEqDiff,hne,remu,hw1,hb,hat,hle,hof,hte,bytesAV_length,<-hk,hB',hw2,hadd,hk1,he,hBl,htk,c47,zst_refs,chunk,if_pos h64]
 . have he:(((s.n%64+chunkK s t:Nat):Int)==64)=false:=by rw[beq_eq_false_iff_ne];omega
   simp only[L32,m133,K32,S32,Sm.av,H8.av,go_sem,simprocAttr,↓reduceIte,↓Nat.reduceEqDiff,hne,remu,hw1,hb,hat,hle,hof,hte,bytesAV_length,<-hk,hB',hw2,hadd,hk1,he,zst_refs,chunk,if_neg h64]
theorem end32 (F:Ev.Cl)(s:Sm):isEx (evC gl F L32 (S32 s []))=true:=by
 simp only[L32,m133,S32,go_sem,simprocAttr,↓reduceIte,↓Nat.reduceEqDiff]
def rnd (s:Sm)(t:List UInt8):Nat->Sm×List UInt8
 | 0=>(s,t)
 | i+1=>(chunk (rnd s t i).1 (rnd s t i).2,(rnd s t i).2.drop (chunkK (rnd s t i).1 (rnd s t i).2))
theorem chunkK_pos (s:Sm){t:List UInt8}(h:t≠[]):0<chunkK s t:=by
 have:=Nat.mod_lt s.n (show 0<64 by omega)
 have h1:0<t.length:=List.length_pos_iff.2 h
 unfold chunkK
 rcases Nat.le_total t.length (64-s.n%64)with e|e
 . rw[Nat.min_eq_left e];exact h1
 . rw[Nat.min_eq_right e];omega
theorem chunkK_le (s:Sm)(t:List UInt8):chunkK s t<=t.length:=by unfold chunkK;exact Nat.min_le_left _ _
theorem rnd_ends (s:Sm)(t:List UInt8):∃N,N<=t.length/\(rnd s t N).2=[]/\∀i,i<N->(rnd s t i).2≠[]:=by
 have key:∀k,(∃N,N<=k/\(rnd s t N).2=[]/\∀i,i<N->(rnd s t i).2≠[])\/(∀i,i<k+1->(rnd s t i).2≠[])/\(rnd s t k).2.length+k<=t.length:=by
  intro k
  induction k with
  | zero =>
    by_cases h:t=[]
    . left;exact⟨0,Nat.le_refl _,h,fun i hi=>absurd hi (Nat.not_lt_zero _)⟩
    . right
      refine⟨fun i hi=> ?_,Nat.le_refl _⟩
      have:i=0:=by omega
      subst this;exact h
  | succ k ih =>
    rcases ih with ⟨N,h1,h2,h3⟩|⟨h1,h2⟩
    . left;exact⟨N,by omega,h2,h3⟩
    . have hp:=chunkK_pos (rnd s t k).1 (h1 k (by omega))
      have hl:=chunkK_le (rnd s t k).1 (rnd s t k).2
      have hlen:(rnd s t (k+1)).2.length+(k+1)<=t.length:=by
       show((rnd s t k).2.drop _).length+_<=_
       rw[List.length_drop];omega
      by_cases he:(rnd s t (k+1)).2=[]
      . left;exact⟨k+1,Nat.le_refl _,he,fun i hi=>h1 i (by omega)⟩
      . right
        refine⟨fun i hi=> ?_,hlen⟩
        by_cases e:i=k+1
        . subst e;exact he
        . exact h1 i (by omega)
 rcases key t.length with ⟨N,h1,h2,h3⟩|⟨h1,h2⟩
 . exact⟨N,h1,h2,h3⟩
 . exact absurd (List.length_eq_zero_iff.1 (by omega)) (h1 t.length (by omega))
def blockN (m:List UInt8)(k:Nat):List UInt8:=(m.drop (64*k)).take 64
def blocksF (m:List UInt8):Nat->H8
 | 0=>⟨0x6a09e667#32,0xbb67ae85#32,0x3c6ef372#32,0xa54ff53a#32,0x510e527f#32,0x9b05688c#32,0x1f83d9ab#32,0x5be0cd19#32⟩
 | k+1=>compF (blocksF m k) (blockN m k)
def Reps (s:Sm)(m:List UInt8):Prop :=
 s.n=m.length/\s.blk.length=64/\s.blk.take (m.length%64)=m.drop (64*(m.length/64))/\s.h=blocksF m (m.length/64)
theorem blocksF_app (m t:List UInt8)(k:Nat)(h:64*k<=m.length):blocksF (m++t) k=blocksF m k:=by
 induction k with
 | zero=>rfl
 | succ k ih =>
   rw[blocksF,blocksF,ih (by omega)]
   congr 1
   unfold blockN
   rw[List.drop_append_of_le_length (by omega),List.take_append_of_le_length (by rw[List.length_drop];omega)]
theorem reps_chunk {s:Sm}{m:List UInt8}(h:Reps s m)(t:List UInt8):Reps (chunk s t) (m++t.take (chunkK s t)):=by
 obtain⟨h1,h2,h3,h4⟩:=h
 have hr:m.length%64<64:=Nat.mod_lt _ (by omega)
 have hK1:=chunkK_le s t
 have hK2:m.length%64+chunkK s t<=64:=by
  have:chunkK s t<=64-s.n%64:=by unfold chunkK;exact Nat.min_le_right _ _
  rw[h1]at this;omega
 have hu:(t.take (chunkK s t)).length=chunkK s t:=by rw[List.length_take];omega
 have hB:chunkB s t=m.drop (64*(m.length/64))++t.take (chunkK s t)++s.blk.drop (m.length%64+chunkK s t):=by
  unfold chunkB;rw[h1,h3]
 have hdl:(m.drop (64*(m.length/64))).length=m.length%64:=by rw[List.length_drop];omega
 have hl:(m++t.take (chunkK s t)).length=m.length+chunkK s t:=by rw[List.length_append,hu]
 have hdr:(m++t.take (chunkK s t)).drop (64*(m.length/64))=m.drop (64*(m.length/64))++t.take (chunkK s t):=List.drop_append_of_le_length (by omega)
 refine⟨by show s.n+_=_;rw[hl,h1],chunkB_len s t h2,?_,?_⟩
 . show(chunkB s t).take _=_
   by_cases h64:m.length%64+chunkK s t=64
   . have e1:(m++t.take (chunkK s t)).length%64=0:=by rw[hl];omega
     have e2:(m++t.take (chunkK s t)).length<=64*((m++t.take (chunkK s t)).length/64):=by rw[hl];omega
     rw[e1,List.take_zero,List.drop_eq_nil_of_le e2]
   . have e1:(m++t.take (chunkK s t)).length%64=m.length%64+chunkK s t:=by rw[hl];omega
     have e2:(m++t.take (chunkK s t)).length/64=m.length/64:=by rw[hl];omega
     rw[e1,e2,hdr,hB,List.take_append_of_le_length (by rw[List.length_append,hdl,hu];omega),List.take_of_length_le (by rw[List.length_append,hdl,hu];omega)]
 . show(if s.n%64+chunkK s t=64 then compF s.h (chunkB s t)else s.h)=_
   by_cases h64:m.length%64+chunkK s t=64
   . have e2:(m++t.take (chunkK s t)).length/64=m.length/64+1:=by rw[hl];omega
     rw[h1,if_pos h64,e2,blocksF,blocksF_app _ _ _ (by omega),h4]
     congr 1
     unfold blockN
     have hd:s.blk.drop 64=[]:=List.drop_eq_nil_of_le (by omega)
     rw[hdr,hB,h64,hd,List.append_nil]
     exact(List.take_of_length_le (by rw[List.length_append,hdl,hu];omega)).symm
   . have e2:(m++t.take (chunkK s t)).length/64=m.length/64:=by rw[hl];omega
     rw[h1,if_neg h64,e2,blocksF_app _ _ _ (by omega),h4]
theorem reps_rnd {s:Sm}{m:List UInt8}(h:Reps s m)(t:List UInt8)(i:Nat):∃u,t=u++(rnd s t i).2/\Reps (rnd s t i).1 (m++u):=by
 induction i with
 | zero=>exact⟨[],rfl,by rw[List.append_nil];exact h⟩
 | succ i ih =>
   obtain⟨u,h1,h2⟩:=ih
   refine⟨u++(rnd s t i).2.take (chunkK (rnd s t i).1 (rnd s t i).2),?_,?_⟩
   . show t=_++(rnd s t i).2.drop _
     rw[List.append_assoc,List.take_append_drop];exact h1
   . rw[<-List.append_assoc]
     exact reps_chunk h2 _
theorem bytes_all (l:List UInt8):(bytesAV l).all AV.scalar=true:=by
 rw[List.all_eq_true];intro x hx
 obtain⟨y,_,rfl⟩:=List.mem_map.1 hx;rfl
theorem comp_at {n:Nat}(h:3<=n)(nb:Bool)(s:H8){b:List UInt8}(hb:b.length=64):call gl tab n 158 [s.av,.lst nb .sc (bytesAV b)] []=some ((compF s b).av,[],[]):=by
 obtain⟨d,rfl⟩:=Nat.exists_eq_add_of_le' h
 exact comp_ok d nb s b hb
theorem loop32 (F:Ev.Cl)(c47:∀(h:H8) (b:List UInt8),b.length=64->F 158 [h.av,.lst false .sc (bytesAV b)] []=some ((compF h b).av,[],[]))(s:Sm)(m t:List UInt8)(hs:Reps s m)(hm:m.length+t.length<2^60) :
  ∃s',Reps s' (m++t)/\∀st,clean K32 st=some (S32 s t)->iter (evC gl F L32) K32 LF st=evC gl F L32 (S32 s' []):=by
 obtain⟨N,hN,hend,hbefore⟩:=rnd_ends s t
 obtain⟨u,hu,hr⟩:=reps_rnd hs t N
 rw[hend,List.append_nil]at hu
 subst hu
 refine⟨(rnd s t N).1,hr,fun st h0=> ?_⟩
 rw[iter_to (fun i=>S32 (rnd s t i).1 (rnd s t i).2) N (by unfold LF;omega) h0 (fun i hi=> ?_) (by rw[hend];exact end32 F _),hend]
 obtain⟨v,hv,hr'⟩:=reps_rnd hs t i
 have hlen:=congrArg List.length hv
 rw[List.length_append]at hlen
 refine step32 F _ _ hr'.2.1 ?_ (hbefore i hi) (by omega) (c47 _ _ (chunkB_len _ _ hr'.2.1))
 rw[hr'.1,List.length_append];omega
theorem add32_F (F:Ev.Cl)(c47:∀(h:H8) (b:List UInt8),b.length=64->F 158 [h.av,.lst false .sc (bytesAV b)] []=some ((compF h b).av,[],[]))(s:Sm)(m t:List UInt8)(hs:Reps s m)(hm:m.length+t.length<2^60) :
  ∃s',Reps s' (m++t)/\finK fd133.res fd133.pk (evC gl F fd133.body {fr:=frOf 0 [s.av,.str t],hp:=[]})=some (s'.av,[],[]):=by
 have hz:AV.agg [.agg [.int .u32 0,.int .u32 0,.int .u32 0,.int .u32 0,.int .u32 0,.int .u32 0,.int .u32 0,.int .u32 0],.agg (List.replicate 64 (.int .u8 0)),.int .u64 0]=zst:=rfl
 obtain⟨s',hr,e⟩:=loop32 (gl:=gl) F c47 s m t hs hm
 refine⟨s',hr,?_⟩
 simp only[L32,m133,K32]at e
 have hl:=hs.2.1
 have hl':=hr.2.1
 simp only[fd133,m133,hz,Sm.av,H8.av,go_sem,simprocAttr,↓reduceIte,↓Nat.reduceEqDiff,bytesAV_length,bytes_all,hl]
 rw[e _ (by simp only[S32,Sm.av,H8.av,go_sem,simprocAttr,↓reduceIte,↓Nat.reduceEqDiff,zst_refs];rfl)]
 simp only[S32,Sm.av,H8.av,go_sem,simprocAttr,↓reduceIte,↓Nat.reduceEqDiff,bytesAV_length,bytes_all,hl']
theorem sadd_at {n:Nat}(h:4<=n)(s:Sm)(m t:List UInt8)(hs:Reps s m)(hm:m.length+t.length<2^60):∃s',Reps s' (m++t)/\call gl tab n 133 [s.av,.str t] []=some (s'.av,[],[]):=by
 obtain⟨d,rfl⟩:=Nat.exists_eq_add_of_le' h
 obtain⟨s',hr,e⟩:=add32_F (gl:=gl) (call gl tab (d+3)) (fun x b hb=>comp_at (by omega) false x hb) s m t hs hm
 exact⟨s',hr,(call_go (n:=d+3) (fd:=fd133) rfl).trans e⟩
def s0 :Sm:=⟨blocksF [] 0,List.replicate 64 0,0⟩
theorem reps0 :Reps s0 []:=⟨rfl,by simp[s0],by simp[s0],rfl⟩
theorem s0_av :s0.av= .agg [.agg [.int .u32 1779033703,.int .u32 3144134277,.int .u32 1013904242,.int .u32 2773480762,.int .u32 1359893119,.int .u32 2600822924,.int .u32 528734635,.int .u32 1541459225],.agg (List.replicate 64 (.int .u8 0)),.int .u64 0]:=by kernel_rfl
theorem sbegin_ok (d:Nat):call gl tab (d+1) 132 [] []=some (s0.av,[],[]):=by
 rw[call_go (fd:=fd132) rfl,s0_av]
 simp only[fd132,m132,go_sem,simprocAttr,↓reduceIte,↓Nat.reduceEqDiff]
theorem sbegin_at {n:Nat}(h:1<=n):call gl tab n 132 [] []=some (s0.av,[],[]):=by
 obtain⟨d,rfl⟩:=Nat.exists_eq_add_of_le' h
 exact sbegin_ok d
end Go.Proofs.S44.H
