/-
  Streams that are hashed: what one round of Add does. No condition.
-/
import Derived.Test.YtcddalfeicoedaaGreatDoorW44G2x3
set_option linter.all false
open List renaming length_append->wA,append_assoc->wB,length_drop->wC,append_nil->wD,take_append_of_le_length->wE,drop_append_of_le_length->wF,take_of_length_le->wG,drop_eq_nil_of_le->wH,length_take->wI,range_succ->wJ,range->wK
open Nat renaming exists_eq_add_of_le'->wL,mod_lt->wM,le_refl->wN,min_le_right->wO,min_le_left->wP
namespace Go.Proofs.S44.H
open Go Go.Ev Go.Proofs Go.Proofs.S44
variable {gl :Gl} [Nonempty (GlK gl)]
structure Sm where
 h:H8
 blk:List UInt8
 n:Nat
def Sm.av (s:Sm):AV:=.agg [s.h.av,.agg (zac s.blk),.int .u64 (s.n:Int)]
def za6 (s:Sm)(t:List UInt8):Nat:=min t.length (64-s.n%64)
def zew (s:Sm)(t:List UInt8):List UInt8:=s.blk.take (s.n%64)++t.take (za6 s t)++s.blk.drop (s.n%64+za6 s t)
def z2v (s:Sm)(t:List UInt8):Sm:=⟨if s.n%64+za6 s t=64 then zm6 s.h (zew s t)else s.h,zew s t,s.n+za6 s t⟩
def zst :AV:=.agg [z8,.agg (List.replicate 64 (.int .u8 0)),.int .u64 0]
theorem zob :zst.refs=[]:=by kernel_rfl
def L32 :MC:=match m133 with
 | .seq _ (.seq (.block _ (.loop _ b)) _)=>b
 | _=>.skip
def K32 :List Kp:=[.slot 1,.slot 2,.slot 4,.key 2,.key 4]
def S32 (s:Sm)(t:List UInt8):St :=
 ⟨[.set 4 (.ptr 4 []),.set 2 (.ptr 2 []),.set 1 (.str t)],[(4,.fix (.st [.ar 8 .sc,.ar 64 .sc,.sc]) zst),(2,.fix (.st [.ar 8 .sc,.ar 64 .sc,.sc]) s.av)]⟩
theorem remu (a:Nat):zar .rem .u64 (a:Int) 64=some (.int .u64 ((a%64:Nat):Int)):=by
 have h8:¬((64:Int)=0):=by decide
 simp only[zar,h8,if_false];rfl
theorem zkg (l:List UInt8)(k:Nat):(zac l).drop k=zac (l.drop k):=by simp[zac,List.map_drop]
theorem zhm (l:List UInt8)(k:Nat):(zac l).take k=zac (l.take k):=by simp[zac,List.map_take]
theorem zju (s:Sm)(t:List UInt8)(hb:s.blk.length=64):(zew s t).length=64:=by
 unfold zew za6
 simp only[wA,wI,wC,hb]
 have:=wM s.n (show 0<64 by omega)
 omega
theorem qd4 (F:Ev.Cl)(s:Sm)(t:List UInt8)(hb:s.blk.length=64)(hn:s.n<2^62)(ht:t≠[])(htl:t.length<2^62)
  (c47:F 158 [s.h.av,.lst false .sc (zac (zew s t))] []=some ((zm6 s.h (zew s t)).av,[],[])) :
  zbd K32 (evC gl F L32 (S32 s t))=some (S32 (z2v s t) (t.drop (za6 s t))):=by
 have hat:s.n%64<64:=wM _ (by omega)
 have hne:(!(t==[]))=true:=by simp[ht]
 have hw1:IntKind.wrap .i64 ((s.n%64:Nat):Int)=((s.n%64:Nat):Int):=zax (by omega) (by omega)
 have hk:za6 s t=min t.length (64-s.n%64):=rfl
 have hk1:za6 s t<=t.length:=by rw[hk];exact wP _ _
 have hk2:s.n%64+za6 s t<=64:=by have:=wO t.length (64-s.n%64);omega
 have hBl:=zju s t hb
 have hadd:(BitVec.ofNat 64 s.n+BitVec.ofNat 64 (za6 s t)).toNat=s.n+za6 s t:=by
  rw[<-BitVec.ofNat_add,BitVec.toNat_ofNat,Nat.mod_eq_of_lt (by omega)]
 have hw2:IntKind.wrap .i64 (((s.n%64:Nat):Int)+((za6 s t:Nat):Int))=((s.n%64+za6 s t:Nat):Int):=by rw[zax (by omega) (by omega)];omega
 have hB:List.take (s.n%64) (zac s.blk)++(List.take (za6 s t) (zac t)++List.drop (s.n%64+za6 s t) (zac s.blk))=zac (zew s t):=by
  rw[zhm,zhm,zkg,<-zaf,<-zaf,zew,wB]
 have hB':List.take (s.n%64) (zac s.blk)++List.take (za6 s t) (zac t)++List.drop (s.n%64+za6 s t) (zac s.blk)=zac (zew s t):=by rw[wB,hB]
 have hte:(zac t).isEmpty=false:=by
  cases t with
  | nil=>exact absurd rfl ht
  | cons a l=>rfl
 have hle:s.n%64<=64:=by omega
 have hof:s.n%64+(64-s.n%64)=64:=by omega
 have htk:(zac (zew s t)).take 64=zac (zew s t):=zp7 hBl
 simp only[H8.av]at c47
 by_cases h64:s.n%64+za6 s t=64
 . have he:(((s.n%64+za6 s t:Nat):Int)==64)=true:=by rw[h64];rfl
   simp only[L32,m133,K32,S32,Sm.av,H8.av,go_sem,simprocAttr,↓Nat.reduceEqDiff,hne,remu,hw1,hb,hat,hle,hof,hte,zab,<-hk,hB',hw2,hadd,hk1,he,hBl,htk,c47,zob,z2v,if_pos h64]
 . have he:(((s.n%64+za6 s t:Nat):Int)==64)=false:=by rw[beq_eq_false_iff_ne];omega
   simp only[L32,m133,K32,S32,Sm.av,H8.av,go_sem,simprocAttr,↓Nat.reduceEqDiff,hne,remu,hw1,hb,hat,hle,hof,hte,zab,<-hk,hB',hw2,hadd,hk1,he,zob,z2v,if_neg h64]
theorem qlp (F:Ev.Cl)(s:Sm):isEx (evC gl F L32 (S32 s []))=true:=by
 simp only[L32,m133,S32,go_sem,simprocAttr,↓Nat.reduceEqDiff]
def rnd (s:Sm)(t:List UInt8):Nat->Sm×List UInt8
 | 0=>(s,t)
 | i+1=>(z2v (rnd s t i).1 (rnd s t i).2,(rnd s t i).2.drop (za6 (rnd s t i).1 (rnd s t i).2))
theorem zyg (s:Sm){t:List UInt8}(h:t≠[]):0<za6 s t:=by
 have:=wM s.n (show 0<64 by omega)
 have h1:0<t.length:=List.length_pos_iff.2 h
 unfold za6
 rcases Nat.le_total t.length (64-s.n%64)with e|e
 . rw[Nat.min_eq_left e];exact h1
 . rw[Nat.min_eq_right e];omega
theorem zr4 (s:Sm)(t:List UInt8):za6 s t<=t.length:=by unfold za6;exact wP _ _
theorem z30 (s:Sm)(t:List UInt8):∃N,N<=t.length/\(rnd s t N).2=[]/\∀i,i<N->(rnd s t i).2≠[]:=by
 have key:∀k,(∃N,N<=k/\(rnd s t N).2=[]/\∀i,i<N->(rnd s t i).2≠[])\/(∀i,i<k+1->(rnd s t i).2≠[])/\(rnd s t k).2.length+k<=t.length:=by
  intro k
  induction k with
  | zero =>
    by_cases h:t=[]
    . left;exact⟨0,wN _,h,fun i hi=>absurd hi (Nat.not_lt_zero _)⟩
    . right
      refine⟨fun i hi=> ?_,wN _⟩
      have:i=0:=by omega
      subst this;exact h
  | succ k ih =>
    rcases ih with ⟨N,h1,h2,h3⟩|⟨h1,h2⟩
    . left;exact⟨N,by omega,h2,h3⟩
    . have hp:=zyg (rnd s t k).1 (h1 k (by omega))
      have hl:=zr4 (rnd s t k).1 (rnd s t k).2
      have hlen:(rnd s t (k+1)).2.length+(k+1)<=t.length:=by
       show((rnd s t k).2.drop _).length+_<=_
       rw[wC];omega
      by_cases he:(rnd s t (k+1)).2=[]
      . left;exact⟨k+1,wN _,he,fun i hi=>h1 i (by omega)⟩
      . right
        refine⟨fun i hi=> ?_,hlen⟩
        by_cases e:i=k+1
        . subst e;exact he
        . exact h1 i (by omega)
 rcases key t.length with ⟨N,h1,h2,h3⟩|⟨h1,h2⟩
 . exact⟨N,h1,h2,h3⟩
 . exact absurd (List.length_eq_zero_iff.1 (by omega)) (h1 t.length (by omega))
def zc6 (m:List UInt8)(k:Nat):List UInt8:=(m.drop (64*k)).take 64
def zc3 (m:List UInt8):Nat->H8
 | 0=>⟨0x6a09e667#32,0xbb67ae85#32,0x3c6ef372#32,0xa54ff53a#32,0x510e527f#32,0x9b05688c#32,0x1f83d9ab#32,0x5be0cd19#32⟩
 | k+1=>zm6 (zc3 m k) (zc6 m k)
def Reps (s:Sm)(m:List UInt8):Prop :=
 s.n=m.length/\s.blk.length=64/\s.blk.take (m.length%64)=m.drop (64*(m.length/64))/\s.h=zc3 m (m.length/64)
theorem zmu (m t:List UInt8)(k:Nat)(h:64*k<=m.length):zc3 (m++t) k=zc3 m k:=by
 induction k with
 | zero=>rfl
 | succ k ih =>
   rw[zc3,zc3,ih (by omega)]
   congr 1
   unfold zc6
   rw[wF (by omega),wE (by rw[wC];omega)]
theorem zwu {s:Sm}{m:List UInt8}(h:Reps s m)(t:List UInt8):Reps (z2v s t) (m++t.take (za6 s t)):=by
 obtain⟨h1,h2,h3,h4⟩:=h
 have hr:m.length%64<64:=wM _ (by omega)
 have hK1:=zr4 s t
 have hK2:m.length%64+za6 s t<=64:=by
  have:za6 s t<=64-s.n%64:=by unfold za6;exact wO _ _
  rw[h1]at this;omega
 have hu:(t.take (za6 s t)).length=za6 s t:=by rw[wI];omega
 have hB:zew s t=m.drop (64*(m.length/64))++t.take (za6 s t)++s.blk.drop (m.length%64+za6 s t):=by
  unfold zew;rw[h1,h3]
 have hdl:(m.drop (64*(m.length/64))).length=m.length%64:=by rw[wC];omega
 have hl:(m++t.take (za6 s t)).length=m.length+za6 s t:=by rw[wA,hu]
 have hdr:(m++t.take (za6 s t)).drop (64*(m.length/64))=m.drop (64*(m.length/64))++t.take (za6 s t):=wF (by omega)
 refine⟨by show s.n+_=_;rw[hl,h1],zju s t h2,?_,?_⟩
 . show(zew s t).take _=_
   by_cases h64:m.length%64+za6 s t=64
   . have e1:(m++t.take (za6 s t)).length%64=0:=by rw[hl];omega
     have e2:(m++t.take (za6 s t)).length<=64*((m++t.take (za6 s t)).length/64):=by rw[hl];omega
     rw[e1,List.take_zero,wH e2]
   . have e1:(m++t.take (za6 s t)).length%64=m.length%64+za6 s t:=by rw[hl];omega
     have e2:(m++t.take (za6 s t)).length/64=m.length/64:=by rw[hl];omega
     rw[e1,e2,hdr,hB,wE (by rw[wA,hdl,hu];omega),wG (by rw[wA,hdl,hu];omega)]
 . show(if s.n%64+za6 s t=64 then zm6 s.h (zew s t)else s.h)=_
   by_cases h64:m.length%64+za6 s t=64
   . have e2:(m++t.take (za6 s t)).length/64=m.length/64+1:=by rw[hl];omega
     rw[h1,if_pos h64,e2,zc3,zmu _ _ _ (by omega),h4]
     congr 1
     unfold zc6
     have hd:s.blk.drop 64=[]:=wH (by omega)
     rw[hdr,hB,h64,hd,wD]
     exact(wG (by rw[wA,hdl,hu];omega)).symm
   . have e2:(m++t.take (za6 s t)).length/64=m.length/64:=by rw[hl];omega
     rw[h1,if_neg h64,e2,zmu _ _ _ (by omega),h4]
theorem zur {s:Sm}{m:List UInt8}(h:Reps s m)(t:List UInt8)(i:Nat):∃u,t=u++(rnd s t i).2/\Reps (rnd s t i).1 (m++u):=by
 induction i with
 | zero=>exact⟨[],rfl,by rw[wD];exact h⟩
 | succ i ih =>
   obtain⟨u,h1,h2⟩:=ih
   refine⟨u++(rnd s t i).2.take (za6 (rnd s t i).1 (rnd s t i).2),?_,?_⟩
   . show t=_++(rnd s t i).2.drop _
     rw[wB,List.take_append_drop];exact h1
   . rw[<-wB]
     exact zwu h2 _
theorem bytes_all (l:List UInt8):(zac l).all AV.scalar=true:=by
 rw[List.all_eq_true];intro x hx
 obtain⟨y,_,rfl⟩:=List.mem_map.1 hx;rfl
theorem qcn {n:Nat}(h:3<=n)(nb:Bool)(s:H8){b:List UInt8}(hb:b.length=64):call gl tab n 158 [s.av,.lst nb .sc (zac b)] []=some ((zm6 s b).av,[],[]):=by
 obtain⟨d,rfl⟩:=wL h
 exact qcm d nb s b hb
theorem qe2 (F:Ev.Cl)(c47:∀(h:H8) (b:List UInt8),b.length=64->F 158 [h.av,.lst false .sc (zac b)] []=some ((zm6 h b).av,[],[]))(s:Sm)(m t:List UInt8)(hs:Reps s m)(hm:m.length+t.length<2^60) :
  ∃s',Reps s' (m++t)/\∀st,zda K32 st=some (S32 s t)->iter (evC gl F L32) K32 LF st=evC gl F L32 (S32 s' []):=by
 obtain⟨N,hN,hend,hbefore⟩:=z30 s t
 obtain⟨u,hu,hr⟩:=zur hs t N
 rw[hend,wD]at hu
 subst hu
 refine⟨(rnd s t N).1,hr,fun st h0=> ?_⟩
 rw[zag (fun i=>S32 (rnd s t i).1 (rnd s t i).2) N (by unfold LF;omega) h0 (fun i hi=> ?_) (by rw[hend];exact qlp F _),hend]
 obtain⟨v,hv,hr'⟩:=zur hs t i
 have hlen:=congrArg List.length hv
 rw[wA]at hlen
 refine qd4 F _ _ hr'.2.1 ?_ (hbefore i hi) (by omega) (c47 _ _ (zju _ _ hr'.2.1))
 rw[hr'.1,wA];omega
theorem qc8 (F:Ev.Cl)(c47:∀(h:H8) (b:List UInt8),b.length=64->F 158 [h.av,.lst false .sc (zac b)] []=some ((zm6 h b).av,[],[]))(s:Sm)(m t:List UInt8)(hs:Reps s m)(hm:m.length+t.length<2^60) :
  ∃s',Reps s' (m++t)/\finK fd133.res fd133.pk (evC gl F fd133.body {fr:=frOf 0 [s.av,.str t],hp:=[]})=some (s'.av,[],[]):=by
 have hz:AV.agg [.agg [.int .u32 0,.int .u32 0,.int .u32 0,.int .u32 0,.int .u32 0,.int .u32 0,.int .u32 0,.int .u32 0],.agg (List.replicate 64 (.int .u8 0)),.int .u64 0]=zst:=rfl
 obtain⟨s',hr,e⟩:=qe2 (gl:=gl) F c47 s m t hs hm
 refine⟨s',hr,?_⟩
 simp only[L32,m133,K32]at e
 have hl:=hs.2.1
 have hl':=hr.2.1
 simp only[fd133,m133,hz,Sm.av,H8.av,go_sem,simprocAttr,↓Nat.reduceEqDiff,zab,bytes_all,hl]
 rw[e _ (by simp only[S32,Sm.av,H8.av,go_sem,simprocAttr,↓Nat.reduceEqDiff,zob];rfl)]
 simp only[S32,Sm.av,H8.av,go_sem,simprocAttr,↓Nat.reduceEqDiff,zab,bytes_all,hl']
theorem zsi {n:Nat}(h:4<=n)(s:Sm)(m t:List UInt8)(hs:Reps s m)(hm:m.length+t.length<2^60):∃s',Reps s' (m++t)/\call gl tab n 133 [s.av,.str t] []=some (s'.av,[],[]):=by
 obtain⟨d,rfl⟩:=wL h
 obtain⟨s',hr,e⟩:=qc8 (gl:=gl) (call gl tab (d+3)) (fun x b hb=>qcn (by omega) false x hb) s m t hs hm
 exact⟨s',hr,(zad (n:=d+3) (fd:=fd133) rfl).trans e⟩
def s0 :Sm:=⟨zc3 [] 0,List.replicate 64 0,0⟩
theorem qh5 :Reps s0 []:=⟨rfl,by simp[s0],by simp[s0],rfl⟩
theorem qhz :s0.av= .agg [.agg [.int .u32 1779033703,.int .u32 3144134277,.int .u32 1013904242,.int .u32 2773480762,.int .u32 1359893119,.int .u32 2600822924,.int .u32 528734635,.int .u32 1541459225],.agg (List.replicate 64 (.int .u8 0)),.int .u64 0]:=by kernel_rfl
theorem zzh (d:Nat):call gl tab (d+1) 132 [] []=some (s0.av,[],[]):=by
 rw[zad (fd:=z6d) rfl,qhz]
 simp only[z6d,m132,go_sem,simprocAttr,↓Nat.reduceEqDiff]
theorem zzi {n:Nat}(h:1<=n):call gl tab n 132 [] []=some (s0.av,[],[]):=by
 obtain⟨d,rfl⟩:=wL h
 exact zzh d
end Go.Proofs.S44.H
namespace Go.Proofs.S44.H
open Go Go.Ev Go.Proofs Go.Proofs.S44
variable {gl :Gl} [Nonempty (GlK gl)]
def padZ (n:Nat):Nat:=(119-n%64)%64
def pad1 (i:Nat):List UInt8:=128::List.replicate i 0
theorem zez (i:Nat):(pad1 i).length=i+1:=by simp[pad1]
theorem zrb (i:Nat):zac (pad1 (i+1))=zac (pad1 i)++[.int .u8 0]:=by
 have:pad1 (i+1)=pad1 i++[0]:=by simp[pad1,List.replicate_succ']
 rw[this,zaf];rfl
def lenB (n:Nat)(i:Nat):List UInt8:=(wK i).map fun j=>ub ((BitVec.ofNat 64 (8*n)>>>(56-8*j:Nat)).setWidth 8)
theorem zrk (n i:Nat):lenB n (i+1)=lenB n i++[ub ((BitVec.ofNat 64 (8*n)>>>(56-8*i:Nat)).setWidth 8)]:=by simp[lenB,wJ]
theorem zhg (n i:Nat):(lenB n i).length=i:=by simp[lenB]
def padF (n:Nat):List UInt8:=pad1 (padZ n)++lenB n 8
def out32 :AV:=.agg (List.replicate 32 (.int .u8 0))
theorem za4 :out32.refs=[]:=by kernel_rfl
def L33 :MC:=match m134 with
 | .seq _ (.seq _ (.seq _ (.seq (.block _ (.loop _ b)) _)))=>b
 | _=>.skip
def K33 :List Kp:=[.slot 1,.slot 2,.slot 3,.own 4 5004 .sc,.key 1,.key 2]
def S33 (s:Sm)(x:Nat)(pad:List UInt8):St :=
 ⟨[.set 4 (.sl 5004 [] 0 pad.length),.set 3 (.int .u64 (x:Int)),.set 2 (.ptr 2 []),.set 1 (.ptr 1 [])],
  [(2,.fix (.ar 32 .sc) out32),(1,.fix (.st [.ar 8 .sc,.ar 64 .sc,.sc]) s.av),(5004,.grow .sc (zac pad))]⟩
theorem qd3 (F:Ev.Cl)(s:Sm)(x i:Nat)(hn:s.n<2^60)(hi:i<padZ s.n):zbd K33 (evC gl F L33 (S33 s x (pad1 i)))=some (S33 s x (pad1 (i+1))):=by
 have hz:padZ s.n<64:=wM _ (by omega)
 have hne:(s.n+(i+1))%64≠56:=by unfold padZ at *;omega
 have hb:((((s.n+(i+1))%64:Nat):Int) != 56)=true:=by rw[bne_iff_ne];omega
 have hw1:IntKind.wrap .i64 ((s.n:Nat):Int)=((s.n:Nat):Int):=zax (by omega) (by omega)
 have hw2:IntKind.wrap .i64 (((s.n:Nat):Int)+((i+1:Nat):Int))=((s.n+(i+1):Nat):Int):=by rw[zax (by omega) (by omega)];omega
 have hrem:zar .rem .i64 ((s.n+(i+1):Nat):Int) 64=some (.int .i64 (((s.n+(i+1))%64:Nat):Int)):=zjb _ 64 (by omega)
 simp only[L33,m134,K33,S33,Sm.av,H8.av,go_sem,simprocAttr,↓Nat.reduceEqDiff,hw1,hw2,hrem,hb,zez,zrb,zhq (show i+1<2^36 by omega),za4]
theorem qlo (F:Ev.Cl)(s:Sm)(x:Nat)(hn:s.n<2^60):isEx (evC gl F L33 (S33 s x (pad1 (padZ s.n))))=true:=by
 have hz:padZ s.n<64:=wM _ (by omega)
 have hne:(s.n+(padZ s.n+1))%64=56:=by unfold padZ;omega
 have hw1:IntKind.wrap .i64 ((s.n:Nat):Int)=((s.n:Nat):Int):=zax (by omega) (by omega)
 have hw2:IntKind.wrap .i64 (((s.n:Nat):Int)+((padZ s.n+1:Nat):Int))=((s.n+(padZ s.n+1):Nat):Int):=by rw[zax (by omega) (by omega)];omega
 have hrem:zar .rem .i64 ((s.n+(padZ s.n+1):Nat):Int) 64=some (.int .i64 (((s.n+(padZ s.n+1))%64:Nat):Int)):=zjb _ 64 (by omega)
 have hb:((((s.n+(padZ s.n+1))%64:Nat):Int) != 56)=false:=by rw[hne];rfl
 simp only[L33,m134,S33,Sm.av,H8.av,go_sem,simprocAttr,↓Nat.reduceEqDiff,hw1,hw2,hrem,hb,zez]
def L33b :MC:=match m134 with
 | .seq _ (.seq _ (.seq _ (.seq _ (.seq (.seq _ (.block _ (.loop _ b))) _))))=>b
 | _=>.skip
def K33b :List Kp:=[.slot 1,.slot 2,.slot 3,.own 4 5004 .sc,.slot 23,.key 1,.key 2]
def S33b (s:Sm)(x:BitVec 64)(pad:List UInt8)(i:Nat):St :=
 ⟨[.set 23 (.int .i64 i),.set 4 (.sl 5004 [] 0 pad.length),.set 3 (u64 x),.set 2 (.ptr 2 []),.set 1 (.ptr 1 [])],
  [(2,.fix (.ar 32 .sc) out32),(1,.fix (.st [.ar 8 .sc,.ar 64 .sc,.sc]) s.av),(5004,.grow .sc (zac pad))]⟩
theorem z9b (F:Ev.Cl)(s:Sm)(n i:Nat)(p:List UInt8)(hp:p.length<100)(hi:i<8) :
  zbd K33b (evC gl F L33b (S33b s (BitVec.ofNat 64 (8*n)) (p++lenB n i) i))=some (S33b s (BitVec.ofNat 64 (8*n)) (p++lenB n (i+1)) (i+1)):=by
 have hw1:IntKind.wrap .i64 (8*(i:Int))=((8*i:Nat):Int):=by rw[zax (by omega) (by omega)];omega
 have hw2:IntKind.wrap .i64 (56-((8*i:Nat):Int))=((56-8*i:Nat):Int):=by rw[zax (by omega) (by omega)];omega
 have e:zac (p++lenB n (i+1))=zac (p++lenB n i)++[.int .u8 ((((BitVec.ofNat 64 (8*n)>>>(56-8*i:Nat)).setWidth 8).toNat:Nat):Int)]:=by
  rw[zrk,<-wB,zaf];rfl
 have hl:(p++lenB n i).length=p.length+i:=by rw[wA,zhg]
 have hl':(p++lenB n (i+1)).length=p.length+i+1:=by rw[wA,zhg];omega
 generalize BitVec.ofNat 64 (8*n)=X at *
 unfold S33b
 rw[e,hl,hl']
 generalize p++lenB n i=P at *
 simp only[L33b,m134,K33b,Sm.av,H8.av,go_sem,simprocAttr,↓Nat.reduceEqDiff,hi,hw1,hw2,hl,zhq (show p.length+i<2^36 by omega),zdx (show i<2^62 by omega),za4]
theorem qgb (F:Ev.Cl)(s:Sm)(x:BitVec 64)(p:List UInt8):isEx (evC gl F L33b (S33b s x p 8))=true:=by
 simp only[L33b,m134,S33b,go_sem,simprocAttr,↓Nat.reduceEqDiff]
def H8.get (s:H8):Nat->BitVec 32
 | 0=>s.a|1=>s.b|2=>s.c|3=>s.d|4=>s.e|5=>s.f|6=>s.g|_=>s.h
def outB (s:H8)(i:Nat):BitVec 8:=(s.get (i/4)>>>(24-8*(i%4):Nat)).setWidth 8
def outL (s:H8)(i:Nat):List UInt8:=((wK i).map fun j=>ub (outB s j))++List.replicate (32-i) 0
theorem zio (s:H8)(i:Nat)(h:i<=32):(outL s i).length=32:=by simp[outL];omega
theorem zre (s:H8)(i:Nat)(h:i<32):outL s (i+1)=(outL s i).set i (ub (outB s i)):=by
 have e:32-i=(32-(i+1))+1:=by omega
 unfold outL
 rw[wJ,List.map_append,e,List.replicate_succ]
 simp[List.set_append]
def L33c :MC:=match m134 with
 | .seq _ (.seq _ (.seq _ (.seq _ (.seq _ (.seq _ (.seq _ (.seq (.seq _ (.block _ (.loop _ b))) _)))))))=>b
 | _=>.skip
def K33c :List Kp:=[.slot 1,.slot 2,.slot 6,.slot 40,.key 1,.key 2,.key 6]
def S33c (s:Sm)(i:Nat):St :=
 ⟨[.set 40 (.int .i64 i),.set 6 (.ptr 6 []),.set 2 (.ptr 2 []),.set 1 (.ptr 1 [])],
  [(6,.fix (.ar 32 .sc) (.agg (zac (outL s.h i)))),(2,.fix (.ar 32 .sc) out32),(1,.fix (.st [.ar 8 .sc,.ar 64 .sc,.sc]) s.av)]⟩
theorem z8h (h:H8)(j:Nat)(hj:j<8):([u32 h.a,u32 h.b,u32 h.c,u32 h.d,u32 h.e,u32 h.f,u32 h.g,u32 h.h]:List AV)[j]? =some (u32 (h.get j)):=by
 match j,hj with
 | 0,_=>rfl
 | 1,_=>rfl
 | 2,_=>rfl
 | 3,_=>rfl
 | 4,_=>rfl
 | 5,_=>rfl
 | 6,_=>rfl
 | 7,_=>rfl
theorem quo4 (a:Nat)(h:a<2^62):zar .quo .i64 (a:Int) 4=some (.int .i64 ((a/4:Nat):Int)):=by
 have h8:¬((4:Int)=0):=by decide
 simp only[zar,h8,if_false]
 have e:(a:Int).tdiv 4=((a/4:Nat):Int):=rfl
 rw[e,zax (by omega) (by omega)]
theorem rem4 (a:Nat):zar .rem .i64 (a:Int) 4=some (.int .i64 ((a%4:Nat):Int)):=by
 have h8:¬((4:Int)=0):=by decide
 simp only[zar,h8,if_false];rfl
theorem zg1 (l:List UInt8)(i:Nat)(b:BitVec 8):zac (l.set i (ub b))=(zac l).set i (.int .u8 (b.toNat:Int)):=by
 simp[zac,List.map_set,ub]
theorem z9a (F:Ev.Cl)(s:Sm)(i:Nat)(hi:i<32):zbd K33c (evC gl F L33c (S33c s i))=some (S33c s (i+1)):=by
 have hw1:IntKind.wrap .i64 (8*((i%4:Nat):Int))=((8*(i%4):Nat):Int):=by rw[zax (by omega) (by omega)];omega
 have hw2:IntKind.wrap .i64 (24-((8*(i%4):Nat):Int))=((24-8*(i%4):Nat):Int):=by rw[zax (by omega) (by omega)];omega
 have hg:=z8h s.h (i/4) (by omega)
 have hl:=zio s.h i (by omega)
 have hgo:∃y,(zac (outL s.h i))[i]? =some (.int .u8 y):=⟨_,zh6 (by omega)⟩
 obtain⟨y,hgo⟩:=hgo
 have h8:i/4<8:=by omega
 unfold S33c
 rw[zre _ _ hi,zg1]
 simp only[L33c,m134,K33c,Sm.av,H8.av,go_sem,simprocAttr,↓Nat.reduceEqDiff,hi,quo4 _ (show i<2^62 by omega),rem4,hw1,hw2,hg,h8,hgo,zab,hl,outB,zdx (show i<2^62 by omega),za4]
theorem qga (F:Ev.Cl)(s:Sm):isEx (evC gl F L33c (S33c s 32))=true:=by
 simp only[L33c,m134,S33c,go_sem,simprocAttr,↓Nat.reduceEqDiff]
def zjn (m:List UInt8):List UInt8:=outL (zc3 (m++padF m.length) ((m.length+(padF m.length).length)/64)) 32
theorem z85 (F:Ev.Cl)(s:Sm)(m:List UInt8)(hs:Reps s m)(hm:m.length<2^59)
  (c32:∀t:List UInt8,m.length+t.length<2^60->∃s',Reps s' (m++t)/\F 133 [s.av,.str t] []=some (s'.av,[],[])) :
  finK fd134.res fd134.pk (evC gl F fd134.body {fr:=frOf 0 [s.av],hp:=[]})=some (.agg (zac (zjn m)),[],[]):=by
 have hn:=hs.1
 have hpl:(pad1 (padZ s.n)).length<100:=by rw[zez];have:padZ s.n<64:=wM _ (by omega);omega
 have hpF:(padF m.length).length<200:=by unfold padF;rw[wA,zhg,<-hn];omega
 obtain⟨s',hr,e32⟩:=c32 (padF m.length) (by omega)
 have hX:(BitVec.ofNat 64 8*BitVec.ofNat 64 s.n)=BitVec.ofNat 64 (8*s.n):=by rw[BitVec.ofNat_mul]
 have e1:∀st,zda K33 st=some (S33 s (BitVec.ofNat 64 (8*s.n)).toNat (pad1 0))->iter (evC gl F L33) K33 LF st=evC gl F L33 (S33 s (BitVec.ofNat 64 (8*s.n)).toNat (pad1 (padZ s.n))):=fun st h0 =>
  zag (fun i=>S33 s (BitVec.ofNat 64 (8*s.n)).toNat (pad1 i)) (padZ s.n) (by have:padZ s.n<64:=wM _ (by omega);unfold LF;omega) h0 (fun i hi=>qd3 F s _ i (by omega) hi) (qlo F s _ (by omega))
 have e2:∀st,zda K33b st=some (S33b s (BitVec.ofNat 64 (8*s.n)) (pad1 (padZ s.n)++lenB s.n 0) 0)->iter (evC gl F L33b) K33b LF st=evC gl F L33b (S33b s (BitVec.ofNat 64 (8*s.n)) (pad1 (padZ s.n)++lenB s.n 8) 8):=fun st h0 =>
  zag (fun i=>S33b s (BitVec.ofNat 64 (8*s.n)) (pad1 (padZ s.n)++lenB s.n i) i) 8 (by unfold LF;omega) h0 (fun i hi=>z9b F s s.n i _ hpl hi) (qgb F s _ _)
 have e3:∀st,zda K33c st=some (S33c s' 0)->iter (evC gl F L33c) K33c LF st=evC gl F L33c (S33c s' 32):=fun st h0 =>
  zag (S33c s') 32 (by unfold LF;omega) h0 (fun i hi=>z9a F s' i hi) (qga F s')
 have hend:outL s'.h 32=zjn m:=by
  unfold zjn;rw[hr.2.2.2,wA]
 have hpad:pad1 (padZ s.n)++lenB s.n 8=padF m.length:=by rw[hn];rfl
 have hol:(zjn m).length=32:=zio _ 32 (by omega)
 have hbl:=hs.2.1
 have hbl':=hr.2.1
 simp only[L33,m134,K33]at e1
 simp only[L33b,m134,K33b]at e2
 simp only[L33c,m134,K33c]at e3
 have hz0:lenB s.n 0=[]:=rfl
 have hp0:zac (pad1 0)=[.int .u8 128]:=rfl
 have hq0:zac (outL s'.h 0)=List.replicate 32 (.int .u8 0):=rfl
 simp only[fd134,m134,Sm.av,H8.av,go_sem,simprocAttr,↓Nat.reduceEqDiff,zab,bytes_all,hbl,hX]
 rw[e1 _ (by simp only[S33,Sm.av,H8.av,go_sem,simprocAttr,↓Nat.reduceEqDiff,hp0,zez];rfl)]
 have hne:(s.n+(padZ s.n+1))%64=56:=by unfold padZ;omega
 have hw1:IntKind.wrap .i64 ((s.n:Nat):Int)=((s.n:Nat):Int):=zax (by omega) (by omega)
 have hw2:IntKind.wrap .i64 (((s.n:Nat):Int)+((padZ s.n+1:Nat):Int))=((s.n+(padZ s.n+1):Nat):Int):=by have:padZ s.n<64:=wM _ (by omega);rw[zax (by omega) (by omega)];omega
 have hrem:zar .rem .i64 ((s.n+(padZ s.n+1):Nat):Int) 64=some (.int .i64 (((s.n+(padZ s.n+1))%64:Nat):Int)):=zjb _ 64 (by omega)
 have hb:((((s.n+(padZ s.n+1))%64:Nat):Int) != 56)=false:=by rw[hne];rfl
 simp only[S33,Sm.av,H8.av,go_sem,simprocAttr,↓Nat.reduceEqDiff,hw1,hw2,hrem,hb,zez]
 rw[e2 _ (by simp only[S33b,Sm.av,H8.av,go_sem,simprocAttr,↓Nat.reduceEqDiff,hz0,zez,wD,za4])]
 rw[hpad]
 simp only[Sm.av,H8.av]at e32
 have hlim:(padF m.length).length<=LIM:=by unfold LIM;omega
 simp only[S33b,Sm.av,H8.av,go_sem,simprocAttr,↓Nat.reduceEqDiff,e32,zab,bytes_all,hbl']
 rw[e3 _ (by simp only[S33c,Sm.av,H8.av,go_sem,simprocAttr,↓Nat.reduceEqDiff,hq0,za4])]
 simp only[S33c,Sm.av,H8.av,go_sem,simprocAttr,↓Nat.reduceEqDiff,hend,zab,bytes_all,hol]
theorem z9k {n:Nat}(h:5<=n)(s:Sm)(m:List UInt8)(hs:Reps s m)(hm:m.length<2^59):call gl tab n 134 [s.av] []=some (.agg (zac (zjn m)),[],[]):=by
 obtain⟨d,rfl⟩:=wL h
 exact(zad (n:=d+4) (fd:=fd134) rfl).trans (z85 (call gl tab (d+4)) s m hs hm fun t ht=>zsi (by omega) s m t hs ht)
theorem ziu (m:List UInt8):(zjn m).length=32:=zio _ 32 (by omega)
end Go.Proofs.S44.H
