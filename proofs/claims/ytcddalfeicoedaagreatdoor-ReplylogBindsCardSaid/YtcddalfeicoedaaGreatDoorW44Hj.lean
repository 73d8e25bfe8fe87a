/-
  Streams that are hashed: what one round of Add does. No condition.
-/
import Derived.Test.YtcddalfeicoedaaGreatDoorW44G2x4
set_option linter.all false
open List renaming length_append->wA,append_assoc->wB,length_drop->wC,take_append_of_le_length->wD,drop_append_of_le_length->wE,append_nil->wF,take_of_length_le->wG,drop_eq_nil_of_le->wH,length_take->wI
open Nat renaming exists_eq_add_of_le'->wJ,mod_lt->wK,le_refl->wL,min_le_right->wM,min_le_left->wN
namespace Go.Proofs.S44.H
open Go Go.Ev Go.Proofs Go.Proofs.S44
variable {gl :Gl} [Nonempty (GlK gl)]
structure Sm where
 h:H8
 blk:List UInt8
 n:Nat
def Sm.av (s:Sm):AV:=.agg [s.h.av,.agg (zac s.blk),.int .u64 (s.n:Int)]
def za2 (s:Sm)(t:List UInt8):Nat:=min t.length (64-s.n%64)
def zeq (s:Sm)(t:List UInt8):List UInt8:=s.blk.take (s.n%64)++t.take (za2 s t)++s.blk.drop (s.n%64+za2 s t)
def z19 (s:Sm)(t:List UInt8):Sm:=⟨if s.n%64+za2 s t=64 then zmv s.h (zeq s t)else s.h,zeq s t,s.n+za2 s t⟩
def zst :AV:=.agg [z8,.agg (List.replicate 64 (.int .u8 0)),.int .u64 0]
theorem zn0 :zst.refs=[]:=by kernel_rfl
def L32 :MC:=match m133 with
 | .seq _ (.seq (.block _ (.loop _ b)) _)=>b
 | _=>.skip
def K32 :List Kp:=[.slot 1,.slot 2,.slot 4,.key 2,.key 4]
def S32 (s:Sm)(t:List UInt8):St :=
 ⟨[.set 4 (.ptr 4 []),.set 2 (.ptr 2 []),.set 1 (.str t)],[(4,.fix (.st [.ar 8 .sc,.ar 64 .sc,.sc]) zst),(2,.fix (.st [.ar 8 .sc,.ar 64 .sc,.sc]) s.av)]⟩
theorem remu (a:Nat):zas .rem .u64 (a:Int) 64=some (.int .u64 ((a%64:Nat):Int)):=by
 have h8:¬((64:Int)=0):=by decide
 simp only[zas,h8,if_false];rfl
theorem zj8 (l:List UInt8)(k:Nat):(zac l).drop k=zac (l.drop k):=by simp[zac,List.map_drop]
theorem zhp (l:List UInt8)(k:Nat):(zac l).take k=zac (l.take k):=by simp[zac,List.map_take]
theorem zjp (s:Sm)(t:List UInt8)(hb:s.blk.length=64):(zeq s t).length=64:=by
 unfold zeq za2
 simp only[wA,wI,wC,hb]
 have:=wK s.n (show 0<64 by omega)
 omega
theorem qc7 (F:Ev.Cl)(s:Sm)(t:List UInt8)(hb:s.blk.length=64)(hn:s.n<2^62)(ht:t≠[])(htl:t.length<2^62)
  (c47:F 158 [s.h.av,.lst false .sc (zac (zeq s t))] []=some ((zmv s.h (zeq s t)).av,[],[])) :
  zbm K32 (evC gl F L32 (S32 s t))=some (S32 (z19 s t) (t.drop (za2 s t))):=by
 have hat:s.n%64<64:=wK _ (by omega)
 have hne:(!(t==[]))=true:=by simp[ht]
 have hw1:IntKind.wrap .i64 ((s.n%64:Nat):Int)=((s.n%64:Nat):Int):=zay (by omega) (by omega)
 have hk:za2 s t=min t.length (64-s.n%64):=rfl
 have hk1:za2 s t<=t.length:=by rw[hk];exact wN _ _
 have hk2:s.n%64+za2 s t<=64:=by have:=wM t.length (64-s.n%64);omega
 have hBl:=zjp s t hb
 have hadd:(BitVec.ofNat 64 s.n+BitVec.ofNat 64 (za2 s t)).toNat=s.n+za2 s t:=by
  rw[<-BitVec.ofNat_add,BitVec.toNat_ofNat,Nat.mod_eq_of_lt (by omega)]
 have hw2:IntKind.wrap .i64 (((s.n%64:Nat):Int)+((za2 s t:Nat):Int))=((s.n%64+za2 s t:Nat):Int):=by rw[zay (by omega) (by omega)];omega
 have hB:List.take (s.n%64) (zac s.blk)++(List.take (za2 s t) (zac t)++List.drop (s.n%64+za2 s t) (zac s.blk))=zac (zeq s t):=by
  rw[zhp,zhp,zj8,<-zae,<-zae,zeq,wB]
 have hB':List.take (s.n%64) (zac s.blk)++List.take (za2 s t) (zac t)++List.drop (s.n%64+za2 s t) (zac s.blk)=zac (zeq s t):=by rw[wB,hB]
 have hte:(zac t).isEmpty=false:=by
  cases t with
  | nil=>exact absurd rfl ht
  | cons a l=>rfl
 have hle:s.n%64<=64:=by omega
 have hof:s.n%64+(64-s.n%64)=64:=by omega
 have htk:(zac (zeq s t)).take 64=zac (zeq s t):=zpv hBl
 simp only[H8.av]at c47
 by_cases h64:s.n%64+za2 s t=64
 . have he:(((s.n%64+za2 s t:Nat):Int)==64)=true:=by rw[h64];rfl
   simp only[L32,m133,K32,S32,Sm.av,H8.av,go_sem,simprocAttr,↓Nat.reduceEqDiff,hne,remu,hw1,hb,hat,hle,hof,hte,zab,<-hk,hB',hw2,hadd,hk1,he,hBl,htk,c47,zn0,z19,if_pos h64]
 . have he:(((s.n%64+za2 s t:Nat):Int)==64)=false:=by rw[beq_eq_false_iff_ne];omega
   simp only[L32,m133,K32,S32,Sm.av,H8.av,go_sem,simprocAttr,↓Nat.reduceEqDiff,hne,remu,hw1,hb,hat,hle,hof,hte,zab,<-hk,hB',hw2,hadd,hk1,he,zn0,z19,if_neg h64]
theorem qj7 (F:Ev.Cl)(s:Sm):isEx (evC gl F L32 (S32 s []))=true:=by
 simp only[L32,m133,S32,go_sem,simprocAttr,↓Nat.reduceEqDiff]
def rnd (s:Sm)(t:List UInt8):Nat->Sm×List UInt8
 | 0=>(s,t)
 | i+1=>(z19 (rnd s t i).1 (rnd s t i).2,(rnd s t i).2.drop (za2 (rnd s t i).1 (rnd s t i).2))
theorem zxu (s:Sm){t:List UInt8}(h:t≠[]):0<za2 s t:=by
 have:=wK s.n (show 0<64 by omega)
 have h1:0<t.length:=List.length_pos_iff.2 h
 unfold za2
 rcases Nat.le_total t.length (64-s.n%64)with e|e
 . rw[Nat.min_eq_left e];exact h1
 . rw[Nat.min_eq_right e];omega
theorem zro (s:Sm)(t:List UInt8):za2 s t<=t.length:=by unfold za2;exact wN _ _
theorem z3d (s:Sm)(t:List UInt8):∃N,N<=t.length/\(rnd s t N).2=[]/\∀i,i<N->(rnd s t i).2≠[]:=by
 have key:∀k,(∃N,N<=k/\(rnd s t N).2=[]/\∀i,i<N->(rnd s t i).2≠[])\/(∀i,i<k+1->(rnd s t i).2≠[])/\(rnd s t k).2.length+k<=t.length:=by
  intro k
  induction k with
  | zero =>
    by_cases h:t=[]
    . left;exact⟨0,wL _,h,fun i hi=>absurd hi (Nat.not_lt_zero _)⟩
    . right
      refine⟨fun i hi=> ?_,wL _⟩
      have:i=0:=by omega
      subst this;exact h
  | succ k ih =>
    rcases ih with ⟨N,h1,h2,h3⟩|⟨h1,h2⟩
    . left;exact⟨N,by omega,h2,h3⟩
    . have hp:=zxu (rnd s t k).1 (h1 k (by omega))
      have hl:=zro (rnd s t k).1 (rnd s t k).2
      have hlen:(rnd s t (k+1)).2.length+(k+1)<=t.length:=by
       show((rnd s t k).2.drop _).length+_<=_
       rw[wC];omega
      by_cases he:(rnd s t (k+1)).2=[]
      . left;exact⟨k+1,wL _,he,fun i hi=>h1 i (by omega)⟩
      . right
        refine⟨fun i hi=> ?_,hlen⟩
        by_cases e:i=k+1
        . subst e;exact he
        . exact h1 i (by omega)
 rcases key t.length with ⟨N,h1,h2,h3⟩|⟨h1,h2⟩
 . exact⟨N,h1,h2,h3⟩
 . exact absurd (List.length_eq_zero_iff.1 (by omega)) (h1 t.length (by omega))
def zcz (m:List UInt8)(k:Nat):List UInt8:=(m.drop (64*k)).take 64
def zcw (m:List UInt8):Nat->H8
 | 0=>⟨0x6a09e667#32,0xbb67ae85#32,0x3c6ef372#32,0xa54ff53a#32,0x510e527f#32,0x9b05688c#32,0x1f83d9ab#32,0x5be0cd19#32⟩
 | k+1=>zmv (zcw m k) (zcz m k)
def Reps (s:Sm)(m:List UInt8):Prop :=
 s.n=m.length/\s.blk.length=64/\s.blk.take (m.length%64)=m.drop (64*(m.length/64))/\s.h=zcw m (m.length/64)
theorem zmk (m t:List UInt8)(k:Nat)(h:64*k<=m.length):zcw (m++t) k=zcw m k:=by
 induction k with
 | zero=>rfl
 | succ k ih =>
   rw[zcw,zcw,ih (by omega)]
   congr 1
   unfold zcz
   rw[wE (by omega),wD (by rw[wC];omega)]
theorem zv9 {s:Sm}{m:List UInt8}(h:Reps s m)(t:List UInt8):Reps (z19 s t) (m++t.take (za2 s t)):=by
 obtain⟨h1,h2,h3,h4⟩:=h
 have hr:m.length%64<64:=wK _ (by omega)
 have hK1:=zro s t
 have hK2:m.length%64+za2 s t<=64:=by
  have:za2 s t<=64-s.n%64:=by unfold za2;exact wM _ _
  rw[h1]at this;omega
 have hu:(t.take (za2 s t)).length=za2 s t:=by rw[wI];omega
 have hB:zeq s t=m.drop (64*(m.length/64))++t.take (za2 s t)++s.blk.drop (m.length%64+za2 s t):=by
  unfold zeq;rw[h1,h3]
 have hdl:(m.drop (64*(m.length/64))).length=m.length%64:=by rw[wC];omega
 have hl:(m++t.take (za2 s t)).length=m.length+za2 s t:=by rw[wA,hu]
 have hdr:(m++t.take (za2 s t)).drop (64*(m.length/64))=m.drop (64*(m.length/64))++t.take (za2 s t):=wE (by omega)
 refine⟨by show s.n+_=_;rw[hl,h1],zjp s t h2,?_,?_⟩
 . show(zeq s t).take _=_
   by_cases h64:m.length%64+za2 s t=64
   . have e1:(m++t.take (za2 s t)).length%64=0:=by rw[hl];omega
     have e2:(m++t.take (za2 s t)).length<=64*((m++t.take (za2 s t)).length/64):=by rw[hl];omega
     rw[e1,List.take_zero,wH e2]
   . have e1:(m++t.take (za2 s t)).length%64=m.length%64+za2 s t:=by rw[hl];omega
     have e2:(m++t.take (za2 s t)).length/64=m.length/64:=by rw[hl];omega
     rw[e1,e2,hdr,hB,wD (by rw[wA,hdl,hu];omega),wG (by rw[wA,hdl,hu];omega)]
 . show(if s.n%64+za2 s t=64 then zmv s.h (zeq s t)else s.h)=_
   by_cases h64:m.length%64+za2 s t=64
   . have e2:(m++t.take (za2 s t)).length/64=m.length/64+1:=by rw[hl];omega
     rw[h1,if_pos h64,e2,zcw,zmk _ _ _ (by omega),h4]
     congr 1
     unfold zcz
     have hd:s.blk.drop 64=[]:=wH (by omega)
     rw[hdr,hB,h64,hd,wF]
     exact(wG (by rw[wA,hdl,hu];omega)).symm
   . have e2:(m++t.take (za2 s t)).length/64=m.length/64:=by rw[hl];omega
     rw[h1,if_neg h64,e2,zmk _ _ _ (by omega),h4]
theorem zt6 {s:Sm}{m:List UInt8}(h:Reps s m)(t:List UInt8)(i:Nat):∃u,t=u++(rnd s t i).2/\Reps (rnd s t i).1 (m++u):=by
 induction i with
 | zero=>exact⟨[],rfl,by rw[wF];exact h⟩
 | succ i ih =>
   obtain⟨u,h1,h2⟩:=ih
   refine⟨u++(rnd s t i).2.take (za2 (rnd s t i).1 (rnd s t i).2),?_,?_⟩
   . show t=_++(rnd s t i).2.drop _
     rw[wB,List.take_append_drop];exact h1
   . rw[<-wB]
     exact zv9 h2 _
theorem bytes_all (l:List UInt8):(zac l).all AV.scalar=true:=by
 rw[List.all_eq_true];intro x hx
 obtain⟨y,_,rfl⟩:=List.mem_map.1 hx;rfl
theorem qbm {n:Nat}(h:3<=n)(nb:Bool)(s:H8){b:List UInt8}(hb:b.length=64):call gl tab n 158 [s.av,.lst nb .sc (zac b)] []=some ((zmv s b).av,[],[]):=by
 obtain⟨d,rfl⟩:=wJ h
 exact qbl d nb s b hb
theorem qd6 (F:Ev.Cl)(c47:∀(h:H8) (b:List UInt8),b.length=64->F 158 [h.av,.lst false .sc (zac b)] []=some ((zmv h b).av,[],[]))(s:Sm)(m t:List UInt8)(hs:Reps s m)(hm:m.length+t.length<2^60) :
  ∃s',Reps s' (m++t)/\∀st,zc3 K32 st=some (S32 s t)->iter (evC gl F L32) K32 LF st=evC gl F L32 (S32 s' []):=by
 obtain⟨N,hN,hend,hbefore⟩:=z3d s t
 obtain⟨u,hu,hr⟩:=zt6 hs t N
 rw[hend,wF]at hu
 subst hu
 refine⟨(rnd s t N).1,hr,fun st h0=> ?_⟩
 rw[zam (fun i=>S32 (rnd s t i).1 (rnd s t i).2) N (by unfold LF;omega) h0 (fun i hi=> ?_) (by rw[hend];exact qj7 F _),hend]
 obtain⟨v,hv,hr'⟩:=zt6 hs t i
 have hlen:=congrArg List.length hv
 rw[wA]at hlen
 refine qc7 F _ _ hr'.2.1 ?_ (hbefore i hi) (by omega) (c47 _ _ (zjp _ _ hr'.2.1))
 rw[hr'.1,wA];omega
theorem qca (F:Ev.Cl)(c47:∀(h:H8) (b:List UInt8),b.length=64->F 158 [h.av,.lst false .sc (zac b)] []=some ((zmv h b).av,[],[]))(s:Sm)(m t:List UInt8)(hs:Reps s m)(hm:m.length+t.length<2^60) :
  ∃s',Reps s' (m++t)/\finK fd133.res fd133.pk (evC gl F fd133.body {fr:=frOf 0 [s.av,.str t],hp:=[]})=some (s'.av,[],[]):=by
 have hz:AV.agg [.agg [.int .u32 0,.int .u32 0,.int .u32 0,.int .u32 0,.int .u32 0,.int .u32 0,.int .u32 0,.int .u32 0],.agg (List.replicate 64 (.int .u8 0)),.int .u64 0]=zst:=rfl
 obtain⟨s',hr,e⟩:=qd6 (gl:=gl) F c47 s m t hs hm
 refine⟨s',hr,?_⟩
 simp only[L32,m133,K32]at e
 have hl:=hs.2.1
 have hl':=hr.2.1
 simp only[fd133,m133,hz,Sm.av,H8.av,go_sem,simprocAttr,↓Nat.reduceEqDiff,zab,bytes_all,hl]
 rw[e _ (by simp only[S32,Sm.av,H8.av,go_sem,simprocAttr,↓Nat.reduceEqDiff,zn0];rfl)]
 simp only[S32,Sm.av,H8.av,go_sem,simprocAttr,↓Nat.reduceEqDiff,zab,bytes_all,hl']
theorem zr2 {n:Nat}(h:4<=n)(s:Sm)(m t:List UInt8)(hs:Reps s m)(hm:m.length+t.length<2^60):∃s',Reps s' (m++t)/\call gl tab n 133 [s.av,.str t] []=some (s'.av,[],[]):=by
 obtain⟨d,rfl⟩:=wJ h
 obtain⟨s',hr,e⟩:=qca (gl:=gl) (call gl tab (d+3)) (fun x b hb=>qbm (by omega) false x hb) s m t hs hm
 exact⟨s',hr,(zaf (n:=d+3) (fd:=fd133) rfl).trans e⟩
def s0 :Sm:=⟨zcw [] 0,List.replicate 64 0,0⟩
theorem qg0 :Reps s0 []:=⟨rfl,by simp[s0],by simp[s0],rfl⟩
theorem qgu :s0.av= .agg [.agg [.int .u32 1779033703,.int .u32 3144134277,.int .u32 1013904242,.int .u32 2773480762,.int .u32 1359893119,.int .u32 2600822924,.int .u32 528734635,.int .u32 1541459225],.agg (List.replicate 64 (.int .u8 0)),.int .u64 0]:=by kernel_rfl
theorem zyt (d:Nat):call gl tab (d+1) 132 [] []=some (s0.av,[],[]):=by
 rw[zaf (fd:=z5j) rfl,qgu]
 simp only[z5j,m132,go_sem,simprocAttr,↓Nat.reduceEqDiff]
theorem zyu {n:Nat}(h:1<=n):call gl tab n 132 [] []=some (s0.av,[],[]):=by
 obtain⟨d,rfl⟩:=wJ h
 exact zyt d
end Go.Proofs.S44.H
