/-
  The specification's integers and texts as bytes; inputs of digests. No condition.
-/
import Derived.Test.YthipjfnealbheaaGreatDoorW97G8x4
set_option linter.all false
open BitVec renaming toNat_ofNat->wB,toNat_ofInt->wC,toNat_mul->wD
open List renaming length_append->wE,length_take->wF,take_succ_eq_append_getElem->wG,take_length->wH,length_cons->wJ
open Nat renaming exists_eq_add_of_le'->wK,pow_zero->wL,div_one->wM
namespace Go.Proofs.S97.H
open Go Go.Ev Go.Proofs Go.Proofs.S97
variable {gl :Gl}
theorem qbn (a:Nat):zam .rem .u64 (a:Int) 128=some (.int .u64 ((a%128:Nat):Int)):=by
 have h8:¬((128:Int)=0):=by decide
 simp only[zam,h8,if_false];rfl
theorem qbt (a:Nat)(h:a<2^64):zam .quo .u64 (a:Int) 128=some (.int .u64 ((a/128:Nat):Int)):=by
 have h8:¬((128:Int)=0):=by decide
 simp only[zam,h8,if_false,zoj]
 have e:(a:Int).tdiv 128=((a/128:Nat):Int):=rfl
 rw[e,BitVec.ofInt_natCast,wB,Nat.mod_eq_of_lt (by omega)]
theorem qeu {n:Int}(h:0<=n/\n<=9223372036854775807):(BitVec.ofInt 64 n*2#64).toNat=zzN n:=by
 unfold zzN
 rw[if_neg (by omega),wD,wC]
 simp only[wB]
 omega
theorem qev {n:Int}(h:-9223372036854775808<=n/\n<0):(BitVec.ofInt 64 (-1-n)*2#64+1#64).toNat=zzN n:=by
 unfold zzN
 rw[if_pos (by omega),BitVec.toNat_add,wD,wC]
 simp only[wB]
 omega
def S54 (z:Nat)(k:Nat):St :=
 ⟨[.set 4 (.sl 5004 [] 0 k),.set 3 (.int .u64 ((z/128^k:Nat):Int))],[(5004,.grow .sc (zac (vpre z k)))]⟩
def L54 :MC:=match m125 with
 | .seq _ (.seq _ (.seq _ (.seq _ (.seq (.block _ (.loop _ b)) _))))=>b
 | _=>.skip
def K54 :List Kp:=[.slot 3,.own 4 5004 .sc]
theorem qgu (F:Ev.Cl)(z:Nat)(hz:z<2^64) :
  ∃k,k<=9/\z/128^k<128/\zac (vint z)=zac (vpre z k)++[.int .u8 ((BitVec.ofNat 8 (z/128^k)).toNat:Int)]/\(vint z).length=k+1/\∀st,zc2 K54 st=some (S54 z 0)->iter (evC gl F L54) K54 LF st=evC gl F L54 (S54 z k):=by
 have main:=fun st h0=>zvl (f:=evC gl F L54) (ks:=K54) (st:=st) (S54 z) 9 (fun k=>128<=z/128^k) (by unfold LF;omega) h0 ?_ ?_ ?_
 . obtain⟨hk,hlt,hge⟩:=zgi (fun k=>128<=z/128^k) 9
   generalize fstN _ _=k at *
   have he:z/128^k<128:=by
    by_cases hn:k<9
    . have:=hge hn;omega
    . have:k=9:=by omega
      subst this;exact pow9 hz
   have hv:=zul z k hk hlt he
   refine⟨k,hk,he,?_,?_,main⟩
   . rw[<-hv,zas];rfl
   . rw[<-hv,wE,zf5];rfl
 . intro k hk hp
   have hlt:z/128^k<2^64:=Nat.lt_of_le_of_lt (Nat.div_le_self _ _) hz
   have hb:zac (vpre z (k+1))=zac (vpre z k)++[.int .u8 ((BitVec.ofNat 8 (z/128^k%128)+128#8).toNat:Int)]:=by
    rw[vpre,zas,<-BitVec.ofNat_add];rfl
   have e:z/128^(k+1)=z/128^k/128:=by rw[Nat.div_div_eq_div_mul,Nat.pow_succ]
   have hl:=zf5 z k
   unfold S54
   rw[hb,e]
   generalize z/128^k=y at *
   simp(disch:=apply zq;omega) only[go_sem,simprocAttr,↓Nat.reduceEqDiff,xx,L54,m125,K54,qbn,qbt y hlt,zae,hl,zh0 (show k<2^36 by omega)]
 . intro k hk hp
   unfold S54
   generalize z/128^k=y at *
   simp(disch:=apply zq;omega) only[go_sem,simprocAttr,↓Nat.reduceEqDiff,xx,L54,m125]
 . have h9:=pow9 hz
   unfold S54
   generalize z/128^9=y at *
   simp(disch:=apply zq;omega) only[go_sem,simprocAttr,↓Nat.reduceEqDiff,xx,L54,m125]
theorem z6k (d:Nat)(n:Int)(h:-9223372036854775808<=n/\n<=9223372036854775807):call gl tab (d+1) 125 [.int .i64 n] []=some (.sl 20000 [] 0 (zint n).length,[],[.grow .sc (zac (zint n))]):=by
 have hz:=z8o h
 rw[zaf (fd:=z26) rfl]
 obtain⟨k,hk,he,hb,hl,e⟩:=qgu (gl:=gl) (call gl tab d) (zzN n) hz
 simp only[L54,m125,K54]at e
 by_cases hn:n<0
 . have h1:=qev (n:=n) (by omega)
   simp(disch:=apply zq;omega) only[go_sem,simprocAttr,↓Nat.reduceEqDiff,xx,z26,m125,h1]
   rw[e _ (by simp(disch:=apply zq;omega) only[go_sem,simprocAttr,↓Nat.reduceEqDiff,xx,S54,vpre,zac,wL,wM]),zint,hb,hl]
   unfold S54
   have hvl:=zf5 (zzN n) k
   generalize zzN n/128^k=y at *
   simp(disch:=apply zq;omega) only[go_sem,simprocAttr,↓Nat.reduceEqDiff,xx,zae,hvl,zh0 (show k<2^36 by omega)]
 . have h1:=qeu (n:=n) (by omega)
   simp(disch:=apply zq;omega) only[go_sem,simprocAttr,↓Nat.reduceEqDiff,xx,z26,m125,h1]
   rw[e _ (by simp(disch:=apply zq;omega) only[go_sem,simprocAttr,↓Nat.reduceEqDiff,xx,S54,vpre,zac,wL,wM]),zint,hb,hl]
   unfold S54
   have hvl:=zf5 (zzN n) k
   generalize zzN n/128^k=y at *
   simp(disch:=apply zq;omega) only[go_sem,simprocAttr,↓Nat.reduceEqDiff,xx,zae,hvl,zh0 (show k<2^36 by omega)]
def encB (s:List UInt8):List UInt8:=zint s.length++s
theorem zpr (s:List UInt8):(encB s).length<=s.length+10:=by have:=zoh s.length;rw[encB,wE];omega
theorem zy0 (d:Nat)(s:List UInt8)(hs:s.length<2^35):call gl tab (d+2) 116 [.str s] []=some (.sl 20000 [] 0 (encB s).length,[],[.grow .sc (zac (encB s))]):=by
 have h53:=z6l (gl:=gl) d (s.length:Int) (by omega)
 have hl:=zoh s.length
 have hL:(zint (s.length:Int)).length+s.length<=LIM:=by unfold LIM;omega
 rw[zaf (fd:=z7i) rfl]
 unfold encB
 generalize zint (s.length:Int)=z at *
 simp(disch:=apply zq;omega) only[go_sem,simprocAttr,↓Nat.reduceEqDiff,xx,z7i,m116,h53,zae,hL,zas]
theorem zyz (d:Nat)(s:List UInt8)(hs:s.length<2^35):call gl tab (d+2) 119 [.str s] []=some (.sl 20000 [] 0 (encB s).length,[],[.grow .sc (zac (encB s))]):=by
 have h54:=z6k (gl:=gl) d (s.length:Int) (by omega)
 have hl:=zoh s.length
 have hL:(zint (s.length:Int)).length+s.length<=LIM:=by unfold LIM;omega
 rw[zaf (fd:=z7h) rfl]
 unfold encB
 generalize zint (s.length:Int)=z at *
 simp(disch:=apply zq;omega) only[go_sem,simprocAttr,↓Nat.reduceEqDiff,xx,z7h,m119,h54,zae,hL,zas]
end Go.Proofs.S97.H
namespace Go.Proofs.S97.H
open Go Go.Ev Go.Proofs Go.Proofs.S97
variable {gl :Gl} [Nonempty (GlR gl)]
def Sml (l:List (List UInt8)):Prop:=l.length<=1000/\∀x∈l,x.length<=1048576
theorem zzu {l:List (List UInt8)}(h:Sml l){i:Nat}(hi:i<l.length):l[i].length<=1048576:=h.2 _ (List.getElem_mem hi)
theorem zux {l:List (List UInt8)}(h:Sml l)(k:Nat):Sml (l.take k) :=
 ⟨by rw[wF];have:=h.1;omega,fun x hx=>h.2 x (List.mem_of_mem_take hx)⟩
def encL (l:List (List UInt8)):List UInt8:=(l.map encB).flatten
def inp (t:Int)(l:List (List UInt8)):List UInt8:=ub (BitVec.ofInt 8 t)::encL l
theorem z7y {l:List (List UInt8)}(h:Sml l):(encL l).length<=1048586000:=by
 have key:∀l:List (List UInt8),(∀x∈l,x.length<=1048576)->(encL l).length<=1048586*l.length:=by
  intro l
  induction l with
  | nil=>intro _;simp[encL]
  | cons x l ih =>
    intro h
    have h1:=h x (by simp)
    have h2:=ih fun y hy=>h y (by simp[hy])
    have h3:=zpr x
    simp only[encL,List.map_cons,List.flatten_cons,wE,wJ]at *
    omega
 have h1:=key l h.2;have h2:=h.1;omega
theorem z3h (l:List (List UInt8))(i:Nat)(h:i<l.length):encL (l.take (i+1))=encL (l.take i)++encB l[i]:=by
 unfold encL;rw[wG h,List.map_append,List.flatten_append];simp
theorem zvs (t:Int)(l:List (List UInt8))(i:Nat)(h:i<l.length):inp t (l.take (i+1))=inp t (l.take i)++encB l[i]:=by
 rw[inp,inp,z3h l i h];rfl
theorem zpj {t:Int}{l:List (List UInt8)}(h:Sml l):(inp t l).length<=1048586001:=by
 have:=z7y h;simp only[inp,wJ];omega
def S36 (nb:Bool)(t:Int)(l:List (List UInt8))(i:Nat):St :=
 ⟨[.set 6 (.int .i64 i),.set 5 (.sl 5005 [] 0 (inp t (l.take i)).length),.set 1 (.lst nb .sc (zil l))],[(5005,.grow .sc (zac (inp t (l.take i))))]⟩
theorem z6o (d:Nat)(t:Int)(nb:Bool)(l:List (List UInt8))(h:Sml l):call gl tab (d+3) 108 [.int .i64 t,.lst nb .sc (zil l)] []=some (.sl 20000 [] 0 (inp t l).length,[],[.grow .sc (zac (inp t l))]):=by
 have h1:=h.1
 rw[zaf (fd:=z7o) rfl]
 simp(disch:=apply zq;omega) only[go_sem,simprocAttr,↓Nat.reduceEqDiff,xx,z7o,m108]
 rw[zaj (S36 nb t l) l.length (by unfold LF;omega)]
 . simp(disch:=apply zq;omega) only[go_sem,simprocAttr,↓Nat.reduceEqDiff,xx,S36,zde,wH,zae]
 . simp(disch:=apply zq;omega) only[go_sem,simprocAttr,↓Nat.reduceEqDiff,xx,S36];rfl
 . intro i hi
   have h2:=zzu h hi
   have h3:=zpj (t:=t) (zux h i)
   have h4:=zpr l[i]
   have hb:=zyz (gl:=gl) d l[i] (by omega)
   have hL:(inp t (l.take i)).length+(encB l[i]).length<=LIM:=by unfold LIM;omega
   unfold S36
   rw[zvs t l i hi,zas,wE]
   generalize inp t (l.take i)=p at *
   have hgi:=zm5 hi
   generalize encB l[i]=q at *
   simp(disch:=apply zq;omega) only[go_sem,simprocAttr,↓Nat.reduceEqDiff,xx,hgi,zde,hb,zae,hL]
 . simp(disch:=apply zq;omega) only[go_sem,simprocAttr,↓Nat.reduceEqDiff,xx,S36,zde]
def dig (m:List UInt8):List UInt8:=(zju m).take 16
theorem dig_len (m:List UInt8):(dig m).length=16:=by rw[dig,wF,zi5];rfl
def outS (h:List UInt8)(i:Nat):List UInt8:=h.take i++List.replicate (16-i) 0
theorem z0s (h:List UInt8)(i:Nat)(hl:h.length=32)(hi:i<16):outS h (i+1)=(outS h i).set i (h.getD i 0):=by
 have e:16-i=(16-(i+1))+1:=by omega
 have hi':i<h.length:=by omega
 unfold outS
 rw[e,List.replicate_succ,wG hi',List.getD_eq_getElem?_getD,List.getElem?_eq_getElem hi']
 rw[List.set_append,if_neg (by rw[wF];omega),wF,show i-min i h.length=0 by omega]
 rw[List.append_assoc];rfl
theorem z5z (h:List UInt8)(i:Nat)(hl:h.length=32)(hi:i<=16):(outS h i).length=16:=by
 unfold outS;rw[wE,wF,List.length_replicate];omega
def out16l :List AV:=List.replicate 16 (.int .u8 0)
theorem zl1 :List.replicate 16 (AV.int .u8 0)=out16l:=rfl
theorem zix :out16l.length=16:=rfl
theorem zrb :out16l.all AV.scalar=true:=by kernel_rfl
theorem zu7 :AV.plains out16l=true:=by kernel_rfl
def S49 (h:List UInt8)(i:Nat):St :=
 ⟨[.set 5 (.int .i64 i),.set 4 (.ptr 4 []),.set 3 (.ptr 3 []),.set 2 (.ptr 2 [])],[(4,.fix (.ar 16 .sc) (.agg (zac (outS h i)))),(3,.fix (.ar 32 .sc) (.agg (zac h))),(2,.fix (.ar 16 .sc) (.agg out16l))]⟩
theorem zsa (l:List UInt8)(i:Nat)(b:UInt8):zac (l.set i b)=(zac l).set i (.int .u8 (b.toBitVec.toNat:Int)):=zhc l i b.toBitVec
theorem qf9 (h:List UInt8):zac (outS h 0)=out16l:=rfl
theorem z4z {n:Nat}(hn:3<=n)(nb:Bool)(m:List UInt8)(hm:m.length<2^34):call gl tab (n+1) 107 [.lst nb .sc (zac m)] []=some (.agg (zac (dig m)),[],[]):=by
 have h30:=qbf (gl:=gl) hn nb m hm
 have hl:=zi5 m
 have hd:dig m=outS (zju m) 16:=by unfold dig outS;simp
 have ho2:AV.agg (List.replicate 32 (.int .u8 0))=out32:=rfl
 have hdl:=dig_len m
 rw[zaf (fd:=z7p) rfl]
 rw[hd]at hdl ⊢
 generalize zju m=h at *
 simp(disch:=apply zq;omega) only[go_sem,simprocAttr,↓Nat.reduceEqDiff,xx,z7p,m107,h30,↓zl1,zix,zrb,zu7,↓ho2,zae,hl,bytes_all,zax]
 rw[zaj (S49 h) 16 (by unfold LF;omega)]
 . simp(disch:=apply zq;omega) only[go_sem,simprocAttr,↓Nat.reduceEqDiff,xx,S49,zae,bytes_all,hdl]
 . simp(disch:=apply zq;omega) only[go_sem,simprocAttr,↓Nat.reduceEqDiff,xx,S49,qf9]
 . intro i hi
   have hol:=z5z h i hl (by omega)
   have g1:=bytesAV_getD (l:=h) (i:=i) (by omega)
   have g2:=bytesAV_getD (l:=outS h i) (i:=i) (by omega)
   unfold S49
   rw[z0s h i hl hi,zsa]
   simp(disch:=apply zq;omega) only[go_sem,simprocAttr,↓Nat.reduceEqDiff,xx,g1,g2,zae,hl,hol]
 . simp(disch:=apply zq;omega) only[go_sem,simprocAttr,↓Nat.reduceEqDiff,xx,S49]
theorem rof_at {n:Nat}(hn:3<=n)(t:Int)(nb:Bool)(l:List (List UInt8))(h:Sml l):call gl tab (n+2) 94 [.int .i64 t,.lst nb .sc (zil l)] []=some (.agg (zac (dig (inp t l))),[],[]):=by
 obtain⟨d,rfl⟩:=wK (show 2<=n by omega)
 have hi:=z6o (gl:=gl) d t nb l h
 have h1:=zpj (t:=t) h
 have hs:=z4z (gl:=gl) (n:=d+2) (by omega) false (inp t l) (by omega)
 have hdl:=dig_len (inp t l)
 rw[zaf (fd:=fd94) rfl]
 generalize dig (inp t l)=D at *
 generalize inp t l=m at *
 simp(disch:=apply zq;omega) only[go_sem,simprocAttr,↓Nat.reduceEqDiff,xx,fd94,m94,hi,hs,↓zl1,zix,zrb,zu7,zae,hdl,bytes_all,noImms_bytesAV]
end Go.Proofs.S97.H
namespace Go.Proofs.S97.H
open Go Go.Ev Go.Proofs Go.Proofs.S97
variable {gl :Gl} [Nonempty (GlK gl)]
def z64l :List AV:=List.replicate 64 (.int .u8 0)
theorem z9y :List.replicate 64 (AV.int .u8 0)=z64l:=rfl
def z32l :List AV:=List.replicate 32 (.int .u8 0)
theorem z9z :List.replicate 32 (AV.int .u8 0)=z32l:=rfl
def S34 (nb:Bool)(l:List (List UInt8))(s:Sm)(i:Nat):St :=
 ⟨[.set 17 (.int .i64 i),.set 16 (.int .i64 l.length),.set 15 (.lst nb .sc (zil l)),.set 5 (.ptr 5 []),.set 4 (.ptr 4 [])],
  [(5,.fix (.st [.ar 8 .sc,.ar 64 .sc,.sc]) s.av),(4,.fix (.ar 16 .sc) (.agg out16l))]⟩
def L34 :MC:=match m106 with
 | .seq _ (.seq _ (.seq (.seq _ (.block _ (.loop _ b))) _))=>b
 | _=>.skip
def K34 :List Kp:=[.slot 4,.slot 5,.slot 15,.slot 16,.slot 17,.key 4,.key 5]
theorem qgx (F:Ev.Cl)(nb:Bool)(t:Int)(l:List (List UInt8))(h:Sml l)(s1:Sm)(hr1:Reps s1 [ub (BitVec.ofInt 8 t)])
  (c48:∀s:List UInt8,s.length<2^35->F 116 [.str s] []=some (.sl 20000 [] 0 (encB s).length,[],[.grow .sc (zac (encB s))]))
  (c32:∀(s:Sm) (m x:List UInt8),Reps s m->m.length+x.length<2^60->∃s',Reps s' (m++x)/\F 115 [s.av,.str x] []=some (s'.av,[],[])) :
  ∃s,Reps s (inp t l)/\∀st,zc2 K34 st=some (S34 nb l s1 0)->iter (evC gl F L34) K34 LF st=evC gl F L34 (S34 nb l s l.length):=by
 have h1:=h.1
 have hstep:∀i st,i<l.length->(∃s,Reps s (inp t (l.take i))/\st=S34 nb l s i)->∃st',zba K34 (evC gl F L34 st)=some st'/\∃s,Reps s (inp t (l.take (i+1)))/\st'=S34 nb l s (i+1):=by
  rintro i _ hi ⟨s,hs,rfl⟩
  have h2:=zzu h hi
  have h3:=zpj (t:=t) (zux h i)
  have h4:=zpr l[i]
  have c1:=c48 l[i] (by omega)
  obtain⟨s2,hr2,c2⟩:=c32 s _ (encB l[i]) hs (by omega)
  rw[<-zvs t l i hi]at hr2
  refine⟨_,?_,s2,hr2,rfl⟩
  have hgi:=zm5 hi
  have hbl:=hs.2.1
  have hbl2:=hr2.2.1
  simp only[Sm.av,H8.av]at c2
  generalize encB l[i]=q at *
  simp(disch:=apply zq;omega) only[go_sem,simprocAttr,↓Nat.reduceEqDiff,xx,L34,m106,K34,S34,Sm.av,H8.av,hgi,zde,c1,c2,zae,bytes_all,hbl,hbl2,zix]
 have hend:∀st,(∃s,Reps s (inp t (l.take l.length))/\st=S34 nb l s l.length)->isEx (evC gl F L34 st)=true:=by
  rintro _ ⟨s,hs,rfl⟩
  simp(disch:=apply zq;omega) only[go_sem,simprocAttr,↓Nat.reduceEqDiff,xx,L34,m106,S34]
 obtain⟨s',⟨s,hs,rfl⟩,e⟩:=z6h (f:=evC gl F L34) (ks:=K34) (fun i st=>∃s,Reps s (inp t (l.take i))/\st=S34 nb l s i) l.length (by unfold LF;omega) ⟨s1,hr1,rfl⟩ hstep hend
 rw[wH]at hs
 exact⟨s,hs,e⟩
theorem of_at {n:Nat}(hn:5<=n)(t:Int)(nb:Bool)(l:List (List UInt8))(h:Sml l):call gl tab (n+1) 106 [.int .i64 t,.lst nb .sc (zil l)] []=some (.agg (zac (dig (inp t l))),[],[]):=by
 have h1:=h.1
 have hb:=@zz5 gl _ n (by omega)
 have hil:=zpj (t:=t) h
 obtain⟨s1,hr1,ha1⟩:=zsw (gl:=gl) (n:=n) (by omega) s0 [] [ub (BitVec.ofInt 8 t)] qjn (by simp)
 rw[List.nil_append]at hr1
 have hbl1:=hr1.2.1
 obtain⟨s,hs,e⟩:=qgx (gl:=gl) (call gl tab n) nb t l h s1 hr1 (fun s hs=>by
  obtain⟨d,rfl⟩:=wK (show 2<=n by omega)
  exact zy0 d s hs) (fun s m x hs hm=>zsw (by omega) s m x hs hm)
 simp only[L34,m106,K34]at e
 rw[zaf (fd:=z7q) rfl]
 have hub:UInt8.ofNat ((((BitVec.ofInt 8 t).toNat:Nat):Int)).toNat=ub (BitVec.ofInt 8 t):=by
  rw[Int.toNat_natCast];apply UInt8.toBitVec_inj.1
  show BitVec.ofNat 8 _=_
  rw[BitVec.ofNat_toNat,BitVec.setWidth_eq];rfl
 have hub2:UInt8.ofNat (BitVec.ofInt 8 t).toNat=ub (BitVec.ofInt 8 t):=by rw[Int.toNat_natCast]at hub;exact hub
 simp only[Sm.av,H8.av]at hb ha1
 have hb0:s0.blk.length=64:=by simp[s0]
 simp(disch:=apply zq;omega) only[go_sem,simprocAttr,↓Nat.reduceEqDiff,xx,z7q,m106,↓z9y,↓z9z,↓zl1,hb,ha1,zhb,Ev.byteOf,hub,hub2,noImms_bytesAV,zae,bytes_all,hbl1,hb0]
 rw[e _ (by simp(disch:=apply zq;omega) only[go_sem,simprocAttr,↓Nat.reduceEqDiff,xx,S34,Sm.av,H8.av,zae,zde])]
 have hsum:=qax (gl:=gl) hn s _ hs (by omega)
 have hl:=zi5 (inp t l)
 have hdl:=dig_len (inp t l)
 have hdd:List.take 16 (zac (zju (inp t l)))=zac (dig (inp t l)):=by rw[zhv];rfl
 have hbl:=hs.2.1
 simp only[Sm.av,H8.av]at hsum
 simp(disch:=apply zq;omega) only[go_sem,simprocAttr,↓Nat.reduceEqDiff,xx,S34,Sm.av,H8.av,zae,bytes_all,hbl,hsum,noImms_bytesAV,hl,hdl,hdd,zix]
end Go.Proofs.S97.H
