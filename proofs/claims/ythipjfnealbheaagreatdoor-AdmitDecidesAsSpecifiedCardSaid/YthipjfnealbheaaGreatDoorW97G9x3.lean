/-
  The specification's integers and texts as bytes; inputs of digests. No condition.
-/
import Derived.Test.YthipjfnealbheaaGreatDoorW97G8x3
import Derived.Test.YthipjfnealbheaaGreatDoorW97
import Derived.Test.YthipjfnealbheaaGreatDoorEvY
set_option linter.all false
open BitVec renaming toNat_ofNat->wB,toNat_ofInt->wC,toNat_mul->wD
open List renaming length_append->wE,length_take->wF,take_succ_eq_append_getElem->wG,take_length->wH,length_cons->wJ
open Nat renaming exists_eq_add_of_le'->wK,pow_zero->wL,div_one->wM
namespace Go.Proofs.S97.H
open Go Go.Ev Go.Proofs Go.Proofs.S97
variable {gl :Gl}
theorem qci (a:Nat):zam .rem .u64 (a:Int) 128=some (.int .u64 ((a%128:Nat):Int)):=by
 have h8:¬((128:Int)=0):=by decide
 simp only[zam,h8,if_false];rfl
theorem qco (a:Nat)(h:a<2^64):zam .quo .u64 (a:Int) 128=some (.int .u64 ((a/128:Nat):Int)):=by
 have h8:¬((128:Int)=0):=by decide
 simp only[zam,h8,if_false,zoy]
 have e:(a:Int).tdiv 128=((a/128:Nat):Int):=rfl
 rw[e,BitVec.ofInt_natCast,wB,Nat.mod_eq_of_lt (by omega)]
theorem qfs {n:Int}(h:0<=n/\n<=9223372036854775807):(BitVec.ofInt 64 n*2#64).toNat=zzN n:=by
 unfold zzN
 rw[if_neg (by omega),wD,wC]
 simp only[wB]
 omega
theorem qft {n:Int}(h:-9223372036854775808<=n/\n<0):(BitVec.ofInt 64 (-1-n)*2#64+1#64).toNat=zzN n:=by
 unfold zzN
 rw[if_pos (by omega),BitVec.toNat_add,wD,wC]
 simp only[wB]
 omega
def S54 (z:Nat)(k:Nat):St :=
 ⟨[.set 4 (.sl 5004 [] 0 k),.set 3 (.int .u64 ((z/128^k:Nat):Int))],[(5004,.grow .sc (zad (vpre z k)))]⟩
def L54 :MC:=match m125 with
 | .seq _ (.seq _ (.seq _ (.seq _ (.seq (.block _ (.loop _ b)) _))))=>b
 | _=>.skip
def K54 :List Kp:=[.slot 3,.own 4 5004 .sc]
theorem qho (F:Ev.Cl)(z:Nat)(hz:z<2^64) :
  ∃k,k<=9/\z/128^k<128/\zad (vint z)=zad (vpre z k)++[.int .u8 ((BitVec.ofNat 8 (z/128^k)).toNat:Int)]/\(vint z).length=k+1/\∀st,zcr K54 st=some (S54 z 0)->iter (evC gl F L54) K54 LF st=evC gl F L54 (S54 z k):=by
 have main:=fun st h0=>zv4 (f:=evC gl F L54) (ks:=K54) (st:=st) (S54 z) 9 (fun k=>128<=z/128^k) (by unfold LF;omega) h0 ?_ ?_ ?_
 . obtain⟨hk,hlt,hge⟩:=zgl (fun k=>128<=z/128^k) 9
   generalize fstN _ _=k at *
   have he:z/128^k<128:=by
    by_cases hn:k<9
    . have:=hge hn;omega
    . have:k=9:=by omega
      subst this;exact pow9 hz
   have hv:=zu2 z k hk hlt he
   refine⟨k,hk,he,?_,?_,main⟩
   . rw[<-hv,zas];rfl
   . rw[<-hv,wE,zf7];rfl
 . intro k hk hp
   have hlt:z/128^k<2^64:=Nat.lt_of_le_of_lt (Nat.div_le_self _ _) hz
   have hb:zad (vpre z (k+1))=zad (vpre z k)++[.int .u8 ((BitVec.ofNat 8 (z/128^k%128)+128#8).toNat:Int)]:=by
    rw[vpre,zas,<-BitVec.ofNat_add];rfl
   have e:z/128^(k+1)=z/128^k/128:=by rw[Nat.div_div_eq_div_mul,Nat.pow_succ]
   have hl:=zf7 z k
   unfold S54
   rw[hb,e]
   generalize z/128^k=y at *
   simp(disch:=apply zq;omega) only[go_sem,simprocAttr,↓Nat.reduceEqDiff,xx,L54,m125,K54,qci,qco y hlt,zae,hl,zh3 (show k<2^36 by omega)]
 . intro k hk hp
   unfold S54
   generalize z/128^k=y at *
   simp(disch:=apply zq;omega) only[go_sem,simprocAttr,↓Nat.reduceEqDiff,xx,L54,m125]
 . have h9:=pow9 hz
   unfold S54
   generalize z/128^9=y at *
   simp(disch:=apply zq;omega) only[go_sem,simprocAttr,↓Nat.reduceEqDiff,xx,L54,m125]
theorem z67 (d:Nat)(n:Int)(h:-9223372036854775808<=n/\n<=9223372036854775807):call gl tab (d+1) 125 [.int .i64 n] []=some (.sl 20000 [] 0 (zint n).length,[],[.grow .sc (zad (zint n))]):=by
 have hz:=z9e h
 rw[zaf (fd:=z3q) rfl]
 obtain⟨k,hk,he,hb,hl,e⟩:=qho (gl:=gl) (call gl tab d) (zzN n) hz
 simp only[L54,m125,K54]at e
 by_cases hn:n<0
 . have h1:=qft (n:=n) (by omega)
   simp(disch:=apply zq;omega) only[go_sem,simprocAttr,↓Nat.reduceEqDiff,xx,z3q,m125,h1]
   rw[e _ (by simp(disch:=apply zq;omega) only[go_sem,simprocAttr,↓Nat.reduceEqDiff,xx,S54,vpre,zad,wL,wM]),zint,hb,hl]
   unfold S54
   have hvl:=zf7 (zzN n) k
   generalize zzN n/128^k=y at *
   simp(disch:=apply zq;omega) only[go_sem,simprocAttr,↓Nat.reduceEqDiff,xx,zae,hvl,zh3 (show k<2^36 by omega)]
 . have h1:=qfs (n:=n) (by omega)
   simp(disch:=apply zq;omega) only[go_sem,simprocAttr,↓Nat.reduceEqDiff,xx,z3q,m125,h1]
   rw[e _ (by simp(disch:=apply zq;omega) only[go_sem,simprocAttr,↓Nat.reduceEqDiff,xx,S54,vpre,zad,wL,wM]),zint,hb,hl]
   unfold S54
   have hvl:=zf7 (zzN n) k
   generalize zzN n/128^k=y at *
   simp(disch:=apply zq;omega) only[go_sem,simprocAttr,↓Nat.reduceEqDiff,xx,zae,hvl,zh3 (show k<2^36 by omega)]
def encB (s:List UInt8):List UInt8:=zint s.length++s
theorem zqe (s:List UInt8):(encB s).length<=s.length+10:=by have:=zow s.length;rw[encB,wE];omega
theorem zzl (d:Nat)(s:List UInt8)(hs:s.length<2^35):call gl tab (d+2) 116 [.str s] []=some (.sl 20000 [] 0 (encB s).length,[],[.grow .sc (zad (encB s))]):=by
 have h53:=z68 (gl:=gl) d (s.length:Int) (by omega)
 have hl:=zow s.length
 have hL:(zint (s.length:Int)).length+s.length<=LIM:=by unfold LIM;omega
 rw[zaf (fd:=z77) rfl]
 unfold encB
 generalize zint (s.length:Int)=z at *
 simp(disch:=apply zq;omega) only[go_sem,simprocAttr,↓Nat.reduceEqDiff,xx,z77,m116,h53,zae,hL,zas]
theorem zzk (d:Nat)(s:List UInt8)(hs:s.length<2^35):call gl tab (d+2) 119 [.str s] []=some (.sl 20000 [] 0 (encB s).length,[],[.grow .sc (zad (encB s))]):=by
 have h54:=z67 (gl:=gl) d (s.length:Int) (by omega)
 have hl:=zow s.length
 have hL:(zint (s.length:Int)).length+s.length<=LIM:=by unfold LIM;omega
 rw[zaf (fd:=z76) rfl]
 unfold encB
 generalize zint (s.length:Int)=z at *
 simp(disch:=apply zq;omega) only[go_sem,simprocAttr,↓Nat.reduceEqDiff,xx,z76,m119,h54,zae,hL,zas]
end Go.Proofs.S97.H
namespace Go.Proofs.S97.H
open Go Go.Ev Go.Proofs Go.Proofs.S97
variable {gl :Gl} [Nonempty (GlR gl)]
def Sml (l:List (List UInt8)):Prop:=l.length<=1000/\∀x∈l,x.length<=1048576
theorem z0h {l:List (List UInt8)}(h:Sml l){i:Nat}(hi:i<l.length):l[i].length<=1048576:=h.2 _ (List.getElem_mem hi)
theorem zvf {l:List (List UInt8)}(h:Sml l)(k:Nat):Sml (l.take k) :=
 ⟨by rw[wF];have:=h.1;omega,fun x hx=>h.2 x (List.mem_of_mem_take hx)⟩
def encL (l:List (List UInt8)):List UInt8:=(l.map encB).flatten
def inp (t:Int)(l:List (List UInt8)):List UInt8:=ub (BitVec.ofInt 8 t)::encL l
theorem z8q {l:List (List UInt8)}(h:Sml l):(encL l).length<=1048586000:=by
 have key:∀l:List (List UInt8),(∀x∈l,x.length<=1048576)->(encL l).length<=1048586*l.length:=by
  intro l
  induction l with
  | nil=>intro _;simp[encL]
  | cons x l ih =>
    intro h
    have h1:=h x (by simp)
    have h2:=ih fun y hy=>h y (by simp[hy])
    have h3:=zqe x
    simp only[encL,List.map_cons,List.flatten_cons,wE,wJ]at *
    omega
 have h1:=key l h.2;have h2:=h.1;omega
theorem z31 (l:List (List UInt8))(i:Nat)(h:i<l.length):encL (l.take (i+1))=encL (l.take i)++encB l[i]:=by
 unfold encL;rw[wG h,List.map_append,List.flatten_append];simp
theorem zwb (t:Int)(l:List (List UInt8))(i:Nat)(h:i<l.length):inp t (l.take (i+1))=inp t (l.take i)++encB l[i]:=by
 rw[inp,inp,z31 l i h];rfl
theorem zp5 {t:Int}{l:List (List UInt8)}(h:Sml l):(inp t l).length<=1048586001:=by
 have:=z8q h;simp only[inp,wJ];omega
def S36 (nb:Bool)(t:Int)(l:List (List UInt8))(i:Nat):St :=
 ⟨[.set 6 (.int .i64 i),.set 5 (.sl 5005 [] 0 (inp t (l.take i)).length),.set 1 (.lst nb .sc (zir l))],[(5005,.grow .sc (zad (inp t (l.take i))))]⟩
theorem z7b (d:Nat)(t:Int)(nb:Bool)(l:List (List UInt8))(h:Sml l):call gl tab (d+3) 108 [.int .i64 t,.lst nb .sc (zir l)] []=some (.sl 20000 [] 0 (inp t l).length,[],[.grow .sc (zad (inp t l))]):=by
 have h1:=h.1
 rw[zaf (fd:=z8d) rfl]
 simp(disch:=apply zq;omega) only[go_sem,simprocAttr,↓Nat.reduceEqDiff,xx,z8d,m108]
 rw[zaj (S36 nb t l) l.length (by unfold LF;omega)]
 . simp(disch:=apply zq;omega) only[go_sem,simprocAttr,↓Nat.reduceEqDiff,xx,S36,zdf,wH,zae]
 . simp(disch:=apply zq;omega) only[go_sem,simprocAttr,↓Nat.reduceEqDiff,xx,S36];rfl
 . intro i hi
   have h2:=z0h h hi
   have h3:=zp5 (t:=t) (zvf h i)
   have h4:=zqe l[i]
   have hb:=zzk (gl:=gl) d l[i] (by omega)
   have hL:(inp t (l.take i)).length+(encB l[i]).length<=LIM:=by unfold LIM;omega
   unfold S36
   rw[zwb t l i hi,zas,wE]
   generalize inp t (l.take i)=p at *
   have hgi:=znm hi
   generalize encB l[i]=q at *
   simp(disch:=apply zq;omega) only[go_sem,simprocAttr,↓Nat.reduceEqDiff,xx,hgi,zdf,hb,zae,hL]
 . simp(disch:=apply zq;omega) only[go_sem,simprocAttr,↓Nat.reduceEqDiff,xx,S36,zdf]
def dig (m:List UInt8):List UInt8:=(zj5 m).take 16
theorem dig_len (m:List UInt8):(dig m).length=16:=by rw[dig,wF,zjd];rfl
def outS (h:List UInt8)(i:Nat):List UInt8:=h.take i++List.replicate (16-i) 0
theorem z1l (h:List UInt8)(i:Nat)(hl:h.length=32)(hi:i<16):outS h (i+1)=(outS h i).set i (h.getD i 0):=by
 have e:16-i=(16-(i+1))+1:=by omega
 have hi':i<h.length:=by omega
 unfold outS
 rw[e,List.replicate_succ,wG hi',List.getD_eq_getElem?_getD,List.getElem?_eq_getElem hi']
 rw[List.set_append,if_neg (by rw[wF];omega),wF,show i-min i h.length=0 by omega]
 rw[List.append_assoc];rfl
theorem z6n (h:List UInt8)(i:Nat)(hl:h.length=32)(hi:i<=16):(outS h i).length=16:=by
 unfold outS;rw[wE,wF,List.length_replicate];omega
def out16l :List AV:=List.replicate 16 (.int .u8 0)
theorem zme :List.replicate 16 (AV.int .u8 0)=out16l:=rfl
theorem zi4 :out16l.length=16:=rfl
theorem zru :out16l.all AV.scalar=true:=by kernel_rfl
theorem zvr :AV.plains out16l=true:=by kernel_rfl
def S49 (h:List UInt8)(i:Nat):St :=
 ⟨[.set 5 (.int .i64 i),.set 4 (.ptr 4 []),.set 3 (.ptr 3 []),.set 2 (.ptr 2 [])],[(4,.fix (.ar 16 .sc) (.agg (zad (outS h i)))),(3,.fix (.ar 32 .sc) (.agg (zad h))),(2,.fix (.ar 16 .sc) (.agg out16l))]⟩
theorem zss (l:List UInt8)(i:Nat)(b:UInt8):zad (l.set i b)=(zad l).set i (.int .u8 (b.toBitVec.toNat:Int)):=zhg l i b.toBitVec
theorem qg2 (h:List UInt8):zad (outS h 0)=out16l:=rfl
theorem z5n {n:Nat}(hn:3<=n)(nb:Bool)(m:List UInt8)(hm:m.length<2^34):call gl tab (n+1) 107 [.lst nb .sc (zad m)] []=some (.agg (zad (dig m)),[],[]):=by
 have h30:=qca (gl:=gl) hn nb m hm
 have hl:=zjd m
 have hd:dig m=outS (zj5 m) 16:=by unfold dig outS;simp
 have ho2:AV.agg (List.replicate 32 (.int .u8 0))=out32:=rfl
 have hdl:=dig_len m
 rw[zaf (fd:=z8e) rfl]
 rw[hd]at hdl ⊢
 generalize zj5 m=h at *
 simp(disch:=apply zq;omega) only[go_sem,simprocAttr,↓Nat.reduceEqDiff,xx,z8e,m107,h30,↓zme,zi4,zru,zvr,↓ho2,zae,hl,bytes_all,zaz]
 rw[zaj (S49 h) 16 (by unfold LF;omega)]
 . simp(disch:=apply zq;omega) only[go_sem,simprocAttr,↓Nat.reduceEqDiff,xx,S49,zae,bytes_all,hdl]
 . simp(disch:=apply zq;omega) only[go_sem,simprocAttr,↓Nat.reduceEqDiff,xx,S49,qg2]
 . intro i hi
   have hol:=z6n h i hl (by omega)
   have g1:=bytesAV_getD (l:=h) (i:=i) (by omega)
   have g2:=bytesAV_getD (l:=outS h i) (i:=i) (by omega)
   unfold S49
   rw[z1l h i hl hi,zss]
   simp(disch:=apply zq;omega) only[go_sem,simprocAttr,↓Nat.reduceEqDiff,xx,g1,g2,zae,hl,hol]
 . simp(disch:=apply zq;omega) only[go_sem,simprocAttr,↓Nat.reduceEqDiff,xx,S49]
theorem rof_at {n:Nat}(hn:3<=n)(t:Int)(nb:Bool)(l:List (List UInt8))(h:Sml l):call gl tab (n+2) 94 [.int .i64 t,.lst nb .sc (zir l)] []=some (.agg (zad (dig (inp t l))),[],[]):=by
 obtain⟨d,rfl⟩:=wK (show 2<=n by omega)
 have hi:=z7b (gl:=gl) d t nb l h
 have h1:=zp5 (t:=t) h
 have hs:=z5n (gl:=gl) (n:=d+2) (by omega) false (inp t l) (by omega)
 have hdl:=dig_len (inp t l)
 rw[zaf (fd:=fd94) rfl]
 generalize dig (inp t l)=D at *
 generalize inp t l=m at *
 simp(disch:=apply zq;omega) only[go_sem,simprocAttr,↓Nat.reduceEqDiff,xx,fd94,m94,hi,hs,↓zme,zi4,zru,zvr,zae,hdl,bytes_all,noImms_bytesAV]
end Go.Proofs.S97.H
namespace Go.Proofs.S97.H
open Go Go.Ev Go.Proofs Go.Proofs.S97
variable {gl :Gl} [Nonempty (GlK gl)]
def z64l :List AV:=List.replicate 64 (.int .u8 0)
theorem qas :List.replicate 64 (AV.int .u8 0)=z64l:=rfl
def z32l :List AV:=List.replicate 32 (.int .u8 0)
theorem qat :List.replicate 32 (AV.int .u8 0)=z32l:=rfl
def S34 (nb:Bool)(l:List (List UInt8))(s:Sm)(i:Nat):St :=
 ⟨[.set 17 (.int .i64 i),.set 16 (.int .i64 l.length),.set 15 (.lst nb .sc (zir l)),.set 5 (.ptr 5 []),.set 4 (.ptr 4 [])],
  [(5,.fix (.st [.ar 8 .sc,.ar 64 .sc,.sc]) s.av),(4,.fix (.ar 16 .sc) (.agg out16l))]⟩
def L34 :MC:=match m106 with
 | .seq _ (.seq _ (.seq (.seq _ (.block _ (.loop _ b))) _))=>b
 | _=>.skip
def K34 :List Kp:=[.slot 4,.slot 5,.slot 15,.slot 16,.slot 17,.key 4,.key 5]
theorem qhr (F:Ev.Cl)(nb:Bool)(t:Int)(l:List (List UInt8))(h:Sml l)(s1:Sm)(hr1:Reps s1 [ub (BitVec.ofInt 8 t)])
  (c48:∀s:List UInt8,s.length<2^35->F 116 [.str s] []=some (.sl 20000 [] 0 (encB s).length,[],[.grow .sc (zad (encB s))]))
  (c32:∀(s:Sm) (m x:List UInt8),Reps s m->m.length+x.length<2^60->∃s',Reps s' (m++x)/\F 115 [s.av,.str x] []=some (s'.av,[],[])) :
  ∃s,Reps s (inp t l)/\∀st,zcr K34 st=some (S34 nb l s1 0)->iter (evC gl F L34) K34 LF st=evC gl F L34 (S34 nb l s l.length):=by
 have h1:=h.1
 have hstep:∀i st,i<l.length->(∃s,Reps s (inp t (l.take i))/\st=S34 nb l s i)->∃st',za1 K34 (evC gl F L34 st)=some st'/\∃s,Reps s (inp t (l.take (i+1)))/\st'=S34 nb l s (i+1):=by
  rintro i _ hi ⟨s,hs,rfl⟩
  have h2:=z0h h hi
  have h3:=zp5 (t:=t) (zvf h i)
  have h4:=zqe l[i]
  have c1:=c48 l[i] (by omega)
  obtain⟨s2,hr2,c2⟩:=c32 s _ (encB l[i]) hs (by omega)
  rw[<-zwb t l i hi]at hr2
  refine⟨_,?_,s2,hr2,rfl⟩
  have hgi:=znm hi
  have hbl:=hs.2.1
  have hbl2:=hr2.2.1
  simp only[Sm.av,H8.av]at c2
  generalize encB l[i]=q at *
  simp(disch:=apply zq;omega) only[go_sem,simprocAttr,↓Nat.reduceEqDiff,xx,L34,m106,K34,S34,Sm.av,H8.av,hgi,zdf,c1,c2,zae,bytes_all,hbl,hbl2,zi4]
 have hend:∀st,(∃s,Reps s (inp t (l.take l.length))/\st=S34 nb l s l.length)->isEx (evC gl F L34 st)=true:=by
  rintro _ ⟨s,hs,rfl⟩
  simp(disch:=apply zq;omega) only[go_sem,simprocAttr,↓Nat.reduceEqDiff,xx,L34,m106,S34]
 obtain⟨s',⟨s,hs,rfl⟩,e⟩:=z64 (f:=evC gl F L34) (ks:=K34) (fun i st=>∃s,Reps s (inp t (l.take i))/\st=S34 nb l s i) l.length (by unfold LF;omega) ⟨s1,hr1,rfl⟩ hstep hend
 rw[wH]at hs
 exact⟨s,hs,e⟩
theorem of_at {n:Nat}(hn:5<=n)(t:Int)(nb:Bool)(l:List (List UInt8))(h:Sml l):call gl tab (n+1) 106 [.int .i64 t,.lst nb .sc (zir l)] []=some (.agg (zad (dig (inp t l))),[],[]):=by
 have h1:=h.1
 have hb:=@z0s gl _ n (by omega)
 have hil:=zp5 (t:=t) h
 obtain⟨s1,hr1,ha1⟩:=zth (gl:=gl) (n:=n) (by omega) s0 [] [ub (BitVec.ofInt 8 t)] qko (by simp)
 rw[List.nil_append]at hr1
 have hbl1:=hr1.2.1
 obtain⟨s,hs,e⟩:=qhr (gl:=gl) (call gl tab n) nb t l h s1 hr1 (fun s hs=>by
  obtain⟨d,rfl⟩:=wK (show 2<=n by omega)
  exact zzl d s hs) (fun s m x hs hm=>zth (by omega) s m x hs hm)
 simp only[L34,m106,K34]at e
 rw[zaf (fd:=z8f) rfl]
 have hub:UInt8.ofNat ((((BitVec.ofInt 8 t).toNat:Nat):Int)).toNat=ub (BitVec.ofInt 8 t):=by
  rw[Int.toNat_natCast];apply UInt8.toBitVec_inj.1
  show BitVec.ofNat 8 _=_
  rw[BitVec.ofNat_toNat,BitVec.setWidth_eq];rfl
 have hub2:UInt8.ofNat (BitVec.ofInt 8 t).toNat=ub (BitVec.ofInt 8 t):=by rw[Int.toNat_natCast]at hub;exact hub
 simp only[Sm.av,H8.av]at hb ha1
 have hb0:s0.blk.length=64:=by simp[s0]
 simp(disch:=apply zq;omega) only[go_sem,simprocAttr,↓Nat.reduceEqDiff,xx,z8f,m106,↓qas,↓qat,↓zme,hb,ha1,zhf,Ev.byteOf,hub,hub2,noImms_bytesAV,zae,bytes_all,hbl1,hb0]
 rw[e _ (by simp(disch:=apply zq;omega) only[go_sem,simprocAttr,↓Nat.reduceEqDiff,xx,S34,Sm.av,H8.av,zae,zdf])]
 have hsum:=qbt (gl:=gl) hn s _ hs (by omega)
 have hl:=zjd (inp t l)
 have hdl:=dig_len (inp t l)
 have hdd:List.take 16 (zad (zj5 (inp t l)))=zad (dig (inp t l)):=by rw[zhz];rfl
 have hbl:=hs.2.1
 simp only[Sm.av,H8.av]at hsum
 simp(disch:=apply zq;omega) only[go_sem,simprocAttr,↓Nat.reduceEqDiff,xx,S34,Sm.av,H8.av,zae,bytes_all,hbl,hsum,noImms_bytesAV,hl,hdl,hdd,zi4]
end Go.Proofs.S97.H
namespace Go.Proofs.S97.K
open Go Go.Ev Go.Proofs
variable {gl :Gl} {n:Nat}
abbrev i64 (n:Int):AV:=.int .i64 n
def ns (l:List Int):List AV:=l.map i64
def nat (l:List Int)(i:Nat):Int:=l.getD i 0
theorem ns_length (l:List Int):(ns l).length=l.length:=by simp[ns]
theorem ns_at {l:List Int}{i:Nat}(h:i<l.length):(ns l)[i]? =some (i64 (nat l i)):=by simp[ns,nat,h]
theorem ns_nil :ns []=[]:=rfl
theorem ns_app (l:List Int)(s:Int):ns (l++[s])=ns l++[i64 s]:=by simp[ns]
theorem ns_take (l:List Int)(v:AV):(ns l++[v]).take (l.length+1)=ns l++[v]:=by rw[<-ns_length];exact List.take_of_length_le (by simp)
theorem ns_take' (l:List Int):(ns l).take l.length=ns l:=by rw[<-ns_length];exact wH
def hlf (l:List Int):Nat->List Int
 | 0=>[]
 | i+1=>hlf l i++[nat l i/2]
theorem quo2 {x:Int}(h:0<=x):Int.tdiv x 2=x/2:=Int.tdiv_eq_ediv_of_nonneg h
abbrev sK :Sh:=.st [.sc,.sc,.sc,.sc]
def hv (w s a:Int)(N:Nat):AV:=.aggR [i64 w,i64 s,i64 (a/2),.sl 20000 [] 0 N]
end Go.Proofs.S97.K
namespace Go.Proofs.S97.K
open Go Go.Ev Go.Proofs
variable {gl :Gl} {n:Nat}
def L13 :MC:=match m33 with| .seq _ (.seq _ (.seq (.seq _ (.block _ (.loop _ b))) _))=>b|_=>.skip
def S13 (w s a:Int)(f f':Bool)(l:List Int)(i:Nat):St :=
 ⟨[.set 5 (i64 i),.set 3 (.ptr 3 []),.set 2 (.ptr 2 [])],[(3,.fix sK (.agg [i64 w,i64 s,i64 a,.lst f' .sc (ns l)])),(2,.fix sK (.agg [i64 w,i64 s,i64 a,.lst f .sc (ns l)]))]⟩
theorem same_at (h:1<=n){f f':Bool}{w s a:Int}{l:List Int}(hl:l.length<2^20) :
  call gl tab n 33 [.agg [i64 w,i64 s,i64 a,.lst f .sc (ns l)],.agg [i64 w,i64 s,i64 a,.lst f' .sc (ns l)]] []=some (.bool true,[],[]):=by
 obtain⟨d,rfl⟩:=wK h
 have hs:∀i,i<l.length->za1 [.slot 2,.slot 3,.slot 5,.key 2,.key 3] (evC gl (call gl tab d) L13 (S13 w s a f f' l i))=some (S13 w s a f f' l (i+1)):=fun i hi=>by
  have hx:=ns_at hi
  simp(disch:=apply zq;omega) only[go_sem,simprocAttr,↓Nat.reduceEqDiff,xx,L13,m33,S13,ns_length,hx]
 simp only[L13,m33]at hs
 rw[zaf (fd:=fd33) rfl]
 simp(disch:=apply zq;omega) only[go_sem,simprocAttr,↓Nat.reduceEqDiff,xx,fd33,m33,ns_length]
 rw[zaj (S13 w s a f f' l) l.length (by unfold LF;omega)]
 . simp(disch:=apply zq;omega) only[go_sem,simprocAttr,↓Nat.reduceEqDiff,xx,S13,ns_length]
 . simp(disch:=apply zq;omega) only[go_sem,simprocAttr,↓Nat.reduceEqDiff,xx,S13,ns_length]
 . exact hs
 . simp(disch:=apply zq;omega) only[go_sem,simprocAttr,↓Nat.reduceEqDiff,xx,S13,ns_length]
def fil (l:List Int):Nat->Int
 | 0=>0
 | i+1=>fil l i+if nat l i=0 then 0 else 1
def S27 (w s a:Int)(f:Bool)(l:List Int)(i:Nat):St:=⟨[.set 4 (i64 i),.set 3 (i64 (fil l i)),.set 1 (.ptr 1 [])],[(1,.fix sK (.agg [i64 w,i64 s,i64 a,.lst f .sc (ns l)]))]⟩
end Go.Proofs.S97.K
