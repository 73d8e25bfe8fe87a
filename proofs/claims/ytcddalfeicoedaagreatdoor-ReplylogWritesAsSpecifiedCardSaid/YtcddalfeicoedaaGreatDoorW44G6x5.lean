/-
  The specification's integers and texts as bytes; inputs of digests. No condition.
-/
import Derived.Test.YtcddalfeicoedaaGreatDoorW44G5x5
set_option linter.unusedVariables false
set_option linter.unusedSimpArgs false
set_option linter.unusedSectionVars false
namespace Go.Proofs.S44.H
open Go Go.Ev Go.Proofs Go.Proofs.S44
variable {gl :Gl}
theorem remu128 (a:Nat):binInt .rem .u64 (a:Int) 128=some (.int .u64 ((a%128:Nat):Int)):=by
 have h8:¬((128:Int)=0):=by decide
 simp only[binInt,h8,if_false];rfl
theorem quou128 (a:Nat)(h:a<2^64):binInt .quo .u64 (a:Int) 128=some (.int .u64 ((a/128:Nat):Int)):=by
 have h8:¬((128:Int)=0):=by decide
 simp only[binInt,h8,if_false,wrap_u64]
 have e:(a:Int).tdiv 128=((a/128:Nat):Int):=rfl
 rw[e,BitVec.ofInt_natCast,BitVec.toNat_ofNat,Nat.mod_eq_of_lt (by omega)]
theorem zz_pos {n:Int}(h:0<=n/\n<=9223372036854775807):(BitVec.ofInt 64 n*2#64).toNat=zzN n:=by
 unfold zzN
 rw[if_neg (by omega),BitVec.toNat_mul,BitVec.toNat_ofInt]
 simp only[BitVec.toNat_ofNat]
 omega
theorem zz_neg {n:Int}(h:-9223372036854775808<=n/\n<0):(BitVec.ofInt 64 (-1-n)*2#64+1#64).toNat=zzN n:=by
 unfold zzN
 rw[if_pos (by omega),BitVec.toNat_add,BitVec.toNat_mul,BitVec.toNat_ofInt]
 simp only[BitVec.toNat_ofNat]
 omega
def S54 (z:Nat)(k:Nat):St :=
 ⟨[.set 4 (.sl 5004 [] 0 k),.set 3 (.int .u64 ((z/128^k:Nat):Int))],[(5004,.grow .sc (bytesAV (vpre z k)))]⟩
def L54 :MC:=match m155 with
 | .seq _ (.seq _ (.seq _ (.seq _ (.seq (.block _ (.loop _ b)) _))))=>b
 | _=>.skip
def K54 :List Kp:=[.slot 3,.own 4 5004 .sc]
theorem loop54 (F:Ev.Cl)(z:Nat)(hz:z<2^64) :
  ∃k,k<=9/\z/128^k<128/\bytesAV (vint z)=bytesAV (vpre z k)++[.int .u8 ((BitVec.ofNat 8 (z/128^k)).toNat:Int)]/\(vint z).length=k+1/\∀st,clean K54 st=some (S54 z 0)->iter (evC gl F L54) K54 LF st=evC gl F L54 (S54 z k):=by
 have main:=fun st h0=>iter_fst (f:=evC gl F L54) (ks:=K54) (st:=st) (S54 z) 9 (fun k=>128<=z/128^k) (by unfold LF;omega) h0 ?_ ?_ ?_
 . obtain⟨hk,hlt,hge⟩:=fst_spec (fun k=>128<=z/128^k) 9
   generalize fstN _ _=k at *
   have he:z/128^k<128:=by
    by_cases hn:k<9
    . have:=hge hn;omega
    . have:k=9:=by omega
      subst this;exact pow9 hz
   have hv:=vint_end z k hk hlt he
   refine⟨k,hk,he,?_,?_,main⟩
   . rw[<-hv,bytesAV_append];rfl
   . rw[<-hv,List.length_append,vpre_len];rfl
 . intro k hk hp
   have hlt:z/128^k<2^64:=Nat.lt_of_le_of_lt (Nat.div_le_self _ _) hz
   have hb:bytesAV (vpre z (k+1))=bytesAV (vpre z k)++[.int .u8 ((BitVec.ofNat 8 (z/128^k%128)+128#8).toNat:Int)]:=by
    rw[vpre,bytesAV_append,<-BitVec.ofNat_add];rfl
   have e:z/128^(k+1)=z/128^k/128:=by rw[Nat.div_div_eq_div_mul,Nat.pow_succ]
   have hl:=vpre_len z k
   unfold S54
   rw[hb,e]
   generalize z/128^k=y at *
   simp(disch:=((fail_if_success (intro _));omega)) only[go_sem,simprocAttr,↓reduceIte,↓Nat.reduceEqDiff,xx,L54,m155,K54,remu128,quou128 y hlt,bytesAV_length,hl,lim_of (show k<2^36 by omega)]
 . intro k hk hp
   unfold S54
   generalize z/128^k=y at *
   simp(disch:=((fail_if_success (intro _));omega)) only[go_sem,simprocAttr,↓reduceIte,↓Nat.reduceEqDiff,xx,L54,m155]
 . have h9:=pow9 hz
   unfold S54
   generalize z/128^9=y at *
   simp(disch:=((fail_if_success (intro _));omega)) only[go_sem,simprocAttr,↓reduceIte,↓Nat.reduceEqDiff,xx,L54,m155]
theorem int54_ok (d:Nat)(n:Int)(h:-9223372036854775808<=n/\n<=9223372036854775807):call gl tab (d+1) 155 [.int .i64 n] []=some (.sl 20000 [] 0 (zint n).length,[],[.grow .sc (bytesAV (zint n))]):=by
 have hz:=zzN_lt h
 rw[call_go (fd:=fd155) rfl]
 obtain⟨k,hk,he,hb,hl,e⟩:=loop54 (gl:=gl) (call gl tab d) (zzN n) hz
 simp only[L54,m155,K54]at e
 by_cases hn:n<0
 . have h1:=zz_neg (n:=n) (by omega)
   simp(disch:=((fail_if_success (intro _));omega)) only[go_sem,simprocAttr,↓reduceIte,↓Nat.reduceEqDiff,xx,fd155,m155,h1]
   rw[e _ (by simp(disch:=((fail_if_success (intro _));omega)) only[go_sem,simprocAttr,↓reduceIte,↓Nat.reduceEqDiff,xx,S54,vpre,bytesAV,Nat.pow_zero,Nat.div_one]),zint,hb,hl]
   unfold S54
   have hvl:=vpre_len (zzN n) k
   generalize zzN n/128^k=y at *
   simp(disch:=((fail_if_success (intro _));omega)) only[go_sem,simprocAttr,↓reduceIte,↓Nat.reduceEqDiff,xx,bytesAV_length,hvl,lim_of (show k<2^36 by omega)]
 . have h1:=zz_pos (n:=n) (by omega)
   simp(disch:=((fail_if_success (intro _));omega)) only[go_sem,simprocAttr,↓reduceIte,↓Nat.reduceEqDiff,xx,fd155,m155,h1]
   rw[e _ (by simp(disch:=((fail_if_success (intro _));omega)) only[go_sem,simprocAttr,↓reduceIte,↓Nat.reduceEqDiff,xx,S54,vpre,bytesAV,Nat.pow_zero,Nat.div_one]),zint,hb,hl]
   unfold S54
   have hvl:=vpre_len (zzN n) k
   generalize zzN n/128^k=y at *
   simp(disch:=((fail_if_success (intro _));omega)) only[go_sem,simprocAttr,↓reduceIte,↓Nat.reduceEqDiff,xx,bytesAV_length,hvl,lim_of (show k<2^36 by omega)]
def encB (s:List UInt8):List UInt8:=zint s.length++s
theorem encB_len (s:List UInt8):(encB s).length<=s.length+10:=by have:=zint_len s.length;rw[encB,List.length_append];omega
theorem bytes48_ok (d:Nat)(s:List UInt8)(hs:s.length<2^35):call gl tab (d+2) 131 [.str s] []=some (.sl 20000 [] 0 (encB s).length,[],[.grow .sc (bytesAV (encB s))]):=by
 have h53:=int53_ok (gl:=gl) d (s.length:Int) (by omega)
 have hl:=zint_len s.length
 have hL:(zint (s.length:Int)).length+s.length<=LIM:=by unfold LIM;omega
 rw[call_go (fd:=fd131) rfl]
 unfold encB
 generalize zint (s.length:Int)=z at *
 simp(disch:=((fail_if_success (intro _));omega)) only[go_sem,simprocAttr,↓reduceIte,↓Nat.reduceEqDiff,xx,fd131,m131,h53,bytesAV_length,hL,bytesAV_append]
theorem bytes50_ok (d:Nat)(s:List UInt8)(hs:s.length<2^35):call gl tab (d+2) 156 [.str s] []=some (.sl 20000 [] 0 (encB s).length,[],[.grow .sc (bytesAV (encB s))]):=by
 have h54:=int54_ok (gl:=gl) d (s.length:Int) (by omega)
 have hl:=zint_len s.length
 have hL:(zint (s.length:Int)).length+s.length<=LIM:=by unfold LIM;omega
 rw[call_go (fd:=fd156) rfl]
 unfold encB
 generalize zint (s.length:Int)=z at *
 simp(disch:=((fail_if_success (intro _));omega)) only[go_sem,simprocAttr,↓reduceIte,↓Nat.reduceEqDiff,xx,fd156,m156,h54,bytesAV_length,hL,bytesAV_append]
end Go.Proofs.S44.H
namespace Go.Proofs.S44.H
open Go Go.Ev Go.Proofs Go.Proofs.S44
variable {gl :Gl} [Nonempty (GlR gl)]
def Sml (l:List (List UInt8)):Prop:=l.length<=1000/\∀x∈l,x.length<=1048576
theorem sml_get {l:List (List UInt8)}(h:Sml l){i:Nat}(hi:i<l.length):l[i].length<=1048576:=h.2 _ (List.getElem_mem hi)
theorem sml_take {l:List (List UInt8)}(h:Sml l)(k:Nat):Sml (l.take k) :=
 ⟨by rw[List.length_take];have:=h.1;omega,fun x hx=>h.2 x (List.mem_of_mem_take hx)⟩
def encL (l:List (List UInt8)):List UInt8:=(l.map encB).flatten
def inp (t:Int)(l:List (List UInt8)):List UInt8:=ub (BitVec.ofInt 8 t)::encL l
theorem encL_len {l:List (List UInt8)}(h:Sml l):(encL l).length<=1048586000:=by
 have key:∀l:List (List UInt8),(∀x∈l,x.length<=1048576)->(encL l).length<=1048586*l.length:=by
  intro l
  induction l with
  | nil=>intro _;simp[encL]
  | cons x l ih =>
    intro h
    have h1:=h x (by simp)
    have h2:=ih fun y hy=>h y (by simp[hy])
    have h3:=encB_len x
    simp only[encL,List.map_cons,List.flatten_cons,List.length_append,List.length_cons]at *
    omega
 have h1:=key l h.2;have h2:=h.1;omega
theorem encL_snoc (l:List (List UInt8))(i:Nat)(h:i<l.length):encL (l.take (i+1))=encL (l.take i)++encB l[i]:=by
 unfold encL;rw[List.take_succ_eq_append_getElem h,List.map_append,List.flatten_append];simp
theorem inp_snoc (t:Int)(l:List (List UInt8))(i:Nat)(h:i<l.length):inp t (l.take (i+1))=inp t (l.take i)++encB l[i]:=by
 rw[inp,inp,encL_snoc l i h];rfl
theorem inp_len {t:Int}{l:List (List UInt8)}(h:Sml l):(inp t l).length<=1048586001:=by
 have:=encL_len h;simp only[inp,List.length_cons];omega
def S36 (nb:Bool)(t:Int)(l:List (List UInt8))(i:Nat):St :=
 ⟨[.set 6 (.int .i64 i),.set 5 (.sl 5005 [] 0 (inp t (l.take i)).length),.set 1 (.lst nb .sc (strsAV l))],[(5005,.grow .sc (bytesAV (inp t (l.take i))))]⟩
theorem input_ok (d:Nat)(t:Int)(nb:Bool)(l:List (List UInt8))(h:Sml l):call gl tab (d+3) 136 [.int .i64 t,.lst nb .sc (strsAV l)] []=some (.sl 20000 [] 0 (inp t l).length,[],[.grow .sc (bytesAV (inp t l))]):=by
 have h1:=h.1
 rw[call_go (fd:=fd136) rfl]
 simp(disch:=((fail_if_success (intro _));omega)) only[go_sem,simprocAttr,↓reduceIte,↓Nat.reduceEqDiff,xx,fd136,m136]
 rw[iter_to (S36 nb t l) l.length (by unfold LF;omega)]
 . simp(disch:=((fail_if_success (intro _));omega)) only[go_sem,simprocAttr,↓reduceIte,↓Nat.reduceEqDiff,xx,S36,strsAV_length,List.take_length,bytesAV_length]
 . simp(disch:=((fail_if_success (intro _));omega)) only[go_sem,simprocAttr,↓reduceIte,↓Nat.reduceEqDiff,xx,S36];rfl
 . intro i hi
   have h2:=sml_get h hi
   have h3:=inp_len (t:=t) (sml_take h i)
   have h4:=encB_len l[i]
   have hb:=bytes50_ok (gl:=gl) d l[i] (by omega)
   have hL:(inp t (l.take i)).length+(encB l[i]).length<=LIM:=by unfold LIM;omega
   unfold S36
   rw[inp_snoc t l i hi,bytesAV_append,List.length_append]
   generalize inp t (l.take i)=p at *
   have hgi:=strsAV_get hi
   generalize encB l[i]=q at *
   simp(disch:=((fail_if_success (intro _));omega)) only[go_sem,simprocAttr,↓reduceIte,↓Nat.reduceEqDiff,xx,hgi,strsAV_length,hb,bytesAV_length,hL]
 . simp(disch:=((fail_if_success (intro _));omega)) only[go_sem,simprocAttr,↓reduceIte,↓Nat.reduceEqDiff,xx,S36,strsAV_length]
def dig (m:List UInt8):List UInt8:=(hashL m).take 16
theorem dig_len (m:List UInt8):(dig m).length=16:=by rw[dig,List.length_take,hashL_len];rfl
def outS (h:List UInt8)(i:Nat):List UInt8:=h.take i++List.replicate (16-i) 0
theorem outS_succ (h:List UInt8)(i:Nat)(hl:h.length=32)(hi:i<16):outS h (i+1)=(outS h i).set i (h.getD i 0):=by
 have e:16-i=(16-(i+1))+1:=by omega
 have hi':i<h.length:=by omega
 unfold outS
 rw[e,List.replicate_succ,List.take_succ_eq_append_getElem hi',List.getD_eq_getElem?_getD,List.getElem?_eq_getElem hi']
 rw[List.set_append,if_neg (by rw[List.length_take];omega),List.length_take,show i-min i h.length=0 by omega]
 rw[List.append_assoc];rfl
theorem outS_len (h:List UInt8)(i:Nat)(hl:h.length=32)(hi:i<=16):(outS h i).length=16:=by
 unfold outS;rw[List.length_append,List.length_take,List.length_replicate];omega
def out16l :List AV:=List.replicate 16 (.int .u8 0)
theorem out16_def :List.replicate 16 (AV.int .u8 0)=out16l:=rfl
theorem out16_len :out16l.length=16:=rfl
theorem out16_all :out16l.all AV.scalar=true:=by kernel_rfl
theorem out16_pl :AV.plains out16l=true:=by kernel_rfl
def S49 (h:List UInt8)(i:Nat):St :=
 ⟨[.set 5 (.int .i64 i),.set 4 (.ptr 4 []),.set 3 (.ptr 3 []),.set 2 (.ptr 2 [])],[(4,.fix (.ar 16 .sc) (.agg (bytesAV (outS h i)))),(3,.fix (.ar 32 .sc) (.agg (bytesAV h))),(2,.fix (.ar 16 .sc) (.agg out16l))]⟩
theorem bytesAV_setU (l:List UInt8)(i:Nat)(b:UInt8):bytesAV (l.set i b)=(bytesAV l).set i (.int .u8 (b.toBitVec.toNat:Int)):=bytesAV_set' l i b.toBitVec
theorem outS_0 (h:List UInt8):bytesAV (outS h 0)=out16l:=rfl
theorem short_ok {n:Nat}(hn:3<=n)(nb:Bool)(m:List UInt8)(hm:m.length<2^34):call gl tab (n+1) 135 [.lst nb .sc (bytesAV m)] []=some (.agg (bytesAV (dig m)),[],[]):=by
 have h30:=rsum_at (gl:=gl) hn nb m hm
 have hl:=hashL_len m
 have hd:dig m=outS (hashL m) 16:=by unfold dig outS;simp
 have ho2:AV.agg (List.replicate 32 (.int .u8 0))=out32:=rfl
 have hdl:=dig_len m
 rw[call_go (fd:=fd135) rfl]
 rw[hd]at hdl ⊢
 generalize hashL m=h at *
 simp(disch:=((fail_if_success (intro _));omega)) only[go_sem,simprocAttr,↓reduceIte,↓Nat.reduceEqDiff,xx,fd135,m135,h30,↓out16_def,out16_len,out16_all,out16_pl,↓ho2,bytesAV_length,hl,bytes_all,out32_refs]
 rw[iter_to (S49 h) 16 (by unfold LF;omega)]
 . simp(disch:=((fail_if_success (intro _));omega)) only[go_sem,simprocAttr,↓reduceIte,↓Nat.reduceEqDiff,xx,S49,bytesAV_length,bytes_all,hdl]
 . simp(disch:=((fail_if_success (intro _));omega)) only[go_sem,simprocAttr,↓reduceIte,↓Nat.reduceEqDiff,xx,S49,outS_0]
 . intro i hi
   have hol:=outS_len h i hl (by omega)
   have g1:=bytesAV_getD (l:=h) (i:=i) (by omega)
   have g2:=bytesAV_getD (l:=outS h i) (i:=i) (by omega)
   unfold S49
   rw[outS_succ h i hl hi,bytesAV_setU]
   simp(disch:=((fail_if_success (intro _));omega)) only[go_sem,simprocAttr,↓reduceIte,↓Nat.reduceEqDiff,xx,g1,g2,bytesAV_length,hl,hol]
 . simp(disch:=((fail_if_success (intro _));omega)) only[go_sem,simprocAttr,↓reduceIte,↓Nat.reduceEqDiff,xx,S49]
theorem rof_at {n:Nat}(hn:3<=n)(t:Int)(nb:Bool)(l:List (List UInt8))(h:Sml l):call gl tab (n+2) 88 [.int .i64 t,.lst nb .sc (strsAV l)] []=some (.agg (bytesAV (dig (inp t l))),[],[]):=by
 obtain⟨d,rfl⟩:=Nat.exists_eq_add_of_le' (show 2<=n by omega)
 have hi:=input_ok (gl:=gl) d t nb l h
 have h1:=inp_len (t:=t) h
 have hs:=short_ok (gl:=gl) (n:=d+2) (by omega) false (inp t l) (by omega)
 have hdl:=dig_len (inp t l)
 rw[call_go (fd:=fd88) rfl]
 generalize dig (inp t l)=D at *
 generalize inp t l=m at *
 simp(disch:=((fail_if_success (intro _));omega)) only[go_sem,simprocAttr,↓reduceIte,↓Nat.reduceEqDiff,xx,fd88,m88,hi,hs,↓out16_def,out16_len,out16_all,out16_pl,bytesAV_length,hdl,bytes_all,noImms_bytesAV]
end Go.Proofs.S44.H
namespace Go.Proofs.S44.H
open Go Go.Ev Go.Proofs Go.Proofs.S44
variable {gl :Gl} [Nonempty (GlK gl)]
def z64l :List AV:=List.replicate 64 (.int .u8 0)
theorem z64_def :List.replicate 64 (AV.int .u8 0)=z64l:=rfl
def z32l :List AV:=List.replicate 32 (.int .u8 0)
theorem z32_def :List.replicate 32 (AV.int .u8 0)=z32l:=rfl
def S34 (nb:Bool)(l:List (List UInt8))(s:Sm)(i:Nat):St :=
 ⟨[.set 17 (.int .i64 i),.set 16 (.int .i64 l.length),.set 15 (.lst nb .sc (strsAV l)),.set 5 (.ptr 5 []),.set 4 (.ptr 4 [])],
  [(5,.fix (.st [.ar 8 .sc,.ar 64 .sc,.sc]) s.av),(4,.fix (.ar 16 .sc) (.agg out16l))]⟩
def L34 :MC:=match m87 with
 | .seq _ (.seq _ (.seq (.seq _ (.block _ (.loop _ b))) _))=>b
 | _=>.skip
def K34 :List Kp:=[.slot 4,.slot 5,.slot 15,.slot 16,.slot 17,.key 4,.key 5]
theorem loop34 (F:Ev.Cl)(nb:Bool)(t:Int)(l:List (List UInt8))(h:Sml l)(s1:Sm)(hr1:Reps s1 [ub (BitVec.ofInt 8 t)])
  (c48:∀s:List UInt8,s.length<2^35->F 131 [.str s] []=some (.sl 20000 [] 0 (encB s).length,[],[.grow .sc (bytesAV (encB s))]))
  (c32:∀(s:Sm) (m x:List UInt8),Reps s m->m.length+x.length<2^60->∃s',Reps s' (m++x)/\F 133 [s.av,.str x] []=some (s'.av,[],[])) :
  ∃s,Reps s (inp t l)/\∀st,clean K34 st=some (S34 nb l s1 0)->iter (evC gl F L34) K34 LF st=evC gl F L34 (S34 nb l s l.length):=by
 have h1:=h.1
 have hstep:∀i st,i<l.length->(∃s,Reps s (inp t (l.take i))/\st=S34 nb l s i)->∃st',contK K34 (evC gl F L34 st)=some st'/\∃s,Reps s (inp t (l.take (i+1)))/\st'=S34 nb l s (i+1):=by
  rintro i _ hi ⟨s,hs,rfl⟩
  have h2:=sml_get h hi
  have h3:=inp_len (t:=t) (sml_take h i)
  have h4:=encB_len l[i]
  have c1:=c48 l[i] (by omega)
  obtain⟨s2,hr2,c2⟩:=c32 s _ (encB l[i]) hs (by omega)
  rw[<-inp_snoc t l i hi]at hr2
  refine⟨_,?_,s2,hr2,rfl⟩
  have hgi:=strsAV_get hi
  have hbl:=hs.2.1
  have hbl2:=hr2.2.1
  simp only[Sm.av,H8.av]at c2
  generalize encB l[i]=q at *
  simp(disch:=((fail_if_success (intro _));omega)) only[go_sem,simprocAttr,↓reduceIte,↓Nat.reduceEqDiff,xx,L34,m87,K34,S34,Sm.av,H8.av,hgi,strsAV_length,c1,c2,bytesAV_length,bytes_all,hbl,hbl2,out16_len]
 have hend:∀st,(∃s,Reps s (inp t (l.take l.length))/\st=S34 nb l s l.length)->isEx (evC gl F L34 st)=true:=by
  rintro _ ⟨s,hs,rfl⟩
  simp(disch:=((fail_if_success (intro _));omega)) only[go_sem,simprocAttr,↓reduceIte,↓Nat.reduceEqDiff,xx,L34,m87,S34]
 obtain⟨s',⟨s,hs,rfl⟩,e⟩:=iter_inv (f:=evC gl F L34) (ks:=K34) (fun i st=>∃s,Reps s (inp t (l.take i))/\st=S34 nb l s i) l.length (by unfold LF;omega) ⟨s1,hr1,rfl⟩ hstep hend
 rw[List.take_length]at hs
 exact⟨s,hs,e⟩
theorem of_at {n:Nat}(hn:5<=n)(t:Int)(nb:Bool)(l:List (List UInt8))(h:Sml l):call gl tab (n+1) 87 [.int .i64 t,.lst nb .sc (strsAV l)] []=some (.agg (bytesAV (dig (inp t l))),[],[]):=by
 have h1:=h.1
 have hb:=@sbegin_at gl _ n (by omega)
 have hil:=inp_len (t:=t) h
 obtain⟨s1,hr1,ha1⟩:=sadd_at (gl:=gl) (n:=n) (by omega) s0 [] [ub (BitVec.ofInt 8 t)] reps0 (by simp)
 rw[List.nil_append]at hr1
 have hbl1:=hr1.2.1
 obtain⟨s,hs,e⟩:=loop34 (gl:=gl) (call gl tab n) nb t l h s1 hr1 (fun s hs=>by
  obtain⟨d,rfl⟩:=Nat.exists_eq_add_of_le' (show 2<=n by omega)
  exact bytes48_ok d s hs) (fun s m x hs hm=>sadd_at (by omega) s m x hs hm)
 simp only[L34,m87,K34]at e
 rw[call_go (fd:=fd87) rfl]
 have hub:UInt8.ofNat ((((BitVec.ofInt 8 t).toNat:Nat):Int)).toNat=ub (BitVec.ofInt 8 t):=by
  rw[Int.toNat_natCast];apply UInt8.toBitVec_inj.1
  show BitVec.ofNat 8 _=_
  rw[BitVec.ofNat_toNat,BitVec.setWidth_eq];rfl
 have hub2:UInt8.ofNat (BitVec.ofInt 8 t).toNat=ub (BitVec.ofInt 8 t):=by rw[Int.toNat_natCast]at hub;exact hub
 simp only[Sm.av,H8.av]at hb ha1
 have hb0:s0.blk.length=64:=by simp[s0]
 simp(disch:=((fail_if_success (intro _));omega)) only[go_sem,simprocAttr,↓reduceIte,↓Nat.reduceEqDiff,xx,fd87,m87,↓z64_def,↓z32_def,↓out16_def,hb,ha1,bytesOf,Ev.byteOf,hub,hub2,noImms_bytesAV,bytesAV_length,bytes_all,hbl1,hb0]
 rw[e _ (by simp(disch:=((fail_if_success (intro _));omega)) only[go_sem,simprocAttr,↓reduceIte,↓Nat.reduceEqDiff,xx,S34,Sm.av,H8.av,bytesAV_length,strsAV_length])]
 have hsum:=ssum_at (gl:=gl) hn s _ hs (by omega)
 have hl:=hashL_len (inp t l)
 have hdl:=dig_len (inp t l)
 have hdd:List.take 16 (bytesAV (hashL (inp t l)))=bytesAV (dig (inp t l)):=by rw[bytesAV_tk];rfl
 have hbl:=hs.2.1
 simp only[Sm.av,H8.av]at hsum
 simp(disch:=((fail_if_success (intro _));omega)) only[go_sem,simprocAttr,↓reduceIte,↓Nat.reduceEqDiff,xx,S34,Sm.av,H8.av,bytesAV_length,bytes_all,hbl,hsum,noImms_bytesAV,hl,hdl,hdd,out16_len]
end Go.Proofs.S44.H
