/-
  Digests: the program's and the specification's. No condition.
-/
import Derived.Test.YtcddalfeicoedaaGreatDoorW44G5x7
import Derived.Test.YtcddalfeicoedaaGreatDoorW44G2x7
set_option linter.unusedVariables false
set_option linter.unusedSimpArgs false
set_option linter.unusedSectionVars false
namespace Go.Proofs.S44.H
open Go Go.Ev Go.Proofs Go.Proofs.S44
variable {gl :Gl} [Nonempty (GlR gl)]
def Sml (l:List (List UInt8)):Prop:=l.length<=1000/\∀x∈l,x.length<=1048576
theorem sml_get {l:List (List UInt8)}(h:Sml l){i:Nat}(hi:i<l.length):l[i].length<=1048576:=h.2 _ (List.getElem_mem hi)
theorem sml_take {l:List (List UInt8)}(h:Sml l)(k:Nat):Sml (l.take k) :=
 ⟨by rw[List.length_take];have:=h.1;omega,fun x hx=>h.2 x (List.mem_of_mem_take hx)⟩
def encL (l:List (List UInt8)):List UInt8:=(l.map encB).flatten
def inp (t:Int)(l:List (List UInt8)):List UInt8:=ub (BitVec.ofInt 8 t)::encL l
theorem encL_len {l:List (List UInt8)}(h:Sml l):(encL l).length<=1048586000:=by
 have key:∀l:List (List UInt8),(∀x∈l,x.length<=1048576)->(encL l).length<=1048586*l.length:=by
  intro l
  induction l with
  | nil=>intro _;simp[encL]
  | cons x l ih =>
    intro h
    have h1:=h x (by simp)
    have h2:=ih fun y hy=>h y (by simp[hy])
    have h3:=za1 x
    simp only[encL,List.map_cons,List.flatten_cons,List.length_append,List.length_cons]at *
    omega
 have h1:=key l h.2;have h2:=h.1;omega
theorem encL_snoc (l:List (List UInt8))(i:Nat)(h:i<l.length):encL (l.take (i+1))=encL (l.take i)++encB l[i]:=by
 unfold encL;rw[List.take_succ_eq_append_getElem h,List.map_append,List.flatten_append];simp
theorem inp_snoc (t:Int)(l:List (List UInt8))(i:Nat)(h:i<l.length):inp t (l.take (i+1))=inp t (l.take i)++encB l[i]:=by
 rw[inp,inp,encL_snoc l i h];rfl
theorem inp_len {t:Int}{l:List (List UInt8)}(h:Sml l):(inp t l).length<=1048586001:=by
 have:=encL_len h;simp only[inp,List.length_cons];omega
def S36 (nb:Bool)(t:Int)(l:List (List UInt8))(i:Nat):St :=
 ⟨[.set 6 (.int .i64 i),.set 5 (.sl 5005 [] 0 (inp t (l.take i)).length),.set 1 (.lst nb .sc (strsAV l))],[(5005,.grow .sc (zac (inp t (l.take i))))]⟩
theorem input_ok (d:Nat)(t:Int)(nb:Bool)(l:List (List UInt8))(h:Sml l):call gl tab (d+3) 136 [.int .i64 t,.lst nb .sc (strsAV l)] []=some (.sl 20000 [] 0 (inp t l).length,[],[.grow .sc (zac (inp t l))]):=by
 have h1:=h.1
 rw[zad (fd:=fd136) rfl]
 simp(disch:=(fail_if_success intro _);omega) only[go_sem,simprocAttr,↓Nat.reduceEqDiff,xx,fd136,m136]
 rw[zal (S36 nb t l) l.length (by unfold LF;omega)]
 . simp(disch:=(fail_if_success intro _);omega) only[go_sem,simprocAttr,↓Nat.reduceEqDiff,xx,S36,zab,List.take_length,zaa]
 . simp(disch:=(fail_if_success intro _);omega) only[go_sem,simprocAttr,↓Nat.reduceEqDiff,xx,S36];rfl
 . intro i hi
   have h2:=sml_get h hi
   have h3:=inp_len (t:=t) (sml_take h i)
   have h4:=za1 l[i]
   have hb:=bytes50_ok (gl:=gl) d l[i] (by omega)
   have hL:(inp t (l.take i)).length+(encB l[i]).length<=LIM:=by unfold LIM;omega
   unfold S36
   rw[inp_snoc t l i hi,zaf,List.length_append]
   generalize inp t (l.take i)=p at *
   have hgi:=zan hi
   generalize encB l[i]=q at *
   simp(disch:=(fail_if_success intro _);omega) only[go_sem,simprocAttr,↓Nat.reduceEqDiff,xx,hgi,zab,hb,zaa,hL]
 . simp(disch:=(fail_if_success intro _);omega) only[go_sem,simprocAttr,↓Nat.reduceEqDiff,xx,S36,zab]
def dig (m:List UInt8):List UInt8:=(zjo m).take 16
theorem dig_len (m:List UInt8):(dig m).length=16:=by rw[dig,List.length_take,ziy];rfl
def outS (h:List UInt8)(i:Nat):List UInt8:=h.take i++List.replicate (16-i) 0
theorem outS_succ (h:List UInt8)(i:Nat)(hl:h.length=32)(hi:i<16):outS h (i+1)=(outS h i).set i (h.getD i 0):=by
 have e:16-i=(16-(i+1))+1:=by omega
 have hi':i<h.length:=by omega
 unfold outS
 rw[e,List.replicate_succ,List.take_succ_eq_append_getElem hi',List.getD_eq_getElem?_getD,List.getElem?_eq_getElem hi']
 rw[List.set_append,if_neg (by rw[List.length_take];omega),List.length_take,show i-min i h.length=0 by omega]
 rw[List.append_assoc];rfl
theorem outS_len (h:List UInt8)(i:Nat)(hl:h.length=32)(hi:i<=16):(outS h i).length=16:=by
 unfold outS;rw[List.length_append,List.length_take,List.length_replicate];omega
def out16l :List AV:=List.replicate 16 (.int .u8 0)
theorem out16_def :List.replicate 16 (AV.int .u8 0)=out16l:=rfl
theorem zgo :out16l.length=16:=rfl
theorem out16_all :out16l.all AV.scalar=true:=by kernel_rfl
theorem out16_pl :AV.plains out16l=true:=by kernel_rfl
theorem oo :out16l.length=16/\out16l.all AV.scalar=true/\AV.plains out16l=true:=⟨zgo,out16_all,out16_pl⟩
def S49 (h:List UInt8)(i:Nat):St :=
 ⟨[.set 5 (.int .i64 i),.set 4 (.ptr 4 []),.set 3 (.ptr 3 []),.set 2 (.ptr 2 [])],[(4,.fix (.ar 16 .sc) (.agg (zac (outS h i)))),(3,.fix (.ar 32 .sc) (.agg (zac h))),(2,.fix (.ar 16 .sc) (.agg out16l))]⟩
theorem bytesAV_setU (l:List UInt8)(i:Nat)(b:UInt8):zac (l.set i b)=(zac l).set i (.int .u8 (b.toBitVec.toNat:Int)):=zg6 l i b.toBitVec
theorem outS_0 (h:List UInt8):zac (outS h 0)=out16l:=rfl
theorem short_ok {n:Nat}(hn:3<=n)(nb:Bool)(m:List UInt8)(hm:m.length<2^34):call gl tab (n+1) 135 [.lst nb .sc (zac m)] []=some (.agg (zac (dig m)),[],[]):=by
 have h30:=rsum_at (gl:=gl) hn nb m hm
 have hl:=ziy m
 have hd:dig m=outS (zjo m) 16:=by unfold dig outS;simp
 have ho2:AV.agg (List.replicate 32 (.int .u8 0))=out32:=rfl
 have hdl:=dig_len m
 rw[zad (fd:=fd135) rfl]
 rw[hd]at hdl ⊢
 generalize zjo m=h at *
 simp(disch:=(fail_if_success intro _);omega) only[go_sem,simprocAttr,↓Nat.reduceEqDiff,xx,fd135,m135,h30,↓out16_def,zgo,out16_all,out16_pl,↓ho2,zaa,hl,bytes_all,za2]
 rw[zal (S49 h) 16 (by unfold LF;omega)]
 . simp(disch:=(fail_if_success intro _);omega) only[go_sem,simprocAttr,↓Nat.reduceEqDiff,xx,S49,zaa,bytes_all,hdl]
 . simp(disch:=(fail_if_success intro _);omega) only[go_sem,simprocAttr,↓Nat.reduceEqDiff,xx,S49,outS_0]
 . intro i hi
   have hol:=outS_len h i hl (by omega)
   have g1:=zd3 (l:=h) (i:=i) (by omega)
   have g2:=zd3 (l:=outS h i) (i:=i) (by omega)
   unfold S49
   rw[outS_succ h i hl hi,bytesAV_setU]
   simp(disch:=(fail_if_success intro _);omega) only[go_sem,simprocAttr,↓Nat.reduceEqDiff,xx,g1,g2,zaa,hl,hol]
 . simp(disch:=(fail_if_success intro _);omega) only[go_sem,simprocAttr,↓Nat.reduceEqDiff,xx,S49]
theorem rof_at {n:Nat}(hn:3<=n)(t:Int)(nb:Bool)(l:List (List UInt8))(h:Sml l):call gl tab (n+2) 88 [.int .i64 t,.lst nb .sc (strsAV l)] []=some (.agg (zac (dig (inp t l))),[],[]):=by
 obtain⟨d,rfl⟩:=Nat.exists_eq_add_of_le' (show 2<=n by omega)
 have hi:=input_ok (gl:=gl) d t nb l h
 have h1:=inp_len (t:=t) h
 have hs:=short_ok (gl:=gl) (n:=d+2) (by omega) false (inp t l) (by omega)
 have hdl:=dig_len (inp t l)
 rw[zad (fd:=fd88) rfl]
 generalize dig (inp t l)=D at *
 generalize inp t l=m at *
 simp(disch:=(fail_if_success intro _);omega) only[go_sem,simprocAttr,↓Nat.reduceEqDiff,xx,fd88,m88,hi,hs,↓out16_def,zgo,out16_all,out16_pl,zaa,hdl,bytes_all,noImms_bytesAV]
end Go.Proofs.S44.H
namespace Go.Proofs.S44.H
open Go Go.Ev Go.Proofs Go.Proofs.S44
variable {gl :Gl} [Nonempty (GlK gl)]
def z64l :List AV:=List.replicate 64 (.int .u8 0)
theorem z64_def :List.replicate 64 (AV.int .u8 0)=z64l:=rfl
def z32l :List AV:=List.replicate 32 (.int .u8 0)
theorem z32_def :List.replicate 32 (AV.int .u8 0)=z32l:=rfl
def S34 (nb:Bool)(l:List (List UInt8))(s:Sm)(i:Nat):St :=
 ⟨[.set 17 (.int .i64 i),.set 16 (.int .i64 l.length),.set 15 (.lst nb .sc (strsAV l)),.set 5 (.ptr 5 []),.set 4 (.ptr 4 [])],
  [(5,.fix (.st [.ar 8 .sc,.ar 64 .sc,.sc]) s.av),(4,.fix (.ar 16 .sc) (.agg out16l))]⟩
def L34 :MC:=match m87 with
 | .seq _ (.seq _ (.seq (.seq _ (.block _ (.loop _ b))) _))=>b
 | _=>.skip
def K34 :List Kp:=[.slot 4,.slot 5,.slot 15,.slot 16,.slot 17,.key 4,.key 5]
theorem loop34 (F:Ev.Cl)(nb:Bool)(t:Int)(l:List (List UInt8))(h:Sml l)(s1:Sm)(hr1:Reps s1 [ub (BitVec.ofInt 8 t)])
  (c48:∀s:List UInt8,s.length<2^35->F 131 [.str s] []=some (.sl 20000 [] 0 (encB s).length,[],[.grow .sc (zac (encB s))]))
  (c32:∀(s:Sm) (m x:List UInt8),Reps s m->m.length+x.length<2^60->∃s',Reps s' (m++x)/\F 133 [s.av,.str x] []=some (s'.av,[],[])) :
  ∃s,Reps s (inp t l)/\∀st,zc6 K34 st=some (S34 nb l s1 0)->iter (evC gl F L34) K34 LF st=evC gl F L34 (S34 nb l s l.length):=by
 have h1:=h.1
 have hstep:∀i st,i<l.length->(∃s,Reps s (inp t (l.take i))/\st=S34 nb l s i)->∃st',zbm K34 (evC gl F L34 st)=some st'/\∃s,Reps s (inp t (l.take (i+1)))/\st'=S34 nb l s (i+1):=by
  rintro i _ hi ⟨s,hs,rfl⟩
  have h2:=sml_get h hi
  have h3:=inp_len (t:=t) (sml_take h i)
  have h4:=za1 l[i]
  have c1:=c48 l[i] (by omega)
  obtain⟨s2,hr2,c2⟩:=c32 s _ (encB l[i]) hs (by omega)
  rw[<-inp_snoc t l i hi]at hr2
  refine⟨_,?_,s2,hr2,rfl⟩
  have hgi:=zan hi
  have hbl:=hs.2.1
  have hbl2:=hr2.2.1
  simp only[Sm.av,H8.av]at c2
  generalize encB l[i]=q at *
  simp(disch:=(fail_if_success intro _);omega) only[go_sem,simprocAttr,↓Nat.reduceEqDiff,xx,L34,m87,K34,S34,Sm.av,H8.av,hgi,zab,c1,c2,zaa,bytes_all,hbl,hbl2,zgo]
 have hend:∀st,(∃s,Reps s (inp t (l.take l.length))/\st=S34 nb l s l.length)->isEx (evC gl F L34 st)=true:=by
  rintro _ ⟨s,hs,rfl⟩
  simp(disch:=(fail_if_success intro _);omega) only[go_sem,simprocAttr,↓Nat.reduceEqDiff,xx,L34,m87,S34]
 obtain⟨s',⟨s,hs,rfl⟩,e⟩:=iter_inv (f:=evC gl F L34) (ks:=K34) (fun i st=>∃s,Reps s (inp t (l.take i))/\st=S34 nb l s i) l.length (by unfold LF;omega) ⟨s1,hr1,rfl⟩ hstep hend
 rw[List.take_length]at hs
 exact⟨s,hs,e⟩
theorem of_at {n:Nat}(hn:5<=n)(t:Int)(nb:Bool)(l:List (List UInt8))(h:Sml l):call gl tab (n+1) 87 [.int .i64 t,.lst nb .sc (strsAV l)] []=some (.agg (zac (dig (inp t l))),[],[]):=by
 have h1:=h.1
 have hb:=@sbegin_at gl _ n (by omega)
 have hil:=inp_len (t:=t) h
 obtain⟨s1,hr1,ha1⟩:=sadd_at (gl:=gl) (n:=n) (by omega) s0 [] [ub (BitVec.ofInt 8 t)] reps0 (by simp)
 rw[List.nil_append]at hr1
 have hbl1:=hr1.2.1
 obtain⟨s,hs,e⟩:=loop34 (gl:=gl) (call gl tab n) nb t l h s1 hr1 (fun s hs=>by
  obtain⟨d,rfl⟩:=Nat.exists_eq_add_of_le' (show 2<=n by omega)
  exact bytes48_ok d s hs) (fun s m x hs hm=>sadd_at (by omega) s m x hs hm)
 simp only[L34,m87,K34]at e
 rw[zad (fd:=fd87) rfl]
 have hub:UInt8.ofNat ((((BitVec.ofInt 8 t).toNat:Nat):Int)).toNat=ub (BitVec.ofInt 8 t):=by
  rw[Int.toNat_natCast];apply UInt8.toBitVec_inj.1
  show BitVec.ofNat 8 _=_
  rw[BitVec.ofNat_toNat,BitVec.setWidth_eq];rfl
 have hub2:UInt8.ofNat (BitVec.ofInt 8 t).toNat=ub (BitVec.ofInt 8 t):=by rw[Int.toNat_natCast]at hub;exact hub
 simp only[Sm.av,H8.av]at hb ha1
 have hb0:s0.blk.length=64:=by simp[s0]
 simp(disch:=(fail_if_success intro _);omega) only[go_sem,simprocAttr,↓Nat.reduceEqDiff,xx,fd87,m87,↓z64_def,↓z32_def,↓out16_def,hb,ha1,zg5,Ev.byteOf,hub,hub2,noImms_bytesAV,zaa,bytes_all,hbl1,hb0]
 rw[e _ (by simp(disch:=(fail_if_success intro _);omega) only[go_sem,simprocAttr,↓Nat.reduceEqDiff,xx,S34,Sm.av,H8.av,zaa,zab])]
 have hsum:=ssum_at (gl:=gl) hn s _ hs (by omega)
 have hl:=ziy (inp t l)
 have hdl:=dig_len (inp t l)
 have hdd:List.take 16 (zac (zjo (inp t l)))=zac (dig (inp t l)):=by rw[zhv];rfl
 have hbl:=hs.2.1
 simp only[Sm.av,H8.av]at hsum
 simp(disch:=(fail_if_success intro _);omega) only[go_sem,simprocAttr,↓Nat.reduceEqDiff,xx,S34,Sm.av,H8.av,zaa,bytes_all,hbl,hsum,noImms_bytesAV,hl,hdl,hdd,zgo]
end Go.Proofs.S44.H
namespace Go.Proofs.S44
open Go Go.Ev Go.Proofs
open Go.Proofs.S44.H (strsAV zab zan)
variable {gl :Gl} {n:Nat}
def apL (s:List UInt8)(l:List (List UInt8)):Nat->List (List UInt8)
 | 0=>[]
 | 1=>[s]
 | 2=>s::l
 | _=>s::(l++[s])
abbrev allP (s:List UInt8)(l:List (List UInt8)):List (List UInt8):=s::(l++[s])
theorem apL_0 (s:List UInt8)(l:List (List UInt8)):apL s l 0=[]:=rfl
theorem apL_1 (s:List UInt8)(l:List (List UInt8)):apL s l 1=[s]:=rfl
theorem apL_2 (s:List UInt8)(l:List (List UInt8)):apL s l 2=s::l:=rfl
theorem apL_3 (s:List UInt8)(l:List (List UInt8)):apL s l 3=allP s l:=rfl
def filL (N:Nat)(l:List (List UInt8)):List AV:=strsAV l++List.replicate (N-l.length) (.str [])
theorem zes (a b:List (List UInt8)):strsAV (a++b)=strsAV a++strsAV b:=by simp[strsAV]
theorem zk1 {N:Nat}{l:List (List UInt8)}(h:l.length<=N):(filL N l).length=N:=by simp[filL,zab];omega
theorem filL_app {N:Nat}{a b:List (List UInt8)}(h:a.length+b.length<=N):(filL N a).take a.length++(strsAV b++(filL N a).drop (a.length+b.length))=filL N (a++b):=by
 unfold filL
 rw[List.take_left' (zab a),zes,List.append_assoc]
 congr 2
 rw[<-zab a,List.drop_append,List.drop_eq_nil_of_le (by omega),List.nil_append,Nat.add_sub_cancel_left,List.drop_replicate,List.length_append,zab]
 congr 1;omega
theorem filL_all (l:List (List UInt8)):filL l.length l=strsAV l:=by simp[filL]
theorem filL_0 (N:Nat):filL N []=List.replicate N (.str []):=by simp[filL,strsAV]
theorem grow_at (h:1<=n){N:Nat}(h0:1<=N)(hN:N<=100000):call gl tab n 174 [.lst true .sc [],i64 N] []=some (.sl 20000 [] 0 0,[],[.grow .sc (filL N [])]):=by
 obtain⟨d,rfl⟩:=Nat.exists_eq_add_of_le' h
 have hl:N<=LIM:=by unfold LIM;omega
 rw[filL_0]
 rw[zax (fd:=fd174) rfl]
 simp(disch:=(fail_if_success intro _);omega) only[go_sem,simprocAttr,↓Nat.reduceEqDiff,xx,fd174,m174,hl,List.nil_append,Nat.sub_zero]
def szP (l:List (List UInt8)):Nat->Int
 | 0=>0
 | 1=>1
 | 2=>1+l.length
 | _=>1+l.length+1
theorem szP_0 (l:List (List UInt8)):szP l 0=0:=rfl
theorem szP_1 (l:List (List UInt8)):szP l 1=1:=rfl
theorem szP_2 (l:List (List UInt8)):szP l 2=1+l.length:=rfl
theorem szP_3 (l:List (List UInt8)):szP l 3=1+l.length+1:=rfl
def L65 :MC:=match m167 with| .seq _ (.seq _ (.seq (.seq _ (.block _ (.loop _ b))) _))=>b|_=>.skip
def L65b :MC:=match m167 with| .seq _ (.seq _ (.seq _ (.seq _ (.seq (.seq _ (.block _ (.loop _ b))) _))))=>b|_=>.skip
def hp65 (f:Bool)(s:List UInt8)(l:List (List UInt8)):Hp:=[(100002,.grow .sc [.str s]),(100001,.grow .sc [.str s]),(100000,.fix (.ar 3 .sc) (.aggR [.sl 100001 [] 0 1,.lst f .sc (strsAV l),.sl 100002 [] 0 1]))]
def S65 (f:Bool)(s:List UInt8)(l:List (List UInt8))(i:Nat):St :=
 ⟨[.set 11 (i64 i),.set 10 (i64 3),.set 9 (.sl 100000 [] 0 3),.set 3 (i64 (szP l i)),.set 0 (.sl 100000 [] 0 3)],hp65 f s l⟩
def S65b (f:Bool)(s:List UInt8)(l:List (List UInt8))(i:Nat):St :=
 ⟨[.set 27 (i64 i),.set 26 (i64 3),.set 25 (.sl 100000 [] 0 3),.set 6 (.sl 24 [] 0 (apL s l i).length)],hp65 f s l++[(24,.grow .sc (filL (l.length+2) (apL s l i)))]⟩
set_option maxHeartbeats 1000000 in
theorem concat_at (h:2<=n)(f:Bool)(s:List UInt8)(l:List (List UInt8))(hl:l.length<=1000) :
  call gl tab n 167 [.sl 100000 [] 0 3] [(100000,.fix (.ar 3 .sc) (.aggR [.sl 100001 [] 0 1,.lst f .sc (strsAV l),.sl 100002 [] 0 1])),(100001,.grow .sc [.str s]),(100002,.grow .sc [.str s])] =
   some (.sl 20000 [] 0 (l.length+2),[(100000,.fix (.ar 3 .sc) (.aggR [.sl 100001 [] 0 1,.lst f .sc (strsAV l),.sl 100002 [] 0 1])),(100001,.grow .sc [.str s]),(100002,.grow .sc [.str s])],[.grow .sc (strsAV (allP s l))]):=by
 obtain⟨d,rfl⟩:=Nat.exists_eq_add_of_le' h
 have hs:∀i,i<3->zbm [.slot 0,.slot 3,.slot 9,.slot 10,.slot 11] (evC gl (call gl tab (d+1)) L65 (S65 f s l i))=some (S65 f s l (i+1)):=fun i hi=>by
  match i,hi with
  | 0,_=>simp(disch:=(fail_if_success intro _);omega) only[go_sem,simprocAttr,↓Nat.reduceEqDiff,xx,L65,m167,S65,hp65,szP_0,szP_1]
  | 1,_=>simp(disch:=(fail_if_success intro _);omega) only[go_sem,simprocAttr,↓Nat.reduceEqDiff,xx,L65,m167,S65,hp65,szP_1,szP_2,zab]
  | 2,_=>simp(disch:=(fail_if_success intro _);omega) only[go_sem,simprocAttr,↓Nat.reduceEqDiff,xx,L65,m167,S65,hp65,szP_2,szP_3]
 have hs2:∀i,i<3->zbm [.slot 6,.slot 25,.slot 26,.slot 27,.key 24] (evC gl (call gl tab (d+1)) L65b (S65b f s l i))=some (S65b f s l (i+1)):=fun i hi=>by
  match i,hi with
  | 0,_ =>
    have e:=@filL_app (l.length+2) [] [s] (by simp)
    have e2:=@zk1 (l.length+2) [] (by simp)
    simp only[List.length_nil,List.length_cons,List.nil_append,Nat.zero_add,List.take_zero]at e
    rw[S65b,S65b,apL_0,apL_1,<-e]
    generalize filL (l.length+2) []=z at *
    simp(disch:=(fail_if_success intro _);omega) only[go_sem,simprocAttr,↓Nat.reduceEqDiff,xx,L65b,m167,hp65,false_and,decide_false,e2,List.cons_append,List.nil_append,strsAV,List.map_cons,List.map_nil,List.length_cons,List.length_nil]
  | 1,_ =>
    have e:=@filL_app (l.length+2) [s] l (by simp;omega)
    have e2:=@zk1 (l.length+2) [s] (by simp)
    simp only[List.length_nil,List.length_cons,List.nil_append,Nat.zero_add,List.singleton_append]at e
    rw[S65b,S65b,apL_1,apL_2,<-e]
    generalize filL (l.length+2) [s]=z at *
    have c7:1+l.length=l.length+1:=by omega
    simp(disch:=(fail_if_success intro _);omega) only[go_sem,simprocAttr,↓Nat.reduceEqDiff,xx,c7,L65b,m167,hp65,false_and,decide_false,e2,List.cons_append,List.nil_append,zab,List.length_cons,List.length_nil,List.append_assoc]
  | 2,_ =>
    have e:=@filL_app (l.length+2) (s::l) [s] (by simp)
    have e2:=@zk1 (l.length+2) (s::l) (by simp)
    simp only[List.length_nil,List.length_cons,List.nil_append,Nat.zero_add,List.cons_append]at e
    rw[S65b,S65b,apL_2,apL_3,<-e]
    generalize filL (l.length+2) (s::l)=z at *
    simp(disch:=(fail_if_success intro _);omega) only[go_sem,simprocAttr,↓Nat.reduceEqDiff,xx,L65b,m167,hp65,false_and,decide_false,e2,List.cons_append,List.nil_append,strsAV,List.map_cons,List.map_nil,List.length_cons,List.length_nil,List.append_assoc,List.length_append]
 simp only[L65,m167]at hs
 simp only[L65b,m167]at hs2
 have c89:=@grow_at gl (d+1) (by omega) (l.length+2) (by omega) (by omega)
 rw[show((l.length+2:Nat):Int)=(l.length:Int)+2 by omega]at c89
 have c8:(1:Int)+l.length+1=(l.length:Int)+2:=by omega
 have e:=filL_all (allP s l)
 have e2:(allP s l).length=l.length+2:=by simp
 rw[e2]at e
 have e3:=zk1 (N:=l.length+2) (l:=allP s l) (by simp)
 rw[<-e]
 rw[zax (fd:=fd167) rfl]
 simp(disch:=(fail_if_success intro _);omega) only[go_sem,simprocAttr,↓Nat.reduceEqDiff,xx,fd167,m167]
 rw[zal (S65 f s l) 3 (by unfold LF;omega)]
 . rw[S65,szP_3,c8]
   simp(disch:=(fail_if_success intro _);omega) only[go_sem,simprocAttr,↓Nat.reduceEqDiff,xx,hp65,c89]
   rw[zal (S65b f s l) 3 (by unfold LF;omega)]
   . rw[S65b,apL_3]
     generalize filL (l.length+2) (allP s l)=z at *
     simp(disch:=(fail_if_success intro _);omega) only[go_sem,simprocAttr,↓Nat.reduceEqDiff,xx,hp65,List.cons_append,List.nil_append,e2,e3]
   . rw[S65b,apL_0]
     generalize filL (l.length+2) []=z at *
     simp(disch:=(fail_if_success intro _);omega) only[go_sem,simprocAttr,↓Nat.reduceEqDiff,xx,hp65,List.cons_append,List.nil_append,List.length_nil]
   . exact hs2
   . rw[S65b,apL_3]
     generalize filL (l.length+2) (allP s l)=z at *
     simp(disch:=(fail_if_success intro _);omega) only[go_sem,simprocAttr,↓Nat.reduceEqDiff,xx,hp65,List.cons_append,List.nil_append,e2,e3]
 . simp(disch:=(fail_if_success intro _);omega) only[go_sem,simprocAttr,↓Nat.reduceEqDiff,xx,S65,hp65,szP_0]
 . exact hs
 . simp(disch:=(fail_if_success intro _);omega) only[go_sem,simprocAttr,↓Nat.reduceEqDiff,xx,S65,hp65,szP_3]
end Go.Proofs.S44
namespace Go.Proofs.S44
open Go Go.Ev Go.Proofs
open Go.Proofs.S44.H (strsAV zab zan Sml GlK GlR)
variable {gl :Gl} {n:Nat}
def Pts (l:List (List UInt8)):Prop:=l.length<=100/\∀x∈l,x.length<=1048576
theorem Pts.all {s:List UInt8}{l:List (List UInt8)}(h:Pts l)(hs:s.length<=1048576):Sml (allP s l):=by
 refine⟨by have:=h.1;simp;omega,fun x hx=> ?_⟩
 simp only[allP,List.mem_cons,List.mem_append,List.not_mem_nil,or_false]at hx
 rcases hx with rfl|hx|rfl
 . exact hs
 . exact h.2 x hx
 . exact hs
def sea (k:List UInt8)(tag:Int)(l:List (List UInt8)):List UInt8:=H.dig (H.inp tag (allP k l))
theorem sea_len (k:List UInt8)(tag:Int)(l:List (List UInt8)):(sea k tag l).length=16:=H.dig_len _
def sAV (k:List UInt8)(tag:Int)(l:List (List UInt8)):List AV:=zac (sea k tag l)
theorem zi9 (k:List UInt8)(tag:Int)(l:List (List UInt8)):(sAV k tag l).length=16:=by rw[sAV,zaa,sea_len]
theorem out16_eq :List.replicate 16 (AV.int .u8 0)=H.out16l:=rfl
theorem zja (k:List UInt8)(tag:Int)(l:List (List UInt8)):(sAV k tag l).all AV.scalar=true:=H.bytes_all _
theorem sAV_pl (k:List UInt8)(tag:Int)(l:List (List UInt8)):zdy (sAV k tag l)=true:=H.noImms_bytesAV _
theorem make_at [Nonempty (GlK gl)](h:8<=n)(x:Ky)(hx:x.k.length<=1048576)(tag:Int)(f:Bool)(l:List (List UInt8))(hl:Pts l) :
  call gl tab n 150 [ky x,i64 tag,.lst f .sc (strsAV l)] []=some (.agg (sAV x.k tag l),[],[]):=by
 obtain⟨d,rfl⟩:=Nat.exists_eq_add_of_le' h
 have c65:=@concat_at gl (d+7) (by omega) f x.k l (by have:=hl.1;omega)
 have c64:=@H.of_at gl _ (d+6) (by omega) tag false (allP x.k l) (hl.all hx)
 have e1:(strsAV (allP x.k l)).length=l.length+2:=by rw[zab];simp
 have e2:List.take (l.length+2) (strsAV (allP x.k l))=strsAV (allP x.k l):=by rw[<-e1];exact List.take_length
 have d1:=zi9 x.k tag l
 have d2:=zja x.k tag l
 have d3:=sAV_pl x.k tag l
 rw[show zac (H.dig (H.inp tag (allP x.k l)))=sAV x.k tag l from rfl]at c64
 generalize sAV x.k tag l=z at *
 generalize strsAV (allP x.k l)=w at *
 rw[zad (fd:=fd150) rfl]
 simp(disch:=(fail_if_success intro _);omega) only[go_sem,simprocAttr,↓Nat.reduceEqDiff,xx,fd150,m150,↓out16_eq,H.oo,c65,c64,e1,e2,d1,d2,d3]
theorem rmake_at [Nonempty (GlR gl)](h:8<=n)(x:Ky)(hx:x.k.length<=1048576)(tag:Int)(f:Bool)(l:List (List UInt8))(hl:Pts l) :
  call gl tab n 113 [ky x,i64 tag,.lst f .sc (strsAV l)] []=some (.agg (sAV x.k tag l),[],[]):=by
 obtain⟨d,rfl⟩:=Nat.exists_eq_add_of_le' h
 have c66:=@H.rof_at gl _ (d+5) (by omega) tag false (allP x.k l) (hl.all hx)
 have e0:AV.str x.k::(strsAV l++[.str x.k])=strsAV (allP x.k l):=by simp[H.strsAV]
 have e1:(strsAV (allP x.k l)).length=l.length+2:=by rw[zab];simp
 have e2:List.take (l.length+2) (strsAV (allP x.k l))=strsAV (allP x.k l):=by rw[<-e1];exact List.take_length
 have d1:=zi9 x.k tag l
 have d2:=zja x.k tag l
 have d3:=sAV_pl x.k tag l
 have hl1:=hl.1
 have h1:1+l.length<=LIM:=by unfold LIM;omega
 have h2:1+l.length+1<=LIM:=by unfold LIM;omega
 have e5:1+l.length+1=l.length+2:=by omega
 have e6:(strsAV l).length=l.length:=zab l
 have e7:l.length+1+1=l.length+2:=by omega
 rw[show zac (H.dig (H.inp tag (allP x.k l)))=sAV x.k tag l from rfl]at c66
 generalize sAV x.k tag l=z at *
 generalize strsAV (allP x.k l)=w at *
 generalize strsAV l=y at *
 rw[zad (fd:=fd113) rfl]
 simp(disch:=(fail_if_success intro _);omega) only[go_sem,simprocAttr,↓Nat.reduceEqDiff,xx,fd113,m113,↓out16_eq,H.oo,c66,e1,e2,d1,d2,d3,e6,h1,h2,e0,e5,e7,List.cons_append,List.nil_append,List.append_assoc]
end Go.Proofs.S44
