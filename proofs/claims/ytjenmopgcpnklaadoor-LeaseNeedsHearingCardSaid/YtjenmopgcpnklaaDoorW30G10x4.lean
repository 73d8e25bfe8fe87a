/-
  The program's digests. No condition.
-/
import Derived.Test.YtjenmopgcpnklaaDoorW30G9x4
import Derived.Test.YtjenmopgcpnklaaDoorW30G2x4
set_option linter.unusedVariables false
set_option linter.unusedSimpArgs false
set_option linter.unusedSectionVars false
namespace Go.Proofs.S30.H
open Go Go.Ev Go.Proofs Go.Proofs.S30
variable {gl :Gl} [Nonempty (GlK gl)]
def z64l :List AV:=List.replicate 64 (.int .u8 0)
theorem z64_def :List.replicate 64 (AV.int .u8 0)=z64l:=rfl
def z32l :List AV:=List.replicate 32 (.int .u8 0)
theorem z32_def :List.replicate 32 (AV.int .u8 0)=z32l:=rfl
def S34 (nb:Bool)(l:List (List UInt8))(s:Sm)(i:Nat):St :=
 ⟨[.set 17 (.int .i64 i),.set 16 (.int .i64 l.length),.set 15 (.lst nb .sc (strsAV l)),.set 5 (.ptr 5 []),.set 4 (.ptr 4 [])],
  [(5,.fix (.st [.ar 8 .sc,.ar 64 .sc,.sc]) s.av),(4,.fix (.ar 16 .sc) (.agg out16l))]⟩
def L34 :MC:=match m79 with
 | .seq _ (.seq _ (.seq (.seq _ (.block _ (.loop _ b))) _))=>b
 | _=>.skip
def K34 :List Kp:=[.slot 4,.slot 5,.slot 15,.slot 16,.slot 17,.key 4,.key 5]
theorem loop34 (F:Ev.Cl)(nb:Bool)(t:Int)(l:List (List UInt8))(h:Sml l)(s1:Sm)(hr1:Reps s1 [ub (BitVec.ofInt 8 t)])
  (c48:∀s:List UInt8,s.length<2^35->F 89 [.str s] []=some (.sl 20000 [] 0 (encB s).length,[],[.grow .sc (bytesAV (encB s))]))
  (c32:∀(s:Sm) (m x:List UInt8),Reps s m->m.length+x.length<2^60->∃s',Reps s' (m++x)/\F 88 [s.av,.str x] []=some (s'.av,[],[])) :
  ∃s,Reps s (inp t l)/\∀st,clean K34 st=some (S34 nb l s1 0)->iter (evC gl F L34) K34 LF st=evC gl F L34 (S34 nb l s l.length):=by
 have h1:=h.1
 have hstep:∀i st,i<l.length->(∃s,Reps s (inp t (l.take i))/\st=S34 nb l s i)->∃st',contK K34 (evC gl F L34 st)=some st'/\∃s,Reps s (inp t (l.take (i+1)))/\st'=S34 nb l s (i+1):=by
  rintro i _ hi ⟨s,hs,rfl⟩
  have h2:=sml_get h hi
  have h3:=inp_len (t:=t) (sml_take h i)
  have h4:=encB_len l[i]
  have c1:=c48 l[i] (by omega)
  obtain⟨s2,hr2,c2⟩:=c32 s _ (encB l[i]) hs (by omega)
  rw[<-inp_snoc t l i hi]at hr2
  refine⟨_,?_,s2,hr2,rfl⟩
  have hgi:=strsAV_get hi
  have hbl:=hs.2.1
  have hbl2:=hr2.2.1
  simp only[Sm.av,H8.av]at c2
  generalize encB l[i]=q at *
  simp(disch:=((fail_if_success (intro _));omega)) only[go_sem,simprocAttr,↓reduceIte,↓Nat.reduceEqDiff,xx,L34,m79,K34,S34,Sm.av,H8.av,hgi,strsAV_length,c1,c2,bytesAV_length,bytes_all,hbl,hbl2,out16_len]
 have hend:∀st,(∃s,Reps s (inp t (l.take l.length))/\st=S34 nb l s l.length)->isEx (evC gl F L34 st)=true:=by
  rintro _ ⟨s,hs,rfl⟩
  simp(disch:=((fail_if_success (intro _));omega)) only[go_sem,simprocAttr,↓reduceIte,↓Nat.reduceEqDiff,xx,L34,m79,S34]
 obtain⟨s',⟨s,hs,rfl⟩,e⟩:=iter_inv (f:=evC gl F L34) (ks:=K34) (fun i st=>∃s,Reps s (inp t (l.take i))/\st=S34 nb l s i) l.length (by unfold LF;omega) ⟨s1,hr1,rfl⟩ hstep hend
 rw[List.take_length]at hs
 exact⟨s,hs,e⟩
theorem of_at {n:Nat}(hn:5<=n)(t:Int)(nb:Bool)(l:List (List UInt8))(h:Sml l):call gl tab (n+1) 79 [.int .i64 t,.lst nb .sc (strsAV l)] []=some (.agg (bytesAV (dig (inp t l))),[],[]):=by
 have h1:=h.1
 have hb:=@sbegin_at gl _ n (by omega)
 have hil:=inp_len (t:=t) h
 obtain⟨s1,hr1,ha1⟩:=sadd_at (gl:=gl) (n:=n) (by omega) s0 [] [ub (BitVec.ofInt 8 t)] reps0 (by simp)
 rw[List.nil_append]at hr1
 have hbl1:=hr1.2.1
 obtain⟨s,hs,e⟩:=loop34 (gl:=gl) (call gl tab n) nb t l h s1 hr1 (fun s hs=>by
  obtain⟨d,rfl⟩:=Nat.exists_eq_add_of_le' (show 2<=n by omega)
  exact bytes48_ok d s hs) (fun s m x hs hm=>sadd_at (by omega) s m x hs hm)
 simp only[L34,m79,K34]at e
 rw[call_go (fd:=fd79) rfl]
 have hub:UInt8.ofNat ((((BitVec.ofInt 8 t).toNat:Nat):Int)).toNat=ub (BitVec.ofInt 8 t):=by
  rw[Int.toNat_natCast];apply UInt8.toBitVec_inj.1
  show BitVec.ofNat 8 _=_
  rw[BitVec.ofNat_toNat,BitVec.setWidth_eq];rfl
 have hub2:UInt8.ofNat (BitVec.ofInt 8 t).toNat=ub (BitVec.ofInt 8 t):=by rw[Int.toNat_natCast]at hub;exact hub
 simp only[Sm.av,H8.av]at hb ha1
 have hb0:s0.blk.length=64:=by simp[s0]
 simp(disch:=((fail_if_success (intro _));omega)) only[go_sem,simprocAttr,↓reduceIte,↓Nat.reduceEqDiff,xx,fd79,m79,↓z64_def,↓z32_def,↓out16_def,hb,ha1,bytesOf,Ev.byteOf,hub,hub2,noImms_bytesAV,bytesAV_length,bytes_all,hbl1,hb0]
 rw[e _ (by simp(disch:=((fail_if_success (intro _));omega)) only[go_sem,simprocAttr,↓reduceIte,↓Nat.reduceEqDiff,xx,S34,Sm.av,H8.av,bytesAV_length,strsAV_length])]
 have hsum:=ssum_at (gl:=gl) hn s _ hs (by omega)
 have hl:=hashL_len (inp t l)
 have hdl:=dig_len (inp t l)
 have hdd:List.take 16 (bytesAV (hashL (inp t l)))=bytesAV (dig (inp t l)):=by rw[bytesAV_tk];rfl
 have hbl:=hs.2.1
 simp only[Sm.av,H8.av]at hsum
 simp(disch:=((fail_if_success (intro _));omega)) only[go_sem,simprocAttr,↓reduceIte,↓Nat.reduceEqDiff,xx,S34,Sm.av,H8.av,bytesAV_length,bytes_all,hbl,hsum,noImms_bytesAV,hl,hdl,hdd,out16_len]
end Go.Proofs.S30.H
namespace Go.Proofs.S30
open Go Go.Ev Go.Proofs
open Go.Proofs.S30.H (strsAV strsAV_length strsAV_get)
variable {gl :Gl} {n:Nat}
def apL (s:List UInt8)(l:List (List UInt8)):Nat->List (List UInt8)
 | 0=>[]
 | 1=>[s]
 | 2=>s::l
 | _=>s::(l++[s])
abbrev allP (s:List UInt8)(l:List (List UInt8)):List (List UInt8):=s::(l++[s])
theorem apL_0 (s:List UInt8)(l:List (List UInt8)):apL s l 0=[]:=rfl
theorem apL_1 (s:List UInt8)(l:List (List UInt8)):apL s l 1=[s]:=rfl
theorem apL_2 (s:List UInt8)(l:List (List UInt8)):apL s l 2=s::l:=rfl
theorem apL_3 (s:List UInt8)(l:List (List UInt8)):apL s l 3=allP s l:=rfl
def filL (N:Nat)(l:List (List UInt8)):List AV:=strsAV l++List.replicate (N-l.length) (.str [])
theorem strs_app (a b:List (List UInt8)):strsAV (a++b)=strsAV a++strsAV b:=by simp[strsAV]
theorem filL_len {N:Nat}{l:List (List UInt8)}(h:l.length<=N):(filL N l).length=N:=by simp[filL,strsAV_length];omega
theorem filL_app {N:Nat}{a b:List (List UInt8)}(h:a.length+b.length<=N):(filL N a).take a.length++(strsAV b++(filL N a).drop (a.length+b.length))=filL N (a++b):=by
 unfold filL
 rw[List.take_left' (strsAV_length a),strs_app,List.append_assoc]
 congr 2
 rw[<-strsAV_length a,List.drop_append,List.drop_eq_nil_of_le (by omega),List.nil_append,Nat.add_sub_cancel_left,List.drop_replicate,List.length_append,strsAV_length]
 congr 1;omega
theorem filL_all (l:List (List UInt8)):filL l.length l=strsAV l:=by simp[filL]
theorem filL_0 (N:Nat):filL N []=List.replicate N (.str []):=by simp[filL,strsAV]
theorem grow_at (h:1<=n){N:Nat}(h0:1<=N)(hN:N<=100000):call gl tab n 91 [.lst true .sc [],i64 N] []=some (.sl 20000 [] 0 0,[],[.grow .sc (filL N [])]):=by
 obtain⟨d,rfl⟩:=Nat.exists_eq_add_of_le' h
 have hl:N<=LIM:=by unfold LIM;omega
 rw[filL_0]
 rw[call_gen (fd:=fd91) rfl]
 simp(disch:=((fail_if_success (intro _));omega)) only[go_sem,simprocAttr,↓reduceIte,↓Nat.reduceEqDiff,xx,fd91,m91,hl,List.nil_append,Nat.sub_zero]
def pob (f:Bool)(s:List UInt8)(l:List (List UInt8)):OB:=.fix (.ar 3 .sc) (.aggR [.sl 100001 [] 0 1,.lst f .sc (strsAV l),.sl 100002 [] 0 1])
def szP (l:List (List UInt8)):Nat->Int
 | 0=>0
 | 1=>1
 | 2=>1+l.length
 | _=>1+l.length+1
theorem szP_0 (l:List (List UInt8)):szP l 0=0:=rfl
theorem szP_1 (l:List (List UInt8)):szP l 1=1:=rfl
theorem szP_2 (l:List (List UInt8)):szP l 2=1+l.length:=rfl
theorem szP_3 (l:List (List UInt8)):szP l 3=1+l.length+1:=rfl
def L65 :MC:=match m80 with| .seq _ (.seq _ (.seq (.seq _ (.block _ (.loop _ b))) _))=>b|_=>.skip
def L65b :MC:=match m80 with| .seq _ (.seq _ (.seq _ (.seq _ (.seq (.seq _ (.block _ (.loop _ b))) _))))=>b|_=>.skip
def hp65 (f:Bool)(s:List UInt8)(l:List (List UInt8)):Hp:=[(100002,.grow .sc [.str s]),(100001,.grow .sc [.str s]),(100000,.fix (.ar 3 .sc) (.aggR [.sl 100001 [] 0 1,.lst f .sc (strsAV l),.sl 100002 [] 0 1]))]
def S65 (f:Bool)(s:List UInt8)(l:List (List UInt8))(i:Nat):St :=
 ⟨[.set 11 (i64 i),.set 10 (i64 3),.set 9 (.sl 100000 [] 0 3),.set 3 (i64 (szP l i)),.set 0 (.sl 100000 [] 0 3)],hp65 f s l⟩
def S65b (f:Bool)(s:List UInt8)(l:List (List UInt8))(i:Nat):St :=
 ⟨[.set 27 (i64 i),.set 26 (i64 3),.set 25 (.sl 100000 [] 0 3),.set 6 (.sl 24 [] 0 (apL s l i).length)],hp65 f s l++[(24,.grow .sc (filL (l.length+2) (apL s l i)))]⟩
set_option maxHeartbeats 1000000 in
theorem concat_at (h:2<=n)(f:Bool)(s:List UInt8)(l:List (List UInt8))(hl:l.length<=1000) :
  call gl tab n 80 [.sl 100000 [] 0 3] [(100000,.fix (.ar 3 .sc) (.aggR [.sl 100001 [] 0 1,.lst f .sc (strsAV l),.sl 100002 [] 0 1])),(100001,.grow .sc [.str s]),(100002,.grow .sc [.str s])] =
   some (.sl 20000 [] 0 (l.length+2),[(100000,.fix (.ar 3 .sc) (.aggR [.sl 100001 [] 0 1,.lst f .sc (strsAV l),.sl 100002 [] 0 1])),(100001,.grow .sc [.str s]),(100002,.grow .sc [.str s])],[.grow .sc (strsAV (allP s l))]):=by
 obtain⟨d,rfl⟩:=Nat.exists_eq_add_of_le' h
 have hs:∀i,i<3->contK [.slot 0,.slot 3,.slot 9,.slot 10,.slot 11] (evC gl (call gl tab (d+1)) L65 (S65 f s l i))=some (S65 f s l (i+1)):=fun i hi=>by
  match i,hi with
  | 0,_=>simp(disch:=((fail_if_success (intro _));omega)) only[go_sem,simprocAttr,↓reduceIte,↓Nat.reduceEqDiff,xx,L65,m80,S65,hp65,szP_0,szP_1]
  | 1,_=>simp(disch:=((fail_if_success (intro _));omega)) only[go_sem,simprocAttr,↓reduceIte,↓Nat.reduceEqDiff,xx,L65,m80,S65,hp65,szP_1,szP_2,strsAV_length]
  | 2,_=>simp(disch:=((fail_if_success (intro _));omega)) only[go_sem,simprocAttr,↓reduceIte,↓Nat.reduceEqDiff,xx,L65,m80,S65,hp65,szP_2,szP_3]
 have hs2:∀i,i<3->contK [.slot 6,.slot 25,.slot 26,.slot 27,.key 24] (evC gl (call gl tab (d+1)) L65b (S65b f s l i))=some (S65b f s l (i+1)):=fun i hi=>by
  match i,hi with
  | 0,_ =>
    have e:=@filL_app (l.length+2) [] [s] (by simp)
    have e2:=@filL_len (l.length+2) [] (by simp)
    simp only[List.length_nil,List.length_cons,List.nil_append,Nat.zero_add,List.take_zero]at e
    rw[S65b,S65b,apL_0,apL_1,<-e]
    generalize filL (l.length+2) []=z at *
    simp(disch:=((fail_if_success (intro _));omega)) only[go_sem,simprocAttr,↓reduceIte,↓Nat.reduceEqDiff,xx,L65b,m80,hp65,false_and,decide_false,e2,List.cons_append,List.nil_append,strsAV,List.map_cons,List.map_nil,List.length_cons,List.length_nil]
  | 1,_ =>
    have e:=@filL_app (l.length+2) [s] l (by simp;omega)
    have e2:=@filL_len (l.length+2) [s] (by simp)
    simp only[List.length_nil,List.length_cons,List.nil_append,Nat.zero_add,List.singleton_append]at e
    rw[S65b,S65b,apL_1,apL_2,<-e]
    generalize filL (l.length+2) [s]=z at *
    have c7:1+l.length=l.length+1:=by omega
    simp(disch:=((fail_if_success (intro _));omega)) only[go_sem,simprocAttr,↓reduceIte,↓Nat.reduceEqDiff,xx,c7,L65b,m80,hp65,false_and,decide_false,e2,List.cons_append,List.nil_append,strsAV_length,List.length_cons,List.length_nil,List.append_assoc]
  | 2,_ =>
    have e:=@filL_app (l.length+2) (s::l) [s] (by simp)
    have e2:=@filL_len (l.length+2) (s::l) (by simp)
    simp only[List.length_nil,List.length_cons,List.nil_append,Nat.zero_add,List.cons_append]at e
    rw[S65b,S65b,apL_2,apL_3,<-e]
    generalize filL (l.length+2) (s::l)=z at *
    simp(disch:=((fail_if_success (intro _));omega)) only[go_sem,simprocAttr,↓reduceIte,↓Nat.reduceEqDiff,xx,L65b,m80,hp65,false_and,decide_false,e2,List.cons_append,List.nil_append,strsAV,List.map_cons,List.map_nil,List.length_cons,List.length_nil,List.append_assoc,List.length_append]
 simp only[L65,m80]at hs
 simp only[L65b,m80]at hs2
 have c89:=@grow_at gl (d+1) (by omega) (l.length+2) (by omega) (by omega)
 rw[show((l.length+2:Nat):Int)=(l.length:Int)+2 by omega]at c89
 have c8:(1:Int)+l.length+1=(l.length:Int)+2:=by omega
 have e:=filL_all (allP s l)
 have e2:(allP s l).length=l.length+2:=by simp
 rw[e2]at e
 have e3:=filL_len (N:=l.length+2) (l:=allP s l) (by simp)
 rw[<-e]
 rw[call_gen (fd:=fd80) rfl]
 simp(disch:=((fail_if_success (intro _));omega)) only[go_sem,simprocAttr,↓reduceIte,↓Nat.reduceEqDiff,xx,fd80,m80]
 rw[iter_to (S65 f s l) 3 (by unfold LF;omega)]
 . rw[S65,szP_3,c8]
   simp(disch:=((fail_if_success (intro _));omega)) only[go_sem,simprocAttr,↓reduceIte,↓Nat.reduceEqDiff,xx,hp65,c89]
   rw[iter_to (S65b f s l) 3 (by unfold LF;omega)]
   . rw[S65b,apL_3]
     generalize filL (l.length+2) (allP s l)=z at *
     simp(disch:=((fail_if_success (intro _));omega)) only[go_sem,simprocAttr,↓reduceIte,↓Nat.reduceEqDiff,xx,hp65,List.cons_append,List.nil_append,e2,e3]
   . rw[S65b,apL_0]
     generalize filL (l.length+2) []=z at *
     simp(disch:=((fail_if_success (intro _));omega)) only[go_sem,simprocAttr,↓reduceIte,↓Nat.reduceEqDiff,xx,hp65,List.cons_append,List.nil_append,List.length_nil]
   . exact hs2
   . rw[S65b,apL_3]
     generalize filL (l.length+2) (allP s l)=z at *
     simp(disch:=((fail_if_success (intro _));omega)) only[go_sem,simprocAttr,↓reduceIte,↓Nat.reduceEqDiff,xx,hp65,List.cons_append,List.nil_append,e2,e3]
 . simp(disch:=((fail_if_success (intro _));omega)) only[go_sem,simprocAttr,↓reduceIte,↓Nat.reduceEqDiff,xx,S65,hp65,szP_0]
 . exact hs
 . simp(disch:=((fail_if_success (intro _));omega)) only[go_sem,simprocAttr,↓reduceIte,↓Nat.reduceEqDiff,xx,S65,hp65,szP_3]
end Go.Proofs.S30
