/-
  The specification's integers and texts as bytes; inputs of digests. No condition.
-/
import Derived.Test.YtaloneiaejhopaaDoorW50G24x3
import Derived.Test.YtaloneiaejhopaaDoorW50G21x3
set_option linter.all false
open List renaming nil_append->wB,length_cons->wC,cons_append->wD,length_nil->wE,length_append->wF,append_assoc->wG,map_cons->wH,take_length->wJ,length_take->wK,map_nil->wL
open Nat renaming exists_eq_add_of_le'->wM,zero_add->wN
namespace Go.Proofs.S50.H
open Go Go.Ev Go.Proofs Go.Proofs.S50
variable {gl :Gl}
def encB (s:List UInt8):List UInt8:=zint s.length++s
theorem zxc (s:List UInt8):(encB s).length<=s.length+10:=by have:=ziq s.length;rw[encB,wF];omega
theorem zzx (d:Nat)(s:List UInt8)(hs:s.length<2^35):call gl tab (d+2) 82 [.str s] []=some (.sl 20000 [] 0 (encB s).length,[],[.grow .sc (zad (encB s))]):=by
 have h53:=zqh (gl:=gl) d (s.length:Int) (by omega)
 have hl:=ziq s.length
 have hL:(zint (s.length:Int)).length+s.length<=LIM:=by unfold LIM;omega
 rw[zai (fd:=fd82) rfl]
 unfold encB
 generalize zint (s.length:Int)=z at *
 simp(disch:=apply zq;omega) only[go_sem,simprocAttr,↓Nat.reduceEqDiff,xx,fd82,m82,h53,zal,hL,zb1]
end Go.Proofs.S50.H
namespace Go.Proofs.S50.H
open Go Go.Ev Go.Proofs Go.Proofs.S50
variable {gl :Gl} [Nonempty (GlR gl)]
def Sml (l:List (List UInt8)):Prop:=l.length<=1000/\∀x∈l,x.length<=1048576
theorem qbu {l:List (List UInt8)}(h:Sml l){i:Nat}(hi:i<l.length):l[i].length<=1048576:=h.2 _ (List.getElem_mem hi)
theorem z50 {l:List (List UInt8)}(h:Sml l)(k:Nat):Sml (l.take k) :=
 ⟨by rw[wK];have:=h.1;omega,fun x hx=>h.2 x (List.mem_of_mem_take hx)⟩
def encL (l:List (List UInt8)):List UInt8:=(l.map encB).flatten
def inp (t:Int)(l:List (List UInt8)):List UInt8:=ub (BitVec.ofInt 8 t)::encL l
theorem z8o {l:List (List UInt8)}(h:Sml l):(encL l).length<=1048586000:=by
 have key:∀l:List (List UInt8),(∀x∈l,x.length<=1048576)->(encL l).length<=1048586*l.length:=by
  intro l
  induction l with
  | nil=>intro _;simp[encL]
  | cons x l ih =>
    intro h
    have h1:=h x (by simp)
    have h2:=ih fun y hy=>h y (by simp[hy])
    have h3:=zxc x
    simp only[encL,wH,List.flatten_cons,wF,wC]at *
    omega
 have h1:=key l h.2;have h2:=h.1;omega
theorem z4g (l:List (List UInt8))(i:Nat)(h:i<l.length):encL (l.take (i+1))=encL (l.take i)++encB l[i]:=by
 unfold encL;rw[List.take_succ_eq_append_getElem h,List.map_append,List.flatten_append];simp
theorem z7s (t:Int)(l:List (List UInt8))(i:Nat)(h:i<l.length):inp t (l.take (i+1))=inp t (l.take i)++encB l[i]:=by
 rw[inp,inp,z4g l i h];rfl
theorem z22 {t:Int}{l:List (List UInt8)}(h:Sml l):(inp t l).length<=1048586001:=by
 have:=z8o h;simp only[inp,wC];omega
def dig (m:List UInt8):List UInt8:=(zss m).take 16
theorem dig_len (m:List UInt8):(dig m).length=16:=by rw[dig,wK,zsr];rfl
def outS (h:List UInt8)(i:Nat):List UInt8:=h.take i++List.replicate (16-i) 0
def out16l :List AV:=List.replicate 16 (.int .u8 0)
theorem z1p :List.replicate 16 (AV.int .u8 0)=out16l:=rfl
theorem out16_len :out16l.length=16:=rfl
theorem out16_all :out16l.all AV.scalar=true:=by kernel_rfl
theorem out16_pl :AV.plains out16l=true:=by kernel_rfl
def S49 (h:List UInt8)(i:Nat):St :=
 ⟨[.set 5 (.int .i64 i),.set 4 (.ptr 4 []),.set 3 (.ptr 3 []),.set 2 (.ptr 2 [])],[(4,.fix (.ar 16 .sc) (.agg (zad (outS h i)))),(3,.fix (.ar 32 .sc) (.agg (zad h))),(2,.fix (.ar 16 .sc) (.agg out16l))]⟩
end Go.Proofs.S50.H
namespace Go.Proofs.S50.H
open Go Go.Ev Go.Proofs Go.Proofs.S50
variable {gl :Gl} [Nonempty (GlK gl)]
def z64l :List AV:=List.replicate 64 (.int .u8 0)
theorem qao :List.replicate 64 (AV.int .u8 0)=z64l:=rfl
def z32l :List AV:=List.replicate 32 (.int .u8 0)
theorem qap :List.replicate 32 (AV.int .u8 0)=z32l:=rfl
def S34 (nb:Bool)(l:List (List UInt8))(s:Sm)(i:Nat):St :=
 ⟨[.set 17 (.int .i64 i),.set 16 (.int .i64 l.length),.set 15 (.lst nb .sc (strsAV l)),.set 5 (.ptr 5 []),.set 4 (.ptr 4 [])],
  [(5,.fix (.st [.ar 8 .sc,.ar 64 .sc,.sc]) s.av),(4,.fix (.ar 16 .sc) (.agg out16l))]⟩
def L34 :MC:=match m61 with
 | .seq _ (.seq _ (.seq (.seq _ (.block _ (.loop _ b))) _))=>b
 | _=>.skip
def K34 :List Kp:=[.slot 4,.slot 5,.slot 15,.slot 16,.slot 17,.key 4,.key 5]
theorem qh0 (F:Ev.Cl)(nb:Bool)(t:Int)(l:List (List UInt8))(h:Sml l)(s1:Sm)(hr1:Reps s1 [ub (BitVec.ofInt 8 t)])
  (c48:∀s:List UInt8,s.length<2^35->F 82 [.str s] []=some (.sl 20000 [] 0 (encB s).length,[],[.grow .sc (zad (encB s))]))
  (c32:∀(s:Sm) (m x:List UInt8),Reps s m->m.length+x.length<2^60->∃s',Reps s' (m++x)/\F 81 [s.av,.str x] []=some (s'.av,[],[])) :
  ∃s,Reps s (inp t l)/\∀st,zcr K34 st=some (S34 nb l s1 0)->iter (evC gl F L34) K34 LF st=evC gl F L34 (S34 nb l s l.length):=by
 have h1:=h.1
 have hstep:∀i st,i<l.length->(∃s,Reps s (inp t (l.take i))/\st=S34 nb l s i)->∃st',zaz K34 (evC gl F L34 st)=some st'/\∃s,Reps s (inp t (l.take (i+1)))/\st'=S34 nb l s (i+1):=by
  rintro i _ hi ⟨s,hs,rfl⟩
  have h2:=qbu h hi
  have h3:=z22 (t:=t) (z50 h i)
  have h4:=zxc l[i]
  have c1:=c48 l[i] (by omega)
  obtain⟨s2,hr2,c2⟩:=c32 s _ (encB l[i]) hs (by omega)
  rw[<-z7s t l i hi]at hr2
  refine⟨_,?_,s2,hr2,rfl⟩
  have hgi:=zjv hi
  have hbl:=hs.2.1
  have hbl2:=hr2.2.1
  simp only[Sm.av,H8.av]at c2
  generalize encB l[i]=q at *
  simp(disch:=apply zq;omega) only[go_sem,simprocAttr,↓Nat.reduceEqDiff,xx,L34,m61,K34,S34,Sm.av,H8.av,hgi,zbg,c1,c2,zal,bytes_all,hbl,hbl2,out16_len]
 have hend:∀st,(∃s,Reps s (inp t (l.take l.length))/\st=S34 nb l s l.length)->isEx (evC gl F L34 st)=true:=by
  rintro _ ⟨s,hs,rfl⟩
  simp(disch:=apply zq;omega) only[go_sem,simprocAttr,↓Nat.reduceEqDiff,xx,L34,m61,S34]
 obtain⟨s',⟨s,hs,rfl⟩,e⟩:=z7k (f:=evC gl F L34) (ks:=K34) (fun i st=>∃s,Reps s (inp t (l.take i))/\st=S34 nb l s i) l.length (by unfold LF;omega) ⟨s1,hr1,rfl⟩ hstep hend
 rw[wJ]at hs
 exact⟨s,hs,e⟩
theorem of_at {n:Nat}(hn:5<=n)(t:Int)(nb:Bool)(l:List (List UInt8))(h:Sml l):call gl tab (n+1) 61 [.int .i64 t,.lst nb .sc (strsAV l)] []=some (.agg (zad (dig (inp t l))),[],[]):=by
 have h1:=h.1
 have hb:=@z0p gl _ n (by omega)
 have hil:=z22 (t:=t) h
 obtain⟨s1,hr1,ha1⟩:=zt1 (gl:=gl) (n:=n) (by omega) s0 [] [ub (BitVec.ofInt 8 t)] qkq (by simp)
 rw[wB]at hr1
 have hbl1:=hr1.2.1
 obtain⟨s,hs,e⟩:=qh0 (gl:=gl) (call gl tab n) nb t l h s1 hr1 (fun s hs=>by
  obtain⟨d,rfl⟩:=wM (show 2<=n by omega)
  exact zzx d s hs) (fun s m x hs hm=>zt1 (by omega) s m x hs hm)
 simp only[L34,m61,K34]at e
 rw[zai (fd:=fd61) rfl]
 have hub:UInt8.ofNat ((((BitVec.ofInt 8 t).toNat:Nat):Int)).toNat=ub (BitVec.ofInt 8 t):=by
  rw[Int.toNat_natCast];apply UInt8.toBitVec_inj.1
  show BitVec.ofNat 8 _=_
  rw[BitVec.ofNat_toNat,BitVec.setWidth_eq];rfl
 have hub2:UInt8.ofNat (BitVec.ofInt 8 t).toNat=ub (BitVec.ofInt 8 t):=by rw[Int.toNat_natCast]at hub;exact hub
 simp only[Sm.av,H8.av]at hb ha1
 have hb0:s0.blk.length=64:=by simp[s0]
 simp(disch:=apply zq;omega) only[go_sem,simprocAttr,↓Nat.reduceEqDiff,xx,fd61,m61,↓qao,↓qap,↓z1p,hb,ha1,zhh,Ev.byteOf,hub,hub2,noImms_bytesAV,zal,bytes_all,hbl1,hb0]
 rw[e _ (by simp(disch:=apply zq;omega) only[go_sem,simprocAttr,↓Nat.reduceEqDiff,xx,S34,Sm.av,H8.av,zal,zbg])]
 have hsum:=qbs (gl:=gl) hn s _ hs (by omega)
 have hl:=zsr (inp t l)
 have hdl:=dig_len (inp t l)
 have hdd:List.take 16 (zad (zss (inp t l)))=zad (dig (inp t l)):=by rw[zkj];rfl
 have hbl:=hs.2.1
 simp only[Sm.av,H8.av]at hsum
 simp(disch:=apply zq;omega) only[go_sem,simprocAttr,↓Nat.reduceEqDiff,xx,S34,Sm.av,H8.av,zal,bytes_all,hbl,hsum,noImms_bytesAV,hl,hdl,hdd,out16_len]
end Go.Proofs.S50.H
namespace Go.Proofs.S50.K
open Go Go.Ev Go.Proofs
open Go.Proofs.S50.H (strsAV zbg zjv)
variable {gl :Gl} {n:Nat}
def apL (s:List UInt8)(l:List (List UInt8)):Nat->List (List UInt8)
 | 0=>[]
 | 1=>[s]
 | 2=>s::l
 | _=>s::(l++[s])
abbrev allP (s:List UInt8)(l:List (List UInt8)):List (List UInt8):=s::(l++[s])
theorem qj5 (s:List UInt8)(l:List (List UInt8)):apL s l 0=[]:=rfl
theorem qj4 (s:List UInt8)(l:List (List UInt8)):apL s l 1=[s]:=rfl
theorem qj3 (s:List UInt8)(l:List (List UInt8)):apL s l 2=s::l:=rfl
theorem qe3 (s:List UInt8)(l:List (List UInt8)):apL s l 3=allP s l:=rfl
def filL (N:Nat)(l:List (List UInt8)):List AV:=strsAV l++List.replicate (N-l.length) (.str [])
theorem z5w (a b:List (List UInt8)):strsAV (a++b)=strsAV a++strsAV b:=by simp[strsAV]
theorem zll {N:Nat}{l:List (List UInt8)}(h:l.length<=N):(filL N l).length=N:=by simp[filL,zbg];omega
theorem zqp {N:Nat}{a b:List (List UInt8)}(h:a.length+b.length<=N):(filL N a).take a.length++(strsAV b++(filL N a).drop (a.length+b.length))=filL N (a++b):=by
 unfold filL
 rw[List.take_left' (zbg a),z5w,wG]
 congr 2
 rw[<-zbg a,List.drop_append,List.drop_eq_nil_of_le (by omega),wB,Nat.add_sub_cancel_left,List.drop_replicate,wF,zbg]
 congr 1;omega
theorem z8e (l:List (List UInt8)):filL l.length l=strsAV l:=by simp[filL]
theorem qi0 (N:Nat):filL N []=List.replicate N (.str []):=by simp[filL,strsAV]
theorem qdu (h:1<=n){N:Nat}(h0:1<=N)(hN:N<=100000):call gl tab n 84 [.lst true .sc [],i64 N] []=some (.sl 20000 [] 0 0,[],[.grow .sc (filL N [])]):=by
 obtain⟨d,rfl⟩:=wM h
 have hl:N<=LIM:=by unfold LIM;omega
 rw[qi0]
 rw[zbo (fd:=fd84) rfl]
 simp(disch:=apply zq;omega) only[go_sem,simprocAttr,↓Nat.reduceEqDiff,xx,fd84,m84,hl,wB,Nat.sub_zero]
def szP (l:List (List UInt8)):Nat->Int
 | 0=>0
 | 1=>1
 | 2=>1+l.length
 | _=>1+l.length+1
theorem qfu (l:List (List UInt8)):szP l 0=0:=rfl
theorem qft (l:List (List UInt8)):szP l 1=1:=rfl
theorem qfs (l:List (List UInt8)):szP l 2=1+l.length:=rfl
theorem qa1 (l:List (List UInt8)):szP l 3=1+l.length+1:=rfl
def L65 :MC:=match m62 with| .seq _ (.seq _ (.seq (.seq _ (.block _ (.loop _ b))) _))=>b|_=>.skip
def L65b :MC:=match m62 with| .seq _ (.seq _ (.seq _ (.seq _ (.seq (.seq _ (.block _ (.loop _ b))) _))))=>b|_=>.skip
def hp65 (f:Bool)(s:List UInt8)(l:List (List UInt8)):Hp:=[(100002,.grow .sc [.str s]),(100001,.grow .sc [.str s]),(100000,.fix (.ar 3 .sc) (.aggR [.sl 100001 [] 0 1,.lst f .sc (strsAV l),.sl 100002 [] 0 1]))]
def S65 (f:Bool)(s:List UInt8)(l:List (List UInt8))(i:Nat):St :=
 ⟨[.set 11 (i64 i),.set 10 (i64 3),.set 9 (.sl 100000 [] 0 3),.set 3 (i64 (szP l i)),.set 0 (.sl 100000 [] 0 3)],hp65 f s l⟩
def S65b (f:Bool)(s:List UInt8)(l:List (List UInt8))(i:Nat):St :=
 ⟨[.set 27 (i64 i),.set 26 (i64 3),.set 25 (.sl 100000 [] 0 3),.set 6 (.sl 24 [] 0 (apL s l i).length)],hp65 f s l++[(24,.grow .sc (filL (l.length+2) (apL s l i)))]⟩
set_option maxHeartbeats 1000000 in
theorem z4y (h:2<=n)(f:Bool)(s:List UInt8)(l:List (List UInt8))(hl:l.length<=1000) :
  call gl tab n 62 [.sl 100000 [] 0 3] [(100000,.fix (.ar 3 .sc) (.aggR [.sl 100001 [] 0 1,.lst f .sc (strsAV l),.sl 100002 [] 0 1])),(100001,.grow .sc [.str s]),(100002,.grow .sc [.str s])] =
   some (.sl 20000 [] 0 (l.length+2),[(100000,.fix (.ar 3 .sc) (.aggR [.sl 100001 [] 0 1,.lst f .sc (strsAV l),.sl 100002 [] 0 1])),(100001,.grow .sc [.str s]),(100002,.grow .sc [.str s])],[.grow .sc (strsAV (allP s l))]):=by
 obtain⟨d,rfl⟩:=wM h
 have hs:∀i,i<3->zaz [.slot 0,.slot 3,.slot 9,.slot 10,.slot 11] (evC gl (call gl tab (d+1)) L65 (S65 f s l i))=some (S65 f s l (i+1)):=fun i hi=>by
  match i,hi with
  | 0,_=>simp(disch:=apply zq;omega) only[go_sem,simprocAttr,↓Nat.reduceEqDiff,xx,L65,m62,S65,hp65,qfu,qft]
  | 1,_=>simp(disch:=apply zq;omega) only[go_sem,simprocAttr,↓Nat.reduceEqDiff,xx,L65,m62,S65,hp65,qft,qfs,zbg]
  | 2,_=>simp(disch:=apply zq;omega) only[go_sem,simprocAttr,↓Nat.reduceEqDiff,xx,L65,m62,S65,hp65,qfs,qa1]
 have hs2:∀i,i<3->zaz [.slot 6,.slot 25,.slot 26,.slot 27,.key 24] (evC gl (call gl tab (d+1)) L65b (S65b f s l i))=some (S65b f s l (i+1)):=fun i hi=>by
  match i,hi with
  | 0,_ =>
    have e:=@zqp (l.length+2) [] [s] (by simp)
    have e2:=@zll (l.length+2) [] (by simp)
    simp only[wE,wC,wB,wN,List.take_zero]at e
    rw[S65b,S65b,qj5,qj4,<-e]
    generalize filL (l.length+2) []=z at *
    simp(disch:=apply zq;omega) only[go_sem,simprocAttr,↓Nat.reduceEqDiff,xx,L65b,m62,hp65,false_and,decide_false,e2,wD,wB,strsAV,wH,wL,wC,wE]
  | 1,_ =>
    have e:=@zqp (l.length+2) [s] l (by simp;omega)
    have e2:=@zll (l.length+2) [s] (by simp)
    simp only[wE,wC,wB,wN,List.singleton_append]at e
    rw[S65b,S65b,qj4,qj3,<-e]
    generalize filL (l.length+2) [s]=z at *
    have c7:1+l.length=l.length+1:=by omega
    simp(disch:=apply zq;omega) only[go_sem,simprocAttr,↓Nat.reduceEqDiff,xx,c7,L65b,m62,hp65,false_and,decide_false,e2,wD,wB,zbg,wC,wE,wG]
  | 2,_ =>
    have e:=@zqp (l.length+2) (s::l) [s] (by simp)
    have e2:=@zll (l.length+2) (s::l) (by simp)
    simp only[wE,wC,wB,wN,wD]at e
    rw[S65b,S65b,qj3,qe3,<-e]
    generalize filL (l.length+2) (s::l)=z at *
    simp(disch:=apply zq;omega) only[go_sem,simprocAttr,↓Nat.reduceEqDiff,xx,L65b,m62,hp65,false_and,decide_false,e2,wD,wB,strsAV,wH,wL,wC,wE,wG,wF]
 simp only[L65,m62]at hs
 simp only[L65b,m62]at hs2
 have c89:=@qdu gl (d+1) (by omega) (l.length+2) (by omega) (by omega)
 rw[show((l.length+2:Nat):Int)=(l.length:Int)+2 by omega]at c89
 have c8:(1:Int)+l.length+1=(l.length:Int)+2:=by omega
 have e:=z8e (allP s l)
 have e2:(allP s l).length=l.length+2:=by simp
 rw[e2]at e
 have e3:=zll (N:=l.length+2) (l:=allP s l) (by simp)
 rw[<-e]
 rw[zbo (fd:=fd62) rfl]
 simp(disch:=apply zq;omega) only[go_sem,simprocAttr,↓Nat.reduceEqDiff,xx,fd62,m62]
 rw[zak (S65 f s l) 3 (by unfold LF;omega)]
 . rw[S65,qa1,c8]
   simp(disch:=apply zq;omega) only[go_sem,simprocAttr,↓Nat.reduceEqDiff,xx,hp65,c89]
   rw[zak (S65b f s l) 3 (by unfold LF;omega)]
   . rw[S65b,qe3]
     generalize filL (l.length+2) (allP s l)=z at *
     simp(disch:=apply zq;omega) only[go_sem,simprocAttr,↓Nat.reduceEqDiff,xx,hp65,wD,wB,e2,e3]
   . rw[S65b,qj5]
     generalize filL (l.length+2) []=z at *
     simp(disch:=apply zq;omega) only[go_sem,simprocAttr,↓Nat.reduceEqDiff,xx,hp65,wD,wB,wE]
   . exact hs2
   . rw[S65b,qe3]
     generalize filL (l.length+2) (allP s l)=z at *
     simp(disch:=apply zq;omega) only[go_sem,simprocAttr,↓Nat.reduceEqDiff,xx,hp65,wD,wB,e2,e3]
 . simp(disch:=apply zq;omega) only[go_sem,simprocAttr,↓Nat.reduceEqDiff,xx,S65,hp65,qfu]
 . exact hs
 . simp(disch:=apply zq;omega) only[go_sem,simprocAttr,↓Nat.reduceEqDiff,xx,S65,hp65,qa1]
end Go.Proofs.S50.K
namespace Go.Proofs.S50.K
open Go Go.Ev Go.Proofs
open Go.Proofs.S50.H (strsAV zbg zjv Sml GlK GlR)
variable {gl :Gl} {n:Nat}
def Pts (l:List (List UInt8)):Prop:=l.length<=100/\∀x∈l,x.length<=1048576
theorem Pts.all {s:List UInt8}{l:List (List UInt8)}(h:Pts l)(hs:s.length<=1048576):Sml (allP s l):=by
 refine⟨by have:=h.1;simp;omega,fun x hx=> ?_⟩
 simp only[allP,List.mem_cons,List.mem_append,List.not_mem_nil,or_false]at hx
 rcases hx with rfl|hx|rfl
 . exact hs
 . exact h.2 x hx
 . exact hs
def sea (k:List UInt8)(tag:Int)(l:List (List UInt8)):List UInt8:=H.dig (H.inp tag (allP k l))
theorem qb7 (k:List UInt8)(tag:Int)(l:List (List UInt8)):(sea k tag l).length=16:=H.dig_len _
def sAV (k:List UInt8)(tag:Int)(l:List (List UInt8)):List AV:=zad (sea k tag l)
theorem sAV_len (k:List UInt8)(tag:Int)(l:List (List UInt8)):(sAV k tag l).length=16:=by rw[sAV,zal,qb7]
theorem out16_eq :List.replicate 16 (AV.int .u8 0)=H.out16l:=rfl
theorem sAV_all (k:List UInt8)(tag:Int)(l:List (List UInt8)):(sAV k tag l).all AV.scalar=true:=H.bytes_all _
theorem sAV_pl (k:List UInt8)(tag:Int)(l:List (List UInt8)):zdk (sAV k tag l)=true:=H.noImms_bytesAV _
theorem make_at [Nonempty (GlK gl)](h:8<=n)(x:Ky)(hx:x.k.length<=1048576)(tag:Int)(f:Bool)(l:List (List UInt8))(hl:Pts l) :
  call gl tab n 39 [ky x,i64 tag,.lst f .sc (strsAV l)] []=some (.agg (sAV x.k tag l),[],[]):=by
 obtain⟨d,rfl⟩:=wM h
 have c65:=@z4y gl (d+7) (by omega) f x.k l (by have:=hl.1;omega)
 have c64:=@H.of_at gl _ (d+6) (by omega) tag false (allP x.k l) (hl.all hx)
 have e1:(strsAV (allP x.k l)).length=l.length+2:=by rw[zbg];simp
 have e2:List.take (l.length+2) (strsAV (allP x.k l))=strsAV (allP x.k l):=by rw[<-e1];exact wJ
 have d1:=sAV_len x.k tag l
 have d2:=sAV_all x.k tag l
 have d3:=sAV_pl x.k tag l
 rw[show zad (H.dig (H.inp tag (allP x.k l)))=sAV x.k tag l from rfl]at c64
 generalize sAV x.k tag l=z at *
 generalize strsAV (allP x.k l)=w at *
 rw[zai (fd:=fd39) rfl]
 simp(disch:=apply zq;omega) only[go_sem,simprocAttr,↓Nat.reduceEqDiff,xx,fd39,m39,↓out16_eq,H.out16_len,H.out16_all,H.out16_pl,c65,c64,e1,e2,d1,d2,d3]
end Go.Proofs.S50.K
