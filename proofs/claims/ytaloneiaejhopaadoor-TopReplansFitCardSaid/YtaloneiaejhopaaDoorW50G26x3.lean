/-
  Lists of integers as bytes. No condition.
-/
import Derived.Test.YtaloneiaejhopaaDoorW50G25x3
import Derived.Test.YtaloneiaejhopaaDoorW50G21x3
set_option linter.all false
open List renaming take_of_length_le->wB,length_append->wC,not_mem_nil->wD,mem_cons->wE
open Nat renaming exists_eq_add_of_le'->wF,le_refl->wG,le_trans->wH
namespace Go.Proofs.S50.H
open Go Go.Ev Go.Proofs Go.Proofs.S50
variable {gl :Gl}
def nsI (l:List Int):List AV:=l.map fun n=>.int .i64 n
theorem zfv (l:List Int):(nsI l).length=l.length:=by simp[nsI]
theorem qcv {l:List Int}{i:Nat}(h:i<l.length):(nsI l)[i]? =some (.int .i64 l[i]):=by simp[nsI,h]
def qkc (l:List Int):Prop:=l.length<=1000/\∀x∈l,-9223372036854775808<=x/\x<=9223372036854775807
theorem qd7 {l:List Int}(h:qkc l){i:Nat}(hi:i<l.length):-9223372036854775808<=l[i]/\l[i]<=9223372036854775807:=h.2 _ (List.getElem_mem hi)
def zints (l:List Int):List UInt8:=zint l.length++(l.map zint).flatten
def zpre (l:List Int)(i:Nat):List UInt8:=zint l.length++((l.take i).map zint).flatten
theorem z9j (l:List Int):zpre l 0=zint l.length:=by simp[zpre]
theorem zo6 (l:List Int):zpre l l.length=zints l:=by simp[zpre,zints]
theorem z9i {l:List Int}{i:Nat}(hi:i<l.length):zpre l (i+1)=zpre l i++zint l[i]:=by
 unfold zpre;rw[List.take_succ_eq_append_getElem hi,List.map_append,List.flatten_append,<-List.append_assoc];simp
theorem zo5 {l:List Int}:∀{i:Nat},i<=l.length->(zpre l i).length<=10*(i+1)
 | 0,_=>by rw[z9j];have:=ziq l.length;omega
 | i+1,h=>by
   have h1:=zo5 (l:=l) (i:=i) (by omega)
   have h2:=ziq l[i]
   rw[z9i (by omega),wC];omega
theorem zints_len {l:List Int}:(zints l).length<=10*(l.length+1):=by rw[<-zo6];exact zo5 (wG _)
def LwI :MC:=match m85 with| .seq _ (.seq _ (.seq (.seq _ (.block _ (.loop _ b))) _))=>b|_=>.skip
def SwI (f:Bool)(l:List Int)(i:Nat):St :=
 ⟨[.set 13 (.int .i64 i),.set 12 (.int .i64 l.length),.set 11 (.lst f .sc (nsI l)),.set 5 (.sl 5005 [] 0 (zpre l i).length),.set 1 (.fn 86 [])],[(5005,.grow .sc (zad (zpre l i)))]⟩
theorem ints_ok {n:Nat}(h:3<=n)(f:Bool)(l:List Int)(hl:qkc l):call gl tab n 63 [.lst f .sc (nsI l)] []=some (.sl 20000 [] 0 (zints l).length,[],[.grow .sc (zad (zints l))]):=by
 obtain⟨d,rfl⟩:=wF h
 have h1:=hl.1
 have hs:∀i,i<l.length->zaz [.slot 1,.own 5 5005 .sc,.slot 11,.slot 12,.slot 13] (evC gl (call gl tab (d+1)) LwI (SwI f l i))=some (SwI f l (i+1)):=fun i hi=>by
  have hx:=qcv hi
  have c:=zqh (gl:=gl) d l[i] (qd7 hl hi)
  have hz:=ziq l[i]
  have hp:=zo5 (l:=l) (i:=i) (by omega)
  have hL:(zpre l i).length+(zint l[i]).length<=LIM:=by unfold LIM;omega
  rw[SwI,SwI,z9i hi,zb1,wC]
  generalize zpre l i=p at *
  generalize zint l[i]=q at *
  simp(disch:=apply zq;omega) only[go_sem,simprocAttr,↓Nat.reduceEqDiff,xx,LwI,m85,hx,zfv,c,zal,hL]
 simp only[LwI,m85]at hs
 have c0:=zqh (gl:=gl) d (l.length:Int) (by omega)
 have e2:=zal (zints l)
 have cl:call gl tab (d+2) 85 [.lst f .sc (nsI l),.fn 86 []] []=some (.sl 20000 [] 0 (zints l).length,[],[.grow .sc (zad (zints l))]):=by
  rw[zai (fd:=fd85) rfl]
  simp(disch:=apply zq;omega) only[go_sem,simprocAttr,↓Nat.reduceEqDiff,xx,fd85,m85,zfv,c0]
  rw[zak (SwI f l) l.length (by unfold LF;omega)]
  . rw[SwI,zo6]
    simp(disch:=apply zq;omega) only[go_sem,simprocAttr,↓Nat.reduceEqDiff,xx,zfv,zal]
  . simp(disch:=apply zq;omega) only[go_sem,simprocAttr,↓Nat.reduceEqDiff,xx,SwI,z9j,zfv]
  . exact hs
  . rw[SwI,zo6]
    simp(disch:=apply zq;omega) only[go_sem,simprocAttr,↓Nat.reduceEqDiff,xx,zfv,zal]
 rw[zai (fd:=fd63) rfl]
 generalize zints l=z at *
 simp(disch:=apply zq;omega) only[go_sem,simprocAttr,↓Nat.reduceEqDiff,xx,fd63,m63,cl,e2,noImms_bytesAV]
end Go.Proofs.S50.H
namespace Go.Proofs.S50
open Go Go.Ev Go.Proofs Go.Fl
variable {gl :Gl} {n:Nat}
theorem z0h (h:1<=n){q:PF}{p:List Sp}{r:List Rd}(hp:p.length<=1000){w:Fq}{fl:List Int}{i:Nat}(hi:i<p.length)(hl:i<fl.length):call gl tab n 37 [plV q p r,fqV w fl,i64 (i:Int)] []=some (i64 (nth fl i),[],[]):=by
 obtain⟨d,rfl⟩:=wF h
 have x1:=zb2 hl
 rw[zai (fd:=fd37) rfl]
 simp(disch:=apply zq;omega) only[go_sem,simprocAttr,↓Nat.reduceEqDiff,xx,fd37,m37,zac,zab,x1]
theorem zyf (h:6<=n){q:PF}{p:List Sp}{r:List Rd}(hq:PFOk q p r)(hk:PK p r)(hp:p.length<=49)(hr:r.length<=1500){sent:Int}{fl pr:List Int}{cut:List Nat}(hs:SR (net p r) 0 1 (dm p p.length) fl pr sent cut)
  {w:Fq} (w1:w.s=sent) (w2:w.c=tot (netA p r) fl (netA p r).length) (w3:w.pr=pr) (w4:w.cut=cut):call gl tab n 36 [plV q p r,fqV w fl] []=some (i64 0,[],[]):=by
 obtain⟨d,rfl⟩:=wF h
 have c17:=@zr9 gl (d+5) (by omega) q p r hq hk
 have c19:=@z1w gl (d+5) q p r hq hk (by omega)
 have c20:=@zm3 gl (d+5) q p r hq hk (by omega)
 have hb:=dm_b hk.ok.cp p.length (wG _)
 have c60:=@z5p gl (d+5) (by omega) (net p r) (nB p r) (nS p r) 0 1 (dm p p.length) sent fl pr cut w (zie hq hk hp hr) (qhv p r) (by show 0<2+2*p.length;omega) (by show 1<2+2*p.length;omega) (by omega) hs (by omega) w1 w2 w3 w4
 rw[show((0:Nat):Int)=0 from rfl,show((1:Nat):Int)=1 from rfl]at c60
 rw[zai (fd:=fd36) rfl]
 simp(disch:=apply zq;omega) only[go_sem,simprocAttr,↓Nat.reduceEqDiff,xx,fd36,m36,c17,c19,c20,c60]
theorem z83 (h:1<=n){a b:Int}(ha:0<=a)(hab:a<=b)(hb:b<=1099511627776):call gl tab n 34 [.agg [i64 a,i64 b]] []=some (.bool true,[],[]):=by
 obtain⟨d,rfl⟩:=wF h
 rw[zai (fd:=fd34) rfl]
 simp(disch:=apply zq;omega) only[go_sem,simprocAttr,↓Nat.reduceEqDiff,xx,fd34,m34]
def rp1 (x:Rf):List UInt8:=H.zints [(x.pl:Int),x.nn,x.wn,x.sent,x.lo,x.hi,x.ser]
def rp2 (x:Rf):List UInt8:=H.zints (x.cut.map fun(k:Nat)=>(k:Int))
structure RfOk (x:Rf):Prop where
 sl:SlOk x.sl
 b:∀y∈[(x.pl:Int),x.nn,x.wn,x.sent,x.lo,x.hi,x.ser],-9223372036854775808<=y/\y<=9223372036854775807
 l:x.cut.length<=1000
 c:∀k∈x.cut,k<=1000000
theorem z63 (h:4<=n){x:Rf}(hx:RfOk x):call gl tab n 40 [rfV x] []=some (.sl 20000 [] 0 2,[],[.grow .sc (H.strsAV [rp1 x,rp2 x])]):=by
 obtain⟨d,rfl⟩:=wF h
 have c1:=@H.ints_ok gl (d+3) (by omega) false [(x.pl:Int),x.nn,x.wn,x.sent,x.lo,x.hi,x.ser] ⟨by simp,hx.b⟩
 have c2:=@H.ints_ok gl (d+3) (by omega) x.c (x.cut.map fun(k:Nat)=>(k:Int)) ⟨by simp;exact hx.l,fun y hy=>by
  obtain⟨k,hk,rfl⟩:=List.mem_map.1 hy
  have:=hx.c k hk
  omega⟩
 have e1:H.nsI [(x.pl:Int),x.nn,x.wn,x.sent,x.lo,x.hi,x.ser]=[i64 (x.pl:Int),i64 x.nn,i64 x.wn,i64 x.sent,i64 x.lo,i64 x.hi,i64 x.ser]:=rfl
 have e2:H.nsI (x.cut.map fun(k:Nat)=>(k:Int))=us x.cut:=by unfold H.nsI us;rw[List.map_map];rfl
 rw[e1,show H.zints [(x.pl:Int),x.nn,x.wn,x.sent,x.lo,x.hi,x.ser]=rp1 x from rfl]at c1
 rw[e2,show H.zints (x.cut.map fun(k:Nat)=>(k:Int))=rp2 x from rfl]at c2
 generalize rp1 x=a at *
 generalize rp2 x=b at *
 have e3:H.strsAV [a,b]=[.str a,.str b]:=rfl
 rw[e3]
 rw[zai (fd:=fd40) rfl]
 have ta:(zad a).take a.length=zad a:=wB (by rw[zal];exact wG _)
 have tb:(zad b).take b.length=zad b:=wB (by rw[zal];exact wG _)
 simp(disch:=apply zq;omega) only[go_sem,simprocAttr,↓Nat.reduceEqDiff,xx,fd40,m40,c1,c2,hx.sl.len,hx.sl.a,hx.sl.i,H.noImms_bytesAV,ta,tb]
abbrev kyV (p s:Int)(k:List UInt8)(f t:Int):AV:=.agg [i64 p,i64 s,.str k,i64 f,i64 t]
set_option maxHeartbeats 2000000 in
theorem z6g [Nonempty (H.GlK gl)](h:10<=n){q:PF}{p:List Sp}{r:List Rd}(hq:PFOk q p r)(hk:PK p r)(hp:p.length<=49)(hr:r.length<=1500){sent:Int}{fl pr:List Int}{cut:List Nat}(hs:SR (net p r) 0 1 (dm p p.length) fl pr sent cut)
  {w:Fq} (w1:w.s=sent) (w2:w.c=tot (netA p r) fl (netA p r).length) (w3:w.pr=pr) (w4:w.cut=cut) (hcl:cut≠[])
  (Y:K.Ky) (hK:K.VK Y) {i:Nat} (hi:i<p.length) (hkd:(spt p i).kd=1) (hKp:Y.p=1000+(spt p i).nu) {nn wn lo ho:Int} (hn1:nth fl i<=nn) (hn2:nn<(spt p i).cp) (hw:0<=wn/\wn<=1099511627776) (h1:0<=lo) (h2:lo<=ho) (h3:ho<=1099511627776) :
  ∃sl,SlOk sl/\call gl tab n 13 [kyV Y.p Y.s Y.k Y.f Y.t,plV q p r,fqV w fl,i64 (i:Int),i64 nn,i64 wn,.agg [i64 lo,i64 ho]] []=some (.tup [rfV ⟨i,nn,wn,sent,false,cut,lo,ho,Y.s,sl⟩,i64 0],[],[]):=by
 obtain⟨d,rfl⟩:=wF h
 have hg:=zie hq hk hp hr
 have c32:=@z0g gl (d+9) (by omega) q p r hq (by omega) i hi hkd
 have c33:=@K.valid_at gl (d+9) (by omega) Y (by have:=hK.k;omega)
 rw[decide_eq_true hK]at c33
 have c34:=@z83 gl (d+9) (by omega) lo ho h1 h2 h3
 have c35:=@zrb gl (d+9) (by omega) wn hw
 have c36:=@zyf gl (d+9) (by omega) q p r hq hk hp hr sent fl pr cut hs w w1 w2 w3 w4
 have hln:=zd3 p r
 have hfl:fl.length=(netA p r).length:=hs.si.fb.l
 have c37:=@z0h gl (d+9) (by omega) q p r (by omega) w fl i hi (by omega)
 have hfb:=hs.si.fb.b i (by show i<(netA p r).length;omega)
 have hcp:=hk.ok.cp i hi
 have hsa:=hs.si.sa
 have hdb:=dm_b hk.ok.cp p.length (wG _)
 have hck:CK cut (net p r).n:=by
  rcases hs.c with ⟨_,e⟩|⟨_,out,_,_,e⟩
  . exact absurd e hcl
  . rw[e];exact zu8 out _
 have hgn:=hg.n
 have hcn:=hck.n
 have z16:SlOk H.out16l:=⟨H.out16_len,H.out16_all,H.out16_pl⟩
 have ok:RfOk ⟨i,nn,wn,sent,false,cut,lo,ho,Y.s,H.out16l⟩:=⟨z16,fun y hy=>by
  have:=hK.s
  simp only[wE,wD,or_false]at hy
  rcases hy with rfl|rfl|rfl|rfl|rfl|rfl|rfl<;>omega,by simp only;omega,fun k hkc=>by
  obtain⟨j,hj,e⟩:=List.getElem_of_mem hkc
  have:=hck.l j k (by rw[List.getElem?_eq_getElem hj,e])
  omega⟩
 have c40:=@z63 gl (d+9) (by omega) _ ok
 have hpt:K.Pts [rp1 ⟨i,nn,wn,sent,false,cut,lo,ho,Y.s,H.out16l⟩,rp2 ⟨i,nn,wn,sent,false,cut,lo,ho,Y.s,H.out16l⟩]:=⟨by simp,fun y hy=>by
  simp only[wE,wD,or_false]at hy
  rcases hy with rfl|rfl
  . refine wH H.zints_len ?_
    simp
  . refine wH H.zints_len ?_
    rw[List.length_map];simp only;omega⟩
 have c39:=@K.make_at gl (d+9) _ (by omega) Y (by have:=hK.k;omega) 410 false _ hpt
 refine⟨K.sAV Y.k 410 [rp1 ⟨i,nn,wn,sent,false,cut,lo,ho,Y.s,H.out16l⟩,rp2 ⟨i,nn,wn,sent,false,cut,lo,ho,Y.s,H.out16l⟩],⟨K.sAV_len _ _ _,K.sAV_all _ _ _,K.sAV_pl _ _ _⟩,?_⟩
 have d1:=K.sAV_len Y.k 410 [rp1 ⟨i,nn,wn,sent,false,cut,lo,ho,Y.s,H.out16l⟩,rp2 ⟨i,nn,wn,sent,false,cut,lo,ho,Y.s,H.out16l⟩]
 have d2:=K.sAV_all Y.k 410 [rp1 ⟨i,nn,wn,sent,false,cut,lo,ho,Y.s,H.out16l⟩,rp2 ⟨i,nn,wn,sent,false,cut,lo,ho,Y.s,H.out16l⟩]
 have d3:=K.sAV_pl Y.k 410 [rp1 ⟨i,nn,wn,sent,false,cut,lo,ho,Y.s,H.out16l⟩,rp2 ⟨i,nn,wn,sent,false,cut,lo,ho,Y.s,H.out16l⟩]
 generalize K.sAV Y.k 410 [rp1 ⟨i,nn,wn,sent,false,cut,lo,ho,Y.s,H.out16l⟩,rp2 ⟨i,nn,wn,sent,false,cut,lo,ho,Y.s,H.out16l⟩]=sl at *
 generalize hprt:H.strsAV [rp1 ⟨i,nn,wn,sent,false,cut,lo,ho,Y.s,H.out16l⟩,rp2 ⟨i,nn,wn,sent,false,cut,lo,ho,Y.s,H.out16l⟩]=prt at *
 have hp2:prt.length=2:=by rw[<-hprt];rfl
 have hpt2:prt.take 2=prt:=wB (by omega)
 have htc:(us w.cut).take w.cut.length=us w.cut:=wB (by rw[zao];exact wG _)
 have hpi:zdk prt=true:=by rw[<-hprt];rfl
 have z1:=z16.len
 have z2:=z16.a
 have z3:=z16.i
 simp only[rfV]at c40
 have c38:call gl tab (d+9) 38 [.lst w.b3 .sc (us w.cut)] []=some (.sl 20000 [] 0 w.cut.length,[],[.grow .sc (us w.cut)]):=by
  have h1:w.cut.length<=LIM:=by unfold LIM;rw[w4];omega
  rw[zd4 (fd:=fd38) rfl rfl]
  simp[zov,zao,h1,Sh.beq]
 have e39:(Y.p != 1000+(spt p i).nu)=false:=by rw[hKp];simp
 have hKs:=hK.s
 have hnu:=hk.ok.nu i hi
 have hul:(us cut).length=cut.length:=zao cut
 have hcl2:0<cut.length:=List.length_pos_iff.2 hcl
 rw[zai (fd:=fd13) rfl]
 subst w1 w4
 simp(disch:=apply zq;omega) only[go_sem,simprocAttr,↓Nat.reduceEqDiff,xx,fd13,m13,↓K.out16_eq,c38,c32,c33,c34,c35,c36,c37,c39,c40,e39,d1,d2,d3,z1,z2,z3,hul,hp2,hpt2,htc,hpi]
end Go.Proofs.S50
namespace Go.Proofs.S50
open Go Go.Ev Go.Proofs Go.Fl
variable {gl :Gl} {n:Nat}
theorem z5a {P Q:Nat->Bool}{a:List Ar}:∀{m:Nat},(∀i,i<m->P (art a i).f=Q (art a i).f/\P (art a i).t=Q (art a i).t)->bnd P a m=bnd Q a m
 | 0,_=>rfl
 | m+1,h=>by
   obtain⟨h1,h2⟩:=h m (by omega)
   rw[bnd,bnd,z5a fun i hi=>h i (by omega),h1,h2]
theorem ztb {out:List Int}(h:nth out 0<far):∀n,0<n->(cutL out n)[0]? =some 0
 | 0,h0=>absurd h0 (Nat.lt_irrefl 0)
 | 1,_=>by rw[cutL,if_pos h];rfl
 | n+2,_=>by
   have ih:=ztb h (n+1) (by omega)
   rw[cutL];split
   . rw[List.getElem?_append_left (List.getElem?_eq_some_iff.1 ih).1];exact ih
   . exact ih
structure CutOk (p:List Sp)(r:List Rd)(fl:List Int)(sent:Int)(cut:List Nat):Prop where
 ck:CK cut (net p r).n
 h1:¬1∈cut
 h0:cut[0]? =some 0
 b:bnd (inP cut) (netA p r) (netA p r).length=sent
 m:∀i,i<p.length->(spt p i).kd=1->nth fl i<(spt p i).cp->2+2*i∈cut
theorem qjl {q:PF}{p:List Sp}{r:List Rd}(hq:PFOk q p r)(hk:PK p r)(hp:p.length<=49)(hr:r.length<=1500){A sent:Int}{fl pr:List Int}{cut:List Nat}(hs:SR (net p r) 0 1 A fl pr sent cut)(hlt:sent<A):CutOk p r fl sent cut:=by
 have hg:=zie hq hk hp hr
 have hgn:=hg.n
 have h0n:0<(net p r).n:=by show 0<2+2*p.length;omega
 have h1n:1<(net p r).n:=by show 1<2+2*p.length;omega
 rcases hs.c with ⟨e,_⟩|⟨_,out,hd,hfar,e⟩
 . omega
 have hB:((net p r).n:Int)*1048576+1048576<far:=by
  have hnK:((net p r).n:Int)*1048576<=100*1048576:=Int.mul_le_mul_of_nonneg_right (by omega) (by decide)
  unfold far;omega
 have hm:∀v,v<(net p r).n->(v∈cut↔nth out v<far):=fun v hv=>by
  rw[e,zff]
  exact⟨fun h=>h.2,fun h=>⟨hv,h⟩⟩
 have h0:nth out 0<far:=by rw[hd.sz];unfold far;decide
 refine⟨by rw[e];exact zu8 out _,fun h=> ?_,by rw[e];exact ztb h0 _ h0n,?_,fun i hi hkd hl=> ?_⟩
 . have:=(hm 1 h1n).1 h
   omega
 . have hb:=qem hg.ok (by decide) hB h0n hs.si hd hfar
   rw[<-hb]
   refine z5a fun i hi=>⟨?_,?_⟩
   . have:=hm _ (hg.ok.f i hi)
     show decide _=decide _
     exact decide_eq_decide.2 this
   . have:=hm _ (hg.ok.t i hi)
     show decide _=decide _
     exact decide_eq_decide.2 this
 . rw[hm _ (by show 2+2*i<2+2*p.length;omega)]
   exact zrl hk.ok hg.ok (by decide) hB hs.si hd hi hkd hl
def p0 :List Sp:=[⟨1,1,3⟩,⟨2,10,9⟩,⟨3,7,2⟩]
def r0 :List Rd:=[⟨0,1,9,1⟩,⟨1,2,9,1⟩]
theorem lt3 {P:Nat->Prop}(h0:P 0)(h1:P 1)(h2:P 2):∀i,i<3->P i:=fun i hi=>by
 rcases i with _|_|_|i
 . exact h0
 . exact h1
 . exact h2
 . omega
theorem lt2 {P:Nat->Prop}(h0:P 0)(h1:P 1):∀i,i<2->P i:=fun i hi=>by
 rcases i with _|_|i
 . exact h0
 . exact h1
 . omega
theorem pk0 :PK p0 r0 where
 s:=lt3 (P:=fun i=>SpOk (spt p0 i)) ⟨by decide,.inl (by decide)⟩ ⟨by decide,.inr (by decide)⟩ ⟨by decide,.inr (by decide)⟩
 ok:=by
  refine⟨by decide,by decide,?_,?_,?_,?_,?_,?_,?_⟩
  . exact lt3 (P:=fun i=>(spt p0 i).kd=1\/(spt p0 i).kd=2\/(spt p0 i).kd=3) (by decide) (by decide) (by decide)
  . exact lt3 (P:=fun i=>0<=(spt p0 i).nu/\(spt p0 i).nu<=1073741824) (by decide) (by decide) (by decide)
  . exact lt3 (P:=fun i=>0<=(spt p0 i).cp/\(spt p0 i).cp<=1073741824) (by decide) (by decide) (by decide)
  . intro i j hij hj
    have hj:j<3:=hj
    have:(i=0/\j=1)\/(i=0/\j=2)\/(i=1/\j=2):=by omega
    rcases this with ⟨rfl,rfl⟩|⟨rfl,rfl⟩|⟨rfl,rfl⟩<;>decide
  . exact lt2 (P:=fun i=>0<=(rdt r0 i).f/\(rdt r0 i).f<p0.length/\0<=(rdt r0 i).t/\(rdt r0 i).t<p0.length/\(rdt r0 i).f≠(rdt r0 i).t) (by decide) (by decide)
  . exact lt2 (P:=fun i=>0<=(rdt r0 i).c/\(rdt r0 i).c<=1073741824/\0<=(rdt r0 i).k/\(rdt r0 i).k<=1048576) (by decide) (by decide)
  . exact lt2 (P:=fun i=>(spt p0 (rdt r0 i).f.toNat).kd≠3/\(spt p0 (rdt r0 i).t.toNat).kd≠1) (by decide) (by decide)
theorem dm0 :dm p0 p0.length=3:=by decide
theorem qkj {q:PF}(hq:PFOk q p0 r0){fl pr:List Int}{sent:Int}{cut:List Nat}(hs:SR (net p0 r0) 0 1 3 fl pr sent cut):sent=2/\nth fl 0=2:=by
 have hg:=zie hq pk0 (by decide) (by decide)
 have hsi:=hs.si
 have gv:=hsi.gv
 have b:=hsi.fb.b
 have hl:(net p0 r0).a.length=7:=rfl
 have g2:=gv 2
 have g3:=gv 3
 have g4:=gv 4
 have g5:=gv 5
 have g6:=gv 6
 have g7:=gv 7
 have g0:=gv 0
 rw[hl]at g2 g3 g4 g5 g6 g7 g0
 have b0:=b 0 (by rw[hl];decide)
 have b1:=b 1 (by rw[hl];decide)
 have b2:=b 2 (by rw[hl];decide)
 have b3:=b 3 (by rw[hl];decide)
 have b4:=b 4 (by rw[hl];decide)
 have b5:=b 5 (by rw[hl];decide)
 have b6:=b 6 (by rw[hl];decide)
 have a0:art (net p0 r0).a 0=⟨2,3,3,0⟩:=rfl
 have a1:art (net p0 r0).a 1=⟨4,5,9,0⟩:=rfl
 have a2:art (net p0 r0).a 2=⟨6,7,2,0⟩:=rfl
 have a3:art (net p0 r0).a 3=⟨0,2,3,0⟩:=rfl
 have a4:art (net p0 r0).a 4=⟨7,1,2,0⟩:=rfl
 have a5:art (net p0 r0).a 5=⟨3,4,9,1⟩:=rfl
 have a6:art (net p0 r0).a 6=⟨5,6,9,1⟩:=rfl
 rw[a0]at b0
 rw[a1]at b1
 rw[a2]at b2
 rw[a3]at b3
 rw[a4]at b4
 rw[a5]at b5
 rw[a6]at b6
 simp only[giv,a0,a1,a2,a3,a4,a5,a6]at g0 g2 g3 g4 g5 g6 g7
 simp at g0 g2 g3 g4 g5 g6 g7
 simp only at b0 b1 b2 b3 b4 b5 b6
 have hsl:sent<=2:=by omega
 rcases hs.c with ⟨e,_⟩|⟨_,out,hd,hfar,e⟩
 . omega
 by_cases h2:sent=2
 . exact⟨h2,by omega⟩
 exfalso
 have hB:((net p0 r0).n:Int)*1048576+1048576<far:=by decide
 have h0n:0<(net p0 r0).n:=by decide
 have st:∀v i t:Nat,v<8->i<7->(art (net p0 r0).a i).f=v->(art (net p0 r0).a i).t=t->nth fl i<(art (net p0 r0).a i).c->nth out v<far->nth out t<far:=fun v i t hv hi h1 h2 h3 h4=>by
  have:=z4q hg.ok (by decide) hB h0n hsi.pb hd (v:=v) (i:=i) hv h4 ⟨hi,.inl h1⟩ (by unfold room;rw[if_pos h1];omega)
  unfold oth at this
  rw[if_pos h1,h2]at this
  exact this
 have o0:nth out 0<far:=by rw[hd.sz];unfold far;decide
 have o2:=st 0 3 2 (by omega) (by omega) rfl rfl (by rw[a3];simp only;omega) o0
 have o3:=st 2 0 3 (by omega) (by omega) rfl rfl (by rw[a0];simp only;omega) o2
 have o4:=st 3 5 4 (by omega) (by omega) rfl rfl (by rw[a5];simp only;omega) o3
 have o5:=st 4 1 5 (by omega) (by omega) rfl rfl (by rw[a1];simp only;omega) o4
 have o6:=st 5 6 6 (by omega) (by omega) rfl rfl (by rw[a6];simp only;omega) o5
 have o7:=st 6 2 7 (by omega) (by omega) rfl rfl (by rw[a2];simp only;omega) o6
 have o1:=st 7 4 1 (by omega) (by omega) rfl rfl (by rw[a4];simp only;omega) o7
 omega
end Go.Proofs.S50
