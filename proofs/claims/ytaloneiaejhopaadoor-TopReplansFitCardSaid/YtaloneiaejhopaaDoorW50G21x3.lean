/-
  Refusals: Check. No condition.
-/
import Derived.Test.YtaloneiaejhopaaDoorW50G20x3
import Derived.Test.YtaloneiaejhopaaDoorW50
import Derived.Test.YtaloneiaejhopaaDoorEvY
set_option linter.all false
open List renaming getElem?_eq_getElem->wB
open Nat renaming exists_eq_add_of_le'->wC
namespace Go.Proofs.S50
open Go Go.Ev Go.Proofs Go.Fl
variable {gl :Gl} {n:Nat}
def L42 :MC:=match m42 with| .seq _ (.seq (.seq _ (.block _ (.loop _ b))) _)=>b|_=>.skip
abbrev K42 :List Kp:=[.slot 1,.slot 2,.slot 7,.slot 8,.slot 9,.key 2]
def S42 (g:Nt)(b c:Bool)(sh:Sh)(cut:List Nat)(i:Nat):St :=
 ⟨[.set 9 (i64 (i:Int)),.set 8 (i64 (cut.length:Int)),.set 7 (.lst c .sc (us cut)),.set 2 (.ptr 2 []),.set 1 (.lst c .sc (us cut))],[(2,.fix sN2 (nV g b sh))]⟩
section
variable {d :Nat} {g:Nt} {b c:Bool} {sh:Sh} {cut:List Nat} (hn:g.n<=100) (hc:CK cut g.n) (h1:¬1∈cut)
include hn hc h1
theorem qgf {i:Nat}(hi:i<cut.length):zaz K42 (evC gl (call gl tab d) L42 (S42 g b c sh cut i))=some (S42 g b c sh cut (i+1)):=by
 have hcn:=hc.n
 obtain⟨k,hk⟩:∃k,cut[i]? =some k:=⟨_,wB hi⟩
 have hkl:=hc.l i k hk
 have hk1:k≠1:=fun e=>h1 (by rw[<-e];exact List.mem_of_getElem? hk)
 have e1:((k:Int)==1)=false:=by rw[beq_eq_false_iff_ne];omega
 have x1:=zjs hk
 cases i with
 | zero=>simp(disch:=apply zq;omega) only[go_sem,simprocAttr,↓Nat.reduceEqDiff,xx,L42,m42,S42,zao,x1,e1]
 | succ j =>
   obtain⟨m,hm⟩:∃m,cut[j]? =some m:=⟨_,wB (by omega)⟩
   have hmk:=hc.o j m k hm hk
   have x2:=zjs hm
   have e2:((j+1:Nat):Int)-1=(j:Int):=by omega
   simp(disch:=apply zq;omega) only[go_sem,simprocAttr,↓Nat.reduceEqDiff,xx,L42,m42,S42,zao,x1,x2,e1,e2]
theorem z6v (h:1<=n)(h0:cut[0]? =some 0):call gl tab n 42 [nV g b sh,.lst c .sc (us cut)] []=some (.bool true,[],[]):=by
 obtain⟨d,rfl⟩:=wC h
 have hs:=fun i hi=>@qgf gl d g b c sh cut hn hc h1 i hi
 simp only[L42,m42]at hs
 have hcn:=hc.n
 have hl:0<cut.length:=(List.getElem?_eq_some_iff.1 h0).1
 have x0:=zjs h0
 rw[zai (fd:=fd42) rfl]
 simp(disch:=apply zq;omega) only[go_sem,simprocAttr,↓Nat.reduceEqDiff,xx,fd42,m42,zao]
 rw[zak (S42 g b c sh cut) cut.length (by unfold LF;omega)]
 . simp(disch:=apply zq;omega) only[go_sem,simprocAttr,↓Nat.reduceEqDiff,xx,S42,zao,x0]
 . simp(disch:=apply zq;omega) only[go_sem,simprocAttr,↓Nat.reduceEqDiff,xx,S42,zao]
 . exact hs
 . simp(disch:=apply zq;omega) only[go_sem,simprocAttr,↓Nat.reduceEqDiff,xx,S42,zao]
end
def L65 :MC:=match m65 with| .seq _ (.seq (.seq _ (.block _ (.loop _ b))) _)=>b|_=>.skip
def S65 (c:Bool)(cut:List Nat)(v:Nat)(i:Nat):St:=⟨[.set 8 (i64 (i:Int)),.set 7 (i64 (cut.length:Int)),.set 1 (i64 (v:Int)),.set 0 (.lst c .sc (us cut))],[]⟩
theorem zu9 (h:2<=n){c:Bool}{cut:List Nat}{v:Nat}(hl:cut.length<=100000)(hv:v∈cut):call gl tab n 44 [.lst c .sc (us cut),i64 (v:Int)] []=some (.bool true,[],[]):=by
 obtain⟨d,rfl⟩:=wC h
 rcases zew (fun i=>cut[i]? ≠some v) cut.length with hA|⟨k,hk,hb,he⟩
 . obtain⟨i,hi,e⟩:=List.getElem_of_mem hv
   exact absurd (by rw[wB hi,e]) (hA i hi)
 . have he:cut[k]? =some v:=Classical.byContradiction he
   have hs:∀i,i<k->zaz [.slot 0,.slot 1,.slot 7,.slot 8] (evC gl (call gl tab d) L65 (S65 c cut v i))=some (S65 c cut v (i+1)):=fun i hi=>by
    obtain⟨m,hm⟩:∃m,cut[i]? =some m:=⟨_,wB (by omega)⟩
    have hne:m≠v:=fun e=>hb i hi (by rw[hm,e])
    have x1:=zjs hm
    have e1:((v:Int)==(m:Int))=false:=by rw[beq_eq_false_iff_ne];omega
    simp(disch:=apply zq;omega) only[go_sem,simprocAttr,↓Nat.reduceEqDiff,xx,L65,m65,S65,zao,x1,e1]
   have hx:out1 4 (evC gl (call gl tab d) L65 (S65 c cut v k))=some (.ret,i64 (k:Int)):=by
    have x1:=zjs he
    have e1:((v:Int)==(v:Int))=true:=by simp
    simp(disch:=apply zq;omega) only[go_sem,simprocAttr,↓Nat.reduceEqDiff,xx,L65,m65,S65,zao,x1,e1]
   obtain⟨st,hst,hg⟩:=zhs hx
   simp only[L65,m65]at hs hst
   have c1:call gl tab (d+1) 65 [.lst c .sc (us cut),i64 (v:Int)] []=some (i64 (k:Int),[],[]):=by
    rw[zai (fd:=fd65) rfl]
    simp(disch:=apply zq;omega) only[go_sem,simprocAttr,↓Nat.reduceEqDiff,xx,fd65,m65,zao]
    rw[zak (S65 c cut v) k (by unfold LF;omega),hst]
    . simp(disch:=apply zq;omega) only[go_sem,simprocAttr,↓Nat.reduceEqDiff,xx,hg]
    . simp(disch:=apply zq;omega) only[go_sem,simprocAttr,↓Nat.reduceEqDiff,xx,S65]
    . exact hs
    . rw[hst];rfl
   rw[zai (fd:=fd44) rfl]
   simp(disch:=apply zq;omega) only[go_sem,simprocAttr,↓Nat.reduceEqDiff,xx,fd44,m44,c1]
theorem z0g (h:1<=n){q:PF}{p:List Sp}{r:List Rd}(hq:PFOk q p r)(hp:p.length<=100){i:Nat}(hi:i<p.length)(hk:(spt p i).kd=1):call gl tab n 32 [plV q p r,i64 (i:Int)] []=some (.tup [sV (spt p i),.bool true],[],[]):=by
 obtain⟨d,rfl⟩:=wC h
 have hs:q.s=sSp:=hq.s.resolve_left fun h=>by rw[h]at hi;simp at hi
 have x1:=zen hi
 have e:((spt p i).kd != 1)=false:=by rw[hk];decide
 obtain⟨qb,qs,qc,qt⟩:=q
 simp only at hs
 subst hs
 rw[zai (fd:=fd32) rfl]
 simp(disch:=apply zq;omega) only[go_sem,simprocAttr,↓Nat.reduceEqDiff,xx,fd32,m32,zac,x1,e]
theorem zrb (h:1<=n){w:Int}(hw:0<=w/\w<=1099511627776):call gl tab n 35 [i64 w] []=some (.bool true,[],[]):=by
 obtain⟨d,rfl⟩:=wC h
 rw[zai (fd:=fd35) rfl]
 simp(disch:=apply zq;omega) only[go_sem,simprocAttr,↓Nat.reduceEqDiff,xx,fd35,m35]
structure Rf where
 pl:Nat
 nn:Int
 wn:Int
 sent:Int
 c:Bool
 cut:List Nat
 lo:Int
 hi:Int
 ser:Int
 sl:List AV
structure SlOk (l:List AV):Prop where
 len:l.length=16
 a:l.all AV.scalar=true
 i:zdk l=true
abbrev rfV (x:Rf):AV:=.agg [i64 (x.pl:Int),i64 x.nn,i64 x.wn,i64 x.sent,.lst x.c .sc (us x.cut),.agg [i64 x.lo,i64 x.hi],i64 x.ser,.agg x.sl]
abbrev nB (p:List Sp)(r:List Rd):Bool:=(netA p r).isEmpty
abbrev nS (p:List Sp)(r:List Rd):Sh:=if(netA p r).isEmpty then .sc else yA4
theorem qhv (p:List Sp)(r:List Rd):(net p r).a=[]\/nS p r=yA4:=by
 by_cases e:(netA p r)=[]
 . exact .inl e
 . unfold nS;rw[List.isEmpty_eq_false_iff.2 e];exact .inr rfl
section
variable {q :PF} {p:List Sp} {r:List Rd} (hq:PFOk q p r) (hk:PK p r) (hp:p.length<=49) (hr:r.length<=1500) {x:Rf} (hsl:SlOk x.sl)
include hq hk hp hr hsl
theorem z51 (h:4<=n)(hc:CK x.cut (net p r).n)(h1:¬1∈x.cut)(h0:x.cut[0]? =some 0)(hb:bnd (inP x.cut) (netA p r) (netA p r).length=x.sent)(hd:x.sent<dm p p.length)(hm:2+2*x.pl∈x.cut) :
  call gl tab n 41 [.cp sN2 (nV (net p r) (nB p r) (nS p r)),.cp yA8 (rfV x),.cp sPl (plV q p r)] []=some (.bool true,[],[]):=by
 obtain⟨d,rfl⟩:=wC h
 have hg:=zie hq hk hp hr
 have hcn:=hc.n
 have hgn:=hg.n
 obtain⟨j,hj⟩:=List.mem_iff_getElem?.1 hm
 have hpl:=hc.l j _ hj
 have c42:=@z6v gl (d+3) (net p r) (nB p r) x.c (nS p r) x.cut hg.n hc h1 (by omega) h0
 have c43:=@z87 gl (d+3) (net p r) (nB p r) x.c (nS p r) x.cut hg (qhv p r) hc (by omega)
 rw[show(net p r).a=netA p r from rfl,hb]at c43
 have c20:=@zm3 gl (d+3) q p r hq hk (by omega)
 have c44:=@zu9 gl (d+3) (by omega) x.c x.cut (2+2*x.pl) (by omega) hm
 rw[show((2+2*x.pl:Nat):Int)=2+2*(x.pl:Int) by omega]at c44
 have b1:(x.sent==x.sent)=true:=by simp
 rw[zai (fd:=fd41) rfl]
 simp(disch:=apply zq;omega) only[go_sem,simprocAttr,↓Nat.reduceEqDiff,xx,fd41,m41,c42,c43,c20,c44,b1,hsl.len,hsl.a,hsl.i]
theorem zya (h:6<=n)(hi:x.pl<p.length)(hkd:(spt p x.pl).kd=1)(hnn:0<=x.nn/\x.nn<(spt p x.pl).cp)(hw:0<=x.wn/\x.wn<=1099511627776)
  (hc:CK x.cut (net p r).n) (h1:¬1∈x.cut) (h0:x.cut[0]? =some 0) (hb:bnd (inP x.cut) (netA p r) (netA p r).length=x.sent) (hd:x.sent<dm p p.length) (hm:2+2*x.pl∈x.cut) :
  call gl tab n 16 [plV q p r,rfV x] []=some (i64 0,[],[]):=by
 obtain⟨d,rfl⟩:=wC h
 have c32:=@z0g gl (d+5) (by omega) q p r hq (by omega) x.pl hi hkd
 have c35:=@zrb gl (d+5) (by omega) x.wn hw
 have c19:=@z1w gl (d+5) q p r hq hk (by omega)
 have c41:=@z51 gl (d+5) q p r hq hk hp hr x hsl (by omega) hc h1 h0 hb hd hm
 have hcp:=hk.ok.cp x.pl hi
 rw[zai (fd:=fd16) rfl]
 simp(disch:=apply zq;omega) only[go_sem,simprocAttr,↓Nat.reduceEqDiff,xx,fd16,m16,c32,c35,c19,c41,hsl.len,hsl.a,hsl.i]
end
end Go.Proofs.S50
namespace Go.Proofs.S50.K
open Go Go.Ev Go.Proofs
variable {gl :Gl} {n:Nat}
abbrev i64 (n:Int):AV:=.int .i64 n
structure Ky where
 p:Int
 s:Int
 k:List UInt8
 f:Int
 t:Int
abbrev ky (x:Ky):AV:=.agg [i64 x.p,i64 x.s,.str x.k,i64 x.f,i64 x.t]
def ks (l:List Ky):List AV:=l.map fun x=>.agg [i64 x.p,i64 x.s,.str x.k,i64 x.f,i64 x.t]
abbrev sY :Sh:=.st [.sc,.sc,.sc,.sc,.sc]
def Mk (l:List Ky)(m:Sh):Prop:=l=[]\/m=sY
theorem Mk.eq {l:List Ky}{m:Sh}(h:Mk l m){i:Nat}(hi:i<l.length):m=sY:=h.resolve_left (by rintro rfl;simp at hi)
structure VK (x:Ky):Prop where
 p:1<=x.p/\x.p<=1073741824
 s:1<=x.s/\x.s<=1073741824
 k:1<=x.k.length/\x.k.length<=64
 f:0<=x.f/\x.f<x.t
 t:x.t<=1099511627776
instance (x :Ky):Decidable (VK x) :=
 decidable_of_iff ((1<=x.p/\x.p<=1073741824)/\(1<=x.s/\x.s<=1073741824)/\(1<=x.k.length/\x.k.length<=64)/\(0<=x.f/\x.f<x.t)/\x.t<=1099511627776)
  ⟨fun⟨a,b,c,d,e⟩=>⟨a,b,c,d,e⟩,fun⟨a,b,c,d,e⟩=>⟨a,b,c,d,e⟩⟩
theorem qhx (x y:Int):∃m,zgt zmg (i64 x) [i64 y]=some (i64 m)/\m<=x/\m<=y/\(m=x\/m=y):=by
 refine⟨if y<x then y else x,by simp[zgt,zmg],?_⟩
 by_cases h:y<x
 . rw[if_pos h];omega
 . rw[if_neg h];omega
theorem qhy (x y:Int):∃m,zgt zp8 (i64 x) [i64 y]=some (i64 m)/\x<=m/\y<=m/\(m=x\/m=y):=by
 refine⟨if y>x then y else x,by simp[zgt,zp8],?_⟩
 by_cases h:y>x
 . rw[if_pos h];omega
 . rw[if_neg h];omega
set_option maxHeartbeats 1000000 in
theorem valid_at (h:1<=n)(x:Ky)(hk:x.k.length<=9223372036854775807):call gl tab n 33 [ky x] []=some (.bool (decide (VK x)),[],[]):=by
 obtain⟨d,rfl⟩:=wC h
 obtain⟨mn,hmn,a1,a2,a3⟩:=qhx x.p x.s
 obtain⟨mx,hmx,b1,b2,b3⟩:=qhy x.p x.s
 rw[zai (fd:=fd33) rfl]
 by_cases h1:1<=x.p
 case neg=>rw[decide_eq_false fun v=>h1 v.p.1];simp(disch:=apply zq;omega) only[go_sem,simprocAttr,↓Nat.reduceEqDiff,xx,fd33,m33,hmn,hmx]
 by_cases h2:1<=x.s
 case neg=>rw[decide_eq_false fun v=>h2 v.s.1];simp(disch:=apply zq;omega) only[go_sem,simprocAttr,↓Nat.reduceEqDiff,xx,fd33,m33,hmn,hmx]
 by_cases h3:x.p<=1073741824
 case neg=>rw[decide_eq_false fun v=>h3 v.p.2];simp(disch:=apply zq;omega) only[go_sem,simprocAttr,↓Nat.reduceEqDiff,xx,fd33,m33,hmn,hmx]
 by_cases h4:x.s<=1073741824
 case neg=>rw[decide_eq_false fun v=>h4 v.s.2];simp(disch:=apply zq;omega) only[go_sem,simprocAttr,↓Nat.reduceEqDiff,xx,fd33,m33,hmn,hmx]
 by_cases h5:1<=x.k.length
 case neg=>rw[decide_eq_false fun v=>h5 v.k.1];simp(disch:=apply zq;omega) only[go_sem,simprocAttr,↓Nat.reduceEqDiff,xx,fd33,m33,hmn,hmx]
 by_cases h6:x.k.length<=64
 case neg=>rw[decide_eq_false fun v=>h6 v.k.2];simp(disch:=apply zq;omega) only[go_sem,simprocAttr,↓Nat.reduceEqDiff,xx,fd33,m33,hmn,hmx]
 by_cases h7:0<=x.f
 case neg=>rw[decide_eq_false fun v=>h7 v.f.1];simp(disch:=apply zq;omega) only[go_sem,simprocAttr,↓Nat.reduceEqDiff,xx,fd33,m33,hmn,hmx]
 by_cases h8:x.f<x.t
 case neg=>rw[decide_eq_false fun v=>h8 v.f.2];simp(disch:=apply zq;omega) only[go_sem,simprocAttr,↓Nat.reduceEqDiff,xx,fd33,m33,hmn,hmx]
 by_cases h9:x.t<=1099511627776
 case neg=>rw[decide_eq_false fun v=>h9 v.t];simp(disch:=apply zq;omega) only[go_sem,simprocAttr,↓Nat.reduceEqDiff,xx,fd33,m33,hmn,hmx]
 rw[decide_eq_true ⟨⟨h1,h3⟩,⟨h2,h4⟩,⟨h5,h6⟩,⟨h7,h8⟩,h9⟩];simp(disch:=apply zq;omega) only[go_sem,simprocAttr,↓Nat.reduceEqDiff,xx,fd33,m33,hmn,hmx]
def cnt (x:Ky)(lo hi:Int):Bool:=decide (0<=lo/\lo<=hi/\hi<=1099511627776/\x.f<=lo/\hi<x.t)
end Go.Proofs.S50.K
namespace Go.Proofs.S50.H
open Go Go.Ev Go.Proofs Go.Proofs.S50
abbrev i64 (n:Int):AV:=.int .i64 n
abbrev u64 (x:BitVec 64):AV:=.int .u64 (x.toNat:Int)
abbrev u32 (x:BitVec 32):AV:=.int .u32 (x.toNat:Int)
abbrev u8 (x:BitVec 8):AV:=.int .u8 (x.toNat:Int)
def ub (b:BitVec 8):UInt8:=⟨b⟩
structure GlK (gl:Gl):Prop where
 k:gl.tbl 0=some (.ar 64 .sc,.agg kA)
structure GlR (gl:Gl):Prop where
 r:gl.tbl 1=some (.ar 64 .sc,.agg kA)
def strsAV (l:List (List UInt8)):List AV:=l.map fun x=>.str x
theorem zbg (l:List (List UInt8)):(strsAV l).length=l.length:=by simp[strsAV]
theorem zjv {l:List (List UInt8)}{i:Nat}(h:i<l.length):(strsAV l)[i]? =some (.str l[i]):=by
 rw[strsAV,List.getElem?_map,wB h];rfl
theorem zfo {i:Nat}(h:i<2^62):IntKind.wrap .i64 ((i:Int)+1)=((i+1:Nat):Int):=by
 rw[zbf (by omega) (by omega)];rfl
theorem glK {gl:Gl}[h:Nonempty (GlK gl)]:gl.tbl 0=some (.ar 64 .sc,.agg kA):=h.elim fun h=>h.k
theorem zq1 {l:List UInt8}{n:Nat}(h:l.length=n):(zad l).take n=zad l:=by rw[<-h,zk4]
theorem zwe {n:Nat}(h:n<2^36):n+1<=LIM:=by unfold LIM;omega
theorem zb1 (a b:List UInt8):zad (a++b)=zad a++zad b:=by simp[zad]
theorem zuc (a b:Nat)(h:0<b):zar .rem .i64 (a:Int) (b:Int)=some (.int .i64 ((a%b:Nat):Int)):=by
 have hb:¬((b:Int)=0):=by omega
 simp only[zar,hb,if_false];rfl
theorem noImms_bytesAV :∀l:List UInt8,zdk (zad l)=true
 | []=>rfl
 | b::l=>by
   show(zdl (.int .u8 (b.toNat:Int))&&zdk (zad l))=true
   rw[noImms_bytesAV l];rfl
end Go.Proofs.S50.H
