/-
  Chapter 4: keys; what is valid; what counts. No condition.
-/
import Derived.Test.YtaloneiaejhopaaGreatDoorW51G0x3
import Derived.Test.YtaloneiaejhopaaGreatDoorEvY
import Derived.Test.YtaloneiaejhopaaGreatDoorW51G9x3
set_option linter.all false
open Nat renaming reduceEqDiff->wB,exists_eq_add_of_le'->wC,le_refl->wD,zero_add->wE,mod_lt->wF
open List renaming length_append->wG,nil_append->wH,length_singleton->wJ,getElem?_eq_getElem->wK,cons_append->wM,length_nil->wN,length_cons->wO,length_take->wP,length_drop->wQ,take_of_length_le->wR,mem_map->wS,getElem?_map->wT,append_assoc->wU,not_mem_nil->wW,all_eq_true->wX,length_set->wY,getD_eq_getElem?_getD->wZ,mem_cons->w0,length_pos_iff->w5,getElem_mem->w6,map_take->w7,map_drop->w8,map_cons->w9,map_set->wa,map_nil->wb
namespace Go.Proofs.S51.K
open Go Go.Ev Go.Proofs
variable {gl :Gl} {n:Nat}
abbrev i64 (n:Int):AV:=.int .i64 n
structure Ky where
 p:Int
 s:Int
 k:List UInt8
 f:Int
 t:Int
abbrev ky (x:Ky):AV:=.agg [i64 x.p,i64 x.s,.str x.k,i64 x.f,i64 x.t]
structure VK (x:Ky):Prop where
 p:1<=x.p/\x.p<=1073741824
 s:1<=x.s/\x.s<=1073741824
 k:1<=x.k.length/\x.k.length<=64
 f:0<=x.f/\x.f<x.t
 t:x.t<=1099511627776
theorem RW (x y:Int):∃m,fL ka (i64 x) [i64 y]=some (i64 m)/\m<=x/\m<=y/\(m=x\/m=y):=by
 refine⟨if y<x then y else x,by simp[fL,ka],?_⟩;by_cases h:y<x
 . rw[if_pos h];omega
 . rw[if_neg h];omega
theorem RX (x y:Int):∃m,fL mI (i64 x) [i64 y]=some (i64 m)/\x<=m/\y<=m/\(m=x\/m=y):=by
 refine⟨if y>x then y else x,by simp[fL,mI],?_⟩;by_cases h:y>x
 . rw[if_pos h];omega
 . rw[if_neg h];omega
theorem valid_at (h:1<=n){x:Ky}(hk:VK x):call gl tab n 29 [ky x] []=some (.bool true,[],[]):=by obtain⟨d,rfl⟩:=wC h;obtain⟨mn,hmn,a1,a2,a3⟩:=RW x.p x.s;obtain⟨mx,hmx,b1,b2,b3⟩:=RX x.p x.s;obtain⟨v1,v2,v3,v4,v5⟩:=hk;rw[au (fd:=Ty) rfl];simp(disch:=apply zq;omega) only[go_sem,simprocAttr,↓wB,xx,Ty,m29,hmn,hmx]
end Go.Proofs.S51.K
namespace Go.Proofs.S51.H
open Go Go.Ev Go.Proofs Go.Proofs.S51
abbrev i64 (n:Int):AV:=.int .i64 n
abbrev u64 (x:BitVec 64):AV:=.int .u64 (x.toNat:Int)
abbrev u32 (x:BitVec 32):AV:=.int .u32 (x.toNat:Int)
abbrev u8 (x:BitVec 8):AV:=.int .u8 (x.toNat:Int)
def ub (b:BitVec 8):UInt8:=⟨b⟩
structure GlK (gl:Gl):Prop where
 k:gl.tbl 0=some (.ar 64 .sc,.agg kA)
def strsAV (l:List (List UInt8)):List AV:=l.map fun x=>.str x
theorem bM (l:List (List UInt8)):(strsAV l).length=l.length:=by simp[strsAV]
theorem mP {l:List (List UInt8)}{i:Nat}(h:i<l.length):(strsAV l)[i]? =some (.str l[i]):=by rw[strsAV,wT,wK h];rfl
theorem glK {gl:Gl}[h:Nonempty (GlK gl)]:gl.tbl 0=some (.ar 64 .sc,.agg kA):=h.elim fun h=>h.k
theorem j2 (l:List UInt8)(b:BitVec 8):az (l++[ub b])=az l++[.int .u8 (b.toNat:Int)]:=by simp[az,ub]
theorem u0 {l:List UInt8}{n:Nat}(h:l.length=n):(az l).take n=az l:=by rw[<-h,oQ]
theorem yi {n:Nat}(h:n<2^36):n+1<=LIM:=by unfold LIM;omega
theorem eE (a b:List UInt8):az (a++b)=az a++az b:=by simp[az]
theorem D2 (a b:Nat)(h:0<b):aM .rem .i64 (a:Int) (b:Int)=some (.int .i64 ((a%b:Nat):Int)):=by
 have hb:¬((b:Int)=0):=by omega
 simp only[aM,hb,if_false];rfl
theorem noImms_bytesAV :∀l:List UInt8,dN (az l)=true
 | []=>rfl
 | b::l=>by show(db (.int .u8 (b.toNat:Int))&&dN (az l))=true;rw[noImms_bytesAV l];rfl
section
variable {gl :Gl}
theorem r5 (d:Nat)(x:BitVec 32)(k:Int):∃y:BitVec 32,call gl tab (d+1) 130 [u32 x,.int .i64 k] []=some (u32 y,[],[]):=by apply Exists.intro;rw[au (fd:=Kx) rfl];simp only[Kx,U9,go_sem,simprocAttr,↓wB];rfl
theorem Pp (d:Nat)(x:BitVec 32)(i j k:Int):∃y:BitVec 32,call gl tab (d+2) 127 [u32 x,.int .i64 i,.int .i64 j,.int .i64 k] []=some (u32 y,[],[]):=by obtain⟨a,ha⟩:=r5 (gl:=gl) d x (IntKind.wrap .i64 (0-i));obtain⟨b,hb⟩:=r5 (gl:=gl) d x (IntKind.wrap .i64 (0-j));obtain⟨c,hc⟩:=r5 (gl:=gl) d x (IntKind.wrap .i64 (0-k));apply Exists.intro;rw[au (fd:=Kz) rfl];simp only[Kz,Va,go_sem,simprocAttr,↓wB,ha,hb,hc];rfl
abbrev Ws :=List (BitVec 32)
def ml (l:Ws):List AV:=l.map fun x=>u32 x
theorem gy (l:Ws):(ml l).length=l.length:=by simp[ml]
theorem nF {l:Ws}{i:Nat}(h:i<l.length):(ml l)[i]? =some (u32 (l.getD i 0)):=by rw[ml,wT,wK h,wZ,wK h];rfl
theorem zD (l:Ws)(i:Nat)(x:BitVec 32):ml (l.set i x)=(ml l).set i (u32 x):=by simp[ml,wa]
theorem Hg (l:Ws):(ml l).all AV.scalar=true:=by rw[wX];intro x hx;obtain⟨y,_,rfl⟩:=wS.1 hx;rfl
theorem bytes_all (l:List UInt8):(az l).all AV.scalar=true:=by rw[wX];intro x hx;obtain⟨y,_,rfl⟩:=wS.1 hx;rfl
theorem za {l:List UInt8}{i:Nat}(h:i<l.length):(az l)[i]? =some (.int .u8 ((l.getD i 0).toBitVec.toNat:Int)):=by rw[qG h,wZ,wK h];rfl
theorem kX {α:Type}{f:St->Option (Ex×St)}{ks:List Kp}(S:α->Nat->St)(P:α->Nat->Prop)(N:Nat)(hN:N<LF){a:α}(ha:P a 0)(hs:∀a i,i<N->P a i->∃a',P a' (i+1)/\aK ks (f (S a i))=some (S a' (i+1)))(he:∀a,P a N->oz (f (S a N))=true) :
  ∃a',P a' N/\∀st,bT ks st=some (S a 0)->fG f ks LF st=f (S a' N):=by
 obtain⟨⟨b,i⟩,h1,h2,h3⟩:=fF (f:=f) (ks:=ks) (fun x:α×Nat=>S x.1 x.2) (fun x=>P x.1 x.2/\x.2<=N) (fun x=>x.2=N) (fun x=>N-x.2) (a0:=(a,0)) (by simpa using hN) ⟨ha,Nat.zero_le _⟩ fun x hx=>by
  obtain⟨a,i⟩:=x;simp only at hx ⊢;by_cases e:i=N
  . left;subst e;exact⟨rfl,he _ hx.1⟩
  . right;obtain⟨a',g1,g2⟩:=hs a i (by omega) hx.1;exact⟨(a',i+1),⟨g1,by simp only;omega⟩,by simp only;omega,g2⟩
 simp only at h1 h2;subst h2;exact⟨b,h1.1,h3⟩
abbrev K26 :List Kp:=[.slot 0,.slot 2,.slot 3,.slot 11,.key 2,.key 3]
abbrev O3 :List Kp:=[.slot 0,.slot 2,.slot 3,.slot 4,.slot 11,.slot 22,.slot 23,.slot 24,.key 2,.key 3]
noncomputable def L26:MC:=wq 0 Ny
noncomputable def Hd:MC:=wq 2 Ny
abbrev zW :List AV:=List.replicate 64 (.int .u32 0)
def S26 (nb:Bool)(b:List UInt8)(ws:Ws)(t:Nat):St :=
 ⟨[.set 11 (.int .i64 t),.set 3 (.ptr 3 []),.set 2 (.ptr 2 []),.set 0 (.lst nb .sc (az b))],[(3,.fix (.ar 64 .sc) (.agg (ml ws))),(2,.fix (.ar 64 .sc) (.agg zW))]⟩
def zw (nb c:Bool)(b u:List UInt8)(t:Nat)(ws:Ws)(j:Nat):St :=
 ⟨[.set 24 (.int .i64 j),.set 23 (.int .i64 4),.set 22 (.lst c .sc (az u)),.set 11 (.int .i64 t),.set 4 (.int .i64 t),.set 3 (.ptr 3 []),.set 2 (.ptr 2 []),.set 0 (.lst nb .sc (az b))],
  [(3,.fix (.ar 64 .sc) (.agg (ml ws))),(2,.fix (.ar 64 .sc) (.agg zW))]⟩
theorem MT (d:Nat)(nb:Bool)(b:List UInt8)(hb:b.length=64):∃ws:Ws,ws.length=64/\call gl tab (d+2) 126 [.lst nb .sc (az b)] []=some (.agg (ml ws),[],[]):=by
 have inner:∀(c:Bool) (u:List UInt8) (t:Nat),u.length=4->t<64->∀ws:Ws,ws.length=64->∃ws':Ws,ws'.length=64/\∀st,bT O3 st=some (zw nb c b u t ws 0)->fG (evC gl (call gl tab (d+1)) Hd) O3 LF st=evC gl (call gl tab (d+1)) Hd (zw nb c b u t ws' 4):=by
  intro c u t hu ht ws hl;refine kX (fun ws j=>zw nb c b u t ws j) (fun(ws:Ws) _=>ws.length=64) 4 (by unfold LF;omega) hl (fun ws i hi hl=> ?_) fun ws hl=>by simp(disch:=apply zq;omega) only[go_sem,simprocAttr,↓wB,xx,Hd,zw]
  have x1:=za (l:=u) (i:=i) (by omega);have x2:=nF (l:=ws) (i:=t) (by omega);have key:∃x,aK O3 (evC gl (call gl tab (d+1)) Hd (zw nb c b u t ws i))=some (zw nb c b u t (ws.set t x) (i+1)):=by apply Exists.intro;unfold zw;rw[zD];simp(disch:=apply zq;omega) only[go_sem,simprocAttr,↓wB,xx,Hd,aH,hu,gy,hl,x1,x2];rfl
  obtain⟨x,hx⟩:=key;exact⟨_,by rw[wY];exact hl,hx⟩
 obtain⟨ws,hl,hit⟩:=kX (f:=evC gl (call gl tab (d+1)) L26) (ks:=K26) (fun ws t=>S26 nb b ws t) (fun(ws:Ws) _=>ws.length=64) 64 (by unfold LF;omega) (a:=List.replicate 64 0) (by simp) (fun ws t ht hl=>by
  by_cases h16:t<16
  . have hu:((b.take (4*t+4)).drop (4*t)).length=4:=by rw[wQ,wP];omega
    have e1:List.drop (4*t) (List.take (4*t+4) (az b))=az ((b.take (4*t+4)).drop (4*t)):=by simp[az,w8,w7]
    generalize (b.take (4*t+4)).drop (4*t)=u at *
    obtain⟨ws',hl',hi⟩:=inner (nb&&4*t==60) u t hu ht ws hl;refine⟨ws',hl',?_⟩;simp only[Hd,wq,O3]at hi;simp(disch:=apply zq;omega) only[go_sem,simprocAttr,↓wB,xx,L26,S26,aH,hb,e1,hu];rw[hi _ (by simp(disch:=apply zq;omega) only[go_sem,simprocAttr,↓wB,xx,zw])];simp(disch:=apply zq;omega) only[go_sem,simprocAttr,↓wB,xx,zw]
  . have g:∀k:Nat,k<=t->∃v,(ml ws)[t-k]? =some (u32 v):=fun k hk=>⟨_,nF (by omega)⟩
    obtain⟨v1,g15⟩:=g 15 (by omega);obtain⟨v2,g2⟩:=g 2 (by omega);obtain⟨v3,g7⟩:=g 7 (by omega);obtain⟨v4,g16⟩:=g 16 (by omega);obtain⟨v5,g0⟩:∃v,(ml ws)[t]? =some (u32 v):=⟨_,nF (by omega)⟩;have e15:(t:Int)-15=((t-15:Nat):Int):=by omega
    have e2:(t:Int)-2=((t-2:Nat):Int):=by omega
    have e7:(t:Int)-7=((t-7:Nat):Int):=by omega
    have e16:(t:Int)-16=((t-16:Nat):Int):=by omega
    obtain⟨y1,r1⟩:=r5 (gl:=gl) d v1 (-7);obtain⟨y2,r2⟩:=r5 (gl:=gl) d v1 (-18);obtain⟨y3,r3⟩:=r5 (gl:=gl) d v2 (-17);obtain⟨y4,r4⟩:=r5 (gl:=gl) d v2 (-19);have key:∃x,aK K26 (evC gl (call gl tab (d+1)) L26 (S26 nb b ws t))=some (S26 nb b (ws.set t x) (t+1)):=by apply Exists.intro;unfold S26;rw[zD];simp(disch:=apply zq;omega) only[go_sem,simprocAttr,↓wB,xx,L26,gy,hl,g0,e15,e2,e7,e16,g15,g2,g7,g16,r1,r2,r3,r4];rfl
    obtain⟨x,hx⟩:=key;exact⟨_,by rw[wY];exact hl,hx⟩) fun ws hl=>by simp(disch:=apply zq;omega) only[go_sem,simprocAttr,↓wB,xx,L26,S26]
 refine⟨ws,hl,?_⟩;have hz:ml (List.replicate 64 0)=List.replicate 64 (.int .u32 0):=by kernel_rfl
 simp only[L26,wq,K26]at hit;rw[au (fd:=KA) rfl];simp(disch:=apply zq;omega) only[go_sem,simprocAttr,↓wB,xx,KA,Ny];rw[hit _ (by rw[S26,hz];simp(disch:=apply zq;omega) only[go_sem,simprocAttr,↓wB,xx])];simp(disch:=apply zq;omega) only[go_sem,simprocAttr,↓wB,xx,S26,gy,hl,Hg]
end
section
variable {gl :Gl} [Nonempty (GlK gl)]
theorem Sc :kA.length=64:=rfl
theorem Sd :kA.all AV.scalar=true:=by rw[wX];intro x hx;obtain⟨y,_,rfl⟩:=wS.1 hx;rfl
theorem VA {t:Nat}(h:t<64):∃v:BitVec 32,kA[t]? =some (u32 v):=by unfold kA;rw[wT,wK (by simpa[kList]using h)];exact⟨_,rfl⟩
abbrev w4 (a b c d:BitVec 32):AV:=.agg [u32 a,u32 b,u32 c,u32 d]
structure H8 where
 a:BitVec 32
 b:BitVec 32
 c:BitVec 32
 d:BitVec 32
 e:BitVec 32
 f:BitVec 32
 g:BitVec 32
 h:BitVec 32
abbrev H8.av (s:H8):AV:=.agg [u32 s.a,u32 s.b,u32 s.c,u32 s.d,u32 s.e,u32 s.f,u32 s.g,u32 s.h]
abbrev zv8 :List AV:=List.replicate 8 (.int .u32 0)
noncomputable def L47:MC:=wq 0 Nz
noncomputable def LR:MC:=wq 2 Nz
def S47 (s:H8)(ws:Ws)(v:H8)(t:Nat):St :=
 ⟨[.set 22 (.int .i64 t),.set 21 (.agg kA),.set 7 (.ptr 7 []),.set 6 (.ptr 6 []),.set 5 (.ptr 5 []),.set 4 (.ptr 4 []),.set 2 (.ptr 2 [])],
  [(7,.fix (.ar 4 .sc) (w4 v.e v.f v.g v.h)),(6,.fix (.ar 4 .sc) (w4 v.a v.b v.c v.d)),(5,.fix (.ar 64 .sc) (.agg (ml ws))),(4,.fix (.ar 8 .sc) (.agg zv8)),(2,.fix (.ar 8 .sc) s.av)]⟩
def Dy (v s:H8)(i:Nat):St :=
 ⟨[.set 94 (.int .i64 i),.set 7 (.ptr 7 []),.set 6 (.ptr 6 []),.set 4 (.ptr 4 []),.set 2 (.ptr 2 [])],
  [(7,.fix (.ar 4 .sc) (w4 v.e v.f v.g v.h)),(6,.fix (.ar 4 .sc) (w4 v.a v.b v.c v.d)),(4,.fix (.ar 8 .sc) (.agg zv8)),(2,.fix (.ar 8 .sc) s.av)]⟩
theorem T3 (d:Nat)(nb:Bool)(s:H8)(b:List UInt8)(hb:b.length=64):∃s':H8,call gl tab (d+3) 120 [s.av,.lst nb .sc (az b)] []=some (s'.av,[],[]):=by
 obtain⟨ws,hl,c1⟩:=MT (gl:=gl) d nb b hb;obtain⟨v,_,hv⟩:=kX (f:=evC gl (call gl tab (d+2)) L47) (ks:=K47) (fun v t=>S47 s ws v t) (fun _ _=>True) 64 (by unfold LF;omega) (a:=s) trivial (fun v t ht _=>by
  obtain⟨k,hk⟩:=VA ht;obtain⟨x,hx⟩:∃x,(ml ws)[t]? =some (u32 x):=⟨_,nF (by omega)⟩;obtain⟨va,vb,vc,vd,ve,vf,vg,vh⟩:=v;obtain⟨y1,m1⟩:=Pp (gl:=gl) d ve 6 11 25;obtain⟨y2,m2⟩:=Pp (gl:=gl) d va 2 13 22;have key:∃a1 a2 a3 a4 a5 a6 a7 a8,aK K47 (evC gl (call gl tab (d+2)) L47 (S47 s ws ⟨va,vb,vc,vd,ve,vf,vg,vh⟩ t))=some (S47 s ws ⟨a1,a2,a3,a4,a5,a6,a7,a8⟩ (t+1)):=by
   iterate 8 apply Exists.intro
   simp(disch:=apply zq;omega) only[go_sem,simprocAttr,↓wB,xx,L47,S47,hk,hx,m1,m2,Sc,Sd,gy,hl];rfl
  obtain⟨a1,a2,a3,a4,a5,a6,a7,a8,h⟩:=key;exact⟨_,trivial,h⟩) fun v _=>by simp(disch:=apply zq;omega) only[go_sem,simprocAttr,↓wB,xx,L47,S47]
 obtain⟨s',_,hs⟩:=kX (f:=evC gl (call gl tab (d+2)) LR) (ks:=O2) (fun s i=>Dy v s i) (fun _ _=>True) 4 (by unfold LF;omega) (a:=s) trivial (fun s i hi _=>by
  obtain⟨sa,sb,sc,sd,se,sf,sg,sh⟩:=s;have key:∃a1 a2 a3 a4 a5 a6 a7 a8,aK O2 (evC gl (call gl tab (d+2)) LR (Dy v ⟨sa,sb,sc,sd,se,sf,sg,sh⟩ i))=some (Dy v ⟨a1,a2,a3,a4,a5,a6,a7,a8⟩ (i+1)):=by
   have:i=0\/i=1\/i=2\/i=3:=by omega
   rcases this with rfl|rfl|rfl|rfl
   all_goals
    iterate 8 apply Exists.intro
    simp(disch:=apply zq;omega) only[go_sem,simprocAttr,↓wB,xx,LR,Dy];rfl
  obtain⟨a1,a2,a3,a4,a5,a6,a7,a8,h⟩:=key;exact⟨_,trivial,h⟩) fun s _=>by simp(disch:=apply zq;omega) only[go_sem,simprocAttr,↓wB,xx,LR,Dy]
 refine⟨s',?_⟩;simp only[L47,wq,K47,List.reduceReplicate]at hv;simp only[LR,wq,O2,List.reduceReplicate]at hs;rw[au (fd:=KC) rfl];simp(disch:=apply zq;omega) only[go_sem,simprocAttr,↓wB,xx,KC,Nz,c1,gy,hl,Hg,glK];rw[hv _ (by simp(disch:=apply zq;omega) only[go_sem,simprocAttr,↓wB,xx,S47])];simp(disch:=apply zq;omega) only[go_sem,simprocAttr,↓wB,xx,S47];rw[hs _ (by simp(disch:=apply zq;omega) only[go_sem,simprocAttr,↓wB,xx,Dy])];simp(disch:=apply zq;omega) only[go_sem,simprocAttr,↓wB,xx,Dy]
structure Sm where
 h:H8
 blk:List UInt8
 n:Nat
abbrev Sm.av (s:Sm):AV:=.agg [s.h.av,.agg (az s.blk),.int .u64 (s.n:Int)]
abbrev shS :Sh:=.st [.ar 8 .sc,.ar 64 .sc,.sc]
abbrev zst :AV:=.agg [.agg zv8,.agg (List.replicate 64 (.int .u8 0)),.int .u64 0]
noncomputable def L32:MC:=wq 0 R3
def S32 (s:Sm)(t:List UInt8):St :=
 ⟨[.set 4 (.ptr 4 []),.set 2 (.ptr 2 []),.set 1 (.str t)],[(4,.fix shS zst),(2,.fix shS s.av)]⟩
theorem UR (a:Nat):aM .rem .u64 (a:Int) 64=some (.int .u64 ((a%64:Nat):Int)):=by
 have h8:¬((64:Int)=0):=by decide
 simp only[aM,h8,if_false];rfl
theorem zc (l:List UInt8)(k:Nat):(az l).drop k=az (l.drop k):=by simp[az,w8]
theorem nv (l:List UInt8)(k:Nat):(az l).take k=az (l.take k):=by simp[az,w7]
theorem Q1 (d:Nat)(s:Sm)(t:List UInt8)(hb:s.blk.length=64)(hn:s.n+t.length<2^60)(ht:t≠[]) :
  ∃(s':Sm) (k:Nat),s'.blk.length=64/\s'.n=s.n+k/\0<k/\k<=t.length/\aK K32 (evC gl (call gl tab (d+3)) L32 (S32 s t))=some (S32 s' (t.drop k)):=by
 obtain⟨h,blk,n⟩:=s;simp only at hb hn ⊢;have hat:n%64<64:=wF _ (by omega);have ht0:0<t.length:=w5.2 ht;have hk1:min t.length (64-n%64)<=t.length:=Nat.min_le_left _ _;have hk2:min t.length (64-n%64)<=64-n%64:=Nat.min_le_right _ _;have hk0:0<min t.length (64-n%64):=Nat.lt_min.2 ⟨ht0,by omega⟩;have hne:(!(t==[]))=true:=by simp[ht]
 have hte:(az t).isEmpty=false:=by
  cases t with
  | nil=>exact absurd rfl ht
  | cons a l=>rfl
 generalize hk:min t.length (64-n%64)=k at *
 have hadd:(BitVec.ofNat 64 n+BitVec.ofNat 64 k).toNat=n+k:=by rw[<-BitVec.ofNat_add,BitVec.toNat_ofNat,Nat.mod_eq_of_lt (by omega)]
 have hB:List.take (n%64) (az blk)++List.take k (az t)++List.drop (n%64+k) (az blk)=az (blk.take (n%64)++t.take k++blk.drop (n%64+k)):=by rw[nv,nv,zc,<-eE,<-eE]
 have hBl:(blk.take (n%64)++t.take k++blk.drop (n%64+k)).length=64:=by simp only[wG,wP,wQ];omega
 generalize blk.take (n%64)++t.take k++blk.drop (n%64+k)=B at *
 obtain⟨h',c⟩:=T3 (gl:=gl) d false h B hBl;have htk:(az B).take 64=az B:=u0 hBl;have hle:n%64<=64:=by omega
 have hof:n%64+(64-n%64)=64:=by omega
 by_cases h64:n%64+k=64
 . refine⟨⟨h',B,n+k⟩,k,hBl,rfl,hk0,hk1,?_⟩;have he:(((n%64+k:Nat):Int)==64)=true:=by rw[h64];rfl
   simp(disch:=apply zq;omega) only[go_sem,simprocAttr,↓wB,xx,L32,S32,hne,UR,hb,hat,hle,hof,hte,aH,hk,hB,hadd,hk1,he,hBl,htk,c];rfl
 . refine⟨⟨h,B,n+k⟩,k,hBl,rfl,hk0,hk1,?_⟩;have he:(((n%64+k:Nat):Int)==64)=false:=by rw[beq_eq_false_iff_ne];omega
   simp(disch:=apply zq;omega) only[go_sem,simprocAttr,↓wB,xx,L32,S32,hne,UR,hb,hat,hle,hof,hte,aH,hk,hB,hadd,hk1,he];rfl
abbrev SmI (s:Sm)(m:Nat):Prop:=s.blk.length=64/\s.n=m
theorem LI (d:Nat)(s:Sm)(t:List UInt8)(m:Nat)(hs:SmI s m)(hn:m+t.length<2^60):∃s',SmI s' (m+t.length)/\call gl tab (d+4) 100 [s.av,.str t] []=some (s'.av,[],[]):=by
 obtain⟨⟨s',u⟩,⟨h1,h2⟩,hu,hit⟩:=fF (f:=evC gl (call gl tab (d+3)) L32) (ks:=K32) (fun x:Sm×List UInt8=>S32 x.1 x.2) (fun x=>x.1.blk.length=64/\x.1.n+x.2.length=m+t.length) (fun x=>x.2=[]) (fun x=>x.2.length) (a0:=(s,t))
  (by unfold LF;simp only;omega) ⟨hs.1,by rw[hs.2]⟩ fun x hx=>by
    obtain⟨s,u⟩:=x;simp only at hx ⊢;by_cases e:u=[]
    . left;subst e;exact⟨rfl,by simp(disch:=apply zq;omega) only[go_sem,simprocAttr,↓wB,xx,L32,S32]⟩
    . right;obtain⟨s',k,g1,g2,g3,g4,g5⟩:=Q1 (gl:=gl) d s u hx.1 (by omega) e;exact⟨(s',u.drop k),⟨g1,by simp only[wQ];omega⟩,by simp only[wQ];omega,g5⟩
 simp only at hu h1 h2;subst hu;simp only[L32,wq,K32]at hit;have hb:=hs.1;refine⟨s',⟨h1,by simpa using h2⟩,?_⟩;rw[au (fd:=KR) rfl];simp(disch:=apply zq;omega) only[go_sem,simprocAttr,↓wB,xx,KR,R3,aH,bytes_all,hb];rw[hit _ (by simp(disch:=apply zq;omega) only[go_sem,simprocAttr,↓wB,xx,S32];rfl)];simp(disch:=apply zq;omega) only[go_sem,simprocAttr,↓wB,xx,S32,aH,bytes_all,h1]
theorem ON (d:Nat):∃s:Sm,SmI s 0/\call gl tab (d+1) 99 [] []=some (s.av,[],[]):=by refine⟨⟨⟨0x6a09e667,0xbb67ae85,0x3c6ef372,0xa54ff53a,0x510e527f,0x9b05688c,0x1f83d9ab,0x5be0cd19⟩,List.replicate 64 0,0⟩,⟨by simp,rfl⟩,?_⟩;rw[au (fd:=SJ) rfl];simp(disch:=apply zq;omega) only[go_sem,simprocAttr,↓wB,xx,SJ,m99];kernel_rfl
def x8 (n:Nat):Nat:=(119-n%64)%64
def qJ (i:Nat):List UInt8:=128::List.replicate i 0
theorem ij (i:Nat):(qJ i).length=i+1:=by simp[qJ]
theorem Fj (i:Nat):az (qJ (i+1))=az (qJ i)++[.int .u8 0]:=by
 have:qJ (i+1)=qJ i++[0]:=by simp[qJ,List.replicate_succ']
 rw[this,eE];rfl
abbrev z32 :AV:=.agg (List.replicate 32 (.int .u8 0))
noncomputable def L33:MC:=wq 0 I7
noncomputable def Hc:MC:=wq 2 I7
noncomputable def Hb:MC:=wq 4 I7
def S33 (s:Sm)(x:BitVec 64)(pad:List UInt8):St :=
 ⟨[.set 4 (.sl 5004 [] 0 pad.length),.set 3 (u64 x),.set 2 (.ptr 2 []),.set 1 (.ptr 1 [])],[(2,.fix (.ar 32 .sc) z32),(1,.fix shS s.av),(5004,.grow .sc (az pad))]⟩
def zu (s:Sm)(x:BitVec 64)(pad:List UInt8)(i:Nat):St :=
 ⟨[.set 23 (.int .i64 i),.set 4 (.sl 5004 [] 0 pad.length),.set 3 (u64 x),.set 2 (.ptr 2 []),.set 1 (.ptr 1 [])],[(2,.fix (.ar 32 .sc) z32),(1,.fix shS s.av),(5004,.grow .sc (az pad))]⟩
def zt (s:Sm)(o:List UInt8)(i:Nat):St :=
 ⟨[.set 40 (.int .i64 i),.set 6 (.ptr 6 []),.set 2 (.ptr 2 []),.set 1 (.ptr 1 [])],[(6,.fix (.ar 32 .sc) (.agg (az o))),(2,.fix (.ar 32 .sc) z32),(1,.fix shS s.av)]⟩
theorem Sz (h:H8)(j:Nat)(hj:j<8):∃x:BitVec 32,([u32 h.a,u32 h.b,u32 h.c,u32 h.d,u32 h.e,u32 h.f,u32 h.g,u32 h.h]:List AV)[j]? =some (u32 x):=by
 match j,hj with
 | 0,_=>exact⟨_,rfl⟩
 | 1,_=>exact⟨_,rfl⟩
 | 2,_=>exact⟨_,rfl⟩
 | 3,_=>exact⟨_,rfl⟩
 | 4,_=>exact⟨_,rfl⟩
 | 5,_=>exact⟨_,rfl⟩
 | 6,_=>exact⟨_,rfl⟩
 | 7,_=>exact⟨_,rfl⟩
theorem XP (a:Nat)(h:a<2^62):aM .quo .i64 (a:Int) 4=some (.int .i64 ((a/4:Nat):Int)):=by
 have h8:¬((4:Int)=0):=by decide
 simp only[aM,h8,if_false];have e:(a:Int).tdiv 4=((a/4:Nat):Int):=rfl;rw[e,nG (by omega) (by omega)]
theorem y9 (l:List UInt8)(i:Nat)(b:BitVec 8):az (l.set i (ub b))=(az l).set i (.int .u8 (b.toNat:Int)):=by simp[az,wa,ub]
theorem UD (d:Nat)(s:Sm)(m:Nat)(hs:SmI s m)(hm:m<2^50):∃o:List UInt8,o.length=32/\call gl tab (d+5) 102 [s.av] []=some (.agg (az o),[],[]):=by
 obtain⟨h,blk,n⟩:=s;obtain⟨hb,hn⟩:=hs;simp only at hb hn;subst hn;have hz:x8 n<64:=wF _ (by omega);have ends:∀i,i<=x8 n->((((n+(i+1))%64:Nat):Int)=56↔i=x8 n):=fun i hi=>by unfold x8 at *;omega
 have hrem:∀i:Nat,aM .rem .i64 ((n:Int)+((i:Int)+1)) 64=some (.int .i64 (((n+(i+1))%64:Nat):Int)):=fun i=>D2 (n+(i+1)) 64 (by omega)
 have e1:∀(x:BitVec 64) st,bT K33 st=some (S33 ⟨h,blk,n⟩ x (qJ 0))->fG (evC gl (call gl tab (d+4)) L33) K33 LF st=evC gl (call gl tab (d+4)) L33 (S33 ⟨h,blk,n⟩ x (qJ (x8 n))):=fun x st h0=>by
  refine aE (fun i=>S33 ⟨h,blk,n⟩ x (qJ i)) (x8 n) (by unfold LF;omega) h0 (fun i hi=> ?_) ?_
  . have hne:((((n+(i+1))%64:Nat):Int) != 56)=true:=by rw[bne_iff_ne];intro e;have:=(ends i (by omega)).1 e;omega
    simp(disch:=apply zq;omega) only[go_sem,simprocAttr,↓wB,xx,L33,S33,ij,hrem,hne,Fj,aH,yi (show i+1<2^36 by omega)]
  . have hne:((((n+(x8 n+1))%64:Nat):Int) != 56)=false:=by rw[(ends _ (wD _)).2 rfl];rfl
    simp(disch:=apply zq;omega) only[go_sem,simprocAttr,↓wB,xx,L33,S33,ij,hrem,hne]
 have e2:∀(x:BitVec 64) (P:List UInt8),P.length<100->∃P',P'.length=P.length+8/\∀st,bT LV st=some (zu ⟨h,blk,n⟩ x P 0)->fG (evC gl (call gl tab (d+4)) Hc) LV LF st=evC gl (call gl tab (d+4)) Hc (zu ⟨h,blk,n⟩ x P' 8):=fun x P hP =>
  kX (fun P' i=>zu ⟨h,blk,n⟩ x P' i) (fun P' i=>P'.length=P.length+i) 8 (by unfold LF;omega) rfl (fun Q i hi hQ=>by
   have key:∃y,aK LV (evC gl (call gl tab (d+4)) Hc (zu ⟨h,blk,n⟩ x Q i))=some (zu ⟨h,blk,n⟩ x (Q++[ub y]) (i+1)):=by
    apply Exists.intro;have w1:(56:Int)-8*(i:Int)=((56-8*i:Nat):Int):=by omega
    unfold zu;rw[j2];simp(disch:=apply zq;omega) only[go_sem,simprocAttr,↓wB,xx,Hc,aH,hQ,w1,yi (show P.length+i<2^36 by omega),wG,wJ];rfl
   obtain⟨y,hy⟩:=key;exact⟨_,by rw[wG,wJ,hQ];omega,hy⟩) fun Q _=>by simp(disch:=apply zq;omega) only[go_sem,simprocAttr,↓wB,xx,Hc,zu]
 have e3:∀s:Sm,∃o,o.length=32/\∀st,bT LU st=some (zt s (List.replicate 32 0) 0)->fG (evC gl (call gl tab (d+4)) Hb) LU LF st=evC gl (call gl tab (d+4)) Hb (zt s o 32):=fun s=>by
  obtain⟨h,blk,n⟩:=s;refine kX (fun o i=>zt ⟨h,blk,n⟩ o i) (fun(o:List UInt8) _=>o.length=32) 32 (by unfold LF;omega) (by simp) (fun o i hi ho=> ?_) fun o _=>by simp(disch:=apply zq;omega) only[go_sem,simprocAttr,↓wB,xx,Hb,zt]
  obtain⟨v,hv⟩:=Sz h (i/4) (by omega);have q4:=XP i (by omega);have r4:aM .rem .i64 (i:Int) 4=some (.int .i64 ((i%4:Nat):Int)):=D2 i 4 (by omega);obtain⟨y0,hy0⟩:∃y,(az o)[i]? =some (.int .u8 y):=⟨_,qG (by omega)⟩;have key:∃y,aK LU (evC gl (call gl tab (d+4)) Hb (zt ⟨h,blk,n⟩ o i))=some (zt ⟨h,blk,n⟩ (o.set i (ub y)) (i+1)):=by
   apply Exists.intro;have w1:(24:Int)-8*((i%4:Nat):Int)=((24-8*(i%4):Nat):Int):=by omega
   unfold zt;rw[y9];simp(disch:=apply zq;omega) only[go_sem,simprocAttr,↓wB,xx,Hb,q4,r4,w1,hv,hy0,aH,ho];rfl
  obtain⟨y,hy⟩:=key;exact⟨_,by rw[wY];exact ho,hy⟩
 obtain⟨P,hP,e2⟩:=e2 (BitVec.ofNat 64 8*BitVec.ofNat 64 n) (qJ (x8 n)) (by rw[ij];omega);rw[ij]at hP;obtain⟨⟨h',blk',n'⟩,⟨hb',hn'⟩,c⟩:=LI (gl:=gl) d ⟨h,blk,n⟩ P n ⟨hb,rfl⟩ (by omega);obtain⟨o,ho,e3⟩:=e3 ⟨h',blk',n'⟩;simp only at hb';refine⟨o,ho,?_⟩;have e1:=e1 (BitVec.ofNat 64 8*BitVec.ofNat 64 n);simp only[L33,wq,K33]at e1;simp only[Hc,wq,LV]at e2;simp only[Hb,wq,LU]at e3;have hp0:az (qJ 0)=[.int .u8 128]:=rfl;have hq0:az (List.replicate 32 0)=List.replicate 32 (.int .u8 0):=rfl;have hne:((((n+(x8 n+1))%64:Nat):Int) != 56)=false:=by rw[(ends _ (wD _)).2 rfl];rfl
 have hl:P.length<=LIM:=by unfold LIM;omega
 rw[au (fd:=KP) rfl];simp(disch:=apply zq;omega) only[go_sem,simprocAttr,↓wB,xx,KP,I7,aH,bytes_all,hb];rw[e1 _ (by rw[S33,hp0];simp(disch:=apply zq;omega) only[go_sem,simprocAttr,↓wB,xx,ij];rfl)];simp(disch:=apply zq;omega) only[go_sem,simprocAttr,↓wB,xx,S33,ij,hrem,hne];rw[e2 _ (by simp(disch:=apply zq;omega) only[go_sem,simprocAttr,↓wB,xx,zu,ij])];simp(disch:=apply zq;omega) only[go_sem,simprocAttr,↓wB,xx,zu,c,aH,bytes_all,hb'];rw[e3 _ (by rw[zt,hq0];simp(disch:=apply zq;omega) only[go_sem,simprocAttr,↓wB,xx])];simp(disch:=apply zq;omega) only[go_sem,simprocAttr,↓wB,xx,zt,aH,bytes_all,ho]
end
section
variable {gl :Gl}
def S53 (x:BitVec 64)(P:List UInt8):St :=
 ⟨[.set 4 (.sl 5004 [] 0 P.length),.set 3 (u64 x)],[(5004,.grow .sc (az P))]⟩
noncomputable def L53:MC:=wq 0 R1
abbrev K53 :List Kp:=[.slot 3,.own 4 5004 .sc]
theorem Jz (d:Nat)(n:Int)(h:-9223372036854775808<=n/\n<=9223372036854775807):∃b:List UInt8,1<=b.length/\b.length<=10/\call gl tab (d+1) 105 [.int .i64 n] []=some (.sl 20000 [] 0 b.length,[],[.grow .sc (az b)]):=by
 obtain⟨x,rfl⟩:=Sj h.1 h.2;have loop:∀y:BitVec 64,∃(z:BitVec 64) (P:List UInt8),P.length<=9/\z.toNat<128/\∀st,bT K53 st=some (S53 y [])->fG (evC gl (call gl tab d) L53) K53 LF st=evC gl (call gl tab d) L53 (S53 z P):=fun y=>by
  obtain⟨⟨z,P⟩,h1,h2,h3⟩:=fF (f:=evC gl (call gl tab d) L53) (ks:=K53) (fun a:BitVec 64×List UInt8=>S53 a.1 a.2) (fun a=>a.2.length<=9/\a.1.toNat * 128^a.2.length<18446744073709551616) (fun a=>a.1.toNat<128) (fun a=>10-a.2.length) (a0:=(y,[]))
   (by unfold LF;simp) ⟨by simp,by have:=y.isLt;simpa using this⟩ fun a ha=>by
     obtain⟨z,P⟩:=a;simp only at ha ⊢;by_cases hz:z.toNat<128
     . left;exact⟨hz,by simp(disch:=apply zq;omega) only[go_sem,simprocAttr,↓wB,xx,L53,S53]⟩
     . right
       have hl:P.length<9:=by
        apply Classical.byContradiction;intro hc;have h1:(128:Nat)^9<=128^P.length:=Nat.pow_le_pow_right (by omega) (by omega);have h2:128*128^9<=z.toNat * 128^P.length:=Nat.mul_le_mul (by omega) h1;have h3:(128:Nat)*128^9=1180591620717411303424:=by decide
        omega
       have hs:(z>>>(7:Nat)).toNat=z.toNat/128:=by rw[BitVec.toNat_ushiftRight,Nat.shiftRight_eq_div_pow]
       have key:∃y,aK K53 (evC gl (call gl tab d) L53 (S53 z P))=some (S53 (z>>>(7:Nat)) (P++[ub y])):=by apply Exists.intro;unfold S53;rw[j2];simp(disch:=apply zq;omega) only[go_sem,simprocAttr,↓wB,xx,L53,aH,yi (show P.length<2^36 by omega),wG,wJ];rfl
       obtain⟨y,hy⟩:=key;refine⟨(z>>>(7:Nat),P++[ub y]),⟨by simp only[wG,wJ];omega,?_⟩,by simp only[wG,wJ];omega,hy⟩;simp only[wG,wJ,hs];have h4:z.toNat/128*128^(P.length+1)<=z.toNat * 128^P.length:=by rw[Nat.pow_succ,Nat.mul_comm (128^P.length),<-Nat.mul_assoc];exact Nat.mul_le_mul_right _ (Nat.div_mul_le_self _ _)
       omega
  exact⟨z,P,h1.1,h2,h3⟩
 have main:∃(b:List UInt8) (y:BitVec 8),b.length<=9/\call gl tab (d+1) 105 [.int .i64 x.toInt] []=some (.sl 20000 [] 0 (b++[ub y]).length,[],[.grow .sc (az (b++[ub y]))]):=by rw[au (fd:=KM) rfl];simp(disch:=apply zq;omega) only[go_sem,simprocAttr,↓wB,xx,KM,R1,MM];obtain⟨z,P,hP,hz,hit⟩:=loop (x<<<(1:Nat)^^^x.sshiftRight 63);simp only[L53,wq,K53]at hit;refine⟨P,z.setWidth 8,hP,?_⟩;rw[hit _ (by simp(disch:=apply zq;omega) only[go_sem,simprocAttr,↓wB,xx,S53];rfl),j2];simp(disch:=apply zq;omega) only[go_sem,simprocAttr,↓wB,xx,S53,aH,yi (show P.length<2^36 by omega),wG,wJ]
 obtain⟨b,y,hb,hc⟩:=main;exact⟨_,by simp,by simp;omega,hc⟩
theorem OG (d:Nat)(s:List UInt8)(hs:s.length<2^35):∃b:List UInt8,b.length<=s.length+10/\call gl tab (d+2) 101 [.str s] []=some (.sl 20000 [] 0 b.length,[],[.grow .sc (az b)]):=by
 obtain⟨z,h1,h2,c⟩:=Jz (gl:=gl) d (s.length:Int) (by omega);refine⟨z++s,by rw[wG];omega,?_⟩;have hL:z.length+s.length<=LIM:=by unfold LIM;omega
 rw[au (fd:=KQ) rfl];simp(disch:=apply zq;omega) only[go_sem,simprocAttr,↓wB,xx,KQ,Vj,c,aH,hL,eE,wG]
def nsI (l:List Int):List AV:=l.map fun n=>.int .i64 n
theorem jL (l:List Int):(nsI l).length=l.length:=by simp[nsI]
theorem Ng {l:List Int}{i:Nat}(h:i<l.length):(nsI l)[i]? =some (.int .i64 l[i]):=by simp[nsI,h]
def XE (l:List Int):Prop:=l.length<=1000/\∀x∈l,-9223372036854775808<=x/\x<=9223372036854775807
noncomputable def LwI:MC:=wq 0 R2
abbrev KwI :List Kp:=[.slot 1,.own 5 5005 .sc,.slot 11,.slot 12,.slot 13]
def SwI (f:Bool)(l:List Int)(P:List UInt8)(i:Nat):St :=
 ⟨[.set 13 (.int .i64 i),.set 12 (.int .i64 l.length),.set 11 (.lst f .sc (nsI l)),.set 5 (.sl 5005 [] 0 P.length),.set 1 (.fn 105 [])],[(5005,.grow .sc (az P))]⟩
theorem ints_w (d:Nat)(f:Bool)(l:List Int)(hl:XE l):∃b:List UInt8,b.length<=10*(l.length+1)/\call gl tab (d+3) 69 [.lst f .sc (nsI l)] []=some (.sl 20000 [] 0 b.length,[],[.grow .sc (az b)]):=by
 have h1:=hl.1;obtain⟨b0,_,hb0,c0⟩:=Jz (gl:=gl) d (l.length:Int) (by omega);obtain⟨b,hb,hit⟩:=kX (f:=evC gl (call gl tab (d+1)) LwI) (ks:=KwI) (fun P i=>SwI f l P i) (fun P i=>P.length<=10*(i+1)) l.length (by unfold LF;omega) (a:=b0) (by omega) (fun P i hi hP=>by
  have hx:=Ng hi;obtain⟨z,_,hz,c⟩:=Jz (gl:=gl) d l[i] (hl.2 _ (w6 hi));refine⟨P++z,by rw[wG];omega,?_⟩;have hL:P.length+z.length<=LIM:=by unfold LIM;omega
  rw[SwI,SwI,eE,wG];simp(disch:=apply zq;omega) only[go_sem,simprocAttr,↓wB,xx,LwI,hx,jL,c,aH,hL]) fun P _=>by simp(disch:=apply zq;omega) only[go_sem,simprocAttr,↓wB,xx,LwI,SwI]
 refine⟨b,hb,?_⟩;have e2:=aH b;simp only[LwI,wq,KwI]at hit;have cl:call gl tab (d+2) 104 [.lst f .sc (nsI l),.fn 105 []] []=some (.sl 20000 [] 0 b.length,[],[.grow .sc (az b)]):=by rw[au (fd:=KN) rfl];simp(disch:=apply zq;omega) only[go_sem,simprocAttr,↓wB,xx,KN,R2,jL,c0];rw[hit _ (by simp(disch:=apply zq;omega) only[go_sem,simprocAttr,↓wB,xx,SwI,jL,aH])];simp(disch:=apply zq;omega) only[go_sem,simprocAttr,↓wB,xx,SwI,jL,aH]
 rw[au (fd:=S8) rfl];simp(disch:=apply zq;omega) only[go_sem,simprocAttr,↓wB,xx,S8,m69,cl,e2,noImms_bytesAV]
def Sml (l:List (List UInt8)):Prop:=l.length<=1000/\∀x∈l,x.length<=1048576
abbrev zb (n:Nat):List AV:=List.replicate n (.int .u8 0)
def S34 (nb:Bool)(l:List (List UInt8))(s:Sm)(i:Nat):St :=
 ⟨[.set 17 (.int .i64 i),.set 16 (.int .i64 l.length),.set 15 (.lst nb .sc (strsAV l)),.set 5 (.ptr 5 []),.set 4 (.ptr 4 [])],[(5,.fix shS s.av),(4,.fix (.ar 16 .sc) (.agg (zb 16)))]⟩
noncomputable def L34:MC:=wq 0 m67
theorem of_w [Nonempty (GlK gl)](d:Nat)(t:Int)(nb:Bool)(l:List (List UInt8))(h:Sml l):∃o:List UInt8,o.length=16/\call gl tab (d+6) 67 [.int .i64 t,.lst nb .sc (strsAV l)] []=some (.agg (az o),[],[]):=by
 have h1:=h.1;obtain⟨s0,hs0,c0⟩:=ON (gl:=gl) (d+4);obtain⟨s1,hs1,c1⟩:=LI (gl:=gl) (d+1) s0 [ub (BitVec.ofInt 8 t)] 0 hs0 (by simp);obtain⟨s,hs,hit⟩:=kX (f:=evC gl (call gl tab (d+5)) L34) (ks:=K34) (fun s i=>S34 nb l s i) (fun s i=>s.blk.length=64/\s.n<=1+1048586*i) l.length (by unfold LF;omega) (a:=s1) ⟨hs1.1,by rw[hs1.2];simp⟩ (fun s i hi hs=>by
  have hgi:=mP hi;have hx:=h.2 _ (w6 hi);obtain⟨b,hb,c⟩:=OG (gl:=gl) (d+3) l[i] (by omega);obtain⟨s',hs',c'⟩:=LI (gl:=gl) (d+1) s b s.n ⟨hs.1,rfl⟩ (by omega);refine⟨s',⟨hs'.1,by rw[hs'.2];omega⟩,?_⟩;have hb1:=hs.1;have hb2:=hs'.1;simp(disch:=apply zq;omega) only[go_sem,simprocAttr,↓wB,xx,L34,S34,hgi,bM,c,c',aH,bytes_all,hb1,hb2]) fun s _=>by simp(disch:=apply zq;omega) only[go_sem,simprocAttr,↓wB,xx,L34,S34]
 obtain⟨o,ho,c⟩:=UD (gl:=gl) d s s.n ⟨hs.1,rfl⟩ (by omega);refine⟨o.take 16,by rw[wP,ho];rfl,?_⟩;have hb0:=hs0.1;have hb1:=hs1.1;have hb2:=hs.1;have hub:UInt8.ofNat (BitVec.ofInt 8 t).toNat=ub (BitVec.ofInt 8 t):=by apply UInt8.toBitVec_inj.1;show BitVec.ofNat 8 _=_;rw[BitVec.ofNat_toNat,BitVec.setWidth_eq];rfl
 have hub2:UInt8.ofNat ((((BitVec.ofInt 8 t).toNat:Nat):Int)).toNat=ub (BitVec.ofInt 8 t):=by rw[Int.toNat_natCast];exact hub
 have ht:List.take 16 (az o)=az (o.take 16):=nv o 16;have ho2:(az (o.take 16)).length=16:=by rw[aH,wP,ho];rfl
 simp only[L34,wq,K34]at hit;rw[au (fd:=Ta) rfl];simp(disch:=apply zq;omega) only[go_sem,simprocAttr,↓wB,xx,Ta,m67,c0,c1,iS,Ev.byteOf,hub,hub2,aH,bytes_all,hb0,hb1];rw[hit _ (by simp(disch:=apply zq;omega) only[go_sem,simprocAttr,↓wB,xx,S34,bM])];simp(disch:=apply zq;omega) only[go_sem,simprocAttr,↓wB,xx,S34,aH,bytes_all,hb2,c,ho,ht,ho2,noImms_bytesAV]
end
end Go.Proofs.S51.H
namespace Go.Proofs.S51.K
open Go Go.Ev Go.Proofs
open Go.Proofs.S51.H (strsAV bM mP)
variable {gl :Gl} {n:Nat}
def apL (s:List UInt8)(l:List (List UInt8)):Nat->List (List UInt8)
 | 0=>[]
 | 1=>[s]
 | 2=>s::l
 | _=>s::(l++[s])
abbrev oV (s:List UInt8)(l:List (List UInt8)):List (List UInt8):=s::(l++[s])
theorem P6 (s:List UInt8)(l:List (List UInt8)):apL s l 0=[]:=rfl
theorem P5 (s:List UInt8)(l:List (List UInt8)):apL s l 1=[s]:=rfl
theorem P4 (s:List UInt8)(l:List (List UInt8)):apL s l 2=s::l:=rfl
theorem LD (s:List UInt8)(l:List (List UInt8)):apL s l 3=oV s l:=rfl
def kz (N:Nat)(l:List (List UInt8)):List AV:=strsAV l++List.replicate (N-l.length) (.str [])
theorem Hz (a b:List (List UInt8)):strsAV (a++b)=strsAV a++strsAV b:=by simp[strsAV]
theorem oF {N:Nat}{l:List (List UInt8)}(h:l.length<=N):(kz N l).length=N:=by simp[kz,bM];omega
theorem tO {N:Nat}{a b:List (List UInt8)}(h:a.length+b.length<=N):(kz N a).take a.length++(strsAV b++(kz N a).drop (a.length+b.length))=kz N (a++b):=by
 unfold kz;rw[List.take_left' (bM a),Hz,wU]
 congr 2
 rw[<-bM a,List.drop_append,List.drop_eq_nil_of_le (by omega),wH,Nat.add_sub_cancel_left,List.drop_replicate,wG,bM]
 congr 1;omega
theorem Ke (l:List (List UInt8)):kz l.length l=strsAV l:=by simp[kz]
theorem SG (N:Nat):kz N []=List.replicate N (.str []):=by simp[kz,strsAV]
theorem NW (h:1<=n){N:Nat}(h0:1<=N)(hN:N<=100000):call gl tab n 103 [.lst true .sc [],i64 N] []=some (.sl 20000 [] 0 0,[],[.grow .sc (kz N [])]):=by
 obtain⟨d,rfl⟩:=wC h;have hl:N<=LIM:=by unfold LIM;omega
 rw[SG];rw[bf (fd:=KO) rfl];simp(disch:=apply zq;omega) only[go_sem,simprocAttr,↓wB,xx,KO,Vi,hl,wH,Nat.sub_zero]
def szP (l:List (List UInt8)):Nat->Int
 | 0=>0
 | 1=>1
 | 2=>1+l.length
 | _=>1+l.length+1
theorem Pb (l:List (List UInt8)):szP l 0=0:=rfl
theorem O9 (l:List (List UInt8)):szP l 1=1:=rfl
theorem O8 (l:List (List UInt8)):szP l 2=1+l.length:=rfl
theorem Hw (l:List (List UInt8)):szP l 3=1+l.length+1:=rfl
noncomputable def L65:MC:=wq 0 m68
noncomputable def LQ:MC:=wq 2 m68
def oC (f:Bool)(s:List UInt8)(l:List (List UInt8)):Hp:=[(100002,.grow .sc [.str s]),(100001,.grow .sc [.str s]),(100000,.fix (.ar 3 .sc) (.aggR [.sl 100001 [] 0 1,.lst f .sc (strsAV l),.sl 100002 [] 0 1]))]
def S65 (f:Bool)(s:List UInt8)(l:List (List UInt8))(i:Nat):St :=
 ⟨[.set 11 (i64 i),.set 10 (i64 3),.set 9 (.sl 100000 [] 0 3),.set 3 (i64 (szP l i)),.set 0 (.sl 100000 [] 0 3)],oC f s l⟩
def qN (f:Bool)(s:List UInt8)(l:List (List UInt8))(i:Nat):St :=
 ⟨[.set 27 (i64 i),.set 26 (i64 3),.set 25 (.sl 100000 [] 0 3),.set 6 (.sl 24 [] 0 (apL s l i).length)],oC f s l++[(24,.grow .sc (kz (l.length+2) (apL s l i)))]⟩
set_option maxHeartbeats 1000000 in
theorem GQ (h:2<=n)(f:Bool)(s:List UInt8)(l:List (List UInt8))(hl:l.length<=1000) :
  call gl tab n 68 [.sl 100000 [] 0 3] [(100000,.fix (.ar 3 .sc) (.aggR [.sl 100001 [] 0 1,.lst f .sc (strsAV l),.sl 100002 [] 0 1])),(100001,.grow .sc [.str s]),(100002,.grow .sc [.str s])] =
   some (.sl 20000 [] 0 (l.length+2),[(100000,.fix (.ar 3 .sc) (.aggR [.sl 100001 [] 0 1,.lst f .sc (strsAV l),.sl 100002 [] 0 1])),(100001,.grow .sc [.str s]),(100002,.grow .sc [.str s])],[.grow .sc (strsAV (oV s l))]):=by
 obtain⟨d,rfl⟩:=wC h;have hs:∀i,i<3->aK [.slot 0,.slot 3,.slot 9,.slot 10,.slot 11] (evC gl (call gl tab (d+1)) L65 (S65 f s l i))=some (S65 f s l (i+1)):=fun i hi=>by
  match i,hi with
  | 0,_=>simp(disch:=apply zq;omega) only[go_sem,simprocAttr,↓wB,xx,L65,S65,oC,Pb,O9]
  | 1,_=>simp(disch:=apply zq;omega) only[go_sem,simprocAttr,↓wB,xx,L65,S65,oC,O9,O8,bM]
  | 2,_=>simp(disch:=apply zq;omega) only[go_sem,simprocAttr,↓wB,xx,L65,S65,oC,O8,Hw]
 have hs2:∀i,i<3->aK [.slot 6,.slot 25,.slot 26,.slot 27,.key 24] (evC gl (call gl tab (d+1)) LQ (qN f s l i))=some (qN f s l (i+1)):=fun i hi=>by
  match i,hi with
  | 0,_ =>
    have e:=@tO (l.length+2) [] [s] (by simp);have e2:=@oF (l.length+2) [] (by simp);simp only[wN,wO,wH,wE,List.take_zero]at e;rw[qN,qN,P6,P5,<-e];generalize kz (l.length+2) []=z at *
    simp(disch:=apply zq;omega) only[go_sem,simprocAttr,↓wB,xx,LQ,oC,false_and,decide_false,e2,wM,wH,strsAV,w9,wb,wO,wN]
  | 1,_ =>
    have e:=@tO (l.length+2) [s] l (by simp;omega);have e2:=@oF (l.length+2) [s] (by simp);simp only[wN,wO,wH,wE,List.singleton_append]at e;rw[qN,qN,P5,P4,<-e];generalize kz (l.length+2) [s]=z at *
    have c7:1+l.length=l.length+1:=by omega
    simp(disch:=apply zq;omega) only[go_sem,simprocAttr,↓wB,xx,c7,LQ,oC,false_and,decide_false,e2,wM,wH,bM,wO,wN,wU]
  | 2,_ =>
    have e:=@tO (l.length+2) (s::l) [s] (by simp);have e2:=@oF (l.length+2) (s::l) (by simp);simp only[wN,wO,wH,wE,wM]at e;rw[qN,qN,P4,LD,<-e];generalize kz (l.length+2) (s::l)=z at *
    simp(disch:=apply zq;omega) only[go_sem,simprocAttr,↓wB,xx,LQ,oC,false_and,decide_false,e2,wM,wH,strsAV,w9,wb,wO,wN,wU,wG]
 simp only[L65,wq]at hs;simp only[LQ,wq]at hs2;have c89:=@NW gl (d+1) (by omega) (l.length+2) (by omega) (by omega);rw[show((l.length+2:Nat):Int)=(l.length:Int)+2 by omega]at c89;have c8:(1:Int)+l.length+1=(l.length:Int)+2:=by omega
 have e:=Ke (oV s l);have e2:(oV s l).length=l.length+2:=by simp
 rw[e2]at e;have e3:=oF (N:=l.length+2) (l:=oV s l) (by simp);rw[<-e];rw[bf (fd:=S9) rfl];simp(disch:=apply zq;omega) only[go_sem,simprocAttr,↓wB,xx,S9,m68];rw[aE (S65 f s l) 3 (by unfold LF;omega)]
 . rw[S65,Hw,c8];simp(disch:=apply zq;omega) only[go_sem,simprocAttr,↓wB,xx,oC,c89];rw[aE (qN f s l) 3 (by unfold LF;omega)]
   . rw[qN,LD];generalize kz (l.length+2) (oV s l)=z at *
     simp(disch:=apply zq;omega) only[go_sem,simprocAttr,↓wB,xx,oC,wM,wH,e2,e3]
   . rw[qN,P6];generalize kz (l.length+2) []=z at *
     simp(disch:=apply zq;omega) only[go_sem,simprocAttr,↓wB,xx,oC,wM,wH,wN]
   . exact hs2
   . rw[qN,LD];generalize kz (l.length+2) (oV s l)=z at *
     simp(disch:=apply zq;omega) only[go_sem,simprocAttr,↓wB,xx,oC,wM,wH,e2,e3]
 . simp(disch:=apply zq;omega) only[go_sem,simprocAttr,↓wB,xx,S65,oC,Pb]
 . exact hs
 . simp(disch:=apply zq;omega) only[go_sem,simprocAttr,↓wB,xx,S65,oC,Hw]
end Go.Proofs.S51.K
namespace Go.Proofs.S51.K
open Go Go.Ev Go.Proofs
open Go.Proofs.S51.H (strsAV bM mP Sml GlK)
variable {gl :Gl} {n:Nat}
def Pts (l:List (List UInt8)):Prop:=l.length<=100/\∀x∈l,x.length<=1048576
theorem Pts.all {s:List UInt8}{l:List (List UInt8)}(h:Pts l)(hs:s.length<=1048576):Sml (oV s l):=by
 refine⟨by have:=h.1;simp;omega,fun x hx=> ?_⟩;simp only[oV,w0,List.mem_append,wW,or_false]at hx;rcases hx with rfl|hx|rfl
 . exact hs
 . exact h.2 x hx
 . exact hs
theorem make_w [Nonempty (GlK gl)](h:8<=n)(x:Ky)(hx:x.k.length<=1048576)(tag:Int)(f:Bool)(l:List (List UInt8))(hl:Pts l) :
  ∃z:List AV,z.length=16/\z.all AV.scalar=true/\dN z=true/\call gl tab n 35 [ky x,i64 tag,.lst f .sc (strsAV l)] []=some (.agg z,[],[]):=by
 obtain⟨d,rfl⟩:=wC h;have c65:=@GQ gl (d+7) (by omega) f x.k l (by have:=hl.1;omega);obtain⟨o,ho,c64⟩:=@H.of_w gl _ (d+1) tag false (oV x.k l) (hl.all hx);have e1:(strsAV (oV x.k l)).length=l.length+2:=by rw[bM];simp
 have e2:List.take (l.length+2) (strsAV (oV x.k l))=strsAV (oV x.k l):=by rw[<-e1];exact List.take_length
 have d1:(az o).length=16:=by rw[aH,ho]
 have d2:=H.bytes_all o;have d3:=H.noImms_bytesAV o;refine⟨az o,d1,d2,d3,?_⟩;generalize az o=z at *
 generalize strsAV (oV x.k l)=w at *
 rw[au (fd:=Tu) rfl];simp(disch:=apply zq;omega) only[go_sem,simprocAttr,↓wB,xx,Tu,m35,c65,c64,e1,e2,d1,d2,d3]
end Go.Proofs.S51.K
namespace Go.Proofs.S51
open Go Go.Ev Go.Proofs Go.Fl
variable {gl :Gl} {n:Nat}
theorem EY (h:1<=n){q:PF}{p:List Sp}{r:List Rd}(hp:p.length<=1000){w:Fq}{fl:List Int}{i:Nat}(hi:i<p.length)(hl:i<fl.length):call gl tab n 33 [plV q p r,fqV w fl,i64 (i:Int)] []=some (i64 (nth fl i),[],[]):=by obtain⟨d,rfl⟩:=wC h;have x1:=bc hl;rw[au (fd:=Tv) rfl];simp(disch:=apply zq;omega) only[go_sem,simprocAttr,↓wB,xx,Tv,m33,ah,ae,x1]
theorem Cc (h:6<=n){q:PF}{p:List Sp}{r:List Rd}(hq:PFOk q p r)(hk:PK p r)(hp:p.length<=49)(hr:r.length<=1500){sent:Int}{fl pr:List Int}{cut:List Nat}(hs:SR (net p r) 0 1 (dm p p.length) fl pr sent cut)
  {w:Fq} (w1:w.s=sent) (w2:w.c=tot (aJ p r) fl (aJ p r).length) (w3:w.pr=pr) (w4:w.cut=cut):call gl tab n 32 [plV q p r,fqV w fl] []=some (i64 0,[],[]):=by
 obtain⟨d,rfl⟩:=wC h;have c17:=@vI gl (d+5) (by omega) q p r hq hk;have c19:=@yd gl (d+5) q p r hq hk (by omega);have c20:=@me gl (d+5) q p r hq hk (by omega);have hb:=GN hk.ok.cp p.length (wD _);have c60:=@GZ gl (d+5) (by omega) (net p r) (nB p r) (nS p r) 0 1 (dm p p.length) sent fl pr cut w (gQ hq hk hp hr) (Pn p r) (by show 0<2+2*p.length;omega) (by show 1<2+2*p.length;omega) (by omega) hs (by omega) w1 w2 w3 w4;rw[show((0:Nat):Int)=0 from rfl,show((1:Nat):Int)=1 from rfl]at c60;rw[au (fd:=Tw) rfl];simp(disch:=apply zq;omega) only[go_sem,simprocAttr,↓wB,xx,Tw,m32,c17,c19,c20,c60]
theorem Lo (h:1<=n){a b:Int}(ha:0<=a)(hab:a<=b)(hb:b<=1099511627776):call gl tab n 30 [.agg [i64 a,i64 b]] []=some (.bool true,[],[]):=by obtain⟨d,rfl⟩:=wC h;rw[au (fd:=Ku) rfl];simp(disch:=apply zq;omega) only[go_sem,simprocAttr,↓wB,xx,Ku,m30]
structure G8 (x:Rf):Prop where
 sl:SlOk x.sl
 b:∀y∈[(x.pl:Int),x.nn,x.wn,x.sent,x.lo,x.hi,x.ser],-9223372036854775808<=y/\y<=9223372036854775807
 l:x.cut.length<=1000
 c:∀k∈x.cut,k<=1000000
theorem IJ (h:4<=n){x:Rf}(hx:G8 x):∃a b:List UInt8,a.length<=1000000/\b.length<=1000000/\call gl tab n 36 [rfV x] []=some (.sl 20000 [] 0 2,[],[.grow .sc [.str a,.str b]]):=by
 obtain⟨d,rfl⟩:=wC h;obtain⟨a,ha,c1⟩:=@H.ints_w gl d false [(x.pl:Int),x.nn,x.wn,x.sent,x.lo,x.hi,x.ser] ⟨by simp,hx.b⟩;obtain⟨b,hb,c2⟩:=@H.ints_w gl d x.c (x.cut.map fun(k:Nat)=>(k:Int)) ⟨by simp;exact hx.l,fun y hy=>by
  obtain⟨k,hk,rfl⟩:=wS.1 hy;have:=hx.c k hk;omega⟩
 have hl:=hx.l;rw[List.length_map]at hb;have e1:H.nsI [(x.pl:Int),x.nn,x.wn,x.sent,x.lo,x.hi,x.ser]=[i64 (x.pl:Int),i64 x.nn,i64 x.wn,i64 x.sent,i64 x.lo,i64 x.hi,i64 x.ser]:=rfl;have e2:H.nsI (x.cut.map fun(k:Nat)=>(k:Int))=us x.cut:=by unfold H.nsI us;rw[List.map_map];rfl
 rw[e1]at c1;rw[e2]at c2;refine⟨a,b,Nat.le_trans ha (by simp),by omega,?_⟩;rw[au (fd:=Tt) rfl];have ta:(az a).take a.length=az a:=wR (by rw[aH];exact wD _);have tb:(az b).take b.length=az b:=wR (by rw[aH];exact wD _);simp(disch:=apply zq;omega) only[go_sem,simprocAttr,↓wB,xx,Tt,m36,c1,c2,hx.sl.len,hx.sl.a,hx.sl.i,H.noImms_bytesAV,ta,tb]
abbrev kyV (p s:Int)(k:List UInt8)(f t:Int):AV:=.agg [i64 p,i64 s,.str k,i64 f,i64 t]
set_option maxHeartbeats 2000000 in
theorem Ag [Nonempty (H.GlK gl)](h:10<=n){q:PF}{p:List Sp}{r:List Rd}(hq:PFOk q p r)(hk:PK p r)(hp:p.length<=49)(hr:r.length<=1500){sent:Int}{fl pr:List Int}{cut:List Nat}(hs:SR (net p r) 0 1 (dm p p.length) fl pr sent cut)
  {w:Fq} (w1:w.s=sent) (w2:w.c=tot (aJ p r) fl (aJ p r).length) (w3:w.pr=pr) (w4:w.cut=cut) (hcl:cut≠[])
  (Y:K.Ky) (hK:K.VK Y) {i:Nat} (hi:i<p.length) (hkd:(spt p i).kd=1) (hKp:Y.p=1000+(spt p i).nu) {nn wn lo ho:Int} (hn1:nth fl i<=nn) (hn2:nn<(spt p i).cp) (hw:0<=wn/\wn<=1099511627776) (h1:0<=lo) (h2:lo<=ho) (h3:ho<=1099511627776) :
  ∃sl,SlOk sl/\call gl tab n 9 [kyV Y.p Y.s Y.k Y.f Y.t,plV q p r,fqV w fl,i64 (i:Int),i64 nn,i64 wn,.agg [i64 lo,i64 ho]] []=some (.tup [rfV ⟨i,nn,wn,sent,false,cut,lo,ho,Y.s,sl⟩,i64 0],[],[]):=by
 obtain⟨d,rfl⟩:=wC h;have hg:=gQ hq hk hp hr;have c32:=@DV gl (d+9) (by omega) q p r hq (by omega) i hi hkd;have c33:=@K.valid_at gl (d+9) (by omega) Y hK;have c34:=@Lo gl (d+9) (by omega) lo ho h1 h2 h3;have c35:=@u7 gl (d+9) (by omega) wn hw;have c36:=@Cc gl (d+9) (by omega) q p r hq hk hp hr sent fl pr cut hs w w1 w2 w3 w4;have hln:=bU p r;have hfl:fl.length=(aJ p r).length:=hs.si.fb.l;have c37:=@EY gl (d+9) (by omega) q p r (by omega) w fl i hi (by omega);have hfb:=hs.si.fb.b i (by show i<(aJ p r).length;omega);have hcp:=hk.ok.cp i hi;have hsa:=hs.si.sa;have hdb:=GN hk.ok.cp p.length (wD _);have hck:CK cut (net p r).n:=by
  rcases hs.c with ⟨_,e⟩|⟨_,out,_,_,e⟩
  . exact absurd e hcl
  . rw[e];exact yV out _
 have hgn:=hg.n;have hcn:=hck.n;have z16:SlOk (H.zb 16):=⟨rfl,by decide,by decide⟩;have ok:G8 ⟨i,nn,wn,sent,false,cut,lo,ho,Y.s,H.zb 16⟩:=⟨z16,fun y hy=>by
  have:=hK.s;simp only[w0,wW,or_false]at hy;rcases hy with rfl|rfl|rfl|rfl|rfl|rfl|rfl<;>omega,by simp only;omega,fun k hkc=>by
  obtain⟨j,hj,e⟩:=List.getElem_of_mem hkc;have:=hck.l j k (by rw[wK hj,e]);omega⟩
 obtain⟨a,b,ha,hb,c40⟩:=@IJ gl (d+9) (by omega) _ ok;obtain⟨sl,d1,d2,d3,c39⟩:=@K.make_w gl (d+9) _ (by omega) Y (by have:=hK.k;omega) 410 false [a,b] ⟨by simp,fun y hy=>by
  simp only[w0,wW,or_false]at hy;rcases hy with rfl|rfl<;>omega⟩
 refine⟨sl,⟨d1,d2,d3⟩,?_⟩;have e40:H.strsAV [a,b]=[.str a,.str b]:=rfl;rw[e40]at c39;have htc:(us w.cut).take w.cut.length=us w.cut:=wR (by rw[aj];exact wD _);simp only[rfV,H.zb,List.reduceReplicate]at c40;have c38:call gl tab (d+9) 34 [.lst w.b3 .sc (us w.cut)] []=some (.sl 20000 [] 0 w.cut.length,[],[.grow .sc (us w.cut)]):=by
  have h1:w.cut.length<=LIM:=by unfold LIM;rw[w4];omega
  rw[cX (fd:=Ob) rfl rfl];simp[iY,aj,h1,Sh.beq]
 have e39:(Y.p != 1000+(spt p i).nu)=false:=by rw[hKp];simp
 have hKs:=hK.s;have hnu:=hk.ok.nu i hi;have hul:(us cut).length=cut.length:=aj cut;have hcl2:0<cut.length:=w5.2 hcl;rw[au (fd:=fd9) rfl];subst w1 w4;simp(disch:=apply zq;omega) only[go_sem,simprocAttr,↓wB,xx,fd9,m9,c38,c32,c33,c34,c35,c36,c37,c39,c40,e39,d1,d2,d3,hul,htc]
end Go.Proofs.S51
