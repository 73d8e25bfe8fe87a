/-
  Chapter 4: what Check answers, in both. No condition.
-/
import Derived.Test.YtcddalfeicoedaaDoorW94G5x3
set_option linter.all false
open List renaming map_cons->wA,map_nil->wB,take_of_length_le->wC,length_append->wD,mem_cons->wE
open Nat renaming exists_eq_add_of_le'->wF,le_refl->wG
namespace Go.Proofs.S94
open Go Go.Ev Go.Proofs
open Go.Proofs.S94.H (strsAV zaa zaj Sml GlK GlR)
variable {gl :Gl} {n:Nat}
theorem eqB_all :∀(a b:List UInt8),a.length=b.length->zpo ((zab a).zip (zab b)) (fun p=>eqAV .it p.1 p.2)=some (decide (a=b))
 | [],[],_=>rfl
 | x::a,y::b,h=>by
   have ih:=eqB_all a b (by simpa using h)
   simp only[zab,wA,List.zip_cons_cons,zpo,eqAV,if_pos,Option.bind_some]
   simp only[zab]at ih
   rw[ih]
   by_cases e:x=y
   . subst e;simp
   . have:((x.toNat:Int)==(y.toNat:Int))=false:=by
      rw[beq_eq_false_iff_ne];intro h2
      exact e (UInt8.toNat_inj.1 (by omega))
     rw[this];simp[e]
 | [],_::_,h=>by simp at h
 | _::_,[],h=>by simp at h
theorem eqB {a b:List UInt8}(ha:a.length=16)(hb:b.length=16):eqAV (.ar 16 .it) (.agg (zab a)) (.agg (zab b))=some (decide (a=b)):=by
 have:=eqB_all a b (by omega)
 rw[eqAV,if_pos ⟨by rw[zac];exact ha,by rw[zac];exact hb⟩]
 exact this
def fnK (l:List Ky)(p s:Int):Option Ky:=l.find? fun x=>x.p==p&&x.s==s
theorem qdu {l:List Ky}(hv:VR l){p s:Int}{k:Nat}(hk:Is l p s k):fnK l p s=some (yat l k):=by
 unfold fnK
 rw[List.find?_eq_some_iff_getElem]
 refine⟨by rw[Bool.and_eq_true,beq_iff_eq,beq_iff_eq];exact hk.2,k,hk.1,(zp4 hk.1).symm,fun j hj=> ?_⟩
 have hj2:j<l.length:=by have:=hk.1;omega
 rw[Bool.not_eq_true',Bool.and_eq_false_iff]
 by_cases h1:l[j].p=p
 . right;rw[beq_eq_false_iff_ne];intro h2
   have:=z6h hv ⟨hj2,by rw[zp4 hj2];exact h1,by rw[zp4 hj2];exact h2⟩ hk
   omega
 . left;rw[beq_eq_false_iff_ne];exact h1
theorem qdt {l:List Ky}{p s:Int}(hk:∀k,¬Is l p s k):fnK l p s=none:=by
 unfold fnK
 rw[List.find?_eq_none]
 intro x hx
 obtain⟨j,hj,rfl⟩:=List.getElem_of_mem hx
 rw[Bool.and_eq_true,beq_iff_eq,beq_iff_eq]
 rintro ⟨h1,h2⟩
 exact hk j ⟨hj,by rw[zp4 hj];exact h1,by rw[zp4 hj];exact h2⟩
def ckE (l:List Ky)(p s tag:Int)(ps:List (List UInt8))(sl:List UInt8)(lo hi:Int):Int :=
 match fnK l p s with
 | none=>5
 | some x=>if cnt x lo hi=true then(if sea x.k tag ps=sl then 0 else 8)else 9
section
variable {f :Bool} {m:Sh} {l:List Ky} {p s:Int} {sl:List UInt8} {ps:List (List UInt8)} {fp:Bool}
theorem z5r [Nonempty (GlK gl)](h:10<=n)(hm:Mk l m)(hv:VR l)(hp:R64 p)(hs:R64 s)(tag:Int)(hps:Pts ps)(hsl:sl.length=16)(lo hi:Int) :
  call gl tab n 55 [.lst f m (ks l),i64 p,i64 s,i64 tag,.lst fp .sc (strsAV ps),.agg (zab sl),.agg [i64 lo,i64 hi]] []=some (i64 (ckE l p s tag ps sl lo hi),[],[]):=by
 obtain⟨d,rfl⟩:=wF h
 have b1:(zab sl).length=16:=by rw[zac];exact hsl
 have b2:=H.bytes_all sl
 rcases @qcf gl (d+9) (by omega) f m l hm hv p s hp hs with ⟨k,hk,c16⟩|⟨hno,c16⟩
 . have e:=qdu hv hk
   have hvk:=(hv.ok k hk.1).v.k
   have c62:=@z10 gl (d+9) (by omega) (yat l k) lo hi
   have c23:=@zzu gl (d+9) _ (by omega) (yat l k) (by omega) tag fp ps hps
   have d1:=zoi (yat l k).k tag ps
   have d2:=zoj (yat l k).k tag ps
   have eq:=eqB (zoh (yat l k).k tag ps) hsl
   rw[show zab (sea (yat l k).k tag ps)=sAV (yat l k).k tag ps from rfl]at eq
   unfold ckE
   rw[e]
   simp only
   cases hc:cnt (yat l k) lo hi with
   | false =>
     rw[hc]at c62
     rw[zae (fd:=fd55) rfl]
     simp(disch:=apply zq;omega) only[go_sem,simprocAttr,↓Nat.reduceEqDiff,xx,fd55,m55,c16,c62,b1,b2,Bool.false_eq_true]
   | true =>
     rw[hc]at c62
     by_cases hq:sea (yat l k).k tag ps=sl
     . rw[decide_eq_true hq]at eq
       rw[if_pos rfl,if_pos hq]
       generalize sAV (yat l k).k tag ps=z at *
       generalize zab sl=w at *
       rw[zae (fd:=fd55) rfl]
       simp(disch:=apply zq;omega) only[go_sem,simprocAttr,↓Nat.reduceEqDiff,xx,fd55,m55,c16,c62,b1,b2,c23,d1,d2,eq]
     . rw[decide_eq_false hq]at eq
       rw[if_pos rfl,if_neg hq]
       generalize sAV (yat l k).k tag ps=z at *
       generalize zab sl=w at *
       rw[zae (fd:=fd55) rfl]
       simp(disch:=apply zq;omega) only[go_sem,simprocAttr,↓Nat.reduceEqDiff,xx,fd55,m55,c16,c62,b1,b2,c23,d1,d2,eq]
 . unfold ckE
   rw[qdt hno]
   rw[zae (fd:=fd55) rfl]
   simp(disch:=apply zq;omega) only[go_sem,simprocAttr,↓Nat.reduceEqDiff,xx,fd55,m55,c16,b1,b2]
end
end Go.Proofs.S94
namespace Go.Proofs.S94.H
open Go Go.Ev Go.Proofs Go.Proofs.S94
variable {gl :Gl}
def nsI (l:List Int):List AV:=l.map fun n=>.int .i64 n
theorem zak (l:List Int):(nsI l).length=l.length:=by simp[nsI]
theorem zdk {l:List Int}{i:Nat}(h:i<l.length):(nsI l)[i]? =some (.int .i64 l[i]):=by simp[nsI,h]
def zbh (l:List Int):Prop:=l.length<=1000/\∀x∈l,-9223372036854775808<=x/\x<=9223372036854775807
theorem z9y {l:List Int}(h:zbh l){i:Nat}(hi:i<l.length):-9223372036854775808<=l[i]/\l[i]<=9223372036854775807:=h.2 _ (List.getElem_mem hi)
def zam (l:List Int):List UInt8:=zint l.length++(l.map zint).flatten
def zpre (l:List Int)(i:Nat):List UInt8:=zint l.length++((l.take i).map zint).flatten
theorem z5z (l:List Int):zpre l 0=zint l.length:=by simp[zpre]
theorem znw (l:List Int):zpre l l.length=zam l:=by simp[zpre,zam]
theorem z5y {l:List Int}{i:Nat}(hi:i<l.length):zpre l (i+1)=zpre l i++zint l[i]:=by
 unfold zpre;rw[List.take_succ_eq_append_getElem hi,List.map_append,List.flatten_append,<-List.append_assoc];simp
theorem znv {l:List Int}:∀{i:Nat},i<=l.length->(zpre l i).length<=10*(i+1)
 | 0,_=>by rw[z5z];have:=zaw l.length;omega
 | i+1,h=>by
   have h1:=znv (l:=l) (i:=i) (by omega)
   have h2:=zaw l[i]
   rw[z5y (by omega),wD];omega
theorem zints_len {l:List Int}:(zam l).length<=10*(l.length+1):=by rw[<-znw];exact znv (wG _)
def LwI :MC:=match m93 with| .seq _ (.seq _ (.seq (.seq _ (.block _ (.loop _ b))) _))=>b|_=>.skip
def SwI (f:Bool)(l:List Int)(i:Nat):St :=
 ⟨[.set 13 (.int .i64 i),.set 12 (.int .i64 l.length),.set 11 (.lst f .sc (nsI l)),.set 5 (.sl 5005 [] 0 (zpre l i).length),.set 1 (.fn 82 [])],[(5005,.grow .sc (zab (zpre l i)))]⟩
theorem ints_ok {n:Nat}(h:3<=n)(f:Bool)(l:List Int)(hl:zbh l):call gl tab n 83 [.lst f .sc (nsI l)] []=some (.sl 20000 [] 0 (zam l).length,[],[.grow .sc (zab (zam l))]):=by
 obtain⟨d,rfl⟩:=wF h
 have h1:=hl.1
 have hs:∀i,i<l.length->zb1 [.slot 1,.own 5 5005 .sc,.slot 11,.slot 12,.slot 13] (evC gl (call gl tab (d+1)) LwI (SwI f l i))=some (SwI f l (i+1)):=fun i hi=>by
  have hx:=zdk hi
  have c:=int53_ok (gl:=gl) d l[i] (z9y hl hi)
  have hz:=zaw l[i]
  have hp:=znv (l:=l) (i:=i) (by omega)
  have hL:(zpre l i).length+(zint l[i]).length<=LIM:=by unfold LIM;omega
  rw[SwI,SwI,z5y hi,zaf,wD]
  generalize zpre l i=p at *
  generalize zint l[i]=q at *
  simp(disch:=apply zq;omega) only[go_sem,simprocAttr,↓Nat.reduceEqDiff,xx,LwI,m93,hx,zak,c,zac,hL]
 simp only[LwI,m93]at hs
 have c0:=int53_ok (gl:=gl) d (l.length:Int) (by omega)
 have e2:=zac (zam l)
 have cl:call gl tab (d+2) 93 [.lst f .sc (nsI l),.fn 82 []] []=some (.sl 20000 [] 0 (zam l).length,[],[.grow .sc (zab (zam l))]):=by
  rw[zae (fd:=fd93) rfl]
  simp(disch:=apply zq;omega) only[go_sem,simprocAttr,↓Nat.reduceEqDiff,xx,fd93,m93,zak,c0]
  rw[zao (SwI f l) l.length (by unfold LF;omega)]
  . rw[SwI,znw]
    simp(disch:=apply zq;omega) only[go_sem,simprocAttr,↓Nat.reduceEqDiff,xx,zak,zac]
  . simp(disch:=apply zq;omega) only[go_sem,simprocAttr,↓Nat.reduceEqDiff,xx,SwI,z5z,zak]
  . exact hs
  . rw[SwI,znw]
    simp(disch:=apply zq;omega) only[go_sem,simprocAttr,↓Nat.reduceEqDiff,xx,zak,zac]
 rw[zae (fd:=fd83) rfl]
 generalize zam l=z at *
 simp(disch:=apply zq;omega) only[go_sem,simprocAttr,↓Nat.reduceEqDiff,xx,fd83,m83,cl,e2,noImms_bytesAV]
end Go.Proofs.S94.H
namespace Go.Proofs.S94.H
open Go Go.Ev Go.Proofs Go.Proofs.S94
variable {gl :Gl}
end Go.Proofs.S94.H
namespace Go.Proofs.S94
open Go Go.Ev Go.Proofs
open Go.Proofs.S94.H (strsAV zaa zaj Sml GlK GlR zam zbh nsI)
variable {gl :Gl} {n:Nat}
theorem zs4 (h:4<=n)(f:Bool)(l:List Int)(hl:zbh l):call gl tab n 75 [.lst f .sc (nsI l)] []=some (.str (zam l),[],[]):=by
 obtain⟨d,rfl⟩:=wF h
 have c:=@H.ints_ok gl (d+3) (by omega) f l hl
 have t:List.take (zam l).length (zab (zam l))=zab (zam l):=wC (by rw[zac];exact wG _)
 rw[zae (fd:=fd75) rfl]
 generalize zam l=z at *
 simp(disch:=apply zq;omega) only[go_sem,simprocAttr,↓Nat.reduceEqDiff,xx,fd75,m75,c,zac,t]
abbrev sB :Sh:=.ar 16 .sc
abbrev bAV (b:List UInt8):AV:=.agg (zab b)
theorem b16 {b:List UInt8}(h:b.length=16):(zab b).length=16:=by rw[zac];exact h
theorem b16t {b:List UInt8}(h:b.length=16):List.take 16 (zab b)=zab b:=wC (by rw[b16 h];exact wG _)
structure Le where
 site:Int
 ep:Int
 til:Int
 ser:Int
 sgn:List UInt8
abbrev leAV (x:Le):AV:=.agg [i64 x.site,i64 x.ep,i64 x.til,i64 x.ser,bAV x.sgn]
structure LeOk (x:Le):Prop where
 i:zbh [x.site,x.ep,x.til,x.ser]
 s:x.sgn.length=16
def leP (x:Le):List (List UInt8):=[zam [x.site,x.ep,x.til,x.ser]]
theorem z6g (h:5<=n)(x:Le)(hx:LeOk x):call gl tab n 69 [leAV x] []=some (.lst false .sc (strsAV (leP x)),[],[]):=by
 obtain⟨d,rfl⟩:=wF h
 have c:=@zs4 gl (d+4) (by omega) false _ hx.i
 have b1:=b16 hx.s
 have b2:=H.bytes_all x.sgn
 simp only[nsI,wA,wB]at c
 unfold leP
 simp only[strsAV,wA,wB]
 generalize zam _=z at *
 rw[zae (fd:=fd69) rfl]
 simp(disch:=apply zq;omega) only[go_sem,simprocAttr,↓Nat.reduceEqDiff,xx,fd69,m69,c,hx.s,b2]
structure Hd where
 site:Int
 size:Int
 root:List UInt8
 lo:Int
 hi:Int
 ser:Int
 sgn:List UInt8
abbrev hdAV (x:Hd):AV:=.agg [i64 x.site,i64 x.size,bAV x.root,.agg [i64 x.lo,i64 x.hi],i64 x.ser,bAV x.sgn]
structure HdOk (x:Hd):Prop where
 i:zbh [x.site,x.size,x.lo,x.hi,x.ser]
 r:x.root.length=16
 s:x.sgn.length=16
def hdP (x:Hd):List (List UInt8):=[zam [x.site,x.size,x.lo,x.hi,x.ser],x.root]
theorem z6k (h:5<=n)(x:Hd)(hx:HdOk x):call gl tab n 50 [hdAV x] []=some (.lst false .sc (strsAV (hdP x)),[],[]):=by
 obtain⟨d,rfl⟩:=wF h
 have c:=@zs4 gl (d+4) (by omega) false _ hx.i
 have b1:=b16 hx.s
 have b2:=H.bytes_all x.sgn
 have b3:=b16 hx.r
 have b4:=H.bytes_all x.root
 have b5:=b16t hx.r
 simp only[nsI,wA,wB]at c
 unfold hdP
 simp only[strsAV,wA,wB]
 generalize zam _=z at *
 rw[zae (fd:=fd50) rfl]
 simp(implicitDefEqProofs:=false) (disch:=apply zq;omega) only[go_sem,simprocAttr,↓Nat.reduceEqDiff,xx,fd50,m50,c,hx.s,b2,hx.r,b4,b5]
structure Sp where
 addr:List UInt8
 var:List UInt8
 st:Int
 sz:Int
 body:List UInt8
 tags:List UInt8
 lo:Int
 hi:Int
 gate:Int
 ser:Int
 sgn:List UInt8
abbrev spAV (x:Sp):AV:=.agg [.str x.addr,.str x.var,i64 x.st,i64 x.sz,bAV x.body,.str x.tags,.agg [i64 x.lo,i64 x.hi],i64 x.gate,i64 x.ser,bAV x.sgn]
structure SpOk (x:Sp):Prop where
 i:zbh [x.st,x.sz,x.lo,x.hi,x.gate,x.ser]
 r:x.body.length=16
 s:x.sgn.length=16
def spP (x:Sp):List (List UInt8):=[x.addr,x.var,zam [x.st,x.sz,x.lo,x.hi,x.gate,x.ser],x.body,x.tags]
theorem z58 (h:5<=n)(x:Sp)(hx:SpOk x):call gl tab n 68 [spAV x] []=some (.lst false .sc (strsAV (spP x)),[],[]):=by
 obtain⟨d,rfl⟩:=wF h
 have c:=@zs4 gl (d+4) (by omega) false _ hx.i
 have b1:=b16 hx.s
 have b2:=H.bytes_all x.sgn
 have b3:=b16 hx.r
 have b4:=H.bytes_all x.body
 have b5:=b16t hx.r
 simp only[nsI,wA,wB]at c
 unfold spP
 simp only[strsAV,wA,wB]
 generalize zam _=z at *
 rw[zae (fd:=fd68) rfl]
 simp(implicitDefEqProofs:=false) (disch:=apply zq;omega) only[go_sem,simprocAttr,↓Nat.reduceEqDiff,xx,fd68,m68,c,hx.s,b2,hx.r,b4,b5]
end Go.Proofs.S94
namespace Go.Proofs.S94
open Go Go.Ev Go.Proofs
open Go.Proofs.S94.H (strsAV zaa zaj Sml GlK GlR zam zbh nsI)
variable {gl :Gl} {n:Nat}
theorem z2w {l:List Int}(h:l.length<=1000):(zam l).length<=1048576:=by have:=@H.zints_len l;omega
structure KOk (k:Ky):Prop where
 p:R64 k.p
 s:R64 k.s
 k:k.k.length<=1048576
theorem VK.ok {k:Ky}(h:VK k):KOk k:=⟨R64.of h.p,R64.of h.s,by have:=h.k;omega⟩
theorem zkp {a:Int}{l:List Int}(h:zbh (a::l)):R64 a/\zbh l:=⟨h.2 a (by simp),by have:=h.1;simp at this;omega,fun x hx=>h.2 x (by simp[hx])⟩
theorem zbn {a:Int}{l:List Int}(h1:R64 a)(h2:zbh l)(h3:l.length<1000):zbh (a::l):=⟨by simp;omega,fun x hx=>by
 simp only[wE]at hx
 rcases hx with rfl|hx
 . exact h1
 . exact h2.2 x hx⟩
theorem zgv :zbh []:=⟨by simp,fun x hx=>by simp at hx⟩
def hdK (k:Ky)(x:Hd):Hd:=⟨x.site,x.size,x.root,x.lo,x.hi,k.s,x.sgn⟩
def hdS (k:Ky)(x:Hd):Hd:=⟨x.site,x.size,x.root,x.lo,x.hi,k.s,sea k.k 44 (hdP (hdK k x))⟩
theorem z6l {k:Ky}(hk:KOk k){x:Hd}(h:HdOk x):HdOk (hdK k x):=by
 obtain⟨a1,h1⟩:=zkp h.i
 obtain⟨a2,h2⟩:=zkp h1
 obtain⟨a3,h3⟩:=zkp h2
 obtain⟨a4,h4⟩:=zkp h3
 exact⟨zbn a1 (zbn a2 (zbn a3 (zbn a4 (zbn hk.s zgv (by simp)) (by simp)) (by simp)) (by simp)) (by simp),h.r,h.s⟩
theorem z0m {k:Ky}(hk:KOk k){x:Hd}(h:HdOk x):HdOk (hdS k x):=⟨(z6l hk h).i,h.r,zoh _ _ _⟩
theorem z0n {x:Hd}(h:HdOk x):Pts (hdP x):=⟨by simp[hdP],fun y hy=>by
 simp only[hdP,wE,List.not_mem_nil,or_false]at hy
 rcases hy with rfl|rfl
 . exact z2w (by simp)
 . rw[h.r];decide⟩
theorem z9j [Nonempty (GlK gl)](h:9<=n){k:Ky}(hk:KOk k)(tag:Int)(x:Hd)(hx:HdOk x):call gl tab n 49 [ky k,i64 tag,hdAV x,.fn 50 []] []=some (.agg (sAV k.k tag (hdP x)),[],[]):=by
 obtain⟨d,rfl⟩:=wF h
 have c1:=@z6k gl (d+8) (by omega) x hx
 have c2:=@zzu gl (d+8) _ (by omega) k hk.k tag false (hdP x) (z0n hx)
 have q0:=H.bytes_all x.sgn
 have q1:=H.bytes_all x.root
 have d1:=zoi k.k tag (hdP x)
 have d2:=zoj k.k tag (hdP x)
 have d3:=zyt k.k tag (hdP x)
 generalize sAV k.k tag (hdP x)=z at *
 generalize strsAV (hdP x)=w at *
 rw[zae (fd:=fd49) rfl]
 simp(implicitDefEqProofs:=false) (disch:=apply zq;omega) only[go_sem,simprocAttr,↓Nat.reduceEqDiff,xx,fd49,m49,c1,c2,hx.s,hx.r,q0,q1,d1,d2,d3,↓out16_eq,H.out16_len,H.out16_all,H.out16_pl]
theorem qdm [Nonempty (GlK gl)](h:10<=n){k:Ky}(hk:KOk k)(x:Hd)(hx:HdOk x):call gl tab n 26 [ky k,hdAV x] []=some (hdAV (hdS k x),[],[]):=by
 obtain⟨d,rfl⟩:=wF h
 have c1:=@z9j gl (d+9) _ (by omega) k hk 44 _ (z6l hk hx)
 have q0:=H.bytes_all x.sgn
 have q1:=H.bytes_all x.root
 have d1:=zoi k.k 44 (hdP (hdK k x))
 have d2:=zoj k.k 44 (hdP (hdK k x))
 have d3:=zyt k.k 44 (hdP (hdK k x))
 have e1:zab (sea k.k 44 (hdP (hdK k x)))=sAV k.k 44 (hdP (hdK k x)):=rfl
 unfold hdS
 simp only[hdAV,hdK,bAV,e1]at c1 d1 d2 d3 ⊢
 simp only[hdK,bAV]at e1
 rw[e1]
 generalize sAV k.k 44 _=z at *
 rw[zae (fd:=fd26) rfl]
 simp(implicitDefEqProofs:=false) (disch:=apply zq;omega) only[go_sem,simprocAttr,↓Nat.reduceEqDiff,xx,fd26,m26,c1,hx.s,hx.r,q0,q1,d1,d2,d3,↓out16_eq,H.out16_len,H.out16_all,H.out16_pl]
end Go.Proofs.S94
namespace Go.Proofs.S94
open Go Go.Ev Go.Proofs
open Go.Proofs.S94.H (strsAV zaa zaj Sml GlK GlR zam zbh nsI)
variable {gl :Gl} {n:Nat}
def zij (a:Int):Bool:=decide (0<=a/\a<64)
theorem site_at (h:1<=n)(a:Int):call gl tab n 54 [i64 a] []=some (.bool (zij a),[],[]):=by
 obtain⟨d,rfl⟩:=wF h
 rw[zae (fd:=fd54) rfl]
 unfold zij
 by_cases h1:0<=a
 . by_cases h2:a<64
   . rw[decide_eq_true ⟨h1,h2⟩];simp(disch:=apply zq;omega) only[go_sem,simprocAttr,↓Nat.reduceEqDiff,xx,fd54,m54]
   . rw[decide_eq_false fun h=>h2 h.2];simp(disch:=apply zq;omega) only[go_sem,simprocAttr,↓Nat.reduceEqDiff,xx,fd54,m54]
 . rw[decide_eq_false fun h=>h1 h.1];simp(disch:=apply zq;omega) only[go_sem,simprocAttr,↓Nat.reduceEqDiff,xx,fd54,m54]
def hdC (l:List Ky)(x:Hd):Int:=if zij x.site=true then ckE l (1000+x.site) x.ser 44 (hdP x) x.sgn x.lo x.hi else 1
theorem SpOk.g {x:Sp}(h:SpOk x):R64 x.gate/\R64 x.ser:=⟨h.i.2 _ (by simp),h.i.2 _ (by simp)⟩
theorem LeOk.g {x:Le}(h:LeOk x):R64 x.ser:=h.i.2 _ (by simp)
theorem LeOk.u {x:Le}(h:LeOk x):R64 x.til:=h.i.2 _ (by simp)
theorem HdOk.g {x:Hd}(h:HdOk x):R64 x.ser:=h.i.2 _ (by simp)
section
variable {f :Bool} {m:Sh} {l:List Ky}
theorem zq7 [Nonempty (GlK gl)](h:11<=n)(hm:Mk l m)(hv:VR l)(x:Hd)(hx:HdOk x):call gl tab n 33 [.lst f m (ks l),hdAV x] []=some (i64 (hdC l x),[],[]):=by
 obtain⟨d,rfl⟩:=wF h
 have c0:=@site_at gl (d+10) (by omega) x.site
 have q0:=H.bytes_all x.sgn
 have q1:=H.bytes_all x.root
 unfold hdC
 by_cases hsi:zij x.site=true
 . rw[hsi]at c0
   rw[if_pos hsi]
   simp only[zij,decide_eq_true_eq]at hsi
   have c1:=@z6k gl (d+10) (by omega) x hx
   have c2:=@z5r gl (d+10) f m l (1000+x.site) _ _ _ false _ (by omega) hm hv (by unfold R64;omega) hx.g 44 (z0n hx) hx.s x.lo x.hi
   generalize ckE _ _ _ _ _ _ _ _=z at *
   generalize strsAV (hdP x)=w at *
   rw[zae (fd:=fd33) rfl]
   simp(implicitDefEqProofs:=false) (disch:=apply zq;omega) only[go_sem,simprocAttr,↓Nat.reduceEqDiff,xx,fd33,m33,c0,c1,c2,hx.s,hx.r,q0,q1]
 . rw[if_neg hsi]
   rw[Bool.not_eq_true]at hsi
   rw[hsi]at c0
   rw[zae (fd:=fd33) rfl]
   simp(implicitDefEqProofs:=false) (disch:=apply zq;omega) only[go_sem,simprocAttr,↓Nat.reduceEqDiff,xx,fd33,m33,c0,hx.s,hx.r,q0,q1]
end
end Go.Proofs.S94
