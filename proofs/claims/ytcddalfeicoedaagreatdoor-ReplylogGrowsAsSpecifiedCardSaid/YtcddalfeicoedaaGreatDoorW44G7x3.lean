/-
  Chapter 4: the parts of stamps, leases and heads. No condition.
-/
import Derived.Test.YtcddalfeicoedaaGreatDoorW44G6x3
set_option linter.all false
open Nat renaming exists_eq_add_of_le'->wA,le_refl->wB
open List renaming map_cons->wC,map_nil->wD,take_of_length_le->wE,length_append->wF,getElem_mem->wG,mem_cons->wH
namespace Go.Proofs.S44
open Go Go.Ev Go.Proofs
open Go.Proofs.S44.H (strsAV zaa zai Sml GlK GlR zam zbn nsI)
variable {gl :Gl} {n:Nat}
theorem ztc (h:4<=n)(f:Bool)(l:List Int)(hl:zbn l):call gl tab n 125 [.lst f .sc (nsI l)] []=some (.str (zam l),[],[]):=by
 obtain⟨d,rfl⟩:=wA h
 have c:=@H.ints_ok gl (d+3) (by omega) f l hl
 have t:List.take (zam l).length (zac (zam l))=zac (zam l):=wE (by rw[zab];exact wB _)
 rw[zad (fd:=z6k) rfl]
 generalize zam l=z at *
 simp(disch:=apply zq;omega) only[go_sem,simprocAttr,↓Nat.reduceEqDiff,xx,z6k,m125,c,zab,t]
theorem zoz (h:4<=n)(f:Bool)(l:List Int)(hl:zbn l):call gl tab n 128 [.lst f .sc (nsI l)] []=some (.str (zam l),[],[]):=by
 obtain⟨d,rfl⟩:=wA h
 have c:=@H.rints_ok gl (d+3) (by omega) f l hl
 have t:List.take (zam l).length (zac (zam l))=zac (zam l):=wE (by rw[zab];exact wB _)
 rw[zad (fd:=z6h) rfl]
 generalize zam l=z at *
 simp(disch:=apply zq;omega) only[go_sem,simprocAttr,↓Nat.reduceEqDiff,xx,z6h,m128,c,zab,t]
theorem zzz (h:2<=n)(b:List UInt8)(hb:b.length=16):call gl tab n 129 [.agg (zac b)] []=some (.str b,[],[]):=by
 obtain⟨d,rfl⟩:=wA h
 have c:=@H.text_ok gl (d+1) (by omega) b hb
 have ha:=H.bytes_all b
 have hl:(zac b).length=16:=by rw[zab];exact hb
 rw[zad (fd:=z6g) rfl]
 generalize zac b=z at *
 simp(disch:=apply zq;omega) only[go_sem,simprocAttr,↓Nat.reduceEqDiff,xx,z6g,m129,c,ha,hl]
abbrev sB :Sh:=.ar 16 .sc
abbrev bAV (b:List UInt8):AV:=.agg (zac b)
theorem b16 {b:List UInt8}(h:b.length=16):(zac b).length=16:=by rw[zab];exact h
theorem b16t {b:List UInt8}(h:b.length=16):List.take 16 (zac b)=zac b:=wE (by rw[b16 h];exact wB _)
structure Le where
 site:Int
 ep:Int
 til:Int
 ser:Int
 sgn:List UInt8
abbrev leAV (x:Le):AV:=.agg [i64 x.site,i64 x.ep,i64 x.til,i64 x.ser,bAV x.sgn]
structure LeOk (x:Le):Prop where
 i:zbn [x.site,x.ep,x.til,x.ser]
 s:x.sgn.length=16
def leP (x:Le):List (List UInt8):=[zam [x.site,x.ep,x.til,x.ser]]
theorem z78 (h:5<=n)(x:Le)(hx:LeOk x):call gl tab n 77 [leAV x] []=some (.lst false .sc (strsAV (leP x)),[],[]):=by
 obtain⟨d,rfl⟩:=wA h
 have c:=@ztc gl (d+4) (by omega) false _ hx.i
 have b1:=b16 hx.s
 have b2:=H.bytes_all x.sgn
 simp only[nsI,wC,wD]at c
 unfold leP
 simp only[strsAV,wC,wD]
 generalize zam _=z at *
 rw[zad (fd:=fd77) rfl]
 simp(disch:=apply zq;omega) only[go_sem,simprocAttr,↓Nat.reduceEqDiff,xx,fd77,m77,c,hx.s,b2]
theorem z95 (h:5<=n)(x:Le)(hx:LeOk x):call gl tab n 84 [leAV x] []=some (.lst false .sc (strsAV (leP x)),[],[]):=by
 obtain⟨d,rfl⟩:=wA h
 have c:=@zoz gl (d+4) (by omega) false _ hx.i
 have b1:=b16 hx.s
 have b2:=H.bytes_all x.sgn
 simp only[nsI,wC,wD]at c
 unfold leP
 simp only[strsAV,wC,wD]
 generalize zam _=z at *
 rw[zad (fd:=fd84) rfl]
 simp(disch:=apply zq;omega) only[go_sem,simprocAttr,↓Nat.reduceEqDiff,xx,fd84,m84,c,hx.s,b2]
structure Hd where
 site:Int
 size:Int
 root:List UInt8
 lo:Int
 hi:Int
 ser:Int
 sgn:List UInt8
abbrev hdAV (x:Hd):AV:=.agg [i64 x.site,i64 x.size,bAV x.root,.agg [i64 x.lo,i64 x.hi],i64 x.ser,bAV x.sgn]
structure HdOk (x:Hd):Prop where
 i:zbn [x.site,x.size,x.lo,x.hi,x.ser]
 r:x.root.length=16
 s:x.sgn.length=16
def hdP (x:Hd):List (List UInt8):=[zam [x.site,x.size,x.lo,x.hi,x.ser],x.root]
theorem z8g (h:5<=n)(x:Hd)(hx:HdOk x):call gl tab n 111 [hdAV x] []=some (.lst false .sc (strsAV (hdP x)),[],[]):=by
 obtain⟨d,rfl⟩:=wA h
 have c:=@ztc gl (d+4) (by omega) false _ hx.i
 have b1:=b16 hx.s
 have b2:=H.bytes_all x.sgn
 have b3:=b16 hx.r
 have b4:=H.bytes_all x.root
 have b5:=b16t hx.r
 simp only[nsI,wC,wD]at c
 unfold hdP
 simp only[strsAV,wC,wD]
 generalize zam _=z at *
 rw[zad (fd:=z6p) rfl]
 simp(implicitDefEqProofs:=false) (disch:=apply zq;omega) only[go_sem,simprocAttr,↓Nat.reduceEqDiff,xx,z6p,m111,c,hx.s,b2,hx.r,b4,b5]
theorem z97 (h:5<=n)(x:Hd)(hx:HdOk x):call gl tab n 114 [hdAV x] []=some (.lst false .sc (strsAV (hdP x)),[],[]):=by
 obtain⟨d,rfl⟩:=wA h
 have c:=@zoz gl (d+4) (by omega) false _ hx.i
 have c2:=@zzz gl (d+4) (by omega) x.root hx.r
 have b1:=b16 hx.s
 have b2:=H.bytes_all x.sgn
 have b3:=b16 hx.r
 have b4:=H.bytes_all x.root
 simp only[nsI,wC,wD]at c
 unfold hdP
 simp only[strsAV,wC,wD]
 generalize zam _=z at *
 rw[zad (fd:=z6n) rfl]
 simp(implicitDefEqProofs:=false) (disch:=apply zq;omega) only[go_sem,simprocAttr,↓Nat.reduceEqDiff,xx,z6n,m114,c,c2,hx.s,b2,hx.r,b4]
structure Sp where
 addr:List UInt8
 var:List UInt8
 st:Int
 sz:Int
 body:List UInt8
 tags:List UInt8
 lo:Int
 hi:Int
 gate:Int
 ser:Int
 sgn:List UInt8
abbrev spAV (x:Sp):AV:=.agg [.str x.addr,.str x.var,i64 x.st,i64 x.sz,bAV x.body,.str x.tags,.agg [i64 x.lo,i64 x.hi],i64 x.gate,i64 x.ser,bAV x.sgn]
structure SpOk (x:Sp):Prop where
 i:zbn [x.st,x.sz,x.lo,x.hi,x.gate,x.ser]
 r:x.body.length=16
 s:x.sgn.length=16
def spP (x:Sp):List (List UInt8):=[x.addr,x.var,zam [x.st,x.sz,x.lo,x.hi,x.gate,x.ser],x.body,x.tags]
theorem z7z (h:5<=n)(x:Sp)(hx:SpOk x):call gl tab n 76 [spAV x] []=some (.lst false .sc (strsAV (spP x)),[],[]):=by
 obtain⟨d,rfl⟩:=wA h
 have c:=@ztc gl (d+4) (by omega) false _ hx.i
 have b1:=b16 hx.s
 have b2:=H.bytes_all x.sgn
 have b3:=b16 hx.r
 have b4:=H.bytes_all x.body
 have b5:=b16t hx.r
 simp only[nsI,wC,wD]at c
 unfold spP
 simp only[strsAV,wC,wD]
 generalize zam _=z at *
 rw[zad (fd:=fd76) rfl]
 simp(implicitDefEqProofs:=false) (disch:=apply zq;omega) only[go_sem,simprocAttr,↓Nat.reduceEqDiff,xx,fd76,m76,c,hx.s,b2,hx.r,b4,b5]
theorem z9y (h:5<=n)(x:Sp)(hx:SpOk x):call gl tab n 83 [spAV x] []=some (.lst false .sc (strsAV (spP x)),[],[]):=by
 obtain⟨d,rfl⟩:=wA h
 have c:=@zoz gl (d+4) (by omega) false _ hx.i
 have c2:=@zzz gl (d+4) (by omega) x.body hx.r
 have b1:=b16 hx.s
 have b2:=H.bytes_all x.sgn
 have b3:=b16 hx.r
 have b4:=H.bytes_all x.body
 simp only[nsI,wC,wD]at c
 unfold spP
 simp only[strsAV,wC,wD]
 generalize zam _=z at *
 rw[zad (fd:=fd83) rfl]
 simp(implicitDefEqProofs:=false) (disch:=apply zq;omega) only[go_sem,simprocAttr,↓Nat.reduceEqDiff,xx,fd83,m83,c,c2,hx.s,b2,hx.r,b4]
end Go.Proofs.S44
namespace Go.Proofs.S44
open Go Go.Ev Go.Proofs
open Go.Proofs.S44.H (strsAV zaa zai Sml GlK GlR zam zbn nsI)
variable {gl :Gl} {n:Nat}
theorem z3d {l:List Int}(h:l.length<=1000):(zam l).length<=1048576:=by have:=@H.zints_len l;omega
structure KOk (k:Ky):Prop where
 p:R64 k.p
 s:R64 k.s
 k:k.k.length<=1048576
theorem VK.ok {k:Ky}(h:VK k):KOk k:=⟨R64.of h.p,R64.of h.s,by have:=h.k;omega⟩
theorem zk3 {a:Int}{l:List Int}(h:zbn (a::l)):R64 a/\zbn l:=⟨h.2 a (by simp),by have:=h.1;simp at this;omega,fun x hx=>h.2 x (by simp[hx])⟩
theorem za3 {a:Int}{l:List Int}(h1:R64 a)(h2:zbn l)(h3:l.length<1000):zbn (a::l):=⟨by simp;omega,fun x hx=>by
 simp only[wH]at hx
 rcases hx with rfl|hx
 . exact h1
 . exact h2.2 x hx⟩
theorem zev :zbn []:=⟨by simp,fun x hx=>by simp at hx⟩
def hdK (k:Ky)(x:Hd):Hd:=⟨x.site,x.size,x.root,x.lo,x.hi,k.s,x.sgn⟩
def hdS (k:Ky)(x:Hd):Hd:=⟨x.site,x.size,x.root,x.lo,x.hi,k.s,sea k.k 44 (hdP (hdK k x))⟩
theorem z1a {k:Ky}(hk:KOk k){x:Hd}(h:HdOk x):HdOk (hdK k x):=by
 obtain⟨a1,h1⟩:=zk3 h.i
 obtain⟨a2,h2⟩:=zk3 h1
 obtain⟨a3,h3⟩:=zk3 h2
 obtain⟨a4,h4⟩:=zk3 h3
 exact⟨za3 a1 (za3 a2 (za3 a3 (za3 a4 (za3 hk.s zev (by simp)) (by simp)) (by simp)) (by simp)) (by simp),h.r,h.s⟩
theorem zvd {k:Ky}(hk:KOk k){x:Hd}(h:HdOk x):HdOk (hdS k x):=⟨(z1a hk h).i,h.r,zot _ _ _⟩
theorem ztg {x:Hd}(h:HdOk x):Pts (hdP x):=⟨by simp[hdP],fun y hy=>by
 simp only[hdP,wH,List.not_mem_nil,or_false]at hy
 rcases hy with rfl|rfl
 . exact z3d (by simp)
 . rw[h.r];decide⟩
theorem qbo [Nonempty (GlK gl)](h:9<=n){k:Ky}(hk:KOk k)(tag:Int)(x:Hd)(hx:HdOk x):call gl tab n 110 [ky k,i64 tag,hdAV x,.fn 111 []] []=some (.agg (sAV k.k tag (hdP x)),[],[]):=by
 obtain⟨d,rfl⟩:=wA h
 have c1:=@z8g gl (d+8) (by omega) x hx
 have c2:=@z0l gl (d+8) _ (by omega) k hk.k tag false (hdP x) (ztg hx)
 have q0:=H.bytes_all x.sgn
 have q1:=H.bytes_all x.root
 have d1:=zi7 k.k tag (hdP x)
 have d2:=zi8 k.k tag (hdP x)
 have d3:=zqp k.k tag (hdP x)
 generalize sAV k.k tag (hdP x)=z at *
 generalize strsAV (hdP x)=w at *
 rw[zad (fd:=z6q) rfl]
 simp(implicitDefEqProofs:=false) (disch:=apply zq;omega) only[go_sem,simprocAttr,↓Nat.reduceEqDiff,xx,z6q,m110,c1,c2,hx.s,hx.r,q0,q1,d1,d2,d3,↓out16_eq,H.out16_len,H.out16_all,H.out16_pl]
theorem qfr [Nonempty (GlK gl)](h:10<=n){k:Ky}(hk:KOk k)(x:Hd)(hx:HdOk x):call gl tab n 61 [ky k,hdAV x] []=some (hdAV (hdS k x),[],[]):=by
 obtain⟨d,rfl⟩:=wA h
 have c1:=@qbo gl (d+9) _ (by omega) k hk 44 _ (z1a hk hx)
 have q0:=H.bytes_all x.sgn
 have q1:=H.bytes_all x.root
 have d1:=zi7 k.k 44 (hdP (hdK k x))
 have d2:=zi8 k.k 44 (hdP (hdK k x))
 have d3:=zqp k.k 44 (hdP (hdK k x))
 have e1:zac (sea k.k 44 (hdP (hdK k x)))=sAV k.k 44 (hdP (hdK k x)):=rfl
 unfold hdS
 simp only[hdAV,hdK,bAV,e1]at c1 d1 d2 d3 ⊢
 simp only[hdK,bAV]at e1
 rw[e1]
 generalize sAV k.k 44 _=z at *
 rw[zad (fd:=fd61) rfl]
 simp(implicitDefEqProofs:=false) (disch:=apply zq;omega) only[go_sem,simprocAttr,↓Nat.reduceEqDiff,xx,fd61,m61,c1,hx.s,hx.r,q0,q1,d1,d2,d3,↓out16_eq,H.out16_len,H.out16_all,H.out16_pl]
theorem qbn [Nonempty (GlR gl)](h:10<=n){k:Ky}(hk:KOk k)(x:Hd)(hx:HdOk x):call gl tab n 65 [ky k,hdAV x] []=some (hdAV (hdS k x),[],[]):=by
 obtain⟨d,rfl⟩:=wA h
 have hx':=z1a hk hx
 have c1:=@z97 gl (d+9) (by omega) _ hx'
 have c2:=@z35 gl (d+9) _ (by omega) k hk.k 44 false (hdP (hdK k x)) (ztg hx')
 have q0:=H.bytes_all x.sgn
 have q1:=H.bytes_all x.root
 have d1:=zi7 k.k 44 (hdP (hdK k x))
 have d2:=zi8 k.k 44 (hdP (hdK k x))
 have d3:=zqp k.k 44 (hdP (hdK k x))
 have e1:zac (sea k.k 44 (hdP (hdK k x)))=sAV k.k 44 (hdP (hdK k x)):=rfl
 unfold hdS
 simp only[hdAV,bAV]
 rw[e1]
 generalize sAV k.k 44 _=z at *
 generalize strsAV (hdP (hdK k x))=w at *
 simp only[hdAV,hdK,bAV]at c1
 rw[zad (fd:=fd65) rfl]
 simp(implicitDefEqProofs:=false) (disch:=apply zq;omega) only[go_sem,simprocAttr,↓Nat.reduceEqDiff,xx,fd65,m65,c1,c2,hx.s,hx.r,q0,q1,d1,d2,d3,↓out16_eq,H.out16_len,H.out16_all,H.out16_pl]
end Go.Proofs.S44
namespace Go.Proofs.S44
open Go Go.Ev Go.Proofs
open Go.Proofs.S44.H (strsAV zaa zai Sml GlK GlR zam zbn nsI)
variable {gl :Gl} {n:Nat}
def zir (a:Int):Bool:=decide (0<=a/\a<64)
theorem site_at (h:1<=n)(a:Int):call gl tab n 117 [i64 a] []=some (.bool (zir a),[],[]):=by
 obtain⟨d,rfl⟩:=wA h
 rw[zad (fd:=zx0) rfl]
 unfold zir
 by_cases h1:0<=a
 . by_cases h2:a<64
   . rw[decide_eq_true ⟨h1,h2⟩];simp(disch:=apply zq;omega) only[go_sem,simprocAttr,↓Nat.reduceEqDiff,xx,zx0,m117]
   . rw[decide_eq_false fun h=>h2 h.2];simp(disch:=apply zq;omega) only[go_sem,simprocAttr,↓Nat.reduceEqDiff,xx,zx0,m117]
 . rw[decide_eq_false fun h=>h1 h.1];simp(disch:=apply zq;omega) only[go_sem,simprocAttr,↓Nat.reduceEqDiff,xx,zx0,m117]
theorem rsite_at (h:1<=n)(a:Int):call gl tab n 48 [i64 a] []=some (.bool (zir a),[],[]):=by
 obtain⟨d,rfl⟩:=wA h
 rw[zad (fd:=fd48) rfl]
 unfold zir
 by_cases h1:0<=a
 . by_cases h2:a<64
   . rw[decide_eq_true ⟨h1,h2⟩];simp(disch:=apply zq;omega) only[go_sem,simprocAttr,↓Nat.reduceEqDiff,xx,fd48,m48]
   . rw[decide_eq_false fun h=>h2 h.2];simp(disch:=apply zq;omega) only[go_sem,simprocAttr,↓Nat.reduceEqDiff,xx,fd48,m48]
 . rw[decide_eq_false fun h=>h1 h.1];simp(disch:=apply zq;omega) only[go_sem,simprocAttr,↓Nat.reduceEqDiff,xx,fd48,m48]
def hdC (l:List Ky)(x:Hd):Int:=if zir x.site=true then ckE l (1000+x.site) x.ser 44 (hdP x) x.sgn x.lo x.hi else 1
theorem SpOk.g {x:Sp}(h:SpOk x):R64 x.gate/\R64 x.ser:=⟨h.i.2 _ (by simp),h.i.2 _ (by simp)⟩
theorem LeOk.g {x:Le}(h:LeOk x):R64 x.ser:=h.i.2 _ (by simp)
theorem LeOk.u {x:Le}(h:LeOk x):R64 x.til:=h.i.2 _ (by simp)
theorem HdOk.g {x:Hd}(h:HdOk x):R64 x.ser:=h.i.2 _ (by simp)
section
variable {f :Bool} {m:Sh} {l:List Ky}
theorem qfs [Nonempty (GlK gl)](h:11<=n)(hm:Mk l m)(hv:VR l)(x:Hd)(hx:HdOk x):call gl tab n 70 [.lst f m (ks l),hdAV x] []=some (i64 (hdC l x),[],[]):=by
 obtain⟨d,rfl⟩:=wA h
 have c0:=@site_at gl (d+10) (by omega) x.site
 have q0:=H.bytes_all x.sgn
 have q1:=H.bytes_all x.root
 unfold hdC
 by_cases hsi:zir x.site=true
 . rw[hsi]at c0
   rw[if_pos hsi]
   simp only[zir,decide_eq_true_eq]at hsi
   have c1:=@z8g gl (d+10) (by omega) x hx
   have c2:=@z7j gl (d+10) f m l (1000+x.site) _ _ _ false _ (by omega) hm hv (by unfold R64;omega) hx.g 44 (ztg hx) hx.s x.lo x.hi
   generalize ckE _ _ _ _ _ _ _ _=z at *
   generalize strsAV (hdP x)=w at *
   rw[zad (fd:=fd70) rfl]
   simp(implicitDefEqProofs:=false) (disch:=apply zq;omega) only[go_sem,simprocAttr,↓Nat.reduceEqDiff,xx,fd70,m70,c0,c1,c2,hx.s,hx.r,q0,q1]
 . rw[if_neg hsi]
   rw[Bool.not_eq_true]at hsi
   rw[hsi]at c0
   rw[zad (fd:=fd70) rfl]
   simp(implicitDefEqProofs:=false) (disch:=apply zq;omega) only[go_sem,simprocAttr,↓Nat.reduceEqDiff,xx,fd70,m70,c0,hx.s,hx.r,q0,q1]
end
end Go.Proofs.S44
namespace Go.Proofs.S44.L
open Go Go.Ev Go.Proofs Go.Proofs.S44
open Go.Proofs.S44.H (strsAV zaa zai Sml GlK GlR zam zbn nsI zint zau encB zaw zaf)
variable {gl :Gl} {n:Nat}
def zbg (l:List (List UInt8)):List UInt8:=zint l.length++(l.map encB).flatten
def spre (l:List (List UInt8))(i:Nat):List UInt8:=zint l.length++((l.take i).map encB).flatten
theorem zqn (l:List (List UInt8)):spre l 0=zint l.length:=by simp[spre]
theorem zg5 (l:List (List UInt8)):spre l l.length=zbg l:=by simp[spre,zbg]
theorem zqm {l:List (List UInt8)}{i:Nat}(hi:i<l.length):spre l (i+1)=spre l i++encB l[i]:=by
 unfold spre;rw[List.take_succ_eq_append_getElem hi,List.map_append,List.flatten_append,<-List.append_assoc];simp
theorem zop {l:List (List UInt8)}(h:Sml l):∀{i:Nat},i<=l.length->(spre l i).length<=1048586*(i+1)
 | 0,_=>by rw[zqn];have:=zau l.length;omega
 | i+1,hi=>by
   have h1:=zop h (i:=i) (by omega)
   have h2:=zaw l[i]
   have h3:=h.2 l[i] (wG (by omega))
   rw[zqm (by omega),wF];omega
def LwS :MC:=match m130 with| .seq _ (.seq _ (.seq (.seq _ (.block _ (.loop _ b))) _))=>b|_=>.skip
def SwS (f:Bool)(l:List (List UInt8))(i:Nat):St :=
 ⟨[.set 13 (.int .i64 i),.set 12 (.int .i64 l.length),.set 11 (.lst f .sc (strsAV l)),.set 5 (.sl 5005 [] 0 (spre l i).length),.set 1 (.fn 131 [])],[(5005,.grow .sc (zac (spre l i)))]⟩
theorem zfg (h:4<=n)(f:Bool)(l:List (List UInt8))(hl:Sml l):call gl tab n 86 [.lst f .sc (strsAV l)] []=some (.sl 20000 [] 0 (zbg l).length,[],[.grow .sc (zac (zbg l))]):=by
 obtain⟨d,rfl⟩:=wA h
 have h1:=hl.1
 have hs:∀i,i<l.length->zbd [.slot 1,.own 5 5005 .sc,.slot 11,.slot 12,.slot 13] (evC gl (call gl tab (d+2)) LwS (SwS f l i))=some (SwS f l (i+1)):=fun i hi=>by
  have hx:=zai hi
  have h3:=hl.2 l[i] (wG (by omega))
  have c:=H.bytes48_ok (gl:=gl) d l[i] (by omega)
  have hz:=zaw l[i]
  have hp:=zop hl (i:=i) (by omega)
  have hL:(spre l i).length+(encB l[i]).length<=LIM:=by unfold LIM;omega
  rw[SwS,SwS,zqm hi,zaf,wF]
  generalize spre l i=p at *
  generalize encB l[i]=q at *
  simp(disch:=apply zq;omega) only[go_sem,simprocAttr,↓Nat.reduceEqDiff,xx,LwS,m130,hx,zaa,c,zab,hL]
 simp only[LwS,m130]at hs
 have c0:=H.int53_ok (gl:=gl) (d+1) (l.length:Int) (by omega)
 have e2:=zab (zbg l)
 have cl:call gl tab (d+3) 130 [.lst f .sc (strsAV l),.fn 131 []] []=some (.sl 20000 [] 0 (zbg l).length,[],[.grow .sc (zac (zbg l))]):=by
  rw[zad (fd:=z6f) rfl]
  simp(disch:=apply zq;omega) only[go_sem,simprocAttr,↓Nat.reduceEqDiff,xx,z6f,m130,zaa,c0]
  rw[zag (SwS f l) l.length (by unfold LF;omega)]
  . rw[SwS,zg5]
    simp(disch:=apply zq;omega) only[go_sem,simprocAttr,↓Nat.reduceEqDiff,xx,zaa,zab]
  . simp(disch:=apply zq;omega) only[go_sem,simprocAttr,↓Nat.reduceEqDiff,xx,SwS,zqn,zaa]
  . exact hs
  . rw[SwS,zg5]
    simp(disch:=apply zq;omega) only[go_sem,simprocAttr,↓Nat.reduceEqDiff,xx,zaa,zab]
 rw[zad (fd:=fd86) rfl]
 generalize zbg l=z at *
 simp(disch:=apply zq;omega) only[go_sem,simprocAttr,↓Nat.reduceEqDiff,xx,fd86,m86,cl,e2,H.noImms_bytesAV]
def LrS :MC:=match m126 with| .seq _ (.seq _ (.seq (.seq _ (.block _ (.loop _ b))) _))=>b|_=>.skip
def SrS (f:Bool)(l:List (List UInt8))(i:Nat):St :=
 ⟨[.set 4 (.int .i64 i),.set 3 (.sl 5003 [] 0 (spre l i).length),.set 0 (.lst f .sc (strsAV l))],[(5003,.grow .sc (zac (spre l i)))]⟩
theorem zsn (h:3<=n)(f:Bool)(l:List (List UInt8))(hl:Sml l):call gl tab n 126 [.lst f .sc (strsAV l)] []=some (.sl 20000 [] 0 (zbg l).length,[],[.grow .sc (zac (zbg l))]):=by
 obtain⟨d,rfl⟩:=wA h
 have h1:=hl.1
 have hs:∀i,i<l.length->zbd [.slot 0,.own 3 5003 .sc,.slot 4] (evC gl (call gl tab (d+2)) LrS (SrS f l i))=some (SrS f l (i+1)):=fun i hi=>by
  have hx:=zai hi
  have h3:=hl.2 l[i] (wG (by omega))
  have c:=H.bytes50_ok (gl:=gl) d l[i] (by omega)
  have hz:=zaw l[i]
  have hp:=zop hl (i:=i) (by omega)
  have hL:(spre l i).length+(encB l[i]).length<=LIM:=by unfold LIM;omega
  rw[SrS,SrS,zqm hi,zaf,wF]
  generalize spre l i=p at *
  generalize encB l[i]=q at *
  simp(disch:=apply zq;omega) only[go_sem,simprocAttr,↓Nat.reduceEqDiff,xx,LrS,m126,hx,zaa,c,zab,hL]
 simp only[LrS,m126]at hs
 have c0:=H.int54_ok (gl:=gl) (d+1) (l.length:Int) (by omega)
 rw[zad (fd:=z6j) rfl]
 simp(disch:=apply zq;omega) only[go_sem,simprocAttr,↓Nat.reduceEqDiff,xx,z6j,m126,zaa,c0]
 rw[zag (SrS f l) l.length (by unfold LF;omega)]
 . rw[SrS,zg5]
   simp(disch:=apply zq;omega) only[go_sem,simprocAttr,↓Nat.reduceEqDiff,xx,zaa,zab]
 . simp(disch:=apply zq;omega) only[go_sem,simprocAttr,↓Nat.reduceEqDiff,xx,SrS,zqn,zaa]
 . exact hs
 . rw[SrS,zg5]
   simp(disch:=apply zq;omega) only[go_sem,simprocAttr,↓Nat.reduceEqDiff,xx,zaa,zab]
theorem zpf (h:4<=n)(f:Bool)(l:List (List UInt8))(hl:Sml l):call gl tab n 80 [.lst f .sc (strsAV l)] []=some (.str (zbg l),[],[]):=by
 obtain⟨d,rfl⟩:=wA h
 have c:=@zsn gl (d+3) (by omega) f l hl
 have t:List.take (zbg l).length (zac (zbg l))=zac (zbg l):=wE (by rw[zab];exact wB _)
 rw[zad (fd:=fd80) rfl]
 generalize zbg l=z at *
 simp(disch:=apply zq;omega) only[go_sem,simprocAttr,↓Nat.reduceEqDiff,xx,fd80,m80,c,zab,t]
theorem zns (h:4<=n)(f:Bool)(l:List Int)(hl:zbn l):call gl tab n 81 [.lst f .sc (nsI l)] []=some (.str (zam l),[],[]):=by
 obtain⟨d,rfl⟩:=wA h
 have c:=@H.rints_ok gl (d+3) (by omega) f l hl
 have t:List.take (zam l).length (zac (zam l))=zac (zam l):=wE (by rw[zab];exact wB _)
 rw[zad (fd:=fd81) rfl]
 generalize zam l=z at *
 simp(disch:=apply zq;omega) only[go_sem,simprocAttr,↓Nat.reduceEqDiff,xx,fd81,m81,c,zab,t]
end Go.Proofs.S44.L
