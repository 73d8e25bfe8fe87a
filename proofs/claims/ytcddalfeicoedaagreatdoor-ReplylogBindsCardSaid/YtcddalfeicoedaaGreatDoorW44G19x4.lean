/-
  Chapter 44: a reply's leaf. No condition.
-/
import Derived.Test.YtcddalfeicoedaaGreatDoorW44G13x4
import Derived.Test.YtcddalfeicoedaaGreatDoorW44G18x4
set_option linter.all false
open Nat renaming exists_eq_add_of_le'->wA,le_refl->wB,sub_zero->wC
open List renaming take_of_length_le->wD,drop_zero->wE,length_take->wF
open Int renaming eq_ofNat_of_zero_le->wG,toNat_natCast->wH
namespace Go.Proofs.S44.L
open Go Go.Ev Go.Proofs Go.Proofs.S44
open Go.Proofs.S44.H (strsAV zaa zaj Sml GlK GlR zal zbk nsI zak zint zat encB zaw zae dig inp)
open Go.Proofs.S44.M (lf zde)
variable {gl :Gl} {n:Nat}
def leaf (x:Re):List UInt8:=lf (zbb (reP x))
theorem zey (x:Re):(leaf x).length=16:=zde _
theorem z2f {x:Re}(hx:ReOk x):((zac x.dat).length=16/\(zac x.pol).length=16/\(zac x.tk.sgn).length=16)/\(zac x.sp.body).length=16/\(zac x.sp.sgn).length=16/\(zac x.le.sgn).length=16 :=
 ⟨⟨b16 hx.d,b16 hx.p,b16 hx.t.s⟩,b16 hx.s.r,b16 hx.s.s,b16 hx.l.s⟩
theorem leaf_at [Nonempty (GlK gl)](h:12<=n){x:Re}(r:ReR x)(s:ReS x):call gl tab n 28 [reAV x] []=some (bAV (leaf x),[],[]):=by
 obtain⟨d,rfl⟩:=wA h
 have hx:=s.ok r
 have c1:=@zoz gl (d+11) (by omega) _ hx
 have c2:=@zfc gl (d+11) (by omega) false _ (zsg r s)
 have c3:=@M.leaf_at gl (d+11) _ (by omega) (zbb (reP x)) (zsf r s)
 rw[show lf (zbb (reP x))=leaf x from rfl]at c3
 obtain⟨⟨u1,u2,u3⟩,u4,u5,u6⟩:=z2f hx
 have w1:=H.bytes_all x.dat
 have w2:=H.bytes_all x.pol
 have w3:=H.bytes_all x.tk.sgn
 have w4:=H.bytes_all x.sp.body
 have w5:=H.bytes_all x.sp.sgn
 have w6:=H.bytes_all x.le.sgn
 have l:=zey x
 have q:=H.bytes_all (leaf x)
 have t:List.take (zbb (reP x)).length (zac (zbb (reP x)))=zac (zbb (reP x)):=wD (by rw[zab];exact wB _)
 generalize leaf x=g at *
 generalize zbb (reP x)=z at *
 rw[zaf (fd:=fd28) rfl]
 simp(disch:=apply zq;omega) only[go_sem,simprocAttr,↓Nat.reduceEqDiff,xx,fd28,m28,↓out16_eq,H.oo,u1,u2,u3,u4,u5,u6,w1,w2,w3,w4,w5,w6,c1,c2,c3,l,q,t,zab,H.noImms_bytesAV]
theorem z4c [Nonempty (GlK gl)](h:12<=n){x:Re}(r:ReR x)(s:ReS x)(n1:x.hs=[])(n2:x.tk.cs=[])(n3:x.rl.tg=[])(n4:x.rl.vy=[]):call gl tab n 28 [z3v x] []=some (bAV (leaf x),[],[]):=by
 obtain⟨d,rfl⟩:=wA h
 have hx:=s.ok r
 have c1:=@zzh gl (d+11) (by omega) _ hx n1 n2 n3 n4
 have c2:=@zfc gl (d+11) (by omega) false _ (zsg r s)
 have c3:=@M.leaf_at gl (d+11) _ (by omega) (zbb (reP x)) (zsf r s)
 rw[show lf (zbb (reP x))=leaf x from rfl]at c3
 obtain⟨⟨u1,u2,u3⟩,u4,u5,u6⟩:=z2f hx
 have w1:=H.bytes_all x.dat
 have w2:=H.bytes_all x.pol
 have w3:=H.bytes_all x.tk.sgn
 have w4:=H.bytes_all x.sp.body
 have w5:=H.bytes_all x.sp.sgn
 have w6:=H.bytes_all x.le.sgn
 have l:=zey x
 have q:=H.bytes_all (leaf x)
 have t:List.take (zbb (reP x)).length (zac (zbb (reP x)))=zac (zbb (reP x)):=wD (by rw[zab];exact wB _)
 generalize leaf x=g at *
 generalize zbb (reP x)=z at *
 rw[zaf (fd:=fd28) rfl]
 simp(disch:=apply zq;omega) only[go_sem,simprocAttr,↓Nat.reduceEqDiff,xx,fd28,m28,↓out16_eq,H.oo,u1,u2,u3,u4,u5,u6,w1,w2,w3,w4,w5,w6,c1,c2,c3,l,q,t,zab,H.noImms_bytesAV]
theorem rleaf_at [Nonempty (GlR gl)](h:12<=n){x:Re}(r:ReR x)(s:ReS x):call gl tab n 26 [reAV x] []=some (bAV (leaf x),[],[]):=by
 obtain⟨d,rfl⟩:=wA h
 have hx:=s.ok r
 have c1:=@zyz gl (d+11) (by omega) _ hx
 have c2:=@zo7 gl (d+11) (by omega) false _ (zsg r s)
 have c3:=@M.rleaf_at gl (d+11) _ (by omega) (zbb (reP x)) (zsf r s)
 rw[show lf (zbb (reP x))=leaf x from rfl]at c3
 obtain⟨⟨u1,u2,u3⟩,u4,u5,u6⟩:=z2f hx
 have w1:=H.bytes_all x.dat
 have w2:=H.bytes_all x.pol
 have w3:=H.bytes_all x.tk.sgn
 have w4:=H.bytes_all x.sp.body
 have w5:=H.bytes_all x.sp.sgn
 have w6:=H.bytes_all x.le.sgn
 have l:=zey x
 have q:=H.bytes_all (leaf x)
 generalize leaf x=g at *
 generalize zbb (reP x)=z at *
 rw[zaf (fd:=fd26) rfl]
 simp(disch:=apply zq;omega) only[go_sem,simprocAttr,↓Nat.reduceEqDiff,xx,fd26,m26,↓out16_eq,H.oo,u1,u2,u3,u4,u5,u6,w1,w2,w3,w4,w5,w6,c1,c2,c3,l,q,zab,H.noImms_bytesAV]
end Go.Proofs.S44.L
namespace Go.Proofs.S44.L
open Go Go.Ev Go.Proofs Go.Proofs.S44
open Go.Proofs.S44.H (strsAV zaa zaj Sml GlK GlR zal zbk nsI zak zint zat encB zaw zae dig inp)
open Go.Proofs.S44.M (lf zde Dg dgL dgL_length All16 Sd sB pkAV grw)
variable {gl :Gl} {n:Nat}
structure Rv where
 site:Int
 seq:Int
 r:List AV
 f:List UInt8
abbrev rvAV (x:Rv):AV:=.agg (i64 x.site::i64 x.seq::x.r)
abbrev rSh :List Sh:=[.st [.sc,.sc,.sc,.sc,.st [.sc,.sc]],.sc,sTk,.ar 16 .sc,sRl,.sc,sSp,.sc,.st [.sc,.sc],.ar 16 .sc,sTk,.sc,.sc]
structure RvOk (gl:Gl)(x:Rv):Prop where
 sh:za8 rSh x.r=true
 f:x.f.length=16
 l:∀n,12<=n->call gl tab n 28 [rvAV x] []=some (bAV x.f,[],[])
def rvs (l:List Rv):List AV:=l.map rvAV
theorem zb8 (l:List Rv):(rvs l).length=l.length:=by simp[rvs]
theorem z8x (l:List Rv)(x:Rv):rvs l++[rvAV x]=rvs (l++[x]):=by simp[rvs]
theorem site_at (h:1<=n)(a:Int):call gl tab n 47 [i64 a] []=some (.bool (decide (0<=a/\a<64)),[],[]):=by
 obtain⟨d,rfl⟩:=wA h
 rw[zaf (fd:=fd47) rfl]
 by_cases h1:0<=a
 . by_cases h2:a<64
   . rw[decide_eq_true ⟨h1,h2⟩];simp(disch:=apply zq;omega) only[go_sem,simprocAttr,↓Nat.reduceEqDiff,xx,fd47,m47]
   . rw[decide_eq_false (fun h=>h2 h.2)];simp(disch:=apply zq;omega) only[go_sem,simprocAttr,↓Nat.reduceEqDiff,xx,fd47,m47]
 . rw[decide_eq_false (fun h=>h1 h.1)];simp(disch:=apply zq;omega) only[go_sem,simprocAttr,↓Nat.reduceEqDiff,xx,fd47,m47]
abbrev sLd :Sh:=.st [.sc,.sc,.st [.sc,.sc],.sc]
theorem z76 {sh:Sh}{l:List AV}{k:Nat}(hs:l=[]\/sh.size=k):(l.isEmpty||sh.size==k)=true:=by
 rcases hs with rfl|rfl
 . rfl
 . simp
theorem qbn (h:1<=n){f:Bool}{sh:Sh}{l:List AV}(hs:l=[]\/sh.size=146):call gl tab n 56 [.lst f sh l] []=some (.lst true sh l,[],[]):=by
 obtain⟨d,rfl⟩:=wA h
 have t:=wD (wB l.length)
 have hz:=z76 hs
 rw[zaf (fd:=fd56) rfl]
 simp(disch:=apply zq;omega) only[go_sem,simprocAttr,↓Nat.reduceEqDiff,xx,fd56,m56,t,wC,wE,hz]
theorem z6m (h:1<=n){f:Bool}{sh:Sh}{l:List AV}(hs:l=[]\/sh.size=37):call gl tab n 62 [.lst f sh l] []=some (.lst true sh l,[],[]):=by
 obtain⟨d,rfl⟩:=wA h
 have t:=wD (wB l.length)
 have hz:=z76 hs
 rw[zaf (fd:=fd62) rfl]
 simp(disch:=apply zq;omega) only[go_sem,simprocAttr,↓Nat.reduceEqDiff,xx,fd62,m62,t,wC,wE,hz]
def Sr (l:List Rv)(sh:Sh):Prop:=l=[]\/sh=sRe
abbrev ldAV (s:Int)(f:Bool)(sh:Sh)(l:List Rv)(z:Int)(f2:Bool)(sh2:Sh)(t:List Dg)(f3:Bool)(sh3:Sh)(U:List AV):AV:=.agg [i64 s,.lst f sh (rvs l),.agg [i64 z,.lst f2 sh2 (dgL t)],.lst f3 sh3 U]
section
variable {s :Int} {f f2 f3:Bool} {sh sh2 sh3:Sh} {l:List Rv} {t:List Dg} {U:List AV}
theorem qb1 (h:1<=n){z:Int}{x:Rv}(hx:RvOk gl x)(hl:l.length<=1000000)(hb:¬(x.site=s/\x.seq=l.length)) :
  call gl tab n 16 [ldAV s f sh l z f2 sh2 t f3 sh3 U,rvAV x] []=some (.tup [ldAV s f sh l z f2 sh2 t f3 sh3 U,i64 1],[],[]):=by
 obtain⟨d,rfl⟩:=wA h
 have h1:=hx.sh
 have hL:=zb8 l
 rw[zaf (fd:=fd16) rfl]
 by_cases e1:x.site=s
 . have e2:(x.seq != (l.length:Int))=true:=by rw[bne_iff_ne];exact fun e=>hb ⟨e1,e⟩
   have e1:(x.site != s)=false:=by rw[e1];exact bne_self_eq_false _
   simp(disch:=apply zq;omega) only[go_sem,simprocAttr,↓Nat.reduceEqDiff,xx,fd16,m16,↓out16_eq,h1,hL,e1,e2,H.oo]
 . have e1:(x.site != s)=true:=by rw[bne_iff_ne];exact e1
   simp(disch:=apply zq;omega) only[go_sem,simprocAttr,↓Nat.reduceEqDiff,xx,fd16,m16,↓out16_eq,h1,hL,e1,H.oo]
theorem z7p [Nonempty (GlK gl)][Nonempty (M.GlB gl)](h:15<=n){z:Nat}{x:Rv}(hx:RvOk gl x)(hl:l.length<60000)(hs:Sr l sh)(e1:x.site=s)(e2:x.seq=l.length)
  (ht:t.length<=1000000) (ha:All16 t) (hs2:Sd t sh2 sB) (hz:z<1099511627776) (hF:M.Form z t) :
  call gl tab n 16 [ldAV s f sh l z f2 sh2 t f3 sh3 U,rvAV x] []=some (.tup [ldAV s false sRe (l++[x]) (z+1:Nat) false sB (grw z t x.f) f3 sh3 U,i64 0],[],[]):=by
 obtain⟨d,rfl⟩:=wA h
 have h1:=hx.sh
 have h2:=hx.l (d+14) (by omega)
 have hL:=zb8 l
 have c:=@M.append_ok gl (d+14) _ _ (by omega) z f2 sh2 t x.f hx.f ht ha hs2 hz hF
 have k:=@qbn gl (d+14) (by omega) f sh (rvs l) (by
  rcases hs with rfl|rfl
  . exact .inl rfl
  . exact .inr rfl)
 have e1:(x.site != s)=false:=by rw[e1];exact bne_self_eq_false _
 have e2:(x.seq != (l.length:Int))=false:=by rw[e2];exact bne_self_eq_false _
 have hA:=z8x l x
 have q:=H.bytes_all x.f
 have q2:=b16 hx.f
 have hLim:l.length+1<=LIM:=by unfold LIM;omega
 rw[zaf (fd:=fd16) rfl]
 show _=some (AV.tup [.agg [i64 s,.lst false sRe (rvs (l++[x])),.agg [i64 (z+1:Nat),.lst false sB (dgL (grw z t x.f))],.lst f3 sh3 U],i64 0],[],[])
 rw[<-hA]
 have hLim0:0+1<=LIM:=by unfold LIM;omega
 have hLim1:0<=LIM:=by unfold LIM;omega
 rcases hs with rfl|rfl
 . have hI:rvs []=[]:=rfl
   rw[hI]at k
   simp(disch:=apply zq;omega) only[go_sem,simprocAttr,↓Nat.reduceEqDiff,xx,fd16,m16,↓out16_eq,h1,h2,hI,List.length_nil,e1,e2,c,k,q,q2,hLim0,hLim1,H.oo]
 . simp(disch:=apply zq;omega) only[go_sem,simprocAttr,↓Nat.reduceEqDiff,xx,fd16,m16,↓out16_eq,h1,h2,hL,e1,e2,c,k,q,q2,hLim,H.oo]
   rw[wD (by rw[List.length_append,hL];exact wB _)]
end
end Go.Proofs.S44.L
namespace Go.Proofs.S44.L
open Go Go.Ev Go.Proofs Go.Proofs.S44
open Go.Proofs.S44.H (strsAV zaa zaj Sml GlK GlR zal zbk nsI zak zint zat encB zaw zae dig inp)
open Go.Proofs.S44.M (lf zde Dg dgL dgL_length All16 Sd sB pkAV grw)
variable {gl :Gl} {n:Nat}
def fs (l:List Rv):List Dg:=l.map (·.f)
theorem zb1 (l:List Rv):(fs l).length=l.length:=by simp[fs]
def rat (l:List Rv)(i:Nat):Rv:=l.getD i ⟨0,0,[],[]⟩
theorem zt2 {l:List Rv}{i:Nat}(h:i<l.length):(rvs l)[i]? =some (.agg (i64 (rat l i).site::i64 (rat l i).seq::(rat l i).r)):=by simp[rvs,rat,h]
theorem zza {l:List Rv}{i:Nat}(h:i<l.length):rat l i∈l:=by
 rw[show rat l i=l[i] by simp[rat,h]];exact List.getElem_mem h
theorem z08 {l:List Rv}{i:Nat}(h:i<l.length):(fs l).take (i+1)=(fs l).take i++[(rat l i).f]:=by
 rw[List.take_succ_eq_append_getElem (by rw[zb1];exact h)]
 simp[fs,rat,h]
theorem z3a (l:List Rv)(k:Nat):List.take k (rvs l)=rvs (l.take k):=by simp[rvs,List.map_take]
theorem z6g (a:List Dg)(x:Dg):dgL a++[.agg (zac x)]=dgL (a++[x]):=by simp[M.dgL]
def L54 :MC:=match m54 with| .seq _ (.seq _ (.seq (.seq _ (.block _ (.loop _ b))) _))=>b|_=>.skip
def S54 (f:Bool)(sh:Sh)(l:List Rv)(i:Nat):St:=⟨[.set 13 (i64 i),.set 12 (i64 l.length),.set 11 (.lst f sh (rvs l)),.set 5 (.sl 5005 [] 0 i)],[(5005,.grow (.ar 16 .sc) (dgL ((fs l).take i)))]⟩
theorem qc3 {d:Nat}(hd:12<=d)(f:Bool){l:List Rv}(hl:l.length<=60000)(ok:∀x∈l,RvOk gl x)(i:Nat)(hi:i<l.length) :
  zbm [.own 5 5005 (.ar 16 .sc),.slot 11,.slot 12,.slot 13] (evC gl (call gl tab d) L54 (S54 f sRe l i))=some (S54 f sRe l (i+1)):=by
 have hx:=zt2 hi
 have o:=ok _ (zza hi)
 have h1:=o.sh
 have h2:=o.l d hd
 have q:=H.bytes_all (rat l i).f
 have q2:=b16 o.f
 have hL:=zb8 l
 have lt:((fs l).take i).length=i:=by rw[wF,zb1];omega
 have ld:=dgL_length ((fs l).take i)
 have ld2:=dgL_length ((fs l).take (i+1))
 rw[z08 hi]at ld2
 have hLim:i+1<=LIM:=by unfold LIM;omega
 rw[lt]at ld
 rw[S54,S54,z08 hi]
 generalize (fs l).take i=a at *
 generalize rat l i=y at *
 clear o
 simp(disch:=apply zq;omega) only[go_sem,simprocAttr,↓Nat.reduceEqDiff,xx,L54,m54,↓out16_eq,hx,hL,h1,h2,q,q2,ld,hLim,z6g,M.dgL_length,lt,H.oo,H.noImms_bytesAV]
theorem zq5 (h:13<=n){s z:Int}{f f2 f3:Bool}{sh sh2 sh3:Sh}{l:List Rv}{t:List Dg}{U:List AV}(hs:Sr l sh)(hl:l.length<=60000)(ok:∀x∈l,RvOk gl x){k:Nat}(hk:k<=l.length) :
  call gl tab n 54 [ldAV s f sh l z f2 sh2 t f3 sh3 U,i64 k] []=some (.lst false sB (dgL (fs (l.take k))),[],[]):=by
 obtain⟨d,rfl⟩:=wA h
 have hL:=zb8 l
 have hz:=z76 (sh:=sh) (l:=rvs l) (k:=146) (by
  rcases hs with rfl|rfl
  . exact .inl rfl
  . exact .inr rfl)
 have hlt:(l.take k).length=k:=by rw[wF];omega
 have st:∀f' i,i<k->zbm [.own 5 5005 (.ar 16 .sc),.slot 11,.slot 12,.slot 13] (evC gl (call gl tab (d+12)) L54 (S54 f' sh (l.take k) i))=some (S54 f' sh (l.take k) (i+1)):=fun f' i hi=>by
  rcases hs with rfl|rfl
  . simp at hk;omega
  . exact @qc3 gl (d+12) (by omega) f' (l.take k) (by omega) (fun x hx=>ok x (List.mem_of_mem_take hx)) i (by omega)
 simp only[L54,m54,↓out16_eq]at st
 have hr:(rvs (l.take k)).length=k:=by rw[zb8,hlt]
 have e:=z3a l k
 have lf:=zb1 (l.take k)
 have tt:(fs (l.take k)).take k=fs (l.take k):=wD (by omega)
 have ta:List.take k (dgL (fs (l.take k)))=dgL (fs (l.take k)):=wD (by rw[M.dgL_length];omega)
 have ld:=dgL_length (fs (l.take k))
 rw[zaf (fd:=fd54) rfl]
 simp(disch:=apply zq;omega) only[go_sem,simprocAttr,↓Nat.reduceEqDiff,xx,fd54,m54,↓out16_eq,hL,hz,e,hr,wC,wE,H.oo]
 rw[zam (S54 (f&&k==l.length) sh (l.take k)) k (by unfold LF;omega)]
 . rw[S54,hlt,tt];simp(disch:=apply zq;omega) only[go_sem,simprocAttr,↓Nat.reduceEqDiff,xx,hr,ld,ta,lf,hlt]
 . rw[S54,hlt,List.take_zero];simp(disch:=apply zq;omega) only[go_sem,simprocAttr,↓Nat.reduceEqDiff,xx,hr];rfl
 . exact st _
 . rw[S54,hlt,tt];simp(disch:=apply zq;omega) only[go_sem,simprocAttr,↓Nat.reduceEqDiff,xx,hr]
end Go.Proofs.S44.L
namespace Go.Proofs.S44.L
open Go Go.Ev Go.Proofs Go.Proofs.S44
open Go.Proofs.S44.H (strsAV zaa zaj Sml GlK GlR zal zbk nsI zak zem zint zat encB zaw zae dig inp)
open Go.Proofs.S44.M (lf zde Dg dgL dgL_length All16 Sd sB pkAV grw)
variable {gl :Gl} {n:Nat}
def fE :List Int->Int
 | []=>0
 | a::l=>if a=0 then fE l else a
theorem z7l :∀{l:List Int},(∀x∈l,x=0)->fE l=0
 | [],_=>rfl
 | a::l,h=>by rw[fE,if_pos (h a (by simp))];exact z7l fun x hx=>h x (by simp[hx])
theorem qe9 :∀{l:List Int} {q:Nat} (hq:q<l.length),(∀j (hj:j<q),l[j]'(by omega)=0)->l[q]≠0->fE l=l[q]
 | a::l,0,_,_,h=>by
   have h:a≠0:=h
   rw[fE,if_neg h];rfl
 | a::l,q+1,hq,h0,h=>by
   have h1:a=0:=h0 0 (by omega)
   rw[fE,if_pos h1]
   exact qe9 (l:=l) (q:=q) (by simpa using hq) (fun j hj=>h0 (j+1) (by omega)) h
def L68 :MC:=match m68 with| .seq _ (.seq (.seq _ (.block _ (.loop _ b))) _)=>b|_=>.skip
def S68 (f:Bool)(l:List Int)(i:Nat):St:=⟨[.set 7 (i64 i),.set 6 (i64 l.length),.set 5 (.lst f .sc (nsI l))],[]⟩
theorem z4w (h:1<=n)(f:Bool){l:List Int}(hl:l.length<=1000):call gl tab n 68 [.lst f .sc (nsI l)] []=some (i64 (fE l),[],[]):=by
 obtain⟨d,rfl⟩:=wA h
 have hL:=zak l
 have hs:∀i (hi:i<l.length),l[i]=0->zbm [.slot 5,.slot 6,.slot 7] (evC gl (call gl tab d) L68 (S68 f l i))=some (S68 f l (i+1)):=fun i hi hp=>by
  have hx:=zem hi
  rw[hp]at hx
  simp(disch:=apply zq;omega) only[go_sem,simprocAttr,↓Nat.reduceEqDiff,xx,L68,m68,S68,hL,hx]
 have hf:∀i (hi:i<l.length),l[i]≠0->out1 2 (evC gl (call gl tab d) L68 (S68 f l i))=some (.ret,i64 l[i]):=fun i hi hp=>by
  have hx:=zem hi
  have hb:(l[i] != 0)=true:=by rw[bne_iff_ne];exact hp
  generalize l[i]=v at *
  simp(disch:=apply zq;omega) only[go_sem,simprocAttr,↓Nat.reduceEqDiff,xx,L68,m68,S68,hL,hx,hb]
 rw[zaf (fd:=fd68) rfl]
 rcases zc9 (fun i=>∀hi:i<l.length,l[i]=0) l.length with ha|⟨q,hq,hb',he⟩
 . rw[z7l fun x hx=>by
    obtain⟨i,hi,rfl⟩:=List.getElem_of_mem hx
    exact ha i hi hi]
   have hs2:=fun i hi=>hs i hi (ha i hi hi)
   simp only[L68,m68]at hs2
   simp(disch:=apply zq;omega) only[go_sem,simprocAttr,↓Nat.reduceEqDiff,xx,fd68,m68,hL]
   rw[zam (S68 f l) l.length (by unfold LF;omega)]
   . simp(disch:=apply zq;omega) only[go_sem,simprocAttr,↓Nat.reduceEqDiff,xx,S68,hL]
   . simp(disch:=apply zq;omega) only[go_sem,simprocAttr,↓Nat.reduceEqDiff,xx,S68,hL]
   . exact hs2
   . simp(disch:=apply zq;omega) only[go_sem,simprocAttr,↓Nat.reduceEqDiff,xx,S68,hL]
 . have he:l[q]≠0:=fun e=>he fun _=>e
   rw[qe9 hq (fun j hj=>hb' j hj (by omega)) he]
   obtain⟨st,hst,hg⟩:=zeu (hf q hq he)
   have hs2:=fun i (hi:i<q)=>hs i (by omega) (hb' i hi (by omega))
   simp only[L68,m68]at hs2 hst
   simp(disch:=apply zq;omega) only[go_sem,simprocAttr,↓Nat.reduceEqDiff,xx,fd68,m68,hL]
   rw[zam (S68 f l) q (by unfold LF;omega),hst]
   . simp(disch:=apply zq;omega) only[go_sem,simprocAttr,↓Nat.reduceEqDiff,xx,hg]
   . simp(disch:=apply zq;omega) only[go_sem,simprocAttr,↓Nat.reduceEqDiff,xx,S68,hL]
   . exact hs2
   . rw[hst];rfl
def mE (b:Bool)(e:Int):Int:=if b then 0 else e
theorem zzp (h:1<=n)(b:Bool)(e:Int):call gl tab n 69 [.bool b,i64 e] []=some (i64 (mE b e),[],[]):=by
 obtain⟨d,rfl⟩:=wA h
 rw[zaf (fd:=fd69) rfl]
 cases b
 . simp(disch:=apply zq;omega) only[go_sem,simprocAttr,↓Nat.reduceEqDiff,xx,fd69,m69];rfl
 . simp(disch:=apply zq;omega) only[go_sem,simprocAttr,↓Nat.reduceEqDiff,xx,fd69,m69];rfl
def ckI (leaf:Dg)(i N:Int)(p:List Dg)(root:Dg):Bool :=
 decide (¬(N<1\/N>1099511627776\/i<0\/i>=N)/\p.length=Mk.dep i.toNat N.toNat/\Mk.cl M.nd M.z16 leaf i.toNat N.toNat p=root)
theorem qfs [Nonempty (GlK gl)](h:60<=n){leaf root:Dg}{i N:Int}{f:Bool}{sh:Sh}{p:List Dg}(hf:leaf.length=16)(hr:root.length=16)(ha:All16 p)(hl:p.length<=1000000)(hs:Sd p sh sB) :
  call gl tab n 71 [bAV leaf,i64 i,i64 N,.lst f sh (dgL p),bAV root] []=some (.bool (ckI leaf i N p root),[],[]):=by
 by_cases hb:N<1\/N>1099511627776\/i<0\/i>=N
 . rw[ckI,decide_eq_false (fun h=>h.1 hb)]
   exact M.checkI_bad (by omega) hb hf hr
 . obtain⟨i,rfl⟩:=wG (show 0<=i by omega)
   obtain⟨N,rfl⟩:=wG (show 0<=N by omega)
   have:=M.checkI_ok (gl:=gl) h (i:=i) (N:=N) (f:=f) (by omega) (by omega) (by omega) hf hr ha hl hs
   rw[this,ckI]
   congr 3
   rw[Bool.eq_iff_iff,decide_eq_true_eq,decide_eq_true_eq,wH,wH]
   exact⟨fun h=>⟨hb,h⟩,fun h=>h.2⟩
abbrev hdA (x:Hd):AV:=.agg [i64 x.site,i64 x.size,bAV x.root,.agg [i64 x.lo,i64 x.hi],i64 x.ser,bAV x.sgn]
def ckS (ring:List Ky)(x:Rv)(h:Hd)(p:List Dg):Int:=fE [mE (x.site==h.site) 1,hdC ring h,mE (ckI x.f x.seq h.size p h.root) 3]
theorem zoj [Nonempty (GlK gl)](hn:61<=n){fr:Bool}{m:Sh}{ring:List Ky}(hm:Mk ring m)(hv:VR ring){x:Rv}(hx:RvOk gl x){h:Hd}(hh:HdOk h){f:Bool}{sh:Sh}{p:List Dg}(ha:All16 p)(hl:p.length<=1000000)(hs:Sd p sh sB) :
  call gl tab n 22 [.lst fr m (ks ring),.agg [rvAV x,hdAV h,.lst f sh (dgL p)]] []=some (i64 (ckS ring x h p),[],[]):=by
 obtain⟨d,rfl⟩:=wA hn
 have h1:=hx.sh
 have h2:=hx.l (d+60) (by omega)
 have u1:=b16 hh.r
 have u2:=b16 hh.s
 have w1:=H.bytes_all h.root
 have w2:=H.bytes_all h.sgn
 have q:=H.bytes_all x.f
 have q2:=b16 hx.f
 have c1:=@zzp gl (d+60) (by omega) (x.site==h.site) 1
 have c2:=qev (gl:=gl) (n:=d+60) (f:=fr) (by omega) hm hv h hh
 have c3:=qfs (gl:=gl) (n:=d+60) (leaf:=x.f) (root:=h.root) (i:=x.seq) (N:=h.size) (f:=f) (by omega) hx.f hh.r ha hl hs
 have c4:=@zzp gl (d+60) (by omega) (ckI x.f x.seq h.size p h.root) 3
 have c5:=@z4w gl (d+60) (by omega) false [mE (x.site==h.site) 1,hdC ring h,mE (ckI x.f x.seq h.size p h.root) 3] (by simp)
 unfold ckS
 generalize fE [mE (x.site==h.site) 1,hdC ring h,mE (ckI x.f x.seq h.size p h.root) 3]=r at *
 have e5:nsI [mE (x.site==h.site) 1,hdC ring h,mE (ckI x.f x.seq h.size p h.root) 3]=[i64 (mE (x.site==h.site) 1),i64 (hdC ring h),i64 (mE (ckI x.f x.seq h.size p h.root) 3)]:=rfl
 rw[e5]at c5
 clear e5
 generalize mE (x.site==h.site) 1=r1 at *
 generalize hdC ring h=r2 at *
 generalize mE (ckI x.f x.seq h.size p h.root) 3=r3 at *
 rw[zaf (fd:=fd22) rfl]
 simp(disch:=apply zq;omega) only[go_sem,simprocAttr,↓Nat.reduceEqDiff,xx,fd22,m22,↓out16_eq,h1,h2,u1,u2,w1,w2,q,q2,c1,c2,c3,c4,c5,H.oo]
end Go.Proofs.S44.L
