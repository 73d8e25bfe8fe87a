/-
  Chapter 3: peaks that grow. No condition.
-/
import Derived.Test.YtcddalfeicoedaaDoorW94G16x3
import Derived.Test.YtcddalfeicoedaaDoorW94G10x3
set_option linter.all false
open Nat renaming exists_eq_add_of_le'->wA,le_refl->wB,sub_zero->wC
open List renaming take_of_length_le->wD,length_take->wE,drop_zero->wF,dropLast_eq_take->wG,length_dropLast->wH,length_nil->wI
namespace Go.Proofs.S94.M
open Go Go.Ev Go.Proofs Go.Mk
open Go.Proofs.S94.H (GlK GlR)
variable {gl :Gl} {n:Nat}
theorem Sd.drop {p:List Dg}{sh:Sh}(hs:Sd p sh sB)(k:Nat):Sd (p.drop k) sh sB:=by
 rcases hs with h|h
 . subst h;exact Or.inl (by simp)
 . exact Or.inr h
theorem z5o (h:1<=n){f:Bool}{sh:Sh}{t:List Dg}(hl:t.length<=1000000)(hs:Sd t sh sB) :
  call gl tab n 47 [.lst f sh (dgL t)] []=some (.sl 20000 [] 0 t.length,[],[.grow sB (dgL t)]):=by
 obtain⟨d,rfl⟩:=wA h
 have h1:t.length<=LIM:=by unfold LIM;omega
 rw[zkq (fd:=fd47) rfl rfl]
 rcases hs with rfl|rfl
 . simp[zro,dgL_nil]
 . simp[zro,dgL_length,h1,Sh.beq,Sh.beqs]
def grw (s:Nat)(t:List Dg)(leaf:Dg):List Dg:=t.take (t.length-tr1 s)++[bk (t.drop (t.length-tr1 s)) leaf]
theorem qfw (y:BitVec 64):BitVec.ofInt 64 (if IntKind.u64.signed=true then -1 else IntKind.u64.max)^^^y= ~~~ y:=by
 rw[show BitVec.ofInt 64 (if IntKind.u64.signed=true then -1 else IntKind.u64.max)=BitVec.allOnes 64 from by decide +kernel]
 exact BitVec.allOnes_xor
section
variable [Nonempty (GlK gl)] [Nonempty (GlB gl)]
theorem append_ok (h:14<=n){s:Nat}{f:Bool}{sh:Sh}{t:List Dg}{leaf:Dg}(hf:leaf.length=16)(hl:t.length<=1000000)(ha:All16 t)(hs:Sd t sh sB)(hz:s<1099511627776)(hF:Form s t) :
  call gl tab n 21 [pkAV s f sh t,bAV leaf] []=some (.tup [.agg [i64 (s+1:Nat),.lst false sB (dgL (grw s t leaf))],i64 0],[],[]):=by
 obtain⟨d,rfl⟩:=wA h
 have c:=@z1b gl (d+13) (by omega) s f sh t hl (by omega)
 rw[decide_eq_true hF]at c
 have hle:tr1 s<=t.length:=by have h1:=zt0 s s (wB _);have h2:=hF.2.2;rw[Int.toNat_natCast]at h2;omega
 have l1:=b16t hf
 have l2:=H.bytes_all leaf
 have tz:=@z23 gl (d+13) _ (by omega) s (by omega)
 have hL:=dgL_length t
 have hT:=zhx t
 have hs1:Sd (t.take (t.length-tr1 s)) sh sB:=by rcases hs with rfl|h0;exact Or.inl (by simp);exact Or.inr h0
 have hs2:Sd (t.drop (t.length-tr1 s)) sh sB:=hs.drop _
 have k1:=fun f'=>@z5o gl (d+13) (by omega) f' sh (t.take (t.length-tr1 s)) (by rw[wE];omega) hs1
 have b1:=fun f'=>@zmg gl (d+13) (by omega) f' sh (t.drop (t.length-tr1 s))
 have b2:=fun f'=>@z2t gl (d+13) _ (by omega) f' sh (t.drop (t.length-tr1 s)) leaf (by rw[List.length_drop];omega) (ha.drop _) hf hs2
 have b3:=zrw (t.drop (t.length-tr1 s)) hf
 have b4:=H.bytes_all (bk (t.drop (t.length-tr1 s)) leaf)
 have b5:=H.noImms_bytesAV (bk (t.drop (t.length-tr1 s)) leaf)
 have n1:=dgL_noImms (t.take (t.length-tr1 s))
 have hk:(t.take (t.length-tr1 s)).length=t.length-tr1 s:=by rw[wE];omega
 have hkL:=dgL_length (t.take (t.length-tr1 s))
 have hkT:=zhx (t.take (t.length-tr1 s))
 rw[hk]at k1 hkL hkT
 rw[grw,zl8]
 have ej:(t.length:Int)-(tr1 s:Int)=((t.length-tr1 s:Nat):Int):=by omega
 have es:BitVec.ofInt 64 (s:Int)=BitVec.ofNat 64 s:=BitVec.ofInt_natCast ..
 have hlim:t.length+1<=LIM:=by unfold LIM;omega
 have hs':((s+1:Nat):Int)=(s:Int)+1:=by omega
 rw[hs']
 have hj:t.length-tr1 s<=t.length:=Nat.sub_le _ _
 have hcv:IntKind.wrap .u64 (s:Int)=(s:Int):=by rw[ztw,BitVec.ofInt_natCast,BitVec.toNat_ofNat,Nat.mod_eq_of_lt (by omega)]
 simp only[<-zdt,<-zef]at k1 b1 b2 n1 hkL hkT ⊢
 clear hF hs1 hs2
 generalize tr1 s=j0 at *
 generalize bk (t.drop (t.length-j0)) leaf=q at *
 generalize hjj:t.length-j0=j at *
 have hT2:List.take (j+1) (List.take j (dgL t)++[AV.agg (zab q)])=List.take j (dgL t)++[AV.agg (zab q)]:=wD (by simp[hkL])
 rcases hs with h0|h0
 . subst h0
   obtain rfl:j=0:=by simpa using hj
   obtain rfl:j0=0:=by simpa using hle
   simp only[dgL_nil,List.take_nil,List.drop_nil,List.nil_append,wI]at *
   replace c:call gl tab (d+13) 43 [.agg [i64 s,.lst f sh []]] []=some (.bool true,[],[]):=c
   show call gl tab (d+14) 21 [.agg [i64 s,.lst f sh []],bAV leaf] []=_
   rw[zae (fd:=fd21) rfl]
   simp(maxSteps:=1000000) (disch:=apply zq;omega) only[go_sem,simprocAttr,↓Nat.reduceEqDiff,xx,fd21,m21,↓out16_eq,H.out16_len,H.out16_all,H.out16_pl,↓zsr,c,hf,l1,l2,tz,es,k1,b1,b2,b3,b4,b5,n1,hT2,zc8]
 . subst h0
   rw[zae (fd:=fd21) rfl]
   simp(maxSteps:=1000000) (disch:=apply zq;omega) only[go_sem,simprocAttr,↓Nat.reduceEqDiff,xx,fd21,m21,↓out16_eq,H.out16_len,H.out16_all,H.out16_pl,↓zsr,c,hf,l1,l2,qfw,tz,ej,es,hL,hT,k1,b1,b2,b3,b4,b5,n1,hkL,hkT,hT2,zc8]
end
end Go.Proofs.S94.M
namespace Go.Proofs.S94.M
open Go Go.Ev Go.Proofs Go.Mk
theorem zt2 :∀t:List Dg,topV t=tpF nd em t
 | []=>rfl
 | [d]=>rfl
 | d::e::l=>by
   have ih:=zt2 (e::l)
   rw[tpF,<-ih,zkt (by simp),zkt (by simp)]
   rfl
theorem zut (z:Dg):∀(k:Nat) (t:List Dg) (d:Dg),k<=t.length->jns nd z k (t,d)=(t.take (t.length-k),bk (t.drop (t.length-k)) d)
 | 0,t,d,h=>by rw[jns,wC,List.take_length,List.drop_length];rfl
 | k+1,t,d,h=>by
   have hn:t≠[]:=List.length_pos_iff.1 (by omega)
   rw[jns,jn]
   simp only
   rw[zut z k _ _ (by rw[wH];omega)]
   rw[wH,show t.length-1-k=t.length-(k+1) by omega,wG,List.take_take,Nat.min_eq_left (by omega)]
   congr 1
   have e:t.drop (t.length-(k+1))=(t.take (t.length-1)).drop (t.length-(k+1))++[t.getLastD z]:=by
    have h1:t=t.take (t.length-1)++[t.getLastD z]:=by
     rw[<-wG,List.getLastD_eq_getLast?,List.getLast?_eq_some_getLast hn,Option.getD_some,List.dropLast_concat_getLast]
    conv=>lhs;rw[h1]
    rw[List.drop_append_of_le_length (by rw[wE,<-h1];omega)]
    rw[<-h1]
   rw[e,bk,bk,List.foldr_append]
   rfl
theorem z9n (z:Dg){s:Nat}{t:List Dg}{d:Dg}(h:tr1 s<=t.length):grw s t d=(jns nd z (tr1 s) (t,d)).1++[(jns nd z (tr1 s) (t,d)).2]:=by
 rw[zut z _ _ _ h];rfl
end Go.Proofs.S94.M
namespace Go.Proofs.S94.M
open Go Go.Ev Go.Proofs Go.Mk
open Go.Proofs.S94.H (GlK GlR)
variable {gl :Gl} {n:Nat}
section
variable [Nonempty (GlR gl)]
end
end Go.Proofs.S94.M
namespace Go.Proofs.S94.M
open Go Go.Ev Go.Proofs Go.Mk
open Go.Proofs.S94.H (GlK GlR)
variable {gl :Gl} {n:Nat}
end Go.Proofs.S94.M
namespace Go.Proofs.S94.L
open Go Go.Ev Go.Proofs Go.Proofs.S94
open Go.Proofs.S94.H (strsAV zaa zaj Sml GlK GlR zam zbh nsI zak zint zaw encB zaz zaf dig inp)
open Go.Proofs.S94.M (lf zcx)
variable {gl :Gl} {n:Nat}
def leaf (x:Re):List UInt8:=lf (zbz (reP x))
theorem zii (x:Re):(leaf x).length=16:=zcx _
theorem z6w {x:Re}(hx:ReOk x):((zab x.dat).length=16/\(zab x.pol).length=16/\(zab x.tk.sgn).length=16)/\(zab x.sp.body).length=16/\(zab x.sp.sgn).length=16/\(zab x.le.sgn).length=16 :=
 ⟨⟨b16 hx.d,b16 hx.p,b16 hx.t.s⟩,b16 hx.s.r,b16 hx.s.s,b16 hx.l.s⟩
theorem leaf_at [Nonempty (GlK gl)](h:12<=n){x:Re}(r:ReR x)(s:ReS x):call gl tab n 16 [reAV x] []=some (bAV (leaf x),[],[]):=by
 obtain⟨d,rfl⟩:=wA h
 have hx:=s.ok r
 have c1:=@z35 gl (d+11) (by omega) _ hx
 have c2:=@zfc gl (d+11) (by omega) false _ (zy6 r s)
 have c3:=@M.leaf_at gl (d+11) _ (by omega) (zbz (reP x)) (zy5 r s)
 rw[show lf (zbz (reP x))=leaf x from rfl]at c3
 obtain⟨⟨u1,u2,u3⟩,u4,u5,u6⟩:=z6w hx
 have w1:=H.bytes_all x.dat
 have w2:=H.bytes_all x.pol
 have w3:=H.bytes_all x.tk.sgn
 have w4:=H.bytes_all x.sp.body
 have w5:=H.bytes_all x.sp.sgn
 have w6:=H.bytes_all x.le.sgn
 have l:=zii x
 have q:=H.bytes_all (leaf x)
 have t:List.take (zbz (reP x)).length (zab (zbz (reP x)))=zab (zbz (reP x)):=wD (by rw[zac];exact wB _)
 generalize leaf x=g at *
 generalize zbz (reP x)=z at *
 rw[zae (fd:=fd16) rfl]
 simp(disch:=apply zq;omega) only[go_sem,simprocAttr,↓Nat.reduceEqDiff,xx,fd16,m16,↓out16_eq,H.oo,u1,u2,u3,u4,u5,u6,w1,w2,w3,w4,w5,w6,c1,c2,c3,l,q,t,zac,H.noImms_bytesAV]
theorem z4g [Nonempty (GlK gl)](h:12<=n){x:Re}(r:ReR x)(s:ReS x)(n1:x.hs=[])(n2:x.tk.cs=[])(n3:x.rl.tg=[])(n4:x.rl.vy=[]):call gl tab n 16 [z3z x] []=some (bAV (leaf x),[],[]):=by
 obtain⟨d,rfl⟩:=wA h
 have hx:=s.ok r
 have c1:=@zzf gl (d+11) (by omega) _ hx n1 n2 n3 n4
 have c2:=@zfc gl (d+11) (by omega) false _ (zy6 r s)
 have c3:=@M.leaf_at gl (d+11) _ (by omega) (zbz (reP x)) (zy5 r s)
 rw[show lf (zbz (reP x))=leaf x from rfl]at c3
 obtain⟨⟨u1,u2,u3⟩,u4,u5,u6⟩:=z6w hx
 have w1:=H.bytes_all x.dat
 have w2:=H.bytes_all x.pol
 have w3:=H.bytes_all x.tk.sgn
 have w4:=H.bytes_all x.sp.body
 have w5:=H.bytes_all x.sp.sgn
 have w6:=H.bytes_all x.le.sgn
 have l:=zii x
 have q:=H.bytes_all (leaf x)
 have t:List.take (zbz (reP x)).length (zab (zbz (reP x)))=zab (zbz (reP x)):=wD (by rw[zac];exact wB _)
 generalize leaf x=g at *
 generalize zbz (reP x)=z at *
 rw[zae (fd:=fd16) rfl]
 simp(disch:=apply zq;omega) only[go_sem,simprocAttr,↓Nat.reduceEqDiff,xx,fd16,m16,↓out16_eq,H.oo,u1,u2,u3,u4,u5,u6,w1,w2,w3,w4,w5,w6,c1,c2,c3,l,q,t,zac,H.noImms_bytesAV]
end Go.Proofs.S94.L
namespace Go.Proofs.S94.L
open Go Go.Ev Go.Proofs Go.Proofs.S94
open Go.Proofs.S94.H (strsAV zaa zaj Sml GlK GlR zam zbh nsI zak zint zaw encB zaz zaf dig inp)
open Go.Proofs.S94.M (lf zcx Dg dgL dgL_length All16 Sd sB pkAV grw)
variable {gl :Gl} {n:Nat}
structure Rv where
 site:Int
 seq:Int
 r:List AV
 f:List UInt8
abbrev rvAV (x:Rv):AV:=.agg (i64 x.site::i64 x.seq::x.r)
abbrev rSh :List Sh:=[.st [.sc,.sc,.sc,.sc,.st [.sc,.sc]],.sc,sTk,.ar 16 .sc,sRl,.sc,sSp,.sc,.st [.sc,.sc],.ar 16 .sc,sTk,.sc,.sc]
structure RvOk (gl:Gl)(x:Rv):Prop where
 sh:za7 rSh x.r=true
 f:x.f.length=16
 l:∀n,12<=n->call gl tab n 16 [rvAV x] []=some (bAV x.f,[],[])
def rvs (l:List Rv):List AV:=l.map rvAV
theorem zbl (l:List Rv):(rvs l).length=l.length:=by simp[rvs]
theorem z71 (l:List Rv)(x:Rv):rvs l++[rvAV x]=rvs (l++[x]):=by simp[rvs]
theorem site_at (h:1<=n)(a:Int):call gl tab n 17 [i64 a] []=some (.bool (decide (0<=a/\a<64)),[],[]):=by
 obtain⟨d,rfl⟩:=wA h
 rw[zae (fd:=fd17) rfl]
 by_cases h1:0<=a
 . by_cases h2:a<64
   . rw[decide_eq_true ⟨h1,h2⟩];simp(disch:=apply zq;omega) only[go_sem,simprocAttr,↓Nat.reduceEqDiff,xx,fd17,m17]
   . rw[decide_eq_false (fun h=>h2 h.2)];simp(disch:=apply zq;omega) only[go_sem,simprocAttr,↓Nat.reduceEqDiff,xx,fd17,m17]
 . rw[decide_eq_false (fun h=>h1 h.1)];simp(disch:=apply zq;omega) only[go_sem,simprocAttr,↓Nat.reduceEqDiff,xx,fd17,m17]
abbrev sLd :Sh:=.st [.sc,.sc,.st [.sc,.sc],.sc]
theorem z7b {sh:Sh}{l:List AV}{k:Nat}(hs:l=[]\/sh.size=k):(l.isEmpty||sh.size==k)=true:=by
 rcases hs with rfl|rfl
 . rfl
 . simp
theorem qag (h:1<=n){f:Bool}{sh:Sh}{l:List AV}(hs:l=[]\/sh.size=146):call gl tab n 22 [.lst f sh l] []=some (.lst true sh l,[],[]):=by
 obtain⟨d,rfl⟩:=wA h
 have t:=wD (wB l.length)
 have hz:=z7b hs
 rw[zae (fd:=fd22) rfl]
 simp(disch:=apply zq;omega) only[go_sem,simprocAttr,↓Nat.reduceEqDiff,xx,fd22,m22,t,wC,wF,hz]
theorem z5p (h:1<=n){f:Bool}{sh:Sh}{l:List AV}(hs:l=[]\/sh.size=37):call gl tab n 27 [.lst f sh l] []=some (.lst true sh l,[],[]):=by
 obtain⟨d,rfl⟩:=wA h
 have t:=wD (wB l.length)
 have hz:=z7b hs
 rw[zae (fd:=fd27) rfl]
 simp(disch:=apply zq;omega) only[go_sem,simprocAttr,↓Nat.reduceEqDiff,xx,fd27,m27,t,wC,wF,hz]
def Sr (l:List Rv)(sh:Sh):Prop:=l=[]\/sh=sRe
abbrev ldAV (s:Int)(f:Bool)(sh:Sh)(l:List Rv)(z:Int)(f2:Bool)(sh2:Sh)(t:List Dg)(f3:Bool)(sh3:Sh)(U:List AV):AV:=.agg [i64 s,.lst f sh (rvs l),.agg [i64 z,.lst f2 sh2 (dgL t)],.lst f3 sh3 U]
section
variable {s :Int} {f f2 f3:Bool} {sh sh2 sh3:Sh} {l:List Rv} {t:List Dg} {U:List AV}
theorem qav (h:1<=n){z:Int}{x:Rv}(hx:RvOk gl x)(hl:l.length<=1000000)(hb:¬(x.site=s/\x.seq=l.length)) :
  call gl tab n 7 [ldAV s f sh l z f2 sh2 t f3 sh3 U,rvAV x] []=some (.tup [ldAV s f sh l z f2 sh2 t f3 sh3 U,i64 1],[],[]):=by
 obtain⟨d,rfl⟩:=wA h
 have h1:=hx.sh
 have hL:=zbl l
 rw[zae (fd:=fd7) rfl]
 by_cases e1:x.site=s
 . have e2:(x.seq != (l.length:Int))=true:=by rw[bne_iff_ne];exact fun e=>hb ⟨e1,e⟩
   have e1:(x.site != s)=false:=by rw[e1];exact bne_self_eq_false _
   simp(disch:=apply zq;omega) only[go_sem,simprocAttr,↓Nat.reduceEqDiff,xx,fd7,m7,↓out16_eq,h1,hL,e1,e2,H.oo]
 . have e1:(x.site != s)=true:=by rw[bne_iff_ne];exact e1
   simp(disch:=apply zq;omega) only[go_sem,simprocAttr,↓Nat.reduceEqDiff,xx,fd7,m7,↓out16_eq,h1,hL,e1,H.oo]
theorem z6x [Nonempty (GlK gl)][Nonempty (M.GlB gl)](h:15<=n){z:Nat}{x:Rv}(hx:RvOk gl x)(hl:l.length<60000)(hs:Sr l sh)(e1:x.site=s)(e2:x.seq=l.length)
  (ht:t.length<=1000000) (ha:All16 t) (hs2:Sd t sh2 sB) (hz:z<1099511627776) (hF:M.Form z t) :
  call gl tab n 7 [ldAV s f sh l z f2 sh2 t f3 sh3 U,rvAV x] []=some (.tup [ldAV s false sRe (l++[x]) (z+1:Nat) false sB (grw z t x.f) f3 sh3 U,i64 0],[],[]):=by
 obtain⟨d,rfl⟩:=wA h
 have h1:=hx.sh
 have h2:=hx.l (d+14) (by omega)
 have hL:=zbl l
 have c:=@M.append_ok gl (d+14) _ _ (by omega) z f2 sh2 t x.f hx.f ht ha hs2 hz hF
 have k:=@qag gl (d+14) (by omega) f sh (rvs l) (by
  rcases hs with rfl|rfl
  . exact .inl rfl
  . exact .inr rfl)
 have e1:(x.site != s)=false:=by rw[e1];exact bne_self_eq_false _
 have e2:(x.seq != (l.length:Int))=false:=by rw[e2];exact bne_self_eq_false _
 have hA:=z71 l x
 have q:=H.bytes_all x.f
 have q2:=b16 hx.f
 have hLim:l.length+1<=LIM:=by unfold LIM;omega
 rw[zae (fd:=fd7) rfl]
 show _=some (AV.tup [.agg [i64 s,.lst false sRe (rvs (l++[x])),.agg [i64 (z+1:Nat),.lst false sB (dgL (grw z t x.f))],.lst f3 sh3 U],i64 0],[],[])
 rw[<-hA]
 have hLim0:0+1<=LIM:=by unfold LIM;omega
 have hLim1:0<=LIM:=by unfold LIM;omega
 rcases hs with rfl|rfl
 . have hI:rvs []=[]:=rfl
   rw[hI]at k
   simp(disch:=apply zq;omega) only[go_sem,simprocAttr,↓Nat.reduceEqDiff,xx,fd7,m7,↓out16_eq,h1,h2,hI,wI,e1,e2,c,k,q,q2,hLim0,hLim1,H.oo]
 . simp(disch:=apply zq;omega) only[go_sem,simprocAttr,↓Nat.reduceEqDiff,xx,fd7,m7,↓out16_eq,h1,h2,hL,e1,e2,c,k,q,q2,hLim,H.oo]
   rw[wD (by rw[List.length_append,hL];exact wB _)]
end
end Go.Proofs.S94.L
namespace Go.Proofs.S94.L
open Go Go.Ev Go.Proofs Go.Proofs.S94
open Go.Proofs.S94.H (strsAV zaa zaj Sml GlK GlR zam zbh nsI zak zint zaw encB zaz zaf dig inp)
open Go.Proofs.S94.M (lf zcx Dg dgL dgL_length All16 Sd sB pkAV grw)
variable {gl :Gl} {n:Nat}
def fs (l:List Rv):List Dg:=l.map (·.f)
theorem zas (l:List Rv):(fs l).length=l.length:=by simp[fs]
def rat (l:List Rv)(i:Nat):Rv:=l.getD i ⟨0,0,[],[]⟩
theorem zmw {l:List Rv}{i:Nat}(h:i<l.length):(rvs l)[i]? =some (.agg (i64 (rat l i).site::i64 (rat l i).seq::(rat l i).r)):=by simp[rvs,rat,h]
theorem zor {l:List Rv}{i:Nat}(h:i<l.length):rat l i∈l:=by
 rw[show rat l i=l[i] by simp[rat,h]];exact List.getElem_mem h
theorem z1a {l:List Rv}{i:Nat}(h:i<l.length):(fs l).take (i+1)=(fs l).take i++[(rat l i).f]:=by
 rw[List.take_succ_eq_append_getElem (by rw[zas];exact h)]
 simp[fs,rat,h]
theorem z3e (l:List Rv)(k:Nat):List.take k (rvs l)=rvs (l.take k):=by simp[rvs,List.map_take]
theorem z5h (a:List Dg)(x:Dg):dgL a++[.agg (zab x)]=dgL (a++[x]):=by simp[M.dgL]
def L54 :MC:=match m30 with| .seq _ (.seq _ (.seq (.seq _ (.block _ (.loop _ b))) _))=>b|_=>.skip
def S54 (f:Bool)(sh:Sh)(l:List Rv)(i:Nat):St:=⟨[.set 13 (i64 i),.set 12 (i64 l.length),.set 11 (.lst f sh (rvs l)),.set 5 (.sl 5005 [] 0 i)],[(5005,.grow (.ar 16 .sc) (dgL ((fs l).take i)))]⟩
theorem qbx {d:Nat}(hd:12<=d)(f:Bool){l:List Rv}(hl:l.length<=60000)(ok:∀x∈l,RvOk gl x)(i:Nat)(hi:i<l.length) :
  zb1 [.own 5 5005 (.ar 16 .sc),.slot 11,.slot 12,.slot 13] (evC gl (call gl tab d) L54 (S54 f sRe l i))=some (S54 f sRe l (i+1)):=by
 have hx:=zmw hi
 have o:=ok _ (zor hi)
 have h1:=o.sh
 have h2:=o.l d hd
 have q:=H.bytes_all (rat l i).f
 have q2:=b16 o.f
 have hL:=zbl l
 have lt:((fs l).take i).length=i:=by rw[wE,zas];omega
 have ld:=dgL_length ((fs l).take i)
 have ld2:=dgL_length ((fs l).take (i+1))
 rw[z1a hi]at ld2
 have hLim:i+1<=LIM:=by unfold LIM;omega
 rw[lt]at ld
 rw[S54,S54,z1a hi]
 generalize (fs l).take i=a at *
 generalize rat l i=y at *
 clear o
 simp(disch:=apply zq;omega) only[go_sem,simprocAttr,↓Nat.reduceEqDiff,xx,L54,m30,↓out16_eq,hx,hL,h1,h2,q,q2,ld,hLim,z5h,M.dgL_length,lt,H.oo,H.noImms_bytesAV]
theorem zih (h:13<=n){s z:Int}{f f2 f3:Bool}{sh sh2 sh3:Sh}{l:List Rv}{t:List Dg}{U:List AV}(hs:Sr l sh)(hl:l.length<=60000)(ok:∀x∈l,RvOk gl x){k:Nat}(hk:k<=l.length) :
  call gl tab n 30 [ldAV s f sh l z f2 sh2 t f3 sh3 U,i64 k] []=some (.lst false sB (dgL (fs (l.take k))),[],[]):=by
 obtain⟨d,rfl⟩:=wA h
 have hL:=zbl l
 have hz:=z7b (sh:=sh) (l:=rvs l) (k:=146) (by
  rcases hs with rfl|rfl
  . exact .inl rfl
  . exact .inr rfl)
 have hlt:(l.take k).length=k:=by rw[wE];omega
 have st:∀f' i,i<k->zb1 [.own 5 5005 (.ar 16 .sc),.slot 11,.slot 12,.slot 13] (evC gl (call gl tab (d+12)) L54 (S54 f' sh (l.take k) i))=some (S54 f' sh (l.take k) (i+1)):=fun f' i hi=>by
  rcases hs with rfl|rfl
  . simp at hk;omega
  . exact @qbx gl (d+12) (by omega) f' (l.take k) (by omega) (fun x hx=>ok x (List.mem_of_mem_take hx)) i (by omega)
 simp only[L54,m30,↓out16_eq]at st
 have hr:(rvs (l.take k)).length=k:=by rw[zbl,hlt]
 have e:=z3e l k
 have lf:=zas (l.take k)
 have tt:(fs (l.take k)).take k=fs (l.take k):=wD (by omega)
 have ta:List.take k (dgL (fs (l.take k)))=dgL (fs (l.take k)):=wD (by rw[M.dgL_length];omega)
 have ld:=dgL_length (fs (l.take k))
 rw[zae (fd:=fd30) rfl]
 simp(disch:=apply zq;omega) only[go_sem,simprocAttr,↓Nat.reduceEqDiff,xx,fd30,m30,↓out16_eq,hL,hz,e,hr,wC,wF,H.oo]
 rw[zao (S54 (f&&k==l.length) sh (l.take k)) k (by unfold LF;omega)]
 . rw[S54,hlt,tt];simp(disch:=apply zq;omega) only[go_sem,simprocAttr,↓Nat.reduceEqDiff,xx,hr,ld,ta,lf,hlt]
 . rw[S54,hlt,List.take_zero];simp(disch:=apply zq;omega) only[go_sem,simprocAttr,↓Nat.reduceEqDiff,xx,hr];rfl
 . exact st _
 . rw[S54,hlt,tt];simp(disch:=apply zq;omega) only[go_sem,simprocAttr,↓Nat.reduceEqDiff,xx,hr]
end Go.Proofs.S94.L
