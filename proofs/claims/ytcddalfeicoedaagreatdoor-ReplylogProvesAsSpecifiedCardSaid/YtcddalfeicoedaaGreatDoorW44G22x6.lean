/-
  Chapter 3: the proof of a beginning. No condition.
-/
import Derived.Test.YtcddalfeicoedaaGreatDoorW44G14x6
import Derived.Test.YtcddalfeicoedaaGreatDoorW44G21x6
import Derived.Test.YtcddalfeicoedaaGreatDoorW44G10x6
set_option linter.all false
open List renaming length_singleton->wA,length_append->wB,length_take->wC,length_drop->wD,map_cons->wE,map_nil->wF
open Nat renaming exists_eq_add_of_le'->wG,le_refl->wH
namespace Go.Proofs.S44.M
open Go Go.Ev Go.Proofs Go.Mk
open Go.Proofs.S44.H (GlK GlR)
variable {gl :Gl} {n:Nat}
abbrev F34 :OB:=.fix .sc (.fn 138 [.ptr 100000 [],.ptr 100001 []])
theorem cons_le :∀(c:Nat) (l:List Dg) (m:Nat) (mark:Bool),l.length<=c->1<=m->m<=l.length->(cons nd em l m mark).length<=l.length
 | 0,l,m,mark,h,h1,h2=>by omega
 | c+1,l,m,mark,h,h1,hm=>by
   by_cases he:m=l.length
   . subst he;rw[zgg];cases mark<;>simp;omega
   . have h2:2<=l.length:=by omega
     have hk:=zcu h2
     have hp:=zce l.length
     have tl:(l.take (spl l.length)).length=spl l.length:=by rw[wC];omega
     have td:(l.drop (spl l.length)).length=l.length-spl l.length:=by rw[wD]
     by_cases hi:m<=spl l.length
     . rw[zjy h2 he hi,wB,wA]
       have:=cons_le c (l.take (spl l.length)) m mark (by omega) h1 (by omega)
       omega
     . rw[zjz h2 he hi,wB,wA]
       have:=cons_le c (l.drop (spl l.length)) (m-spl l.length) false (by omega) (by omega) (by omega)
       omega
theorem qco {l:List Dg}{m:Nat}{mark:Bool}(hm:m<=l.length)(h1:1<=m)(h:¬(m=l.length/\mark=true)):cons nd em l m mark≠[]:=by
 by_cases he:m=l.length
 . subst he
   rw[zgg,if_neg (fun hk=>h ⟨rfl,hk⟩)];simp
 . have h2:2<=l.length:=by omega
   by_cases hi:m<=spl l.length
   . rw[zjy h2 he hi];simp
   . rw[zjz h2 he hi];simp
theorem zs1 (h:1<=n){l:List Dg}{f:Bool} :
  call gl tab n 138 [.lst f sB (dgL l),i64 l.length,.bool true,.ptr 100000 [],.ptr 100001 []] [(100000,.fix .sc nilA),(100001,F34)]=some (.tup [],[(100000,.fix .sc nilA),(100001,F34)],[]):=by
 obtain⟨d,rfl⟩:=wG h
 have hL:=dgL_length l
 rw[zau (fd:=zkt) rfl]
 simp(disch:=apply zq;omega) only[go_sem,simprocAttr,↓Nat.reduceEqDiff,xx,zkt,m138,hL]
section
variable [Nonempty (GlK gl)]
theorem qao :∀(c:Nat) {n:Nat} (l:List Dg) (f:Bool) (m:Nat) (mark:Bool),l.length<=c->9+c<=n->All16 l->l.length<=1000000->1<=m->m<=l.length->¬(m=l.length/\mark=true) ->
  call gl tab n 138 [.lst f sB (dgL l),i64 m,.bool mark,.ptr 100000 [],.ptr 100001 []] [(100000,.fix .sc nilA),(100001,F34)] =
   some (.tup [],[(100000,.fix .sc (.sl 20000 [] 0 (cons nd em l m mark).length)),(100001,F34)],[.grow sB (dgL (cons nd em l m mark))]):=by
 intro c
 induction c with
 | zero=>intro n l f m mark hc h ha hl h1 hm hx;omega
 | succ c ih =>
   intro n l f m mark hc h ha hl h1 hm hx
   obtain⟨d,rfl⟩:∃d,n=d+1:=⟨n-1,by omega⟩
   have hL:=dgL_length l
   have hT:=zed l
   have na:=zba
   have l1:1<=LIM:=by unfold LIM;omega
   by_cases he:m=l.length
   . obtain rfl:mark=false:=by cases mark;rfl;exact absurd ⟨he,rfl⟩ hx
     subst he
     have b:=fun f'=>@root_at gl _ (c+1) d l f' sB (by omega) (by omega) ha (by omega) (Or.inr rfl)
     rw[zgg,if_neg (by simp),wA]
     have rb:=rt_len ha
     have qb:=H.bytes_all (rt nd em l)
     simp only[dgL,wE,wF]
     simp only[dgL]at b hL hT
     generalize rt nd em l=r at *
     generalize l.length=w at *
     rw[zau (fd:=zkt) rfl]
     simp(implicitDefEqProofs:=false) (disch:=apply zq;omega) only[go_sem,simprocAttr,↓Nat.reduceEqDiff,xx,zkt,m138,↓out16_eq,H.out16_len,H.out16_all,H.out16_pl,hL,hT,zbh,b,rb,qb,H.noImms_bytesAV]
   . have h2:2<=l.length:=by omega
     have hk:=zcu h2
     have hp:=zce l.length
     have k:=@zk0 gl d (by omega) l.length h2 (by omega)
     have tl:(l.take (spl l.length)).length=spl l.length:=by rw[wC];omega
     have td:(l.drop (spl l.length)).length=l.length-spl l.length:=by rw[wD]
     by_cases hlo:m<=spl l.length
     . have b:=fun f'=>@root_at gl _ c d (l.drop (spl l.length)) f' sB (by omega) (by omega) (ha.drop _) (by omega) (Or.inr rfl)
       rw[zjy h2 he hlo,zec,wB,wA]
       have rb:=rt_len (ha.drop (spl l.length))
       have qb:=H.bytes_all (rt nd em (l.drop (spl l.length)))
       by_cases h3:m=spl l.length/\mark=true
       . obtain⟨h4,rfl⟩:=h3
         have a:=fun f'=>@zs1 gl d (by omega) (l.take (spl l.length)) f'
         have ec:cons nd em (l.take (spl l.length)) m true=[]:=by
          have:=@zgg Dg nd em (l.take (spl l.length)) true
          rw[tl,if_pos rfl]at this
          rw[h4];exact this
         rw[ec]
         rw[tl]at a
         simp only[<-zca]at a
         simp only[<-zcq]at b
         generalize rt nd em (l.drop (spl l.length))=r at *
         generalize spl l.length=z at *
         subst h4
         generalize l.length=w at *
         rw[zau (fd:=zkt) rfl]
         simp(implicitDefEqProofs:=false) (disch:=apply zq;omega) only[go_sem,simprocAttr,↓Nat.reduceEqDiff,xx,zkt,m138,↓out16_eq,H.out16_len,H.out16_all,H.out16_pl,hL,hT,zbh,k,a,b,rb,qb,na,H.noImms_bytesAV,dgL_nil]
       . have a:=fun f'=>@ih d (l.take (spl l.length)) f' m mark (by omega) (by omega) (ha.take _) (by omega) h1 (by omega) (by rw[tl];exact h3)
         have hN:=cons_le _ (l.take (spl l.length)) m mark (wH _) h1 (by omega)
         have hM:=dgL_length (cons nd em (l.take (spl l.length)) m mark)
         simp only[<-zca]at a
         simp only[<-zcq]at b
         generalize rt nd em (l.drop (spl l.length))=r at *
         generalize cons nd em (l.take (spl l.length)) m mark=p at *
         rw[tl]at hN
         have hlim:p.length+1<=LIM:=by unfold LIM;omega
         generalize spl l.length=z at *
         generalize l.length=w at *
         rw[zau (fd:=zkt) rfl]
         simp(implicitDefEqProofs:=false) (disch:=apply zq;omega) only[go_sem,simprocAttr,↓Nat.reduceEqDiff,xx,zkt,m138,↓out16_eq,H.out16_len,H.out16_all,H.out16_pl,hL,hT,hM,zbh,k,a,b,rb,qb,na,H.noImms_bytesAV]
     . have b:=fun f'=>@root_at gl _ c d (l.take (spl l.length)) f' sB (by omega) (by omega) (ha.take _) (by omega) (Or.inr rfl)
       rw[zjz h2 he hlo,zec,wB,wA]
       have rb:=rt_len (ha.take (spl l.length))
       have qb:=H.bytes_all (rt nd em (l.take (spl l.length)))
       have ei:(m:Int)-(spl l.length:Int)=((m-spl l.length:Nat):Int):=by omega
       have a:=fun f'=>@ih d (l.drop (spl l.length)) f' (m-spl l.length) false (by omega) (by omega) (ha.drop _) (by omega) (by omega) (by omega) (by simp)
       have hN:=cons_le _ (l.drop (spl l.length)) (m-spl l.length) false (wH _) (by omega) (by omega)
       have hM:=dgL_length (cons nd em (l.drop (spl l.length)) (m-spl l.length) false)
       simp only[<-zcq]at a
       simp only[<-zca]at b
       generalize rt nd em (l.take (spl l.length))=r at *
       generalize cons nd em (l.drop (spl l.length)) (m-spl l.length) false=p at *
       rw[td]at hN
       have hlim:p.length+1<=LIM:=by unfold LIM;omega
       generalize spl l.length=z at *
       generalize l.length=w at *
       rw[zau (fd:=zkt) rfl]
       simp(implicitDefEqProofs:=false) (disch:=apply zq;omega) only[go_sem,simprocAttr,↓Nat.reduceEqDiff,xx,zkt,m138,↓out16_eq,H.out16_len,H.out16_all,H.out16_pl,hL,hT,hM,zbh,k,a,b,rb,qb,na,H.noImms_bytesAV,ei]
theorem consistency_ok (h:1000<=n){l:List Dg}{f:Bool}{sh:Sh}{m:Nat}(ha:All16 l)(hl:l.length<=900)(h1:1<=m)(hm:m<l.length)(hs:Sd l sh sB) :
  call gl tab n 92 [.lst f sh (dgL l),i64 m] []=some (.tup [.sl 20000 [] 0 (cons nd em l m true).length,i64 0],[],[.grow sB (dgL (cons nd em l m true))]):=by
 obtain⟨d,rfl⟩:=wG h
 have hL:=dgL_length l
 obtain rfl:sh=sB:=by rcases hs with hs|hs;subst hs;simp at hm;exact hs
 have a:=@qao gl _ l.length (d+999) l f m true (wH _) (by omega) ha (by omega) h1 (by omega) (by omega)
 have hN:=@qco l m true (by omega) h1 (by omega)
 have hM:=dgL_length (cons nd em l m true)
 have hT:=zed (cons nd em l m true)
 have na:=zba (cons nd em l m true)
 generalize cons nd em l m true=p at *
 generalize l.length=w at *
 rw[zad (fd:=fd92) rfl]
 simp(disch:=apply zq;omega) only[go_sem,simprocAttr,↓Nat.reduceEqDiff,xx,fd92,m92,hL,hM,hT,a,na,zi3]
end
theorem consistency_end (h:1<=n){l:List Dg}{f:Bool}{sh:Sh}{m:Nat}(hl:l.length<=1000000)(hm:m=0\/m=l.length) :
  call gl tab n 92 [.lst f sh (dgL l),i64 m] []=some (.tup [.sl 20000 [] 0 0,i64 0],[],[.grow sB []]):=by
 obtain⟨d,rfl⟩:=wG h
 have hL:=dgL_length l
 rw[zad (fd:=fd92) rfl]
 rcases hm with rfl|rfl
 . simp(disch:=apply zq;omega) only[go_sem,simprocAttr,↓Nat.reduceEqDiff,xx,fd92,m92,hL]
 . by_cases h0:l.length=0
   . rw[h0];simp(disch:=apply zq;omega) only[go_sem,simprocAttr,↓Nat.reduceEqDiff,xx,fd92,m92,hL,h0]
   . simp(disch:=apply zq;omega) only[go_sem,simprocAttr,↓Nat.reduceEqDiff,xx,fd92,m92,hL]
end Go.Proofs.S44.M
namespace Go.Proofs.S44.M
open Go Go.Ev Go.Proofs Go.Mk
open Go.Proofs.S44.H (GlK GlR)
variable {gl :Gl} {n:Nat}
section
variable [Nonempty (GlR gl)]
theorem z4s :∀(c:Nat) {n:Nat} (l:List Dg) (f:Bool) (m:Nat) (mark:Bool),l.length<=c->9+c<=n->All16 l->l.length<=1000000->1<=m->m<=l.length ->
  call gl tab n 139 [.lst f sB (dgL l),i64 m,.bool mark] []=some (ansL (cons nd em l m mark),[],[]):=by
 intro c
 induction c with
 | zero=>intro n l f m mark hc h ha hl h1 hm;omega
 | succ c ih =>
   intro n l f m mark hc h ha hl h1 hm
   obtain⟨d,rfl⟩:∃d,n=d+1:=⟨n-1,by omega⟩
   have hL:=dgL_length l
   have hT:=zed l
   have l1:1<=LIM:=by unfold LIM;omega
   by_cases he:m=l.length
   . subst he
     rw[zgg]
     cases mark with
     | true =>
       rw[if_pos rfl,zwa]
       rw[zad (fd:=znb) rfl]
       simp(disch:=apply zq;omega) only[go_sem,simprocAttr,↓Nat.reduceEqDiff,xx,znb,m139,hL]
     | false =>
       have b:=fun f'=>@rroot_at gl _ (c+1) d l f' sB (by omega) (by omega) ha (by omega) (Or.inr rfl)
       rw[if_neg (by simp)]
       have rb:=rt_len ha
       have qb:=H.bytes_all (rt nd em l)
       have na:=zba [rt nd em l]
       rw[ansL,if_neg (by simp)]
       simp only[dgL,wE,wF]at na ⊢
       simp only[dgL]at b hL hT
       generalize rt nd em l=r at *
       generalize l.length=w at *
       rw[zad (fd:=znb) rfl]
       simp(implicitDefEqProofs:=false) (disch:=apply zq;omega) only[go_sem,simprocAttr,↓Nat.reduceEqDiff,xx,znb,m139,↓out16_eq,H.out16_len,H.out16_all,H.out16_pl,hL,hT,zbh,b,rb,qb,na,H.noImms_bytesAV]
   . have h2:2<=l.length:=by omega
     have hk:=zcu h2
     have hp:=zce l.length
     have k:=@zlt gl d (by omega) l.length h2 (by omega)
     have tl:(l.take (spl l.length)).length=spl l.length:=by rw[wC];omega
     have td:(l.drop (spl l.length)).length=l.length-spl l.length:=by rw[wD]
     by_cases hlo:m<=spl l.length
     . have b:=fun f'=>@rroot_at gl _ c d (l.drop (spl l.length)) f' sB (by omega) (by omega) (ha.drop _) (by omega) (Or.inr rfl)
       rw[zjy h2 he hlo,zlc,<-zec]
       have rb:=rt_len (ha.drop (spl l.length))
       have a:=fun f'=>@ih d (l.take (spl l.length)) f' m mark (by omega) (by omega) (ha.take _) (by omega) h1 (by omega)
       have hN:=cons_le _ (l.take (spl l.length)) m mark (wH _) h1 (by omega)
       obtain⟨f1,sh1,e1,e2⟩:=ansL_eq (cons nd em (l.take (spl l.length)) m mark)
       have hw:=@with_at gl d (by omega) (cons nd em (l.take (spl l.length)) m mark) (rt nd em (l.drop (spl l.length))) f1 sh1 (by omega) rb e2
       have na:=zba (cons nd em (l.take (spl l.length)) m mark++[rt nd em (l.drop (spl l.length))])
       rw[e1]at a
       simp only[<-zca]at a
       simp only[<-zcq]at b
       generalize dgL (cons nd em (l.take (spl l.length)) m mark++[rt nd em (l.drop (spl l.length))])=y at *
       generalize rt nd em (l.drop (spl l.length))=r at *
       generalize cons nd em (l.take (spl l.length)) m mark=p at *
       generalize spl l.length=z at *
       generalize l.length=w at *
       rw[zad (fd:=znb) rfl]
       simp(implicitDefEqProofs:=false) (disch:=apply zq;omega) only[go_sem,simprocAttr,↓Nat.reduceEqDiff,xx,znb,m139,hL,hT,zbh,k,a,b,hw,na]
     . have b:=fun f'=>@rroot_at gl _ c d (l.take (spl l.length)) f' sB (by omega) (by omega) (ha.take _) (by omega) (Or.inr rfl)
       rw[zjz h2 he hlo,zlc,<-zec]
       have rb:=rt_len (ha.take (spl l.length))
       have ei:(m:Int)-(spl l.length:Int)=((m-spl l.length:Nat):Int):=by omega
       have a:=fun f'=>@ih d (l.drop (spl l.length)) f' (m-spl l.length) false (by omega) (by omega) (ha.drop _) (by omega) (by omega) (by omega)
       have hN:=cons_le _ (l.drop (spl l.length)) (m-spl l.length) false (wH _) (by omega) (by omega)
       obtain⟨f1,sh1,e1,e2⟩:=ansL_eq (cons nd em (l.drop (spl l.length)) (m-spl l.length) false)
       have hw:=@with_at gl d (by omega) (cons nd em (l.drop (spl l.length)) (m-spl l.length) false) (rt nd em (l.take (spl l.length))) f1 sh1 (by omega) rb e2
       have na:=zba (cons nd em (l.drop (spl l.length)) (m-spl l.length) false++[rt nd em (l.take (spl l.length))])
       rw[e1]at a
       simp only[<-zcq]at a
       simp only[<-zca]at b
       generalize dgL (cons nd em (l.drop (spl l.length)) (m-spl l.length) false++[rt nd em (l.take (spl l.length))])=y at *
       generalize rt nd em (l.take (spl l.length))=r at *
       generalize cons nd em (l.drop (spl l.length)) (m-spl l.length) false=p at *
       generalize spl l.length=z at *
       generalize l.length=w at *
       rw[zad (fd:=znb) rfl]
       simp(implicitDefEqProofs:=false) (disch:=apply zq;omega) only[go_sem,simprocAttr,↓Nat.reduceEqDiff,xx,znb,m139,hL,hT,zbh,k,a,b,hw,na,ei]
theorem rconsistency_ok (h:1000<=n){l:List Dg}{f:Bool}{sh:Sh}{m:Nat}(ha:All16 l)(hl:l.length<=900)(h1:1<=m)(hm:m<l.length)(hs:Sd l sh sB) :
  call gl tab n 93 [.lst f sh (dgL l),i64 m] []=some (.agg [ansL (cons nd em l m true),i64 0],[],[]):=by
 obtain⟨d,rfl⟩:=wG h
 have hL:=dgL_length l
 obtain rfl:sh=sB:=by rcases hs with hs|hs;subst hs;simp at hm;exact hs
 have a:=@z4s gl _ l.length (d+999) l f m true (wH _) (by omega) ha (by omega) h1 (by omega)
 obtain⟨f1,sh1,e1,e2⟩:=ansL_eq (cons nd em l m true)
 have na:=zba (cons nd em l m true)
 rw[e1]at a ⊢
 generalize cons nd em l m true=p at *
 generalize l.length=w at *
 rw[zad (fd:=fd93) rfl]
 simp(disch:=apply zq;omega) only[go_sem,simprocAttr,↓Nat.reduceEqDiff,xx,fd93,m93,hL,a,na]
end
theorem rconsistency_end (h:1<=n){l:List Dg}{f:Bool}{sh:Sh}{m:Nat}(hl:l.length<=1000000)(hm:m=0\/m=l.length) :
  call gl tab n 93 [.lst f sh (dgL l),i64 m] []=some (.agg [nilA,i64 0],[],[]):=by
 obtain⟨d,rfl⟩:=wG h
 have hL:=dgL_length l
 rw[zad (fd:=fd93) rfl]
 rcases hm with rfl|rfl
 . simp(disch:=apply zq;omega) only[go_sem,simprocAttr,↓Nat.reduceEqDiff,xx,fd93,m93,hL]
 . by_cases h0:l.length=0
   . rw[h0];simp(disch:=apply zq;omega) only[go_sem,simprocAttr,↓Nat.reduceEqDiff,xx,fd93,m93,hL,h0]
   . simp(disch:=apply zq;omega) only[go_sem,simprocAttr,↓Nat.reduceEqDiff,xx,fd93,m93,hL]
end Go.Proofs.S44.M
namespace Go.Proofs.S44.L
open Go Go.Ev Go.Proofs Go.Proofs.S44
open Go.Proofs.S44.H (strsAV zaa zal Sml GlK GlR zaj zbq nsI zam)
open Go.Proofs.S44.M (Dg dgL dgL_length All16 Sd sB ansL nilA)
variable {gl :Gl} {n:Nat}
def zR0 :Re:={zRe 0 with site:=0}
abbrev zL0 :AV:=.agg [i64 0,i64 0,.agg [.str [],.str [],.str [],i64 0,.agg [i64 0,i64 0]],.lst true .sc [],.agg [i64 0,i64 0,.str [],.lst true .sc [],.agg H.out16l],.agg H.out16l,.agg [.str [],.str [],.lst true .sc [],i64 0,i64 0,i64 0,i64 0,.lst true .sc [],.agg [i64 0,i64 0,.str [],.lst true .sc [],.lst true .sc [],.lst true .sc [],i64 0],.bool false,i64 0,.str []],i64 0,.agg [.str [],.str [],i64 0,i64 0,.agg H.out16l,.str [],.agg [i64 0,i64 0],i64 0,i64 0,.agg H.out16l],i64 0,.agg [i64 0,i64 0],.agg H.out16l,.agg [i64 0,i64 0,i64 0,i64 0,.agg H.out16l],i64 0,i64 0]
theorem qdl :zL0=zo8 zR0:=rfl
def hd00 :Hd:=⟨0,0,zB,0,0,0,zB⟩
abbrev hdL0 :AV:=.agg [i64 0,i64 0,.agg H.out16l,.agg [i64 0,i64 0],i64 0,.agg H.out16l]
theorem qbv :HdOk hd00:=⟨zbg r0 (zbg r0 (zbg r0 (zbg r0 (zbg r0 zga (by simp)) (by simp)) (by simp)) (by simp)) (by simp),by simp[hd00],by simp[hd00]⟩
abbrev zSh :AV:=.agg [zL0,hdL0,nilA]
theorem zR0R :ReR zR0:={zR (m:=0) r0 with i:=⟨⟨r0,r0,r0,r0,r0,r0,r0,r0⟩,r0,r0,r0⟩}
theorem zR0S :ReS zR0:={L.zS 0 with h:=(L.zS 0).h}
section
variable {s z:Int} {f f2 f3:Bool} {sh sh2 sh3:Sh} {l:List Rv} {t:List Dg} {hs:List Hd}
section
variable (h3 :hs=[]\/sh3=sHd) (hhl:hs.length<=60000) (hh:∀y∈hs,HdOk y) {h:Hd} (o:HdOk h)
include h3 hhl hh o
theorem zw2 (hn:5<=n)(hx:¬h∈hs)(i:Int) :
  call gl tab n 21 [ldAV s f sh l z f2 sh2 t f3 sh3 (hds hs),i64 i,hdAV h] []=some (.tup [zSh,i64 5],[],[]):=by
 obtain⟨d,rfl⟩:=wG hn
 have c1:=@zgf gl (d+4) (by omega) f3 sh3 hs h o h3 hhl hh
 rw[decide_eq_false hx]at c1
 have u1:=b16 o.r
 have u2:=b16 o.s
 have w1:=H.bytes_all h.root
 have w2:=H.bytes_all h.sgn
 rw[zad (fd:=fd21) rfl]
 simp(maxSteps:=1000000) (disch:=apply zq;omega) only[go_sem,simprocAttr,↓Nat.reduceEqDiff,xx,fd21,m21,↓out16_eq,c1,u1,u2,w1,w2,H.oo]
theorem z0b (hn:5<=n)(hx:h∈hs){i:Int}(hi:¬(0<=i/\i<h.size)) :
  call gl tab n 21 [ldAV s f sh l z f2 sh2 t f3 sh3 (hds hs),i64 i,hdAV h] []=some (.tup [zSh,i64 1],[],[]):=by
 obtain⟨d,rfl⟩:=wG hn
 have c1:=@zgf gl (d+4) (by omega) f3 sh3 hs h o h3 hhl hh
 rw[decide_eq_true hx]at c1
 have u1:=b16 o.r
 have u2:=b16 o.s
 have w1:=H.bytes_all h.root
 have w2:=H.bytes_all h.sgn
 rw[zad (fd:=fd21) rfl]
 by_cases i0:0<=i
 . have i1:¬i<h.size:=fun e=>hi ⟨i0,e⟩
   clear hi
   simp(maxSteps:=1000000) (disch:=apply zq;omega) only[go_sem,simprocAttr,↓Nat.reduceEqDiff,xx,fd21,m21,↓out16_eq,c1,u1,u2,w1,w2,H.oo]
 . clear hi
   simp(maxSteps:=1000000) (disch:=apply zq;omega) only[go_sem,simprocAttr,↓Nat.reduceEqDiff,xx,fd21,m21,↓out16_eq,c1,u1,u2,w1,w2,H.oo]
theorem zsq (hn:5<=n)(hx:¬h∈hs)(i:Int) :
  call gl tab n 33 [ldAV s f sh l z f2 sh2 t f3 sh3 (hds hs),i64 i,hdAV h] []=some (.agg [zSh,i64 5],[],[]):=by
 obtain⟨d,rfl⟩:=wG hn
 have c1:=@zix gl (d+4) (by omega) s z f f2 f3 sh sh2 sh3 l t hs h o h3 hhl hh
 rw[decide_eq_false hx]at c1
 have u1:=b16 o.r
 have u2:=b16 o.s
 have w1:=H.bytes_all h.root
 have w2:=H.bytes_all h.sgn
 rw[zad (fd:=fd33) rfl]
 simp(maxSteps:=1000000) (disch:=apply zq;omega) only[go_sem,simprocAttr,↓Nat.reduceEqDiff,xx,fd33,m33,↓out16_eq,c1,u1,u2,w1,w2,H.oo]
theorem zws (hn:5<=n)(hx:h∈hs){i:Int}(hi:¬(0<=i/\i<h.size)) :
  call gl tab n 33 [ldAV s f sh l z f2 sh2 t f3 sh3 (hds hs),i64 i,hdAV h] []=some (.agg [zSh,i64 1],[],[]):=by
 obtain⟨d,rfl⟩:=wG hn
 have c1:=@zix gl (d+4) (by omega) s z f f2 f3 sh sh2 sh3 l t hs h o h3 hhl hh
 rw[decide_eq_true hx]at c1
 have u1:=b16 o.r
 have u2:=b16 o.s
 have w1:=H.bytes_all h.root
 have w2:=H.bytes_all h.sgn
 rw[zad (fd:=fd33) rfl]
 by_cases i0:0<=i
 . have i1:¬i<h.size:=fun e=>hi ⟨i0,e⟩
   clear hi
   simp(maxSteps:=1000000) (disch:=apply zq;omega) only[go_sem,simprocAttr,↓Nat.reduceEqDiff,xx,fd33,m33,↓out16_eq,c1,u1,u2,w1,w2,H.oo]
 . clear hi
   simp(maxSteps:=1000000) (disch:=apply zq;omega) only[go_sem,simprocAttr,↓Nat.reduceEqDiff,xx,fd33,m33,↓out16_eq,c1,u1,u2,w1,w2,H.oo]
end
theorem zzt [Nonempty (GlR gl)](hn:1001<=n)(h2:Sr l sh)(hl:l.length<=800)(ok:∀x∈l,RvOk gl x)(ok':∀x∈l,RvR gl x)(h3:hs=[]\/sh3=sHd)(hhl:hs.length<=60000)(hh:∀y∈hs,HdOk y)
  {h:Hd} (hx:h∈hs) {k i:Nat} (hk:h.size=k) (hkl:k<=l.length) (hi:i<k) :
  call gl tab n 33 [ldAV s f sh l z f2 sh2 t f3 sh3 (hds hs),i64 i,hdAV h] [] =
   some (.agg [.agg [rvAV (rat l i),hdAV h,ansL (Mk.incl M.nd M.em ((fs l).take k) i)],i64 0],[],[]):=by
 obtain⟨d,rfl⟩:=wG hn
 have o:=hh h hx
 have c1:=@zix gl (d+1000) (by omega) s z f f2 f3 sh sh2 sh3 l t hs h o h3 hhl hh
 rw[decide_eq_true hx]at c1
 have c2:=@zjd gl (d+1000) s z f f2 f3 sh sh2 sh3 l t (hds hs) (by omega) h2 (by omega) ok ok' k hkl
 have lk:((fs l).take k).length=k:=by rw[wC,za4];omega
 have c3:=M.rinclusion_ok (gl:=gl) (n:=d+1000) (l:=(fs l).take k) (f:=false) (sh:=sB) (i:=i) (by omega) ((zdp ok).take _) (by omega) (by omega) (.inr rfl)
 rw[<-hk]at c2
 have hL:=zbc l
 have hLh:=zb3 hs
 obtain rfl:sh=sRe:=by
  rcases h2 with rfl|rfl
  . simp at hkl;omega
  . rfl
 have hr:=zj9 (l:=l) (i:=i) (by omega)
 have q1:=(ok _ (zgq (show i<l.length by omega))).sh
 have u1:=b16 o.r
 have u2:=b16 o.s
 have w1:=H.bytes_all h.root
 have w2:=H.bytes_all h.sgn
 obtain⟨f5,s5,e5,k5⟩:=M.ansL_eq (Mk.incl M.nd M.em ((fs l).take k) i)
 rw[e5]at c3 ⊢
 generalize Mk.incl M.nd M.em ((fs l).take k) i=p at *
 generalize rat l i=x at *
 rw[zad (fd:=fd33) rfl]
 simp(maxSteps:=1000000) (disch:=apply zq;omega) only[go_sem,simprocAttr,↓Nat.reduceEqDiff,xx,fd33,m33,↓out16_eq,c1,c2,c3,hL,hLh,hr,q1,u1,u2,w1,w2,H.oo]
end
end Go.Proofs.S44.L
namespace Go.Proofs.S44.L
open Go Go.Ev Go.Proofs Go.Proofs.S44
open Go.Proofs.S44.H (strsAV zaa zal Sml GlK GlR zaj zbq nsI zam)
variable {gl :Gl} {n:Nat}
def L23 :MC:=match m23 with| .seq _ (.seq _ (.seq (.seq _ (.block _ (.loop _ b))) _))=>b|_=>.skip
def S23 (f g:Bool)(a b:List (List UInt8))(i:Nat):St:=⟨[.set 5 (i64 i),.set 1 (.lst g .sc (strsAV b)),.set 0 (.lst f .sc (strsAV a))],[]⟩
theorem zuj (h:1<=n)(f g:Bool){a b:List (List UInt8)}(ha:a.length<=60000)(hb:b.length<=60000):call gl tab n 23 [.lst f .sc (strsAV a),.lst g .sc (strsAV b)] []=some (.bool (decide (a=b)),[],[]):=by
 obtain⟨d,rfl⟩:=wG h
 have la:=zaa a
 have lb:=zaa b
 rw[zad (fd:=fd23) rfl]
 by_cases hl:a.length=b.length
 case neg =>
  rw[decide_eq_false fun e=>hl (by rw[e])]
  simp(disch:=apply zq;omega) only[go_sem,simprocAttr,↓Nat.reduceEqDiff,xx,fd23,m23,la,lb]
 have hs:∀i,i<a.length->sat a i=sat b i->zbe [.slot 0,.slot 1,.slot 5] (evC gl (call gl tab d) L23 (S23 f g a b i))=some (S23 f g a b (i+1)):=fun i hi hp=>by
  have hx:=zjb hi
  have hy:=zjb (l:=b) (i:=i) (by omega)
  rw[hp]at hx
  simp(disch:=apply zq;omega) only[go_sem,simprocAttr,↓Nat.reduceEqDiff,xx,L23,m23,S23,la,lb,hx,hy,bne_self_eq_false]
 have hf:∀i,i<a.length->¬sat a i=sat b i->out1 4 (evC gl (call gl tab d) L23 (S23 f g a b i))=some (.ret,.bool false):=fun i hi hp=>by
  have hx:=zjb hi
  have hy:=zjb (l:=b) (i:=i) (by omega)
  have he:(sat a i==sat b i)=false:=by rw[beq_eq_false_iff_ne];exact hp
  generalize sat a i=u at *
  generalize sat b i=v at *
  simp(disch:=apply zq;omega) only[go_sem,simprocAttr,↓Nat.reduceEqDiff,xx,L23,m23,S23,la,lb,hx,hy,he]
 rcases zb8 (fun i=>sat a i=sat b i) a.length with hA|⟨q,hq,hb',he⟩
 . have e:a=b:=List.ext_getElem hl fun i h1 h2=>by
    have:=hA i h1
    simpa[sat,h1,h2]using this
   rw[decide_eq_true e]
   have hs2:=fun i hi=>hs i hi (hA i hi)
   simp only[L23,m23]at hs2
   simp(disch:=apply zq;omega) only[go_sem,simprocAttr,↓Nat.reduceEqDiff,xx,fd23,m23,la,lb,hl,bne_self_eq_false]
   rw[zai (S23 f g a b) a.length (by unfold LF;omega)]
   . simp(disch:=apply zq;omega) only[go_sem,simprocAttr,↓Nat.reduceEqDiff,xx,S23,la]
   . simp(disch:=apply zq;omega) only[go_sem,simprocAttr,↓Nat.reduceEqDiff,xx,S23]
   . exact hs2
   . simp(disch:=apply zq;omega) only[go_sem,simprocAttr,↓Nat.reduceEqDiff,xx,S23,la]
 . have e:¬a=b:=fun e=>he (by rw[e])
   rw[decide_eq_false e]
   obtain⟨st,hst,hg⟩:=zc9 (hf q hq he)
   have hs2:=fun i (hi:i<q)=>hs i (by omega) (hb' i hi)
   simp only[L23,m23]at hs2 hst
   simp(disch:=apply zq;omega) only[go_sem,simprocAttr,↓Nat.reduceEqDiff,xx,fd23,m23,la,lb,hl,bne_self_eq_false]
   rw[zai (S23 f g a b) q (by unfold LF;omega),hst]
   . simp(disch:=apply zq;omega) only[go_sem,simprocAttr,↓Nat.reduceEqDiff,xx,hg]
   . simp(disch:=apply zq;omega) only[go_sem,simprocAttr,↓Nat.reduceEqDiff,xx,S23]
   . exact hs2
   . rw[hst];rfl
end Go.Proofs.S44.L
