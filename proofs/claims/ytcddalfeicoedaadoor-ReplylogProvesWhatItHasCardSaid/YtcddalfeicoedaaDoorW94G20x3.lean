/-
  Chapter 44: what a valid ledger is, as specified. No condition.
-/
import Derived.Test.YtcddalfeicoedaaDoorW94G19x3
import Derived.Test.YtcddalfeicoedaaDoorW94G14x3
import Derived.Test.YtcddalfeicoedaaDoorW94G9x3
set_option linter.all false
open List renaming length_singleton->wA,length_append->wB,length_take->wC,length_drop->wD
open Nat renaming exists_eq_add_of_le'->wE,le_refl->wF
namespace Go.Proofs.S94.L
open Go Go.Ev Go.Proofs Go.Proofs.S94
open Go.Proofs.S94.H (strsAV zaa zaj Sml GlK GlR)
open Go.Proofs.S94.M (lf zcx Dg dgL dgL_length All16 Sd sB pkAV grw P8 R8)
variable {gl :Gl} {n:Nat}
def HV (s:Int)(l:List Rv)(hs:List Hd)(k:Nat):Prop :=
 (hdat hs k).site=s/\0<=(hdat hs k).size/\(hdat hs k).size<=l.length/\(hdat hs k).root=R8 (fs l) (hdat hs k).size.toNat /\
   (0<k->(hdat hs (k-1)).size<=(hdat hs k).size/\(hdat hs (k-1)).lo<=(hdat hs k).lo)
def RV (s:Int)(l:List Rv)(i:Nat):Prop:=(rat l i).site=s/\(rat l i).seq=i
def VL (s:Int)(l:List Rv)(z:Int)(t:List Dg)(hs:List Hd):Prop :=
 (0<=s/\s<64)/\(∀i,i<l.length->RV s l i)/\(z=l.length/\t=P8 (fs l) l.length)/\∀k,k<hs.length->HV s l hs k
section
variable {s z:Int} {f f2 f3:Bool} {sh sh2 sh3:Sh} {l:List Rv} {t:List Dg} {hs:List Hd}
variable [Nonempty (GlR gl)]
end
end Go.Proofs.S94.L
namespace Go.Proofs.S94.L
open Go Go.Ev Go.Proofs Go.Proofs.S94
open Go.Proofs.S94.H (strsAV zaa zaj Sml GlK GlR zam zbh nsI zak zint zaw encB zaz zaf)
variable {gl :Gl} {n:Nat}
end Go.Proofs.S94.L
namespace Go.Proofs.S94.M
open Go Go.Ev Go.Proofs Go.Mk
open Go.Proofs.S94.H (GlK GlR)
variable {gl :Gl} {n:Nat}
abbrev F34 :OB:=.fix .sc (.fn 59 [.ptr 100000 [],.ptr 100001 []])
theorem cons_le :∀(c:Nat) (l:List Dg) (m:Nat) (mark:Bool),l.length<=c->1<=m->m<=l.length->(cons nd em l m mark).length<=l.length
 | 0,l,m,mark,h,h1,h2=>by omega
 | c+1,l,m,mark,h,h1,hm=>by
   by_cases he:m=l.length
   . subst he;rw[cons_all];cases mark<;>simp;omega
   . have h2:2<=l.length:=by omega
     have hk:=zcu h2
     have hp:=zb6 l.length
     have tl:(l.take (spl l.length)).length=spl l.length:=by rw[wC];omega
     have td:(l.drop (spl l.length)).length=l.length-spl l.length:=by rw[wD]
     by_cases hi:m<=spl l.length
     . rw[zma h2 he hi,wB,wA]
       have:=cons_le c (l.take (spl l.length)) m mark (by omega) h1 (by omega)
       omega
     . rw[zmb h2 he hi,wB,wA]
       have:=cons_le c (l.drop (spl l.length)) (m-spl l.length) false (by omega) (by omega) (by omega)
       omega
theorem qab {l:List Dg}{m:Nat}{mark:Bool}(hm:m<=l.length)(h1:1<=m)(h:¬(m=l.length/\mark=true)):cons nd em l m mark≠[]:=by
 by_cases he:m=l.length
 . subst he
   rw[cons_all,if_neg (fun hk=>h ⟨rfl,hk⟩)];simp
 . have h2:2<=l.length:=by omega
   by_cases hi:m<=spl l.length
   . rw[zma h2 he hi];simp
   . rw[zmb h2 he hi];simp
theorem zsl (h:1<=n){l:List Dg}{f:Bool} :
  call gl tab n 59 [.lst f sB (dgL l),i64 l.length,.bool true,.ptr 100000 [],.ptr 100001 []] [(100000,.fix .sc nilA),(100001,F34)]=some (.tup [],[(100000,.fix .sc nilA),(100001,F34)],[]):=by
 obtain⟨d,rfl⟩:=wE h
 have hL:=dgL_length l
 rw[zat (fd:=fd59) rfl]
 simp(disch:=apply zq;omega) only[go_sem,simprocAttr,↓Nat.reduceEqDiff,xx,fd59,m59,hL]
section
variable [Nonempty (GlK gl)]
theorem z8f :∀(c:Nat) {n:Nat} (l:List Dg) (f:Bool) (m:Nat) (mark:Bool),l.length<=c->9+c<=n->All16 l->l.length<=1000000->1<=m->m<=l.length->¬(m=l.length/\mark=true) ->
  call gl tab n 59 [.lst f sB (dgL l),i64 m,.bool mark,.ptr 100000 [],.ptr 100001 []] [(100000,.fix .sc nilA),(100001,F34)] =
   some (.tup [],[(100000,.fix .sc (.sl 20000 [] 0 (cons nd em l m mark).length)),(100001,F34)],[.grow sB (dgL (cons nd em l m mark))]):=by
 intro c
 induction c with
 | zero=>intro n l f m mark hc h ha hl h1 hm hx;omega
 | succ c ih =>
   intro n l f m mark hc h ha hl h1 hm hx
   obtain⟨d,rfl⟩:∃d,n=d+1:=⟨n-1,by omega⟩
   have hL:=dgL_length l
   have hT:=zhx l
   have na:=dgL_noImms
   have l1:1<=LIM:=by unfold LIM;omega
   by_cases he:m=l.length
   . obtain rfl:mark=false:=by cases mark;rfl;exact absurd ⟨he,rfl⟩ hx
     subst he
     have b:=fun f'=>@root_at gl _ (c+1) d l f' sB (by omega) (by omega) ha (by omega) (Or.inr rfl)
     rw[cons_all,if_neg (by simp),wA]
     have rb:=rt_len ha
     have qb:=H.bytes_all (rt nd em l)
     simp only[dgL,List.map_cons,List.map_nil]
     simp only[dgL]at b hL hT
     generalize rt nd em l=r at *
     generalize l.length=w at *
     rw[zat (fd:=fd59) rfl]
     simp(implicitDefEqProofs:=false) (disch:=apply zq;omega) only[go_sem,simprocAttr,↓Nat.reduceEqDiff,xx,fd59,m59,↓out16_eq,H.out16_len,H.out16_all,H.out16_pl,hL,hT,zc8,b,rb,qb,H.noImms_bytesAV]
   . have h2:2<=l.length:=by omega
     have hk:=zcu h2
     have hp:=zb6 l.length
     have k:=@zh6 gl d (by omega) l.length h2 (by omega)
     have tl:(l.take (spl l.length)).length=spl l.length:=by rw[wC];omega
     have td:(l.drop (spl l.length)).length=l.length-spl l.length:=by rw[wD]
     by_cases hlo:m<=spl l.length
     . have b:=fun f'=>@root_at gl _ c d (l.drop (spl l.length)) f' sB (by omega) (by omega) (ha.drop _) (by omega) (Or.inr rfl)
       rw[zma h2 he hlo,zl8,wB,wA]
       have rb:=rt_len (ha.drop (spl l.length))
       have qb:=H.bytes_all (rt nd em (l.drop (spl l.length)))
       by_cases h3:m=spl l.length/\mark=true
       . obtain⟨h4,rfl⟩:=h3
         have a:=fun f'=>@zsl gl d (by omega) (l.take (spl l.length)) f'
         have ec:cons nd em (l.take (spl l.length)) m true=[]:=by
          have:=@cons_all Dg nd em (l.take (spl l.length)) true
          rw[tl,if_pos rfl]at this
          rw[h4];exact this
         rw[ec]
         rw[tl]at a
         simp only[<-zdt]at a
         simp only[<-zef]at b
         generalize rt nd em (l.drop (spl l.length))=r at *
         generalize spl l.length=z at *
         subst h4
         generalize l.length=w at *
         rw[zat (fd:=fd59) rfl]
         simp(implicitDefEqProofs:=false) (disch:=apply zq;omega) only[go_sem,simprocAttr,↓Nat.reduceEqDiff,xx,fd59,m59,↓out16_eq,H.out16_len,H.out16_all,H.out16_pl,hL,hT,zc8,k,a,b,rb,qb,na,H.noImms_bytesAV,dgL_nil]
       . have a:=fun f'=>@ih d (l.take (spl l.length)) f' m mark (by omega) (by omega) (ha.take _) (by omega) h1 (by omega) (by rw[tl];exact h3)
         have hN:=cons_le _ (l.take (spl l.length)) m mark (wF _) h1 (by omega)
         have hM:=dgL_length (cons nd em (l.take (spl l.length)) m mark)
         simp only[<-zdt]at a
         simp only[<-zef]at b
         generalize rt nd em (l.drop (spl l.length))=r at *
         generalize cons nd em (l.take (spl l.length)) m mark=p at *
         rw[tl]at hN
         have hlim:p.length+1<=LIM:=by unfold LIM;omega
         generalize spl l.length=z at *
         generalize l.length=w at *
         rw[zat (fd:=fd59) rfl]
         simp(implicitDefEqProofs:=false) (disch:=apply zq;omega) only[go_sem,simprocAttr,↓Nat.reduceEqDiff,xx,fd59,m59,↓out16_eq,H.out16_len,H.out16_all,H.out16_pl,hL,hT,hM,zc8,k,a,b,rb,qb,na,H.noImms_bytesAV]
     . have b:=fun f'=>@root_at gl _ c d (l.take (spl l.length)) f' sB (by omega) (by omega) (ha.take _) (by omega) (Or.inr rfl)
       rw[zmb h2 he hlo,zl8,wB,wA]
       have rb:=rt_len (ha.take (spl l.length))
       have qb:=H.bytes_all (rt nd em (l.take (spl l.length)))
       have ei:(m:Int)-(spl l.length:Int)=((m-spl l.length:Nat):Int):=by omega
       have a:=fun f'=>@ih d (l.drop (spl l.length)) f' (m-spl l.length) false (by omega) (by omega) (ha.drop _) (by omega) (by omega) (by omega) (by simp)
       have hN:=cons_le _ (l.drop (spl l.length)) (m-spl l.length) false (wF _) (by omega) (by omega)
       have hM:=dgL_length (cons nd em (l.drop (spl l.length)) (m-spl l.length) false)
       simp only[<-zef]at a
       simp only[<-zdt]at b
       generalize rt nd em (l.take (spl l.length))=r at *
       generalize cons nd em (l.drop (spl l.length)) (m-spl l.length) false=p at *
       rw[td]at hN
       have hlim:p.length+1<=LIM:=by unfold LIM;omega
       generalize spl l.length=z at *
       generalize l.length=w at *
       rw[zat (fd:=fd59) rfl]
       simp(implicitDefEqProofs:=false) (disch:=apply zq;omega) only[go_sem,simprocAttr,↓Nat.reduceEqDiff,xx,fd59,m59,↓out16_eq,H.out16_len,H.out16_all,H.out16_pl,hL,hT,hM,zc8,k,a,b,rb,qb,na,H.noImms_bytesAV,ei]
theorem consistency_ok (h:1000<=n){l:List Dg}{f:Bool}{sh:Sh}{m:Nat}(ha:All16 l)(hl:l.length<=900)(h1:1<=m)(hm:m<l.length)(hs:Sd l sh sB) :
  call gl tab n 35 [.lst f sh (dgL l),i64 m] []=some (.tup [.sl 20000 [] 0 (cons nd em l m true).length,i64 0],[],[.grow sB (dgL (cons nd em l m true))]):=by
 obtain⟨d,rfl⟩:=wE h
 have hL:=dgL_length l
 obtain rfl:sh=sB:=by rcases hs with hs|hs;subst hs;simp at hm;exact hs
 have a:=@z8f gl _ l.length (d+999) l f m true (wF _) (by omega) ha (by omega) h1 (by omega) (by omega)
 have hN:=@qab l m true (by omega) h1 (by omega)
 have hM:=dgL_length (cons nd em l m true)
 have hT:=zhx (cons nd em l m true)
 have na:=dgL_noImms (cons nd em l m true)
 generalize cons nd em l m true=p at *
 generalize l.length=w at *
 rw[zae (fd:=fd35) rfl]
 simp(disch:=apply zq;omega) only[go_sem,simprocAttr,↓Nat.reduceEqDiff,xx,fd35,m35,hL,hM,hT,a,na,zet]
end
theorem consistency_end (h:1<=n){l:List Dg}{f:Bool}{sh:Sh}{m:Nat}(hl:l.length<=1000000)(hm:m=0\/m=l.length) :
  call gl tab n 35 [.lst f sh (dgL l),i64 m] []=some (.tup [.sl 20000 [] 0 0,i64 0],[],[.grow sB []]):=by
 obtain⟨d,rfl⟩:=wE h
 have hL:=dgL_length l
 rw[zae (fd:=fd35) rfl]
 rcases hm with rfl|rfl
 . simp(disch:=apply zq;omega) only[go_sem,simprocAttr,↓Nat.reduceEqDiff,xx,fd35,m35,hL]
 . by_cases h0:l.length=0
   . rw[h0];simp(disch:=apply zq;omega) only[go_sem,simprocAttr,↓Nat.reduceEqDiff,xx,fd35,m35,hL,h0]
   . simp(disch:=apply zq;omega) only[go_sem,simprocAttr,↓Nat.reduceEqDiff,xx,fd35,m35,hL]
end Go.Proofs.S94.M
namespace Go.Proofs.S94.M
open Go Go.Ev Go.Proofs Go.Mk
open Go.Proofs.S94.H (GlK GlR)
variable {gl :Gl} {n:Nat}
section
variable [Nonempty (GlR gl)]
end
end Go.Proofs.S94.M
namespace Go.Proofs.S94.L
open Go Go.Ev Go.Proofs Go.Proofs.S94
open Go.Proofs.S94.H (strsAV zaa zaj Sml GlK GlR zam zbh nsI zak)
open Go.Proofs.S94.M (lf zcx Dg dgL dgL_length All16 Sd sB pkAV grw P8 R8 ansL nilA)
variable {gl :Gl} {n:Nat}
def zR0 :Re:={zRe 0 with site:=0}
section
variable {s z:Int} {f f2 f3:Bool} {sh sh2 sh3:Sh} {l:List Rv} {t:List Dg} {hs:List Hd}
section
variable (h3 :hs=[]\/sh3=sHd) (hhl:hs.length<=60000) (hh:∀y∈hs,HdOk y) {h:Hd} (o:HdOk h)
include h3 hhl hh o
end
end
end Go.Proofs.S94.L
namespace Go.Proofs.S94.L
open Go Go.Ev Go.Proofs Go.Proofs.S94
open Go.Proofs.S94.H (strsAV zaa zaj Sml GlK GlR zam zbh nsI zak zint zaw encB zaz zaf)
variable {gl :Gl} {n:Nat}
end Go.Proofs.S94.L
namespace Go.Proofs.S94.L
open Go Go.Ev Go.Proofs Go.Proofs.S94
open Go.Proofs.S94.H (strsAV zaa zaj Sml GlK GlR zam zbh nsI zak)
open Go.Proofs.S94.M (lf zcx Dg dgL dgL_length All16 Sd sB pkAV grw P8 R8 ansL nilA)
variable {gl :Gl} {n:Nat}
section
variable {s z:Int} {f f2 f3:Bool} {sh sh2 sh3:Sh} {l:List Rv} {t:List Dg} {hs:List Hd}
section
variable (h3 :hs=[]\/sh3=sHd) (hhl:hs.length<=60000) (hh:∀y∈hs,HdOk y) {a b:Hd} (oa:HdOk a) (ob:HdOk b)
include h3 hhl hh oa ob
variable (h2 :Sr l sh) (hl:l.length<=800) (ok:∀x∈l,RvOk gl x) {k m:Nat} (hk:b.size=k) (hm:a.size=m) (hkl:k<=l.length) (hmk:m<=k)
include h2 hl ok hk hm hkl hmk
def pC (l:List Rv)(k m:Nat):List Dg:=if m=0\/m=k then []else Mk.cons M.nd M.em ((fs l).take k) m true
theorem cons_ok [Nonempty (GlK gl)](hn:1001<=n)(ha:a∈hs)(hb:b∈hs) :
  call gl tab n 12 [ldAV s f sh l z f2 sh2 t f3 sh3 (hds hs),hdAV a,hdAV b] []=some (.tup [.lst false sB (dgL (pC l k m)),i64 0],[],[]):=by
 obtain⟨d,rfl⟩:=wE hn
 have c1:=@zti gl (d+1000) (by omega) f3 sh3 hs a oa h3 hhl hh
 have c2:=@zti gl (d+1000) (by omega) f3 sh3 hs b ob h3 hhl hh
 have c3:=@zih gl (d+1000) (by omega) s z f f2 f3 sh sh2 sh3 l t (hds hs) h2 (by omega) ok k hkl
 have lk:(fs (l.take k)).length=k:=by rw[zas,wC];omega
 have al:All16 (fs (l.take k)):=zgc fun x hx=>ok x (List.mem_of_mem_take hx)
 have ft:fs (l.take k)=(fs l).take k:=by simp[fs,List.map_take]
 rw[<-hk]at c3
 have hL:=zbl l
 have hLh:=zb2 hs
 have u1:=b16 oa.r
 have u2:=b16 oa.s
 have w1:=H.bytes_all a.root
 have w2:=H.bytes_all a.sgn
 have u3:=b16 ob.r
 have u4:=b16 ob.s
 have w3:=H.bytes_all b.root
 have w4:=H.bytes_all b.sgn
 rw[decide_eq_true ha]at c1
 rw[decide_eq_true hb]at c2
 rw[zae (fd:=fd12) rfl]
 by_cases e:m=0\/m=k
 . have c4:=@M.consistency_end gl (d+1000) (by omega) (fs (l.take k)) false sB m (by omega) (by omega)
   rw[<-hm]at c4
   rw[pC,if_pos e]
   generalize fs (l.take k)=y at *
   simp(maxSteps:=1000000) (disch:=apply zq;omega) only[go_sem,simprocAttr,↓Nat.reduceEqDiff,xx,fd12,m12,↓out16_eq,c1,c2,c3,c4,u1,u2,w1,w2,u3,u4,w3,w4,H.oo,M.dgL_nil]
 . have c4:=M.consistency_ok (gl:=gl) (n:=d+1000) (l:=fs (l.take k)) (f:=false) (sh:=sB) (m:=m) (by omega) al (by omega) (by omega) (by omega) (.inr rfl)
   rw[<-hm]at c4
   rw[pC,if_neg e,<-ft]
   generalize Mk.cons M.nd M.em (fs (l.take k)) m true=p at *
   have lp:=dgL_length p
   have tp:List.take p.length (dgL p)=dgL p:=List.take_of_length_le (by rw[lp];exact wF _)
   generalize fs (l.take k)=y at *
   simp(maxSteps:=1000000) (disch:=apply zq;omega) only[go_sem,simprocAttr,↓Nat.reduceEqDiff,xx,fd12,m12,↓out16_eq,c1,c2,c3,c4,u1,u2,w1,w2,u3,u4,w3,w4,lp,tp,H.oo]
end
end
end Go.Proofs.S94.L
