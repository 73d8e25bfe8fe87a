/-
  Chapter 3: checking several elements, as specified. No condition.
-/
import Derived.Test.YthelhoikbegjlaaDoorW03s
set_option linter.unusedVariables false
set_option linter.unusedSimpArgs false
set_option linter.unusedSectionVars false
namespace Go.Proofs.S03
open Go Go.Ev Go.Proofs Go.Mk
open Go.Proofs.S03.H (GlK GlR)
variable {gl :Gl} {n:Nat}
theorem cnt_le :∀(c:Nat) {a N:Nat} {ps:List Nat},N<=c->1<=N->(cntW a N ps).1+(cntW a N ps).2<=N
 | 0,a,N,ps,hc,h1=>by omega
 | c+1,a,N,ps,hc,h1=>by
   by_cases hp:ps=[]
   . subst hp;rw[cntW_nil];simpa using h1
   . by_cases h2:2<=N
     . have hk:=spl_lt h2
       have hpp:=spl_pos N
       have u1:=@cnt_le c a (spl N) (lows ps (a+spl N)) (by omega) (by omega)
       have u2:=@cnt_le c (a+spl N) (N-spl N) (highs ps (a+spl N)) (by omega) (by omega)
       rw[cntW_two hp h2];simp only;omega
     . rw[cntW_one hp (by omega)];simpa using h1
abbrev wA (D:Dg)(i j:Nat)(b:Bool):AV:=.agg [bAV D,i64 i,i64 j,.bool b]
def WkR (a N:Nat)(qs:List Nat)(fs p:List Dg)(r:AV):Prop :=
 ((cntW a N qs).2<=p.length->r=wA (wk a N qs fs p).1 (cntW a N qs).1 (cntW a N qs).2 true) /\
 (p.length<(cntW a N qs).2->∃D i j,r=wA D i j false/\D.length=16/\i<=N/\j<=N)
section
variable [Nonempty (GlR gl)]
theorem walk_nil (h:2<=n){a N:Nat}{ps:List Nat}{fs p:List Dg}{g f f2:Bool}{shp sh sh2:Sh}(ha:All16 p)(hs:Sd p sh sB)(haN:a+N<=1152921504606846976)(hpl:ps.length<=1000000)(hsp:Sd ps shp .sc)(hw:wit ps a (a+N)=[]) :
  ∃r,call gl tab n 50 [i64 a,i64 N,.lst g shp (pN ps),.lst f2 sh2 (dgL fs),.lst f sh (dgL p)] []=some (r,[],[])/\WkR a N [] fs p r:=by
 obtain⟨d,rfl⟩:=Nat.exists_eq_add_of_le' h
 have ea:(a:Int)+(N:Int)=((a+N:Nat):Int):=by omega
 have cw:=@within_at gl (d+1) (by omega) g shp ps a (a+N) hpl hsp
 rw[hw,pN_nil]at cw
 have hL:=dgL_length p
 by_cases hp:p=[]
 . subst hp
   refine⟨wA z16 0 0 false,?_,?_,?_⟩
   . show _=some (AV.agg [AV.agg (bytesAV z16),_,_,_],_,_)
     rw[<-z16_av]
     clear hw
     generalize a+N=aN at *
     rw[call_go (fd:=fd50) rfl]
     simp(disch:=((fail_if_success (intro _));omega)) only[go_sem,simprocAttr,↓reduceIte,↓Nat.reduceEqDiff,xx,fd50,m50,↓out16_eq,H.out16_len,H.out16_all,H.out16_pl,ea,cw,dgL_nil]
   . rw[cntW_nil];intro h;simp at h
   . intro _;exact⟨z16,0,0,rfl,rfl,Nat.zero_le _,Nat.zero_le _⟩
 . obtain rfl:sh=sB:=by rcases hs with hs|hs;exact absurd hs hp;exact hs
   have hp0:=List.length_pos_iff.2 hp
   have hA:=dgL_at (l:=p) (i:=0) (by omega)
   have q1:=ha.at (i:=0) (by omega)
   rw[headD_at hp]at hA q1
   have q2:=H.bytes_all (p.headD z16)
   have q3:=H.noImms_bytesAV (p.headD z16)
   refine⟨wA (p.headD z16) 0 1 true,?_,?_,?_⟩
   . generalize p.headD z16=r at *
     clear hw
     generalize a+N=aN at *
     rw[call_go (fd:=fd50) rfl]
     simp(implicitDefEqProofs:=false) (disch:=((fail_if_success (intro _));omega)) only[go_sem,simprocAttr,↓reduceIte,↓Nat.reduceEqDiff,xx,fd50,m50,↓out16_eq,H.out16_len,H.out16_all,H.out16_pl,ea,cw,hL,hA,q1,q2,q3,sB_size,H.noImms_bytesAV]
     rfl
   . intro _;rw[wk,wlk_nil,cntW_nil]
   . rw[cntW_nil];intro h;simp at h;exact absurd h hp
theorem walk_one (h:2<=n){a:Nat}{ps qs:List Nat}{fs p:List Dg}{g f f2:Bool}{shp sh sh2:Sh}(ha:All16 fs)(hs:Sd fs sh2 sB)(haN:a+1<=1152921504606846976)(hpl:ps.length<=1000000)(hsp:Sd ps shp .sc)(hw:wit ps a (a+1)=qs)(hq:qs≠[])(hf:1<=fs.length)(hfl:fs.length<=1000000) :
  ∃r,call gl tab n 50 [i64 a,i64 1,.lst g shp (pN ps),.lst f2 sh2 (dgL fs),.lst f sh (dgL p)] []=some (r,[],[])/\WkR a 1 qs fs p r:=by
 obtain⟨d,rfl⟩:=Nat.exists_eq_add_of_le' h
 have cw:=@within_at gl (d+1) (by omega) g shp ps a (a+1) hpl hsp
 rw[hw]at cw
 have ea:(((a+1:Nat)):Int)=(a:Int)+1:=by omega
 rw[ea]at cw
 have hL:=dgL_length fs
 have hP:=pN_length qs
 have hql:=wit_le ps a (a+1)
 rw[hw]at hql
 have hq0:=List.length_pos_iff.2 hq
 have nn:=pN_noImms qs
 have hp:fs≠[]:=List.length_pos_iff.1 hf
 obtain rfl:sh2=sB:=by rcases hs with hs|hs;exact absurd hs hp;exact hs
 have hA:=dgL_at (l:=fs) (i:=0) (by omega)
 have q1:=ha.at (i:=0) (by omega)
 rw[headD_at hp]at hA q1
 have q2:=H.bytes_all (fs.headD z16)
 have q3:=H.noImms_bytesAV (fs.headD z16)
 refine⟨wA (fs.headD z16) 1 0 true,?_,?_,?_⟩
 . generalize fs.headD z16=r at *
   clear hw
   rw[call_go (fd:=fd50) rfl]
   simp(implicitDefEqProofs:=false) (disch:=((fail_if_success (intro _));omega)) only[go_sem,simprocAttr,↓reduceIte,↓Nat.reduceEqDiff,xx,fd50,m50,↓out16_eq,H.out16_len,H.out16_all,H.out16_pl,cw,hL,hA,hP,nn,q1,q2,q3,sB_size,H.noImms_bytesAV]
   rfl
 . intro _;rw[wk,wlk_one hq (by omega),cntW_one hq (by omega)]
 . rw[cntW_one hq (by omega)];intro h;simp at h
theorem wkr_len {a N:Nat}{qs:List Nat}{fs p:List Dg}{r:AV}(hf:All16 fs)(hp:All16 p)(hN:1<=N)(h:WkR a N qs fs p r) :
  ∃D i j b,r=wA D i j b/\D.length=16/\i<=N/\j<=N/\(b=true->(cntW a N qs).2<=p.length/\D=(wk a N qs fs p).1/\i=(cntW a N qs).1/\j=(cntW a N qs).2)/\(b=false->p.length<(cntW a N qs).2):=by
 have hc:=@cnt_le N a N qs (Nat.le_refl _) hN
 by_cases he:(cntW a N qs).2<=p.length
 . exact⟨_,_,_,true,h.1 he,wk_len hf hp,by omega,by omega,fun _=>⟨he,rfl,rfl,rfl⟩,(fun h=>(by cases h))⟩
 . obtain⟨D,i,j,e,h1,h2,h3⟩:=h.2 (by omega)
   exact⟨D,i,j,false,e,h1,h2,h3,(fun h=>(by cases h)),fun _=>by omega⟩
theorem walk_at :∀(c:Nat) {n:Nat} {a N M:Nat} {ps:List Nat} {fs p:List Dg} {g f f2:Bool} {shp sh sh2:Sh},N<=2^c->1<=N->c<=58->9+c<=n->All16 p->p.length<=1000000->Sd p sh sB->All16 fs->fs.length<=1000000->Sd fs sh2 sB->ps.length<=1000000->Sd ps shp .sc->Asc ps 0 M->a+N<=1152921504606846976->(wit ps a (a+N)).length<=fs.length ->
  ∃r,call gl tab n 50 [i64 a,i64 N,.lst g shp (pN ps),.lst f2 sh2 (dgL fs),.lst f sh (dgL p)] []=some (r,[],[])/\WkR a N (wit ps a (a+N)) fs p r:=by
 intro c
 induction c with
 | zero =>
   intro n a N M ps fs p g f f2 shp sh sh2 hN h1 hc h ha hl hs ha2 hl2 hs2 hpl hsp hA haN hlf
   obtain rfl:N=1:=by have:(2:Nat)^0=1:=rfl;omega
   by_cases hq:wit ps a (a+1)=[]
   . rw[hq];exact walk_nil (by omega) ha hs haN hpl hsp hq
   . have:=List.length_pos_iff.2 hq
     exact walk_one (by omega) ha2 hs2 haN hpl hsp rfl hq (by omega) hl2
 | succ c ih =>
   intro n a N M ps fs p g f f2 shp sh sh2 hN h1 hc h ha hl hs ha2 hl2 hs2 hpl hsp hA haN hlf
   by_cases hq:wit ps a (a+N)=[]
   . rw[hq];exact walk_nil (by omega) ha hs haN hpl hsp hq
   by_cases h2:2<=N
   . obtain⟨d,rfl⟩:∃d,n=d+1:=⟨n-1,by omega⟩
     have hk:=spl_lt h2
     have hpp:=spl_pos N
     have hle:=spl_le h2 hN
     have hge:=@spl_ge N
     have k:=@rsplit_at gl d (by omega) N h2 (by omega)
     have cw:=@within_at gl d (by omega) g shp ps a (a+N) hpl hsp
     have hW:=wit_asc (a:=a) (k:=N) hA
     have hWl:=wit_le ps a (a+N)
     have wl:=wit_lows (ps:=ps) (a:=a) (k:=N) (z:=spl N) (by omega)
     have wh:=wit_highs (ps:=ps) (a:=a) (k:=N) (z:=spl N) (by omega)
     generalize wit ps a (a+N)=qs at *
     have hP:=pN_length qs
     have hq0:=List.length_pos_iff.2 hq
     have nn:=pN_noImms qs
     have sp:=split_ps hW.so (a+spl N)
     have spl':qs.length=(lows qs (a+spl N)).length+(highs qs (a+spl N)).length:=by rw[<-List.length_append,<-sp]
     have ck:=cntW_ok (spl N) (spl N) a (lows qs (a+spl N)) (Nat.le_refl _) hpp (hW.lows (by omega))
     obtain⟨ra,ca,wa⟩:=@ih d a (spl N) _ qs fs p false f f2 .sc sh sh2 hle (by omega) (by omega) (by omega) ha hl hs ha2 hl2 hs2 (by omega) (Or.inr rfl) (Asc.zero hW) (by omega) (by rw[wl];omega)
     rw[wl]at wa
     have ea:(a:Int)+(N:Int)=((a+N:Nat):Int):=by omega
     have ek:(a:Int)+(spl N:Int)=((a+spl N:Nat):Int):=by omega
     have eN:(N:Int)-(spl N:Int)=((N-spl N:Nat):Int):=by omega
     obtain⟨D1,i1,j1,b1,rfl,z1,z2,z3,z4,z5⟩:=wkr_len ha2 ha (by omega) wa
     have y1:=H.bytes_all D1
     have y2:=H.noImms_bytesAV D1
     have hF:=dgL_length fs
     have hF2:=dgL_all fs
     have hG:=dgL_length p
     have hG2:=dgL_all p
     cases b1 with
     | false =>
       have hz:=z5 rfl
       refine⟨wA z16 0 0 false,?_,?_,?_⟩
       . show _=some (AV.agg [AV.agg (bytesAV z16),_,_,_],_,_)
         rw[<-z16_av]
         clear sp wa hW wl wh z4 z5 hz ck spl'
         generalize a+spl N=a2 at *
         generalize a+N=aN at *
         generalize spl N=z at *
         rw[call_go (fd:=fd50) rfl]
         simp(disch:=((fail_if_success (intro _));omega)) only[go_sem,simprocAttr,↓reduceIte,↓Nat.reduceEqDiff,xx,fd50,m50,↓out16_eq,H.out16_len,H.out16_all,H.out16_pl,ea,ek,eN,cw,hP,nn,k,ca,y1,y2,z1]
       . rw[cntW_two hq h2];simp only;intro h;omega
       . intro _;exact⟨z16,0,0,rfl,rfl,Nat.zero_le _,Nat.zero_le _⟩
     | true =>
       obtain⟨x1,x2,x3,x4⟩:=z4 rfl
       subst x2 x3 x4
       obtain⟨rb,cb,wb⟩:=@ih d (a+spl N) (N-spl N) _ qs (fs.drop (cntW a (spl N) (lows qs (a+spl N))).1) (p.drop (cntW a (spl N) (lows qs (a+spl N))).2) false f f2 .sc sh sh2 (by omega) (by omega) (by omega) (by omega) (ha.drop _) (by rw[List.length_drop];omega) (hs.drop _) (ha2.drop _) (by rw[List.length_drop];omega) (hs2.drop _) (by omega) (Or.inr rfl) (Asc.zero hW) (by omega) (by rw[wh,List.length_drop];omega)
       rw[wh]at wb
       obtain⟨D2,i2,j2,b2,rfl,v1,v2,v3,v4,v5⟩:=wkr_len (ha2.drop _) (ha.drop _) (by omega) wb
       have e:=@rnode_at gl d _ (by omega) _ _ z1 v1
       have e3:=nd_len (wk a (spl N) (lows qs (a+spl N)) fs p).1 D2
       have e4:=H.bytes_all (nd (wk a (spl N) (lows qs (a+spl N)) fs p).1 D2)
       have e5:=H.noImms_bytesAV (nd (wk a (spl N) (lows qs (a+spl N)) fs p).1 D2)
       have y3:=H.bytes_all D2
       have y4:=H.noImms_bytesAV D2
       have f1:=List.length_pos_iff.2 (show fs≠[] by intro h0;subst h0;simp at hlf;exact hq hlf)
       obtain rfl:sh2=sB:=by rcases hs2 with h0|h0;subst h0;simp at f1;exact h0
       have ei:((cntW a (spl N) (lows qs (a+spl N))).1:Int)+(i2:Int)=(((cntW a (spl N) (lows qs (a+spl N))).1+i2:Nat):Int):=by omega
       have ej:((cntW a (spl N) (lows qs (a+spl N))).2:Int)+(j2:Int)=(((cntW a (spl N) (lows qs (a+spl N))).2+j2:Nat):Int):=by omega
       refine⟨wA (nd (wk a (spl N) (lows qs (a+spl N)) fs p).1 D2) ((cntW a (spl N) (lows qs (a+spl N))).1+i2) ((cntW a (spl N) (lows qs (a+spl N))).2+j2) b2,?_,?_,?_⟩
       . have ck2:(cntW a (spl N) (lows qs (a+spl N))).1<=fs.length:=by omega
         clear sp wa wb hW wl wh z4 z5 v4 v5 ck spl' ih
         simp only[<-dgL_drop]at cb
         generalize nd (wk a (spl N) (lows qs (a+spl N)) fs p).1 D2=q at *
         generalize (wk a (spl N) (lows qs (a+spl N)) fs p).1=D1 at *
         generalize (cntW a (spl N) (lows qs (a+spl N)))=c1 at *
         obtain⟨ci,cj⟩:=c1
         simp only at *
         generalize a+spl N=a2 at *
         generalize a+N=aN at *
         generalize N-spl N=zN at *
         generalize spl N=z at *
         generalize ci+i2=u1 at *
         generalize cj+j2=u2 at *
         rw[call_go (fd:=fd50) rfl]
         rcases hs with rfl|rfl
         . obtain rfl:cj=0:=by simpa using x1
           simp only[dgL_nil,List.drop_nil]at *
           have ej':(0:Int)+(j2:Int)=(u2:Int):=by omega
           simp(implicitDefEqProofs:=false) (disch:=((fail_if_success (intro _));omega)) only[go_sem,simprocAttr,↓reduceIte,↓Nat.reduceEqDiff,xx,fd50,m50,↓out16_eq,H.out16_len,H.out16_all,H.out16_pl,ea,ek,eN,ei,ej',cw,hP,nn,k,ca,cb,y1,y2,y3,y4,z1,v1,e,e3,e4,e5,hF,hF2,hG,hG2,sB_size]
         . simp(implicitDefEqProofs:=false) (disch:=((fail_if_success (intro _));omega)) only[go_sem,simprocAttr,↓reduceIte,↓Nat.reduceEqDiff,xx,fd50,m50,↓out16_eq,H.out16_len,H.out16_all,H.out16_pl,ea,ek,eN,ei,ej,cw,hP,nn,k,ca,cb,y1,y2,y3,y4,z1,v1,e,e3,e4,e5,hF,hF2,hG,hG2,sB_size]
       . obtain⟨w1,w2⟩:=@wk_drop _ a (spl N) (lows qs (a+spl N)) fs p (Nat.le_refl _)
         have ew:(wk a N qs fs p).1=nd (wk a (spl N) (lows qs (a+spl N)) fs p).1 (wk (a+spl N) (N-spl N) (highs qs (a+spl N)) (fs.drop (cntW a (spl N) (lows qs (a+spl N))).1) (p.drop (cntW a (spl N) (lows qs (a+spl N))).2)).1:=by
          rw[show wk a N qs fs p=wlk nd z16 a N qs fs p from rfl,wlk_two hq h2,<-w1,<-w2]
         rw[cntW_two hq h2,ew]
         simp only
         intro hle'
         have hb:b2=true:=by
          cases b2 with
          | true=>rfl
          | false=>have:=v5 rfl;rw[List.length_drop]at this;omega
         subst hb
         obtain⟨_,t2,t3,t4⟩:=v4 rfl
         subst t2 t3 t4
         rfl
       . rw[cntW_two hq h2]
         simp only
         intro hlt
         have hb:b2=false:=by
          cases b2 with
          | false=>rfl
          | true=>obtain⟨t1,_,_,t4⟩:=v4 rfl;rw[List.length_drop]at t1;omega
         subst hb
         exact⟨_,_,_,rfl,nd_len _ _,by omega,by omega⟩
   . obtain rfl:N=1:=by omega
     have:=List.length_pos_iff.2 hq
     exact walk_one (by omega) ha2 hs2 haN hpl hsp rfl hq (by omega) hl2
end
end Go.Proofs.S03
namespace Go.Proofs.S03
open Go Go.Ev Go.Proofs Go.Mk
open Go.Proofs.S03.H (GlK GlR)
variable {gl :Gl} {n:Nat}
theorem rcheckM_bad (h:2<=n){root:Dg}{N:Int}{g f f2:Bool}{shp sh sh2:Sh}{pl:List Int}{fs p:List Dg}(hb:N<0\/N>1099511627776\/¬AscB pl N\/fs.length≠pl.length)(hr:root.length=16)(hpl:pl.length<=1000000)(hfl:fs.length<=1000000)(hsp:Sd pl shp .sc) :
  call gl tab n 24 [i64 N,.lst g shp (pI pl),.lst f2 sh2 (dgL fs),.lst f sh (dgL p),bAV root] []=some (.bool false,[],[]):=by
 obtain⟨d,rfl⟩:=Nat.exists_eq_add_of_le' h
 have r1:=b16t hr
 have r2:=H.bytes_all root
 have hF:=dgL_length fs
 have hP:=pI_length pl
 obtain⟨b,hbb,c⟩:=@rasc_at gl (d+1) (by omega) g shp pl N hpl hsp
 rw[call_go (fd:=fd24) rfl]
 by_cases h1:N<0
 . simp(disch:=((fail_if_success (intro _));omega)) only[go_sem,simprocAttr,↓reduceIte,↓Nat.reduceEqDiff,xx,fd24,m24,↓out16_eq,H.out16_len,H.out16_all,H.out16_pl,hr,r1,r2]
 by_cases h2:N>1099511627776
 . simp(disch:=((fail_if_success (intro _));omega)) only[go_sem,simprocAttr,↓reduceIte,↓Nat.reduceEqDiff,xx,fd24,m24,↓out16_eq,H.out16_len,H.out16_all,H.out16_pl,hr,r1,r2]
 by_cases h3:AscB pl N
 . obtain rfl:b=true:=hbb.2 h3
   have h4:fs.length≠pl.length:=by
    rcases hb with hb|hb|hb|hb
    . exact absurd hb h1
    . exact absurd hb h2
    . exact absurd h3 hb
    . exact hb
   have h5:(fs.length:Int)≠(pl.length:Int):=by omega
   simp(disch:=((fail_if_success (intro _));omega)) only[go_sem,simprocAttr,↓reduceIte,↓Nat.reduceEqDiff,xx,fd24,m24,↓out16_eq,H.out16_len,H.out16_all,H.out16_pl,hr,r1,r2,c,hF,hP]
 . obtain rfl:b=false:=by cases b;rfl;exact absurd (hbb.1 rfl) h3
   simp(disch:=((fail_if_success (intro _));omega)) only[go_sem,simprocAttr,↓reduceIte,↓Nat.reduceEqDiff,xx,fd24,m24,↓out16_eq,H.out16_len,H.out16_all,H.out16_pl,hr,r1,r2,c]
section
variable [Nonempty (GlR gl)]
theorem rcheckM_zero (h:60<=n){root:Dg}{g f f2:Bool}{shp sh sh2:Sh}{ps:List Nat}{fs p:List Dg}(hr:root.length=16)(hl:p.length<=1000000)(hlf:fs.length=ps.length)(hpl:ps.length<=1000000)(hsp:Sd ps shp .sc)(hA:Asc ps 0 0) :
  call gl tab n 24 [i64 0,.lst g shp (pN ps),.lst f2 sh2 (dgL fs),.lst f sh (dgL p),bAV root] []=some (.bool (decide (p.length=0/\root=em)),[],[]):=by
 obtain⟨d,rfl⟩:=Nat.exists_eq_add_of_le' h
 have r1:=b16t hr
 have r2:=H.bytes_all root
 have hF:=dgL_length fs
 have hG:=dgL_length p
 have hP:=pN_length ps
 have hsT:Sd (toI ps) shp .sc:=by
  rcases hsp with rfl|hs'
  . exact Or.inl rfl
  . exact Or.inr hs'
 obtain⟨b,hbb,c⟩:=@rasc_at gl (d+59) (by omega) g shp (toI ps) ((0:Nat):Int) (by rw[toI_length];exact hpl) hsT
 obtain rfl:b=true:=hbb.2 (toI_asc hA)
 rw[<-pN]at c
 simp only[show((0:Nat):Int)=0 from rfl]at c
 have e:=@rempty_at gl (d+59) _ (by omega)
 have e1:=em_len
 have e2:=H.bytes_all em
 have c2:=eqB hr e1
 have hD:decide (p.length=0/\root=em)=(decide (p.length=0)&&decide (root=em)):=by rw[Bool.eq_iff_iff];simp
 rw[hD]
 generalize hb:decide (root=em)=b at *
 generalize em=q at *
 clear hA
 rw[call_go (fd:=fd24) rfl]
 by_cases h0:p.length=0
 . simp(disch:=((fail_if_success (intro _));omega)) only[go_sem,simprocAttr,↓reduceIte,↓Nat.reduceEqDiff,xx,fd24,m24,↓out16_eq,H.out16_len,H.out16_all,H.out16_pl,hr,r1,r2,c,hF,hG,hP,hlf,e,e1,e2,c2,h0]
 . simp(disch:=((fail_if_success (intro _));omega)) only[go_sem,simprocAttr,↓reduceIte,↓Nat.reduceEqDiff,xx,fd24,m24,↓out16_eq,H.out16_len,H.out16_all,H.out16_pl,hr,r1,r2,c,hF,hG,hP,hlf,e,e1,e2,c2,h0]
theorem rcheckM_ok (h:60<=n){root:Dg}{N:Nat}{g f f2:Bool}{shp sh sh2:Sh}{ps:List Nat}{fs p:List Dg}(h1:1<=N)(hN:N<=1099511627776)(hr:root.length=16)(ha:All16 p)(hl:p.length<=1000000)(hs:Sd p sh sB)(ha2:All16 fs)(hlf:fs.length=ps.length)(hs2:Sd fs sh2 sB)(hpl:ps.length<=1000000)(hsp:Sd ps shp .sc)(hA:Asc ps 0 N) :
  call gl tab n 24 [i64 N,.lst g shp (pN ps),.lst f2 sh2 (dgL fs),.lst f sh (dgL p),bAV root] []=some (.bool (decide (p.length=(cntW 0 N ps).2/\(wk 0 N ps fs p).1=root)),[],[]):=by
 obtain⟨d,rfl⟩:=Nat.exists_eq_add_of_le' h
 have r1:=b16t hr
 have r2:=H.bytes_all root
 have hF:=dgL_length fs
 have hG:=dgL_length p
 have hP:=pN_length ps
 have hsT:Sd (toI ps) shp .sc:=by
  rcases hsp with rfl|hs'
  . exact Or.inl rfl
  . exact Or.inr hs'
 obtain⟨b,hbb,c⟩:=@rasc_at gl (d+59) (by omega) g shp (toI ps) (N:Int) (by rw[toI_length];exact hpl) hsT
 obtain rfl:b=true:=hbb.2 (toI_asc hA)
 rw[<-pN]at c
 have h40:N<=2^40:=by have:(2:Nat)^40=1099511627776:=by decide
                      omega
 have ew:wit ps 0 (0+N)=ps:=wit_all hA
 obtain⟨r,a,wr⟩:=@walk_at gl _ 40 (d+59) 0 N N ps fs p g f f2 shp sh sh2 h40 h1 (by omega) (by omega) ha hl hs ha2 (by omega) hs2 hpl hsp hA (by omega) (by rw[ew];omega)
 rw[ew]at wr
 simp only[show((0:Nat):Int)=0 from rfl]at a
 obtain⟨D,i,j,b,rfl,z1,z2,z3,z4,z5⟩:=wkr_len ha2 ha h1 wr
 have y1:=H.bytes_all D
 have y2:=H.noImms_bytesAV D
 have hN0:¬(N:Int)=0:=by omega
 cases b with
 | false =>
   have hz:=z5 rfl
   rw[decide_eq_false (by rintro ⟨t1,_⟩;omega)]
   clear hA ew wr z4 z5 hz
   rw[call_go (fd:=fd24) rfl]
   simp(disch:=((fail_if_success (intro _));omega)) only[go_sem,simprocAttr,↓reduceIte,↓Nat.reduceEqDiff,xx,fd24,m24,↓out16_eq,H.out16_len,H.out16_all,H.out16_pl,hr,r1,r2,c,hF,hG,hP,hlf,a,y1,y2,z1]
 | true =>
   obtain⟨x1,x2,x3,x4⟩:=z4 rfl
   rw[<-x2,<-x4]
   have c2:=eqB z1 hr
   have hD:decide (p.length=j/\D=root)=(decide (j=p.length)&&decide (D=root)):=by rw[Bool.eq_iff_iff];simp only[Bool.and_eq_true,decide_eq_true_eq];constructor<;>rintro ⟨h,h'⟩<;>exact⟨h.symm,h'⟩
   rw[hD]
   generalize hb:decide (D=root)=b at *
   clear hA ew wr z4 z5 x1 x2 x3 x4 hD
   rw[call_go (fd:=fd24) rfl]
   by_cases h0:j=p.length
   . subst h0
     simp(disch:=((fail_if_success (intro _));omega)) only[go_sem,simprocAttr,↓reduceIte,↓Nat.reduceEqDiff,xx,fd24,m24,↓out16_eq,H.out16_len,H.out16_all,H.out16_pl,hr,r1,r2,c,hF,hG,hP,hlf,a,y1,y2,z1,c2]
   . have h0':¬(j:Int)=(p.length:Int):=by omega
     simp(disch:=((fail_if_success (intro _));omega)) only[go_sem,simprocAttr,↓reduceIte,↓Nat.reduceEqDiff,xx,fd24,m24,↓out16_eq,H.out16_len,H.out16_all,H.out16_pl,hr,r1,r2,c,hF,hG,hP,hlf,a,y1,y2,z1,c2,h0]
end
end Go.Proofs.S03
