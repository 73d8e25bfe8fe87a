/-
  One operation of the evaluator is one of the model's: parts of slices and arrays. No condition.
-/
import Derived.Test.YtaloneiaejhopaaDoorEvOpsB
set_option linter.all false
open List renaming getElem?_cons_zero->wB,mem_of_mem_take->wC,getElem?_eq_some_iff->wD,all_eq_true->wE,length_nil->wF,map_cons->wG,size_toArray->wH,getElem?_eq_getElem->wJ,length_eq_zero_iff->wK,mem_of_mem_drop->wL,getElem?_map->wM,length_take->wN,getElem_mem->wO,getElem_map->wP,mem_map->wQ
open Option renaming some.injEq->wR,map_eq_some_iff->wS,map_none->wT,bind_eq_some_iff->wU,map_some->wV,ite_none_right_eq_some->wW
open Prod renaming mk.injEq->wX
open Bool renaming and_eq_true->wY,false_eq_true->wZ
open Nat renaming le_refl->w0,zero_mul->w1,zero_add->w2,add_zero->w3
open Array renaming getElem?_eq_some_iff->w4,getElem?_push->w5,ext_getElem?->w6,toList_map->w7
namespace Go.Ev
open Go
variable {im :Im} {P:Program} {w:World} {H:Heap} {G:Gh} {gl:Gl} {cl:Cl} {st:St} {a:Act} {o:Oper} {m:MOp} {v:AV} {us:Hp}
theorem zpc {l:List AV}{b1 b2:Nat}:(l.take b2).drop b1=sub l b1 (b2-b1):=by
 unfold sub;rw[List.drop_take]
theorem zp9 {H:Heap}{sh:Sh}{l:List AV}{b:Option Addr}{cap cap' b1 b2 esz:Nat}{full':Bool}(h12:b1<=b2)(h2:b2<=l.length)(hcap:l.length<=cap)
  (hcap':b2<=cap') (hf:full'=true->cap'=b2) (hsz:l.isEmpty=true\/sh.size=esz) (hsh:∀x∈l,zap sh x=true/\x.plain=true/\x.wf)
  (hor:l=[]\/∃k off c e fz,b=some ⟨k,off,none⟩/\G.imm k/\H[k]? =some (.cells c e fz)/\RepC H G c off (AV.flats l)) :
  RepS H G (.slice (if cap'=b1 then b else b.map (·.add (b1*esz))) (b2-b1) (cap'-b1)) (.lst full' sh ((l.take b2).drop b1)):=by
 have hlen:((l.take b2).drop b1).length=b2-b1:=by simp;omega
 have hsub:∀x∈(l.take b2).drop b1,zap sh x=true/\x.plain=true/\x.wf:=fun x hx=>hsh x (wC (wL hx))
 have:=zli (H:=H) (G:=G) (full:=full') (sh:=sh) (l:=(l.take b2).drop b1) (b:=if cap'=b1 then b else b.map (·.add (b1*esz))) (cap:=cap'-b1) (by omega)
  (fun h=>by rw[hf h,hlen]) hsub ?_
 . rwa [hlen]at this
 . by_cases he:b1=b2
   . left;rw[List.eq_nil_iff_length_eq_zero,hlen];omega
   . right
     rcases hor with rfl|⟨k,off,c,e,fz,rfl,h5,h6,h7⟩
     . simp at h2;omega
     have hne:cap'≠b1:=by omega
     have hes:sh.size=esz:=by
      rcases hsz with h|h
      . simp only[List.isEmpty_iff]at h;subst h;simp at h2;omega
      . exact h
     obtain⟨f1,f2,f3⟩:=zed (n:=sh.size) (l:=l) (fun x hx=>zaf sh x (hsh x hx).1) b1 (b2-b1) (by omega)
     refine⟨k,off+b1*esz,c,e,fz,by simp[hne,zcp],h5,h6,?_⟩
     rw[zpc]
     have:=h7.part f1
     rwa [f2,hes]at this
theorem zd6 {t e:TypeId}{b:Option Addr}{len cap sz l h m:Nat}{lo hi mx:Option Value}(hu:P.underlying t=some (.slice e))(hsz:(P.info? e).map (·.size)=some sz)
  (hb:(Instr.sliceBounds true len cap lo hi mx).run P w= .ok (l,h,m) w) :
  (Instr.sliceAt t (.slice b len cap) lo hi mx).run P w= .ok (.slice (if m=l then b else b.map (·.add (l*sz))) (h-l) (m-l)) w:=by
 simp only[Instr.sliceAt,Instr.slice,Sem.run_bind,zaj hu,Result.andThen_ok,hb,za9 hsz,Sem.run_pure]
theorem qg2 {isS:Bool}{N len cap:Nat}{lo hi:Option Value}(h:hi.isSome=true):Instr.sliceBounds isS N cap lo hi none=Instr.sliceBounds isS len cap lo hi none:=by
 cases hi with
 | none=>cases h
 | some x=>rfl
theorem z3d {t e:TypeId}{x:Operand}{lo hi mx:Option Operand}{x':Opd}{lo2 hi2 mx2:Option Opd}{i:TypeInfo}(hg:GlOk w.heap G gl)(hst:StOk w.heap G st a.tmps)
  (ho:o.op= .slice t x lo hi mx) (hx:zag x=some x') (hlo:zbt lo=some lo2) (hhi:zbt hi=some hi2) (hmx:zbt mx=some mx2)
  (hu:P.underlying t=some (.slice e)) (hi':P.info? e=some i)
  (hs:zaa gl cl st o.dst (.slSl i.size x' lo2 hi2 mx2)=some (v,us)):Good P w G st.hp (execOp a.eval o) v us:=by
 have hvx:=zam hg hst hx
 have hsz:(P.info? e).map (·.size)=some i.size:=by simp[hi']
 simp only[zaa]at hs
 cases hv:Opd.val gl st.fr x' with
 | lst full sh l =>
   rw[hv,zae rfl]at hvx
   obtain⟨b,cap,hev,hcap,hfull,hsh,hor⟩:=zd2 hvx
   simp only[hv]at hs
   split at hs
   . rename_i hcond
     simp only[Bool.or_eq_true,beq_iff_eq]at hcond
     simp only[wU]at hs
     obtain⟨⟨b1,b2⟩,hb,hs⟩:=hs
     rcases zcd hg hst hmx with ⟨rfl,rfl⟩|⟨mo,my,rfl,rfl,hrm⟩
     . simp only[wR,wX]at hs
       obtain⟨rfl,rfl⟩:=hs
       obtain⟨h1,h2,h3⟩:=zfq (P:=P) (isS:=true) hg hst hlo hhi hb hcap
       refine⟨_,w,G,⟨rfl,rfl⟩,.inl ?_,Step.refl hst.inv,(zae rfl).2 (zp9 (cap':=cap) (esz:=i.size) h2 h3 hcap (by omega) (fun hf=> ?_) hcond hsh hor)⟩
       . simp only[execOp,ho,hev,wT,Sem.run_bind,zd6 hu hsz h1,Result.andThen_ok,Sem.run_pure]
       . simp only[wY]at hf
         rw[hfull hf.1]
         rcases zcd hg hst hhi with ⟨rfl,rfl⟩|⟨_,_,rfl,rfl,_⟩
         . rcases zcd hg hst hlo with ⟨rfl,rfl⟩|⟨x2,y2,rfl,rfl,hr2⟩
           . simp only[bnds,wT,wR,wX]at hb;exact hb.2
           . simp only[bnds,wT,wV]at hb
             cases hv2:Opd.val gl st.fr y2<;>simp only[hv2]at hb<;>(try (cases hb;done))
             split at hb
             . simp only[wR,wX]at hb;exact hb.2
             . cases hb
         . simp at hf;exact hf.2.symm
     . simp only at hs
       cases hvm:Opd.val gl st.fr my<;>simp only[hvm]at hs hrm<;>(try (cases hs;done))
       split at hs
       . rename_i km mm hmm
         simp only[wY,decide_eq_true_eq]at hmm
         obtain⟨hsome2,hmm⟩:=hmm
         simp only[wR,wX]at hs
         obtain⟨rfl,rfl⟩:=hs
         have hsome:hi.isSome=true:=by
          rcases zcd hg hst hhi with ⟨rfl,rfl⟩|⟨_,_,rfl,rfl,_⟩
          . simp at hsome2
          . rfl
         obtain⟨h1,h2,h3⟩:=zt4 (P:=P) (isS:=true) (km:=km) hg hst hlo hhi hb hcap hsome
         refine⟨_,w,G,⟨rfl,rfl⟩,.inl ?_,Step.refl hst.inv,(zae rfl).2 (zp9 (cap':=b2) (esz:=i.size) h2 h3 hcap (w0 _) (fun _=>rfl) hcond hsh hor)⟩
         have hem:=zas hrm
         rw[hmm]at hem
         simp only[execOp,ho,hev,wV,hem,Sem.run_bind,zd6 hu hsz h1,Result.andThen_ok,Sem.run_pure]
       . cases hs
   . cases hs
 | sl k p off len =>
   rw[hv,zae rfl]at hvx
   simp only[hv]at hs
   have go:∀(N b1 b2:Nat) (e':Sh),mx=none->e'.size=i.size->(hi.isSome=true\/N=len)->(G.reg k=some .nil->N<=len) ->
     (∀b root m e2,G.reg k=some (.blk b root)->root.sub p=some (.ar m e2)->e2=e'/\N<=max len (m-off)) ->
     bnds N (lo2.map (Opd.val gl st.fr)) (hi2.map (Opd.val gl st.fr))=some (b1,b2)->Good P w G st.hp (execOp a.eval o) (.sl k p (off+b1) (b2-b1)) []:=by
    intro N b1 b2 e' hm he hN hnil hsame hb
    subst hm
    rcases zbn hvx with ⟨a0,rfl,rfl,rfl,hev,hreg⟩|⟨b,root,mm,e2,o',xo,hr,hsub,hof,hle,hev,hxo⟩
    . obtain rfl:N=0:=by have:=hnil hreg;omega
      obtain⟨h1,h2,h3⟩:=zfq (P:=P) (isS:=true) hg hst hlo hhi hb (w0 0)
      obtain rfl:b1=0:=by omega
      obtain rfl:b2=0:=by omega
      refine⟨_,w,G,⟨rfl,rfl⟩,.inl ?_,Step.refl hst.inv,(zae rfl).2 (.slNil k a0 hreg)⟩
      simp only[execOp,ho,hev,wT,Sem.run_bind,zd6 hu hsz h1,Result.andThen_ok,Sem.run_pure]
      simp
    . obtain⟨hee,hNm⟩:=hsame b root mm e2 hr hsub
      obtain⟨h1,h2,h3⟩:=zfq (P:=P) (isS:=true) hg hst hlo hhi hb (show N<=mm-off by omega)
      have h1:(Instr.sliceBounds true len (mm-off) (lo.map a.eval) (hi.map a.eval) none).run P w= .ok (b1,b2,mm-off) w:=by
       rcases hN with hN|hN
       . rw[qg2 (N:=len) (len:=N) (by simpa using hN)];exact h1
       . rw[<-hN];exact h1
      subst hee
      by_cases hz:mm-off=b1
      . obtain rfl:b2=b1:=by omega
        refine⟨.slice (some ⟨b,xo,none⟩) 0 0,w,G,⟨rfl,rfl⟩,.inl ?_,Step.refl hst.inv,(zae rfl).2 ?_⟩
        . simp only[execOp,ho,hev,wT,Sem.run_bind,zd6 hu hsz h1,Result.andThen_ok,Sem.run_pure]
          simp[hz]
        . have:=RepS.slZ (H:=w.heap) (G:=G) k p (off+b2) b xo root mm e2 hr hsub (by omega)
          simpa using this
      . have hlt:off<mm:=by omega
        refine⟨.slice (some ⟨b,xo+b1*i.size,none⟩) (b2-b1) (mm-off-b1),w,G,⟨rfl,rfl⟩,.inl ?_,Step.refl hst.inv,(zae rfl).2 ?_⟩
        . simp only[execOp,ho,hev,wT,Sem.run_bind,zd6 hu hsz h1,Result.andThen_ok,Sem.run_pure]
          simp[hz,zcp]
        . have:=RepS.sl (H:=w.heap) (G:=G) k p (off+b1) (b2-b1) b root mm e2 o' hr hsub hof (by omega)
          rw[hxo hlt,<-he,show mm-off-b1=mm-(off+b1) by omega,Nat.add_assoc,<-Nat.add_mul]
          exact this
   rcases zcd hg hst hmx with ⟨rfl,rfl⟩|⟨mo,my,rfl,rfl,hrm⟩
   . cases hk:st.hp.get k with
     | none=>simp[hk]at hs
     | some ob =>
       cases ob with
       | dead=>simp[hk]at hs
       | lp _ _ _=>simp[hk]at hs
       | mp _ _=>simp[hk]at hs
       | fix sh z =>
         simp only[hk]at hs
         split at hs
         . rename_i m' e' hsub
           split at hs
           . rename_i hes
             simp only[wS,wX]at hs
             obtain⟨⟨b1,b2⟩,hb,rfl,rfl⟩:=hs
             refine go len b1 b2 e' rfl hes (.inr rfl) (fun _=>w0 _) (fun b root m2 e2 hr hs2=> ?_) hb
             have:=ziz hst.inv hk hr
             subst this
             rw[hsub]at hs2;cases hs2;exact⟨rfl,by omega⟩
           . cases hs
         . cases hs
       | grow sh els =>
         cases p with
         | cons _ _=>simp[hk]at hs
         | nil =>
           simp only[hk]at hs
           split at hs
           . rename_i hes
             simp only[wS,wX]at hs
             obtain⟨⟨b1,b2⟩,hb,rfl,rfl⟩:=hs
             refine go _ b1 b2 sh rfl hes ?_ (fun hn=> ?_) (fun b root m2 e2 hr hs2=> ?_) hb
             . rcases zcd hg hst hhi with ⟨rfl,rfl⟩|⟨_,_,rfl,rfl,_⟩
               . exact .inr rfl
               . exact .inl rfl
             . rcases hst.inv.obs k _ hk with ⟨h2,_⟩|⟨b',cap,c,e,fz,hr',hle,_⟩
               . subst h2
                 split
                 . simp
                 . exact w0 _
               . rw[hn]at hr';cases hr'
             . obtain⟨cap,rfl,hcap⟩:=ziy hst.inv hk hr
               simp only[Sh.sub,wR,Sh.ar.injEq]at hs2
               refine⟨hs2.2.symm,?_⟩
               have:=hs2.1
               split<;>omega
           . cases hs
   . have hs':(match Opd.val gl st.fr my with
      | .int _ mm=>if hi2.isSome&&decide (mm=len)then(bnds len (lo2.map (Opd.val gl st.fr)) (hi2.map (Opd.val gl st.fr))).map fun _=>(AV.unk,([]:Hp))else none
      | _=>none)=some (v,us):=by
      cases hk:st.hp.get k with
      | none=>rw[hk]at hs;exact hs
      | some ob=>rw[hk]at hs;cases ob<;>exact hs
     cases hvm:Opd.val gl st.fr my<;>simp only[hvm]at hs' hrm<;>(try (cases hs';done))
     rename_i km mm
     rw[wW,wS,wY,decide_eq_true_eq]at hs'
     obtain⟨⟨hsome2,hmm⟩,⟨b1,b2⟩,hb,hs'⟩:=hs'
     cases hs'
     have hsome:hi.isSome=true:=by
      rcases zcd hg hst hhi with ⟨rfl,rfl⟩|⟨_,_,rfl,rfl,_⟩
      . simp at hsome2
      . rfl
     have hem:=zas hrm
     rw[hmm]at hem
     rcases zbn hvx with ⟨a0,rfl,rfl,rfl,hev,hreg⟩|⟨b,root,m2,e2,o',xo,hr,hsub,hof,hle,hev,hxo⟩
     . obtain⟨h1,h2,h3⟩:=zlz (P:=P) (isS:=true) (km:=km) hg hst hlo hhi hb (w0 0) hsome
       refine⟨.slice (if 0=b1 then a0 else a0.map (·.add (b1*i.size))) (b2-b1) (0-b1),w,G,⟨rfl,rfl⟩,.inl ?_,Step.refl hst.inv,trivial⟩
       simp only[execOp,ho,hev,wV,hem,Sem.run_bind,zd6 hu hsz h1,Result.andThen_ok,Sem.run_pure]
     . obtain⟨h1,h2,h3⟩:=zlz (P:=P) (isS:=true) (km:=km) hg hst hlo hhi hb (show len<=m2-off by omega) hsome
       refine⟨.slice (if len=b1 then some ⟨b,xo,none⟩else(some ⟨b,xo,none⟩:Option Addr).map (·.add (b1*i.size))) (b2-b1) (len-b1),w,G,⟨rfl,rfl⟩,.inl ?_,Step.refl hst.inv,trivial⟩
       simp only[execOp,ho,hev,wV,hem,Sem.run_bind,zd6 hu hsz h1,Result.andThen_ok,Sem.run_pure]
 | _=>simp[hv]at hs
end Go.Ev
namespace Go.Ev
open Go
variable {im :Im} {P:Program} {w:World} {H:Heap} {G:Gh} {gl:Gl} {cl:Cl} {st:St} {a:Act} {o:Oper} {m:MOp} {v:AV} {us:Hp}
theorem zy3 {t e:TypeId}{n:Nat}{x:Operand}{lo hi mx:Option Operand}{x':Opd}{lo2 hi2:Option Opd}{i:TypeInfo}(hg:GlOk w.heap G gl)(hst:StOk w.heap G st a.tmps)
  (ho:o.op= .slice t x lo hi mx) (hx:zag x=some x') (hlo:zbt lo=some lo2) (hhi:zbt hi=some hi2) (hmx:mx=none)
  (hu:P.underlying t=some (.array n e)) (hi':P.info? e=some i)
  (hs:zaa gl cl st o.dst (.slArr n i.size x' lo2 hi2)=some (v,us)):Good P w G st.hp (execOp a.eval o) v us:=by
 have hvx:=zam hg hst hx
 have hsz:(P.info? e).map (·.size)=some i.size:=by simp[hi']
 subst hmx
 have run:∀{b off b1 b2:Nat},a.eval x= .pointer (some ⟨b,off,none⟩)->bnds n (lo2.map (Opd.val gl st.fr)) (hi2.map (Opd.val gl st.fr))=some (b1,b2) ->
   (execOp a.eval o).run P w= .ok (.value (.slice (if n=b1 then some ⟨b,off,none⟩else some ⟨b,off+b1*i.size,none⟩) (b2-b1) (n-b1))) w/\b1<=b2/\b2<=n:=by
  intro b off b1 b2 hev hb
  obtain⟨h1,h2,h3⟩:=zfq (P:=P) (isS:=false) hg hst hlo hhi hb (w0 n)
  refine⟨?_,h2,h3⟩
  simp only[execOp,ho,hev,Instr.sliceAt,Instr.sureAddr,wT,Sem.run_bind,zaj hu,h1,za9 hsz,Result.andThen_ok,Sem.run_pure]
  by_cases h:n=b1<;>simp[h,zcp]
 simp only[zaa]at hs
 cases hv:Opd.val gl st.fr x' with
 | ptr k p =>
   rw[hv,zae rfl]at hvx
   obtain⟨b,root,off,hev,hr,hof⟩:=zhn hvx
   simp only[hv]at hs
   cases hk:st.hp.get k with
   | none=>simp[hk]at hs
   | some ob =>
     cases ob with
     | dead=>simp[hk]at hs
     | lp _ _ _=>simp[hk]at hs
     | mp _ _=>simp[hk]at hs
     | grow sh els=>simp[hk]at hs
     | fix sh z =>
       have:=ziz hst.inv hk hr
       subst this
       simp only[hk]at hs
       split at hs
       . rename_i n' e' hsub
         split at hs
         . rename_i hcond
           obtain⟨rfl,hes⟩:=hcond
           simp only[wS,wX]at hs
           obtain⟨⟨b1,b2⟩,hb,rfl,rfl⟩:=hs
           obtain⟨h1,h2,h3⟩:=run hev hb
           refine⟨_,w,G,⟨rfl,rfl⟩,.inl h1,Step.refl hst.inv,(zae rfl).2 ?_⟩
           by_cases h:n'=b1
           . subst h
             obtain rfl:b2=n':=by omega
             have:=RepS.slZ (H:=w.heap) (G:=G) k p b2 b off root b2 e' hr hsub rfl
             simpa using this
           . rw[if_neg h,<-hes]
             exact .sl k p b1 (b2-b1) b root n' e' off hr hsub hof (by omega)
         . cases hs
       . cases hs
 | cp sh z =>
   rw[hv,zae rfl]at hvx
   obtain⟨b,off,c,e',fz,hev,himm,hb,hrc,h1,h2,h3⟩:=zpt hvx
   cases sh<;>(try (simp[hv]at hs;done))
   rename_i n' e''
   cases z<;>(try (simp[hv]at hs;done))
   rename_i l
   simp only[hv]at hs
   . split at hs
     . rename_i hcond
       obtain⟨rfl,hes⟩:=hcond
       simp only[wS,wX]at hs
       obtain⟨⟨b1,b2⟩,hbn,rfl,rfl⟩:=hs
       obtain⟨g1,g2,g3⟩:=run hev hbn
       rw[zbm]at h1
       simp only[wY,beq_iff_eq,wE]at h1
       have hw:∀y∈l,zap e'' y=true/\y.plain=true/\y.wf:=fun y hy=>⟨h1.2 y hy,((AV.wfp_iff l).1 (by simpa[AV.wf]using h3) y hy)⟩
       refine⟨_,w,G,⟨rfl,rfl⟩,.inl g1,Step.refl hst.inv,(zae rfl).2 ?_⟩
       have:=zp9 (H:=w.heap) (G:=G) (sh:=e'') (l:=l) (b:=some ⟨b,off,none⟩) (cap:=n') (cap':=n') (b1:=b1) (b2:=b2) (esz:=i.size) (full':=hi2.isNone) g2 (by omega)
        (by omega) g3 (fun hf=> ?_) (.inr hes) hw (.inr ⟨b,off,c,e',fz,rfl,himm,hb,by rw[AV.flat]at hrc;exact hrc⟩)
       . simpa[zcp]using this
       . rcases zcd hg hst hhi with ⟨rfl,rfl⟩|⟨_,_,rfl,rfl,_⟩
         . rcases zcd hg hst hlo with ⟨rfl,rfl⟩|⟨x2,y2,rfl,rfl,hr2⟩
           . simp only[bnds,wT,wR,wX]at hbn;exact hbn.2
           . simp only[bnds,wT,wV]at hbn
             cases hv2:Opd.val gl st.fr y2<;>simp only[hv2]at hbn<;>(try (cases hbn;done))
             split at hbn
             . simp only[wR,wX]at hbn;exact hbn.2
             . cases hbn
         . simp at hf
     . cases hs
 | _=>simp[hv]at hs
theorem zzf {t:TypeId}{x:Operand}(hg:GlOk w.heap G gl)(hst:StOk w.heap G st a.tmps)(ho:o.op= .sliceToArrayPointer t x)(hc:zan P im o=some m)
  (hs:zaa gl cl st o.dst m=some (v,us)):Good P w G st.hp (execOp a.eval o) v us:=by
 simp only[zan,ho]at hc
 split at hc
 . rename_i n e hu
   simp only[wS]at hc
   obtain⟨x',hx,rfl⟩:=hc
   have hvx:=zam hg hst hx
   have run:∀{ad:Option Addr} {len cap:Nat},a.eval x= .slice ad len cap->n<=len->(execOp a.eval o).run P w= .ok (.value (.pointer ad)) w:=by
    intro ad len cap hev hn
    simp only[execOp,ho,hev,Instr.arrayAt,Sem.run_bind,zaj hu,Result.andThen_ok]
    rw[if_neg (by omega)]
    rfl
   simp only[zaa]at hs
   cases hv:Opd.val gl st.fr x' with
   | sl k p off len =>
     rw[hv,zae rfl]at hvx
     simp only[hv]at hs
     cases hk:st.hp.get k with
     | none=>simp[hk]at hs
     | some ob =>
       cases ob with
       | dead=>simp[hk]at hs
       | lp _ _ _=>simp[hk]at hs
       | mp _ _=>simp[hk]at hs
       | grow sh els=>simp[hk]at hs
       | fix sh z =>
         simp only[hk]at hs
         split at hs
         . rename_i m' e' hsub
           split at hs
           . rename_i hcond
             simp only[wR,wX]at hs
             obtain⟨rfl,rfl⟩:=hs
             rcases zbn hvx with ⟨a0,rfl,rfl,rfl,hev,hreg⟩|⟨b,root,mm,e2,o',xo,hr,hsub2,hof,hle,hev,hxo⟩
             . omega
             . have:=hxo (by omega)
               subst this
               exact⟨_,w,G,⟨rfl,rfl⟩,.inl (run hev hcond.1),Step.refl hst.inv,(zae rfl).2 (.arp k p off n b root mm e2 o' hr hsub2 hof (by omega))⟩
           . cases hs
         . cases hs
   | lst full sh l =>
     rw[hv,zae rfl]at hvx
     simp only[hv]at hs
     split at hs
     . rename_i hcond
       simp only[wR,wX]at hs
       obtain⟨rfl,rfl⟩:=hs
       obtain⟨b,cap,hev,hcap,hfull,hsh,hor⟩:=zd2 hvx
       rcases hor with rfl|⟨k,off,c,e',fz,rfl,h5,h6,h7⟩
       . simp at hcond;omega
       obtain⟨f1,f2,f3⟩:=zed (n:=sh.size) (l:=l) (fun x hx=>zaf sh x (hsh x hx).1) 0 n (by omega)
       refine⟨_,w,G,⟨rfl,rfl⟩,.inl (run hev hcond.1),Step.refl hst.inv,(zae rfl).2 (zm5 h5 h6 ?_ ?_ rfl ?_)⟩
       . have:=h7.part f1
         rw[f2]at this
         simpa[AV.flat,sub]using this
       . rw[zbm]
         simp only[wY,beq_iff_eq,wE,wN]
         exact⟨by omega,fun x hx=>(hsh x (wC hx)).1⟩
       . rw[AV.wf,AV.wfp_iff]
         exact fun x hx=>(hsh x (wC hx)).2
     . cases hs
   | _=>simp[hv]at hs
 . cases hc
theorem zwx {c:Call}{t:TypeId}{str:Bool}{x':Opd}(hg:GlOk w.heap G gl)(hst:StOk w.heap G st a.tmps)(ho:o.op= .call c)(hb:c.callee= .builtin .len)
  {x:Operand} (hargs:c.args= #[x]) (ht:c.argTypes= #[t]) (hx:zag x=some x') (hu1:str=true->P.underlying t=some .string) (hu2:str=false->∃e,P.underlying t=some (.slice e))
  (hs:zaa gl cl st o.dst (.len str x')=some (v,us)):Good P w G st.hp (execOp a.eval o) v us:=by
 have hvx:=zam hg hst hx
 have run:∀{vx:Value} {n:Nat},a.eval x=vx->(Builtin.len_ #[t] o.type #[vx]).run P w= .ok (goInt n) w->(execOp a.eval o).run P w= .ok (.value (.int .i64 n)) w:=by
  intro vx n hev hr
  simp only[execOp,ho,resolve,hb,hargs,ht,Sem.run_bind,Sem.run_pure,Result.andThen_ok,invoke,builtin,List.map_toArray,wG,List.map_nil,hev,hr]
  rfl
 simp only[zaa]at hs
 cases str with
 | true =>
   have hu:=hu1 rfl
   cases hv:Opd.val gl st.fr x'<;>simp only[hv]at hs<;>(try (cases hs;done))
   rename_i l
   rw[hv]at hvx
   simp only[wR,wX]at hs
   obtain⟨rfl,rfl⟩:=hs
   refine⟨_,w,G,⟨rfl,rfl⟩,.inl (run (zdh hvx) ?_),Step.refl hst.inv,zat _ _⟩
   simp[Builtin.len_,zaj hu];rfl
 | false =>
   obtain⟨e,hu⟩:=hu2 rfl
   cases hv:Opd.val gl st.fr x'<;>simp only[hv]at hs<;>(try (cases hs;done))
   . rename_i full sh l
     rw[hv,zae rfl]at hvx
     simp only[wR,wX]at hs
     obtain⟨rfl,rfl⟩:=hs
     obtain⟨b,cap,hev,_⟩:=zd2 hvx
     exact⟨_,w,G,⟨rfl,rfl⟩,.inl (run hev (by simp[Builtin.len_,zaj hu])),Step.refl hst.inv,zat _ _⟩
   . rename_i k p off n
     rw[hv,zae rfl]at hvx
     simp only[wR,wX]at hs
     obtain⟨rfl,rfl⟩:=hs
     have hev:∃b cap,a.eval x= .slice b n cap:=by
      rcases zbn hvx with ⟨a0,rfl,rfl,rfl,hev,hreg⟩|⟨b,root,mm,e2,o',xo,hr,hsub2,hof,hle,hev,hxo⟩
      . exact⟨_,_,hev⟩
      . exact⟨_,_,hev⟩
     obtain⟨b,cap,hev⟩:=hev
     exact⟨_,w,G,⟨rfl,rfl⟩,.inl (run hev (by simp[Builtin.len_,zaj hu])),Step.refl hst.inv,zat _ _⟩
theorem zfa {n:Nat}{t:TypeId}{sh:Sh}{x:AV}{cs:Array Value}{off:Nat}(hsh:shOf P n t=some sh)(hx:zap sh x=true)(hw:x.wf)
  (hr:∀j (h:j<x.flat.length),∃v,cs[off+j]? =some v/\RepS w.heap G v x.flat[j]):∃v,(part t cs off).run P w= .ok v w/\RepV w.heap G v x:=by
 have hk:=zbq hx
 have hlen:=zaf sh x hx
 obtain⟨val,hval,hrv⟩:=zgf (H:=w.heap) (G:=G) (c:=cs) (off:=off) (l:=x.flat) hr
 refine⟨_,?_,zl3 hk hw hrv⟩
 simp only[part,Sem.run_bind,ziv hsh,Result.andThen_ok]
 have hag:=zmt hx
 cases hs:sh.agg with
 | true =>
   simp only[if_true,Sem.run_bind,za9 (zbb hsh),Result.andThen_ok,Sem.run_pure,ze3,hag,hs]
   congr 2
   apply w6
   intro j
   rw[Array.getElem?_extract]
   by_cases hj:j<x.flat.length
   . have h1:=hval j hj
     obtain⟨hlt,h2⟩:=w4.1 h1
     rw[if_pos (by omega),h1]
     simp[hj]
   . rw[if_neg (by omega)]
     simp[hj]
 | false =>
   have hsc:x.scalar=true:=by rw[hs]at hag;revert hag hk;cases x<;>simp[AV.isAgg,AV.scalar,AV.known]
   have h0:=hval 0 (by rw[AV.flat_scalar hsc];simp)
   simp only[wZ,if_false,ze3,hag,hs]
   rw[w3]at h0
   rw[h0,AV.flat_scalar hsc]
   rfl
end Go.Ev
namespace Go.Ev
open Go
variable {im :Im} {P:Program} {w:World} {H:Heap} {G:Gh} {gl:Gl} {cl:Cl} {st:St} {a:Act} {o:Oper} {m:MOp} {v:AV} {us:Hp}
theorem zd1 {H:Heap}{v:Value}{x:AV}(h:RepT H G v x)(ha:x.isAgg=true):∃cs:Array Value,v= .agg cs/\RepL H G cs.toList (AV.flats x.kids)/\x.wf:=by
 have hk:x.known=true:=by revert ha;cases x<;>simp[AV.isAgg,AV.known]
 rw[RepT.of_known hk]at h
 obtain⟨vs,_,hl,hv,_⟩:=h.cells
 exact⟨vs.toArray,by rw[hv,ze3,if_pos ha],by rw[AV.flat_kids ha]at hl;simpa using hl,h.wf⟩
theorem zy9 {t:TypeId}{x:Operand}{f:Nat}(hg:GlOk w.heap G gl)(hst:StOk w.heap G st a.tmps)(ho:o.op= .field t x f)(hc:zan P im o=some m)
  (hs:zaa gl cl st o.dst m=some (v,us)):Good P w G st.hp (execOp a.eval o) v us:=by
 simp only[zan,ho,wU,wS]at hc
 obtain⟨sh,hsh,x',hx,rfl⟩:=hc
 have hvx:=zam hg hst hx
 cases sh with
 | st fs =>
   simp only[zaa]at hs
   split at hs
   . rename_i hfs
     simp only[wS,wX]at hs
     obtain⟨r,hr,rfl,rfl⟩:=hs
     simp only[zap,wY]at hfs
     obtain⟨cs,hev,hrl,hw⟩:=zd1 hvx hfs.1
     have hu:∃fields,P.underlying t=some (.struct fields):=by
      have h0:=ziv (w:=w) hsh
      simp only[Sh.agg,isAgg,Sem.run_bind]at h0
      cases hu:P.underlying t with
      | none=>simp[SF,shOf,hu]at hsh
      | some d =>
        cases d with
        | struct fields=>exact⟨fields,rfl⟩
        | array k e=>obtain⟨s,h1,_⟩:=zdw hsh hu;cases h1
        | _=>simp[zaj hu]at h0
     obtain⟨fields,hu⟩:=hu
     obtain⟨fs',e1,e2,e3⟩:=zc9 hsh hu
     cases e1
     have hi:f<(Opd.val gl st.fr x').kids.length:=(wD.1 hr).1
     have hlen:=zep hfs.2
     have hf:fields[f]? =some (fields[f]'(by omega)):=by simp[show f<fields.size by omega]
     obtain⟨s,g1,g2,g3,n',g4⟩:=e3 f _ hf
     obtain⟨r',hr',hsr⟩:=zde hfs.2 g1
     rw[hr]at hr';cases hr'
     obtain⟨pre,post,k1,k2,_⟩:=zci hfs.2 hr
     have hc:=za7 hrl
     have hp:=hc.part k1
     rw[w2,k2]at hp
     obtain⟨vr,hvr,hrr⟩:=zfa (P:=P) (w:=w) (G:=G) (cs:=cs) (off:=fields[f].offset) g4 hsr (zdt hw hr) (by rw[g2];exact hp)
     refine⟨vr,w,G,⟨rfl,rfl⟩,.inl ?_,Step.refl hst.inv,(RepT.of_known (zbq hsr)).2 hrr⟩
     simp only[execOp,ho,hev,Instr.field,Sem.run_bind,zaj hu,Result.andThen_ok,hf,asAgg,Sem.run_pure,hvr]
   . cases hs
 | _=>simp[zaa]at hs
theorem zy7 {t:TypeId}{x i:Operand}(hg:GlOk w.heap G gl)(hst:StOk w.heap G st a.tmps)(ho:o.op= .index t x i)(hc:zan P im o=some m)
  (hs:zaa gl cl st o.dst m=some (v,us)):Good P w G st.hp (execOp a.eval o) v us:=by
 simp only[zan,ho,wU]at hc
 obtain⟨x',hx,i',hi,hc⟩:=hc
 have hvx:=zam hg hst hx
 have hvi:=zam hg hst hi
 split at hc
 . rename_i hu
   cases hc
   simp only[zaa]at hs
   split at hs
   . rename_i l k j hl hj
     rw[hl]at hvx
     rw[hj]at hvi
     split at hs
     . rename_i b hb
       split at hs
       . rename_i h0
         simp only[wR,wX]at hs
         obtain⟨rfl,rfl⟩:=hs
         refine⟨_,w,G,⟨rfl,rfl⟩,.inl ?_,Step.refl hst.inv,zat _ _⟩
         have hget:(ByteArray.mk ⟨l⟩)[j.toNat]? =some b:=by
          obtain⟨hlt,rfl⟩:=wD.1 hb
          have:j.toNat<(ByteArray.mk ⟨l⟩).size:=hlt
          rw[getElem?_pos (ByteArray.mk ⟨l⟩) j.toNat this]
          rfl
         simp only[execOp,ho,zdh hvx,zas hvi,Instr.index,asIntOf,Sem.run_bind,Sem.run_pure,Result.andThen_ok,zaj hu,h0,if_true,hget]
       . cases hs
     . cases hs
   . cases hs
 . rename_i n e hu
   simp only[wS]at hc
   obtain⟨s,hsh,rfl⟩:=hc
   simp only[zaa]at hs
   split at hs
   . rename_i k j hj
     rw[hj]at hvi
     split at hs
     . rename_i hcond
       simp only[wY,decide_eq_true_eq]at hcond
       simp only[wS,wX]at hs
       obtain⟨r,hr,rfl,rfl⟩:=hs
       have hcond1:=hcond.1
       simp only[zap,wY,beq_iff_eq,wE]at hcond1
       obtain⟨cs,hev,hrl,hw⟩:=zd1 hvx hcond1.1.1
       have hi':=(wD.1 hr).1
       have hsr:=hcond1.2 r (List.mem_of_getElem? hr)
       obtain⟨pre,post,k1,k2,_⟩:=zby (fun y hy=>zaf s y (hcond1.2 y hy)) hr
       have hp:=(za7 hrl).part k1
       rw[w2,k2]at hp
       obtain⟨vr,hvr,hrr⟩:=zfa (P:=P) (w:=w) (G:=G) (cs:=cs) (off:=j.toNat * s.size) hsh hsr (zdt hw hr) hp
       refine⟨vr,w,G,⟨rfl,rfl⟩,.inl ?_,Step.refl hst.inv,(RepT.of_known (zbq hsr)).2 hrr⟩
       have hjn:0<=j/\j<(n:Int):=by omega
       simp only[execOp,ho,hev,zas hvi,Instr.index,asIntOf,Sem.run_bind,Sem.run_pure,Result.andThen_ok,zaj hu,hjn,and_self,if_true,za9 (zbb hsh),hvr]
     . cases hs
   . cases hs
 . cases hc
theorem zlc {xs:List Operand}{ys:List Opd}(hg:GlOk w.heap G gl)(hst:StOk w.heap G st a.tmps)(h:mapO zag xs=some ys) :
  (vals gl st.fr ys).length=xs.length/\∀(i:Nat) (x:Operand),xs[i]? =some x->∃y,(vals gl st.fr ys)[i]? =some y/\RepT w.heap G (a.eval x) y:=by
 obtain⟨h1,h2⟩:=zd9 h
 have hv:∀(ys:List Opd),vals gl st.fr ys=ys.map (Opd.val gl st.fr):=fun ys=>by
  induction ys with
  | nil=>rfl
  | cons y ys ih=>simp[vals,ih]
 refine⟨by simp[hv,h1],fun i x hx=> ?_⟩
 obtain⟨y,hy,hxy⟩:=h2 i x hx
 exact⟨y.val gl st.fr,by simp[hv,hy],zam hg hst hxy⟩
theorem zh8 :∀{l:List AV},AV.scalars l=true↔∀x∈l,x.scalar=true
 | []=>by simp[AV.scalars]
 | a::l=>by simp[AV.scalars,zh8 (l:=l)]
theorem z3g {fn:Fn}{first caps:Array Operand}(hg:GlOk w.heap G gl)(hst:StOk w.heap G st a.tmps)(ho:o.op= .makeFunc fn first caps)(hc:zan P im o=some m)
  (hs:zaa gl cl st o.dst m=some (v,us)):Good P w G st.hp (execOp a.eval o) v us:=by
 cases fn<;>try (simp[zan,ho]at hc;done)
 rename_i f
 rcases first with ⟨_|⟨x0,r0⟩⟩
 . simp only[zan,ho,wH,wF,if_true,wW,wS]at hc
   obtain⟨hb,l,hl,rfl⟩:=hc
   obtain⟨h1,h2⟩:=zlc hg hst hl
   simp only[zaa]at hs
   split at hs
   . rename_i hsc
     simp only[wR,wX]at hs
     obtain⟨rfl,rfl⟩:=hs
     refine⟨.func (.func f) #[] (caps.map a.eval),w,G,⟨rfl,rfl⟩,.inl ?_,Step.refl hst.inv,(zae rfl).2 ?_⟩
     . simp[execOp,ho,Instr.makeFunc]
     . refine .fn _ f _ _ (if_pos hb) (by simp[h1]) hsc (fun i=>(caps.map a.eval).getD i undef) (fun i hi=> ?_) (fun i hi=> ?_)
       . have:i<caps.size:=by rw[h1]at hi;simpa using hi
         simp[this]
       . have hi':i<caps.size:=by rw[h1]at hi;simpa using hi
         obtain⟨y,hy,hr⟩:=h2 i caps[i] (by simp[hi'])
         rw[wJ hi]at hy
         simp only[wR]at hy
         rw[<-hy,zae (zh8.1 hsc _ (wO hi))]at hr
         simpa[hi']using hr
   . cases hs
 . rcases caps with ⟨_|_⟩
   . generalize hfi:(⟨x0::r0⟩:Array Operand)=caps at *
     have h0:¬caps.size=0:=by rw[<-hfi];simp
     simp only[zan,ho,if_neg h0,wH,wF,if_true,wS]at hc
     obtain⟨l,hl,rfl⟩:=hc
     obtain⟨h1,h2⟩:=zlc hg hst hl
     simp only[zaa]at hs
     split at hs
     . rename_i hsc
       simp only[wR,wX]at hs
       obtain⟨rfl,rfl⟩:=hs
       refine⟨.func (.func f) (caps.map a.eval) #[],w,G,⟨rfl,rfl⟩,.inl ?_,Step.refl hst.inv,(zae rfl).2 ?_⟩
       . simp[execOp,ho,Instr.makeFunc]
       . refine .fn _ (MB+f) _ (caps.map a.eval) (by unfold fnV;rw[if_neg (by omega),Nat.add_sub_cancel_left]) (by simp[h1]) hsc (fun i=>(caps.map a.eval).getD i undef) (fun i hi=> ?_) (fun i hi=> ?_)
         . have:i<caps.size:=by rw[h1]at hi;simpa using hi
           simp[this]
         . have hi':i<caps.size:=by rw[h1]at hi;simpa using hi
           obtain⟨y,hy,hr⟩:=h2 i caps[i] (by simp[hi'])
           rw[wJ hi]at hy
           simp only[wR]at hy
           rw[<-hy,zae (zh8.1 hsc _ (wO hi))]at hr
           simpa[hi']using hr
     . cases hs
   . simp[zan,ho]at hc
end Go.Ev
namespace Go.Ev
open Go
variable {im :Im} {P:Program} {w:World} {H:Heap} {G:Gh} {gl:Gl} {cl:Cl} {st:St} {a:Act} {o:Oper} {m:MOp} {v:AV} {us:Hp}
mutual
theorem Sh.beq_eq :∀{s t:Sh},Sh.beq s t=true->s=t
 | .sc,.sc,_=>rfl
 | .st fs,.st gs,h=>by rw[Sh.beq]at h;rw[Sh.beqs_eq h]
 | .ar n e,.ar m f,h=>by rw[Sh.beq,wY,beq_iff_eq]at h;rw[h.1,Sh.beq_eq h.2]
 | .sc,.st _,h=>by simp[Sh.beq]at h
 | .sc,.ar _ _,h=>by simp[Sh.beq]at h
 | .st _,.sc,h=>by simp[Sh.beq]at h
 | .st _,.ar _ _,h=>by simp[Sh.beq]at h
 | .ar _ _,.sc,h=>by simp[Sh.beq]at h
 | .ar _ _,.st _,h=>by simp[Sh.beq]at h
theorem Sh.beqs_eq :∀{s t:List Sh},Sh.beqs s t=true->s=t
 | [],[],_=>rfl
 | a::l,b::m,h=>by rw[Sh.beqs,wY]at h;rw[Sh.beq_eq h.1,Sh.beqs_eq h.2]
 | [],_::_,h=>by simp[Sh.beqs]at h
 | _::_,[],h=>by simp[Sh.beqs]at h
end
theorem zju {l:List AV}{off len:Nat}(h:off+len<=l.length):(sub l off len).length=len:=by
 unfold sub;rw[wN,List.length_drop];omega
theorem zul {l:List AV}{off len:Nat}{x:AV}(h:x∈sub l off len):x∈l:=wL (wC h)
theorem zil {hp:Hp}(inv:Inv H G hp){v:Value}{x:AV}{sh:Sh}{l:List AV}(hv:RepS H G v x)(hc:za6 hp x=some (sh,l)) :
  ∃b cap,v= .slice b l.length cap/\(∀y∈l,zap sh y=true/\y.plain=true/\y.wf) /\
   (l=[]\/∃k off c e fz,b=some ⟨k,off,none⟩/\H[k]? =some (.cells c e fz)/\RepC H G c off (AV.flats l)):=by
 cases x with
 | lst full sh' l' =>
   simp only[za6,wR,wX]at hc
   obtain⟨rfl,rfl⟩:=hc
   obtain⟨b,cap,h1,_,_,h2,h3⟩:=zd2 hv
   refine⟨b,cap,h1,h2,?_⟩
   rcases h3 with h|⟨k,off,c,e,fz,h4,_,h5,h6⟩
   . exact .inl h
   . exact .inr ⟨k,off,c,e,fz,h4,h5,h6⟩
 | sl k p off len =>
   simp only[za6]at hc
   split at hc
   . rename_i sh' els hk
     split at hc
     . rename_i hle
       simp only[wR,wX]at hc
       obtain⟨rfl,rfl⟩:=hc
       have hlen:=zju hle
       rcases inv.obs k _ hk with ⟨h0,hreg⟩|⟨b',cap,c,e,fz,hr',hle0,hb,hsz,hf,hsh,hrc⟩
       . subst h0
         simp only[wF]at hle
         obtain⟨rfl,rfl⟩:off=0/\len=0:=by omega
         rcases zbn hv with ⟨a0,_,_,_,hev,_⟩|⟨b,root,mm,e2,o',xo,hr,_⟩
         . exact⟨a0,0,by simpa[sub]using hev,by simp[sub],.inl rfl⟩
         . rw[hreg]at hr;cases hr
       . rcases zbn hv with ⟨a0,_,_,_,hev,hreg⟩|⟨b,root,mm,e2,o',xo,hr,hs2,ho,hle2,hev,hxo⟩
         . rw[hreg]at hr';cases hr'
         rw[hr]at hr'
         simp only[wR,Rg.blk.injEq]at hr'
         obtain⟨rfl,rfl⟩:=hr'
         simp only[Sh.sub,wR,Sh.ar.injEq]at hs2
         obtain⟨rfl,rfl⟩:=hs2
         simp only[Sh.off,wR]at ho
         subst ho
         refine⟨_,_,by rw[hlen];exact hev,fun y hy=>hsh y (zul hy),?_⟩
         by_cases h0:len=0
         . exact .inl (wK.1 (by rw[hlen,h0]))
         . have hx:=hxo (by omega)
           obtain⟨f1,f2,f3⟩:=zed (n:=sh'.size) (fun x hx=>zaf sh' x (hsh x hx).1) off len hle
           refine .inr ⟨b,xo,c,e,fz,rfl,hb,?_⟩
           have:=hrc.part f1
           rw[f2]at this
           rw[hx];exact this
     . cases hc
   . rename_i sh' z hk
     split at hc
     . rename_i n0 e0 l0 hsub hnav
       split at hc
       . rename_i hle
         simp only[wR,wX]at hc
         obtain⟨rfl,rfl⟩:=hc
         have hlen:=zju hle
         rcases zbn hv with ⟨a0,_,_,_,hev,hreg⟩|⟨b,root,mm,e2,o',xo,hr,hs2,ho,hle2,hev,hxo⟩
         . obtain⟨b',c,e,fz,hr',_⟩:=inv.obs k _ hk
           rw[hreg]at hr';cases hr'
         obtain⟨rfl,hy,hyw,_,c,e,fz,hb,hf,hsz,hrc⟩:=zi3 inv hk hr ho hsub hnav
         rw[hs2]at hsub
         simp only[wR,Sh.ar.injEq]at hsub
         obtain⟨rfl,rfl⟩:=hsub
         rw[zbm]at hy
         simp only[wY,beq_iff_eq,wE]at hy
         rw[AV.wf,AV.wfp_iff]at hyw
         have hsh:∀y∈l0,zap e2 y=true/\y.plain=true/\y.wf:=fun y h=>⟨hy.2 y h,hyw y h⟩
         refine⟨_,_,by rw[hlen];exact hev,fun y hy=>hsh y (zul hy),?_⟩
         by_cases h0:len=0
         . exact .inl (wK.1 (by rw[hlen,h0]))
         . have hx:=hxo (by omega)
           obtain⟨f1,f2,f3⟩:=zed (n:=e2.size) (fun x hx=>zaf e2 x (hsh x hx).1) off len hle
           refine .inr ⟨b,xo,c,e,fz,rfl,hb,?_⟩
           rw[AV.flat]at hrc
           have:=hrc.part f1
           rw[f2]at this
           rw[hx];exact this
       . cases hc
     . cases hc
   . cases hc
 | _=>simp[za6]at hc
theorem zrw {c:Array Value}{off n:Nat}{l:List AV}(h:RepC H G c off l)(val:Nat->Value)(hn:n=l.length)(hv:∀j,j<l.length->c[off+j]? =some (val j)) :
  RepL H G ((List.range n).map val) l:=by
 subst hn
 refine⟨by simp,fun j h1 h2=> ?_⟩
 obtain⟨v,hv',hr⟩:=h j h2
 rw[hv j h2]at hv'
 simp only[wR]at hv'
 simpa[hv']using hr
theorem zly {w':World}{k off n:Nat}{c:Array Value}{e:TypeId}{fz:Nat×Nat}{l:List AV}(hw:w'.heap=H)(hb:H[k]? =some (.cells c e fz))(hr:RepC H G c off l)(hn:n=l.length) :
  ∃vs:Array Value,(loadCells ⟨k,off,none⟩ n).run P w'= .ok vs w'/\RepL H G vs.toList l:=by
 obtain⟨val,hv,hr'⟩:=zgf hr
 refine⟨_,zgs (hw▸hb) val n (by rw[hn];exact hv),?_⟩
 simpa using zrw hr val hn hv
structure Src (P:Program)(H:Heap)(G:Gh)(v:Value)(sh:Sh)(l:List AV):Prop where
 len:∀w',(Builtin.lenOf v).run P w'= .ok l.length w'
 els:∀y∈l,zap sh y=true/\y.plain=true/\y.wf
 first:∀n size w',w'.heap=H->n<=l.length->(l=[]\/size=sh.size)->∃vs:Array Value,(Builtin.firstCells size n v).run P w'= .ok vs w'/\RepL H G vs.toList (AV.flats (l.take n))
theorem zgx {hp:Hp}(inv:Inv H G hp){v:Value}{x:AV}{sh:Sh}{l:List AV}(hv:RepS H G v x)(hc:za6 hp x=some (sh,l)):Src P H G v sh l:=by
 obtain⟨b,cap,rfl,h2,h3⟩:=zil inv hv hc
 refine⟨fun w'=>rfl,h2,fun n size w' hw hn hs=> ?_⟩
 rcases h3 with rfl|⟨k,off,c,e,fz,rfl,hb,hr⟩
 . have:n=0:=by simpa using hn
   subst this
   cases b with
   | none=>exact⟨#[],rfl,⟨rfl,fun j h=>by simp at h⟩⟩
   | some ad=>exact⟨#[],by simp only[Builtin.firstCells,loadCells,w1];rfl,⟨rfl,fun j h=>by simp at h⟩⟩
 . have hz:size=sh.size\/l=[]:=hs.symm
   by_cases h0:l=[]
   . subst h0
     have:n=0:=by simpa using hn
     subst this
     exact⟨#[],by simp only[Builtin.firstCells,loadCells,w1];rfl,⟨rfl,fun j h=>by simp at h⟩⟩
   . have hz:size=sh.size:=hz.resolve_right h0
     subst hz
     obtain⟨f1,f2,f3⟩:=zed (n:=sh.size) (l:=l) (fun x hx=>zaf sh x (h2 x hx).1) 0 n (by omega)
     have hr':=hr.part f1
     rw[f2,w1,w3]at hr'
     have e1:sub l 0 n=l.take n:=by simp[sub]
     rw[e1]at hr' f3
     obtain⟨vs,h5,h6⟩:=zly (P:=P) hw hb hr' f3.symm
     exact⟨vs,h5,h6⟩
theorem zih :∀(l:List UInt8),AV.flats (zad l)=zad l
 | []=>rfl
 | b::l=>by simp only[zad,wG,AV.flats,AV.flat,List.singleton_append];exact congrArg _ (zih l)
theorem zzw (l:List UInt8):RepL H G (l.map fun b=>Value.int .u8 b.toNat) (zad l) :=
 ⟨by simp[zad],fun j h1 h2=>by simp only[zad,wP];exact .int _ _⟩
theorem qbt (l:List UInt8):Src P H G (.string ⟨⟨l⟩⟩) .sc (zad l):=by
 refine⟨fun w'=>by simp[Builtin.lenOf,zad,ByteArray.size],fun y hy=> ?_,fun n size w' hw hn _=> ?_⟩
 . simp only[zad,wQ]at hy
   obtain⟨b,_,rfl⟩:=hy
   exact⟨rfl,rfl,trivial⟩
 . refine⟨_,rfl,?_⟩
   have e1:(zad l).take n=zad (l.take n):=by simp[zad,List.map_take]
   rw[e1,zih]
   have e2:((ByteArray.mk ⟨l⟩).extract 0 n).data.toList=l.take n:=by
    simp[ByteArray.data_extract]
   have:=zzw (H:=H) (G:=G) (l.take n)
   rw[<-e2]at this
   rw[<-e2]
   simpa using this
def z5z (hp:Hp)(x:AV):Option (Sh×List AV) :=
 match x with
 | .str l=>some (Sh.sc,zad l)
 | a=>za6 hp a
theorem z0e {hp:Hp}(inv:Inv H G hp){v:Value}{x:AV}{sh:Sh}{l:List AV}(hv:RepT H G v x)(hc:z5z hp x=some (sh,l)):Src P H G v sh l:=by
 unfold z5z at hc
 split at hc
 . rename_i b
   simp only[wR,wX]at hc
   obtain⟨rfl,rfl⟩:=hc
   rw[zdh hv]
   exact qbt b
 . rename_i hne
   have hsc:x.scalar=true:=by
    cases x<;>simp_all[za6,AV.scalar]
   exact zgx inv ((zae hsc).1 hv) hc
end Go.Ev
namespace Go.Ev
open Go
variable {im :Im} {P:Program} {w:World} {H:Heap} {G:Gh} {gl:Gl} {cl:Cl} {st:St} {a:Act} {o:Oper} {m:MOp} {v:AV} {us:Hp}
theorem zmp {e:TypeId}(h:isU8 P e=true):P.underlying e=some (.int .u8):=by
 unfold isU8 at h
 split at h
 . assumption
 . cases h
theorem zk3 :∀{l:List AV} {b:List UInt8},zhh l=some b->l.length=b.length/\∀(j:Nat) (x:AV),l[j]? =some x->∃n,x= .int .u8 n/\b[j]? =some (UInt8.ofNat n.toNat)
 | [],b,h=>by simp only[zhh,wR]at h;subst h;simp
 | x::l,b,h=>by
   simp only[zhh,wU,wS]at h
   obtain⟨c,hc,r,hr,rfl⟩:=h
   obtain⟨h1,h2⟩:=zk3 hr
   refine⟨by simp[h1],fun j y hy=> ?_⟩
   cases j with
   | zero =>
     simp only[wB,wR]at hy
     subst hy
     unfold byteOf at hc
     split at hc
     . simp only[wR]at hc;exact⟨_,rfl,by simp[hc]⟩
     . cases hc
   | succ j=>simp only[List.getElem?_cons_succ]at hy ⊢;exact h2 j y hy
theorem zjk :∀{l:List AV},(∀x∈l,x.scalar=true)->AV.flats l=l
 | [],_=>rfl
 | x::l,h=>by rw[AV.flats,AV.flat_scalar (h x (by simp)),zjk fun y hy=>h y (by simp[hy])];rfl
theorem znt :∀(vs:List Value) (s:ByteArray) (b:List UInt8),
  vs.length=b.length->(∀(j:Nat) (x:Value),vs[j]? =some x->∃n,x= .int .u8 n/\b[j]? =some (UInt8.ofNat n.toNat)) ->
  (forIn vs s (fun c r=>(match c with
    | .int .u8 n=>(pure (ForInStep.yield (r.push (UInt8.ofNat n.toNat))):Sem (ForInStep ByteArray))
    | _=>do
      let _<-(stuck "bytesToString: byte expected" :Sem PUnit)
      pure (ForInStep.yield r))):Sem ByteArray).run P w= .ok ⟨s.data++b.toArray⟩ w
 | [],s,b,h,_=>by
   have:b=[]:=by cases b<;>simp_all
   subst this;simp
 | x::vs,s,c::b,h,hv=>by
   obtain⟨n,rfl,hb⟩:=hv 0 x rfl
   simp only[wB,wR]at hb
   simp only[List.forIn_cons,Sem.run_bind,Sem.run_pure,Result.andThen_ok]
   rw[znt vs _ b (by simpa using h) (fun j x hj=>by simpa using hv (j+1) x (by simpa using hj))]
   simp[ByteArray.push,hb]
 | _::_,_,[],h,_=>by simp at h
theorem zjx {vs:Array Value}{k off len cap:Nat}{b:List UInt8}(hr:(loadCells ⟨k,off,none⟩ len).run P w= .ok vs w)(hl:vs.size=b.length)
  (hv:∀(j:Nat) (x:Value),vs[j]? =some x->∃n,x= .int .u8 n/\b[j]? =some (UInt8.ofNat n.toNat)) :
  (Conv.bytesToString (.slice (some ⟨k,off,none⟩) len cap)).run P w= .ok (.string ⟨⟨b⟩⟩) w:=by
 have key:=znt (P:=P) (w:=w) vs.toList ByteArray.empty b (by simpa using hl) (fun j x hj=>hv j x (by simpa using hj))
 simp only[Conv.bytesToString,Sem.run_bind,hr,Result.andThen_ok,<-Array.forIn_toList]
 erw [key]
 have e1:ByteArray.empty.data++b.toArray=⟨b⟩:=by
  have:ByteArray.empty.data= #[]:=rfl
  rw[this];simp
 rw[e1];rfl
theorem z75 {s d e:TypeId}{x:Operand}{x':Opd}(hg:GlOk w.heap G gl)(hst:StOk w.heap G st a.tmps)(ho:o.op= .convert s d x)
  (hs':P.underlying s=some (.slice e)) (hd:P.underlying d=some .string) (h8:isU8 P e=true) (hx:zag x=some x')
  (hs:zaa gl cl st o.dst (.b2s x')=some (v,us)):Good P w G st.hp (execOp a.eval o) v us:=by
 have hvx:=zam hg hst hx
 simp only[zaa]at hs
 split at hs
 . rename_i l hc
   simp only[wS,wX]at hs
   obtain⟨b,hb,rfl,rfl⟩:=hs
   have hsc:(Opd.val gl st.fr x').scalar=true:=by
    revert hc;cases Opd.val gl st.fr x'<;>simp[za6,AV.scalar]
   rw[zae hsc]at hvx
   obtain⟨b',cap,hev,hels,hor⟩:=zil hst.inv hvx hc
   obtain⟨hlen,hget⟩:=zk3 hb
   have hu8:=zmp h8
   refine⟨.string ⟨⟨b⟩⟩,w,G,⟨rfl,rfl⟩,.inl ?_,Step.refl hst.inv,ze0 _⟩
   have run:(Conv.bytesToString (a.eval x)).run P w= .ok (.string ⟨⟨b⟩⟩) w:=by
    rw[hev]
    have hz:l=[]->(AV.flats l)=[]:=fun h=>by rw[h];rfl
    have hfl:AV.flats l=l:=zjk fun y hy=>by
     have:=(hels y hy).1
     simpa[zap]using this
    rcases hor with rfl|⟨k,off,c,e',fz,rfl,hb',hr⟩
    . have:b=[]:=by cases b<;>simp_all
      subst this
      cases b' with
      | none=>rfl
      | some ad =>
        obtain⟨k,off,sp⟩:=ad
        simp only[Conv.bytesToString,wF,Sem.run_bind]
        rfl
    . rw[hfl]at hr
      obtain⟨vs,h1,h2⟩:=zly (P:=P) rfl hb' hr rfl
      refine zjx h1 (by rw[<-hlen];simpa using h2.len) fun j y hy=> ?_
      obtain⟨hj,rfl⟩:=w4.1 hy
      have hjl:j<l.length:=by have:=h2.len;simp at this;omega
      have hrep:=h2.get j (by simpa using hj) hjl
      obtain⟨n,hn1,hn2⟩:=hget j l[j] (by simp[hjl])
      rw[hn1]at hrep
      refine⟨n,?_,hn2⟩
      have:=(zae (H:=w.heap) (G:=G) (v:=vs.toList[j]) (a:=.int .u8 n) rfl).2 hrep
      simpa using zas this
   simp only[execOp,ho,Go.convert,Sem.run_bind,zaj hs',zaj hd,Result.andThen_ok]
   rw[hev]at run ⊢
   simp only[zaj hu8,Result.andThen_ok,Sem.run_bind,run,Sem.run_pure]
 . cases hs
theorem z6y (H:Heap)(x y:Obj):(H.push x).setIfInBounds H.size y=H.push y:=by
 apply w6
 intro i
 by_cases h:i=H.size
 . subst h;rw[Array.getElem?_setIfInBounds_self_of_lt (by simp)];simp
 . rw[Array.getElem?_setIfInBounds_ne (Ne.symm h),w5,w5,if_neg h,if_neg h]
theorem zfp {b off:Nat}{c:Array Value}{e:TypeId}{fz:Nat×Nat}{w:World}(h:w.heap[b]? =some (.cells c e fz)) :
  (markStringish ⟨b,off,none⟩).run P w= .ok () {w with heap:=w.heap.setIfInBounds b (.cells c e (if fz.1==fz.2 then(c.size,c.size+1)else(min fz.1 c.size,max fz.2 (c.size+1))))}:=by
 simp only[markStringish,Sem.run_bind,run_shape,World.shape?,h,Result.andThen_ok,run_freeze,World.freeze,zo3 _ h]
 rfl
theorem z7z {s d e:TypeId}{x:Operand}{x':Opd}(hg:GlOk w.heap G gl)(hst:StOk w.heap G st a.tmps)(ho:o.op= .convert s d x)
  (hs':P.underlying s=some .string) (hd:P.underlying d=some (.slice e)) (h8:isU8 P e=true) (hx:zag x=some x')
  (hs:zaa gl cl st o.dst (.s2b x')=some (v,us)):Good P w G st.hp (execOp a.eval o) v us:=by
 have hvx:=zam hg hst hx
 simp only[zaa]at hs
 split at hs
 . rename_i k l hk hl
   rw[hl]at hvx
   split at hs
   . rename_i hcond
     simp only[wY,decide_eq_true_eq]at hcond
     simp only[wR,wX]at hs
     obtain⟨rfl,rfl⟩:=hs
     have hev:=zdh hvx
     have hu8:=zmp h8
     obtain⟨hnone,hlim⟩:=hcond
     let cap:=(Question.appendCap l.length 0 e).cut (w.tape w.drawn (.appendCap l.length 0 e))
     have hcap:l.length<=cap:=Nat.le_add_right _ _
     let c:Array Value:=(l.map fun b=>Value.int .u8 b.toNat).toArray++Array.replicate (cap-l.length) (.int .u8 0)
     have hcs:c.size=cap:=by simp[c];omega
     have hst':=zez (sh:=.sc) (e:=e) (fz:=(cap,cap+1)) (k:=k) (els:=zad l) (c:=c) (cap:=cap) hst.inv (by simpa using hnone) (by simpa[zad]using hcap)
      (by simp[hcs,Sh.size]) (.inr (by simp[hcs])) (fun y hy=>by
        simp only[zad,wQ]at hy
        obtain⟨b,_,rfl⟩:=hy
        exact⟨rfl,rfl,trivial⟩) (by
        rw[zih]
        intro j hj
        have hj':j<l.length:=by simpa[zad]using hj
        refine⟨.int .u8 l[j].toNat,?_,?_⟩
        . have e1:((l.map fun b=>Value.int .u8 b.toNat).toArray)[j]? =some (.int .u8 l[j].toNat):=by simp[hj']
          rw[w2,Array.getElem?_append_left (by simpa using hj'),e1]
        . simp only[zad,wP];exact .int _ _)
     refine⟨_,{w with drawn:=w.drawn+1,heap:=w.heap.push (.cells c e (cap,cap+1))},_,⟨rfl,rfl⟩,.inl ?_,hst',ziu (by simpa[zad]using hcap)⟩
     have hrun:(Conv.stringToBytes e ⟨⟨l⟩⟩).run P w= .ok (.slice (some ⟨w.heap.size,0,none⟩) l.length cap) {w with drawn:=w.drawn+1,heap:=w.heap.push (.cells c e (cap,cap+1))}:=by
      have hq:(Question.appendCap l.length 0 e).forced=false:=rfl
      simp only[Conv.stringToBytes,ByteArray.size,wH,Sem.run_bind,run_choose,hq,wZ,if_false,Result.andThen_ok,newRow,run_newObj,Sem.run_pure]
      rw[zfp (c:=c) (e:=e) (fz:=(0,0)) (by simp[c,cap])]
      simp only[z6y,hcs,Result.andThen_ok]
      rfl
     simp only[execOp,ho,Go.convert,Sem.run_bind,zaj hs',zaj hd,Result.andThen_ok,hev,zaj hu8,hrun,Sem.run_pure]
   . cases hs
 . cases hs
theorem z70 {s e:TypeId}{x:Operand}{x':Opd}(hg:GlOk w.heap G gl)(hst:StOk w.heap G st a.tmps)(ho:o.op= .convert s s x)
  (hs':P.underlying s=some (.slice e)) (h8:isU8 P e=true) (hx:zag x=some x')
  (hs:zaa gl cl st o.dst (.idc x')=some (v,us)):Good P w G st.hp (execOp a.eval o) v us:=by
 have hvx:=zam hg hst hx
 have hu8:=zmp h8
 simp only[zaa]at hs
 split at hs
 . rename_i k p off len hv
   rw[hv,zae rfl]at hvx
   split at hs
   . rename_i sh e0 els hk
     simp only[wR,wX]at hs
     obtain⟨rfl,rfl⟩:=hs
     rcases hst.inv.obs k _ hk with ⟨h0,_⟩|⟨b',cap,c,e',fz,hr',hle0,hb,hsz,hf,hsh,hrc⟩
     . cases h0
     have hvx':=hvx
     rcases zbn hvx' with ⟨a0,_,_,_,hev,hreg⟩|⟨b,root,mm,e2,o',xo,hr,hs2,hof,hle2,hev,hxo⟩
     . rw[hreg]at hr';cases hr'
     rw[hr]at hr'
     simp only[wR,Rg.blk.injEq]at hr'
     obtain⟨rfl,rfl⟩:=hr'
     have hrun:=zfp (P:=P) (off:=xo) hb
     refine⟨a.eval x,{w with heap:=w.heap.setIfInBounds b (.cells c e' (if fz.1==fz.2 then(c.size,c.size+1)else(min fz.1 c.size,max fz.2 (c.size+1))))},G,⟨rfl,rfl⟩,.inl ?_,zck hst.inv hk (w.heap.setIfInBounds b _) _ (by simp) (fun b' hb'=>za8 fun e=>hb' ⟨_,.of (e▸hr),⟨_,hk,by simp⟩⟩) (fun _=>by simp) fun le=> ?_,?_⟩
     . simp only[execOp,ho,Go.convert,Sem.run_bind,zaj hs',Result.andThen_ok,hev,zaj hu8,beq_self_eq_true,hrun,Sem.run_pure]
     . refine .inr ⟨b,cap,c,e',_,hr,hle0,zbs hb,hsz,?_,hsh,hrc.mono le⟩
       rcases hf with hf|hf
       . rw[hf];simp[freeG]
       . by_cases h:fz.1=fz.2
         . simp[freeG,h]
         . have:(fz.1==fz.2)=false:=by simpa using h
           simp only[this,freeG]
           exact .inr ⟨trivial,by have:=hf.2;simp;omega⟩
     . rw[zae rfl]
       refine RepS.mono ?_ hvx
       exact⟨fun b' hb'=>⟨hb',za8 fun e=>(hst.inv.imm b' hb').2 ⟨k,_,⟨_,hk,by simp⟩,.of (e▸hr)⟩⟩,ze1 fun _ _ h=>h,fun _ _ h=>h⟩
   . cases hs
 . cases hs
theorem z1y {v v':Value}{x y z:AV}(hx:RepT H G v x)(hy:RepT H G v' y)(h:zmg x y=some z):∃u,(Builtin.min2 v v').run P w= .ok u w/\RepT H G u z:=by
 unfold zmg at h
 split at h
 . split at h
   . rename_i hk
     simp only[wR]at h
     subst h hk
     rw[zas hx,zas hy]
     exact⟨_,rfl,zat _ _⟩
   . cases h
 . cases h
theorem z14 {v v':Value}{x y z:AV}(hx:RepT H G v x)(hy:RepT H G v' y)(h:zp8 x y=some z):∃u,(Builtin.max2 v v').run P w= .ok u w/\RepT H G u z:=by
 unfold zp8 at h
 split at h
 . split at h
   . rename_i hk
     simp only[wR]at h
     subst h hk
     rw[zas hx,zas hy]
     exact⟨_,rfl,zat _ _⟩
   . cases h
 . cases h
theorem zmy {f:AV->AV->Option AV}{g:Value->Value->Sem Value}(hfg:∀v v' x y z,RepT H G v x->RepT H G v' y->f x y=some z->∃u,(g v v').run P w= .ok u w/\RepT H G u z) :
  ∀(ys:List AV) (us:List Value) (v:Value) (x z:AV),RepT H G v x->us.length=ys.length->(∀(i:Nat) (u:Value),us[i]? =some u->∃y,ys[i]? =some y/\RepT H G u y) ->
  zgt f x ys=some z->∃u,(us.foldlM g v).run P w= .ok u w/\RepT H G u z
 | [],us,v,x,z,hv,hl,_,h=>by
   have:us=[]:=by cases us<;>simp_all
   subst this
   simp only[zgt,wR]at h
   subst h
   exact⟨v,rfl,hv⟩
 | y::ys,us,v,x,z,hv,hl,hu,h=>by
   cases us with
   | nil=>simp at hl
   | cons u us =>
     simp only[zgt,wU]at h
     obtain⟨c,hc,h⟩:=h
     obtain⟨y',hy,hr⟩:=hu 0 u rfl
     simp only[wB,wR]at hy
     subst hy
     obtain⟨r,h1,h2⟩:=hfg _ _ _ _ _ hv hr hc
     obtain⟨r',h3,h4⟩:=zmy hfg ys us r c z h2 (by simpa using hl) (fun i u hi=>by simpa using hu (i+1) u (by simpa using hi)) h
     exact⟨r',by simp only[List.foldlM_cons,Sem.run_bind,h1,Result.andThen_ok,h3],h4⟩
theorem z3h {c:Call}{args:List Opd}(hg:GlOk w.heap G gl)(hst:StOk w.heap G st a.tmps)(ho:o.op= .call c)(hb:c.callee= .builtin .min)
  (hargs:mapO zag c.args.toList=some args) (hs:zaa gl cl st o.dst (.mini args)=some (v,us)):Good P w G st.hp (execOp a.eval o) v us:=by
 obtain⟨h1,h2⟩:=zlc hg hst hargs
 simp only[zaa]at hs
 split at hs
 . cases hs
 . rename_i x l hl
   simp only[wS,wX]at hs
   obtain⟨r,hr,rfl,rfl⟩:=hs
   rw[hl]at h1 h2
   obtain⟨y,ys,hy⟩:∃y ys,c.args.toList=y::ys:=by
    cases h:c.args.toList with
    | nil=>rw[h]at h1;simp at h1
    | cons y ys=>exact⟨y,ys,rfl⟩
   rw[hy]at h1 h2
   obtain⟨x',hx',hr0⟩:=h2 0 y rfl
   simp only[wB,wR]at hx'
   subst hx'
   obtain⟨u,h3,h4⟩:=zmy (P:=P) (w:=w) (g:=Builtin.min2) (fun v v' x y z hx hy h=>z1y hx hy h) l (ys.map a.eval) (a.eval y) x r hr0 (by simpa using h1.symm) (fun i u hi=>by
    rw[wM,wS]at hi
    obtain⟨z,hz,rfl⟩:=hi
    simpa using h2 (i+1) z (by simpa using hz)) hr
   refine⟨u,w,G,⟨rfl,rfl⟩,.inl ?_,Step.refl hst.inv,h4⟩
   simp only[execOp,ho,resolve,hb,Sem.run_bind,Sem.run_pure,Result.andThen_ok,invoke,builtin,Builtin.min_,w7,hy,wG,h3]
theorem z3i {c:Call}{args:List Opd}(hg:GlOk w.heap G gl)(hst:StOk w.heap G st a.tmps)(ho:o.op= .call c)(hb:c.callee= .builtin .max)
  (hargs:mapO zag c.args.toList=some args) (hs:zaa gl cl st o.dst (.maxi args)=some (v,us)):Good P w G st.hp (execOp a.eval o) v us:=by
 obtain⟨h1,h2⟩:=zlc hg hst hargs
 simp only[zaa]at hs
 split at hs
 . cases hs
 . rename_i x l hl
   simp only[wS,wX]at hs
   obtain⟨r,hr,rfl,rfl⟩:=hs
   rw[hl]at h1 h2
   obtain⟨y,ys,hy⟩:∃y ys,c.args.toList=y::ys:=by
    cases h:c.args.toList with
    | nil=>rw[h]at h1;simp at h1
    | cons y ys=>exact⟨y,ys,rfl⟩
   rw[hy]at h1 h2
   obtain⟨x',hx',hr0⟩:=h2 0 y rfl
   simp only[wB,wR]at hx'
   subst hx'
   obtain⟨u,h3,h4⟩:=zmy (P:=P) (w:=w) (g:=Builtin.max2) (fun v v' x y z hx hy h=>z14 hx hy h) l (ys.map a.eval) (a.eval y) x r hr0 (by simpa using h1.symm) (fun i u hi=>by
    rw[wM,wS]at hi
    obtain⟨z,hz,rfl⟩:=hi
    simpa using h2 (i+1) z (by simpa using hz)) hr
   refine⟨u,w,G,⟨rfl,rfl⟩,.inl ?_,Step.refl hst.inv,h4⟩
   simp only[execOp,ho,resolve,hb,Sem.run_bind,Sem.run_pure,Result.andThen_ok,invoke,builtin,Builtin.max_,w7,hy,wG,h3]
end Go.Ev
