/-
  One operation of the evaluator is one of the model's: parts of slices and arrays. No condition.
-/
import Derived.Test.YtaloneiaejhopaaGreatDoorEvOpsA
set_option linter.all false
open List renaming getElem?_cons_zero->wB,getElem?_toArray->wC,getElem?_cons_succ->wD,all_eq_true->wE,mem_of_mem_take->wF,getElem?_eq_some_iff->wG,getElem?_eq_getElem->wH,map_cons->wJ,mem_append->wK,map_toArray->wM,toList_toArray->wN,mem_of_mem_drop->wO,length_nil->wP,getElem_of_mem->wQ,nil_append->wR,mem_of_getElem?->wS,map_nil->wT,getElem_mem->wU,getElem_map->wW,length_append->wX,length_take->wY,isEmpty_iff->wZ,cons_append->w0,length_pos_iff->w2,getElem_append_left->w3,length_eq_zero_iff->w5,getElem?_range'->w6,range->w7,mem_singleton->w8,size_toArray->w9,eraseIdx_eq_take_drop_succ->wa,append_nil->wb,getElem?_append_right->wd,getElem_append_right->we,getElem?_zip_eq_some->wg,getElem?_append_left->wh,eq_of_mem_replicate->wi,all_cons->wj,length_replicate->wk,getElem_toArray->wm,getElem_modify->wo,getElem?_set->wp,getElem?_map->wr,append_assoc->ws,forIn_cons->wt,map_take->wu,mem_map->wv
open Go.Sem renaming run_bind->ww,run_pure->wx
open Go.Result renaming andThen_ok->wy
open Bool renaming and_eq_true->WA,false_eq_true->WD,not_false->WF,not_eq_true'->WG,or_eq_true->WH,true_and->WJ
open Option renaming some.injEq->WK,map_eq_some_iff->WL,ite_none_right_eq_some->WM,bind_eq_some_iff->WN,map_none->WO,map_some->WP,isNone_iff_eq_none->WQ
open Prod renaming mk.injEq->WR
open Nat renaming zero_add->WT,le_refl->WU,mul_le_mul_right->WV,add_mul->WW,le_add_right->WX,add_zero->WY,mul_le_mul_left->WZ,zero_mul->W0,ne_of_lt->W1,sub_zero->W2,mul_one->W3
open Array renaming getElem?_eq_some_iff->W5,getElem?_append_left->W6,toArray_toList->W7,getElem?_push->W8,getElem?_toList->W9,forIn_toList->Wa,size_append->Wb,size_range->Wc,size_map->We,getElem_modify->Wf,toList_append->Wg,ext_getElem?->Wh,toList_map->Wi,ext->Wj
open Classical renaming byContradiction->Wk
namespace Go.Ev
open Go
variable {im :Im} {P:Program} {w:World} {H:aT} {G:Gh} {gl:Gl} {cl:Cl} {st:St} {a:Act} {o:Oper} {m:MOp} {v:AV} {us:Hp}
theorem uI {l:List AV}{b1 b2:Nat}:(l.take b2).drop b1=sub l b1 (b2-b1):=by unfold sub;rw[List.drop_take]
theorem sY {H:aT}{sh:Sh}{l:List AV}{b:Option Addr}{cap cap' b1 b2 esz:Nat}{full':Bool}(h12:b1<=b2)(h2:b2<=l.length)(hcap:l.length<=cap)
  (hcap':b2<=cap') (hf:full'=true->cap'=b2) (hsz:l.isEmpty=true\/sh.size=esz) (hsh:∀x∈l,aD sh x=true/\x.plain=true/\x.wf)
  (hor:l=[]\/∃k off c e fz,b=some ⟨k,off,none⟩/\G.imm k/\H[k]? =some (.cells c e fz)/\RepC H G c off (AV.flats l)) :
  RepS H G (.slice (if cap'=b1 then b else b.map (·.add (b1*esz))) (b2-b1) (cap'-b1)) (.lst full' sh ((l.take b2).drop b1)):=by
 have hlen:((l.take b2).drop b1).length=b2-b1:=by simp;omega
 have hsub:∀x∈(l.take b2).drop b1,aD sh x=true/\x.plain=true/\x.wf:=fun x hx=>hsh x (wF (wO hx))
 have:=oo (H:=H) (G:=G) (full:=full') (sh:=sh) (l:=(l.take b2).drop b1) (b:=if cap'=b1 then b else b.map (·.add (b1*esz))) (cap:=cap'-b1) (by omega)
  (fun h=>by rw[hf h,hlen]) hsub ?_
 . rwa [hlen]at this
 . by_cases he:b1=b2
   . left;rw[List.eq_nil_iff_length_eq_zero,hlen];omega
   . right;rcases hor with rfl|⟨k,off,c,e,fz,rfl,h5,h6,h7⟩
     . simp at h2;omega
     have hne:cap'≠b1:=by omega
     have hes:sh.size=esz:=by
      rcases hsz with h|h
      . simp only[wZ]at h;subst h;simp at h2;omega
      . exact h
     obtain⟨f1,f2,f3⟩:=fp (n:=sh.size) (l:=l) (fun x hx=>aB sh x (hsh x hx).1) b1 (b2-b1) (by omega);refine⟨k,off+b1*esz,c,e,fz,by simp[hne,cY],h5,h6,?_⟩;rw[uI];have:=h7.part f1
     rwa [f2,hes]at this
theorem fg {t e:TypeId}{b:Option Addr}{len cap sz l h m:Nat}{lo hi mx:Option Value}(hu:P.underlying t=some (.slice e))(hsz:(P.info? e).map (·.size)=some sz)
  (hb:(Instr.sliceBounds true len cap lo hi mx).run P w= .ok (l,h,m) w) :
  (Instr.sliceAt t (.slice b len cap) lo hi mx).run P w= .ok (.slice (if m=l then b else b.map (·.add (l*sz))) (h-l) (m-l)) w:=by
 simp only[Instr.sliceAt,Instr.slice,ww,aC hu,wy,hb,br hsz,wx]
theorem Rr {isS:Bool}{N len cap:Nat}{lo hi:Option Value}(h:hi.isSome=true):Instr.sliceBounds isS N cap lo hi none=Instr.sliceBounds isS len cap lo hi none:=by
 cases hi with
 | none=>cases h
 | some x=>rfl
theorem F4 {t e:TypeId}{x:Operand}{lo hi mx:Option Operand}{x':Opd}{lo2 hi2 mx2:Option Opd}{i:TypeInfo}(hg:GlOk w.heap G gl)(hst:StOk w.heap G st a.tmps)
  (ho:o.op= .slice t x lo hi mx) (hx:aw x=some x') (hlo:bR lo=some lo2) (hhi:bR hi=some hi2) (hmx:bR mx=some mx2)
  (hu:P.underlying t=some (.slice e)) (hi':P.info? e=some i)
  (hs:af gl cl st o.dst (.slSl i.size x' lo2 hi2 mx2)=some (v,us)):bX P w G st.hp (execOp a.eval o) v us:=by
 have hvx:=aG hg hst hx;have hsz:(P.info? e).map (·.size)=some i.size:=by simp[hi']
 simp only[af]at hs
 cases hv:Opd.val gl st.fr x' with
 | lst full sh l =>
   rw[hv,aq rfl]at hvx;obtain⟨b,cap,hev,hcap,hfull,hsh,hor⟩:=eh hvx;simp only[hv]at hs;split at hs
   . rename_i hcond;simp only[WH,beq_iff_eq]at hcond;simp only[WN]at hs;obtain⟨⟨b1,b2⟩,hb,hs⟩:=hs;rcases cN hg hst hmx with ⟨rfl,rfl⟩|⟨mo,my,rfl,rfl,hrm⟩
     . simp only[WK,WR]at hs;obtain⟨rfl,rfl⟩:=hs;obtain⟨h1,h2,h3⟩:=ib (P:=P) (isS:=true) hg hst hlo hhi hb hcap;refine⟨_,w,G,⟨rfl,rfl⟩,.inl ?_,Step.refl hst.inv,(aq rfl).2 (sY (cap':=cap) (esz:=i.size) h2 h3 hcap (by omega) (fun hf=> ?_) hcond hsh hor)⟩
       . simp only[execOp,ho,hev,WO,ww,fg hu hsz h1,wy,wx]
       . simp only[WA]at hf;rw[hfull hf.1];rcases cN hg hst hhi with ⟨rfl,rfl⟩|⟨_,_,rfl,rfl,_⟩
         . rcases cN hg hst hlo with ⟨rfl,rfl⟩|⟨x2,y2,rfl,rfl,hr2⟩
           . simp only[eX,WO,WK,WR]at hb;exact hb.2
           . simp only[eX,WO,WP]at hb;cases hv2:Opd.val gl st.fr y2<;>simp only[hv2]at hb<;>(try (cases hb;done));split at hb
             . simp only[WK,WR]at hb;exact hb.2
             . cases hb
         . simp at hf;exact hf.2.symm
     . simp only at hs;cases hvm:Opd.val gl st.fr my<;>simp only[hvm]at hs hrm<;>(try (cases hs;done));split at hs
       . rename_i km mm hmm;simp only[WA,decide_eq_true_eq]at hmm;obtain⟨hsome2,hmm⟩:=hmm;simp only[WK,WR]at hs;obtain⟨rfl,rfl⟩:=hs
         have hsome:hi.isSome=true:=by
          rcases cN hg hst hhi with ⟨rfl,rfl⟩|⟨_,_,rfl,rfl,_⟩
          . simp at hsome2
          . rfl
         obtain⟨h1,h2,h3⟩:=zZ (P:=P) (isS:=true) (km:=km) hg hst hlo hhi hb hcap hsome;refine⟨_,w,G,⟨rfl,rfl⟩,.inl ?_,Step.refl hst.inv,(aq rfl).2 (sY (cap':=b2) (esz:=i.size) h2 h3 hcap (WU _) (fun _=>rfl) hcond hsh hor)⟩;have hem:=aU hrm;rw[hmm]at hem;simp only[execOp,ho,hev,WP,hem,ww,fg hu hsz h1,wy,wx]
       . cases hs
   . cases hs
 | sl k p off len =>
   rw[hv,aq rfl]at hvx;simp only[hv]at hs;have go:∀(N b1 b2:Nat) (e':Sh),(∀b c X,G.reg k≠some (.nst b c X))->mx=none->e'.size=i.size->(hi.isSome=true\/N=len)->(G.reg k=some .nil->N<=len) ->
     (∀b root m e2,G.reg k=some (.blk b root)->root.sub p=some (.ar m e2)->e2=e'/\N<=max len (m-off)) ->
     eX N (lo2.map (Opd.val gl st.fr)) (hi2.map (Opd.val gl st.fr))=some (b1,b2)->bX P w G st.hp (execOp a.eval o) (.sl k p (off+b1) (b2-b1)) []:=by
    intro N b1 b2 e' hno hm he hN hnil hsame hb;subst hm;rcases bF hvx hno with ⟨a0,rfl,rfl,rfl,hev,hreg⟩|⟨b,root,mm,e2,o',xo,hr,hsub,hof,hle,hev,hxo⟩
    . obtain rfl:N=0:=by have:=hnil hreg;omega
      obtain⟨h1,h2,h3⟩:=ib (P:=P) (isS:=true) hg hst hlo hhi hb (WU 0);obtain rfl:b1=0:=by omega
      obtain rfl:b2=0:=by omega
      refine⟨_,w,G,⟨rfl,rfl⟩,.inl ?_,Step.refl hst.inv,(aq rfl).2 (.slNil k a0 hreg)⟩;simp only[execOp,ho,hev,WO,ww,fg hu hsz h1,wy,wx];simp
    . obtain⟨hee,hNm⟩:=hsame b root mm e2 hr hsub;obtain⟨h1,h2,h3⟩:=ib (P:=P) (isS:=true) hg hst hlo hhi hb (show N<=mm-off by omega)
      have h1:(Instr.sliceBounds true len (mm-off) (lo.map a.eval) (hi.map a.eval) none).run P w= .ok (b1,b2,mm-off) w:=by
       rcases hN with hN|hN
       . rw[Rr (N:=len) (len:=N) (by simpa using hN)];exact h1
       . rw[<-hN];exact h1
      subst hee;by_cases hz:mm-off=b1
      . obtain rfl:b2=b1:=by omega
        refine⟨.slice (some ⟨b,xo,none⟩) 0 0,w,G,⟨rfl,rfl⟩,.inl ?_,Step.refl hst.inv,(aq rfl).2 ?_⟩
        . simp only[execOp,ho,hev,WO,ww,fg hu hsz h1,wy,wx];simp[hz]
        . have:=RepS.slZ (H:=w.heap) (G:=G) k p (off+b2) b xo root mm e2 hr hsub (by omega);simpa using this
      . have hlt:off<mm:=by omega
        refine⟨.slice (some ⟨b,xo+b1*i.size,none⟩) (b2-b1) (mm-off-b1),w,G,⟨rfl,rfl⟩,.inl ?_,Step.refl hst.inv,(aq rfl).2 ?_⟩
        . simp only[execOp,ho,hev,WO,ww,fg hu hsz h1,wy,wx];simp[hz,cY]
        . have:=RepS.sl (H:=w.heap) (G:=G) k p (off+b1) (b2-b1) b root mm e2 o' hr hsub hof (by omega);rw[hxo hlt,<-he,show mm-off-b1=mm-(off+b1) by omega,Nat.add_assoc,<-WW];exact this
   rcases cN hg hst hmx with ⟨rfl,rfl⟩|⟨mo,my,rfl,rfl,hrm⟩
   . cases hk:st.hp.get k with
     | none=>simp[hk]at hs
     | some ob =>
       cases ob with
       | dead=>simp[hk]at hs
       | lp _ _ _=>simp[hk]at hs
       | mp _ _=>simp[hk]at hs
       | nest _=>simp[hk]at hs
       | fix sh z =>
         simp only[hk]at hs;split at hs
         . rename_i m' e' hsub;split at hs
           . rename_i hes;simp only[WL,WR]at hs;obtain⟨⟨b1,b2⟩,hb,rfl,rfl⟩:=hs;refine go len b1 b2 e' (Nn hst hk) rfl hes (.inr rfl) (fun _=>WU _) (fun b root m2 e2 hr hs2=> ?_) hb;have:=kL hst.inv hk hr;subst this;rw[hsub]at hs2;cases hs2;exact⟨rfl,by omega⟩
           . cases hs
         . cases hs
       | grow sh els =>
         cases p with
         | cons _ _=>simp[hk]at hs
         | nil =>
           simp only[hk]at hs;split at hs
           . rename_i hes;simp only[WL,WR]at hs;obtain⟨⟨b1,b2⟩,hb,rfl,rfl⟩:=hs;refine go _ b1 b2 sh (RU hst hk) rfl hes ?_ (fun hn=> ?_) (fun b root m2 e2 hr hs2=> ?_) hb
             . rcases cN hg hst hhi with ⟨rfl,rfl⟩|⟨_,_,rfl,rfl,_⟩
               . exact .inr rfl
               . exact .inl rfl
             . rcases hst.inv.obs k _ hk with ⟨h2,_⟩|⟨b',cap,c,e,fz,hr',hle,_⟩
               . subst h2;split
                 . simp
                 . exact WU _
               . rw[hn]at hr';cases hr'
             . obtain⟨cap,rfl,hcap⟩:=lQ hst.inv hk hr;simp only[Sh.sub,WK,Sh.ar.injEq]at hs2;refine⟨hs2.2.symm,?_⟩;have:=hs2.1;split<;>omega
           . cases hs
   . have hs':(match Opd.val gl st.fr my with
      | .int _ mm=>if hi2.isSome&&decide (mm=len)then(eX len (lo2.map (Opd.val gl st.fr)) (hi2.map (Opd.val gl st.fr))).map fun _=>(AV.unk,([]:Hp))else none
      | _=>none)=some (v,us):=by
      cases hk:st.hp.get k with
      | none=>rw[hk]at hs;exact hs
      | some ob=>rw[hk]at hs;cases ob<;>exact hs
     cases hvm:Opd.val gl st.fr my<;>simp only[hvm]at hs' hrm<;>(try (cases hs';done));rename_i km mm;rw[WM,WL,WA,decide_eq_true_eq]at hs';obtain⟨⟨hsome2,hmm⟩,⟨b1,b2⟩,hb,hs'⟩:=hs';cases hs';have hsome:hi.isSome=true:=by
      rcases cN hg hst hhi with ⟨rfl,rfl⟩|⟨_,_,rfl,rfl,_⟩
      . simp at hsome2
      . rfl
     have hem:=aU hrm;rw[hmm]at hem;rcases qi hvx with ⟨a0,rfl,hev⟩|⟨b,xo,c2,hev,hle⟩
     . obtain⟨h1,h2,h3⟩:=qg (P:=P) (isS:=true) (km:=km) hg hst hlo hhi hb (WU 0) hsome;refine⟨.slice (if 0=b1 then a0 else a0.map (·.add (b1*i.size))) (b2-b1) (0-b1),w,G,⟨rfl,rfl⟩,.inl ?_,Step.refl hst.inv,trivial⟩;simp only[execOp,ho,hev,WP,hem,ww,fg hu hsz h1,wy,wx]
     . obtain⟨h1,h2,h3⟩:=qg (P:=P) (isS:=true) (km:=km) hg hst hlo hhi hb hle hsome;refine⟨.slice (if len=b1 then some ⟨b,xo,none⟩else(some ⟨b,xo,none⟩:Option Addr).map (·.add (b1*i.size))) (b2-b1) (len-b1),w,G,⟨rfl,rfl⟩,.inl ?_,Step.refl hst.inv,trivial⟩;simp only[execOp,ho,hev,WP,hem,ww,fg hu hsz h1,wy,wx]
 | _=>simp[hv]at hs
theorem CE {t e:TypeId}{n:Nat}{x:Operand}{lo hi mx:Option Operand}{x':Opd}{lo2 hi2:Option Opd}{i:TypeInfo}(hg:GlOk w.heap G gl)(hst:StOk w.heap G st a.tmps)
  (ho:o.op= .slice t x lo hi mx) (hx:aw x=some x') (hlo:bR lo=some lo2) (hhi:bR hi=some hi2) (hmx:mx=none)
  (hu:P.underlying t=some (.array n e)) (hi':P.info? e=some i)
  (hs:af gl cl st o.dst (.slArr n i.size x' lo2 hi2)=some (v,us)):bX P w G st.hp (execOp a.eval o) v us:=by
 have hvx:=aG hg hst hx;have hsz:(P.info? e).map (·.size)=some i.size:=by simp[hi']
 subst hmx;have run:∀{b off b1 b2:Nat},a.eval x= .pointer (some ⟨b,off,none⟩)->eX n (lo2.map (Opd.val gl st.fr)) (hi2.map (Opd.val gl st.fr))=some (b1,b2) ->
   (execOp a.eval o).run P w= .ok (.value (.slice (if n=b1 then some ⟨b,off,none⟩else some ⟨b,off+b1*i.size,none⟩) (b2-b1) (n-b1))) w/\b1<=b2/\b2<=n:=by
  intro b off b1 b2 hev hb;obtain⟨h1,h2,h3⟩:=ib (P:=P) (isS:=false) hg hst hlo hhi hb (WU n);refine⟨?_,h2,h3⟩;simp only[execOp,ho,hev,Instr.sliceAt,Instr.sureAddr,WO,ww,aC hu,h1,br hsz,wy,wx];by_cases h:n=b1<;>simp[h,cY]
 simp only[af]at hs
 cases hv:Opd.val gl st.fr x' with
 | ptr k p =>
   rw[hv,aq rfl]at hvx;have hN:∀b c X,G.reg k≠some (.nst b c X):=fun b c X hr=>by rcases hst.inv.isN hr with ⟨els,he⟩|he<;>simp[hv,he]at hs
   obtain⟨b,root,off,hev,hr,hof⟩:=je hvx hN;simp only[hv]at hs
   cases hk:st.hp.get k with
   | none=>simp[hk]at hs
   | some ob =>
     cases ob with
     | dead=>simp[hk]at hs
     | lp _ _ _=>simp[hk]at hs
     | mp _ _=>simp[hk]at hs
     | nest _=>simp[hk]at hs
     | grow sh els=>simp[hk]at hs
     | fix sh z =>
       have:=kL hst.inv hk hr;subst this;simp only[hk]at hs;split at hs
       . rename_i n' e' hsub;split at hs
         . rename_i hcond;obtain⟨rfl,hes⟩:=hcond;simp only[WL,WR]at hs;obtain⟨⟨b1,b2⟩,hb,rfl,rfl⟩:=hs;obtain⟨h1,h2,h3⟩:=run hev hb;refine⟨_,w,G,⟨rfl,rfl⟩,.inl h1,Step.refl hst.inv,(aq rfl).2 ?_⟩;by_cases h:n'=b1
           . subst h;obtain rfl:b2=n':=by omega
             have:=RepS.slZ (H:=w.heap) (G:=G) k p b2 b off root b2 e' hr hsub rfl;simpa using this
           . rw[if_neg h,<-hes];exact .sl k p b1 (b2-b1) b root n' e' off hr hsub hof (by omega)
         . cases hs
       . cases hs
 | cp sh z =>
   rw[hv,aq rfl]at hvx;obtain⟨b,off,c,e',fz,hev,himm,hb,hrc,h1,h2,h3⟩:=qW hvx;cases sh<;>(try (simp[hv]at hs;done));rename_i n' e'';cases z<;>(try (simp[hv]at hs;done));rename_i l;simp only[hv]at hs
   . split at hs
     . rename_i hcond;obtain⟨rfl,hes⟩:=hcond;simp only[WL,WR]at hs;obtain⟨⟨b1,b2⟩,hbn,rfl,rfl⟩:=hs;obtain⟨g1,g2,g3⟩:=run hev hbn;rw[bS]at h1;simp only[WA,beq_iff_eq,wE]at h1;have hw:∀y∈l,aD e'' y=true/\y.plain=true/\y.wf:=fun y hy=>⟨h1.2 y hy,((AV.wfp_iff l).1 (by simpa[AV.wf]using h3) y hy)⟩
       refine⟨_,w,G,⟨rfl,rfl⟩,.inl g1,Step.refl hst.inv,(aq rfl).2 ?_⟩;have:=sY (H:=w.heap) (G:=G) (sh:=e'') (l:=l) (b:=some ⟨b,off,none⟩) (cap:=n') (cap':=n') (b1:=b1) (b2:=b2) (esz:=i.size) (full':=hi2.isNone) g2 (by omega)
        (by omega) g3 (fun hf=> ?_) (.inr hes) hw (.inr ⟨b,off,c,e',fz,rfl,himm,hb,by rw[AV.flat]at hrc;exact hrc⟩)
       . simpa[cY]using this
       . rcases cN hg hst hhi with ⟨rfl,rfl⟩|⟨_,_,rfl,rfl,_⟩
         . rcases cN hg hst hlo with ⟨rfl,rfl⟩|⟨x2,y2,rfl,rfl,hr2⟩
           . simp only[eX,WO,WK,WR]at hbn;exact hbn.2
           . simp only[eX,WO,WP]at hbn;cases hv2:Opd.val gl st.fr y2<;>simp only[hv2]at hbn<;>(try (cases hbn;done));split at hbn
             . simp only[WK,WR]at hbn;exact hbn.2
             . cases hbn
         . simp at hf
     . cases hs
 | _=>simp[hv]at hs
theorem CS {t:TypeId}{x:Operand}(hg:GlOk w.heap G gl)(hst:StOk w.heap G st a.tmps)(ho:o.op= .sliceToArrayPointer t x)(hc:aF P im o=some m)
  (hs:af gl cl st o.dst m=some (v,us)):bX P w G st.hp (execOp a.eval o) v us:=by
 simp only[aF,ho]at hc;split at hc
 . rename_i n e hu;simp only[WL]at hc;obtain⟨x',hx,rfl⟩:=hc;have hvx:=aG hg hst hx;have run:∀{ad:Option Addr} {len cap:Nat},a.eval x= .slice ad len cap->n<=len->(execOp a.eval o).run P w= .ok (.value (.pointer ad)) w:=by intro ad len cap hev hn;simp only[execOp,ho,hev,Instr.arrayAt,ww,aC hu,wy];rw[if_neg (by omega)];rfl
   simp only[af]at hs
   cases hv:Opd.val gl st.fr x' with
   | sl k p off len =>
     rw[hv,aq rfl]at hvx;simp only[hv]at hs
     cases hk:st.hp.get k with
     | none=>simp[hk]at hs
     | some ob =>
       cases ob with
       | dead=>simp[hk]at hs
       | lp _ _ _=>simp[hk]at hs
       | mp _ _=>simp[hk]at hs
       | nest _=>simp[hk]at hs
       | grow sh els=>simp[hk]at hs
       | fix sh z =>
         simp only[hk]at hs;split at hs
         . rename_i m' e' hsub;split at hs
           . rename_i hcond;simp only[WK,WR]at hs;obtain⟨rfl,rfl⟩:=hs;rcases bF hvx with ⟨a0,rfl,rfl,rfl,hev,hreg⟩|⟨b,root,mm,e2,o',xo,hr,hsub2,hof,hle,hev,hxo⟩
             . omega
             . have:=hxo (by omega);subst this;exact⟨_,w,G,⟨rfl,rfl⟩,.inl (run hev hcond.1),Step.refl hst.inv,(aq rfl).2 (.arp k p off n b root mm e2 o' hr hsub2 hof (by omega))⟩
           . cases hs
         . cases hs
   | lst full sh l =>
     rw[hv,aq rfl]at hvx;simp only[hv]at hs;split at hs
     . rename_i hcond;simp only[WK,WR]at hs;obtain⟨rfl,rfl⟩:=hs;obtain⟨b,cap,hev,hcap,hfull,hsh,hor⟩:=eh hvx;rcases hor with rfl|⟨k,off,c,e',fz,rfl,h5,h6,h7⟩
       . simp at hcond;omega
       obtain⟨f1,f2,f3⟩:=fp (n:=sh.size) (l:=l) (fun x hx=>aB sh x (hsh x hx).1) 0 n (by omega);refine⟨_,w,G,⟨rfl,rfl⟩,.inl (run hev hcond.1),Step.refl hst.inv,(aq rfl).2 (oN h5 h6 ?_ ?_ rfl ?_)⟩
       . have:=h7.part f1;rw[f2]at this;simpa[AV.flat,sub]using this
       . rw[bS];simp only[WA,beq_iff_eq,wE,wY];exact⟨by omega,fun x hx=>(hsh x (wF hx)).1⟩
       . rw[AV.wf,AV.wfp_iff];exact fun x hx=>(hsh x (wF hx)).2
     . cases hs
   | _=>simp[hv]at hs
 . cases hc
theorem AP {c:Call}{t:TypeId}{str:Bool}{x':Opd}(hg:GlOk w.heap G gl)(hst:StOk w.heap G st a.tmps)(ho:o.op= .call c)(hb:c.callee= .builtin .len)
  {x:Operand} (hargs:c.args= #[x]) (ht:c.argTypes= #[t]) (hx:aw x=some x') (hu1:str=true->P.underlying t=some .string) (hu2:str=false->∃e,P.underlying t=some (.slice e))
  (hs:af gl cl st o.dst (.len str x')=some (v,us)):bX P w G st.hp (execOp a.eval o) v us:=by
 have hvx:=aG hg hst hx;have run:∀{vx:Value} {n:Nat},a.eval x=vx->(Builtin.len_ #[t] o.type #[vx]).run P w= .ok (goInt n) w->(execOp a.eval o).run P w= .ok (.value (.int .i64 n)) w:=by intro vx n hev hr;simp only[execOp,ho,resolve,hb,hargs,ht,ww,wx,wy,invoke,builtin,wM,wJ,wT,hev,hr];rfl
 simp only[af]at hs
 cases str with
 | true =>have hu:=hu1 rfl;cases hv:Opd.val gl st.fr x'<;>simp only[hv]at hs<;>(try (cases hs;done));rename_i l;rw[hv]at hvx;simp only[WK,WR]at hs;obtain⟨rfl,rfl⟩:=hs;refine⟨_,w,G,⟨rfl,rfl⟩,.inl (run (ee hvx) ?_),Step.refl hst.inv,ba _ _⟩;simp[Builtin.len_,aC hu];rfl
 | false =>
   obtain⟨e,hu⟩:=hu2 rfl;cases hv:Opd.val gl st.fr x'<;>simp only[hv]at hs<;>(try (cases hs;done))
   . rename_i full sh l;rw[hv,aq rfl]at hvx;simp only[WK,WR]at hs;obtain⟨rfl,rfl⟩:=hs;obtain⟨b,cap,hev,_⟩:=eh hvx;exact⟨_,w,G,⟨rfl,rfl⟩,.inl (run hev (by simp[Builtin.len_,aC hu])),Step.refl hst.inv,ba _ _⟩
   . rename_i k p off n;rw[hv,aq rfl]at hvx;simp only[WK,WR]at hs;obtain⟨rfl,rfl⟩:=hs
     have hev:∃b cap,a.eval x= .slice b n cap:=by
      rcases qi hvx with ⟨a0,rfl,hev⟩|⟨b,xo,c2,hev,hle⟩
      . exact⟨_,_,hev⟩
      . exact⟨_,_,hev⟩
     obtain⟨b,cap,hev⟩:=hev;exact⟨_,w,G,⟨rfl,rfl⟩,.inl (run hev (by simp[Builtin.len_,aC hu])),Step.refl hst.inv,ba _ _⟩
theorem gz {n:Nat}{t:TypeId}{sh:Sh}{x:AV}{cs:Array Value}{off:Nat}(hsh:dh P n t=some sh)(hx:aD sh x=true)(hw:x.wf)
  (hr:∀j (h:j<x.flat.length),∃v,cs[off+j]? =some v/\RepS w.heap G v x.flat[j]):∃v,(part t cs off).run P w= .ok v w/\RepV w.heap G v x:=by
 have hk:=bV hx;have hlen:=aB sh x hx;obtain⟨val,hval,hrv⟩:=ic (H:=w.heap) (G:=G) (c:=cs) (off:=off) (l:=x.flat) hr;refine⟨_,?_,po hk hw hrv⟩;simp only[part,ww,kG hsh,wy];have hag:=pL hx
 cases hs:sh.agg with
 | true =>
   simp only[if_true,ww,br (bx hsh),wy,wx,dQ,hag,hs]
   congr 2
   apply Wh;intro j;rw[Array.getElem?_extract];by_cases hj:j<x.flat.length
   . have h1:=hval j hj;obtain⟨hlt,h2⟩:=W5.1 h1;rw[if_pos (by omega),h1];simp[hj]
   . rw[if_neg (by omega)];simp[hj]
 | false =>
   have hsc:x.scalar=true:=by rw[hs]at hag;revert hag hk;cases x<;>simp[AV.isAgg,AV.scalar,AV.known]
   have h0:=hval 0 (by rw[AV.flat_scalar hsc];simp);simp only[WD,if_false,dQ,hag,hs];rw[WY]at h0;rw[h0,AV.flat_scalar hsc];rfl
theorem eP {H:aT}{v:Value}{x:AV}(h:RepT H G v x)(ha:x.isAgg=true):∃cs:Array Value,v= .agg cs/\RepL H G cs.toList (AV.flats x.kids)/\x.wf:=by
 have hk:x.known=true:=by revert ha;cases x<;>simp[AV.isAgg,AV.known]
 rw[RepT.of_known hk]at h;obtain⟨vs,_,hl,hv,_⟩:=h.cells;exact⟨vs.toArray,by rw[hv,dQ,if_pos ha],by rw[AV.flat_kids ha]at hl;simpa using hl,h.wf⟩
theorem CM {t:TypeId}{x:Operand}{f:Nat}(hg:GlOk w.heap G gl)(hst:StOk w.heap G st a.tmps)(ho:o.op= .field t x f)(hc:aF P im o=some m)
  (hs:af gl cl st o.dst m=some (v,us)):bX P w G st.hp (execOp a.eval o) v us:=by
 simp only[aF,ho,WN,WL]at hc;obtain⟨sh,hsh,x',hx,rfl⟩:=hc;have hvx:=aG hg hst hx
 cases sh with
 | st fs =>
   simp only[af]at hs;split at hs
   . rename_i hfs;simp only[WL,WR]at hs;obtain⟨r,hr,rfl,rfl⟩:=hs;simp only[aD,WA]at hfs;obtain⟨cs,hev,hrl,hw⟩:=eP hvx hfs.1
     have hu:∃fields,P.underlying t=some (.struct fields):=by
      have h0:=kG (w:=w) hsh;simp only[Sh.agg,isAgg,ww]at h0
      cases hu:P.underlying t with
      | none=>simp[SF,dh,hu]at hsh
      | some d =>
        cases d with
        | struct fields=>exact⟨fields,rfl⟩
        | array k e=>obtain⟨s,h1,_⟩:=fc hsh hu;cases h1
        | _=>simp[aC hu]at h0
     obtain⟨fields,hu⟩:=hu;obtain⟨fs',e1,e2,e3⟩:=dW hsh hu;cases e1;have hi:f<(Opd.val gl st.fr x').kids.length:=(wG.1 hr).1;have hlen:=gp hfs.2;have hf:fields[f]? =some (fields[f]'(by omega)):=by simp[show f<fields.size by omega]
     obtain⟨s,g1,g2,g3,n',g4⟩:=e3 f _ hf;obtain⟨r',hr',hsr⟩:=ew hfs.2 g1;rw[hr]at hr';cases hr';obtain⟨pre,post,k1,k2,_⟩:=dr hfs.2 hr;have hc:=bD hrl;have hp:=hc.part k1;rw[WT,k2]at hp;obtain⟨vr,hvr,hrr⟩:=gz (P:=P) (w:=w) (G:=G) (cs:=cs) (off:=fields[f].offset) g4 hsr (dO hw hr) (by rw[g2];exact hp);refine⟨vr,w,G,⟨rfl,rfl⟩,.inl ?_,Step.refl hst.inv,(RepT.of_known (bV hsr)).2 hrr⟩;simp only[execOp,ho,hev,Instr.field,ww,aC hu,wy,hf,asAgg,wx,hvr]
   . cases hs
 | _=>simp[af]at hs
theorem CI {t:TypeId}{x i:Operand}(hg:GlOk w.heap G gl)(hst:StOk w.heap G st a.tmps)(ho:o.op= .index t x i)(hc:aF P im o=some m)
  (hs:af gl cl st o.dst m=some (v,us)):bX P w G st.hp (execOp a.eval o) v us:=by
 simp only[aF,ho,WN]at hc;obtain⟨x',hx,i',hi,hc⟩:=hc;have hvx:=aG hg hst hx;have hvi:=aG hg hst hi;split at hc
 . rename_i hu;cases hc;simp only[af]at hs;split at hs
   . rename_i l k j hl hj;rw[hl]at hvx;rw[hj]at hvi;split at hs
     . rename_i b hb;split at hs
       . rename_i h0;simp only[WK,WR]at hs;obtain⟨rfl,rfl⟩:=hs;refine⟨_,w,G,⟨rfl,rfl⟩,.inl ?_,Step.refl hst.inv,ba _ _⟩;have hget:(ByteArray.mk ⟨l⟩)[j.toNat]? =some b:=by obtain⟨hlt,rfl⟩:=wG.1 hb;have:j.toNat<(ByteArray.mk ⟨l⟩).size:=hlt;rw[getElem?_pos (ByteArray.mk ⟨l⟩) j.toNat this];rfl
         simp only[execOp,ho,ee hvx,aU hvi,Instr.index,asIntOf,ww,wx,wy,aC hu,h0,if_true,hget]
       . cases hs
     . cases hs
   . cases hs
 . rename_i n e hu;simp only[WL]at hc;obtain⟨s,hsh,rfl⟩:=hc;simp only[af]at hs;split at hs
   . rename_i k j hj;rw[hj]at hvi;split at hs
     . rename_i hcond;simp only[WA,decide_eq_true_eq]at hcond;simp only[WL,WR]at hs;obtain⟨r,hr,rfl,rfl⟩:=hs;have hcond1:=hcond.1;simp only[aD,WA,beq_iff_eq,wE]at hcond1;obtain⟨cs,hev,hrl,hw⟩:=eP hvx hcond1.1.1;have hi':=(wG.1 hr).1;have hsr:=hcond1.2 r (wS hr);obtain⟨pre,post,k1,k2,_⟩:=cr (fun y hy=>aB s y (hcond1.2 y hy)) hr;have hp:=(bD hrl).part k1;rw[WT,k2]at hp;obtain⟨vr,hvr,hrr⟩:=gz (P:=P) (w:=w) (G:=G) (cs:=cs) (off:=j.toNat * s.size) hsh hsr (dO hw hr) hp;refine⟨vr,w,G,⟨rfl,rfl⟩,.inl ?_,Step.refl hst.inv,(RepT.of_known (bV hsr)).2 hrr⟩;have hjn:0<=j/\j<(n:Int):=by omega
       simp only[execOp,ho,hev,aU hvi,Instr.index,asIntOf,ww,wx,wy,aC hu,hjn,and_self,if_true,br (bx hsh),hvr]
     . cases hs
   . cases hs
 . cases hc
theorem nK {xs:List Operand}{ys:List Opd}(hg:GlOk w.heap G gl)(hst:StOk w.heap G st a.tmps)(h:bw aw xs=some ys) :
  (vals gl st.fr ys).length=xs.length/\∀(i:Nat) (x:Operand),xs[i]? =some x->∃y,(vals gl st.fr ys)[i]? =some y/\RepT w.heap G (a.eval x) y:=by
 obtain⟨h1,h2⟩:=fm h;have hv:∀(ys:List Opd),vals gl st.fr ys=ys.map (Opd.val gl st.fr):=fun ys=>by
  induction ys with
  | nil=>rfl
  | cons y ys ih=>simp[vals,ih]
 refine⟨by simp[hv,h1],fun i x hx=> ?_⟩;obtain⟨y,hy,hxy⟩:=h2 i x hx;exact⟨y.val gl st.fr,by simp[hv,hy],aG hg hst hxy⟩
theorem kH :∀{l:List AV},AV.scalars l=true↔∀x∈l,x.scalar=true
 | []=>by simp[AV.scalars]
 | a::l=>by simp[AV.scalars,kH (l:=l)]
theorem F7 {fn:Fn}{first caps:Array Operand}(hg:GlOk w.heap G gl)(hst:StOk w.heap G st a.tmps)(ho:o.op= .makeFunc fn first caps)(hc:aF P im o=some m)
  (hs:af gl cl st o.dst m=some (v,us)):bX P w G st.hp (execOp a.eval o) v us:=by
 cases fn<;>try (simp[aF,ho]at hc;done)
 rename_i f;rcases first with ⟨_|⟨x0,r0⟩⟩
 . simp only[aF,ho,w9,wP,if_true,WM,WL]at hc;obtain⟨hb,l,hl,rfl⟩:=hc;obtain⟨h1,h2⟩:=nK hg hst hl;simp only[af]at hs;split at hs
   . rename_i hsc;simp only[WK,WR]at hs;obtain⟨rfl,rfl⟩:=hs;refine⟨.func (.func f) #[] (caps.map a.eval),w,G,⟨rfl,rfl⟩,.inl ?_,Step.refl hst.inv,(aq rfl).2 ?_⟩
     . simp[execOp,ho,Instr.makeFunc]
     . refine .fn _ f _ _ (if_pos hb) (by simp[h1]) hsc (fun i=>(caps.map a.eval).getD i undef) (fun i hi=> ?_) (fun i hi=> ?_)
       . have:i<caps.size:=by rw[h1]at hi;simpa using hi
         simp[this]
       . have hi':i<caps.size:=by rw[h1]at hi;simpa using hi
         obtain⟨y,hy,hr⟩:=h2 i caps[i] (by simp[hi']);rw[wH hi]at hy;simp only[WK]at hy;rw[<-hy,aq (kH.1 hsc _ (wU hi))]at hr;simpa[hi']using hr
   . cases hs
 . rcases caps with ⟨_|_⟩
   . generalize hfi:(⟨x0::r0⟩:Array Operand)=caps at *
     have h0:¬caps.size=0:=by rw[<-hfi];simp
     simp only[aF,ho,if_neg h0,w9,wP,if_true,WL]at hc;obtain⟨l,hl,rfl⟩:=hc;obtain⟨h1,h2⟩:=nK hg hst hl;simp only[af]at hs;split at hs
     . rename_i hsc;simp only[WK,WR]at hs;obtain⟨rfl,rfl⟩:=hs;refine⟨.func (.func f) (caps.map a.eval) #[],w,G,⟨rfl,rfl⟩,.inl ?_,Step.refl hst.inv,(aq rfl).2 ?_⟩
       . simp[execOp,ho,Instr.makeFunc]
       . refine .fn _ (MB+f) _ (caps.map a.eval) (by unfold fnV;rw[if_neg (by omega),Nat.add_sub_cancel_left]) (by simp[h1]) hsc (fun i=>(caps.map a.eval).getD i undef) (fun i hi=> ?_) (fun i hi=> ?_)
         . have:i<caps.size:=by rw[h1]at hi;simpa using hi
           simp[this]
         . have hi':i<caps.size:=by rw[h1]at hi;simpa using hi
           obtain⟨y,hy,hr⟩:=h2 i caps[i] (by simp[hi']);rw[wH hi]at hy;simp only[WK]at hy;rw[<-hy,aq (kH.1 hsc _ (wU hi))]at hr;simpa[hi']using hr
     . cases hs
   . simp[aF,ho]at hc
mutual
theorem Sh.beq_eq :∀{s t:Sh},Sh.beq s t=true->s=t
 | .sc,.sc,_=>rfl
 | .st fs,.st gs,h=>by rw[Sh.beq]at h;rw[Sh.beqs_eq h]
 | .ar n e,.ar m f,h=>by rw[Sh.beq,WA,beq_iff_eq]at h;rw[h.1,Sh.beq_eq h.2]
 | .sc,.st _,h=>by simp[Sh.beq]at h
 | .sc,.ar _ _,h=>by simp[Sh.beq]at h
 | .st _,.sc,h=>by simp[Sh.beq]at h
 | .st _,.ar _ _,h=>by simp[Sh.beq]at h
 | .ar _ _,.sc,h=>by simp[Sh.beq]at h
 | .ar _ _,.st _,h=>by simp[Sh.beq]at h
theorem Sh.beqs_eq :∀{s t:List Sh},Sh.beqs s t=true->s=t
 | [],[],_=>rfl
 | a::l,b::m,h=>by rw[Sh.beqs,WA]at h;rw[Sh.beq_eq h.1,Sh.beqs_eq h.2]
 | [],_::_,h=>by simp[Sh.beqs]at h
 | _::_,[],h=>by simp[Sh.beqs]at h
end
theorem mO {l:List AV}{off len:Nat}(h:off+len<=l.length):(sub l off len).length=len:=by unfold sub;rw[wY,List.length_drop];omega
theorem yg {l:List AV}{off len:Nat}{x:AV}(h:x∈sub l off len):x∈l:=wO (wF h)
theorem lE {hp:Hp}(inv:Inv H G hp){v:Value}{x:AV}{sh:Sh}{l:List AV}(hv:RepS H G v x)(hc:bn hp x=some (sh,l)) :
  ∃b cap,v= .slice b l.length cap/\(∀y∈l,aD sh y=true/\y.plain=true/\y.wf) /\
   (l=[]\/∃k off c e fz,b=some ⟨k,off,none⟩/\H[k]? =some (.cells c e fz)/\RepC H G c off (AV.flats l)):=by
 cases x with
 | lst full sh' l' =>
   simp only[bn,WK,WR]at hc;obtain⟨rfl,rfl⟩:=hc;obtain⟨b,cap,h1,_,_,h2,h3⟩:=eh hv;refine⟨b,cap,h1,h2,?_⟩;rcases h3 with h|⟨k,off,c,e,fz,h4,_,h5,h6⟩
   . exact .inl h
   . exact .inr ⟨k,off,c,e,fz,h4,h5,h6⟩
 | sl k p off len =>
   simp only[bn]at hc;split at hc
   . rename_i sh' els hk;split at hc
     . rename_i hle;simp only[WK,WR]at hc;obtain⟨rfl,rfl⟩:=hc;have hlen:=mO hle;rcases inv.obs k _ hk with ⟨h0,hreg⟩|⟨b',cap,c,e,fz,hr',hle0,hb,hsz,hf,hsh,hrc⟩
       . subst h0;simp only[wP]at hle;obtain⟨rfl,rfl⟩:off=0/\len=0:=by omega
         rcases bF hv with ⟨a0,_,_,_,hev,_⟩|⟨b,root,mm,e2,o',xo,hr,_⟩
         . exact⟨a0,0,by simpa[sub]using hev,by simp[sub],.inl rfl⟩
         . rw[hreg]at hr;cases hr
       . rcases bF hv with ⟨a0,_,_,_,hev,hreg⟩|⟨b,root,mm,e2,o',xo,hr,hs2,ho,hle2,hev,hxo⟩
         . rw[hreg]at hr';cases hr'
         rw[hr]at hr';simp only[WK,Rg.blk.injEq]at hr';obtain⟨rfl,rfl⟩:=hr';simp only[Sh.sub,WK,Sh.ar.injEq]at hs2;obtain⟨rfl,rfl⟩:=hs2;simp only[Sh.off,WK]at ho;subst ho;refine⟨_,_,by rw[hlen];exact hev,fun y hy=>hsh y (yg hy),?_⟩;by_cases h0:len=0
         . exact .inl (w5.1 (by rw[hlen,h0]))
         . have hx:=hxo (by omega);obtain⟨f1,f2,f3⟩:=fp (n:=sh'.size) (fun x hx=>aB sh' x (hsh x hx).1) off len hle;refine .inr ⟨b,xo,c,e,fz,rfl,hb,?_⟩;have:=hrc.part f1;rw[f2]at this;rw[hx];exact this
     . cases hc
   . rename_i sh' z hk;split at hc
     . rename_i n0 e0 l0 hsub hnav;split at hc
       . rename_i hle;simp only[WK,WR]at hc;obtain⟨rfl,rfl⟩:=hc;have hlen:=mO hle;rcases bF hv with ⟨a0,_,_,_,hev,hreg⟩|⟨b,root,mm,e2,o',xo,hr,hs2,ho,hle2,hev,hxo⟩
         . obtain⟨b',c,e,fz,hr',_⟩:=inv.obs k _ hk;rw[hreg]at hr';cases hr'
         obtain⟨rfl,hy,hyw,_,c,e,fz,hb,hf,hsz,hrc⟩:=lU inv hk hr ho hsub hnav;rw[hs2]at hsub;simp only[WK,Sh.ar.injEq]at hsub;obtain⟨rfl,rfl⟩:=hsub;rw[bS]at hy;simp only[WA,beq_iff_eq,wE]at hy;rw[AV.wf,AV.wfp_iff]at hyw;have hsh:∀y∈l0,aD e2 y=true/\y.plain=true/\y.wf:=fun y h=>⟨hy.2 y h,hyw y h⟩
         refine⟨_,_,by rw[hlen];exact hev,fun y hy=>hsh y (yg hy),?_⟩;by_cases h0:len=0
         . exact .inl (w5.1 (by rw[hlen,h0]))
         . have hx:=hxo (by omega);obtain⟨f1,f2,f3⟩:=fp (n:=e2.size) (fun x hx=>aB e2 x (hsh x hx).1) off len hle;refine .inr ⟨b,xo,c,e,fz,rfl,hb,?_⟩;rw[AV.flat]at hrc;have:=hrc.part f1;rw[f2]at this;rw[hx];exact this
       . cases hc
     . cases hc
   . cases hc
 | _=>simp[bn]at hc
theorem xS {c:Array Value}{off n:Nat}{l:List AV}(h:RepC H G c off l)(val:Nat->Value)(hn:n=l.length)(hv:∀j,j<l.length->c[off+j]? =some (val j)) :
  RepL H G ((w7 n).map val) l:=by
 subst hn;refine⟨by simp,fun j h1 h2=> ?_⟩;obtain⟨v,hv',hr⟩:=h j h2;rw[hv j h2]at hv';simp only[WK]at hv';simpa[hv']using hr
theorem ph {w':World}{k off n:Nat}{c:Array Value}{e:TypeId}{fz:Nat×Nat}{l:List AV}(hw:w'.heap=H)(hb:H[k]? =some (.cells c e fz))(hr:RepC H G c off l)(hn:n=l.length) :
  ∃vs:Array Value,(loadCells ⟨k,off,none⟩ n).run P w'= .ok vs w'/\RepL H G vs.toList l:=by
 obtain⟨val,hv,hr'⟩:=ic hr;refine⟨_,ga (hw▸hb) val n (by rw[hn];exact hv),?_⟩;simpa using xS hr val hn hv
structure Src (P:Program)(H:aT)(G:Gh)(v:Value)(sh:Sh)(l:List AV):Prop where
 len:∀w',(Builtin.lenOf v).run P w'= .ok l.length w'
 els:∀y∈l,aD sh y=true/\y.plain=true/\y.wf
 first:∀n size w',w'.heap=H->n<=l.length->(l=[]\/size=sh.size)->∃vs:Array Value,(Builtin.firstCells size n v).run P w'= .ok vs w'/\RepL H G vs.toList (AV.flats (l.take n))
theorem jc {hp:Hp}(inv:Inv H G hp){v:Value}{x:AV}{sh:Sh}{l:List AV}(hv:RepS H G v x)(hc:bn hp x=some (sh,l)):Src P H G v sh l:=by
 obtain⟨b,cap,rfl,h2,h3⟩:=lE inv hv hc;refine⟨fun w'=>rfl,h2,fun n size w' hw hn hs=> ?_⟩;rcases h3 with rfl|⟨k,off,c,e,fz,rfl,hb,hr⟩
 . have:n=0:=by simpa using hn
   subst this
   cases b with
   | none=>exact⟨#[],rfl,⟨rfl,fun j h=>by simp at h⟩⟩
   | some ad=>exact⟨#[],by simp only[Builtin.firstCells,loadCells,W0];rfl,⟨rfl,fun j h=>by simp at h⟩⟩
 . have hz:size=sh.size\/l=[]:=hs.symm;by_cases h0:l=[]
   . subst h0;have:n=0:=by simpa using hn
     subst this;exact⟨#[],by simp only[Builtin.firstCells,loadCells,W0];rfl,⟨rfl,fun j h=>by simp at h⟩⟩
   . have hz:size=sh.size:=hz.resolve_right h0;subst hz;obtain⟨f1,f2,f3⟩:=fp (n:=sh.size) (l:=l) (fun x hx=>aB sh x (h2 x hx).1) 0 n (by omega);have hr':=hr.part f1;rw[f2,W0,WY]at hr';have e1:sub l 0 n=l.take n:=by simp[sub]
     rw[e1]at hr' f3;obtain⟨vs,h5,h6⟩:=ph (P:=P) hw hb hr' f3.symm;exact⟨vs,h5,h6⟩
theorem lj :∀(l:List UInt8),AV.flats (az l)=az l
 | []=>rfl
 | b::l=>by simp only[az,wJ,AV.flats,AV.flat,List.singleton_append];exact congrArg _ (lj l)
theorem Dk (l:List UInt8):RepL H G (l.map fun b=>Value.int .u8 b.toNat) (az l) :=
 ⟨by simp[az],fun j h1 h2=>by simp only[az,wW];exact .int _ _⟩
theorem MF (l:List UInt8):Src P H G (.string ⟨⟨l⟩⟩) .sc (az l):=by
 refine⟨fun w'=>by simp[Builtin.lenOf,az,ByteArray.size],fun y hy=> ?_,fun n size w' hw hn _=> ?_⟩
 . simp only[az,wv]at hy;obtain⟨b,_,rfl⟩:=hy;exact⟨rfl,rfl,trivial⟩
 . refine⟨_,rfl,?_⟩;have e1:(az l).take n=az (l.take n):=by simp[az,wu]
   rw[e1,lj];have e2:((ByteArray.mk ⟨l⟩).extract 0 n).data.toList=l.take n:=by simp[ByteArray.data_extract]
   have:=Dk (H:=H) (G:=G) (l.take n);rw[<-e2]at this;rw[<-e2];simpa using this
def DS (hp:Hp)(x:AV):Option (Sh×List AV) :=
 match x with
 | .str l=>some (Sh.sc,az l)
 | a=>bn hp a
theorem DR {hp:Hp}(inv:Inv H G hp){v:Value}{x:AV}{sh:Sh}{l:List AV}(hv:RepT H G v x)(hc:DS hp x=some (sh,l)):Src P H G v sh l:=by
 unfold DS at hc;split at hc
 . rename_i b;simp only[WK,WR]at hc;obtain⟨rfl,rfl⟩:=hc;rw[ee hv];exact MF b
 . rename_i hne;have hsc:x.scalar=true:=by cases x<;>simp_all[bn,AV.scalar]
   exact jc inv ((aq hsc).1 hv) hc
theorem pF {e:TypeId}(h:AI P e=true):P.underlying e=some (.int .u8):=by
 unfold AI at h;split at h
 . assumption
 . cases h
theorem oP :∀{l:List AV} {b:List UInt8},iS l=some b->l.length=b.length/\∀(j:Nat) (x:AV),l[j]? =some x->∃n,x= .int .u8 n/\b[j]? =some (UInt8.ofNat n.toNat)
 | [],b,h=>by simp only[iS,WK]at h;subst h;simp
 | x::l,b,h=>by
   simp only[iS,WN,WL]at h;obtain⟨c,hc,r,hr,rfl⟩:=h;obtain⟨h1,h2⟩:=oP hr;refine⟨by simp[h1],fun j y hy=> ?_⟩
   cases j with
   | zero =>
     simp only[wB,WK]at hy;subst hy;unfold byteOf at hc;split at hc
     . simp only[WK]at hc;exact⟨_,rfl,by simp[hc]⟩
     . cases hc
   | succ j=>simp only[wD]at hy ⊢;exact h2 j y hy
theorem mK :∀{l:List AV},(∀x∈l,x.scalar=true)->AV.flats l=l
 | [],_=>rfl
 | x::l,h=>by rw[AV.flats,AV.flat_scalar (h x (by simp)),mK fun y hy=>h y (by simp[hy])];rfl
theorem rW :∀(vs:List Value) (s:ByteArray) (b:List UInt8),
  vs.length=b.length->(∀(j:Nat) (x:Value),vs[j]? =some x->∃n,x= .int .u8 n/\b[j]? =some (UInt8.ofNat n.toNat)) ->
  (forIn vs s (fun c r=>(match c with
    | .int .u8 n=>(pure (ForInStep.yield (r.push (UInt8.ofNat n.toNat))):Sem (ForInStep ByteArray))
    | _=>do
      let _<-(stuck "bytesToString: byte expected" :Sem PUnit)
      pure (ForInStep.yield r))):Sem ByteArray).run P w= .ok ⟨s.data++b.toArray⟩ w
 | [],s,b,h,_=>by
   have:b=[]:=by cases b<;>simp_all
   subst this;simp
 | x::vs,s,c::b,h,hv=>by obtain⟨n,rfl,hb⟩:=hv 0 x rfl;simp only[wB,WK]at hb;simp only[wt,ww,wx,wy];rw[rW vs _ b (by simpa using h) (fun j x hj=>by simpa using hv (j+1) x (by simpa using hj))];simp[ByteArray.push,hb]
 | _::_,_,[],h,_=>by simp at h
theorem nW {vs:Array Value}{k off len cap:Nat}{b:List UInt8}(hr:(loadCells ⟨k,off,none⟩ len).run P w= .ok vs w)(hl:vs.size=b.length)
  (hv:∀(j:Nat) (x:Value),vs[j]? =some x->∃n,x= .int .u8 n/\b[j]? =some (UInt8.ofNat n.toNat)) :
  (Conv.bytesToString (.slice (some ⟨k,off,none⟩) len cap)).run P w= .ok (.string ⟨⟨b⟩⟩) w:=by
 have key:=rW (P:=P) (w:=w) vs.toList ByteArray.empty b (by simpa using hl) (fun j x hj=>hv j x (by simpa using hj));simp only[Conv.bytesToString,ww,hr,wy,<-Wa];erw [key];have e1:ByteArray.empty.data++b.toArray=⟨b⟩:=by have:ByteArray.empty.data= #[]:=rfl;rw[this];simp
 rw[e1];rfl
theorem JZ {s d e:TypeId}{x:Operand}{x':Opd}(hg:GlOk w.heap G gl)(hst:StOk w.heap G st a.tmps)(ho:o.op= .convert s d x)
  (hs':P.underlying s=some (.slice e)) (hd:P.underlying d=some .string) (h8:AI P e=true) (hx:aw x=some x')
  (hs:af gl cl st o.dst (.b2s x')=some (v,us)):bX P w G st.hp (execOp a.eval o) v us:=by
 have hvx:=aG hg hst hx;simp only[af]at hs;split at hs
 . rename_i l hc;simp only[WL,WR]at hs;obtain⟨b,hb,rfl,rfl⟩:=hs;have hsc:(Opd.val gl st.fr x').scalar=true:=by revert hc;cases Opd.val gl st.fr x'<;>simp[bn,AV.scalar]
   rw[aq hsc]at hvx;obtain⟨b',cap,hev,hels,hor⟩:=lE hst.inv hvx hc;obtain⟨hlen,hget⟩:=oP hb;have hu8:=pF h8;refine⟨.string ⟨⟨b⟩⟩,w,G,⟨rfl,rfl⟩,.inl ?_,Step.refl hst.inv,gB _⟩;have run:(Conv.bytesToString (a.eval x)).run P w= .ok (.string ⟨⟨b⟩⟩) w:=by
    rw[hev];have hz:l=[]->(AV.flats l)=[]:=fun h=>by rw[h];rfl
    have hfl:AV.flats l=l:=mK fun y hy=>by have:=(hels y hy).1;simpa[aD]using this
    rcases hor with rfl|⟨k,off,c,e',fz,rfl,hb',hr⟩
    . have:b=[]:=by cases b<;>simp_all
      subst this
      cases b' with
      | none=>rfl
      | some ad =>obtain⟨k,off,sp⟩:=ad;simp only[Conv.bytesToString,wP,ww];rfl
    . rw[hfl]at hr;obtain⟨vs,h1,h2⟩:=ph (P:=P) rfl hb' hr rfl;refine nW h1 (by rw[<-hlen];simpa using h2.len) fun j y hy=> ?_
      obtain⟨hj,rfl⟩:=W5.1 hy;have hjl:j<l.length:=by have:=h2.len;simp at this;omega
      have hrep:=h2.get j (by simpa using hj) hjl;obtain⟨n,hn1,hn2⟩:=hget j l[j] (by simp[hjl]);rw[hn1]at hrep;refine⟨n,?_,hn2⟩;have:=(aq (H:=w.heap) (G:=G) (v:=vs.toList[j]) (a:=.int .u8 n) rfl).2 hrep;simpa using aU this
   simp only[execOp,ho,Go.convert,ww,aC hs',aC hd,wy];rw[hev]at run ⊢;simp only[aC hu8,wy,ww,run,wx]
 . cases hs
theorem IA (H:aT)(x y:Obj):(H.push x).setIfInBounds H.size y=H.push y:=by
 apply Wh;intro i;by_cases h:i=H.size
 . subst h;rw[Array.getElem?_setIfInBounds_self_of_lt (by simp)];simp
 . rw[Array.getElem?_setIfInBounds_ne (Ne.symm h),W8,W8,if_neg h,if_neg h]
theorem iJ {b off:Nat}{c:Array Value}{e:TypeId}{fz:Nat×Nat}{w:World}(h:w.heap[b]? =some (.cells c e fz)) :
  (markStringish ⟨b,off,none⟩).run P w= .ok () {w with heap:=w.heap.setIfInBounds b (.cells c e (if fz.1==fz.2 then(c.size,c.size+1)else(min fz.1 c.size,max fz.2 (c.size+1))))}:=by
 simp only[markStringish,ww,run_shape,World.shape?,h,wy,run_freeze,World.freeze,uF _ h];rfl
theorem JR {s d e:TypeId}{x:Operand}{x':Opd}(hg:GlOk w.heap G gl)(hst:StOk w.heap G st a.tmps)(ho:o.op= .convert s d x)
  (hs':P.underlying s=some .string) (hd:P.underlying d=some (.slice e)) (h8:AI P e=true) (hx:aw x=some x')
  (hs:af gl cl st o.dst (.s2b x')=some (v,us)):bX P w G st.hp (execOp a.eval o) v us:=by
 have hvx:=aG hg hst hx;simp only[af]at hs;split at hs
 . rename_i k l hk hl;rw[hl]at hvx;split at hs
   . rename_i hcond;simp only[WA,decide_eq_true_eq]at hcond;simp only[WK,WR]at hs;obtain⟨rfl,rfl⟩:=hs;have hev:=ee hvx;have hu8:=pF h8;obtain⟨hnone,hlim⟩:=hcond
     let cap:=(Question.appendCap l.length 0 e).cut (w.tape w.drawn (.appendCap l.length 0 e))
     have hcap:l.length<=cap:=WX _ _
     let c:Array Value:=(l.map fun b=>Value.int .u8 b.toNat).toArray++Array.replicate (cap-l.length) (.int .u8 0)
     have hcs:c.size=cap:=by simp[c];omega
     have hst':=fX (sh:=.sc) (e:=e) (fz:=(cap,cap+1)) (k:=k) (els:=az l) (c:=c) (cap:=cap) hst.inv (by simpa using hnone) (by simpa[az]using hcap)
      (by simp[hcs,Sh.size]) (.inr (by simp[hcs])) (fun y hy=>by
        simp only[az,wv]at hy;obtain⟨b,_,rfl⟩:=hy;exact⟨rfl,rfl,trivial⟩) (by
        rw[lj];intro j hj;have hj':j<l.length:=by simpa[az]using hj
        refine⟨.int .u8 l[j].toNat,?_,?_⟩
        . have e1:((l.map fun b=>Value.int .u8 b.toNat).toArray)[j]? =some (.int .u8 l[j].toNat):=by simp[hj']
          rw[WT,W6 (by simpa using hj'),e1]
        . simp only[az,wW];exact .int _ _)
     refine⟨_,{w with drawn:=w.drawn+1,heap:=w.heap.push (.cells c e (cap,cap+1))},_,⟨rfl,rfl⟩,.inl ?_,hst',jz (by simpa[az]using hcap)⟩;have hrun:(Conv.stringToBytes e ⟨⟨l⟩⟩).run P w= .ok (.slice (some ⟨w.heap.size,0,none⟩) l.length cap) {w with drawn:=w.drawn+1,heap:=w.heap.push (.cells c e (cap,cap+1))}:=by have hq:(Question.appendCap l.length 0 e).forced=false:=rfl;simp only[Conv.stringToBytes,ByteArray.size,w9,ww,run_choose,hq,WD,if_false,wy,newRow,run_newObj,wx];rw[iJ (c:=c) (e:=e) (fz:=(0,0)) (by simp[c,cap])];simp only[IA,hcs,wy];rfl
     simp only[execOp,ho,Go.convert,ww,aC hs',aC hd,wy,hev,aC hu8,hrun,wx]
   . cases hs
 . cases hs
theorem JU {s e:TypeId}{x:Operand}{x':Opd}(hg:GlOk w.heap G gl)(hst:StOk w.heap G st a.tmps)(ho:o.op= .convert s s x)
  (hs':P.underlying s=some (.slice e)) (h8:AI P e=true) (hx:aw x=some x')
  (hs:af gl cl st o.dst (.idc x')=some (v,us)):bX P w G st.hp (execOp a.eval o) v us:=by
 have hvx:=aG hg hst hx;have hu8:=pF h8;simp only[af]at hs;split at hs
 . rename_i k p off len hv;rw[hv,aq rfl]at hvx;split at hs
   . rename_i sh e0 els hk;simp only[WK,WR]at hs;obtain⟨rfl,rfl⟩:=hs;rcases hst.inv.obs k _ hk with ⟨h0,_⟩|⟨b',cap,c,e',fz,hr',hle0,hb,hsz,hf,hsh,hrc⟩
     . cases h0
     have hvx':=hvx;rcases bF hvx' with ⟨a0,_,_,_,hev,hreg⟩|⟨b,root,mm,e2,o',xo,hr,hs2,hof,hle2,hev,hxo⟩
     . rw[hreg]at hr';cases hr'
     rw[hr]at hr';simp only[WK,Rg.blk.injEq]at hr';obtain⟨rfl,rfl⟩:=hr';have hrun:=iJ (P:=P) (off:=xo) hb;refine⟨a.eval x,{w with heap:=w.heap.setIfInBounds b (.cells c e' (if fz.1==fz.2 then(c.size,c.size+1)else(min fz.1 c.size,max fz.2 (c.size+1))))},G,⟨rfl,rfl⟩,.inl ?_,cR hst.inv hk (w.heap.setIfInBounds b _) _ (by simp) (fun b' hb'=>bu fun e=>hb' ⟨_,.of (e▸hr),⟨_,hk,by simp⟩⟩) (fun _=>by simp) fun le=> ?_,?_⟩
     . simp only[execOp,ho,Go.convert,ww,aC hs',wy,hev,aC hu8,beq_self_eq_true,hrun,wx]
     . refine .inr ⟨b,cap,c,e',_,hr,hle0,bP hb,hsz,?_,hsh,hrc.mono le⟩;rcases hf with hf|hf
       . rw[hf];simp[freeG]
       . by_cases h:fz.1=fz.2
         . simp[freeG,h]
         . have:(fz.1==fz.2)=false:=by simpa using h
           simp only[this,freeG];exact .inr ⟨trivial,by have:=hf.2;simp;omega⟩
     . rw[aq rfl];refine RepS.mono ?_ hvx;exact⟨fun b' hb'=>⟨hb',bu fun e=>(hst.inv.imm b' hb').2 ⟨k,_,⟨_,hk,by simp⟩,.of (e▸hr)⟩⟩,fv fun _ _ h=>h,fun _ _ h=>h⟩
   . cases hs
 . cases hs
theorem Ft {v v':Value}{x y z:AV}(hx:RepT H G v x)(hy:RepT H G v' y)(h:ka x y=some z):∃u,(Builtin.min2 v v').run P w= .ok u w/\RepT H G u z:=by
 unfold ka at h;split at h
 . split at h
   . rename_i hk;simp only[WK]at h;subst h hk;rw[aU hx,aU hy];exact⟨_,rfl,ba _ _⟩
   . cases h
 . cases h
theorem Fu {v v':Value}{x y z:AV}(hx:RepT H G v x)(hy:RepT H G v' y)(h:mI x y=some z):∃u,(Builtin.max2 v v').run P w= .ok u w/\RepT H G u z:=by
 unfold mI at h;split at h
 . split at h
   . rename_i hk;simp only[WK]at h;subst h hk;rw[aU hx,aU hy];exact⟨_,rfl,ba _ _⟩
   . cases h
 . cases h
theorem pO {f:AV->AV->Option AV}{g:Value->Value->Sem Value}(hfg:∀v v' x y z,RepT H G v x->RepT H G v' y->f x y=some z->∃u,(g v v').run P w= .ok u w/\RepT H G u z) :
  ∀(ys:List AV) (us:List Value) (v:Value) (x z:AV),RepT H G v x->us.length=ys.length->(∀(i:Nat) (u:Value),us[i]? =some u->∃y,ys[i]? =some y/\RepT H G u y) ->
  fL f x ys=some z->∃u,(us.foldlM g v).run P w= .ok u w/\RepT H G u z
 | [],us,v,x,z,hv,hl,_,h=>by
   have:us=[]:=by cases us<;>simp_all
   subst this;simp only[fL,WK]at h;subst h;exact⟨v,rfl,hv⟩
 | y::ys,us,v,x,z,hv,hl,hu,h=>by
   cases us with
   | nil=>simp at hl
   | cons u us =>simp only[fL,WN]at h;obtain⟨c,hc,h⟩:=h;obtain⟨y',hy,hr⟩:=hu 0 u rfl;simp only[wB,WK]at hy;subst hy;obtain⟨r,h1,h2⟩:=hfg _ _ _ _ _ hv hr hc;obtain⟨r',h3,h4⟩:=pO hfg ys us r c z h2 (by simpa using hl) (fun i u hi=>by simpa using hu (i+1) u (by simpa using hi)) h;exact⟨r',by simp only[List.foldlM_cons,ww,h1,wy,h3],h4⟩
theorem F8 {c:Call}{args:List Opd}(hg:GlOk w.heap G gl)(hst:StOk w.heap G st a.tmps)(ho:o.op= .call c)(hb:c.callee= .builtin .min)
  (hargs:bw aw c.args.toList=some args) (hs:af gl cl st o.dst (.mini args)=some (v,us)):bX P w G st.hp (execOp a.eval o) v us:=by
 obtain⟨h1,h2⟩:=nK hg hst hargs;simp only[af]at hs;split at hs
 . cases hs
 . rename_i x l hl;simp only[WL,WR]at hs;obtain⟨r,hr,rfl,rfl⟩:=hs;rw[hl]at h1 h2
   obtain⟨y,ys,hy⟩:∃y ys,c.args.toList=y::ys:=by
    cases h:c.args.toList with
    | nil=>rw[h]at h1;simp at h1
    | cons y ys=>exact⟨y,ys,rfl⟩
   rw[hy]at h1 h2;obtain⟨x',hx',hr0⟩:=h2 0 y rfl;simp only[wB,WK]at hx';subst hx';obtain⟨u,h3,h4⟩:=pO (P:=P) (w:=w) (g:=Builtin.min2) (fun v v' x y z hx hy h=>Ft hx hy h) l (ys.map a.eval) (a.eval y) x r hr0 (by simpa using h1.symm) (fun i u hi=>by
    rw[wr,WL]at hi;obtain⟨z,hz,rfl⟩:=hi;simpa using h2 (i+1) z (by simpa using hz)) hr
   refine⟨u,w,G,⟨rfl,rfl⟩,.inl ?_,Step.refl hst.inv,h4⟩;simp only[execOp,ho,resolve,hb,ww,wx,wy,invoke,builtin,Builtin.min_,Wi,hy,wJ,h3]
theorem F9 {c:Call}{args:List Opd}(hg:GlOk w.heap G gl)(hst:StOk w.heap G st a.tmps)(ho:o.op= .call c)(hb:c.callee= .builtin .max)
  (hargs:bw aw c.args.toList=some args) (hs:af gl cl st o.dst (.maxi args)=some (v,us)):bX P w G st.hp (execOp a.eval o) v us:=by
 obtain⟨h1,h2⟩:=nK hg hst hargs;simp only[af]at hs;split at hs
 . cases hs
 . rename_i x l hl;simp only[WL,WR]at hs;obtain⟨r,hr,rfl,rfl⟩:=hs;rw[hl]at h1 h2
   obtain⟨y,ys,hy⟩:∃y ys,c.args.toList=y::ys:=by
    cases h:c.args.toList with
    | nil=>rw[h]at h1;simp at h1
    | cons y ys=>exact⟨y,ys,rfl⟩
   rw[hy]at h1 h2;obtain⟨x',hx',hr0⟩:=h2 0 y rfl;simp only[wB,WK]at hx';subst hx';obtain⟨u,h3,h4⟩:=pO (P:=P) (w:=w) (g:=Builtin.max2) (fun v v' x y z hx hy h=>Fu hx hy h) l (ys.map a.eval) (a.eval y) x r hr0 (by simpa using h1.symm) (fun i u hi=>by
    rw[wr,WL]at hi;obtain⟨z,hz,rfl⟩:=hi;simpa using h2 (i+1) z (by simpa using hz)) hr
   refine⟨u,w,G,⟨rfl,rfl⟩,.inl ?_,Step.refl hst.inv,h4⟩;simp only[execOp,ho,resolve,hb,ww,wx,wy,invoke,builtin,Builtin.max_,Wi,hy,wJ,h3]
theorem vo {H:aT}{G:Gh}{hp:Hp}(inv:Inv H G hp){k kx b:Nat}{ox:OB}{root:Sh}(hkx:hp.get kx=some ox)(hox:ox≠.dead)(hk:hp.get k=none)
  (hr:G.reg kx=some (.blk b root)) (H':aT) (ob:OB) (hsz:H'.size=H.size) (hoth:∀b',b'≠b->H'[b']? =H[b']?)
  (hob:Le H G H' (G.with k (.blk b root))->ObOk H' (G.with k (.blk b root)) k ob):Step H G hp H' (G.with k (.blk b root)) ((kx,.dead)::(k,ob)::hp):=by
 have hne:kx≠k:=fun e=>by rw[e,hk]at hkx;cases hkx
 have hreg:=inv.out k hk;have hLb:bG G hp b:=⟨kx,root,⟨ox,hkx,hox⟩,.of hr⟩;have hle:Le H G H' (G.with k (.blk b root)):=Gh.with_le hreg fun b' hb'=>hoth b' fun e=>(inv.imm b' hb').2 (e▸hLb)
 have hlo:∀j,aN ((kx,.dead)::(k,ob)::hp) j->j≠kx/\(j=k\/(j≠k/\aN hp j)):=fun j hj=>by
  rcases bm.1 hj with ⟨_,h⟩|⟨h1,h2⟩
  . exact absurd rfl h
  . rcases bm.1 h2 with ⟨h3,_⟩|⟨h3,h4⟩
    . exact⟨fun e=>h1 e.symm,.inl h3.symm⟩
    . exact⟨fun e=>h1 e.symm,.inr ⟨fun e=>h3 e.symm,h4⟩⟩
 have hregne:∀j,j≠k->(G.with k (.blk b root)).reg j=G.reg j:=fun j h=>by simp[Gh.with,h]
 have hregk:(G.with k (.blk b root)).reg k=some (.blk b root):=by simp[Gh.with]
 have hL:∀b',bG (G.with k (.blk b root)) ((kx,.dead)::(k,ob)::hp) b'->bG G hp b':=by
  rintro b' ⟨j,r,hl,hr'⟩;obtain⟨_,rfl|⟨h2,h3⟩⟩:=hlo j hl
  . rw[Gh.with_at,if_pos rfl]at hr';exact hr'.1▸hLb
  . rw[Gh.with_at,if_neg h2]at hr';exact⟨j,r,h3,hr'⟩
 refine⟨⟨?_,?_,?_,?_,?_⟩,hle,by omega,fun b' _ hl=>hoth b' fun e=>hl (e▸hLb),fun b' hb=>.inl (hL b' hb),fun b' hb=>.inl hb⟩
 . intro j o hj;rw[Hp.get_cons]at hj;by_cases h:kx=j
   . subst h;simp at hj;subst hj;exact⟨_,by rw[hregne _ hne];exact hr⟩
   . simp only[h,if_false]at hj;rw[Hp.get_cons]at hj;by_cases h':k=j
     . subst h';simp at hj;subst hj;exact hob hle
     . simp only[h',if_false]at hj;refine ObOk.mono (hp:=hp) hle (fun hl b' r hr'=>hoth b' fun e=> ?_) (fun r hr'=>by simp only[Gh.with,show ¬j=k from fun e=>h' e.symm,if_false];exact hr') hj (inv.obs j o hj);subst e;exact h (inv.dist kx j b' root r (.of hr) hr' ⟨ox,hkx,hox⟩ hl)
 . intro j hj;rw[Hp.get_cons]at hj;by_cases h:kx=j
   . simp[h]at hj
   . simp only[h,if_false]at hj;rw[Hp.get_cons]at hj;by_cases h':k=j
     . simp[h']at hj
     . simp only[h',if_false]at hj;rw[hregne j (fun e=>h' e.symm)];exact inv.out j hj
 . intro j j' b' r r' hj hj' hl hl';obtain⟨h1,h2⟩:=hlo j hl;obtain⟨h1',h2'⟩:=hlo j' hl';rcases h2 with rfl|⟨h2,h3⟩<;>rcases h2' with rfl|⟨h2',h3'⟩
   . rfl
   . rw[Gh.with_at,if_pos rfl]at hj;rw[Gh.with_at,if_neg h2']at hj';exact absurd (inv.dist j' kx b' r' root hj' (.of (hj.1▸hr)) h3' ⟨ox,hkx,hox⟩) h1'
   . rw[Gh.with_at,if_pos rfl]at hj';rw[Gh.with_at,if_neg h2]at hj;exact absurd (inv.dist j kx b' r root hj (.of (hj'.1▸hr)) h3 ⟨ox,hkx,hox⟩) h1
   . rw[Gh.with_at,if_neg h2]at hj;rw[Gh.with_at,if_neg h2']at hj';exact inv.dist j j' b' r r' hj hj' h3 h3'
 . exact fun b' hb=>⟨by have:=(inv.imm b' hb).1;omega,fun hl=>(inv.imm b' hb).2 (hL b' hl)⟩
 . exact fun b' hb=>by have:=inv.lt b' (hL b' hb);omega
theorem vY (need:Nat):∀(r c:Nat),c<need->Builtin.growBy need r c<=need+(need+768)/4
 | 0,c,h=>by simp only[Builtin.growBy];omega
 | r+1,c,h=>by
   simp only[Builtin.growBy];split
   . omega
   . by_cases h1:c+(c+768)/4<need
     . exact vY need r _ h1
     . have h2:∀r,Builtin.growBy need r (c+(c+768)/4)=c+(c+768)/4:=fun r=>by
        cases r with
        | zero=>rfl
        | succ r=>simp only[Builtin.growBy];rw[if_pos (by omega)]
       rw[h2];omega
theorem gH {need cap:Nat}(h:cap<need)(hl:need<=LIM):Builtin.nextslicecap need cap*1024<=2^48:=by
 have:Builtin.nextslicecap need cap<=2*LIM:=by
  unfold Builtin.nextslicecap;split
  . omega
  . split
    . simp only[LIM]at hl ⊢;omega
    . have:=vY need 4 cap h;simp only[LIM]at hl ⊢;omega
 simp only[LIM]at this;omega
def cT (l:List AV)(off:Nat)(ys:List AV):List AV:=l.take off++ys++l.drop (off+ys.length)
theorem jx {c:Array Value}{sh:Sh}{l ys:List AV}{off base:Nat}{vs:List Value}{pre post:List AV}
  (hl:∀x∈l,aD sh x=true) (hy:∀x∈ys,aD sh x=true) (hle:off+ys.length<=l.length)
  (hc:RepC H G c 0 (pre++AV.flats l++post)) (hb:pre.length=base) (hv:RepL H G vs (AV.flats ys)) (hsz:base+(AV.flats l).length<=c.size) :
  RepC H G (aY c (base+off*sh.size) vs) 0 (pre++AV.flats (cT l off ys)++post)/\base+off*sh.size+vs.length<=c.size/\(cT l off ys).length=l.length /\
   (AV.flats (cT l off ys)).length=(AV.flats l).length:=by
 obtain⟨f1,f2,f3⟩:=fp (n:=sh.size) (fun x hx=>aB sh x (hl x hx)) off ys.length hle;have hyl:(AV.flats ys).length=ys.length*sh.size:=bj ys fun x hx=>aB sh x (hy x hx)
 have hvl:=hv.len;have e2:AV.flats (cT l off ys)=AV.flats (l.take off)++AV.flats ys++AV.flats (l.drop (off+ys.length)):=by unfold cT;rw[AV.flats_append,AV.flats_append]
 have hle2:base+off*sh.size+vs.length<=c.size:=by rw[f1]at hsz;simp only[wX,f2,f3]at hsz;rw[hvl,hyl];omega
 refine⟨?_,hle2,by simp[cT];omega,by rw[e2,f1];simp[f3,hyl]⟩;have:=nY (c:=c) (off:=base+off*sh.size) (vs:=vs) (pre:=pre++AV.flats (l.take off)) (old:=AV.flats (sub l off ys.length)) (new:=AV.flats ys) (post:=AV.flats (l.drop (off+ys.length))++post)
  hc (by rw[f1];simp[ws]) hv (by rw[hyl,f3]) (by simp[hb,f2]) hle2
 rw[e2];simpa[ws]using this
theorem Src.firstAll {v:Value}{sh:Sh}{l:List AV}(h:Src P H G v sh l){size:Nat}(hs:l=[]\/size=sh.size)(w':World)(hw:w'.heap=H) :
  ∃vs:Array Value,(Builtin.firstCells size l.length v).run P w'= .ok vs w'/\RepL H G vs.toList (AV.flats l):=by
 obtain⟨vs,h1,h2⟩:=h.first l.length size w' hw (WU _) hs;exact⟨vs,h1,by simpa using h2⟩
def Cf (P:Program)(u:TypeId):Prop:=P.underlying u=some .string\/∃e,P.underlying u=some (.slice e)
theorem j7 {t u e:TypeId}{ty:TypeId}{b:Option Addr}{cap:Nat}{vy:Value}{sh shx shy:Sh}{z:AV}{i:TypeInfo}{l ys:List AV}
  (hu:P.underlying t=some (.slice e)) (hu2:Cf P u) (hz:dM P e=some (sh,z)) (hi:P.info? e=some i) (hbytes:i.bytes<=1024)
  (hx:Src P w.heap G (.slice b l.length cap) shx l) (hxs:l=[]\/sh=shx) (hy:Src P w.heap G vy shy ys) (hys:ys=[]\/sh=shy)
  (hlt:cap<l.length+ys.length) (hlim:l.length+ys.length<=LIM) :
  ∃(newCap:Nat) (c:Array Value),(Builtin.append_ #[t,u] ty #[.slice b l.length cap,vy]).run P w =
     .ok (.slice (some ⟨w.heap.size,0,none⟩) (l.length+ys.length) newCap) {w with drawn:=w.drawn+1,heap:=w.heap.push (.cells c e)} /\
   l.length+ys.length<=newCap/\c.size=newCap*sh.size/\RepC w.heap G c 0 (AV.flats (l++ys)):=by
 obtain⟨hshT,zv,hzv,hsh,hzp,hzw,hrl⟩:=bJ hz;have hzl:z.flat.length=sh.size:=aB sh z hsh;have hzs:zv.cells.size=sh.size:=by have:=(hrl w.heap G).len;rw[<-hzl,<-this];simp
 let w1:World:={w with drawn:=w.drawn+1}
 obtain⟨vx,hx1,hx2⟩:=hx.firstAll (size:=sh.size) (by rcases hxs with h|h<;>simp[h]) w1 rfl;obtain⟨vys,hy1,hy2⟩:=hy.firstAll (size:=sh.size) (by rcases hys with h|h<;>simp[h]) w1 rfl
 let newCap:=(Question.appendCap (l.length+ys.length) cap e).cut (w.tape w.drawn (.appendCap (l.length+ys.length) cap e))
 have hcap:l.length+ys.length<=newCap:=WX _ _;have hlx:(AV.flats l).length=l.length*sh.size:=by
  rcases hxs with h|h
  . subst h;simp[AV.flats]
  . subst h;exact bj l fun x hx'=>aB sh x (hx.els x hx').1
 have hly:(AV.flats ys).length=ys.length*sh.size:=by
  rcases hys with h|h
  . subst h;simp[AV.flats]
  . subst h;exact bj ys fun x hx'=>aB sh x (hy.els x hx').1
 have s1:vx.size=l.length*sh.size:=by rw[<-hlx,<-hx2.len];simp
 have s2:vys.size=ys.length*sh.size:=by rw[<-hly,<-hy2.len];simp
 refine⟨newCap,vx++vys++Builtin.zeroCells zv.cells (newCap-(l.length+ys.length)),?_,hcap,?_,?_⟩
 . have hq:(Question.appendCap (l.length+ys.length) cap e).forced=false:=rfl;have c1:¬(l.length+ys.length<=cap):=by omega
   have c2:¬(((l.length+ys.length:Nat):Int)>IntKind.i64.max/\i.bytes=0):=by have:IntKind.i64.max=2^63-1:=rfl;rw[this];simp only[LIM]at hlim;omega
   have c3:¬(Builtin.nextslicecap (l.length+ys.length) cap*i.bytes>2^48):=by have h1:=gH hlt hlim;have h2:Builtin.nextslicecap (l.length+ys.length) cap*i.bytes<=Builtin.nextslicecap (l.length+ys.length) cap*1024:=WZ _ hbytes;omega
   have hyl:=hy.len w;simp only[w1]at hx1 hy1;rcases hu2 with hu2|⟨e',hu2⟩
   . simp only[Builtin.append_,wC,wB,wD,ww,aC hu,aC hu2,br (bx hshT),wy,wx,WD,if_false,hyl,c1,c2,c3,fu hi,
      false_or,run_choose,hq,run_askRoom,WF,if_true]
     simp only[hx1,hy1,hzv,wy,newRow,ww,run_newObj,wx];rfl
   . simp only[Builtin.append_,wC,wB,wD,ww,aC hu,aC hu2,br (bx hshT),wy,wx,WD,if_false,hyl,c1,c2,c3,fu hi,
      false_or,run_choose,hq,run_askRoom,WF,if_true]
     simp only[hx1,hy1,hzv,wy,newRow,ww,run_newObj,wx];rfl
 . simp only[Wb,s1,s2,Builtin.zeroCells,We,Wc,hzs];rw[<-WW,<-WW];congr 1;omega
 . have h:=fi hx2 hy2;rw[<-AV.flats_append]at h;intro j hj;have hj':j<vx.size+vys.size:=by rw[s1,s2,<-hlx,<-hly];rw[AV.flats_append,wX]at hj;exact hj
   have hjl:j<(vx.toList++vys.toList).length:=by simpa using hj'
   refine⟨(vx.toList++vys.toList)[j],?_,h.get j hjl hj⟩;rw[WT,W6 (by simpa using hj')];rw[<-W9,Wg,wH hjl]
theorem dX {t u e:TypeId}{ty:TypeId}{b:Option Addr}{n cap:Nat}{vy:Value}{sh shy:Sh}{ys:List AV}{w':World}
  (hu:P.underlying t=some (.slice e)) (hu2:Cf P u) (hsz:(P.info? e).map (·.size)=some sh.size)
  (hy:Src P w.heap G vy shy ys) {vys:Array Value} (hy1:(Builtin.firstCells sh.size ys.length vy).run P w= .ok vys w)
  (hle:n+ys.length<=cap) (hst:∀ad,b=some ad->(storeCells (ad.add (n*sh.size)) vys.toList).run P w= .ok () w') (hnone:b=none->w'=w) :
  (Builtin.append_ #[t,u] ty #[.slice b n cap,vy]).run P w= .ok (.slice b (n+ys.length) cap) w':=by
 have hyl:=hy.len w;rcases hu2 with hu2|⟨e',hu2⟩
 . simp only[Builtin.append_,wC,wB,wD,ww,aC hu,aC hu2,br hsz,wy,wx,WD,if_false,hyl,hle,if_true,
    WF,hy1]
   cases b with
   | none=>rw[hnone rfl];rfl
   | some ad=>simp only[hst ad rfl,wy,wx,ww]
 . simp only[Builtin.append_,wC,wB,wD,ww,aC hu,aC hu2,br hsz,wy,wx,WD,if_false,hyl,hle,if_true,
    WF,hy1]
   cases b with
   | none=>rw[hnone rfl];rfl
   | some ad=>simp only[hst ad rfl,wy,wx,ww]
theorem qw {c:Call}{t u e:TypeId}{x y:Operand}{x' y':Opd}{sh:Sh}{z:AV}{i:TypeInfo}(hg:GlOk w.heap G gl)(hst:StOk w.heap G st a.tmps)(ho:o.op= .call c)(hb:c.callee= .builtin .append)
  (hargs:c.args= #[x,y]) (ht:c.argTypes= #[t,u]) (hu:P.underlying t=some (.slice e)) (hu2:Cf P u) (hz:dM P e=some (sh,z)) (hi:P.info? e=some i)
  (hx:aw x=some x') (hy:aw y=some y') (hs:af gl cl st o.dst (.append sh i.bytes x' y')=some (v,us)):bX P w G st.hp (execOp a.eval o) v us:=by
 have hvx:=aG hg hst hx;have hvy:=aG hg hst hy;have hshT:=(bJ hz).1;have run:∀{r:Value} {w':World},(Builtin.append_ #[t,u] o.type #[a.eval x,a.eval y]).run P w= .ok r w'->(execOp a.eval o).run P w= .ok (.value r) w':=by intro r w' hr;simp only[execOp,ho,resolve,hb,hargs,ht,ww,wx,wy,invoke,builtin,wM,wJ,wT,hr]
 change (match o.dst,DS st.hp (Opd.val gl st.fr y')with
  | some k,some (shy,ys) =>
    if(st.hp.get k).isNone&&decide (i.bytes<=1024)&&(ys.isEmpty||Sh.beq sh shy)then
     match Opd.val gl st.fr x' with
     | .lst true shx l =>
       if(l.isEmpty||(Sh.beq sh shx&& !ys.isEmpty))&&decide (l.length+ys.length<=LIM)then
        some (AV.sl k [] 0 (l.length+ys.length),[(k,OB.grow sh (l++ys))])
       else none
     | .sl kx [] 0 n =>
       match st.hp.get kx with
       | some (.grow shx els) =>
         if Sh.beq sh shx&&decide (n=els.length/\els.length+ys.length<=LIM)then
          some (AV.sl k [] 0 (els.length+ys.length),[(kx,OB.dead),(k,OB.grow sh (els++ys))])
         else if Sh.beq sh shx&&decide (n+ys.length<=els.length)then
          some (AV.sl kx [] 0 (n+ys.length),[(k,OB.grow sh []),(kx,OB.grow sh (els.take n++ys++els.drop (n+ys.length)))])
         else none
       | _=>none
     | _=>none
    else none
  | _,_=>none)=some (v,us)at hs
 split at hs
 . rename_i k shy ys hk hsrc;split at hs
   . rename_i hcond;simp only[WA,decide_eq_true_eq,WH,WQ,wZ]at hcond;obtain⟨⟨hnone,hbytes⟩,hys⟩:=hcond;have hys:ys=[]\/sh=shy:=hys.imp_right Sh.beq_eq;have hsy:=DR (P:=P) hst.inv hvy hsrc
     have hels:∀q∈ys,aD sh q=true/\q.plain=true/\q.wf:=by
      rcases hys with h|h
      . subst h;simp
      . subst h;exact hsy.els
     obtain⟨vys,hy1,hy2⟩:=hsy.firstAll (size:=sh.size) (by rcases hys with h|h<;>simp[h]) w rfl;split at hs
     . rename_i shx l hvx';rw[hvx',aq rfl]at hvx;split at hs
       . rename_i hc2;simp only[WA,decide_eq_true_eq,WH,wZ,WG]at hc2;simp only[WK,WR]at hs;obtain⟨rfl,rfl⟩:=hs;have hsx:=jc (P:=P) hst.inv hvx (show bn st.hp (.lst true shx l)=some (shx,l)from rfl);obtain⟨b,cap,hev,hcap,hfull,hsh,_⟩:=eh hvx;have hcapl:=hfull rfl;subst hcapl;by_cases h0:ys=[]
         . have hl0:l=[]:=by
            rcases hc2.1 with h|⟨_,h⟩
            . exact h
            . simp[h0]at h
           subst h0 hl0;have hv0:vys= #[]:=by have:=hy2.len;simp[AV.flats]at this;exact this
           subst hv0;refine⟨.slice b 0 0,w,G.with k .nil,⟨rfl,rfl⟩,.inl (run ?_),rI hst.inv hnone sh,(aq rfl).2 (.slNil k b (by simp[Gh.with]))⟩;rw[hev];exact dX hu hu2 (bx hshT) hsy hy1 (WU _) (fun ad _=>rfl) (fun _=>rfl)
         . have hpos:0<ys.length:=w2.2 h0
           have hxs:l=[]\/sh=shx:=by
            rcases hc2.1 with h|⟨h,_⟩
            . exact .inl h
            . exact .inr (Sh.beq_eq h)
           obtain⟨newCap,c',hrun,h1,h2,h3⟩:=j7 (P:=P) (ty:=o.type) hu hu2 hz hi hbytes (hev▸hsx) hxs hsy hys (by omega) hc2.2;have hst':=fX (sh:=sh) (e:=e) (fz:=(0,0)) (k:=k) (els:=l++ys) (c:=c') (cap:=newCap) hst.inv hnone (by simpa using h1) h2 (.inl rfl)
            (fun q hq=>by
              rcases wK.1 hq with hq|hq
              . rcases hxs with h|h
                . subst h;cases hq
                . subst h;exact hsh q hq
              . exact hels q hq) h3
           refine⟨_,{w with drawn:=w.drawn+1,heap:=w.heap.push (.cells c' e)},_,⟨rfl,rfl⟩,.inl (run ?_),hst',jz (by simpa using h1)⟩;rw[hev];exact hrun
       . cases hs
     . rename_i kx n hvx';rw[hvx',aq rfl]at hvx;split at hs
       . rename_i shx els hkx;split at hs
         . rename_i hc2;simp only[WA,decide_eq_true_eq]at hc2;simp only[WK,WR]at hs;obtain⟨rfl,rfl⟩:=hs;obtain⟨hbq,rfl,hlim⟩:=hc2;have:=Sh.beq_eq hbq;subst this;have hcont:bn st.hp (.sl kx [] 0 els.length)=some (sh,els):=by simp[bn,hkx,sub]
           have hsx:=jc (P:=P) hst.inv hvx hcont;have hnek:k≠kx:=fun e=>by rw[<-e,hnone]at hkx;cases hkx
           have grow:∀(b:Option Addr) (cap:Nat),a.eval x= .slice b els.length cap->cap<els.length+ys.length ->
             bX P w G st.hp (execOp a.eval o) (.sl k [] 0 (els.length+ys.length)) [(kx,.dead),(k,.grow sh (els++ys))]:=by
            intro b cap hev hlt;obtain⟨newCap,c',hrun,h1,h2,h3⟩:=j7 (P:=P) (ty:=o.type) hu hu2 hz hi hbytes (hev▸hsx) (.inr rfl) hsy hys hlt hlim;have hst':=fX (sh:=sh) (e:=e) (fz:=(0,0)) (k:=k) (els:=els++ys) (c:=c') (cap:=newCap) hst.inv hnone (by simpa using h1) h2 (.inl rfl)
             (fun q hq=>by
               rcases wK.1 hq with hq|hq
               . exact hsx.els q hq
               . exact hels q hq) h3
            have hd:=jb hst'.inv (k:=kx) (o:=.grow sh els) (by rw[Hp.get_cons,if_neg hnek];exact hkx);refine⟨_,{w with drawn:=w.drawn+1,heap:=w.heap.push (.cells c' e)},_,⟨rfl,rfl⟩,.inl (run ?_),hst'.trans hd,jz (by simpa using h1)⟩;rw[hev];exact hrun
           have hv0:ys=[]->vys= #[]:=fun h=>by subst h;have:=hy2.len;simp[AV.flats]at this;exact this
           rcases hst.inv.obs kx _ hkx with ⟨rfl,hreg⟩|⟨b',cap,c',e',fz,hr',hle0,hb',hsz,hf,hsh,hrc⟩
           . rcases bF hvx with ⟨a0,_,_,_,hev,_⟩|⟨b,root,mm,e2,o',xo,hr,_⟩
             . by_cases h0:ys=[]
               . have:=hv0 h0;subst h0 this;have s1:=rI hst.inv hnone sh;have s2:=jb s1.inv (k:=kx) (o:=.grow sh []) (by rw[Hp.get_cons,if_neg hnek];exact hkx);refine⟨.slice a0 0 0,w,G.with k .nil,⟨rfl,rfl⟩,.inl (run ?_),s1.trans s2,(aq rfl).2 (.slNil k a0 (by simp[Gh.with]))⟩;rw[hev];exact dX hu hu2 (bx hshT) hsy hy1 (WU _) (fun ad _=>rfl) (fun _=>rfl)
               . exact grow a0 0 hev (by have:=w2.2 h0;simp;omega)
             . rw[hreg]at hr;cases hr
           . rcases bF hvx with ⟨a0,_,_,_,hev,hreg⟩|⟨b,root,mm,e2,o',xo,hr,hs2,hof,hle2,hev,hxo⟩
             . rw[hreg]at hr';cases hr'
             rw[hr]at hr';simp only[WK,Rg.blk.injEq]at hr';obtain⟨rfl,rfl⟩:=hr';simp only[Sh.sub,WK,Sh.ar.injEq]at hs2;obtain⟨rfl,rfl⟩:=hs2;simp only[Sh.off,WK]at hof;subst hof;rw[W2]at hev;by_cases hfit:els.length+ys.length<=cap
             . have hel:(AV.flats els).length=els.length*sh.size:=bj els fun x hx=>aB sh x (hsh x hx).1
               have hyl:(AV.flats ys).length=ys.length*sh.size:=bj ys fun x hx=>aB sh x (hels x hx).1
               have s2:vys.toList.length=ys.length*sh.size:=by rw[hy2.len,hyl]
               have hbd:els.length*sh.size+vys.toList.length<=c'.size:=by rw[s2,hsz,<-WW];exact WV _ hfit
               let w':World:={w with heap:=w.heap.setIfInBounds b (.cells (aY c' (els.length*sh.size) vys.toList) e' fz)}
               have hput:∀j,j<(AV.flats (els++ys)).length->∃q,(aY c' (els.length*sh.size) vys.toList)[j]? =some q/\RepS w.heap G q ((AV.flats (els++ys))[j]!):=by
                intro j hj;rw[AV.flats_append]at hj ⊢;rw[gM _ _ _ _ hbd];simp only[wX]at hj;by_cases h:j<els.length*sh.size
                . rw[if_neg (by omega)];obtain⟨q,hq,hrq⟩:=hrc j (by omega);refine⟨q,by simpa using hq,?_⟩;rw[getElem!_pos _ j (by simp;omega),w3 (by omega)];exact hrq
                . have hj2:j-els.length*sh.size<vys.toList.length:=by omega
                  rw[if_pos (by omega),wH hj2];refine⟨_,rfl,?_⟩;rw[getElem!_pos _ j (by simp;omega),we (by omega)];have:=hy2.get (j-els.length*sh.size) hj2 (by omega);simpa[hel]using this
               have hmove:=vo hst.inv hkx (by simp) hnone hr (w.heap.setIfInBounds b (.cells (aY c' (els.length*sh.size) vys.toList) e' fz)) (.grow sh (els++ys)) (by simp)
                (fun b' hb'=>bu hb') fun le=>.inr ⟨b,cap,_,e',fz,by simp[Gh.with],by simpa using hfit,bP hb',by simp[aX,hsz],by
                  exact hf.put (aX ..),fun q hq=>by
                   rcases wK.1 hq with hq|hq
                   . exact hsh q hq
                   . exact hels q hq,fun j hj=>by
                     obtain⟨q,hq,hrq⟩:=hput j hj;rw[getElem!_pos _ j hj]at hrq;exact⟨q,by simpa using hq,hrq.mono le⟩⟩
               refine⟨.slice (some ⟨b,xo,none⟩) (els.length+ys.length) cap,w',_,⟨rfl,rfl⟩,.inl (run ?_),hmove,(aq rfl).2 ?_⟩
               . rw[hev];refine dX hu hu2 (bx hshT) hsy hy1 hfit (fun ad had=> ?_) (fun h=>by cases h);cases had;by_cases h0:ys=[]
                 . have:=hv0 h0;subst this;have:w'=w:=by simp only[w',aY,fY hb']
                   rw[this];rfl
                 . have hpos:0<ys.length:=w2.2 h0;have hx0:=hxo (by omega);subst hx0
                   have:=bp (P:=P) (e:=e') (fz:=fz) vys.toList (els.length*sh.size) 0 c' w hb' (by simpa using hbd) hf.free (fun q hq=>by
                    obtain⟨j,hj,rfl⟩:=wQ hq;exact(hy2.get j hj (by rw[<-hy2.len];exact hj)).oneCell)
                   rw[cY];simpa using this
               . by_cases h0:0<cap
                 . have hx0:=hxo h0;subst hx0;have:=RepS.sl (H:=w'.heap) (G:=G.with k (.blk b (.ar cap sh))) k [] 0 (els.length+ys.length) b (.ar cap sh) cap sh 0 (by simp[Gh.with]) rfl rfl (by omega);simpa using this
                 . have:cap=0:=by omega
                   subst this;have e0:els.length+ys.length=0:=by omega
                   rw[e0];exact .slZ k [] 0 b xo (.ar 0 sh) 0 sh (by simp[Gh.with]) rfl rfl
             . exact grow _ _ hev (by omega)
         . split at hs
           . rename_i hc2;simp only[WA,decide_eq_true_eq]at hc2;simp only[WK,WR]at hs;obtain⟨rfl,rfl⟩:=hs;obtain⟨hbq,hle⟩:=hc2;have:=Sh.beq_eq hbq;subst this;have hnek:k≠kx:=fun e=>by rw[<-e,hnone]at hkx;cases hkx
             have lay:∀{H':aT} {ob:OB},Step w.heap G st.hp H' G ((kx,ob)::st.hp)->Step w.heap G st.hp H' (G.with k .nil) ((k,.grow sh [])::(kx,ob)::st.hp):=fun s =>
              s.trans (rI s.inv (by rw[Hp.get_cons,if_neg hnek.symm];exact hnone) sh)
             have hregk:(G.with k .nil).reg kx=G.reg kx:=by simp[Gh.with,hnek.symm]
             have hv0:ys=[]->vys= #[]:=fun h=>by subst h;have:=hy2.len;simp[AV.flats]at this;exact this
             have hsp:els.take n++ys++els.drop (n+ys.length)=cT els n ys:=rfl;rw[hsp];rcases hst.inv.obs kx _ hkx with ⟨rfl,hreg⟩|⟨b',cap,c',e',fz,hr',hle0,hb',hsz,hf,hsh,hrc⟩
             . simp only[wP]at hle;obtain⟨rfl,h0⟩:n=0/\ys.length=0:=by omega
               have h0:=List.eq_nil_of_length_eq_zero h0;rcases bF hvx with ⟨a0,_,_,_,hev,_⟩|⟨b,root,mm,e2,o',xo,hr,_⟩
               . have:=hv0 h0;subst h0 this;refine⟨.slice a0 0 0,w,G.with k .nil,⟨rfl,rfl⟩,.inl (run ?_),lay (cR hst.inv hkx _ _ rfl (fun _ _=>rfl) (fun _=>by simp) fun le=>.inl ⟨by simp[cT],hreg⟩),(aq rfl).2 (.slNil kx a0 (hregk.trans hreg))⟩;rw[hev];exact dX hu hu2 (bx hshT) hsy hy1 (WU _) (fun ad _=>rfl) (fun _=>rfl)
               . rw[hreg]at hr;cases hr
             . rcases bF hvx with ⟨a0,_,_,_,hev,hreg⟩|⟨b,root,mm,e2,o',xo,hr,hs2,hof,hle2,hev,hxo⟩
               . rw[hreg]at hr';cases hr'
               rw[hr]at hr';simp only[WK,Rg.blk.injEq]at hr';obtain⟨rfl,rfl⟩:=hr';simp only[Sh.sub,WK,Sh.ar.injEq]at hs2;obtain⟨rfl,rfl⟩:=hs2;simp only[Sh.off,WK]at hof;subst hof;rw[W2]at hev;have hel:(AV.flats els).length=els.length*sh.size:=bj els fun x hx=>aB sh x (hsh x hx).1
               obtain⟨g1,g2,g3,g4⟩:=jx (c:=c') (sh:=sh) (l:=els) (ys:=ys) (off:=n) (base:=0) (vs:=vys.toList) (pre:=[]) (post:=[])
                (fun q hq=>(hsh q hq).1) (fun q hq=>(hels q hq).1) hle (by simpa using hrc) rfl hy2 (by rw[hel,hsz,WT];exact WV _ hle0)
               simp only[WT,wR,wb]at g1 g2;refine⟨.slice (some ⟨b,xo,none⟩) (n+ys.length) cap,{w with heap:=w.heap.setIfInBounds b (.cells (aY c' (n*sh.size) vys.toList) e' fz)},G.with k .nil,⟨rfl,rfl⟩,.inl (run ?_),
                lay (cR hst.inv hkx _ _ (by simp) (fun b' hb'=>bu fun e=>hb' ⟨_,.of (e▸hr),⟨_,hkx,by simp⟩⟩) (fun _=>by simp) fun le =>
                 .inr ⟨b,cap,_,e',fz,hr,by rw[g3];exact hle0,bP hb',by simp[aX,hsz],hf.put (aX ..),fun q hq=> ?_,g1.mono le⟩),(aq rfl).2 ?_⟩
               . rw[hev];refine dX hu hu2 (bx hshT) hsy hy1 (by omega) (fun ad had=> ?_) (fun h=>by cases h);cases had;by_cases h0:ys=[]
                 . have:=hv0 h0;subst this;simp only[aY,fY hb'];rfl
                 . have hpos:0<ys.length:=w2.2 h0;have hx0:=hxo (by omega);subst hx0
                   have:=bp (P:=P) (e:=e') (fz:=fz) vys.toList (n*sh.size) 0 c' w hb' (by simpa using g2) hf.free (fun q hq=>by
                    obtain⟨j,hj,rfl⟩:=wQ hq;exact(hy2.get j hj (by rw[<-hy2.len];exact hj)).oneCell)
                   rw[cY];simpa using this
               . simp only[cT,wK]at hq;rcases hq with (hq|hq)|hq
                 . exact hsh q (wF hq)
                 . exact hels q hq
                 . exact hsh q (wO hq)
               . by_cases h0:0<cap
                 . have hx0:=hxo h0;subst hx0;have:=RepS.sl (H:=w.heap.setIfInBounds b (.cells (aY c' (n*sh.size) vys.toList) e' fz)) (G:=G.with k .nil) kx [] 0 (n+ys.length) b (.ar cap sh) cap sh 0 (hregk.trans hr) rfl rfl (by omega);simpa using this
                 . have:cap=0:=by omega
                   subst this;have e0:n+ys.length=0:=by omega
                   rw[e0];exact .slZ kx [] 0 b xo (.ar 0 sh) 0 sh (hregk.trans hr) rfl rfl
           . cases hs
       . cases hs
     . cases hs
   . cases hs
 . cases hs
theorem rX {t u e:TypeId}{ty:TypeId}{b:Option Addr}{dLen cap n:Nat}{vy:Value}{sh shy:Sh}{ys:List AV}{w':World}
  (hu:P.underlying t=some (.slice e)) (hsz:(P.info? e).map (·.size)=some sh.size) (hy:Src P w.heap G vy shy ys) (hn:n=min ys.length dLen) {vys:Array Value}
  (hy1:(Builtin.firstCells sh.size n vy).run P w= .ok vys w) (hst:∀ad,b=some ad->(storeCells ad vys.toList).run P w= .ok () w') (hnone:b=none->w'=w) :
  (Builtin.copy_ #[t,u] ty #[.slice b dLen cap,vy]).run P w= .ok (.int .i64 n) w':=by
 have hyl:=hy.len w;subst hn;have hn':Nat.min ys.length dLen=min ys.length dLen:=rfl;simp only[Builtin.copy_,wC,wB,wD,ww,aC hu,br hsz,wy,hyl,hn',hy1]
 cases b with
 | none=>rw[hnone rfl];rfl
 | some ad=>simp only[hst ad rfl,wy,wx,ww];rfl
theorem Gg {c:Call}{t u e:TypeId}{x y:Operand}{x' y':Opd}{sh:Sh}(hg:GlOk w.heap G gl)(hst:StOk w.heap G st a.tmps)(ho:o.op= .call c)(hb:c.callee= .builtin .copy)
  (hargs:c.args= #[x,y]) (ht:c.argTypes= #[t,u]) (hu:P.underlying t=some (.slice e)) (hshT:dh P SF e=some sh)
  (hx:aw x=some x') (hy:aw y=some y') (hs:af gl cl st o.dst (.copy sh x' y')=some (v,us)):bX P w G st.hp (execOp a.eval o) v us:=by
 have hvx:=aG hg hst hx;have hvy:=aG hg hst hy;have run:∀{r:Value} {w':World},(Builtin.copy_ #[t,u] o.type #[a.eval x,a.eval y]).run P w= .ok r w'->(execOp a.eval o).run P w= .ok (.value r) w':=by intro r w' hr;simp only[execOp,ho,resolve,hb,hargs,ht,ww,wx,wy,invoke,builtin,wM,wJ,wT,hr]
 change (match Opd.val gl st.fr x',DS st.hp (Opd.val gl st.fr y')with
  | .sl k p off len,some (shy,ys) =>
    if ys.isEmpty||Sh.beq sh shy then
     let n:=min ys.length len
     match st.hp.get k,p with
     | some (.grow shx els),[] =>
       if Sh.beq sh shx&&decide (off+len<=els.length)then
        some (AV.int .i64 n,[(k,OB.grow shx (els.take off++ys.take n++els.drop (off+n)))])
       else none
     | some (.fix shx a),p =>
       match shx.sub p,a.nav p with
       | some (.ar _ e),some (.agg l) =>
         if Sh.beq sh e&&decide (off+len<=l.length)then
          (a.setNav p (.agg (l.take off++ys.take n++l.drop (off+n)))).map fun a'=>(.int .i64 n,[(k,.fix shx a')])
         else none
       | _,_=>none
     | _,_=>none
    else none
  | _,none=>gr st.hp sh (Opd.val gl st.fr x') (Opd.val gl st.fr y')
  | _,_=>none)=some (v,us)at hs
 split at hs
 . rename_i k p off len shy ys hvx' hsrc;rw[hvx',aq rfl]at hvx;split at hs
   . rename_i hys;simp only[WH,wZ]at hys;have hys:ys=[]\/sh=shy:=hys.imp_right Sh.beq_eq;have hsy:=DR (P:=P) hst.inv hvy hsrc
     have hels:∀q∈ys,aD sh q=true/\q.plain=true/\q.wf:=by
      rcases hys with h|h
      . subst h;simp
      . subst h;exact hsy.els
     obtain⟨vys,hy1,hy2⟩:=hsy.first (min ys.length len) sh.size w rfl (Nat.min_le_left _ _) (by rcases hys with h|h<;>simp[h]);have hyt:∀q∈ys.take (min ys.length len),aD sh q=true/\q.plain=true/\q.wf:=fun q hq=>hels q (wF hq)
     have htl:(ys.take (min ys.length len)).length=min ys.length len:=by rw[wY];omega
     have hone:∀q∈vys.toList,q.oneCell'=true:=fun q hq=>by obtain⟨j,hj,rfl⟩:=wQ hq;exact(hy2.get j hj (by rw[<-hy2.len];exact hj)).oneCell
     have hv0:min ys.length len=0->vys= #[]:=fun h=>by rw[h]at hy2;have:=hy2.len;simp[AV.flats]at this;exact this
     simp only at hs;split at hs
     . rename_i shx els hk;split at hs
       . rename_i hc2;simp only[WA,decide_eq_true_eq]at hc2;simp only[WK,WR]at hs;obtain⟨rfl,rfl⟩:=hs;obtain⟨hbq,hle⟩:=hc2;have:=Sh.beq_eq hbq;subst this;have hsp:els.take off++ys.take (min ys.length len)++els.drop (off+min ys.length len)=cT els off (ys.take (min ys.length len)):=by rw[cT,htl]
         rw[hsp];rcases hst.inv.obs k _ hk with ⟨rfl,hreg⟩|⟨b',cap,c',e',fz,hr',hle0,hb',hsz,hf,hsh,hrc⟩
         . simp only[wP]at hle;obtain⟨rfl,rfl⟩:off=0/\len=0:=by omega
           rcases bF hvx with ⟨a0,_,_,_,hev,_⟩|⟨b,root,mm,e2,o',xo,hr,_⟩
           . have:=hv0 (by simp);subst this;refine⟨_,w,G,⟨rfl,rfl⟩,.inl (run ?_),?_,ba _ _⟩
             . rw[hev];exact rX (P:=P) hu (bx hshT) hsy rfl hy1 (fun ad _=>rfl) (fun _=>rfl)
             . refine cR hst.inv hk _ _ rfl (fun _ _=>rfl) (fun _=>by simp) fun le=>.inl ⟨by simp[cT],hreg⟩
           . rw[hreg]at hr;cases hr
         . rcases bF hvx with ⟨a0,_,_,_,hev,hreg⟩|⟨b,root,mm,e2,o',xo,hr,hs2,hof,hle2,hev,hxo⟩
           . rw[hreg]at hr';cases hr'
           rw[hr]at hr';simp only[WK,Rg.blk.injEq]at hr';obtain⟨rfl,rfl⟩:=hr';simp only[Sh.sub,WK,Sh.ar.injEq]at hs2;obtain⟨rfl,rfl⟩:=hs2;simp only[Sh.off,WK]at hof;subst hof;have hel:(AV.flats els).length=els.length*sh.size:=bj els fun x hx=>aB sh x (hsh x hx).1
           obtain⟨g1,g2,g3,g4⟩:=jx (c:=c') (sh:=sh) (l:=els) (ys:=ys.take (min ys.length len)) (off:=off) (base:=0) (vs:=vys.toList) (pre:=[]) (post:=[])
            (fun q hq=>(hsh q hq).1) (fun q hq=>(hyt q hq).1) (by rw[htl];omega) (by simpa using hrc) rfl hy2 (by rw[hel,hsz,WT];exact WV _ hle0)
           simp only[WT,wR,wb]at g1 g2;refine⟨_,{w with heap:=w.heap.setIfInBounds b (.cells (aY c' (off*sh.size) vys.toList) e' fz)},G,⟨rfl,rfl⟩,.inl (run ?_),?_,ba _ _⟩
           . rw[hev];refine rX (P:=P) hu (bx hshT) hsy rfl hy1 (fun ad had=> ?_) (fun h=>by cases h);cases had;by_cases h0:min ys.length len=0
             . have:=hv0 h0;subst this;simp only[aY,fY hb'];rfl
             . have hx0:=hxo (by omega);rw[WT]at hx0;subst hx0;have:=bp (P:=P) (e:=e') (fz:=fz) vys.toList (off*sh.size) 0 c' w hb' (by simpa using g2) hf.free hone;simpa using this
           . refine cR hst.inv hk _ _ (by simp) (fun b' hb'=>bu fun e=>hb' ⟨_,.of (e▸hr),⟨_,hk,by simp⟩⟩) (fun _=>by simp) fun le =>
              .inr ⟨b,cap,_,e',fz,hr,by rw[g3];exact hle0,bP hb',by simp[aX,hsz],hf.put (aX ..),fun q hq=> ?_,g1.mono le⟩
             simp only[cT,wK]at hq;rcases hq with (hq|hq)|hq
             . exact hsh q (wF hq)
             . exact hyt q hq
             . exact hsh q (wO hq)
       . cases hs
     . rename_i p ob0 p0 shx z hk;split at hs
       . rename_i n0 e0 l hsub hnav;split at hs
         . rename_i hc2;simp only[WA,decide_eq_true_eq]at hc2;simp only[WL,WR]at hs;obtain⟨z',hz',rfl,rfl⟩:=hs;obtain⟨hbq,hle⟩:=hc2;have:=Sh.beq_eq hbq;subst this;have hsp:l.take off++ys.take (min ys.length len)++l.drop (off+min ys.length len)=cT l off (ys.take (min ys.length len)):=by rw[cT,htl]
           rw[hsp]at hz';obtain⟨b',c',e',fz,hr',hb',hsz,hf,hsh,hw,hrc⟩:=hst.inv.obs k _ hk;rcases bF hvx with ⟨a0,_,_,_,hev,hreg⟩|⟨b,root,mm,e2,o',xo,hr,hs2,hof,hle2,hev,hxo⟩
           . rw[hreg]at hr';cases hr'
           rw[hr]at hr';simp only[WK,Rg.blk.injEq]at hr';obtain⟨rfl,rfl⟩:=hr';obtain⟨y0,o2,pre,post,hn',ho',hy0,hfl,hl,hwf,hpl,hset⟩:=fj p root z _ hsh hsub;rw[hnav]at hn';cases hn';rw[hof]at ho';cases ho';rw[hs2]at hsub;simp only[WK,Sh.ar.injEq]at hsub;obtain⟨rfl,rfl⟩:=hsub;rw[bS]at hy0;simp only[WA,beq_iff_eq,wE]at hy0;have hlw:=hwf hw;rw[AV.wf,AV.wfp_iff]at hlw;rw[AV.flat]at hfl;have hcl:z.flat.length=root.size:=aB root z hsh;obtain⟨g1,g2,g3,g4⟩:=jx (c:=c') (sh:=e2) (l:=l) (ys:=ys.take (min ys.length len)) (off:=off) (base:=o') (vs:=vys.toList) (pre:=pre) (post:=post)
            (fun q hq=>hy0.2 q hq) (fun q hq=>(hyt q hq).1) (by rw[htl];omega) (by rw[<-hfl];exact hrc) hl hy2 (by
              rw[hsz,<-hcl,hfl];simp[hl])
           have hnew:aD (.ar mm e2) (.agg (cT l off (ys.take (min ys.length len))))=true:=by
            rw[bS];simp only[WA,beq_iff_eq,wE,g3,hy0.1,true_and];intro q hq;simp only[cT,wK]at hq;rcases hq with (hq|hq)|hq
            . exact hy0.2 q (wF hq)
            . exact(hyt q hq).1
            . exact hy0.2 q (wO hq)
           have hnw:(AV.agg (cT l off (ys.take (min ys.length len)))).wf:=by
            rw[AV.wf,AV.wfp_iff];intro q hq;simp only[cT,wK]at hq;rcases hq with (hq|hq)|hq
            . exact hlw q (wF hq)
            . exact(hyt q hq).2
            . exact hlw q (wO hq)
           obtain⟨z'',hz'',hsh',hfl',hwf',_⟩:=hset _ hnew;rw[hz']at hz'';cases hz'';refine⟨_,{w with heap:=w.heap.setIfInBounds b (.cells (aY c' (o'+off*e2.size) vys.toList) e' fz)},G,⟨rfl,rfl⟩,.inl (run ?_),?_,ba _ _⟩
           . rw[hev];refine rX (P:=P) hu (bx hshT) hsy rfl hy1 (fun ad had=> ?_) (fun h=>by cases h);cases had;by_cases h0:min ys.length len=0
             . have:=hv0 h0;subst this;simp only[aY,fY hb'];rfl
             . have hx0:=hxo (by omega);subst hx0;have:=bp (P:=P) (e:=e') (fz:=fz) vys.toList (o'+off*e2.size) 0 c' w hb' (by simpa using g2) hf hone;simpa using this
           . refine cR hst.inv hk _ _ (by simp) (fun b' hb'=>bu fun e=>hb' ⟨_,.of (e▸hr),⟨_,hk,by simp⟩⟩) (fun _=>by simp) fun le =>
              ⟨b,_,e',fz,hr,bP hb',by simp[aX,hsz],by unfold free at hf ⊢;rw[aX];exact hf,hsh',hwf' hw hnw,?_⟩
             rw[hfl',AV.flat];exact g1.mono le
         . cases hs
       . cases hs
     . cases hs
   . cases hs
 . unfold gr at hs;split at hs
   . rename_i k off len k' off2 len2 hvx' hvy';rw[hvx',aq rfl]at hvx;rw[hvy',aq rfl]at hvy;split at hs
     . rename_i hkk;subst hkk;split at hs
       . rename_i shx els hk;rw[WM,WA,decide_eq_true_eq]at hs;obtain⟨⟨hbq,hoff,hend,hsrc,hpos⟩,hs⟩:=hs;cases hs;have:=Sh.beq_eq hbq;subst this;rcases hst.inv.obs k _ hk with ⟨rfl,hreg⟩|⟨b',cap,c',e',fz,hr',hle0,hb',hsz,hf,hsh,hrc⟩
         . exfalso;simp only[wP]at *;omega
         rcases bF hvx with ⟨a0,_,_,_,hev,hreg⟩|⟨b,root,mm,e2,o',xo,hr,hs2,hof,hle2,hev,hxo⟩
         . rw[hreg]at hr';cases hr'
         rw[hr]at hr';simp only[WK,Rg.blk.injEq]at hr';obtain⟨rfl,rfl⟩:=hr';simp only[Sh.sub,WK,Sh.ar.injEq]at hs2;obtain⟨rfl,rfl⟩:=hs2;simp only[Sh.off,WK]at hof;subst hof;have hx0:=hxo (by omega);rw[WT]at hx0;subst hx0;rcases bF hvy with ⟨a0,_,_,_,_,hreg⟩|⟨b2,root,mm,e2,o',xo,hr2,hs2,hof,hle3,hev2,hxo2⟩
         . rw[hreg]at hr;cases hr
         rw[hr]at hr2;simp only[WK,Rg.blk.injEq]at hr2;obtain⟨rfl,rfl⟩:=hr2;simp only[Sh.sub,WK,Sh.ar.injEq]at hs2;obtain⟨rfl,rfl⟩:=hs2;simp only[Sh.off,WK]at hof;subst hof;have hx0:=hxo2 (by omega);rw[WT]at hx0;subst hx0;obtain⟨f1,f2,f3⟩:=fp (n:=sh.size) (fun x hx=>aB sh x (hsh x hx).1) off2 (min len2 len) hsrc;have hr':=hrc.part f1;rw[f2,WT]at hr';obtain⟨vs,h5,h6⟩:=ph (P:=P) (w':=w) rfl hb' hr' f3.symm;have hel:(AV.flats els).length=els.length*sh.size:=bj els fun x hx=>aB sh x (hsh x hx).1
         have hvl:vs.toList.length=min len2 len*sh.size:=by rw[h6.len,f3]
         have hbd:off*sh.size+vs.toList.length<=c'.size:=by rw[hvl,hsz,<-WW];exact WV _ (by omega)
         have hone:∀q∈vs.toList,q.oneCell'=true:=fun q hq=>by obtain⟨j,hj,rfl⟩:=wQ hq;exact(h6.get j hj (by rw[<-h6.len];exact hj)).oneCell
         have hst2:=bp (P:=P) (e:=e') (fz:=fz) vs.toList (off*sh.size) 0 c' w hb' (by simpa using hbd) hf.free hone;simp only[WY]at hst2;have htk:(AV.flats (els.take off)).length=off*sh.size:=by rw[bj (n:=sh.size) _ fun x hx=>aB sh x (hsh x (wF hx)).1,wY,Nat.min_eq_left hoff]
         have htk2:AV.flats els=AV.flats (els.take off)++AV.flats (els.drop off):=by rw[<-AV.flats_append,List.take_append_drop]
         have hnew:RepC w.heap G (aY c' (off*sh.size) vs.toList) 0 (AV.flats (els.take off++sub els off2 (min len2 len))):=by
          intro j hj;rw[AV.flats_append,wX,htk]at hj;rw[WT,gM _ _ _ _ hbd];by_cases h:j<off*sh.size
          . rw[if_neg (by omega)];obtain⟨q,hq,hrq⟩:=hrc j (by rw[htk2,wX,htk];omega);refine⟨q,by simpa using hq,?_⟩;simp only[AV.flats_append];rw[w3 (by omega)];simp only[htk2]at hrq;rw[w3 (by omega)]at hrq;exact hrq
          . rw[f3]at hj;have hj2:j-off*sh.size<vs.toList.length:=by rw[hvl];omega
            rw[if_pos (by omega),wH hj2];refine⟨_,rfl,?_⟩;simp only[AV.flats_append];rw[we (by omega)];have:=h6.get (j-off*sh.size) hj2 (by rw[<-h6.len];exact hj2);simpa[htk]using this
         have hlen2:(els.take off++sub els off2 (min len2 len)).length<=cap:=by rw[wX,wY,mO hsrc];omega
         refine⟨_,{w with heap:=w.heap.setIfInBounds b (.cells (aY c' (off*sh.size) vs.toList) e' fz)},G,⟨rfl,rfl⟩,.inl (run (r:=.int .i64 (min len2 len:Nat)) ?_),cR hst.inv hk _ _ (by simp) (fun b' hb'=>bu fun e=>hb' ⟨_,.of (e▸hr),⟨_,hk,by simp⟩⟩) (fun _=>by simp) fun le =>
          .inr ⟨b,cap,_,e',fz,hr,hlen2,bP hb',by simp[aX,hsz],hf.put (aX ..),fun q hq=> ?_,hnew.mono le⟩,ba _ _⟩
         . rw[hev,hev2];have hn':Nat.min len2 len=min len2 len:=rfl;simp only[Builtin.copy_,wC,wB,wD,ww,aC hu,br (bx hshT),wy,Builtin.lenOf,wx,hn',Builtin.firstCells,h5,hst2];rfl
         . rcases wK.1 hq with hq|hq
           . exact hsh q (wF hq)
           . exact hsh q (yg hq)
       . cases hs
     . cases hs
   . cases hs
 . cases hs
theorem qU {α β:Type}(f:α->β->Sem (ForInStep β))(s0 s1:β):∀(l:List α) (n:Nat) (res:Bool),
  (∀(i:Nat) (x:α),l[i]? =some x->i<n->(f x s0).run P w= .ok (.yield s0) w) ->
  (n=l.length/\res=true\/res=false/\∃x,l[n]? =some x/\(f x s0).run P w= .ok (.done s1) w) ->
  (forIn l s0 f).run P w= .ok (if res then s0 else s1) w
 | [],n,res,_,h=>by
   rcases h with ⟨_,rfl⟩|⟨_,x,hx,_⟩
   . rfl
   . simp at hx
 | x::l,n,res,h1,h2=>by
   simp only[wt,ww]
   cases n with
   | zero =>
     rcases h2 with ⟨h,_⟩|⟨rfl,y,hy,hr⟩
     . simp at h
     . simp only[wB,WK]at hy;subst hy;rw[hr];rfl
   | succ n =>rw[h1 0 x rfl (by omega)];simp only[wy];exact qU f s0 s1 l n res (fun i y hy hi=>h1 (i+1) y (by simpa using hy) (by omega)) (by simpa using h2)
theorem tW :∀{fs:List Ek} {l m:List AV} {r:Bool},lD fs l m=some r->l.length=fs.length/\m.length=fs.length\/r=false->∃n,
  (∀(i:Nat) (s:Ek) (x y:AV),i<n->fs[i]? =some s->l[i]? =some x->m[i]? =some y->jZ s x y=some true) /\
  (n=fs.length/\r=true\/r=false/\∃s x y,fs[n]? =some s/\l[n]? =some x/\m[n]? =some y/\jZ s x y=some false)
 | [],[],[],r,h,_=>by simp only[lD,WK]at h;exact⟨0,fun i _ _ _ hi=>by omega,.inl ⟨rfl,h.symm⟩⟩
 | s::fs,x::l,y::m,r,h,hl=>by
   simp only[lD,WN]at h;obtain⟨t,ht,h⟩:=h
   cases t with
   | false =>simp only[WD,if_false,WK]at h;exact⟨0,fun i _ _ _ hi=>by omega,.inr ⟨h.symm,s,x,y,rfl,rfl,rfl,ht⟩⟩
   | true =>
     simp only[if_true]at h;obtain⟨n,h1,h2⟩:=tW h (by simpa using hl);refine⟨n+1,fun i s' x' y' hi h3 h4 h5=> ?_,by simpa using h2⟩
     cases i with
     | zero=>simp only[wB,WK]at h3 h4 h5;subst h3 h4 h5;exact ht
     | succ i=>exact h1 i s' x' y' (by omega) (by simpa using h3) (by simpa using h4) (by simpa using h5)
 | [],_::_,_,_,h,_=>by simp[lD]at h
 | [],[],_::_,_,h,_=>by simp[lD]at h
 | _::_,[],_,_,h,_=>by simp[lD]at h
 | _::_,_::_,[],_,h,_=>by simp[lD]at h
theorem tU {f:AV×AV->Option Bool}:∀{l:List (AV×AV)} {r:Bool},tV l f=some r->∃n,
  (∀(i:Nat) (p:AV×AV),i<n->l[i]? =some p->f p=some true)/\(n=l.length/\r=true\/r=false/\∃p,l[n]? =some p/\f p=some false)
 | [],r,h=>by simp only[tV,WK]at h;exact⟨0,fun i _ hi=>by omega,.inl ⟨rfl,h.symm⟩⟩
 | p::l,r,h=>by
   simp only[tV,WN]at h;obtain⟨t,ht,h⟩:=h
   cases t with
   | false =>simp only[WD,if_false,WK]at h;exact⟨0,fun i _ hi=>by omega,.inr ⟨h.symm,p,rfl,ht⟩⟩
   | true =>
     simp only[if_true]at h;obtain⟨n,h1,h2⟩:=tU h;refine⟨n+1,fun i q hi h3=> ?_,by simpa using h2⟩
     cases i with
     | zero=>simp only[wB,WK]at h3;subst h3;exact ht
     | succ i=>exact h1 i q (by omega) (by simpa using h3)
theorem xj :∀(n d m:Nat) (t:TypeId) (sh:Sh) (ek:Ek) (vx vy:Value) (x y:AV) (r:Bool),n<=d->mC P n t=some ek->dh P m t=some sh->aD sh x=true->aD sh y=true ->
  RepV w.heap G vx x->RepV w.heap G vy y->jZ ek x y=some r->(Op.equalIn d t vx vy).run P w= .ok r w:=by
 intro n
 induction n with
 | zero=>intro d m t sh ek vx vy x y r _ h;simp[mC]at h
 | succ n ih =>
   intro d m t sh ek vx vy x y r hd hok hsh hx hy hvx hvy he;obtain⟨d,rfl⟩:∃d',d=d'+1:=⟨d-1,by omega⟩;simp only[mC]at hok;split at hok
   . rename_i hu;simp only[WK]at hok;subst hok;cases x<;>cases y<;>simp only[jZ]at he<;>(try (cases he;done));simp only[WK]at he;subst he;rw[cA ((RepT.of_known rfl).2 hvx),cA ((RepT.of_known rfl).2 hvy)];exact oK hu
   . rename_i kk hu;simp only[WK]at hok;subst hok;cases x<;>cases y<;>simp only[jZ]at he<;>(try (cases he;done));split at he
     . rename_i hk;simp only[WK]at he;subst he hk;rw[aU ((RepT.of_known rfl).2 hvx),aU ((RepT.of_known rfl).2 hvy)];simp only[Op.equalIn,ww,aC hu,wy,if_true,wx]
     . cases he
   . rename_i hu;simp only[WK]at hok;subst hok;cases x<;>cases y<;>simp only[jZ]at he<;>(try (cases he;done));rename_i l1 l2;simp only[WK]at he;subst he;rw[ee ((RepT.of_known rfl).2 hvx),ee ((RepT.of_known rfl).2 hvy)];have e1:((ByteArray.mk ⟨l1⟩)==(ByteArray.mk ⟨l2⟩))=(l1==l2):=by change ((⟨l1⟩:Array UInt8)==⟨l2⟩)=_;simp
     simp only[Op.equalIn,ww,aC hu,wy,wx,e1]
   . rename_i fs hu;split at hok
     . rename_i hcond;simp only[WA,WG,wE]at hcond;obtain⟨hstood,hfs⟩:=hcond;simp only[WL]at hok;obtain⟨eks,heks,rfl⟩:=hok;obtain⟨hel,heg⟩:=fm heks;obtain⟨shs,rfl,hlen,hget⟩:=dW hsh hu;cases x<;>cases y<;>simp only[jZ]at he<;>(try (cases he;done));rename_i lx ly;rw[fJ]at hx hy;obtain⟨xs,rfl,hxl,hxw⟩:=eP ((RepT.of_known rfl).2 hvx) rfl;obtain⟨ys,rfl,hyl,hyw⟩:=eP ((RepT.of_known rfl).2 hvy) rfl;have hlx:lx.length=fs.size:=by rw[hlen];exact(gp hx).symm
       have hly:ly.length=fs.size:=by rw[hlen];exact(gp hy).symm
       have hle:eks.length=fs.size:=by simpa using hel
       obtain⟨k,hk1,hk2⟩:=tW he (.inl ⟨by omega,by omega⟩);have field:∀(i:Nat) (f:Field) (s:Sh) (ek:Ek) (u v:AV) (b:Bool),fs[i]? =some f->shs[i]? =some s->eks[i]? =some ek->lx[i]? =some u->ly[i]? =some v->jZ ek u v=some b ->
         f.name≠ "_" /\∃pu pv,(part f.type xs f.offset).run P w= .ok pu w/\(part f.type ys f.offset).run P w= .ok pv w/\(Op.equalIn d f.type pu pv).run P w= .ok b w:=by
        intro i f s ek u v b hf hs hek hu' hv' he';obtain⟨s',g1,g2,g3,n',g4⟩:=hget i f hf;rw[hs]at g1;cases g1;obtain⟨ek',hek1,hek2⟩:=heg i f (by simpa using hf);rw[hek]at hek1;cases hek1;have hmem:=hfs f (by have:=wS (l:=fs.toList) (i:=i) (by simpa using hf);exact this);obtain⟨u',hu2,hsu⟩:=ew hx hs;rw[hu']at hu2;cases hu2;obtain⟨v',hv2,hsv⟩:=ew hy hs;rw[hv']at hv2;cases hv2;obtain⟨pre,post,k1,k2,_⟩:=dr hx hu';obtain⟨pre',post',k1',k2',_⟩:=dr hy hv';have hp:=(bD hxl).part k1;rw[WT,k2]at hp;have hp':=(bD hyl).part k1';rw[WT,k2']at hp';obtain⟨pu,hpu,hru⟩:=gz (P:=P) (w:=w) (G:=G) (cs:=xs) (off:=f.offset) g4 hsu (dO hxw hu') (by rw[g2];exact hp);obtain⟨pv,hpv,hrv⟩:=gz (P:=P) (w:=w) (G:=G) (cs:=ys) (off:=f.offset) g4 hsv (dO hyw hv') (by rw[g2];exact hp');exact⟨by simpa using hmem,pu,pv,hpu,hpv,ih d n' f.type s ek pu pv u v b (by omega) hek2 g4 hsu hsv hru hrv he'⟩
       simp only[Op.equalIn,ww,aC hu,wy,run_program,hstood,<-Wa,WD,if_false];rw[qU (P:=P) (w:=w) _ (none,()) (some false,()) fs.toList k r]
       . cases r<;>rfl
       . intro i f hf hi;rw[W9]at hf;have hil:i<fs.size:=(W5.1 hf).1;obtain⟨hn,pu,pv,h1,h2,h3⟩:=field i f (shs[i]'(by omega)) (eks[i]'(by omega)) (lx[i]'(by omega)) (ly[i]'(by omega)) true hf (by simp) (by simp) (by simp) (by simp) (hk1 i _ _ _ hi (by simp) (by simp) (by simp));simp only[hn,ne_eq,not_false_eq_true,if_true,ww,h1,h2,h3,wy];rfl
       . rcases hk2 with ⟨h1,h2⟩|⟨h1,s,u,v,h2,h3,h4,h5⟩
         . exact .inl ⟨by simp[h1,hle],h2⟩
         . have hil:k<fs.size:=by rw[<-hle];exact(wG.1 h2).1
           obtain⟨hn,pu,pv,g1,g2,g3⟩:=field k fs[k] (shs[k]'(by omega)) s u v false (by simp[hil]) (by simp) h2 h3 h4 h5;refine .inr ⟨h1,fs[k],by simp[hil],?_⟩;simp only[hn,ne_eq,not_false_eq_true,if_true,ww,g1,g2,g3,wy];rfl
     . cases hok
   . rename_i k e hu;simp only[WL]at hok;obtain⟨ek,hek,rfl⟩:=hok;obtain⟨s,rfl,hsz,n',hse⟩:=fc hsh hu;cases x<;>cases y<;>simp only[jZ]at he<;>(try (cases he;done));rename_i lx ly;rw[bS]at hx hy;simp only[WA,beq_iff_eq,wE]at hx hy;obtain⟨xs,rfl,hxl,hxw⟩:=eP ((RepT.of_known rfl).2 hvx) rfl;obtain⟨ys,rfl,hyl,hyw⟩:=eP ((RepT.of_known rfl).2 hvy) rfl;split at he
     . obtain⟨q,hq1,hq2⟩:=tU he
       have elem:∀(i:Nat) (u v:AV) (b:Bool),lx[i]? =some u->ly[i]? =some v->jZ ek u v=some b ->
         ∃pu pv,(part e xs (i*s.size)).run P w= .ok pu w/\(part e ys (i*s.size)).run P w= .ok pv w/\(Op.equalIn d e pu pv).run P w= .ok b w:=by
        intro i u v b hu' hv' he';have hsu:=hx.2 u (wS hu');have hsv:=hy.2 v (wS hv');obtain⟨pre,post,k1,k2,_⟩:=cr (fun z hz=>aB s z (hx.2 z hz)) hu';obtain⟨pre',post',k1',k2',_⟩:=cr (fun z hz=>aB s z (hy.2 z hz)) hv';have hp:=(bD hxl).part k1;rw[WT,k2]at hp;have hp':=(bD hyl).part k1';rw[WT,k2']at hp';obtain⟨pu,hpu,hru⟩:=gz (P:=P) (w:=w) (G:=G) (cs:=xs) (off:=i*s.size) hse hsu (dO hxw hu') hp;obtain⟨pv,hpv,hrv⟩:=gz (P:=P) (w:=w) (G:=G) (cs:=ys) (off:=i*s.size) hse hsv (dO hyw hv') hp';exact⟨pu,pv,hpu,hpv,ih d n' e s ek pu pv u v b (by omega) hek hse hsu hsv hru hrv he'⟩
       simp only[Op.equalIn,ww,aC hu,wy,br hsz,Std.Legacy.Range.forIn_eq_forIn_range'];have hzl:(lx.zip ly).length=k:=by rw[List.length_zip,hx.1,hy.1];omega
       rw[qU (P:=P) (w:=w) _ (none,()) (some false,()) _ q r]
       . cases r<;>rfl
       . intro i j hj hi
         have hik:i<k:=by
          rcases hq2 with ⟨h,_⟩|⟨_,p,h,_⟩
          . omega
          . have:=(wG.1 h).1;omega
         have hji:j=i:=by
          rw[w6]at hj
          . simpa using hj.symm
          . simpa[Std.Legacy.Range.size]using hik
         subst hji;obtain⟨pu,pv,h1,h2,h3⟩:=elem j (lx[j]'(by omega)) (ly[j]'(by omega)) true (by simp) (by simp) (hq1 j (lx[j]'(by omega),ly[j]'(by omega)) hi (by simp[wg]));simp only[ww,h1,h2,h3,wy];rfl
       . rcases hq2 with ⟨h1,h2⟩|⟨h1,p,h2,h3⟩
         . exact .inl ⟨by simp[Std.Legacy.Range.size,h1,hzl],h2⟩
         . have hil:q<k:=by rw[<-hzl];exact(wG.1 h2).1
           rw[wg]at h2;obtain⟨pu,pv,g1,g2,g3⟩:=elem q p.1 p.2 false h2.1 h2.2 h3;refine .inr ⟨h1,q,?_,?_⟩
           . rw[w6]
             . simp
             . simpa[Std.Legacy.Range.size]using hil
           . simp only[ww,g1,g2,g3,wy];rfl
     . cases he
   . cases hok
theorem JV {neg:Bool}{bop:BinOp}{t yt:TypeId}{x y:Operand}{x' y':Opd}{sh:Sh}{ek:Ek}(hg:GlOk w.heap G gl)(hst:StOk w.heap G st a.tmps)(ho:o.op= .binOp bop t x y yt)
  (hop:bop=if neg then .neq else .eql) (hag:sh.agg=true) (hgu:P.eqGuardType P.depth t=false) (hsh:dh P SF t=some sh) (hek:mC P SF t=some ek)
  (hx:aw x=some x') (hy:aw y=some y')
  (hs:af gl cl st o.dst (.eqA neg sh ek x' y')=some (v,us)):bX P w G st.hp (execOp a.eval o) v us:=by
 have hvx:=aG hg hst hx;have hvy:=aG hg hst hy;simp only[af]at hs;split at hs
 . rename_i hcond;simp only[WA]at hcond;simp only[WL,WR]at hs;obtain⟨r,hr,rfl,rfl⟩:=hs;have hvx':=(RepT.of_known (bV hcond.1)).1 hvx;have hvy':=(RepT.of_known (bV hcond.2)).1 hvy;have he:=xj SF 10000 SF t sh ek _ _ _ _ r (by decide) hek hsh hcond.1 hcond.2 hvx' hvy' hr;obtain⟨xs,ex,_⟩:=eP hvx (by rw[pL hcond.1,hag]);obtain⟨ys,ey,_⟩:=eP hvy (by rw[pL hcond.2,hag]);rw[ex,ey]at he;have he':(Op.equal t (.agg xs) (.agg ys)).run P w= .ok r w:=he;refine⟨_,w,G,⟨rfl,rfl⟩,.inl ?_,Step.refl hst.inv,cO _⟩;have hguard:(eqGuard bop t x y (.agg xs) (.agg ys)).run P w= .ok () w:=by subst hop;cases neg<;>simp[eqGuard,hgu]
   have hbin:(binOp bop t (.agg xs) (.agg ys)).run P w= .ok (.bool (if neg then !r else r)) w:=by subst hop;cases neg<;>simp only[binOp,WD,if_false,if_true,ww,he',wy,wx]
   simp only[execOp,ho,ex,ey,ww,hguard,hbin,wy,wx]
 . cases hs
theorem kB {zv:Value}{z:AV}{sh:Sh}(hrl:RepL H G zv.cells.toList z.flat)(hzl:z.flat.length=sh.size)(n:Nat) :
  RepL H G (Builtin.zeroCells zv.cells n).toList (AV.flats (List.replicate n z)):=by
 have hzs:zv.cells.size=sh.size:=by have:=hrl.len;rw[<-hzl,<-this];simp
 have:=ed hrl hzl n;rw[<-hzs]at this;exact this
theorem CO {c:Call}{t e:TypeId}{x:Operand}{x':Opd}{sh:Sh}{z:AV}(hg:GlOk w.heap G gl)(hst:StOk w.heap G st a.tmps)(ho:o.op= .call c)(hb:c.callee= .builtin .clear)
  (hargs:c.args= #[x]) (ht:c.argTypes= #[t]) (hu:P.underlying t=some (.slice e)) (hz:dM P e=some (sh,z))
  (hx:aw x=some x') (hs:af gl cl st o.dst (.clear sh z x')=some (v,us)):bX P w G st.hp (execOp a.eval o) v us:=by
 have hvx:=aG hg hst hx;obtain⟨hshT,zv,hzv,hsh,hzp,hzw,hrl⟩:=bJ hz;have hzl:z.flat.length=sh.size:=aB sh z hsh;have run:∀{r:Value} {w':World},(Builtin.clear_ #[t] o.type #[a.eval x]).run P w= .ok r w'->(execOp a.eval o).run P w= .ok (.value r) w':=by intro r w' hr;simp only[execOp,ho,resolve,hb,hargs,ht,ww,wx,wy,invoke,builtin,wM,wJ,wT,hr]
 simp only[af]at hs;split at hs
 . rename_i k off len hvx';rw[hvx',aq rfl]at hvx;split at hs
   . rename_i shx els hk;rw[WM,WA,decide_eq_true_eq]at hs;obtain⟨⟨hbq,hle⟩,hs⟩:=hs;cases hs;have:=Sh.beq_eq hbq;subst this;have hrz:∀q∈List.replicate len z,aD sh q=true/\q.plain=true/\q.wf:=fun q hq=>by rw[wi hq];exact⟨hsh,hzp,hzw⟩
     have hsp:els.take off++List.replicate len z++els.drop (off+len)=cT els off (List.replicate len z):=by rw[cT,wk]
     rw[hsp];have hzl2:=kB (hrl w.heap G) hzl len;rcases hst.inv.obs k _ hk with ⟨rfl,hreg⟩|⟨b',cap,c',e',fz,hr',hle0,hb',hsz,hf,hsh',hrc⟩
     . simp only[wP]at hle;obtain⟨rfl,rfl⟩:off=0/\len=0:=by omega
       rcases bF hvx with ⟨a0,_,_,_,hev,_⟩|⟨b,root,mm,e2,o',xo,hr,_⟩
       . refine⟨.tuple #[],w,G,⟨rfl,rfl⟩,.inl (run ?_),cR hst.inv hk _ _ rfl (fun _ _=>rfl) (fun _=>by simp) fun le=>.inl ⟨by simp[cT],hreg⟩,trivial⟩;rw[hev];simp only[Builtin.clear_,wC,wB,ww,aC hu,wy];cases a0<;>rfl
       . rw[hreg]at hr;cases hr
     . rcases bF hvx with ⟨a0,_,_,_,hev,hreg⟩|⟨b,root,mm,e2,o',xo,hr,hs2,hof,hle2,hev,hxo⟩
       . rw[hreg]at hr';cases hr'
       rw[hr]at hr';simp only[WK,Rg.blk.injEq]at hr';obtain⟨rfl,rfl⟩:=hr';simp only[Sh.sub,WK,Sh.ar.injEq]at hs2;obtain⟨rfl,rfl⟩:=hs2;simp only[Sh.off,WK]at hof;subst hof;have hel:(AV.flats els).length=els.length*sh.size:=bj els fun x hx=>aB sh x (hsh' x hx).1
       obtain⟨g1,g2,g3,g4⟩:=jx (c:=c') (sh:=sh) (l:=els) (ys:=List.replicate len z) (off:=off) (base:=0) (vs:=(Builtin.zeroCells zv.cells len).toList) (pre:=[]) (post:=[])
        (fun q hq=>(hsh' q hq).1) (fun q hq=>(hrz q hq).1) (by rw[wk];exact hle) (by simpa using hrc) rfl hzl2 (by rw[hel,hsz,WT];exact WV _ hle0)
       simp only[WT,wR,wb]at g1 g2;refine⟨.tuple #[],{w with heap:=w.heap.setIfInBounds b (.cells (aY c' (off*sh.size) (Builtin.zeroCells zv.cells len).toList) e' fz)},G,⟨rfl,rfl⟩,.inl (run ?_),
        cR hst.inv hk _ _ (by simp) (fun b' hb'=>bu fun e=>hb' ⟨_,.of (e▸hr),⟨_,hk,by simp⟩⟩) (fun _=>by simp) fun le =>
         .inr ⟨b,cap,_,e',fz,hr,by rw[g3];exact hle0,bP hb',by simp[aX,hsz],hf.put (aX ..),fun q hq=> ?_,g1.mono le⟩,trivial⟩
       . rw[hev]
         cases len with
         | zero =>
           have:Builtin.zeroCells zv.cells 0= #[]:=by simp[Builtin.zeroCells]
           rw[this];simp only[Builtin.clear_,wC,wB,ww,aC hu,wy,aY,fY hb',wx]
         | succ len =>
           have hx0:=hxo (by omega);rw[WT]at hx0;subst hx0;have hs1:=bp (P:=P) (e:=e') (fz:=fz) (Builtin.zeroCells zv.cells (len+1)).toList (off*sh.size) 0 c' w hb' (by simpa using g2) hf.free (fun q hq=>by
            obtain⟨j,hj,rfl⟩:=wQ hq;exact(hzl2.get j hj (by rw[<-hzl2.len];exact hj)).oneCell)
           simp only[WY]at hs1;simp only[Builtin.clear_,wC,wB,ww,aC hu,wy,hzv,hs1,wx]
       . simp only[cT,wK]at hq;rcases hq with (hq|hq)|hq
         . exact hsh' q (wF hq)
         . exact hrz q hq
         . exact hsh' q (wO hq)
   . cases hs
 . cases hs
theorem Gj {c:Call}{t e:TypeId}{x:Operand}{x':Opd}(hg:GlOk w.heap G gl)(hst:StOk w.heap G st a.tmps)(ho:o.op= .call c)(hb:c.callee= .builtin .cap)
  (hargs:c.args= #[x]) (ht:c.argTypes= #[t]) (hu:P.underlying t=some (.slice e))
  (hx:aw x=some x') (hs:af gl cl st o.dst (.capl x')=some (v,us)):bX P w G st.hp (execOp a.eval o) v us:=by
 have hvx:=aG hg hst hx;simp only[af]at hs;split at hs
 . rename_i sh l hvx';rw[hvx',aq rfl]at hvx;cases hs;obtain⟨b,cap,hev,hcap,hfull,hsh,_⟩:=eh hvx;have:=hfull rfl;subst this;refine⟨_,w,G,⟨rfl,rfl⟩,.inl ?_,Step.refl hst.inv,ba _ _⟩;simp only[execOp,ho,resolve,hb,hargs,ht,ww,wx,wy,invoke,builtin,wM,wJ,wT,hev,Builtin.cap_,wC,wB,aC hu];rfl
 . cases hs
theorem j6 {t u e:TypeId}{ty:TypeId}{b:Option Addr}{cap:Nat}{sh shx:Sh}{z:AV}{i:TypeInfo}{l:List AV}{n:Nat}
  (hu:P.underlying t=some (.slice e)) (hu2:P.underlying u=some (.int .i64)) (hz:dM P e=some (sh,z)) (hi:P.info? e=some i) (hbytes:i.bytes<=1024) (hpos:0<sh.size) (h1n:1<=n)
  (hx:Src P w.heap G (.slice b l.length cap) shx l) (hxs:l=[]\/sh=shx) (hlt:cap<l.length+n) (hlim:l.length+n<=LIM) :
  ∃(newCap:Nat) (c:Array Value),(Builtin.append_ #[t,u] ty #[.slice b l.length cap,.int .i64 n]).run P w =
     .ok (.slice (some ⟨w.heap.size,0,none⟩) (l.length+n) newCap) {w with drawn:=w.drawn+1,heap:=w.heap.push (.cells c e)} /\
   l.length+n<=newCap/\c.size=newCap*sh.size/\RepC w.heap G c 0 (AV.flats (l++List.replicate n z)):=by
 obtain⟨hshT,zv,hzv,hsh,hzp,hzw,hrl⟩:=bJ hz;have hzl:z.flat.length=sh.size:=aB sh z hsh;have hzs:zv.cells.size=sh.size:=by have:=(hrl w.heap G).len;rw[<-hzl,<-this];simp
 let w1:World:={w with drawn:=w.drawn+1}
 obtain⟨vx,hx1,hx2⟩:=hx.firstAll (size:=sh.size) (by rcases hxs with h|h<;>simp[h]) w1 rfl;have hz2:=kB (hrl w.heap G) hzl n
 let newCap:=(Question.appendCap (l.length+n) cap e).cut (w.tape w.drawn (.appendCap (l.length+n) cap e))
 have hcap:l.length+n<=newCap:=WX _ _;have hlx:(AV.flats l).length=l.length*sh.size:=by
  rcases hxs with h|h
  . subst h;simp[AV.flats]
  . subst h;exact bj l fun x hx'=>aB sh x (hx.els x hx').1
 have s1:vx.size=l.length*sh.size:=by rw[<-hlx,<-hx2.len];simp
 have s2:(Builtin.zeroCells zv.cells n).size=n*sh.size:=by simp[Builtin.zeroCells,hzs]
 refine⟨newCap,vx++Builtin.zeroCells zv.cells n++Builtin.zeroCells zv.cells (newCap-(l.length+n)),?_,hcap,?_,?_⟩
 . have hq:(Question.appendCap (l.length+n) cap e).forced=false:=rfl;have c1:¬(l.length+n<=cap):=by omega
   have c2:¬(((l.length+n:Nat):Int)>IntKind.i64.max):=by have:IntKind.i64.max=2^63-1:=rfl;rw[this];simp only[LIM]at hlim;omega
   have c3:¬(Builtin.nextslicecap (l.length+n) cap*i.bytes>2^48):=by have h1:=gH hlt hlim;have h2:Builtin.nextslicecap (l.length+n) cap*i.bytes<=Builtin.nextslicecap (l.length+n) cap*1024:=WZ _ hbytes;omega
   have wn:IntKind.i64.wrap (n:Int)=n:=by simp[IntKind.wrap,IntKind.bits,IntKind.signed,LIM]at hlim ⊢;omega
   have c4:¬((n:Int)<0):=by omega
   have c5:¬((n:Int)*(i.bytes:Int)>2^48):=by have h4:(n:Int)*(i.bytes:Int)<=2^36*1024:=Int.mul_le_mul (by simp only[LIM]at hlim;omega) (by omega) (by omega) (by decide);omega
   have c6:¬(n*sh.size=0):=Nat.mul_ne_zero (by omega) (by omega);have ai:∀(kk:IntKind) (nn:Int),(Go.asInt (Value.int kk nn)).run P w=Result.ok nn w:=fun kk nn=>by simp[Go.asInt,asIntOf]
   simp only[w1]at hx1;simp only[Builtin.append_,wC,wB,wD,ww,aC hu,aC hu2,br (bx hshT),wy,wx,if_true,ai,wn,c4,if_false,fu hi,c5,
    Int.toNat_natCast,c1,c2,c3,Bool.not_true,WD,c6,false_and,run_choose,hq,run_askRoom]
   simp only[hx1,hzv,wy,newRow,ww,run_newObj,wx];rfl
 . simp only[Wb,s1,s2];simp only[Builtin.zeroCells,We,Wc,hzs];rw[<-WW,<-WW];congr 1;omega
 . have h:=fi hx2 hz2;rw[<-AV.flats_append]at h;intro j hj;have hjl:j<(vx.toList++(Builtin.zeroCells zv.cells n).toList).length:=by rw[h.len];exact hj
   refine⟨(vx.toList++(Builtin.zeroCells zv.cells n).toList)[j],?_,h.get j hjl hj⟩;rw[WT,W6 (by simpa using hjl)];rw[<-W9,Wg,wH hjl]
theorem CT {c:Call}{t u e:TypeId}{x y:Operand}{x' y':Opd}{sh:Sh}{z:AV}{i:TypeInfo}(hg:GlOk w.heap G gl)(hst:StOk w.heap G st a.tmps)(ho:o.op= .call c)(hb:c.callee= .builtin .append)
  (hargs:c.args= #[x,y]) (ht:c.argTypes= #[t,u]) (hu:P.underlying t=some (.slice e)) (hu2:P.underlying u=some (.int .i64)) (hz:dM P e=some (sh,z)) (hi:P.info? e=some i)
  (hx:aw x=some x') (hy:aw y=some y') (hs:af gl cl st o.dst (.appmk sh z i.bytes x' y')=some (v,us)):bX P w G st.hp (execOp a.eval o) v us:=by
 have hvx:=aG hg hst hx;have hvy:=aG hg hst hy;obtain⟨hshT,zv,hzv,hsh,hzp,hzw,hrl⟩:=bJ hz;have run:∀{r:Value} {w':World},(Builtin.append_ #[t,u] o.type #[a.eval x,a.eval y]).run P w= .ok r w'->(execOp a.eval o).run P w= .ok (.value r) w':=by intro r w' hr;simp only[execOp,ho,resolve,hb,hargs,ht,ww,wx,wy,invoke,builtin,wM,wJ,wT,hr]
 simp only[af]at hs;split at hs
 . rename_i k shx l n hk hvx' hvy';rw[hvx',aq rfl]at hvx;rw[hvy']at hvy;rw[WM]at hs;simp only[WA,decide_eq_true_eq,WH,wZ,WQ]at hs;obtain⟨⟨⟨hnone,h1n,hbytes,hpos,hlim⟩,hxs⟩,hs⟩:=hs;cases hs;have hsx:=jc (P:=P) hst.inv hvx (show bn st.hp (.lst true shx l)=some (shx,l)from rfl);obtain⟨b,cap,hev,hcap,hfull,hsh',_⟩:=eh hvx;have hcl:=hfull rfl;have hn:n=((n.toNat:Nat):Int):=by omega
   have hxs':l=[]\/sh=shx:=hxs.imp_right Sh.beq_eq;obtain⟨newCap,c',hrun,h1,h2,h3⟩:=j6 (P:=P) (ty:=o.type) (n:=n.toNat) hu hu2 hz hi hbytes hpos (by omega) (hev▸hsx) hxs' (by omega) hlim;have hst':=fX (sh:=sh) (e:=e) (fz:=(0,0)) (k:=k) (els:=l++List.replicate n.toNat z) (c:=c') (cap:=newCap) hst.inv hnone (by simpa using h1) h2 (.inl rfl)
    (fun q hq=>by
      rcases wK.1 hq with hq|hq
      . rcases hxs' with h|h
        . subst h;cases hq
        . subst h;exact hsh' q hq
      . rw[wi hq];exact⟨hsh,hzp,hzw⟩) h3
   refine⟨_,{w with drawn:=w.drawn+1,heap:=w.heap.push (.cells c' e)},_,⟨rfl,rfl⟩,.inl (run ?_),hst',jz h1⟩;rw[hev,aU hvy,hn];exact hrun
 . cases hs
theorem Dq (a b:ByteArray):(a==b)=true↔a=b:=by show(a.data==b.data)=true↔a=b;rw[beq_iff_eq];exact⟨fun h=>by cases a;cases b;simp_all,fun h=>by rw[h]⟩
theorem pB {a:AV}(h:a.kv=true):a.scalar=true:=by cases a<;>first|rfl|cases h
theorem yn {a:AV}(h:a.kv=true):RepT H G (be a) a:=by
 cases a with
 | bool b=>exact cO b
 | int k n=>exact ba k n
 | str l=>exact gB l
 | _=>cases h
theorem Ej {a:AV}{v:Value}(h:a.kv=true)(hr:RepT H G v a):v=be a:=by
 cases a with
 | bool b=>exact cA hr
 | int k n=>exact aU hr
 | str l=>exact ee hr
 | _=>cases h
theorem nc :∀{l:List AV},l.all isI=true->AV.flats l=l
 | [],_=>rfl
 | x::l,h=>by simp only[wj,WA]at h;rw[AV.flats,nc h.2];cases x<;>first|rfl|cases h.1
theorem Jy {l:List AV}(h:l.all isI=true):AV.wfp l:=by rw[AV.wfp_iff];intro x hx;have:=wE.1 h x hx;cases x<;>first|exact⟨rfl,trivial⟩|cases this
theorem FT {l:List AV}(h:l.all isI=true):RepL H G (l.map Hs) l:=by
 refine⟨by simp,fun j h1 h2=> ?_⟩;have:=wE.1 h l[j] (wU h2);simp only[wW];generalize l[j]=x at *
 cases x<;>first|exact .int _ _|cases this
theorem th {l:List AV}(h:l.all isI=true):RepV H G (be (.agg l)) (.agg l) :=
 ⟨rfl,Jy h,l.map Hs,by rw[AV.flat,nc h];exact FT h,rfl⟩
theorem yp {a:AV}{v:Value}(h:a.kkv=true)(hr:RepT H G v a):v=be a:=by
 cases a with
 | agg l =>
   obtain⟨_,_,vs,hl,rfl⟩:=hr;have h':l.all isI=true:=h;rw[AV.flat,nc h']at hl;show Value.agg vs.toArray=Value.agg (l.map Hs).toArray
   congr 2
   refine List.ext_getElem (by rw[hl.len];simp) fun j h1 h2=> ?_
   have hj:j<l.length:=by simpa using h2
   have h3:=hl.get j h1 hj;have h4:=wE.1 h' l[j] (wU hj);simp only[wW];generalize l[j]=x at *
   generalize vs[j]=y at *
   cases x<;>first|(cases h3;rfl)|cases h4
 | _=>first|exact Ej h hr|cases h
theorem lZ {kk:Nat}{a:AV}(h:cD kk a=true):a.kkv=true:=by unfold cD at h;split at h<;>first|rfl|(simp only[WA]at h;exact h.2)|cases h
theorem M1 {v:Value}{k:Nat}(h:RepS H G v (.mp k)):∃b,v= .map (some b)/\G.reg k=some (.blk b .sc):=by
 cases h with
 | mp _ b hr=>exact⟨b,rfl,hr⟩
theorem lC :∀{l m:List AV} {r:Bool},eqI l m=some r->m.length=l.length/\l.all isI=true/\m.all isI=true/\(∀fs:List Ek,fs.all Ek.isIt=true->l.length=fs.length->lD fs l m=some r)/\tV (l.zip m) (fun p=>jZ .it p.1 p.2)=some r/\(r=true->l=m)
 | [],[],r,h=>by simp only[eqI,WK]at h;subst h;exact⟨rfl,rfl,rfl,fun fs _ hl=>by obtain rfl:=w5.1 hl.symm;rfl,rfl,fun _=>rfl⟩
 | [],y::m,r,h=>by simp[eqI]at h
 | x::l,[],r,h=>by cases x<;>simp[eqI]at h
 | x::l,y::m,r,h=>by
   cases x<;>(try (simp[eqI]at h;done));cases y<;>(try (simp[eqI]at h;done));rename_i k a k' b;simp only[eqI]at h;rw[WM,WL]at h;obtain⟨rfl,t,ht,rfl⟩:=h;obtain⟨h1,h2,h3,h4,h5,h6⟩:=lC ht;refine⟨by simp[h1],by simp[h2,isI],by simp[h3,isI],fun fs hf hl=> ?_,?_,fun hr=> ?_⟩
   . cases fs with
     | nil=>simp at hl
     | cons f fs =>simp only[wj,WA]at hf;cases f<;>(try (cases hf.1;done));have:=h4 fs hf.2 (by simpa using hl);cases e:(a==b)<;>simp[lD,jZ,e,this]
   . cases e:(a==b)<;>simp[tV,jZ,e,h5]
   . rw[WA,beq_iff_eq]at hr;rw[hr.1,h6 hr.2]
theorem vX :∀{l:List AV} {n:Nat},l.length=n->l.all isI=true->bh (List.replicate n .sc) l=true
 | [],0,_,_=>rfl
 | [],n+1,h,_=>by simp at h
 | x::l,0,h,_=>by simp at h
 | x::l,n+1,h,hi=>by simp only[wj,WA]at hi;rw[List.replicate_succ,bh,vX (by simpa using h) hi.2];cases x<;>first|rfl|cases hi.1
theorem zV {α:Type}(f:α->PUnit->Sem (ForInStep PUnit)):∀(l:List α),(∀(i:Nat) (x:α),l[i]? =some x->(f x ⟨⟩).run P w= .ok (.yield ⟨⟩) w)->(forIn l ⟨⟩ f).run P w= .ok ⟨⟩ w:=fun l h=>by have:=qU (P:=P) (w:=w) f ⟨⟩ ⟨⟩ l l.length true (fun i x hx _=>h i x hx) (.inl ⟨rfl,rfl⟩);simpa using this
theorem GT (em:Bool):∀(n d m:Nat) (t:TypeId) (sh:Sh) (ek:Ek) (vx:Value) (x:AV),n<d->mC P n t=some ek->dh P m t=some sh->aD sh x=true->RepV w.heap G vx x->(Instr.checkKey em d t vx).run P w= .ok () w:=by
 intro n
 induction n with
 | zero=>intro d m t sh ek vx x _ h;simp[mC]at h
 | succ n ih =>
   intro d m t sh ek vx x hd hok hsh hx hvx;obtain⟨d,rfl⟩:∃d',d=d'+1:=⟨d-1,by omega⟩;simp only[mC]at hok;unfold Instr.checkKey;split at hok
   . rename_i hu;simp only[ww,aC hu,wy,wx]
   . rename_i kk hu;simp only[ww,aC hu,wy,wx]
   . rename_i hu;simp only[ww,aC hu,wy,wx]
   . rename_i fs hu;split at hok
     . rename_i hcond;simp only[WA,WG,wE]at hcond;obtain⟨hstood,hfs⟩:=hcond;simp only[WL]at hok;obtain⟨eks,heks,rfl⟩:=hok;obtain⟨hel,heg⟩:=fm heks;obtain⟨shs,rfl,hlen,hget⟩:=dW hsh hu;have hagg:x.isAgg=true:=by simp only[aD,WA]at hx;exact hx.1
       obtain⟨xs,rfl,hxl,hxw⟩:=eP ((RepT.of_known hvx.known).2 hvx) hagg;have hx':bh shs x.kids=true:=by simp only[aD,WA]at hx;exact hx.2
       have hle:eks.length=fs.size:=by simpa using hel
       simp only[ww,aC hu,wy,<-Wa];rw[zV]
       . rfl
       intro i f hf;rw[W9]at hf;have hil:i<fs.size:=(W5.1 hf).1;obtain⟨s',g1,g2,g3,n',g4⟩:=hget i f hf;obtain⟨ek',hek1,hek2⟩:=heg i f (by simpa using hf);obtain⟨u',hu2,hsu⟩:=ew hx' g1;obtain⟨pre,post,k1,k2,_⟩:=dr hx' hu2;have hp:=(bD hxl).part k1;rw[WT,k2]at hp;obtain⟨pu,hpu,hru⟩:=gz (P:=P) (w:=w) (G:=G) (cs:=xs) (off:=f.offset) g4 hsu (dO hxw hu2) (by rw[g2];exact hp);have hc:=ih d n' f.type s' ek' pu u' (by omega) hek2 g4 hsu hru;by_cases hn:f.name= "_"
       . simp[hn]
       . simp only[ne_eq,hn,not_false_eq_true,if_true,ww,hpu,hc,wy,wx]
     . cases hok
   . rename_i k e hu;simp only[WL]at hok;obtain⟨ek,hek,rfl⟩:=hok;obtain⟨s,rfl,hsz,n',hse⟩:=fc hsh hu;have hagg:x.isAgg=true:=by simp only[aD,WA]at hx;exact hx.1.1
     obtain⟨xs,rfl,hxl,hxw⟩:=eP ((RepT.of_known hvx.known).2 hvx) hagg;simp only[aD,WA,beq_iff_eq,wE]at hx;simp only[ww,aC hu,wy,Std.Legacy.Range.forIn_eq_forIn_range'];rw[zV]
     . rfl
     intro i j hj;have hik:i<k:=by have:=(wG.1 hj).1;simpa[Std.Legacy.Range.size]using this
     have hji:j=i:=by
      rw[w6]at hj
      . simpa using hj.symm
      . simpa[Std.Legacy.Range.size]using hik
     subst hji;have hjl:j<x.kids.length:=by omega
     have hsu:=hx.2 x.kids[j] (wU hjl);obtain⟨pre,post,k1,k2,_⟩:=cr (fun z hz=>aB s z (hx.2 z hz)) (wH hjl);have hp:=(bD hxl).part k1;rw[WT,k2]at hp;obtain⟨pu,hpu,hru⟩:=gz (P:=P) (w:=w) (G:=G) (cs:=xs) (off:=j*s.size) hse hsu (dO hxw (wH hjl)) hp;have hc:=ih d n' e s ek pu x.kids[j] (by omega) hek hse hsu hru;simp only[ww,br hsz,wy,hpu,hc,wx]
   . cases hok
theorem xe {d:TypeDesc}{x:AV}(hx:∀e b,gD x e=some b->Instr.sameNow d (be x) (be e)=some b):∀(es:List (AV×AV×Nat)) (i:Nat) (r:Option (Nat×AV)),bQ x es=some r ->
  Instr.findNow d (be x) (es.map dH) i=some (r.map fun p=>(i+p.1,be p.2))
 | [],i,r,h=>by simp only[bQ,WK]at h;subst h;rfl
 | e::es,i,r,h=>by
   simp only[bQ,WN]at h;obtain⟨t,ht,h⟩:=h;have h1:=hx _ _ ht
   cases t with
   | true =>simp only[if_true,WK]at h;subst h;simp[Instr.findNow,dH,h1]
   | false =>
     simp only[WD,if_false,WL]at h;obtain⟨r',hr',rfl⟩:=h;have:=xe hx es (i+1) r' hr';simp only[wJ,Instr.findNow];rw[show(dH e).key=be e.1 from rfl,h1];simp only[this]
     cases r' with
     | none=>rfl
     | some p=>simp;omega
theorem A0 {kt:TypeId}{d:TypeDesc}(hd:P.underlying kt=some d){x:AV}(hs:∀e b,gD x e=some b->Instr.sameNow d (be x) (be e)=some b){es:List (AV×AV×Nat)}{r:Option (Nat×AV)}(hf:bQ x es=some r)(w:World) :
  (Instr.findKey kt (be x) (es.map dH)).run P w= .ok (r.map fun p=>(p.1,be p.2)) w:=by
 have h1:=xe hs es 0 r hf;simp only[WT]at h1;simp only[Instr.findKey,ww,aC hd,wy,h1,wx]
theorem qA {kt:TypeId}{x:AV}{w:World}:∀{es:List (AV×AV×Nat)} {i:Nat} {r:Option (Nat×AV)},(∀e∈es,∀b,gD x e.1=some b->(Op.equal kt (be x) (be e.1)).run P w= .ok b w)->bQ x es=some r ->
  (Instr.findAsking kt (be x) (es.map dH) i).run P w= .ok (r.map fun p=>(i+p.1,be p.2)) w
 | [],i,r,_,h=>by simp only[bQ,WK]at h;subst h;rfl
 | e::es,i,r,hs,h=>by
   simp only[bQ,WN]at h;obtain⟨t,ht,h⟩:=h;have h1:=hs e (by simp) t ht;simp only[wJ,Instr.findAsking,ww];rw[show(dH e).key=be e.1 from rfl,h1];simp only[wy]
   cases t with
   | true =>simp only[if_true,WK]at h;subst h;simp[dH]
   | false =>
     simp only[WD,if_false,WL]at h;obtain⟨r',hr',rfl⟩:=h;have:=qA (i:=i+1) (fun e he=>hs e (by simp[he])) hr';simp only[WD,if_false,this]
     cases r' with
     | none=>rfl
     | some p=>simp;omega
structure MapT (P:Program)(t:TypeId)(kk:Nat)(z:AV):Prop where
 all:∃kt e,P.underlying t=some (.map kt e)/\(∀w,(zeroValue e).run P w= .ok (be z) w)/\z.kv=true /\
  ∀x,cD kk x=true->∀(es:List (AV×AV×Nat)) (r:Option (Nat×AV)) (w:World),bQ x es=some r->(Instr.findKey kt (be x) (es.map dH)).run P w= .ok (r.map fun p=>(p.1,be p.2)) w
 chk:∀kt e,P.underlying t=some (.map kt e)->∀x,cD kk x=true->∀b w,(Instr.checkKey b 10000 kt (be x)).run P w= .ok () w
def gh0 :Gh:=⟨fun _=>False,fun _=>none,fun _=>none⟩
theorem u9 {kt:TypeId}{kk:Nat}(h:yq P kt=some kk){d:TypeDesc}(hd:P.underlying kt=some d)(hw:∀a b,Instr.sameNow d a b=none) :
  (∀x,cD kk x=true->∀(es:List (AV×AV×Nat)) (r:Option (Nat×AV)) (w:World),bQ x es=some r->(Instr.findKey kt (be x) (es.map dH)).run P w= .ok (r.map fun p=>(p.1,be p.2)) w) /\
  ∀x,cD kk x=true->∀b w,(Instr.checkKey b 10000 kt (be x)).run P w= .ok () w:=by
 have key:∃ek sh n,mC P SF kt=some ek/\dh P SF kt=some sh/\kk=n+3/\(∀l:List AV,l.length=n->l.all isI=true->aD sh (.agg l)=true)/\∀(l m:List AV) (r:Bool),l.length=n->eqI l m=some r->jZ ek (.agg l) (.agg m)=some r:=by
  unfold yq at h;split at h
  . rename_i fs sh h1 h2;rw[WM,WA]at h;obtain⟨⟨hf,hb⟩,h⟩:=h;cases h;have hb:=Sh.beq_eq hb;subst hb;refine⟨_,_,fs.length,h1,h2,rfl,fun l hl hi=>by rw[fJ];exact vX hl hi,fun l m r hl he=> ?_⟩;rw[jZ];exact(lC he).2.2.2.1 fs hf hl
  . rename_i n sh h1 h2;rw[WM]at h;obtain⟨hb,h⟩:=h;cases h;have hb:=Sh.beq_eq hb;subst hb;refine⟨_,_,n,h1,h2,rfl,fun l hl hi=> ?_,fun l m r hl he=> ?_⟩
    . rw[bS,hl];simp only[beq_self_eq_true,WJ,wE];intro x hx;have:=wE.1 hi x hx;cases x<;>first|rfl|cases this
    . obtain⟨e1,e2,e3,e4,e5,e6⟩:=lC he;rw[jZ,if_pos ⟨hl,by omega⟩];exact e5
  . cases h
 obtain⟨ek,sh,n,h1,h2,rfl,h3,h4⟩:=key;have agg:∀x,cD (n+3) x=true->∃l,x= .agg l/\l.length=n/\l.all isI=true:=fun x hx=>by cases x<;>simp only[cD]at hx<;>(try (cases hx;done));rw[WA,beq_iff_eq]at hx;exact⟨_,rfl,hx.1,hx.2⟩
 refine⟨fun x hx es r w hf=> ?_,fun x hx b w=> ?_⟩
 . obtain⟨l,rfl,hl,hi⟩:=agg x hx;have hq:∀e∈es,∀b,gD (.agg l) e.1=some b->(Op.equal kt (be (.agg l)) (be e.1)).run P w= .ok b w:=fun e he b hb=>by obtain⟨k,v,c⟩:=e;cases k<;>simp only[gD]at hb<;>(try (cases hb;done));rename_i m;obtain⟨e1,e2,e3,_⟩:=lC hb;exact xj (G:=gh0) SF 10000 SF kt sh ek _ _ _ _ b (by decide) h1 h2 (h3 l hl hi) (h3 m (by omega) e3) (th hi) (th e3) (h4 l m b hl hb)
   have hfa:=qA (i:=0) hq hf;simp only[WT]at hfa;simp only[Instr.findKey,ww,aC hd,wy]
   cases es with
   | nil =>simp only[bQ,WK]at hf;subst hf;simp[Instr.findNow]
   | cons e es =>simp only[wJ,Instr.findNow,hw];exact hfa
 . obtain⟨l,rfl,hl,hi⟩:=agg x hx;exact GT (G:=gh0) b SF 10000 SF kt sh ek _ _ (by decide) h1 h2 (h3 l hl hi) (th hi)
theorem jN {t:TypeId}{kk:Nat}{z:AV}(h:sU P t=some (kk,z)):MapT P t kk z:=by
 unfold sU at h;split at h
 . rename_i kt e hu;simp only[WN]at h;obtain⟨kk',hkk,i,hi,zv,hz,z',hz',h⟩:=h;rw[WM,WK,WR]at h;obtain⟨hkv,rfl,rfl⟩:=h;have hzv:zv=be z':=Ej (H:= #[]) (G:=⟨fun _=>False,fun _=>none,fun _=>none⟩) hkv ((aq (pB hkv)).2 (od hz').2.2);subst hzv;unfold Vx at hkk
   have both:(∀x,cD kk' x=true->∀(es:List (AV×AV×Nat)) (r:Option (Nat×AV)) (w:World),bQ x es=some r->(Instr.findKey kt (be x) (es.map dH)).run P w= .ok (r.map fun p=>(p.1,be p.2)) w) /\
     ∀x,cD kk' x=true->∀b w,(Instr.checkKey b 10000 kt (be x)).run P w= .ok () w:=by
    have plain:∀(d:TypeDesc),P.underlying kt=some d->(∀x,cD kk' x=true->∀e b,gD x e=some b->Instr.sameNow d (be x) (be e)=some b)->(∀x,cD kk' x=true->∀b w,(Instr.checkKey b 10000 kt (be x)).run P w= .ok () w)->_:=fun d hd h1 h2 =>
     (⟨fun x hx es r w hf=>A0 hd (h1 x hx) hf w,h2⟩:(∀x,cD kk' x=true->∀(es:List (AV×AV×Nat)) (r:Option (Nat×AV)) (w:World),bQ x es=some r->(Instr.findKey kt (be x) (es.map dH)).run P w= .ok (r.map fun p=>(p.1,be p.2)) w) /\
     ∀x,cD kk' x=true->∀b w,(Instr.checkKey b 10000 kt (be x)).run P w= .ok () w)
    split at hkk
    . rename_i ik hk;cases hkk;refine plain _ hk (fun x hx y b hb=> ?_) fun x hx b w=> ?_
      . obtain⟨k,n,rfl⟩:∃k n,x= .int k n:=by cases x<;>first|exact⟨_,_,rfl⟩|cases hx
        cases y<;>simp only[gD]at hb<;>try cases hb
        rw[WM]at hb;obtain⟨h1,h2⟩:=hb;cases h2;simp only[be,Instr.sameNow,h1,if_true]
      . rw[show(10000:Nat)=9999+1 from rfl];unfold Instr.checkKey;simp only[ww,aC hk,wy];cases x<;>first|rfl|cases hx
    . rename_i hk;cases hkk;refine plain _ hk (fun x hx y b hb=> ?_) fun x hx b w=> ?_
      . obtain⟨l,rfl⟩:∃l,x= .str l:=by cases x<;>first|exact⟨_,rfl⟩|cases hx
        cases y<;>simp only[gD]at hb<;>try cases hb
        rename_i l';simp only[be,Instr.sameNow,WK];by_cases h:l=l'
        . subst h;rw[(Dq _ _).2 rfl];simp
        . have h2:(⟨⟨l⟩⟩:ByteArray)≠⟨⟨l'⟩⟩:=fun e=>h (by cases e;rfl)
          rw[beq_eq_false_iff_ne.2 h,Bool.eq_false_iff.2 fun e=>h2 ((Dq _ _).1 e)]
      . rw[show(10000:Nat)=9999+1 from rfl];unfold Instr.checkKey;simp only[ww,aC hk,wy];cases x<;>first|rfl|cases hx
    . rename_i hk;cases hkk;refine plain _ hk (fun x hx y b hb=> ?_) fun x hx b w=> ?_
      . obtain⟨l,rfl⟩:∃l,x= .bool l:=by cases x<;>first|exact⟨_,rfl⟩|cases hx
        cases y<;>simp only[gD]at hb<;>try cases hb
        simp only[be,Instr.sameNow]
      . rw[show(10000:Nat)=9999+1 from rfl];unfold Instr.checkKey;simp only[ww,aC hk,wy];cases x<;>first|rfl|cases hx
    . rename_i hk;exact u9 hkk hk fun a b=>rfl
    . rename_i hk;exact u9 hkk hk fun a b=>rfl
    . cases hkk
   exact⟨⟨kt,e,hu,fun w=>by simp[zeroValue,fu hi,hz],hkv,both.1⟩,fun kt' e' hu' x hx b w=>by
    rw[hu]at hu';cases hu';exact both.2 x hx b w⟩
 . cases h
theorem jX :∀{es:List (AV×AV×Nat)} {x:AV} {i:Nat} {v:AV},bQ x es=some (some (i,v))->∃e,es[i]? =some e/\e.2.1=v/\gD x e.1=some true
 | [],x,i,v,h=>by simp[bQ]at h
 | e::es,x,i,v,h=>by
   simp only[bQ,WN]at h;obtain⟨t,ht,h⟩:=h
   cases t with
   | true =>simp only[if_true,WK,WR]at h;obtain⟨rfl,rfl⟩:=h;exact⟨e,rfl,rfl,ht⟩
   | false =>
     simp only[WD,if_false,WL]at h;obtain⟨r',hr',h⟩:=h
     cases r' with
     | none=>simp at h
     | some p =>obtain⟨a,b⟩:=p;simp only[WP,WK,WR]at h;obtain⟨_,⟨rfl,rfl⟩,h4,rfl⟩:=h;subst h4;obtain⟨e',h1,h2,h3⟩:=jX hr';exact⟨e',by simpa using h1,h2,h3⟩
theorem AG {x y:AV}(h:gD x y=some true):x=y:=by
 cases x<;>cases y<;>simp only[gD]at h<;>try cases h
 . simp at h;rw[h]
 . rw[WM]at h;obtain⟨h1,h2⟩:=h;simp at h2;rw[h1,h2]
 . simp at h;rw[h]
 . rw[(lC h).2.2.2.2.2 rfl]
theorem zT {a:AV}(h:a.kv=true):Instr.sameBits 10000 (be a) (be a)=true:=by
 cases a with
 | bool b=>simp[be,Instr.sameBits]
 | int k n=>simp[be,Instr.sameBits]
 | str l=>simp[be,Instr.sameBits,Dq]
 | _=>cases h
theorem xK {a:AV}(h:a.kkv=true):Instr.sameBits 10000 (be a) (be a)=true:=by
 cases a with
 | agg l =>
   rw[show(10000:Nat)=9999+1 from rfl];simp only[be,Instr.sameBits,beq_self_eq_true,WJ,wE];rintro ⟨x,y⟩ hp;obtain⟨i,hi,e⟩:=wQ hp;simp only[List.getElem_zip,wW,WR]at e;obtain⟨rfl,rfl⟩:=e;have hil:i<l.length:=by simpa using hi
   have:=wE.1 (show l.all isI=true from h) l[i] (wU hil);generalize l[i]=z at *
   cases z<;>first|(simp[Hs,Instr.sameBits];done)|cases this
 | _=>first|exact zT h|cases h
theorem zP {α:Type}:∀{l:List α} {i:Nat} {x:α},l[i]? =some x->l.set i x=l
 | y::l,0,x,h=>by simp at h;simp[h]
 | y::l,i+1,x,h=>by simp at h;simp[zP h]
 | [],i,x,h=>by simp at h
theorem sM (es:List (AV×AV×Nat))(i:Nat)(f:MapEntry->MapEntry)(e':AV×AV×Nat)(h:∀e,es[i]? =some e->f (dH e)=dH e') :
  ((es.map dH).toArray).modify i f=((es.set i e').map dH).toArray:=by
 apply Wj
 . simp
 . intro j h1 h2;simp only[Wf,wm,wW];by_cases hij:i=j
   . subst hij;have hl:i<es.length:=by simpa using h2
     simp only[if_true];rw[h _ (wH hl)];simp
   . simp only[hij,if_false];rw[List.getElem_set_ne hij]
structure MapAt (w:World)(G:Gh)(hp:Hp)(q b:Nat)(es:List (AV×AV×Nat))(c:Nat):Prop where
 hk:hp.get q=some (.mp es c)
 reg:G.reg q=some (.blk b .sc)
 at':w.heap[b]? =some (.map (es.map dH).toArray c)
 kv:∀e∈es,e.1.kkv=true/\e.2.1.kv=true
theorem vM {hp:Hp}{q:Nat}{es:List (AV×AV×Nat)}{c:Nat}{v:Value}(inv:Inv w.heap G hp)(hk:hp.get q=some (.mp es c))(hv:RepT w.heap G v (.mp q)) :
  ∃b,v= .map (some b)/\MapAt w G hp q b es c:=by
 rw[aq rfl]at hv;obtain⟨b,rfl,hr⟩:=M1 hv;obtain⟨b',h1,h2,h3⟩:=inv.obs q _ hk;rw[hr]at h1;cases h1;exact⟨b,rfl,hk,hr,h2,h3⟩
section
variable {hp :Hp} {q b:Nat} {es:List (AV×AV×Nat)} {c:Nat}
theorem MapAt.get (h:MapAt w G hp q b es c):(getObj b).run P w= .ok (.map (es.map dH).toArray c) w:=by simp[getObj,Sem.run,h.at']
theorem MapAt.set (h:MapAt w G hp q b es c)(x:Obj):(setObj b x).run P w= .ok () {w with heap:=w.heap.setIfInBounds b x}:=by simp[setObj,Sem.run,h.at']
theorem MapAt.step (h:MapAt w G hp q b es c)(inv:Inv w.heap G hp)(es':List (AV×AV×Nat))(c':Nat)(hkv:∀e∈es',e.1.kkv=true/\e.2.1.kv=true) :
  Step w.heap G hp (w.heap.setIfInBounds b (.map (es'.map dH).toArray c')) G ((q,.mp es' c')::hp) :=
 cR inv h.hk _ _ (by simp) (fun b' hb'=>bu fun e=>hb' ⟨_,.of (e▸h.reg),⟨_,h.hk,by simp⟩⟩) (fun _=>by simp) fun le =>
  ⟨b,h.reg,bP h.at',hkv⟩
theorem Pd {x:AV}(h:x.kkv=true):(Instr.keyThatStays (be x) (be x)).run P w= .ok (be x) w:=by simp[Instr.keyThatStays,xK h]
theorem AT {i:Nat}{e:AV×AV×Nat}(h:es[i]? =some e)(k:Value):((((es.map dH).toArray[i]?).map (·.key)).getD k)=be e.1:=by simp[h,dH]
theorem Gn {i:Nat}:((((es.map dH).toArray[i]?).map fun x=>(x.born:Int)).getD 0)=(oR es i:Int):=by unfold oR;cases h:es[i]? <;>simp[h,dH]
end
theorem CG {t:TypeId}{r:Option Operand}(hst:StOk w.heap G st a.tmps)(ho:o.op= .makeMap t r)(hc:aF P im o=some m)
  (hs:af gl cl st o.dst m=some (v,us)):bX P w G st.hp (execOp a.eval o) v us:=by
 simp only[aF,ho]at hc;split at hc
 . cases hc;simp only[af,vals,bC]at hs;split at hs
   . rename_i q hq;split at hs
     . rename_i hn;cases hs;refine⟨.map (some w.heap.size),{w with heap:=w.heap.push (.map #[] 0)},G.with q (.blk w.heap.size .sc),⟨rfl,rfl⟩,.inl ?_,?_,(aq rfl).2 (.mp q _ (by simp[Gh.with]))⟩
       . simp[execOp,ho,Instr.makeMap]
       . exact kE hst.inv (by simpa using hn) _ .sc _ fun le=>⟨w.heap.size,by simp[Gh.with],by simp,fun e he=>by cases he⟩
     . cases hs
   . cases hs
 . cases hc
theorem Gb {t:TypeId}{x i:Operand}{ok:Bool}(hg:GlOk w.heap G gl)(hst:StOk w.heap G st a.tmps)(ho:o.op= .lookup t x i ok)(hc:aF P im o=some m)
  (hs:af gl cl st o.dst m=some (v,us)):bX P w G st.hp (execOp a.eval o) v us:=by
 simp only[aF,ho,WN,WL]at hc;obtain⟨⟨kk,z⟩,hz,x',hx,i',hi,rfl⟩:=hc;have hvx:=aG hg hst hx;have hvi:=aG hg hst hi;simp only[af,vals]at hs;generalize Opd.val gl st.fr x'=ax at *
 generalize Opd.val gl st.fr i'=ai at *
 cases ax<;>simp only[bC]at hs<;>try cases hs
 rename_i q;split at hs
 . rename_i es c hk;rw[WM,WL]at hs;obtain⟨hko,r,hr,hs⟩:=hs;cases hs;obtain⟨b,hb,hm⟩:=vM hst.inv hk hvx;obtain⟨⟨kt,e,h1,h3,h4,h5⟩,h6⟩:=jN hz;have hkv:=lZ hko;have hei:=yp hkv hvi;have hf:=h5 _ hko es _ w hr;have run:(execOp a.eval o).run P w= .ok (.value (match r with|some p=>if ok then .tuple #[be p.2,.bool true]else be p.2|none=>if ok then .tuple #[be z,.bool false]else be z)) w:=by simp only[execOp,ho,Instr.lookup,hb,hei,ww,aC h1,wy,hm.get,h6 kt e h1 _ hko,wN,wx];simp only[wN,hf,wy];cases r<;>cases ok<;>simp[h3]
   refine⟨_,w,G,⟨rfl,rfl⟩,.inl run,Step.refl hst.inv,?_⟩;have tup:∀{y:AV} {t:Bool},y.kv=true->RepT w.heap G (.tuple #[be y,.bool t]) (.tup [y,.bool t]):=fun{y t} hy=>by
    refine⟨_,rfl,rfl,fun i hi hi'=> ?_⟩
    match i,hi' with
    | 0,_=>exact(RepT.of_known (AV.known_scalar (pB hy))).1 (yn hy)
    | 1,_=>exact(RepT.of_known (a:=.bool t) rfl).1 (cO t)
   cases r with
   | none =>
     cases ok
     . exact yn h4
     . exact tup h4
   | some p =>
     obtain⟨e',he1,he2,_⟩:=jX (i:=p.1) (v:=p.2) hr;have hp2:p.2.kv=true:=by rw[<-he2];exact(hm.kv e' (wS he1)).2
     cases ok
     . exact yn hp2
     . exact tup hp2
 . cases hs
theorem JP {t:TypeId}{x i y:Operand}(hg:GlOk w.heap G gl)(hst:StOk w.heap G st a.tmps)(ho:o.op= .mapUpdate t x i y)(hc:aF P im o=some m)
  (hs:af gl cl st o.dst m=some (v,us)):bX P w G st.hp (execOp a.eval o) v us:=by
 simp only[aF,ho,WN,WL]at hc;obtain⟨⟨kk,z⟩,hz,x',hx,i',hi,y',hy,rfl⟩:=hc;have hvx:=aG hg hst hx;have hvi:=aG hg hst hi;have hvy:=aG hg hst hy;simp only[af,vals]at hs;generalize Opd.val gl st.fr x'=ax at *
 generalize Opd.val gl st.fr i'=ai at *
 generalize Opd.val gl st.fr y'=ay at *
 cases ax<;>simp only[bC]at hs<;>try cases hs
 rename_i q;split at hs
 . rename_i es c hk;rw[WM,WL,WA]at hs;obtain⟨⟨hko,hky⟩,r,hr,hs⟩:=hs;cases hs;obtain⟨b,hb,hm⟩:=vM hst.inv hk hvx;obtain⟨⟨kt,e,h1,h3,h4,h5⟩,h6⟩:=jN hz;have hkv:=lZ hko;have hei:=yp hkv hvi;have hey:=Ej hky hvy;have hf:=h5 _ hko es _ w hr
   cases r with
   | none =>
     refine⟨undef,{w with heap:=w.heap.setIfInBounds b (.map ((es++[(ai,ay,c)]).map dH).toArray (c+1))},G,⟨rfl,rfl⟩,.inr ⟨?_,rfl⟩,hm.step hst.inv _ _ fun e he=> ?_,trivial⟩
     . simp only[execOp,ho,Instr.mapUpdate,hb,hei,hey,ww,aC h1,wy,hm.get,h6 kt e h1 _ hko,wN,hf,WO,hm.set,wx];simp[dH]
     . rcases wK.1 he with he|he
       . exact hm.kv e he
       . rw[w8.1 he];exact⟨hkv,hky⟩
   | some p =>
     obtain⟨e',he1,he2,he3⟩:=jX (i:=p.1) (v:=p.2) hr;have hke:=AG he3;refine⟨undef,{w with heap:=w.heap.setIfInBounds b (.map ((es.set p.1 (ai,ay,oR es p.1)).map dH).toArray c)},G,⟨rfl,rfl⟩,.inr ⟨?_,rfl⟩,hm.step hst.inv _ _ fun e he=> ?_,trivial⟩
     . simp only[execOp,ho,Instr.mapUpdate,hb,hei,hey,ww,aC h1,wy,hm.get,h6 kt e h1 _ hko,wN,hf,WP,AT he1,<-hke,Pd hkv,hm.set,wx];rw[sM es p.1 _ (ai,ay,oR es p.1) fun e0 he0=>by rw[he1]at he0;cases he0;simp[dH,oR,he1]]
     . rcases List.mem_or_eq_of_mem_set he with he|rfl
       . exact hm.kv e he
       . exact⟨hkv,hky⟩
 . cases hs
theorem JW {t:TypeId}{x i:Operand}(hg:GlOk w.heap G gl)(hst:StOk w.heap G st a.tmps)(ho:o.op= .mapEntry t x i)(hc:aF P im o=some m)
  (hs:af gl cl st o.dst m=some (v,us)):bX P w G st.hp (execOp a.eval o) v us:=by
 simp only[aF,ho,WN,WL]at hc;obtain⟨⟨kk,z⟩,hz,x',hx,i',hi,rfl⟩:=hc;have hvx:=aG hg hst hx;have hvi:=aG hg hst hi;simp only[af,vals]at hs;generalize Opd.val gl st.fr x'=ax at *
 generalize Opd.val gl st.fr i'=ai at *
 cases ax<;>simp only[bC]at hs<;>try cases hs
 rename_i q;have tup:∀{H:aT} {y:AV} {t:Nat},y.kv=true->RepT H G (.tuple #[be y,goInt t]) (.tup [y,.int .i64 t]):=fun{H y t} hy=>by
  refine⟨_,rfl,rfl,fun i hi hi'=> ?_⟩
  match i,hi' with
  | 0,_=>exact(RepT.of_known (AV.known_scalar (pB hy))).1 (yn hy)
  | 1,_=>exact(RepT.of_known (a:=.int .i64 t) rfl).1 (ba _ _)
 split at hs
 . rename_i es c hk;rw[WM,WL]at hs;obtain⟨hko,r,hr,hs⟩:=hs;obtain⟨b,hb,hm⟩:=vM hst.inv hk hvx;obtain⟨⟨kt,e,h1,h3,h4,h5⟩,h6⟩:=jN hz;have hkv:=lZ hko;have hei:=yp hkv hvi;have hf:=h5 _ hko es _ w hr
   cases r with
   | none =>
     cases hs;refine⟨_,{w with heap:=w.heap.setIfInBounds b (.map ((es++[(ai,z,c)]).map dH).toArray (c+1))},G,⟨rfl,rfl⟩,.inl ?_,hm.step hst.inv _ _ fun e he=> ?_,tup h4⟩
     . simp only[execOp,ho,Instr.mapEntry,hb,hei,ww,aC h1,wy,hm.get,h6 kt e h1 _ hko,wN,hf,WO,h3,hm.set,wx];simp[dH]
     . rcases wK.1 he with he|he
       . exact hm.kv e he
       . rw[w8.1 he];exact⟨hkv,h4⟩
   | some p =>
     cases hs;obtain⟨e',he1,he2,he3⟩:=jX (i:=p.1) (v:=p.2) hr;have hke:=AG he3;have hp2:p.2.kv=true:=by rw[<-he2];exact(hm.kv e' (wS he1)).2
     refine⟨_,{w with heap:=w.heap.setIfInBounds b (.map (es.map dH).toArray c)},G,⟨rfl,rfl⟩,.inl ?_,hm.step hst.inv _ _ hm.kv,tup hp2⟩;simp only[execOp,ho,Instr.mapEntry,hb,hei,ww,aC h1,wy,hm.get,h6 kt e h1 _ hko,wN,hf,WP,AT he1,<-hke,Pd hkv,hm.set,wx,Gn];rw[sM es p.1 _ e' fun e0 he0=>by rw[he1]at he0;cases he0;simp[dH,hke],zP he1]
 . cases hs
theorem Fv {α β:Type}(f:α->β)(l:List α)(i:Nat):(l.map f).eraseIdx i=(l.eraseIdx i).map f:=by rw[wa,wa,List.map_append,wu,List.map_drop]
theorem GI {α:Type}(l:List α)(i:Nat):l.toArray.eraseIdxIfInBounds i=(l.eraseIdx i).toArray:=by
 unfold Array.eraseIdxIfInBounds;split
 . apply Array.ext';simp
 . rename_i h;rw[List.eraseIdx_of_length_le (by simpa using h)]
theorem Bs (es:List (AV×AV×Nat))(n:Int):((es.map dH).toArray.findIdx? fun e=>(e.born:Int)==n)=pZ es n:=by unfold pZ;rw[List.findIdx?_toArray,List.findIdx?_map];rfl
theorem JQ {t:TypeId}{x i y:Operand}(hg:GlOk w.heap G gl)(hst:StOk w.heap G st a.tmps)(ho:o.op= .entryStore t x i y)(hc:aF P im o=some m)
  (hs:af gl cl st o.dst m=some (v,us)):bX P w G st.hp (execOp a.eval o) v us:=by
 simp only[aF,ho,WN,WL]at hc;obtain⟨x',hx,i',hi,y',hy,rfl⟩:=hc;have hvx:=aG hg hst hx;have hvi:=aG hg hst hi;have hvy:=aG hg hst hy;simp only[af,vals]at hs;generalize Opd.val gl st.fr x'=ax at *
 generalize Opd.val gl st.fr i'=ai at *
 generalize Opd.val gl st.fr y'=ay at *
 cases ax<;>simp only[bC]at hs<;>try cases hs
 rename_i q;cases ai<;>simp only[bC]at hs<;>try cases hs
 rename_i k n;split at hs
 . rename_i es c hk;rw[WM,WL]at hs;obtain⟨hky,j,hr,hs⟩:=hs;cases hs;obtain⟨b,hb,hm⟩:=vM hst.inv hk hvx;have hei:=aU hvi;have hey:=Ej hky hvy;have hf:=Bs es n;rw[hr]at hf
   have he:(es.map dH).toArray.modify j (fun e=>{e with val:=be ay})=((BP es j ay).map dH).toArray:=by
    unfold BP;apply Wj
    . simp
    . intro l h1 h2;simp only[Wf,wm,wW,wo];by_cases hjl:j=l
      . simp[hjl,dH]
      . simp[hjl]
   refine⟨undef,{w with heap:=w.heap.setIfInBounds b (.map ((BP es j ay).map dH).toArray c)},G,⟨rfl,rfl⟩,.inr ⟨?_,rfl⟩,hm.step hst.inv _ _ fun e he=> ?_,trivial⟩
   . have hn:(Go.asInt (Value.int k n)).run P w= .ok n w:=rfl;simp only[execOp,ho,Instr.entryStore,hb,hei,hey,hn,ww,wy,hm.get,wx,hf,hm.set,he]
   . unfold BP at he;obtain⟨l,hl,rfl⟩:=wQ he;rw[wo];have hl':l<es.length:=by simpa using hl
     have:=hm.kv es[l] (wU hl');split
     . exact⟨this.1,hky⟩
     . exact this
 . cases hs
theorem JX {c:Call}{t u:TypeId}{x i:Operand}{x' i':Opd}{kk:Nat}{z:AV}(hg:GlOk w.heap G gl)(hst:StOk w.heap G st a.tmps)(ho:o.op= .call c)(hb:c.callee= .builtin .delete)
  (hargs:c.args= #[x,i]) (ht:c.argTypes= #[t,u]) (hz:sU P t=some (kk,z)) (hx:aw x=some x') (hi:aw i=some i')
  (hs:af gl cl st o.dst (.mapop .del kk z [x',i'])=some (v,us)):bX P w G st.hp (execOp a.eval o) v us:=by
 have hvx:=aG hg hst hx;have hvi:=aG hg hst hi;simp only[af,vals]at hs;generalize Opd.val gl st.fr x'=ax at *
 generalize Opd.val gl st.fr i'=ai at *
 cases ax<;>simp only[bC]at hs<;>try cases hs
 rename_i q;split at hs
 . rename_i es cc hk;rw[WM,WL]at hs;obtain⟨hko,r,hr,hs⟩:=hs;cases hs;obtain⟨b,hbv,hm⟩:=vM hst.inv hk hvx;obtain⟨⟨kt,e,h1,h3,h4,h5⟩,h6⟩:=jN hz;have hkv:=lZ hko;have hei:=yp hkv hvi;have hf:=h5 _ hko es _ w hr;have run:∀{w':World},(Builtin.delete_ #[t,u] o.type #[a.eval x,a.eval i]).run P w= .ok (.tuple #[]) w'->(execOp a.eval o).run P w= .ok (.value (.tuple #[])) w':=by intro w' hr;simp only[execOp,ho,resolve,hb,hargs,ht,ww,wx,wy,invoke,builtin,wM,wJ,wT,hr]
   refine⟨.tuple #[],{w with heap:=w.heap.setIfInBounds b (.map ((Bj es r).map dH).toArray cc)},G,⟨rfl,rfl⟩,.inl (run ?_),hm.step hst.inv _ _ fun e he=> ?_,⟨#[],rfl,rfl,fun i hi=>by simp at hi⟩⟩
   . cases r with
     | none =>simp only[Builtin.delete_,wC,wB,wD,hbv,hei,ww,aC h1,wy,hm.get,h6 kt e h1 _ hko,wN,hf,WO,hm.set,wx,Bj]
     | some p =>
       have he:(es.map dH).toArray.eraseIdxIfInBounds p.1=((es.eraseIdx p.1).map dH).toArray:=by rw[<-Fv,GI]
       simp only[Builtin.delete_,wC,wB,wD,hbv,hei,ww,aC h1,wy,hm.get,h6 kt e h1 _ hko,wN,hf,WP,hm.set,wx,Bj,he]
   . cases r with
     | none=>exact hm.kv e he
     | some p=>exact hm.kv e (List.mem_of_mem_eraseIdx he)
 . cases hs
theorem F6 {c:Call}{t kt e:TypeId}{x:Operand}{x':Opd}(hg:GlOk w.heap G gl)(hst:StOk w.heap G st a.tmps)(ho:o.op= .call c)(hb:c.callee= .builtin .len)
  (hargs:c.args= #[x]) (ht:c.argTypes= #[t]) (hu:P.underlying t=some (.map kt e)) (hx:aw x=some x')
  (hs:af gl cl st o.dst (.mapop .len 0 .unk [x'])=some (v,us)):bX P w G st.hp (execOp a.eval o) v us:=by
 have hvx:=aG hg hst hx;simp only[af,vals]at hs;generalize Opd.val gl st.fr x'=ax at *
 cases ax<;>simp only[bC]at hs<;>try cases hs
 rename_i q;split at hs
 . rename_i es cc hk;cases hs;obtain⟨b,hbv,hm⟩:=vM hst.inv hk hvx;refine⟨_,w,G,⟨rfl,rfl⟩,.inl ?_,Step.refl hst.inv,ba .i64 es.length⟩;simp only[execOp,ho,resolve,hb,hargs,ht,ww,wx,wy,invoke,builtin,wM,wJ,wT,hbv,Builtin.len_,wC,wB,aC hu,hm.get];simp[goInt]
 . cases hs
theorem qS {H H':aT}{G G':Gh}{hp hp':Hp}(inv:Inv H G hp)(K T:Nat->Prop)(hle:Le H G H' G')(hsz:H.size<=H'.size)(himm:∀b,G'.imm b↔G.imm b)
  (hoth:∀b,b<H.size->H'[b]? ≠H[b]? ->∃k r,K k/\aN hp k/\G.At k b r)
  (hob:∀k o,hp'.get k=some o->(¬K k/\hp.get k=some o/\G'.reg k=G.reg k)\/ObOk H' G' k o)
  (hout:∀k,hp'.get k=none->G'.reg k=none)
  (hat:∀k b r,aN hp' k->G'.At k b r->(¬K k/\¬T k/\aN hp k/\G.At k b r)\/(T k/\((∃k0 r0,K k0/\aN hp k0/\G.At k0 b r0)\/(H.size<=b/\b<H'.size))))
  (hdT:∀k k' b r r',T k->T k'->aN hp' k->aN hp' k'->G'.At k b r->G'.At k' b r'->k=k') :
  Step H G hp H' G' hp':=by
 have hL:∀b,bG G' hp' b->bG G hp b\/(H.size<=b/\b<H'.size):=by
  rintro b ⟨k,r,hl,hr⟩;rcases hat k b r hl hr with ⟨_,_,h1,h2⟩|⟨_,⟨k0,r0,_,h1,h2⟩|h⟩
  . exact .inl ⟨k,r,h1,h2⟩
  . exact .inl ⟨k0,r0,h1,h2⟩
  . exact .inr h
 refine⟨⟨fun k o hk=> ?_,hout,fun k k' b r r' hr hr' hl hl'=> ?_,fun b hb=> ?_,fun b hb=> ?_⟩,hle,hsz,fun b hb hl=> ?_,fun b hb=> ?_,fun b hb=>.inl ((himm b).1 hb)⟩
 . rcases hob k o hk with ⟨h1,h2,h3⟩|h
   . refine ObOk.mono (hp:=hp) hle (fun hl b r hr=> ?_) (fun r hr=>by rw[h3];exact hr) h2 (inv.obs k o h2);refine Wk fun hc=> ?_
     obtain⟨k0,r0,g1,g2,g3⟩:=hoth b (inv.lt b ⟨k,r,hl,hr⟩) hc;exact h1 (inv.dist k0 k b r0 r g3 hr g2 hl▸g1)
   . exact h
 . rcases hat k b r hl hr with ⟨a1,a2,a3,a4⟩|⟨a1,a2⟩<;>rcases hat k' b r' hl' hr' with ⟨b1,b2,b3,b4⟩|⟨b1,b2⟩
   . exact inv.dist k k' b r r' a4 b4 a3 b3
   . rcases b2 with ⟨k0,r0,g1,g2,g3⟩|g
     . exact absurd (inv.dist k k0 b r r0 a4 g3 a3 g2▸g1) a1
     . have:=inv.lt b ⟨k,r,a3,a4⟩;omega
   . rcases a2 with ⟨k0,r0,g1,g2,g3⟩|g
     . exact absurd (inv.dist k' k0 b r' r0 b4 g3 b3 g2▸g1) b1
     . have:=inv.lt b ⟨k',r',b3,b4⟩;omega
   . exact hdT k k' b r r' a1 b1 hl hl' hr hr'
 . have hi:=inv.imm b ((himm b).1 hb);refine⟨by omega,fun hl=> ?_⟩;rcases hL b hl with h|h
   . exact hi.2 h
   . omega
 . rcases hL b hb with h|h
   . have:=inv.lt b h;omega
   . exact h.2
 . refine Wk fun hc=> ?_
   obtain⟨k0,r0,_,g2,g3⟩:=hoth b hb hc;exact hl ⟨k0,r0,g2,g3⟩
 . rcases hL b hb with h|h
   . exact .inl h
   . exact .inr h.1
theorem nO {els:List NE}{i j:Nat}{l:List AV}:(els.set i .gone)[j]? =some (NE.own l)↔j≠i/\els[j]? =some (NE.own l):=by
 rw[wp];by_cases h:i=j
 . subst h;simp only[if_true,ne_eq,not_true_eq_false,false_and,iff_false];split
   . intro h;cases h
   . intro h;cases h
 . rw[if_neg h];exact⟨fun h'=>⟨fun e=>h e.symm,h'⟩,fun h'=>h'.2⟩
theorem Rq {els:List NE}{i j k n:Nat}(h:(els.set i .gone)[j]? =some (NE.nm k n)):els[j]? =some (NE.nm k n):=by
 rw[wp]at h;by_cases e:i=j
 . rw[if_pos e]at h;split at h<;>cases h
 . rwa [if_neg e]at h
theorem JS {t:TypeId}{x:Operand}{x':Opd}(hg:GlOk w.heap G gl)(hst:StOk w.heap G st a.tmps)(ho:o.op= .load t x)(hx:aw x=some x')(hsT:dh P SF t=some .sc)
  (hs:af gl cl st o.dst (.ntk x')=some (v,us)):bX P w G st.hp (execOp a.eval o) v us:=by
 have hvx:=aG hg hst hx;simp only[af]at hs;split at hs
 . rename_i d q i hd hv;split at hs
   . rename_i els hq;split at hs
     . rename_i l hi;rw[WM]at hs;simp only[WA,WQ,WG,List.isEmpty_eq_false_iff]at hs;obtain⟨⟨hnone,hne⟩,hs⟩:=hs;simp only[WK,WR]at hs;obtain⟨rfl,rfl⟩:=hs;have hdq:d≠q:=fun e=>by rw[<-e,hnone]at hq;cases hq
       obtain⟨b,cap,X,c,e,fz,B,hr,hl,hb,hsz,hf,hc⟩:=hst.inv.obs q _ hq;obtain⟨hBb,hpos,cp,hci,cB,eB,fzB,g1,g2,g3,g4,g5,g6⟩:=hc.own i l hi;rw[hv,aq rfl]at hvx;have hev:a.eval x= .pointer (some ⟨b,i,none⟩):=by
        generalize a.eval x=vv at hvx
        cases hvx with
        | ptr _ _ b' root off hr' ho'=>rw[hr]at hr';cases hr'
        | ptrN _ _ b' cap' X' hr' hi' =>rw[hr]at hr';simp only[WK,Rg.nst.injEq]at hr';rw[hr'.1]
       let G':Gh:={G with reg:=fun k=>if k=d then some (.blk (B i) (.ar cp .sc))else if k=q then some (.nst b cap fun y=>X y/\y≠B i)else G.reg k}
       have hGd:G'.reg d=some (.blk (B i) (.ar cp .sc)):=by simp[G']
       have hGq:G'.reg q=some (.nst b cap fun y=>X y/\y≠B i):=by simp[G',Ne.symm hdq]
       have hGo:∀k,k≠d->k≠q->G'.reg k=G.reg k:=fun k h1 h2=>by simp[G',h1,h2]
       have hle:Le w.heap G w.heap G':=⟨fun b hb=>⟨hb,rfl⟩,fun k r hk=>by
        by_cases h1:k=d
        . subst h1;rw[hst.inv.out k hnone]at hk;cases hk
        . by_cases h2:k=q
          . subst h2;rw[hr]at hk;cases hk;exact⟨_,hGq,_,rfl⟩
          . exact⟨r,(hGo k h1 h2).trans hk,Rg.le_refl r⟩,fun _ _ h=>h⟩
       have hlq:aN st.hp q:=⟨_,hq,by simp⟩;have hAq:∀y s,(G.At q y s)↔(b=y\/X y):=fun y s=>⟨fun⟨r,h1,h2⟩=>by rw[hr]at h1;cases h1;exact h2,fun h=>⟨_,hr,h⟩⟩
       have hXi:X (B i):=(hc.x _).2 ⟨i,l,hi,rfl⟩;have atk:∀{k y s},G'.At k y s->(k=d/\B i=y)\/(k=q/\(b=y\/(X y/\y≠B i)))\/(k≠d/\k≠q/\G.At k y s):=fun{k y s} ⟨r,h1,h2⟩=>by
        by_cases e1:k=d
        . subst e1;rw[hGd]at h1;cases h1;exact .inl ⟨rfl,h2.1⟩
        . by_cases e2:k=q
          . subst e2;rw[hGq]at h1;cases h1;exact .inr (.inl ⟨rfl,h2⟩)
          . exact .inr (.inr ⟨e1,e2,r,(hGo k e1 e2)▸h1,h2⟩)
       have step:Step w.heap G st.hp w.heap G' ([(q,.nest (els.set i .gone)),(d,.grow .sc l)]++st.hp):=by
        refine qS hst.inv (fun k=>k=q) (fun k=>k=d\/k=q) hle (WU _) (fun _=>Iff.rfl) (fun y _ h=>absurd rfl h) (fun k o' hk=> ?_) (fun k hk=> ?_) (fun k y r hlk hat=> ?_) (fun k k' y r r' hT hT' hlk hlk' hat hat'=> ?_)
        . simp only[w0,wR,Hp.get_cons]at hk;by_cases e2:q=k
          . subst e2;simp only[if_true,WK]at hk;subst hk;refine .inr ⟨b,cap,_,c,e,fz,B,hGq,by rw[List.length_set];exact hl,hb,hsz,hf,⟨fun y=> ?_,fun j l' hj=> ?_,fun j j' l1 l2 h1 h2=>hc.inj j j' l1 l2 (nO.1 h1).2 (nO.1 h2).2,fun j k' m hj=> ?_⟩⟩
            . rw[hc.x];constructor
              . rintro ⟨⟨j,l',h1,h2⟩,h3⟩;exact⟨j,l',nO.2 ⟨fun e=>h3 (by rw[<-h2,e]),h1⟩,h2⟩
              . rintro ⟨j,l',h1,h2⟩;obtain⟨h3,h4⟩:=nO.1 h1;exact⟨⟨j,l',h4,h2⟩,fun e=>h3 (hc.inj j i l' l h4 hi (h2.trans e))⟩
            . obtain⟨h1,h2,cp',h3,h4⟩:=hc.own j l' (nO.1 hj).2;exact⟨h1,h2,cp',h3,h4.mono hle rfl⟩
            . obtain⟨v',h1,h2⟩:=hc.nm j k' m (Rq hj);exact⟨v',h1,h2.mono hle⟩
          . simp only[e2,if_false]at hk;by_cases e1:d=k
            . subst e1;simp only[if_true,WK]at hk;subst hk;exact .inr (.inr ⟨B i,cp,cB,eB,fzB,hGd,g1,g2,by rw[g3];simp[Sh.size],g4,g5,g6.mono hle⟩)
            . simp only[e1,if_false]at hk;exact .inl ⟨fun e=>e2 e.symm,hk,hGo k (Ne.symm e1) (Ne.symm e2)⟩
        . simp only[w0,wR,Hp.get_cons]at hk;by_cases e2:q=k
          . simp[e2]at hk
          . by_cases e1:d=k
            . simp[e2,e1]at hk
            . simp only[e1,e2,if_false]at hk;rw[hGo k (Ne.symm e1) (Ne.symm e2)];exact hst.inv.out k hk
        . rcases atk hat with ⟨rfl,rfl⟩|⟨rfl,h⟩|⟨h1,h2,h3⟩
          . exact .inr ⟨.inl rfl,.inl ⟨q,.sc,rfl,hlq,(hAq _ _).2 (.inr hXi)⟩⟩
          . exact .inr ⟨.inr rfl,.inl ⟨k,.sc,rfl,hlq,(hAq _ _).2 (h.imp id And.left)⟩⟩
          . refine .inl ⟨h2,fun h=>h.elim h1 h2,?_,h3⟩;obtain⟨o',hk,hd'⟩:=hlk;simp only[w0,wR,Hp.get_cons,Ne.symm h1,Ne.symm h2,if_false]at hk;exact⟨o',hk,hd'⟩
        . rcases atk hat with ⟨rfl,h⟩|⟨rfl,h⟩|⟨h1,h2,_⟩
          . rcases atk hat' with ⟨rfl,h'⟩|⟨rfl,h'⟩|⟨h1,h2,_⟩
            . rfl
            . exfalso;rcases h' with h'|h'
              . exact hBb (h.trans h'.symm)
              . exact h'.2 h.symm
            . exact absurd hT' (fun h=>h.elim h1 h2)
          . rcases atk hat' with ⟨rfl,h'⟩|⟨rfl,h'⟩|⟨h1,h2,_⟩
            . exfalso;rcases h with h|h
              . exact hBb (h'.trans h.symm)
              . exact h.2 h'.symm
            . rfl
            . exact absurd hT' (fun h=>h.elim h1 h2)
          . exact absurd hT (fun h=>h.elim h1 h2)
       refine⟨.slice (some ⟨B i,0,none⟩) l.length cp,w,G',⟨rfl,rfl⟩,.inl ?_,step,(aq rfl).2 ?_⟩
       . have hlv:=kK (P:=P) (w:=w) (a:=.sl d [] 0 l.length) (o:=i) hsT rfl rfl hb (val:=fun _=>.slice (some ⟨B i,0,none⟩) l.length cp) (fun j hj=>by
          have:j=0:=by simp[AV.flat]at hj;omega
          subst this;simpa using hci) rfl
         simp[execOp,ho,hev,Instr.loadAt,Instr.sureAddr,hlv,AV.flat,dQ,AV.isAgg]
       . have:=RepS.sl (H:=w.heap) (G:=G') d [] 0 l.length (B i) (.ar cp .sc) cp .sc 0 hGd rfl rfl (by omega);simpa[Sh.size]using this
     . cases hs
   . cases hs
 . cases hs
theorem nU {t u e e' ty:TypeId}{b:Option Addr}{cap n:Nat}{vy:Value}{z:AV}{i:TypeInfo}{vx vys:Array Value}
  (hu:P.underlying t=some (.slice e)) (hu2:P.underlying u=some (.slice e')) (hz:dM P e=some (.sc,z)) (hi:P.info? e=some i) (hbytes:i.bytes<=1024)
  (hyl:(Builtin.lenOf vy).run P w= .ok 1 w) (hx1:∀w':World,w'.heap=w.heap->(Builtin.firstCells 1 n (.slice b n cap)).run P w'= .ok vx w') (hy1:∀w':World,w'.heap=w.heap->(Builtin.firstCells 1 1 vy).run P w'= .ok vys w')
  (s1:vx.size=n) (s2:vys.size=1) (hlt:cap<n+1) (hlim:n+1<=LIM) :
  ∃(newCap:Nat) (zs:Array Value),(Builtin.append_ #[t,u] ty #[.slice b n cap,vy]).run P w =
     .ok (.slice (some ⟨w.heap.size,0,none⟩) (n+1) newCap) {w with drawn:=w.drawn+1,heap:=w.heap.push (.cells (vx++vys++zs) e)} /\
   n+1<=newCap/\(vx++vys++zs).size=newCap:=by
 obtain⟨hshT,zv,hzv,hsh,hzp,hzw,hrl⟩:=bJ hz;have hzl:z.flat.length=Sh.sc.size:=aB .sc z hsh;have hzs:zv.cells.size=1:=by have:=(hrl w.heap ⟨fun _=>False,fun _=>none,fun _=>none⟩).len;rw[show(1:Nat)=Sh.sc.size from rfl,<-hzl,<-this];simp
 let w1:World:={w with drawn:=w.drawn+1}
 have hx1:=hx1 w1 rfl;have hy1:=hy1 w1 rfl
 let newCap:=(Question.appendCap (n+1) cap e).cut (w.tape w.drawn (.appendCap (n+1) cap e))
 have hcap:n+1<=newCap:=WX _ _;refine⟨newCap,Builtin.zeroCells zv.cells (newCap-(n+1)),?_,hcap,?_⟩
 . have hq:(Question.appendCap (n+1) cap e).forced=false:=rfl;have c1:¬(n+1<=cap):=by omega
   have c2:¬(((n+1:Nat):Int)>IntKind.i64.max/\i.bytes=0):=by have:IntKind.i64.max=2^63-1:=rfl;rw[this];simp only[LIM]at hlim;omega
   have c3:¬(Builtin.nextslicecap (n+1) cap*i.bytes>2^48):=by have h1:=gH hlt hlim;have h2:Builtin.nextslicecap (n+1) cap*i.bytes<=Builtin.nextslicecap (n+1) cap*1024:=WZ _ hbytes;omega
   simp only[w1]at hx1 hy1;simp only[Builtin.append_,wC,wB,wD,ww,aC hu,aC hu2,br (bx hshT),wy,wx,WD,if_false,hyl,c1,c2,c3,fu hi,
     false_or,run_choose,hq,run_askRoom,WF,if_true]
   simp only[show Sh.sc.size=1 from rfl,hx1,hy1,hzv,wy,newRow,ww,run_newObj,wx];rfl
 . simp only[Wb,s1,s2,Builtin.zeroCells,We,Wc,hzs];omega
theorem zX {t u e e' ty:TypeId}{b:Option Addr}{n cap:Nat}{vy:Value}{vys:Array Value}{w':World}
  (hu:P.underlying t=some (.slice e)) (hu2:P.underlying u=some (.slice e')) (hsz:(P.info? e).map (·.size)=some 1)
  (hyl:(Builtin.lenOf vy).run P w= .ok 1 w) (hy1:(Builtin.firstCells 1 1 vy).run P w= .ok vys w)
  (hle:n+1<=cap) {ad:Addr} (hb:b=some ad) (hst:(storeCells (ad.add n) vys.toList).run P w= .ok () w') :
  (Builtin.append_ #[t,u] ty #[.slice b n cap,vy]).run P w= .ok (.slice b (n+1) cap) w':=by
 subst hb;simp only[Builtin.append_,wC,wB,wD,ww,aC hu,aC hu2,br hsz,wy,wx,WD,if_false,hyl,hle,if_true,
   WF,hy1,W3,hst]
theorem vw {b n cap len:Nat}{c:Array Value}{e:TypeId}{fz:Nat×Nat}(w':World)(hb:w'.heap[b]? =some (.cells c e fz))(hn:n<=c.size) :
  (Builtin.firstCells 1 n (.slice (some ⟨b,0,none⟩) len cap)).run P w'= .ok ((w7 n).map fun j=>c[j]!).toArray w':=by
 have:=ga (P:=P) (o:=0) hb (fun j=>c[j]!) n (fun j hj=>by
  have:j<c.size:=by omega
  simp[this])
 simp only[Builtin.firstCells,W3];exact this
theorem zN {H:aT}{hp:Hp}(inv:Inv H G hp){k kx b cap:Nat}{X:Nat->Prop}{els:List NE}(hkx:hp.get kx=some (.nest els))(hk:hp.get k=none)(hr:G.reg kx=some (.nst b cap X))
  (H':aT) (b' cap':Nat) (ob:OB) (hsz:H.size<=H'.size) (hb':b'=b\/(b'=H.size/\H.size<H'.size)) (hoth:∀y,y<H.size->y≠b->H'[y]? =H[y]?)
  (hob:Le H G H' (G.with k (.nst b' cap' X))->ObOk H' (G.with k (.nst b' cap' X)) k ob):Step H G hp H' (G.with k (.nst b' cap' X)) ((kx,.dead)::(k,ob)::hp):=by
 have hne:kx≠k:=fun e=>by rw[e,hk]at hkx;cases hkx
 have hlx:aN hp kx:=⟨_,hkx,by simp⟩;have hAx:∀y s,G.At kx y s↔(b=y\/X y):=fun y s=>⟨fun⟨r,h1,h2⟩=>by rw[hr]at h1;cases h1;exact h2,fun h=>⟨_,hr,h⟩⟩
 have hle:Le H G H' (G.with k (.nst b' cap' X)):=Gh.with_le (inv.out k hk) fun y hy=>hoth y (inv.imm y hy).1 fun e=>(inv.imm y hy).2 ⟨kx,.sc,hlx,(hAx y .sc).2 (.inl e.symm)⟩
 have hregne:∀j,j≠k->(G.with k (.nst b' cap' X)).reg j=G.reg j:=fun j h=>by simp[Gh.with,h]
 have hlo:∀j,aN ((kx,.dead)::(k,ob)::hp) j->j≠kx/\(j=k\/(j≠k/\aN hp j)):=fun j hj=>by
  rcases bm.1 hj with ⟨_,h⟩|⟨h1,h2⟩
  . exact absurd rfl h
  . rcases bm.1 h2 with ⟨h3,_⟩|⟨h3,h4⟩
    . exact⟨fun e=>h1 e.symm,.inl h3.symm⟩
    . exact⟨fun e=>h1 e.symm,.inr ⟨fun e=>h3 e.symm,h4⟩⟩
 refine qS inv (fun j=>j=kx) (fun j=>j=k) hle hsz (fun _=>Iff.rfl) (fun y hy hc=> ?_) (fun j o hj=> ?_) (fun j hj=> ?_) (fun j y r hl hat=> ?_) (fun j j' y r r' hT hT' _ _ _ _=>hT.trans hT'.symm)
 . refine⟨kx,.sc,rfl,hlx,(hAx y .sc).2 (.inl ?_)⟩;exact Wk fun e=>hc (hoth y hy fun e'=>e e'.symm)
 . rw[Hp.get_cons]at hj;by_cases h:kx=j
   . subst h;simp at hj;subst hj;exact .inr ⟨_,by rw[hregne _ hne];exact hr⟩
   . simp only[h,if_false]at hj;rw[Hp.get_cons]at hj;by_cases h':k=j
     . subst h';simp at hj;subst hj;exact .inr (hob hle)
     . simp only[h',if_false]at hj;exact .inl ⟨fun e=>h e.symm,hj,hregne j (fun e=>h' e.symm)⟩
 . rw[Hp.get_cons]at hj;by_cases h:kx=j
   . simp[h]at hj
   . simp only[h,if_false]at hj;rw[Hp.get_cons]at hj;by_cases h':k=j
     . simp[h']at hj
     . simp only[h',if_false]at hj;rw[hregne j (fun e=>h' e.symm)];exact inv.out j hj
 . obtain⟨h1,rfl|⟨h2,h3⟩⟩:=hlo j hl
   . rw[Gh.with_at,if_pos rfl]at hat;refine .inr ⟨rfl,?_⟩;rcases hat with rfl|h
     . rcases hb' with rfl|⟨rfl,h⟩
       . exact .inl ⟨kx,.sc,rfl,hlx,(hAx _ _).2 (.inl rfl)⟩
       . exact .inr ⟨WU _,h⟩
     . exact .inl ⟨kx,.sc,rfl,hlx,(hAx _ _).2 (.inr h)⟩
   . rw[Gh.with_at,if_neg h2]at hat;exact .inl ⟨h1,h2,h3,hat⟩
theorem rB {els:List NE}{kl m j:Nat}{l:List AV}:(els++[NE.nm kl m])[j]? =some (NE.own l)↔els[j]? =some (NE.own l):=by
 by_cases h:j<els.length
 . rw[wh h]
 . rw[wd (by omega),List.getElem?_eq_none (l:=els) (by omega)];constructor
   . intro h'
     cases hj:j-els.length with
     | zero=>rw[hj]at h';cases h'
     | succ n=>rw[hj]at h';cases h'
   . intro h';cases h'
theorem Uk {els:List NE}{kl m j k n:Nat}(h:(els++[NE.nm kl m])[j]? =some (NE.nm k n)):els[j]? =some (NE.nm k n)\/(j=els.length/\k=kl/\n=m):=by
 by_cases hj:j<els.length
 . rw[wh hj]at h;exact .inl h
 . rw[wd (by omega)]at h
   cases hq:j-els.length with
   | zero =>rw[hq]at h;simp only[wB,WK,NE.nm.injEq]at h;exact .inr ⟨by omega,h.1.symm,h.2.symm⟩
   | succ n=>rw[hq]at h;cases h
theorem Au {H H':aT}{G':Gh}{b b':Nat}{X:Nat->Prop}{c c':Array Value}{els:List NE}{B:Nat->Nat}{kl m:Nat}{hd:Value}(hc:NestC H G b X c els B)(hle:Le H G H' G')
  (hB:∀y,X y->y≠b'/\H'[y]? =H[y]?) (hcc:∀j,j<els.length->c'[j]? =c[j]?) (hhd:c'[els.length]? =some hd) (hrd:RepS H G hd (.sl kl [] 0 m)) :
  NestC H' G' b' X c' (els++[.nm kl m]) B where
 x y:=by rw[hc.x];simp only[rB]
 own i l hi:=by rw[rB]at hi;obtain⟨h1,h2,cp,h3,h4⟩:=hc.own i l hi;obtain⟨g1,g2⟩:=hB _ ((hc.x _).2 ⟨i,l,hi,rfl⟩);exact⟨g1,h2,cp,by rw[hcc i (wG.1 hi).1];exact h3,h4.mono hle g2⟩
 inj i j l l' hi hj:=hc.inj i j l l' (rB.1 hi) (rB.1 hj)
 nm i k n hi:=by
  rcases Uk hi with h|⟨rfl,rfl,rfl⟩
  . obtain⟨v,h1,h2⟩:=hc.nm i k n h;exact⟨v,by rw[hcc i (wG.1 h).1];exact h1,h2.mono hle⟩
  . exact⟨hd,hhd,hrd.mono hle⟩
theorem JT {c:Call}{t u e e':TypeId}{x y:Operand}{x' y':Opd}{z:AV}{i:TypeInfo}(hg:GlOk w.heap G gl)(hst:StOk w.heap G st a.tmps)(ho:o.op= .call c)(hb:c.callee= .builtin .append)
  (hargs:c.args= #[x,y]) (ht:c.argTypes= #[t,u]) (hu:P.underlying t=some (.slice e)) (hu2:P.underlying u=some (.slice e')) (hz:dM P e=some (.sc,z)) (hi:P.info? e=some i)
  (hx:aw x=some x') (hy:aw y=some y') (hs:af gl cl st o.dst (.nap i.bytes x' y')=some (v,us)):bX P w G st.hp (execOp a.eval o) v us:=by
 have hvx:=aG hg hst hx;have hvy:=aG hg hst hy;have hsz1:(P.info? e).map (·.size)=some 1:=bx (bJ hz).1;have run:∀{r:Value} {w':World},(Builtin.append_ #[t,u] o.type #[a.eval x,a.eval y]).run P w= .ok r w'->(execOp a.eval o).run P w= .ok (.value r) w':=by intro r w' hr;simp only[execOp,ho,resolve,hb,hargs,ht,ww,wx,wy,invoke,builtin,wM,wJ,wT,hr]
 simp only[af]at hs;split at hs
 . rename_i k ky hk hvy';rw[WM]at hs;simp only[WA,WQ,decide_eq_true_eq]at hs;obtain⟨⟨hnone,hbytes⟩,hs⟩:=hs;split at hs
   . rename_i kl m hky;obtain⟨by',cy,ey,fzy,hry,hby,hsy,_,_,_,hcy⟩:=hst.inv.obs ky _ hky;obtain⟨hd,hd1,hd2⟩:=hcy 0 (by simp[AV.flat,AV.flats]);have hd2:RepS w.heap G hd (.sl kl [] 0 m):=hd2;simp only[WT]at hd1;rw[hvy',aq rfl]at hvy
     have hevy:a.eval y= .slice (some ⟨by',0,none⟩) 1 1:=by
      rcases bF hvy (Nn hst hky)with ⟨_,_,_,h,_⟩|⟨b2,root,mm,e2,o',xo,hr,hs2,hof,hle,hev,hxo⟩
      . cases h
      . rw[hry]at hr;simp only[WK,Rg.blk.injEq]at hr;obtain⟨rfl,rfl⟩:=hr;simp only[Sh.sub,WK,Sh.ar.injEq]at hs2;obtain⟨rfl,rfl⟩:=hs2;simp only[Sh.off,WK]at hof;subst hof;have:=hxo (by omega);rw[hev];simpa using this
     have hcy1:1<=cy.size:=by rw[hsy];decide
     have hyl:(Builtin.lenOf (a.eval y)).run P w= .ok 1 w:=by rw[hevy];rfl
     have hy1:∀w':World,w'.heap=w.heap->(Builtin.firstCells 1 1 (a.eval y)).run P w'= .ok #[hd] w':=fun w' hw=>by
      rw[hevy];have:=vw (P:=P) (n:=1) (len:=1) (cap:=1) w' (hw▸hby) hcy1;rw[this];have:cy[0]! = hd:=by obtain⟨h0,h1⟩:=W5.1 hd1;rw[getElem!_pos cy 0 h0,h1]
      simp[this]
     split at hs
     . rename_i sh0 hvx';simp only[WK,WR]at hs;obtain⟨rfl,rfl⟩:=hs;rw[hvx',aq rfl]at hvx;obtain⟨b,cap,hev,hcap,hfull,_,_⟩:=eh hvx;have hc0:=hfull rfl;simp only[wP]at hc0 hev;subst hc0
       have hx1:∀w':World,w'.heap=w.heap->(Builtin.firstCells 1 0 (.slice b 0 0)).run P w'= .ok #[] w':=fun w' _=>by
        cases b with
        | none=>rfl
        | some ad=>simp only[Builtin.firstCells,loadCells,W0];rfl
       obtain⟨newCap,zs,hrun,h1,h2⟩:=nU (P:=P) (ty:=o.type) (n:=0) (cap:=0) hu hu2 hz hi hbytes hyl hx1 hy1 rfl rfl (by omega) (by decide);have hkreg:=hst.inv.out k hnone;have hpush:∀y,y<w.heap.size->(w.heap.push (.cells (#[]++ #[hd]++zs) e))[y]? =w.heap[y]? :=fun y hy=>by rw[W8];simp[W1 hy]
       have hle:Le w.heap G (w.heap.push (.cells (#[]++ #[hd]++zs) e)) (G.with k (.nst w.heap.size newCap fun _=>False)):=Gh.with_le hkreg fun y hy=>hpush y (hst.inv.imm y hy).1
       have step:Step w.heap G st.hp (w.heap.push (.cells (#[]++ #[hd]++zs) e)) (G.with k (.nst w.heap.size newCap fun _=>False)) ([(k,.nest [.nm kl m])]++st.hp):=by
        refine qS hst.inv (fun _=>False) (fun j=>j=k) hle (by simp) (fun _=>Iff.rfl) (fun y hy h=>absurd (hpush y hy) h) (fun j o' hj=> ?_) (fun j hj=> ?_) (fun j y r hl hat=> ?_) (fun j j' y r r' hT hT' _ _ _ _=>hT.trans hT'.symm)
        . simp only[w0,wR,Hp.get_cons]at hj;by_cases h:k=j
          . subst h;simp only[if_true,WK]at hj;subst hj;refine .inr ⟨w.heap.size,newCap,fun _=>False,_,e,(0,0),fun _=>0,by simp[Gh.with],by simpa using h1,by rw[W8];simp,h2,.inl rfl,⟨fun y=> ?_,fun j l hj=> ?_,fun j j' l l' hj=> ?_,fun j k' n hj=> ?_⟩⟩
            . constructor
              . exact fun h=>h.elim
              . rintro ⟨j,l,hj,_⟩;cases j<;>cases hj
            . cases j<;>cases hj
            . cases j<;>cases hj
            . cases j with
              | zero =>simp only[wB,WK,NE.nm.injEq]at hj;obtain⟨rfl,rfl⟩:=hj;exact⟨hd,by rw[W6 (by simp)];simp,hd2.mono hle⟩
              | succ j=>cases hj
          . simp only[h,if_false]at hj;exact .inl ⟨fun h=>h,hj,by simp[Gh.with,Ne.symm h]⟩
        . simp only[w0,wR,Hp.get_cons]at hj;by_cases h:k=j
          . simp[h]at hj
          . simp only[h,if_false]at hj;simp only[Gh.with,show ¬j=k from fun e=>h e.symm,if_false];exact hst.inv.out j hj
        . rw[Gh.with_at]at hat;by_cases h:j=k
          . rw[if_pos h]at hat;refine .inr ⟨h,.inr ?_⟩;rcases hat with rfl|hat
            . simp
            . exact hat.elim
          . rw[if_neg h]at hat;rcases bm.1 hl with ⟨h',_⟩|⟨_,h'⟩
            . exact absurd h'.symm h
            . exact .inl ⟨fun h=>h,h,h',hat⟩
       refine⟨_,{w with drawn:=w.drawn+1,heap:=w.heap.push (.cells (#[]++ #[hd]++zs) e)},_,⟨rfl,rfl⟩,.inl (run ?_),step,(aq rfl).2 (.slN k 1 w.heap.size newCap (fun _=>False) (by simp[Gh.with]) h1 (by omega))⟩;rw[hev];exact hrun
     . rename_i kx n hvx';split at hs
       . rename_i els hkx;rw[WM]at hs;obtain⟨⟨hn,hlim⟩,hs⟩:=hs;simp only[WK,WR]at hs;obtain⟨rfl,rfl⟩:=hs;rw[hvx',aq rfl]at hvx;obtain⟨b,cap,X,c',e0,fz,B,hr,hl,hb',hsz,hf,hc⟩:=hst.inv.obs kx _ hkx
         have hev:a.eval x= .slice (some ⟨b,0,none⟩) n cap:=by
          generalize a.eval x=vv at hvx
          cases hvx with
          | sl _ _ _ _ b' root m e o hr'=>rw[hr]at hr';cases hr'
          | slZ _ _ _ b' x' root m e hr'=>rw[hr]at hr';cases hr'
          | slNil _ a hr'=>rw[hr]at hr';cases hr'
          | slN _ _ b2 cap2 X2 hr2 hle hn =>rw[hr]at hr2;simp only[WK,Rg.nst.injEq]at hr2;obtain⟨rfl,rfl,_⟩:=hr2;rfl
         have hbl:b<w.heap.size:=(W5.1 hb').1;have hXl:∀y,X y->y<w.heap.size/\y≠b:=fun y hy=>by obtain⟨j,l,hj,rfl⟩:=(hc.x y).1 hy;obtain⟨g1,_,cp,_,_,_,_,_,g2,_⟩:=hc.own j l hj;exact⟨(W5.1 g2).1,g1⟩
         subst hn;by_cases hfit:els.length+1<=cap
         . have hput:=bp (P:=P) (e:=e0) (fz:=fz) [hd] els.length 0 c' w hb' (by simp;omega) hf.free (fun q hq=>by
            simp only[w8]at hq;subst hq;exact hd2.oneCell)
           simp only[WY]at hput;have hbd:els.length+[hd].length<=c'.size:=by simp;omega
           have hpg:=fun j=>gM [hd] els.length c' j hbd
           have hstep:=zN hst.inv hkx hnone hr (w.heap.setIfInBounds b (.cells (aY c' els.length [hd]) e0 fz)) b cap (.nest (els++[.nm kl m])) (by simp) (.inl rfl)
            (fun y _ hy=>bu hy) fun hle=>⟨b,cap,X,_,e0,fz,B,by simp[Gh.with],by simpa using hfit,bP hb',by simp[aX,hsz],hf.put (aX ..),by
              refine Au (hd:=hd) hc hle (fun y hy=>⟨(hXl y hy).2,bu (hXl y hy).2⟩) (fun j hj=> ?_) ?_ hd2
              . rw[hpg,if_neg (by omega)]
              . rw[hpg,if_pos (by simp)];simp⟩
           refine⟨_,{w with heap:=w.heap.setIfInBounds b (.cells (aY c' els.length [hd]) e0 fz)},_,⟨rfl,rfl⟩,.inl (run ?_),hstep,(aq rfl).2 (.slN k _ b cap X (by simp[Gh.with]) hfit (by omega))⟩;rw[hev];exact zX hu hu2 hsz1 hyl (hy1 w rfl) hfit rfl (by rw[cY];simpa using hput)
         . have hx1:∀w':World,w'.heap=w.heap->(Builtin.firstCells 1 els.length (.slice (some ⟨b,0,none⟩) els.length cap)).run P w'= .ok ((w7 els.length).map fun j=>c'[j]!).toArray w':=fun w' hw =>
            vw w' (hw▸hb') (by omega)
           obtain⟨newCap,zs,hrun,h1,h2⟩:=nU (P:=P) (ty:=o.type) (n:=els.length) (cap:=cap) hu hu2 hz hi hbytes hyl hx1 hy1 (by simp) rfl (by omega) hlim;have hpush:∀{ob:Obj} y,y<w.heap.size->(w.heap.push ob)[y]? =w.heap[y]? :=fun{ob} y hy=>by rw[W8];simp[W1 hy]
           have hstep:=zN hst.inv hkx hnone hr (w.heap.push (.cells (((w7 els.length).map fun j=>c'[j]!).toArray++ #[hd]++zs) e)) w.heap.size newCap (.nest (els++[.nm kl m])) (by simp) (.inr ⟨rfl,by simp⟩)
            (fun y hy _=>hpush y hy) fun hle=>⟨w.heap.size,newCap,X,_,e,(0,0),B,by simp[Gh.with],by simpa using h1,by rw[W8];simp,h2,.inl rfl,by
              refine Au (hd:=hd) hc hle (fun y hy=>⟨W1 (hXl y hy).1,hpush y (hXl y hy).1⟩) (fun j hj=> ?_) ?_ hd2
              . have hjs:j<c'.size:=by omega
                rw[W6 (by simp;omega),W6 (by simpa using hj)];simp[hj,hjs]
              . rw[W6 (by simp),Array.getElem?_append_right (by simp)];simp⟩
           refine⟨_,{w with drawn:=w.drawn+1,heap:=w.heap.push (.cells (((w7 els.length).map fun j=>c'[j]!).toArray++ #[hd]++zs) e)},_,⟨rfl,rfl⟩,.inl (run ?_),hstep,(aq rfl).2 (.slN k _ w.heap.size newCap X (by simp[Gh.with]) h1 (by omega))⟩;rw[hev];exact hrun
       . cases hs
     . cases hs
   . cases hs
 . cases hs
theorem mM {x:Option Operand}{y:Option Opd}(h:bR x=some y)(hn:y.isNone=true):x=none:=by
 cases x with
 | none=>rfl
 | some x =>simp only[bR,WL]at h;obtain⟨z,_,rfl⟩:=h;cases hn
theorem IT {xs:Array Operand}{y:Opd}(h:bw aw xs.toList=some [y]):∃x,xs= #[x]/\aw x=some y:=by
 obtain⟨xs⟩:=xs;obtain⟨h1,h2⟩:=fm h
 match xs,h1 with
 | [x],_ =>obtain⟨z,hz,hx⟩:=h2 0 x rfl;simp only[wB,WK]at hz;subst hz;exact⟨x,rfl,hx⟩
theorem IS {xs:Array Operand}{y z:Opd}(h:bw aw xs.toList=some [y,z]):∃x x',xs= #[x,x']/\aw x=some y/\aw x'=some z:=by
 obtain⟨xs⟩:=xs;obtain⟨h1,h2⟩:=fm h
 match xs,h1 with
 | [x,x'],_ =>obtain⟨u,hu,hx⟩:=h2 0 x rfl;obtain⟨u',hu',hx'⟩:=h2 1 x' rfl;simp only[wB,wD,WK]at hu hu';subst hu hu';exact⟨x,x',rfl,hx,hx'⟩
theorem CR {bop:BinOp}{t yt:TypeId}{x y:Operand}(hg:GlOk w.heap G gl)(hst:StOk w.heap G st a.tmps)(ho:o.op= .binOp bop t x y yt)(hc:aF P im o=some m)
  (hs:af gl cl st o.dst m=some (v,us)):bX P w G st.hp (execOp a.eval o) v us:=by
 simp only[aF,ho,WN]at hc;obtain⟨x',hx,y',hy,hc⟩:=hc;have agg:∀{neg:Bool},bop=(if neg then .neq else .eql)->(∀sh,dh P SF t=some sh->sh.agg=true) ->
   (if(!P.eqGuardType P.depth t)=true then(dh P SF t).bind fun sh=>(mC P SF t).map fun k=>MOp.eqA neg sh k x' y' else none)=some m->bX P w G st.hp (execOp a.eval o) v us:=by
  intro neg hop hag h;split at h
  . rename_i hgd;simp only[WG]at hgd;simp only[WN,WL]at h;obtain⟨sh,hsh,k,hk,rfl⟩:=h;exact JV hg hst ho hop (hag sh hsh) hgd hsh hk hx hy hs
  . cases h
 split at hc
 . rename_i fs hu;exact agg (neg:=false) rfl (fun sh h=>by obtain⟨fs',rfl,_⟩:=dW h hu;rfl) hc
 . rename_i fs hu;exact agg (neg:=true) rfl (fun sh h=>by obtain⟨fs',rfl,_⟩:=dW h hu;rfl) hc
 . rename_i k e hu;exact agg (neg:=false) rfl (fun sh h=>by obtain⟨s,rfl,_⟩:=fc h hu;rfl) hc
 . rename_i k e hu;exact agg (neg:=true) rfl (fun sh h=>by obtain⟨s,rfl,_⟩:=fc h hu;rfl) hc
 . cases hc;exact AR hg hst ho hx hy hs
 . cases hc;exact AR hg hst ho hx hy hs
 . rename_i hu;cases hc;exact Gk hg hst ho hx hy hu hs
 . cases hc
theorem yF {s d:TypeId}{x:Operand}(hg:GlOk w.heap G gl)(hst:StOk w.heap G st a.tmps)(ho:o.op= .convert s d x)(hc:aF P im o=some m)
  (hs:af gl cl st o.dst m=some (v,us)):bX P w G st.hp (execOp a.eval o) v us:=by
 simp only[aF,ho,WN]at hc;obtain⟨x',hx,hc⟩:=hc;split at hc
 . rename_i h1 h2;cases hc;exact Gi hg hst ho hx h1 h2 hs
 . rename_i h1 h2;cases hc;exact F3 hg hst ho hx h1 h2 hs
 . rename_i h1 h2;split at hc
   . rename_i h3;simp only[WA]at h3;cases hc;exact JR hg hst ho h1 h2 h3.1 hx hs
   . cases hc
 . rename_i h1 h2;split at hc
   . rename_i h3;cases hc;exact JZ hg hst ho h1 h2 h3 hx hs
   . cases hc
 . rename_i h1 h2;split at hc
   . rename_i h3;simp only[WA,beq_iff_eq]at h3;cases hc;obtain⟨rfl,h3⟩:=h3;exact JU hg hst ho h2 h3 hx hs
   . cases hc
 . cases hc
theorem CC {t:TypeId}{x:Operand}{lo hi mx:Option Operand}(hg:GlOk w.heap G gl)(hst:StOk w.heap G st a.tmps)(ho:o.op= .slice t x lo hi mx)(hc:aF P im o=some m)
  (hs:af gl cl st o.dst m=some (v,us)):bX P w G st.hp (execOp a.eval o) v us:=by
 simp only[aF,ho,WN]at hc;obtain⟨x',hx,lo',hlo,hi',hhi,mx',hmx,hc⟩:=hc;split at hc
 . rename_i hu;split at hc
   . rename_i hn;cases hc;exact CD hg hst ho hx hlo hhi (mM hmx hn) hu hs
   . cases hc
 . rename_i e hu;simp only[WL]at hc;obtain⟨i,hi,rfl⟩:=hc;exact F4 hg hst ho hx hlo hhi hmx hu hi hs
 . rename_i n e hu;split at hc
   . rename_i hn;simp only[WL]at hc;obtain⟨i,hi,rfl⟩:=hc;exact CE hg hst ho hx hlo hhi (mM hmx hn) hu hi hs
   . cases hc
 . cases hc
theorem uN {t e:TypeId}{n:Nat}{vx:Value}{ty:TypeId}(hu:P.underlying t=some (.array n e)):(Builtin.len_ #[t] ty #[vx]).run P w= .ok (.int .i64 n) w:=by simp only[Builtin.len_,wC,wB,ww,aC hu,wy,wx];rfl
theorem CP {c:Call}(hg:GlOk w.heap G gl)(hst:StOk w.heap G st a.tmps)(ho:o.op= .call c)(hc:aF P im o=some m)(hn:gZ m=false)
  (hs:af gl cl st o.dst m=some (v,us)):bX P w G st.hp (execOp a.eval o) v us:=by
 simp only[aF,ho,WN]at hc;obtain⟨args,hargs,hc⟩:=hc;split at hc
 . cases hc;cases hn
 . cases hc;cases hn
 . rename_i hb;split at hc
   . rename_i t x ht;obtain⟨x0,hx0,hx⟩:=IT hargs;have ht':c.argTypes= #[t]:=by rw[<-W7 (xs:=c.argTypes),ht]
     split at hc
     . rename_i hu;cases hc;exact AP hg hst ho hb hx0 ht' hx (fun _=>hu) (fun h=>by cases h) hs
     . rename_i e hu;cases hc;exact AP hg hst ho hb hx0 ht' hx (fun h=>by cases h) (fun _=>⟨e,hu⟩) hs
     . rename_i kt e hu;cases hc;exact F6 hg hst ho hb hx0 ht' hu hx hs
     . rename_i n e hu;cases hc;simp only[af,WK,WR]at hs;obtain⟨rfl,rfl⟩:=hs;refine⟨_,w,G,⟨rfl,rfl⟩,.inl ?_,Step.refl hst.inv,ba _ _⟩;simp only[execOp,ho,resolve,hb,hx0,ht',ww,wx,wy,invoke,builtin,wM,wJ,wT,uN hu]
     . cases hc
   . cases hc
 . rename_i hb;split at hc
   . rename_i t u x y ht;obtain⟨x0,y0,hx0,hx,hy⟩:=IS hargs;have ht':c.argTypes= #[t,u]:=by rw[<-W7 (xs:=c.argTypes),ht]
     split at hc
     . rename_i e e' hu hu2;simp only[WN]at hc;obtain⟨⟨sh,z⟩,hz,i,hi,hc⟩:=hc;split at hc
       . rw[WM]at hc;obtain⟨hq,hc⟩:=hc;cases hc;have:=Sh.beq_eq hq;subst this;exact JT hg hst ho hb hx0 ht' hu hu2 hz hi hx hy hs
       . cases hc;exact qw hg hst ho hb hx0 ht' hu (.inr ⟨e',hu2⟩) hz hi hx hy hs
     . rename_i e hu hu2;simp only[WN,WL]at hc;obtain⟨⟨sh,z⟩,hz,i,hi,rfl⟩:=hc;exact qw hg hst ho hb hx0 ht' hu (.inl hu2) hz hi hx hy hs
     . rename_i e hu hu2;simp only[WN,WL]at hc;obtain⟨⟨sh,z⟩,hz,i,hi,rfl⟩:=hc;exact CT hg hst ho hb hx0 ht' hu hu2 hz hi hx hy hs
     . cases hc
   . cases hc
 . rename_i hb;split at hc
   . rename_i t u x y ht;obtain⟨x0,y0,hx0,hx,hy⟩:=IS hargs;have ht':c.argTypes= #[t,u]:=by rw[<-W7 (xs:=c.argTypes),ht]
     split at hc
     . rename_i e hu;simp only[WL]at hc;obtain⟨sh,hsh,rfl⟩:=hc;exact Gg hg hst ho hb hx0 ht' hu hsh hx hy hs
     . cases hc
   . cases hc
 . rename_i hb;split at hc
   . rename_i t x ht;obtain⟨x0,hx0,hx⟩:=IT hargs;have ht':c.argTypes= #[t]:=by rw[<-W7 (xs:=c.argTypes),ht]
     split at hc
     . rename_i e hu;simp only[WL]at hc;obtain⟨⟨sh,z⟩,hz,rfl⟩:=hc;exact CO hg hst ho hb hx0 ht' hu hz hx hs
     . cases hc
   . cases hc
 . rename_i hb;split at hc
   . rename_i t x ht;obtain⟨x0,hx0,hx⟩:=IT hargs;have ht':c.argTypes= #[t]:=by rw[<-W7 (xs:=c.argTypes),ht]
     split at hc
     . rename_i e hu;cases hc;exact Gj hg hst ho hb hx0 ht' hu hx hs
     . cases hc
   . cases hc
 . rename_i hb;split at hc
   . rename_i t u x y ht;obtain⟨x0,y0,hx0,hx,hy⟩:=IS hargs;have ht':c.argTypes= #[t,u]:=by rw[<-W7 (xs:=c.argTypes),ht]
     simp only[WL]at hc;obtain⟨⟨kk,z⟩,hz,rfl⟩:=hc;exact JX hg hst ho hb hx0 ht' hz hx hy hs
   . cases hc
 . rename_i hb;cases hc;exact F8 hg hst ho hb hargs hs
 . rename_i hb;cases hc;exact F9 hg hst ho hb hargs hs
 . cases hc
theorem NZ (hg:GlOk w.heap G gl)(hst:StOk w.heap G st a.tmps)(hc:aF P im o=some m)(hn:∀c,o.op= .call c->gZ m=false)
  (hs:af gl cl st o.dst m=some (v,us)):bX P w G st.hp (execOp a.eval o) v us:=by
 cases ho:o.op with
 | move x=>exact AO hg hst (.inl ho) hc hs
 | assign x=>exact AO hg hst (.inr ho) hc hs
 | pick c x y=>exact F5 hg hst ho hc hs
 | alloc t=>exact CU hst ho hc hs
 | box t x=>exact JY hg hst ho hc hs
 | build t ps=>exact CQ hg hst ho hc hs
 | buildSlice t n ps=>exact AQ hg hst ho hc hs
 | load t x =>
   cases hmd:(oj im o.dst).isImp with
   | false=>exact Gd hg hst ho hc hmd hs
   | true =>simp only[aF,ho,WN,hmd,if_true]at hc;obtain⟨sh,hsh,x',hx,hc⟩:=hc;rw[WM]at hc;obtain⟨hq,hc⟩:=hc;cases hc;have:=Sh.beq_eq hq;subst this;exact JS hg hst ho hx hsh hs
 | store t p x=>exact CB hg hst ho hc hs
 | binOp b t x y yt=>exact CR hg hst ho hc hs
 | unOp u t x=>exact NY hg hst ho hc hs
 | convert s d x=>exact yF hg hst ho hc hs
 | sliceToArrayPointer t x=>exact CS hg hst ho hc hs
 | makeFunc f xs ys=>exact F7 hg hst ho hc hs
 | makeSlice t l c=>exact yE hg hst ho hc hs
 | slice t x lo hi mx=>exact CC hg hst ho hc hs
 | fieldAddr t x f=>exact CN hg hst ho hc hs
 | indexAddr t x i=>exact CJ hg hst ho hc hs
 | field t x f=>exact CM hg hst ho hc hs
 | index t x i=>exact CI hg hst ho hc hs
 | extract x i=>exact Gf hg hst ho hc hs
 | nilCheck x=>exact CF hg hst ho hc hs
 | call c=>exact CP hg hst ho hc (hn c ho) hs
 | makeMap t r=>exact CG hst ho hc hs
 | lookup t x i ok=>exact Gb hg hst ho hc hs
 | mapUpdate t x i y=>exact JP hg hst ho hc hs
 | mapEntry t x i=>exact JW hg hst ho hc hs
 | entryStore t x i y=>exact JQ hg hst ho hc hs
 | _=>simp[aF,ho]at hc
end Go.Ev
