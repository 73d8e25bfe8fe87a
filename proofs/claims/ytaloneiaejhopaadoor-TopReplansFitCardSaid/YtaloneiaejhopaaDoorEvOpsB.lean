/-
  One operation of the evaluator is one of the model's: variables made, aggregates and slices built. No condition.
-/
import Derived.Test.YtaloneiaejhopaaDoorEvOpsA
import Derived.Lib.Strings
set_option linter.all false
open Option renaming some.injEq->wB,map_eq_some_iff->wC,bind_eq_some_iff->wD,map_some->wE,map_none->wF
open Prod renaming mk.injEq->wG
open Bool renaming and_eq_true->wH,false_eq_true->wJ,true_and->wK,or_false->wL
open Nat renaming le_refl->wM,zero_add->wN,add_zero->wO,add_mul->wP,succ_lt_succ->wQ,add_assoc->wR
open Array renaming range->wS,length_toList->wT,getElem?_eq_some_iff->wU,toArray_toList->wV,getElem?_map->wW
open List renaming eq_of_mem_replicate->wX,length_replicate->wY,getElem?_eq_getElem->wZ,all_eq_true->w0,mem_of_getElem?->w1,length_append->w2
open Int renaming mul_le_mul_of_nonneg_left->w3,mul_le_mul->w4
namespace Go.Ev
open Go
variable {im :Im} {P:Program} {w:World} {H:Heap} {G:Gh} {gl:Gl} {cl:Cl} {st:St} {a:Act} {o:Oper} {m:MOp} {v:AV} {us:Hp}
theorem za7 {vs:List Value}{l:List AV}(h:RepL H G vs l):RepC H G vs.toArray 0 l:=fun j hj =>
 ⟨vs[j]'(by rw[h.len];exact hj),by simp[h.len,hj],h.get j (by rw[h.len];exact hj) hj⟩
theorem zbx {t:TypeId}{sh:Sh}{z:AV}(h:zej P t=some (sh,z)) :
  shOf P SF t=some sh/\∃zv:Value,(∀w,(zeroValue t).run P w= .ok zv w)/\zap sh z=true/\z.plain=true/\z.wf/\∀(H:Heap) (G:Gh),RepL H G zv.cells.toList z.flat:=by
 simp only[zej,wD]at h
 obtain⟨sh',hsh,h⟩:=h
 split at h
 . rename_i i hi
   split at h
   . rename_i zv hz
     split at h
     . rename_i x hx
       simp only[wB,wG]at h
       obtain⟨rfl,rfl⟩:=h
       obtain⟨us,e1,h1,h2,h3,h4⟩:=zq4 _ _ _ _ hx
       refine⟨hsh,zv,fun w=>by simp[zeroValue,zfb hi,hz],h1,h2,h3,fun H G=> ?_⟩
       rw[e1,List.append_nil];exact h4 H G
     . cases h
   . cases h
 . cases h
theorem zpf {hp:Hp}(inv:Inv H G hp){k:Nat}(hk:hp.get k=none){sh:Sh}{x:AV}{vs:List Value}(e:TypeId)(hsh:zap sh x=true)(hw:x.wf)(hv:RepL H G vs x.flat) :
  Step H G hp (H.push (.cells vs.toArray e)) (G.with k (.blk H.size sh)) ((k,.fix sh x)::hp):=by
 refine zit inv hk _ sh _ fun le=> ?_
 refine⟨H.size,vs.toArray,e,(0,0),by simp[Gh.with],by simp,?_,.inl rfl,hsh,hw,(za7 hv).mono le⟩
 simp[hv.len,zaf sh x hsh]
theorem z1f {k:Nat}{sh:Sh}{H':Heap}:RepT H' (G.with k (.blk H.size sh)) (.pointer (some ⟨H.size,0,none⟩)) (.ptr k []) :=
 (zae rfl).2 (.ptr k [] H.size sh 0 (by simp[Gh.with]) (by cases sh<;>rfl))
theorem zzh {t:TypeId}(hst:StOk w.heap G st a.tmps)(ho:o.op= .alloc t)(hc:zan P im o=some m)
  (hs:zaa gl cl st o.dst m=some (v,us)):Good P w G st.hp (execOp a.eval o) v us:=by
 simp only[zan,ho,wC]at hc
 obtain⟨⟨sh,z⟩,hz,rfl⟩:=hc
 obtain⟨_,zv,hzv,hsh,_,hw,hrl⟩:=zbx hz
 simp only[zaa]at hs
 split at hs
 . rename_i k hk
   split at hs
   . rename_i hnone
     simp only[wB,wG]at hs
     obtain⟨rfl,rfl⟩:=hs
     refine⟨_,{w with heap:=w.heap.push (.cells zv.cells t)},G.with k (.blk w.heap.size sh),⟨rfl,rfl⟩,.inl ?_,?_,z1f⟩
     . simp[execOp,ho,Instr.alloc,hzv,newVar,newRow]
     . have:=zpf hst.inv (by simpa using hnone) t hsh hw (hrl w.heap G)
       simpa using this
   . cases hs
 . cases hs
theorem z74 {t:TypeId}{x:Operand}(hg:GlOk w.heap G gl)(hst:StOk w.heap G st a.tmps)(ho:o.op= .box t x)(hc:zan P im o=some m)
  (hs:zaa gl cl st o.dst m=some (v,us)):Good P w G st.hp (execOp a.eval o) v us:=by
 simp only[zan,ho,wD,wC]at hc
 obtain⟨sh,hsh,x',hx,rfl⟩:=hc
 have hvx:=zam hg hst hx
 simp only[zaa]at hs
 split at hs
 . rename_i k hk
   split at hs
   . rename_i hcond
     simp only[wH]at hcond
     simp only[wB,wG]at hs
     obtain⟨rfl,rfl⟩:=hs
     rw[RepT.of_known (zbq hcond.2)]at hvx
     obtain⟨vs,hvs,hrl,_,_⟩:=hvx.cells
     refine⟨_,{w with heap:=w.heap.push (.cells (a.eval x).cells t)},G.with k (.blk w.heap.size sh),⟨rfl,rfl⟩,.inl ?_,?_,z1f⟩
     . simp[execOp,ho,Instr.box,newVar,newRow]
     . have:=zpf hst.inv (by simpa using hcond.1) t hcond.2 hvx.wf hrl
       rw[<-hvs]at this
       simpa using this
   . cases hs
 . cases hs
theorem z77 (vs:List Value):∀(off:Nat) (cells:Array Value),(vs.toArray.zipIdx.foldl (fun cs (c,j)=>cs.setIfInBounds (off+j) c) cells)=zav cells off vs:=by
 have gen:∀(vs:List Value) (i off:Nat) (cells:Array Value),(vs.zipIdx i).foldl (fun cs (q:Value×Nat)=>cs.setIfInBounds (off+q.2) q.1) cells=zav cells (off+i) vs:=by
  intro vs
  induction vs with
  | nil=>intro i off cells;rfl
  | cons v r ih=>intro i off cells;simp only[List.zipIdx_cons,List.foldl_cons,zav];rw[ih];rfl
 intro off cells
 have:=gen vs 0 off cells
 rw[wO]at this
 rw[<-this,<-Array.foldl_toList,Array.toList_zipIdx]
theorem z6s {c:Array Value}{off:Nat}{vs:List Value}{pre old new post:List AV}(h:RepL H G c.toList (pre++old++post))(hv:RepL H G vs new)
  (hn:new.length=old.length) (hp:pre.length=off):RepL H G (zav c off vs).toList (pre++new++post):=by
 have hl:=h.len
 have hvl:=hv.len
 simp only[wT,w2]at hl
 have hc:RepC H G c 0 (pre++old++post):=by simpa using za7 h
 have:=zle hc rfl hv hn hp (by omega)
 refine⟨by simp only[wT,zau,w2];omega,fun j h1 h2=> ?_⟩
 obtain⟨x,hx,hr⟩:=this j h2
 simp only[wN]at hx
 obtain⟨hlt,rfl⟩:=wU.1 hx
 simpa using hr
theorem zf4 {sub:Nat->Option Sh}{place:Nat->Option (Nat×Nat)}(H:Heap)(G:Gh)(I:List AV->Prop)
  (hI:∀(zs:List AV) (i:Nat) (s:Sh) (x:AV),I zs->sub i=some s->zap s x=true->I (zs.set i x)/\∃z,zs[i]? =some z/\zap s z=true /\
    ∃pre post off,place i=some (off,s.size)/\AV.flats zs=pre++z.flat++post/\pre.length=off/\AV.flats (zs.set i x)=pre++x.flat++post) :
  ∀(ps:List (Nat×AV)) (vs:List (Nat×Value)) (zs out:List AV) (cells:Array Value),I zs->RepL H G cells.toList (AV.flats zs) ->
   ps.length=vs.length->(∀(j:Nat) (h:j<ps.length) (h':j<vs.length),ps[j].1=vs[j].1/\RepT H G vs[j].2 ps[j].2) ->
   zj1 sub zs ps=some out->∃c',Instr.fill place cells vs=some c'/\RepL H G c'.toList (AV.flats out)/\I out/\out.length=zs.length /\
    (∀x∈out,x∈zs\/∃p∈ps,p.2=x/\∃v:Value,RepV H G v x)
 | [],[],zs,out,cells,hi,hr,_,_,h=>by
   simp only[zj1,wB]at h;subst h
   exact⟨cells,rfl,hr,hi,rfl,fun x hx=>.inl hx⟩
 | [],_::_,_,_,_,_,_,hl,_,_=>by simp at hl
 | _::_,[],_,_,_,_,_,hl,_,_=>by simp at hl
 | (i,x)::ps,(i',v)::vs,zs,out,cells,hi,hr,hl,hrep,h=>by
   obtain⟨e1,e2⟩:=hrep 0 (by simp) (by simp)
   simp only[List.getElem_cons_zero]at e1 e2
   subst e1
   simp only[zj1]at h
   split at h
   . rename_i s hs
     split at h
     . rename_i hx
       obtain⟨hi',z,hz,hzs,pre,post,off,hpl,g1,g2,g3⟩:=hI zs i s x hi hs hx
       rw[RepT.of_known (zbq hx)]at e2
       obtain⟨us,hus,hrl,_,_⟩:=e2.cells
       have hul:us.length=s.size:=by rw[hrl.len,zaf s x hx]
       have hsz:v.cells.size=s.size:=by rw[<-hul,<-hus];simp
       have hle:off+s.size<=cells.size:=by
        have:=hr.len
        rw[g1]at this
        simp[zaf s z hzs,g2]at this
        omega
       obtain⟨c',hc',k1,k2,k3,k4⟩:=zf4 H G I hI ps vs (zs.set i x) out (zav cells off us) hi'
        (by rw[g3];exact z6s (by rw[<-g1];exact hr) hrl (by rw[zaf s x hx,zaf s z hzs]) g2)
        (by simpa using hl) (fun j a b=>hrep (j+1) (wQ a) (wQ b)) h
       refine⟨c',?_,k1,k2,by simpa using k3,fun y hy=> ?_⟩
       . simp only[Instr.fill,hpl,hsz]
         rw[if_neg (by simp;omega)]
         have:v.cells=us.toArray:=by rw[<-hus]
         rw[this,z77,hc']
       . rcases k4 y hy with hy|⟨p,hp,hpx⟩
         . rcases List.mem_or_eq_of_mem_set hy with hy|rfl
           . exact .inl hy
           . exact .inr ⟨(i,y),by simp,rfl,v,e2⟩
         . exact .inr ⟨p,by simp[hp],hpx⟩
     . cases h
   . cases h
end Go.Ev
namespace Go.Ev
open Go
variable {im :Im} {P:Program} {w:World} {H:Heap} {G:Gh} {gl:Gl} {cl:Cl} {st:St} {a:Act} {o:Oper} {m:MOp} {v:AV} {us:Hp}
theorem zd9 {α β:Type}{f:α->Option β}:∀{l:List α} {r:List β},mapO f l=some r->r.length=l.length/\∀(i:Nat) (x:α),l[i]? =some x->∃y,r[i]? =some y/\f x=some y
 | [],r,h=>by simp only[mapO,wB]at h;subst h;simp
 | a::l,r,h=>by
   simp only[mapO,wD,wC]at h
   obtain⟨b,hb,r',hr,rfl⟩:=h
   obtain⟨h1,h2⟩:=zd9 hr
   refine⟨by simp[h1],fun i x hi=> ?_⟩
   cases i with
   | zero=>simp at hi;subst hi;exact⟨b,by simp,hb⟩
   | succ i=>simpa using h2 i x (by simpa using hi)
theorem zc9 {n:Nat}{t:TypeId}{sh:Sh}{fields:Array Field}(h:shOf P n t=some sh)(hu:P.underlying t=some (.struct fields)) :
  ∃fs,sh= .st fs/\fields.size=fs.length/\∀(i:Nat) (f:Field),fields[i]? =some f ->
   ∃s,fs[i]? =some s/\f.offset=Sh.sizes (fs.take i)/\(P.info? f.type).map (·.size)=some s.size/\∃n',shOf P n' f.type=some s:=by
 cases n with
 | zero=>simp[shOf]at h
 | succ n =>
   simp only[shOf,hu,wD]at h
   obtain⟨l,hl,h⟩:=h
   split at h
   . rename_i hc
     simp only[wH,w0]at hc
     cases h
     obtain⟨h1,h2⟩:=zd9 hl
     refine⟨l,rfl,by simpa using h1.symm,fun i f hf=> ?_⟩
     obtain⟨s,hs,hfs⟩:=h2 i f (by simpa using hf)
     have hm:=hc.1 (f,i) (by
      rw[List.mem_iff_getElem?]
      refine⟨i,?_⟩
      simp[List.getElem?_zipIdx,hf])
     simp only[beq_iff_eq]at hm
     exact⟨s,hs,hm.1,by rw[<-hm.2,hs];rfl,n,hfs⟩
   . cases h
theorem zdw {n k:Nat}{t e:TypeId}{sh:Sh}(h:shOf P n t=some sh)(hu:P.underlying t=some (.array k e)) :
  ∃s,sh= .ar k s/\(P.info? e).map (·.size)=some s.size/\∃n',shOf P n' e=some s:=by
 cases n with
 | zero=>simp[shOf]at h
 | succ n =>
   simp only[shOf,hu,wD]at h
   obtain⟨s,hs,h⟩:=h
   split at h
   . rename_i hc
     simp only[wH,beq_iff_eq]at hc
     cases h
     exact⟨s,rfl,hc.1,n,hs⟩
   . cases h
theorem ziw {α β:Type}(f:α->Sem β)(g:α->β):∀(l:List α),(∀x∈l,(f x).run P w= .ok (g x) w)->(l.mapM f).run P w= .ok (l.map g) w
 | [],_=>by simp
 | x::l,h=>by
   rw[List.mapM_cons]
   simp only[Sem.run_bind,h x (by simp),Result.andThen_ok,ziw f g l (fun y hy=>h y (by simp[hy])),Sem.run_pure,List.map_cons]
theorem z57 {α β:Type}(f:α->Sem β)(g:α->β)(xs:Array α)(h:∀x∈xs,(f x).run P w= .ok (g x) w):(xs.mapM f).run P w= .ok (xs.map g) w:=by
 rw[Array.mapM_eq_mapM_toList,Sem.run_map,ziw f g xs.toList (fun x hx=>h x (by simpa using hx))]
 simp only[Result.andThen_ok]
 congr 1
 apply Array.ext';simp
theorem zl9 {ps:Array (Nat×Operand)}{ps':List (Nat×Opd)}(hg:GlOk w.heap G gl)(hst:StOk w.heap G st a.tmps)
  (h:mapO (fun p=>(zag p.2).map fun x=>(p.1,x)) ps.toList=some ps') :
  (ps'.map fun p=>(p.1,Opd.val gl st.fr p.2)).length=(ps.map fun(q:Nat×Operand)=>(q.1,a.eval q.2)).toList.length /\
  ∀(j:Nat) (h:j<(ps'.map fun p=>(p.1,Opd.val gl st.fr p.2)).length) (h':j<(ps.map fun(q:Nat×Operand)=>(q.1,a.eval q.2)).toList.length),
   (ps'.map fun p=>(p.1,Opd.val gl st.fr p.2))[j].1=(ps.map fun(q:Nat×Operand)=>(q.1,a.eval q.2)).toList[j].1 /\
   RepT w.heap G (ps.map fun(q:Nat×Operand)=>(q.1,a.eval q.2)).toList[j].2 (ps'.map fun p=>(p.1,Opd.val gl st.fr p.2))[j].2:=by
 obtain⟨h1,h2⟩:=zd9 h
 refine⟨by simp[h1],fun j ha hb=> ?_⟩
 simp only[List.length_map]at ha
 have hj:j<ps.toList.length:=by omega
 obtain⟨y,hy,hf⟩:=h2 j _ (wZ hj)
 simp only[wC]at hf
 obtain⟨x,hx,rfl⟩:=hf
 have hy':ps'[j]=(ps.toList[j].1,x):=by
  have:=wZ ha
  rw[this]at hy;simpa using hy
 simp only[List.getElem_map,hy',Array.toList_map]
 exact⟨trivial,zam hg hst hx⟩
theorem z76 {fs:List Sh}{zs:List AV}{i:Nat}{s:Sh}{x:AV}(h:za5 fs zs=true)(hi:fs[i]? =some s)(hx:zap s x=true) :
  za5 fs (zs.set i x)=true/\∃z,zs[i]? =some z/\zap s z=true/\∃pre post,AV.flats zs=pre++z.flat++post/\pre.length=Sh.sizes (fs.take i) /\
   AV.flats (zs.set i x)=pre++x.flat++post:=by
 obtain⟨z,hz,hsz⟩:=zde h hi
 obtain⟨pre,post,h1,h2,h3⟩:=zci h hz
 exact⟨zkc h hi hx,z,hz,hsz,pre,post,h1,h2,h3 x⟩
theorem zq6 {e:Sh}{zs:List AV}{i:Nat}{x:AV}(h:∀z∈zs,zap e z=true)(hi:i<zs.length)(hx:zap e x=true) :
  (∀z∈zs.set i x,zap e z=true)/\∃z,zs[i]? =some z/\zap e z=true/\∃pre post,AV.flats zs=pre++z.flat++post/\pre.length=i*e.size /\
    AV.flats (zs.set i x)=pre++x.flat++post:=by
 have hz:zs[i]? =some zs[i]:=wZ hi
 obtain⟨pre,post,h1,h2,h3⟩:=zby (fun y hy=>zaf e y (h y hy)) hz
 exact⟨z5n h hx,_,hz,h _ (List.getElem_mem hi),pre,post,h1,h2,h3 x⟩
theorem zhq :∀{l:List AV},AV.plains l=true↔∀x∈l,x.plain=true
 | []=>by simp[AV.plains]
 | a::l=>by simp[AV.plains,zhq (l:=l)]
theorem qc4 {l:List AV}(hw:∀x∈l,x.wf):(AV.mk l).isAgg=true/\(AV.mk l).kids=l/\(AV.mk l).flat=AV.flats l/\(AV.mk l).wf/\(AV.mk l).known=true:=by
 unfold AV.mk
 split
 . rename_i h
   exact⟨rfl,rfl,rfl,by rw[AV.wf,AV.wfp_iff];exact fun x hx=>⟨zhq.1 h x hx,hw x hx⟩,rfl⟩
 . exact⟨rfl,rfl,rfl,by rw[AV.wf,AV.wfs_iff];exact hw,rfl⟩
theorem zzd {t:TypeId}{ps:Array (Nat×Operand)}(hg:GlOk w.heap G gl)(hst:StOk w.heap G st a.tmps)(ho:o.op= .build t ps)(hc:zan P im o=some m)
  (hs:zaa gl cl st o.dst m=some (v,us)):Good P w G st.hp (execOp a.eval o) v us:=by
 simp only[zan,ho,wD,wC]at hc
 obtain⟨⟨sh,z⟩,hz,ps',hps,rfl⟩:=hc
 obtain⟨hshT,zv,hzv,hsh,hzp,hzw,hrl⟩:=zbx hz
 obtain⟨p1,p2⟩:=zl9 hg hst hps
 simp only[zaa]at hs
 have fin:∀(c':Array Value) (l:List AV),RepL w.heap G c'.toList (AV.flats l)->(∀x∈l,x.wf)->RepT w.heap G (.agg c') (AV.mk l):=fun c' l h1 h2=>by
  obtain⟨k1,k2,k3,k4,k5⟩:=qc4 h2
  rw[RepT.of_known k5]
  exact⟨k5,k4,c'.toList,by rw[k3];exact h1,by simp[ze3,k1]⟩
 split at hs
 . rename_i zs fs
   simp only[wC,wG]at hs
   obtain⟨l,hl,rfl,rfl⟩:=hs
   have hu:∃fields,P.underlying t=some (.struct fields):=by
    have h0:=ziv (w:=w) hshT
    simp only[Sh.agg,isAgg,Sem.run_bind]at h0
    cases hu:P.underlying t with
    | none=>simp[SF,shOf,hu]at hshT
    | some d =>
      cases d with
      | struct fields=>exact⟨fields,rfl⟩
      | array k e=>obtain⟨s,h1,_⟩:=zdw hshT hu;cases h1
      | _=>simp[zaj hu]at h0
   obtain⟨fields,hu⟩:=hu
   obtain⟨fs',e1,e2,e3⟩:=zc9 hshT hu
   cases e1
   rw[zec]at hsh
   have hwz:∀x∈zs,x.wf:=fun x hx=>(AV.wfp_iff zs |>.1 (by simpa[AV.wf]using hzw) x hx).2
   let pl:Field->Nat×Nat:=fun f=>(f.offset,((P.info? f.type).map (·.size)).getD 0)
   obtain⟨c',k1,k2,k3,k4,k5⟩:=zf4 (sub:=(fs[·]?)) (place:=((fields.map pl)[·]?)) w.heap G (fun zs=>za5 fs zs=true)
    (fun zs i s x hzs hi hx=>by
      obtain⟨h1,z,h2,h3,pre,post,h4,h5,h6⟩:=z76 hzs hi hx
      refine⟨h1,z,h2,h3,pre,post,_,?_,h4,h5,h6⟩
      obtain⟨hlt,_⟩:=List.getElem?_eq_some_iff.1 hi
      have hf:fields[i]? =some (fields[i]'(by omega)):=by simp[show i<fields.size by omega]
      obtain⟨s',g1,g2,g3,_⟩:=e3 i _ hf
      rw[hi]at g1;cases g1
      simp only[wW,hf,wE,pl,g2,g3,Option.getD_some]) _ _ zs l zv.cells hsh (by simpa[AV.flat]using hrl w.heap G) p1 p2 hl
   refine⟨.agg c',w,G,⟨rfl,rfl⟩,.inl ?_,Step.refl hst.inv,fin c' l k2 fun x hx=> ?_⟩
   . have hm:(fields.mapM (m:=Sem) fun f=>do pure (f.offset,<-sizeOf f.type)).run P w= .ok (fields.map pl) w:=by
      refine z57 _ pl fields fun f hf=> ?_
      obtain⟨i,hi,rfl⟩:=Array.getElem_of_mem hf
      obtain⟨s,_,_,g3,_⟩:=e3 i fields[i] (by simp[hi])
      simp[za9 g3,pl,g3]
     have hrun:(Instr.build t (ps.map fun(q:Nat×Operand)=>(q.1,a.eval q.2))).run P w= .ok (.agg c') w:=by
      simp only[Instr.build,Sem.run_bind,hzv,Result.andThen_ok,zaj hu,hm]
      rw[k1]
      rfl
     have he:execOp a.eval o=(do pure (.value (<-Instr.build t (ps.map fun(q:Nat×Operand)=>(q.1,a.eval q.2))))):=by
      simp only[execOp,ho]
     rw[he];simp only[Sem.run_bind,hrun,Result.andThen_ok,Sem.run_pure]
   . rcases k5 x hx with hx|⟨_,_,_,v,hv⟩
     . exact hwz x hx
     . exact hv.wf
 . rename_i zs n e
   simp only[wC,wG]at hs
   obtain⟨l,hl,rfl,rfl⟩:=hs
   have hu:∃te,P.underlying t=some (.array n te)/\(P.info? te).map (·.size)=some e.size:=by
    have h0:=ziv (w:=w) hshT
    simp only[Sh.agg,isAgg,Sem.run_bind]at h0
    cases hu:P.underlying t with
    | none=>simp[SF,shOf,hu]at hshT
    | some d =>
      cases d with
      | struct fields=>obtain⟨s,h1,_⟩:=zc9 hshT hu;cases h1
      | array k te=>obtain⟨s,h1,h2,_⟩:=zdw hshT hu;cases h1;exact⟨te,rfl,h2⟩
      | _=>simp[zaj hu]at h0
   obtain⟨te,hu,hsz⟩:=hu
   rw[zbm]at hsh
   simp only[wH,beq_iff_eq,w0]at hsh
   have hwz:∀x∈zs,x.wf:=fun x hx=>(AV.wfp_iff zs |>.1 (by simpa[AV.wf]using hzw) x hx).2
   obtain⟨c',k1,k2,k3,k4,k5⟩:=zf4 (sub:=fun i=>if i<n then some e else none) (place:=fun i=>some (i*e.size,e.size)) w.heap G
    (fun zs=>zs.length=n/\∀z∈zs,zap e z=true)
    (fun zs i s x hzs hi hx=>by
      split at hi
      . rename_i hlt
        cases hi
        obtain⟨h1,z,h2,h3,pre,post,h4,h5,h6⟩:=zq6 (i:=i) hzs.2 (by have:=hzs.1;omega) hx
        exact⟨⟨by simp[hzs.1],h1⟩,z,h2,h3,pre,post,_,rfl,h4,h5,h6⟩
      . cases hi) _ _ zs l zv.cells hsh (by simpa[AV.flat]using hrl w.heap G) p1 p2 hl
   refine⟨.agg c',w,G,⟨rfl,rfl⟩,.inl ?_,Step.refl hst.inv,fin c' l k2 fun x hx=> ?_⟩
   . have hrun:(Instr.build t (ps.map fun(q:Nat×Operand)=>(q.1,a.eval q.2))).run P w= .ok (.agg c') w:=by
      simp only[Instr.build,Sem.run_bind,hzv,Result.andThen_ok,zaj hu,za9 hsz]
      rw[k1]
      rfl
     have he:execOp a.eval o=(do pure (.value (<-Instr.build t (ps.map fun(q:Nat×Operand)=>(q.1,a.eval q.2))))):=by
      simp only[execOp,ho]
     rw[he];simp only[Sem.run_bind,hrun,Result.andThen_ok,Sem.run_pure]
   . rcases k5 x hx with hx|⟨_,_,_,v,hv⟩
     . exact hwz x hx
     . exact hv.wf
 . cases hs
end Go.Ev
namespace Go.Ev
open Go
variable {im :Im} {P:Program} {w:World} {H:Heap} {G:Gh} {gl:Gl} {cl:Cl} {st:St} {a:Act} {o:Oper} {m:MOp} {v:AV} {us:Hp}
theorem zez {hp:Hp}(inv:Inv H G hp){k:Nat}(hk:hp.get k=none){sh:Sh}{els:List AV}{c:Array Value}{cap:Nat}(e:TypeId)(fz:Nat×Nat)(hcap:els.length<=cap)
  (hsz:c.size=cap*sh.size) (hf:freeG sh c fz) (hsh:∀x∈els,zap sh x=true/\x.plain=true/\x.wf) (hc:RepC H G c 0 (AV.flats els)) :
  Step H G hp (H.push (.cells c e fz)) (G.with k (.blk H.size (.ar cap sh))) ((k,.grow sh els)::hp):=by
 refine zit inv hk _ _ _ fun le=> ?_
 exact .inr ⟨H.size,cap,c,e,fz,by simp[Gh.with],hcap,by simp,hsz,hf,hsh,hc.mono le⟩
theorem ziu {k n cap:Nat}{sh:Sh}{H':Heap}(h:n<=cap):RepT H' (G.with k (.blk H.size (.ar cap sh))) (.slice (some ⟨H.size,0,none⟩) n cap) (.sl k [] 0 n):=by
 have:=RepS.sl (H:=H') (G:=G.with k (.blk H.size (.ar cap sh))) k [] 0 n H.size (.ar cap sh) cap sh 0 (by simp[Gh.with]) rfl rfl (by omega)
 exact(zae rfl).2 (by simpa using this)
theorem zhc {z:AV}{n:Nat}(hz:z.flat.length=n):∀(len j:Nat),j<len*n->(AV.flats (List.replicate len z))[j]? =z.flat[j%n]?
 | 0,j,h=>by simp at h
 | len+1,j,h=>by
   simp only[List.replicate_succ,AV.flats]
   by_cases hj:j<n
   . rw[List.getElem?_append_left (by omega),Nat.mod_eq_of_lt hj]
   . rw[List.getElem?_append_right (by omega),hz]
     have hlt:j-n<len*n:=by rw[wP]at h;omega
     rw[zhc hz len (j-n) hlt]
     congr 1
     rw[Nat.mod_eq_sub_mod (by omega:n<=j)]
theorem zps {z:AV}{zero:Array Value}{n:Nat}(hz:RepL H G zero.toList z.flat)(hn:z.flat.length=n)(len:Nat) :
  RepC H G ((wS (len*n)).map fun i=>zero[i%zero.size]!) 0 (AV.flats (List.replicate len z)):=by
 have hl:=hz.len
 simp only[wT]at hl
 intro j hj
 have hj':j<len*n:=by rwa [za1 _ (n:=n) (fun x hx=>by rw[wX hx];exact hn),wY]at hj
 have hn0:0<n:=Nat.pos_of_ne_zero fun h=>by simp[h]at hj'
 have hm:j%n<n:=Nat.mod_lt _ hn0
 refine⟨zero[j%n]'(by omega),?_,?_⟩
 . simp only[wN,wW]
   rw[Array.getElem?_range]
   simp only[hj',if_true,wE,hl,hn]
   rw[getElem!_pos zero (j%n) (by omega)]
 . have e:=zhc hn len j hj'
   rw[wZ hj,wZ (by omega)]at e
   simp only[wB]at e
   rw[e]
   have:=hz.get (j%n) (by simp;omega) (by omega)
   simpa using this
theorem zc6 {z:AV}{zero:Array Value}{n:Nat}(hz:RepL H G zero.toList z.flat)(hn:z.flat.length=n)(len:Nat) :
  RepL H G ((wS (len*n)).map fun i=>zero[i%zero.size]!).toList (AV.flats (List.replicate len z)):=by
 have hl:(AV.flats (List.replicate len z)).length=len*n:=by
  rw[za1 _ (n:=n) (fun x hx=>by rw[wX hx];exact hn),wY]
 refine⟨by simp[hl],fun j h1 h2=> ?_⟩
 obtain⟨v,hv,hr⟩:=zps hz hn len j h2
 simp only[wN]at hv
 obtain⟨hlt,rfl⟩:=wU.1 hv
 simpa using hr
theorem zsy {t:TypeId}{len:Nat}{ps:Array (Nat×Operand)}(hg:GlOk w.heap G gl)(hst:StOk w.heap G st a.tmps)(ho:o.op= .buildSlice t len ps)(hc:zan P im o=some m)(hmd:¬(mdOf im o.dst).isImp=true)
  (hs:zaa gl cl st o.dst m=some (v,us)):Good P w G st.hp (execOp a.eval o) v us:=by
 simp only[zan,ho]at hc
 split at hc
 . rename_i e hu
   simp only[wD]at hc
   obtain⟨⟨sh,z⟩,hz,hc⟩:=hc
   split at hc
   . rename_i hle
     simp only[wC]at hc
     obtain⟨ps',hps,hm⟩:=hc
     subst hm
     obtain⟨hshT,zv,hzv,hsh,hzp,hzw,hrl⟩:=zbx hz
     obtain⟨p1,p2⟩:=zl9 hg hst hps
     simp only[zaa]at hs
     split at hs
     . rename_i k hk
       split at hs
       . rename_i hnone
         simp only[wD]at hs
         obtain⟨l,hl,hs⟩:=hs
         have hzl:z.flat.length=sh.size:=zaf sh z hsh
         have hzero:∃zero:Array Value,zero=(if len*sh.size=0 then #[]else zv.cells) /\
           RepL w.heap G ((wS (len*sh.size)).map fun i=>zero[i%zero.size]!).toList (AV.flats (List.replicate len z)):=by
          by_cases h0:len*sh.size=0
          . refine⟨#[],by rw[if_pos h0],?_⟩
            have hl0:(AV.flats (List.replicate len z)).length=0:=by
             rw[za1 _ (n:=sh.size) (fun x hx=>by rw[wX hx];exact hzl),wY,h0]
            exact⟨by simp[h0,hl0],fun j h1=>by simp[h0]at h1⟩
          . exact⟨zv.cells,by rw[if_neg h0],zc6 (hrl w.heap G) hzl len⟩
         obtain⟨zero,hrun0,hrep0⟩:=hzero
         obtain⟨c',k1,k2,k3,k4,k5⟩:=zf4 (sub:=fun i=>if i<len then some sh else none) (place:=fun i=>some (i*sh.size,sh.size)) w.heap G
          (fun zs=>zs.length=len/\∀z∈zs,zap sh z=true)
          (fun zs i s x hzs hi hx=>by
            split at hi
            . rename_i hlt
              cases hi
              obtain⟨h1,z,h2,h3,pre,post,h4,h5,h6⟩:=zq6 (i:=i) hzs.2 (by have:=hzs.1;omega) hx
              exact⟨⟨by simp[hzs.1],h1⟩,z,h2,h3,pre,post,_,rfl,h4,h5,h6⟩
            . cases hi) _ _ (List.replicate len z) l _ ⟨by simp,fun x hx=>by rw[wX hx];exact hsh⟩ hrep0 p1 p2 hl
         have hlen:l.length=len:=k3.1
         have hcs:c'.size=len*sh.size:=by
          have:=k2.len
          rw[za1 _ (n:=sh.size) (fun x hx=>zaf sh x (k3.2 x hx)),hlen]at this
          simpa using this
         have hrun:(Instr.buildSlice t len (ps.map fun(q:Nat×Operand)=>(q.1,a.eval q.2))).run P w =
           .ok (.slice (some ⟨w.heap.size,0,none⟩) len len) {w with heap:=w.heap.push (.cells c' e)}:=by
          simp only[Instr.buildSlice,Sem.run_bind,zaj hu,Result.andThen_ok,za9 (zbb hshT)]
          rw[if_neg (by have h24:len*sh.size<=2^24:=hle;omega)]
          by_cases h0:len*sh.size=0
          . rw[if_pos h0]at hrun0
            subst hrun0
            simp only[h0,if_true,Sem.run_bind,Sem.run_pure,Result.andThen_ok]at k1 ⊢
            rw[k1]
            simp[newRow]
          . rw[if_neg h0]at hrun0
            subst hrun0
            simp only[h0,if_false,Sem.run_bind,Sem.run_pure,Result.andThen_ok,hzv]
            rw[k1]
            simp[newRow]
         have he:execOp a.eval o=(do pure (.value (<-Instr.buildSlice t len (ps.map fun(q:Nat×Operand)=>(q.1,a.eval q.2))))):=by
          simp only[execOp,ho]
         have hval:(execOp a.eval o).run P w= .ok (.value (.slice (some ⟨w.heap.size,0,none⟩) len len)) {w with heap:=w.heap.push (.cells c' e)}:=by
          rw[he];simp only[Sem.run_bind,hrun,Result.andThen_ok,Sem.run_pure]
         have hwf:∀x∈l,x.wf:=fun x hx=>by
          rcases k5 x hx with hx'|⟨_,_,_,v,hv⟩
          . rw[wX hx'];exact hzw
          . exact hv.wf
         split at hs
         . rename_i hpl
           simp only[wB,wG]at hs
           obtain⟨rfl,rfl⟩:=hs
           have hst':=zez (e:=e) (fz:=(0,0)) (k:=k) (c:=c') (cap:=len) hst.inv (by simpa using hnone) (Nat.le_of_eq hlen) hcs (.inl rfl)
            (fun x hx=>⟨k3.2 x hx,zhq.1 hpl x hx,hwf x hx⟩) (by simpa using za7 k2)
           exact⟨_,{w with heap:=w.heap.push (.cells c' e)},_,⟨rfl,rfl⟩,.inl hval,hst',ziu (wM _)⟩
         . simp only[wB,wG]at hs
           obtain⟨rfl,rfl⟩:=hs
           have hst':=zpf (sh:=.ar len sh) (x:=.aggR l) (vs:=c'.toList) hst.inv (k:=k) (by simpa using hnone) e
            (by simp only[zap,AV.isAgg,AV.kids,hlen,beq_self_eq_true,wK,w0];exact k3.2) ((AV.wfs_iff l).2 hwf) k2
           exact⟨_,{w with heap:=w.heap.push (.cells c' e)},_,⟨rfl,rfl⟩,.inl hval,by simpa using hst',ziu (wM _)⟩
       . cases hs
     . cases hs
   . cases hc
 . cases hc
theorem z3l {t:TypeId}{len:Nat}{ps:Array (Nat×Operand)}(hg:GlOk w.heap G gl)(hst:StOk w.heap G st a.tmps)(ho:o.op= .buildSlice t len ps)(hc:zan P im o=some m)(hmd:(mdOf im o.dst).isImp=true)
  (hs:zaa gl cl st o.dst m=some (v,us)):Good P w G st.hp (execOp a.eval o) v us:=by
 simp only[zan,ho]at hc
 split at hc
 . rename_i e hu
   simp only[wD]at hc
   obtain⟨⟨sh,z⟩,hz,hc⟩:=hc
   split at hc
   . rename_i hle
     simp only[wC]at hc
     obtain⟨ps',hps,hm⟩:=hc
     subst hm
     obtain⟨hshT,zv,hzv,hsh,hzp,hzw,hrl⟩:=zbx hz
     obtain⟨p1,p2⟩:=zl9 hg hst hps
     simp only[zaa]at hs
     ·
      ·
       simp only[wD]at hs
       obtain⟨l,hl,hs⟩:=hs
       have hzl:z.flat.length=sh.size:=zaf sh z hsh
       have hzero:∃zero:Array Value,zero=(if len*sh.size=0 then #[]else zv.cells) /\
         RepL w.heap G ((wS (len*sh.size)).map fun i=>zero[i%zero.size]!).toList (AV.flats (List.replicate len z)):=by
        by_cases h0:len*sh.size=0
        . refine⟨#[],by rw[if_pos h0],?_⟩
          have hl0:(AV.flats (List.replicate len z)).length=0:=by
           rw[za1 _ (n:=sh.size) (fun x hx=>by rw[wX hx];exact hzl),wY,h0]
          exact⟨by simp[h0,hl0],fun j h1=>by simp[h0]at h1⟩
        . exact⟨zv.cells,by rw[if_neg h0],zc6 (hrl w.heap G) hzl len⟩
       obtain⟨zero,hrun0,hrep0⟩:=hzero
       obtain⟨c',k1,k2,k3,k4,k5⟩:=zf4 (sub:=fun i=>if i<len then some sh else none) (place:=fun i=>some (i*sh.size,sh.size)) w.heap G
        (fun zs=>zs.length=len/\∀z∈zs,zap sh z=true)
        (fun zs i s x hzs hi hx=>by
          split at hi
          . rename_i hlt
            cases hi
            obtain⟨h1,z,h2,h3,pre,post,h4,h5,h6⟩:=zq6 (i:=i) hzs.2 (by have:=hzs.1;omega) hx
            exact⟨⟨by simp[hzs.1],h1⟩,z,h2,h3,pre,post,_,rfl,h4,h5,h6⟩
          . cases hi) _ _ (List.replicate len z) l _ ⟨by simp,fun x hx=>by rw[wX hx];exact hsh⟩ hrep0 p1 p2 hl
       have hlen:l.length=len:=k3.1
       have hcs:c'.size=len*sh.size:=by
        have:=k2.len
        rw[za1 _ (n:=sh.size) (fun x hx=>zaf sh x (k3.2 x hx)),hlen]at this
        simpa using this
       have hrun:(Instr.buildSlice t len (ps.map fun(q:Nat×Operand)=>(q.1,a.eval q.2))).run P w =
         .ok (.slice (some ⟨w.heap.size,0,none⟩) len len) {w with heap:=w.heap.push (.cells c' e)}:=by
        simp only[Instr.buildSlice,Sem.run_bind,zaj hu,Result.andThen_ok,za9 (zbb hshT)]
        rw[if_neg (by have h24:len*sh.size<=2^24:=hle;omega)]
        by_cases h0:len*sh.size=0
        . rw[if_pos h0]at hrun0
          subst hrun0
          simp only[h0,if_true,Sem.run_bind,Sem.run_pure,Result.andThen_ok]at k1 ⊢
          rw[k1]
          simp[newRow]
        . rw[if_neg h0]at hrun0
          subst hrun0
          simp only[h0,if_false,Sem.run_bind,Sem.run_pure,Result.andThen_ok,hzv]
          rw[k1]
          simp[newRow]
       have he:execOp a.eval o=(do pure (.value (<-Instr.buildSlice t len (ps.map fun(q:Nat×Operand)=>(q.1,a.eval q.2))))):=by
        simp only[execOp,ho]
       have hval:(execOp a.eval o).run P w= .ok (.value (.slice (some ⟨w.heap.size,0,none⟩) len len)) {w with heap:=w.heap.push (.cells c' e)}:=by
        rw[he];simp only[Sem.run_bind,hrun,Result.andThen_ok,Sem.run_pure]
       have hwf:∀x∈l,x.wf:=fun x hx=>by
        rcases k5 x hx with hx'|⟨_,_,_,v,hv⟩
        . rw[wX hx'];exact hzw
        . exact hv.wf
       split at hs
       . rename_i hpl
         simp only[wB,wG]at hs
         obtain⟨rfl,rfl⟩:=hs
         have hst':=z5x hst.inv (.cells c' e)
         refine⟨_,{w with heap:=w.heap.push (.cells c' e)},_,⟨rfl,rfl⟩,.inl hval,hst',(zae rfl).2 ?_⟩
         have hrc:RepC w.heap G c' 0 (AV.flats l):=by simpa using za7 k2
         have:=zli (H:=w.heap.push (.cells c' e)) (G:={imm:=fun b=>G.imm b\/b=w.heap.size,reg:=G.reg,yl:=G.yl}) (full:=true) (sh:=sh) (l:=l) (b:=some ⟨w.heap.size,0,none⟩) (cap:=l.length) (wM _) (fun _=>rfl)
          (fun x hx=>⟨k3.2 x hx,zhq.1 hpl x hx,hwf x hx⟩) (.inr ⟨w.heap.size,0,c',e,(0,0),rfl,.inr rfl,by simp,hrc.mono hst'.le⟩)
         rwa [hlen]at this
       . cases hs
   . cases hc
 . cases hc
theorem zux {t:TypeId}{len:Nat}{ps:Array (Nat×Operand)}(hg:GlOk w.heap G gl)(hst:StOk w.heap G st a.tmps)(ho:o.op= .buildSlice t len ps)(hc:zan P im o=some m)
  (hs:zaa gl cl st o.dst m=some (v,us)):Good P w G st.hp (execOp a.eval o) v us:=by
 by_cases h:(mdOf im o.dst).isImp=true
 . exact z3l hg hst ho hc h hs
 . exact zsy hg hst ho hc h hs
theorem zqk {t:TypeId}{l c:Operand}(hg:GlOk w.heap G gl)(hst:StOk w.heap G st a.tmps)(ho:o.op= .makeSlice t l c)(hc:zan P im o=some m)(hmd:¬(mdOf im o.dst).isImp=true)
  (hs:zaa gl cl st o.dst m=some (v,us)):Good P w G st.hp (execOp a.eval o) v us:=by
 simp only[zan,ho,hmd,wJ,if_false]at hc
 split at hc
 . rename_i e hu
   simp only[wD,wC]at hc
   obtain⟨⟨sh,z⟩,hz,i,hi,l',hl',c',hc',rfl⟩:=hc
   obtain⟨hshT,zv,hzv,hsh,hzp,hzw,hrl⟩:=zbx hz
   have hvl:=zam hg hst hl'
   have hvc:=zam hg hst hc'
   simp only[zaa]at hs
   split at hs
   . rename_i k kl ln kc cn hk hl1 hc1
     rw[hl1]at hvl
     rw[hc1]at hvc
     split at hs
     . rename_i hcond
       simp only[wH,decide_eq_true_eq]at hcond
       obtain⟨hnone,h0,h1,h2,h3⟩:=hcond
       simp only[wB,wG]at hs
       obtain⟨rfl,rfl⟩:=hs
       have hzl:z.flat.length=sh.size:=zaf sh z hsh
       have wl:IntKind.i64.wrap ln=ln:=by
        simp[IntKind.wrap,IntKind.bits,IntKind.signed,LIM]at h2 ⊢;omega
       have wc:IntKind.i64.wrap cn=cn:=by
        simp[IntKind.wrap,IntKind.bits,IntKind.signed,LIM]at h2 ⊢;omega
       have hzero:∃zero:Array Value,zero=(if cn.toNat * sh.size=0 then #[]else zv.cells) /\
         RepL w.heap G ((wS (cn.toNat * sh.size)).map fun i=>zero[i%zero.size]!).toList (AV.flats (List.replicate cn.toNat z)):=by
        by_cases h0:cn.toNat * sh.size=0
        . refine⟨#[],by rw[if_pos h0],?_⟩
          have hl0:(AV.flats (List.replicate cn.toNat z)).length=0:=by
           rw[za1 _ (n:=sh.size) (fun x hx=>by rw[wX hx];exact hzl),wY,h0]
          exact⟨by simp[h0,hl0],fun j h1=>by simp[h0]at h1⟩
        . exact⟨zv.cells,by rw[if_neg h0],zc6 (hrl w.heap G) hzl cn.toNat⟩
       obtain⟨zero,hrun0,hrep0⟩:=hzero
       have hsplit:AV.flats (List.replicate cn.toNat z)=AV.flats (List.replicate ln.toNat z)++AV.flats (List.replicate (cn.toNat-ln.toNat) z):=by
        rw[<-AV.flats_append,List.replicate_append_replicate];congr 2;omega
       have hst':=zez (sh:=sh) (e:=e) (fz:=(0,0)) (k:=k) (els:=List.replicate ln.toNat z) (c:=(wS (cn.toNat * sh.size)).map fun i=>zero[i%zero.size]!) (cap:=cn.toNat)
        hst.inv (by simpa using hnone) (by simp;omega) (by simp) (.inl rfl)
        (fun x hx=>by rw[wX hx];exact⟨hsh,hzp,hzw⟩)
        (by
          have:=za7 hrep0
          simp only[wV]at this
          exact this.part (pre:=[]) (by rw[hsplit];rfl))
       refine⟨_,{w with heap:=w.heap.push (.cells ((wS (cn.toNat * sh.size)).map fun i=>zero[i%zero.size]!) e)},_,⟨rfl,rfl⟩,.inl ?_,hst',ziu (by omega)⟩
       have hrun:(Instr.makeSlice t (.int kl ln) (.int kc cn)).run P w= .ok (.slice (some ⟨w.heap.size,0,none⟩) ln.toNat cn.toNat)
         {w with heap:=w.heap.push (.cells ((wS (cn.toNat * sh.size)).map fun i=>zero[i%zero.size]!) e)}:=by
        have hb:(i.bytes:Int)*cn<=2^48:=by
         have h4:(i.bytes:Int)*cn<=1024*2^36:=w4 (by omega) (by simpa[LIM]using h2) (by omega) (by decide)
         omega
        have hb':(i.bytes:Int)*ln<=2^48:=by
         have h4:(i.bytes:Int)*ln<=(i.bytes:Int)*cn:=w3 h1 (by omega)
         omega
        have ai:∀(kk:IntKind) (nn:Int),(Go.asInt (Value.int kk nn)).run P w=Result.ok nn w:=fun kk nn=>by simp[Go.asInt,asIntOf]
        have c1:¬cn<0:=by omega
        have c2:¬(i.bytes:Int)*cn>2^48:=by omega
        have c3:¬ln<0:=by omega
        have c4:¬ln>cn:=by omega
        simp only[Instr.makeSlice,Sem.run_bind,zaj hu,Result.andThen_ok,ai,zfb hi,wl,wc,c1,c2,c3,c4,decide_false,wL,wJ,if_false,
         run_askRoom,za9 (zbb hshT)]
        by_cases h0:cn.toNat * sh.size=0
        . rw[if_pos h0]at hrun0
          subst hrun0
          simp only[h0,if_true,Sem.run_bind,Sem.run_pure,Result.andThen_ok,newRow,run_newObj]
        . rw[if_neg h0]at hrun0
          subst hrun0
          simp only[h0,if_false,Sem.run_bind,Sem.run_pure,Result.andThen_ok,hzv,newRow,run_newObj]
       simp only[execOp,ho,zas hvl,zas hvc,Sem.run_bind,hrun,Result.andThen_ok,Sem.run_pure]
     . cases hs
   . cases hs
 . cases hc
theorem zy6 {t:TypeId}{l c:Operand}(hg:GlOk w.heap G gl)(hst:StOk w.heap G st a.tmps)(ho:o.op= .makeSlice t l c)(hc:zan P im o=some m)(hmd:(mdOf im o.dst).isImp=true)
  (hs:zaa gl cl st o.dst m=some (v,us)):Good P w G st.hp (execOp a.eval o) v us:=by
 simp only[zan,ho,hmd,if_true]at hc
 split at hc
 . rename_i e hu
   simp only[wD,wC]at hc
   obtain⟨⟨sh,z⟩,hz,i,hi,l',hl',c',hc',rfl⟩:=hc
   obtain⟨hshT,zv,hzv,hsh,hzp,hzw,hrl⟩:=zbx hz
   have hvl:=zam hg hst hl'
   have hvc:=zam hg hst hc'
   simp only[zaa]at hs
   split at hs
   . rename_i k kl ln kc ln hk hl1 hc1
     rw[hl1]at hvl
     rw[hc1]at hvc
     split at hs
     . rename_i hcond
       simp only[wH,decide_eq_true_eq]at hcond
       obtain⟨hnone,h0,h1,h2,h3⟩:=hcond
       subst h1
       have h1:ln<=ln:=Int.le_refl _
       simp only[wB,wG]at hs
       obtain⟨rfl,rfl⟩:=hs
       have hzl:z.flat.length=sh.size:=zaf sh z hsh
       have wl:IntKind.i64.wrap ln=ln:=by
        simp[IntKind.wrap,IntKind.bits,IntKind.signed,LIM]at h2 ⊢;omega
       have wc:IntKind.i64.wrap ln=ln:=by
        simp[IntKind.wrap,IntKind.bits,IntKind.signed,LIM]at h2 ⊢;omega
       have hzero:∃zero:Array Value,zero=(if ln.toNat * sh.size=0 then #[]else zv.cells) /\
         RepL w.heap G ((wS (ln.toNat * sh.size)).map fun i=>zero[i%zero.size]!).toList (AV.flats (List.replicate ln.toNat z)):=by
        by_cases h0:ln.toNat * sh.size=0
        . refine⟨#[],by rw[if_pos h0],?_⟩
          have hl0:(AV.flats (List.replicate ln.toNat z)).length=0:=by
           rw[za1 _ (n:=sh.size) (fun x hx=>by rw[wX hx];exact hzl),wY,h0]
          exact⟨by simp[h0,hl0],fun j h1=>by simp[h0]at h1⟩
        . exact⟨zv.cells,by rw[if_neg h0],zc6 (hrl w.heap G) hzl ln.toNat⟩
       obtain⟨zero,hrun0,hrep0⟩:=hzero
       have hst':Step w.heap G st.hp (w.heap.push (.cells ((wS (ln.toNat * sh.size)).map fun i=>zero[i%zero.size]!) e)) (G.with k (.blk w.heap.size (.ar ln.toNat sh))) ((k,.fix (.ar ln.toNat sh) (.agg (List.replicate ln.toNat z)))::st.hp) :=
        zit hst.inv (by simpa using hnone) _ _ _ fun le=>⟨w.heap.size,(wS (ln.toNat * sh.size)).map fun i=>zero[i%zero.size]!,e,(0,0),by simp[Gh.with],by simp,by simp[Sh.size],.inl rfl,by
         rw[zbm]
         simp only[wY,beq_self_eq_true,wK,w0]
         exact fun x hx=>by rw[wX hx];exact hsh,by
         show AV.wfp _
         rw[AV.wfp_iff]
         exact fun x hx=>by rw[wX hx];exact⟨hzp,hzw⟩,by
         have:=za7 hrep0
         simp only[wV]at this
         exact this.mono le⟩
       refine⟨_,{w with heap:=w.heap.push (.cells ((wS (ln.toNat * sh.size)).map fun i=>zero[i%zero.size]!) e)},_,⟨rfl,rfl⟩,.inl ?_,hst',ziu (by omega)⟩
       have hrun:(Instr.makeSlice t (.int kl ln) (.int kc ln)).run P w= .ok (.slice (some ⟨w.heap.size,0,none⟩) ln.toNat ln.toNat)
         {w with heap:=w.heap.push (.cells ((wS (ln.toNat * sh.size)).map fun i=>zero[i%zero.size]!) e)}:=by
        have hb:(i.bytes:Int)*ln<=2^48:=by
         have h4:(i.bytes:Int)*ln<=1024*2^36:=w4 (by omega) (by simpa[LIM]using h2) (by omega) (by decide)
         omega
        have hb':(i.bytes:Int)*ln<=2^48:=by
         have h4:(i.bytes:Int)*ln<=(i.bytes:Int)*ln:=w3 h1 (by omega)
         omega
        have ai:∀(kk:IntKind) (nn:Int),(Go.asInt (Value.int kk nn)).run P w=Result.ok nn w:=fun kk nn=>by simp[Go.asInt,asIntOf]
        have c1:¬ln<0:=by omega
        have c2:¬(i.bytes:Int)*ln>2^48:=by omega
        have c3:¬ln<0:=by omega
        have c4:¬ln>ln:=by omega
        simp only[Instr.makeSlice,Sem.run_bind,zaj hu,Result.andThen_ok,ai,zfb hi,wl,wc,c1,c2,c3,c4,decide_false,wL,wJ,if_false,
         run_askRoom,za9 (zbb hshT)]
        by_cases h0:ln.toNat * sh.size=0
        . rw[if_pos h0]at hrun0
          subst hrun0
          simp only[h0,if_true,Sem.run_bind,Sem.run_pure,Result.andThen_ok,newRow,run_newObj]
        . rw[if_neg h0]at hrun0
          subst hrun0
          simp only[h0,if_false,Sem.run_bind,Sem.run_pure,Result.andThen_ok,hzv,newRow,run_newObj]
       simp only[execOp,ho,zas hvl,zas hvc,Sem.run_bind,hrun,Result.andThen_ok,Sem.run_pure]
     . cases hs
   . cases hs
 . cases hc
theorem zsw {t:TypeId}{l c:Operand}(hg:GlOk w.heap G gl)(hst:StOk w.heap G st a.tmps)(ho:o.op= .makeSlice t l c)(hc:zan P im o=some m)
  (hs:zaa gl cl st o.dst m=some (v,us)):Good P w G st.hp (execOp a.eval o) v us:=by
 by_cases h:(mdOf im o.dst).isImp=true
 . exact zy6 hg hst ho hc h hs
 . exact zqk hg hst ho hc h hs
end Go.Ev
namespace Go.Ev
open Go
variable {im :Im} {P:Program} {w:World} {H:Heap} {G:Gh} {gl:Gl} {cl:Cl} {st:St} {a:Act} {o:Oper} {m:MOp} {v:AV} {us:Hp}
theorem ziz {hp:Hp}{k b:Nat}{sh root:Sh}{x:AV}(inv:Inv H G hp)(hk:hp.get k=some (.fix sh x))(hr:G.reg k=some (.blk b root)):root=sh:=by
 obtain⟨b',c,e,fz,hr',_⟩:=inv.obs k _ hk
 rw[hr]at hr'
 simp only[wB,Rg.blk.injEq]at hr'
 exact hr'.2
theorem ziy {hp:Hp}{k b:Nat}{sh root:Sh}{els:List AV}(inv:Inv H G hp)(hk:hp.get k=some (.grow sh els))(hr:G.reg k=some (.blk b root)) :
  ∃cap,root= .ar cap sh/\els.length<=cap:=by
 rcases inv.obs k _ hk with ⟨_,h2⟩|⟨b',cap,c,e,fz,hr',hle,_⟩
 . rw[hr]at h2;cases h2
 . rw[hr]at hr'
   simp only[wB,Rg.blk.injEq]at hr'
   exact⟨cap,hr'.2,hle⟩
theorem zsd {root:Sh}{p:List Nat}{fs:List Sh}{i o:Nat}(hs:root.sub p=some (.st fs))(ho:root.off p=some o)(hi:i<fs.length) :
  root.off (p++[i])=some (o+Sh.sizes (fs.take i)):=by
 refine zht hs ho ?_
 have:fs[i]? =some fs[i]:=wZ hi
 simp only[Sh.off,this,Option.bind_some,wE,wO]
theorem zlf {root:Sh}{p:List Nat}{n i o:Nat}{e:Sh}(hs:root.sub p=some (.ar n e))(ho:root.off p=some o)(hi:i<n) :
  root.off (p++[i])=some (o+i*e.size):=by
 refine zht hs ho ?_
 simp only[Sh.off,hi,if_true,wE,wO]
theorem zvw {cap j:Nat}{sh:Sh}{q:List Nat}{o:Nat}(ho:(Sh.ar cap sh).off (j::q)=some o):(Sh.ar cap sh).sub (j::q)=sh.sub q:=by
 simp only[Sh.off]at ho
 split at ho
 . rename_i h;simp[Sh.sub,h]
 . cases ho
theorem zt3 {t:TypeId}{fields:Array Field}{f:Nat}{fd:Field}{b off:Nat}(hu:P.underlying t=some (.struct fields))(hf:fields[f]? =some fd)
  (hsz:((P.info? fd.type).map (·.size)).any (· != 0)=true) :
  (Instr.fieldAt t (.pointer (some ⟨b,off,none⟩)) f).run P w= .ok (.pointer (some ⟨b,off+fd.offset,none⟩)) w:=by
 cases hi:P.info? fd.type with
 | none=>simp[hi]at hsz
 | some i =>
   simp[hi]at hsz
   have hr:(sizeOf fd.type).run P w= .ok i.size w:=za9 (by simp[hi])
   simp[Instr.fieldAt,zaj hu,hf,Instr.sureAddr,fieldPlace,hr,hsz,zcp]
theorem zza {t:TypeId}{x:Operand}{f:Nat}(hg:GlOk w.heap G gl)(hst:StOk w.heap G st a.tmps)(ho:o.op= .fieldAddr t x f)(hc:zan P im o=some m)
  (hs:zaa gl cl st o.dst m=some (v,us)):Good P w G st.hp (execOp a.eval o) v us:=by
 simp only[zan,ho]at hc
 split at hc
 . rename_i fields hu
   simp only[wD]at hc
   obtain⟨fd,hfd,hc⟩:=hc
   split at hc
   . rename_i hsz
     simp only[wC]at hc
     obtain⟨x',hx,rfl⟩:=hc
     have hvx:=zam hg hst hx
     have fin:∀(b off:Nat) (r:AV),a.eval x= .pointer (some ⟨b,off,none⟩)->RepT w.heap G (.pointer (some ⟨b,off+fd.offset,none⟩)) r->Good P w G st.hp (execOp a.eval o) r []:=by
      intro b off r hev hr
      exact⟨_,w,G,⟨rfl,rfl⟩,.inl (by simp only[execOp,ho,hev,Sem.run_bind,zt3 hu hfd hsz,Result.andThen_ok,Sem.run_pure]),Step.refl hst.inv,hr⟩
     simp only[zaa]at hs
     cases hv:Opd.val gl st.fr x' with
     | ptr k p =>
       rw[hv,zae rfl]at hvx
       obtain⟨b,root,off,hev,hr,hof⟩:=zhn hvx
       simp only[hv]at hs
       cases hk:st.hp.get k with
       | none=>simp[hk]at hs
       | some ob =>
         cases ob with
         | dead=>simp[hk]at hs
         | lp _ _ _=>simp[hk]at hs
         | mp _ _=>simp[hk]at hs
         | fix sh z =>
           simp only[hk]at hs
           have:=ziz hst.inv hk hr
           subst this
           split at hs
           . rename_i fs hsub
             split at hs
             . rename_i hcond
               simp only[wB,wG]at hs
               obtain⟨rfl,rfl⟩:=hs
               refine fin b off _ hev ((zae rfl).2 (.ptr k _ b root _ hr ?_))
               rw[<-hcond.2];exact zsd hsub hof hcond.1
             . cases hs
           . cases hs
         | grow sh els =>
           obtain⟨cap,rfl,_⟩:=ziy hst.inv hk hr
           cases p with
           | nil=>simp[hk]at hs
           | cons j q =>
             simp only[hk]at hs
             split at hs
             . rename_i fs hsub
               split at hs
               . rename_i hcond
                 simp only[wB,wG]at hs
                 obtain⟨rfl,rfl⟩:=hs
                 refine fin b off _ hev ((zae rfl).2 (.ptr k _ b (.ar cap sh) _ hr ?_))
                 rw[<-hcond.2]
                 exact zsd (p:=j::q) (by rw[zvw hof];exact hsub) hof hcond.1
               . cases hs
             . cases hs
     | cp sh z =>
       rw[hv,zae rfl]at hvx
       obtain⟨b,off,c,e,fz,hev,hi,hb,hrc,h1,h2,h3⟩:=zpt hvx
       simp only[hv]at hs
       cases sh with
       | st fs =>
         simp only at hs
         split at hs
         . rename_i s y hfs hky
           split at hs
           . rename_i hcond
             simp only[wB,wG]at hs
             obtain⟨rfl,rfl⟩:=hs
             simp only[zap,wH]at h1
             obtain⟨y',hy',hsy⟩:=zde h1.2 hfs
             rw[hky]at hy';cases hy'
             obtain⟨pre,post,g1,g2,_⟩:=zci h1.2 hky
             refine fin b off _ hev ((zae rfl).2 (zm5 hi hb ?_ hsy (zfx h2 h3 hky) (zdt h3 hky)))
             have:=hrc.part (by rw[AV.flat_kids h1.1];exact g1)
             rwa [g2,hcond]at this
           . cases hs
         . cases hs
       | _=>simp at hs
     | _=>simp[hv]at hs
   . cases hc
 . cases hc
theorem zlx {t e:TypeId}{n sz:Nat}{k:IntKind}{j:Int}{b off:Nat}(hu:P.underlying t=some (.array n e))(hsz:(P.info? e).map (·.size)=some sz)(h0:0<=j)(h1:j<n) :
  (Instr.indexAt t (.pointer (some ⟨b,off,none⟩)) (.int k j)).run P w= .ok (.pointer (some ⟨b,off+j.toNat * sz,none⟩)) w:=by
 simp[Instr.indexAt,zaj hu,asIntOf,Instr.sureAddr,h0,h1,za9 hsz,zcp]
theorem znf {t e:TypeId}{n cap sz:Nat}{k:IntKind}{j:Int}{b off:Nat}(hu:P.underlying t=some (.slice e))(hsz:(P.info? e).map (·.size)=some sz)(h0:0<=j)(h1:j<n) :
  (Instr.indexAt t (.slice (some ⟨b,off,none⟩) n cap) (.int k j)).run P w= .ok (.pointer (some ⟨b,off+j.toNat * sz,none⟩)) w:=by
 simp[Instr.indexAt,zaj hu,asIntOf,h0,h1,za9 hsz,zcp]
theorem zy8 {t:TypeId}{x i:Operand}(hg:GlOk w.heap G gl)(hst:StOk w.heap G st a.tmps)(ho:o.op= .indexAddr t x i)(hc:zan P im o=some m)
  (hs:zaa gl cl st o.dst m=some (v,us)):Good P w G st.hp (execOp a.eval o) v us:=by
 simp only[zan,ho,wD]at hc
 obtain⟨x',hx,i',hi,hc⟩:=hc
 have hvx:=zam hg hst hx
 have hvi:=zam hg hst hi
 split at hc
 ·
  rename_i e hu
  simp only[wC]at hc
  obtain⟨d,hd,rfl⟩:=hc
  have hsz:(P.info? e).map (·.size)=some d.size:=by simp[hd]
  simp only[zaa]at hs
  cases hv1:Opd.val gl st.fr i' with
  | int k j =>
    rw[hv1]at hvi
    have hvi:=zas hvi
    have fin:∀(b off n cap:Nat) (r:AV),a.eval x= .slice (some ⟨b,off,none⟩) n cap->0<=j->j<n->RepT w.heap G (.pointer (some ⟨b,off+j.toNat * d.size,none⟩)) r->Good P w G st.hp (execOp a.eval o) r []:=by
     intro b off n cap r hev h0 h1 hr
     exact⟨_,w,G,⟨rfl,rfl⟩,.inl (by simp only[execOp,ho,hev,hvi,Sem.run_bind,znf hu hsz h0 h1,Result.andThen_ok,Sem.run_pure]),Step.refl hst.inv,hr⟩
    cases hv:Opd.val gl st.fr x' with
    | lst full sh l =>
      rw[hv,zae rfl]at hvx
      obtain⟨b,cap,hev,hcap,_,hsh,hor⟩:=zd2 hvx
      simp only[hv,hv1]at hs
      split at hs
      . rename_i y hy
        split at hs
        . rename_i hcond
          simp only[wB,wG]at hs
          obtain⟨rfl,rfl⟩:=hs
          rcases hor with rfl|⟨kb,off,c,e',fz,rfl,himm,hb,hrc⟩
          . simp at hy
          have hm:=w1 hy
          obtain⟨pre,post,g1,g2,_⟩:=zby (fun y hy=>zaf sh y (hsh y hy).1) hy
          refine fin kb off _ cap _ hev hcond.2.1 (by exact_mod_cast hcond.2.2) ((zae rfl).2 (zm5 himm hb ?_ (hsh y hm).1 (hsh y hm).2.1 (hsh y hm).2.2))
          have:=hrc.part g1
          rwa [g2,hcond.1]at this
        . cases hs
      . cases hs
    | sl k2 p off len =>
      rw[hv,zae rfl]at hvx
      simp only[hv,hv1]at hs
      rcases zbn hvx with ⟨a0,rfl,rfl,rfl,hev,hreg⟩|⟨b,root,mm,e',o',xo,hr,hsub,hof,hle,hev,hxo⟩
      . exfalso
        cases hk:st.hp.get k2 with
        | none=>simp[hk]at hs
        | some ob =>
          cases ob with
          | dead=>simp[hk]at hs
          | lp _ _ _=>simp[hk]at hs
          | mp _ _=>simp[hk]at hs
          | fix sh z=>obtain⟨b',c,e2,fz,hr',_⟩:=hst.inv.obs k2 _ hk;rw[hreg]at hr';cases hr'
          | grow sh els =>
            simp only[hk]at hs
            split at hs
            . rename_i hcond;have:=hcond.2.2;have:=hcond.2.1;omega
            . cases hs
      . cases hk:st.hp.get k2 with
        | none=>simp[hk]at hs
        | some ob =>
          cases ob with
          | dead=>simp[hk]at hs
          | lp _ _ _=>simp[hk]at hs
          | mp _ _=>simp[hk]at hs
          | fix sh z =>
            have:=ziz hst.inv hk hr
            subst this
            simp only[hk,hsub]at hs
            split at hs
            . rename_i hcond
              simp only[wB,wG]at hs
              obtain⟨rfl,rfl⟩:=hs
              have hlt:off<mm:=by omega
              refine fin b xo len _ _ hev hcond.2.1 hcond.2.2 ((zae rfl).2 (.ptr k2 _ b root _ hr ?_))
              rw[zlf hsub hof (by omega:off+j.toNat<mm),hxo hlt,<-hcond.1,wP,wR]
            . cases hs
          | grow sh els =>
            obtain⟨cap,rfl,_⟩:=ziy hst.inv hk hr
            cases p with
            | cons _ _=>simp[hk]at hs
            | nil =>
              simp only[hk]at hs
              split at hs
              . rename_i hcond
                simp only[wB,wG]at hs
                obtain⟨rfl,rfl⟩:=hs
                simp only[Sh.sub,wB,Sh.ar.injEq]at hsub
                obtain⟨rfl,rfl⟩:=hsub
                have hlt:off<cap:=by omega
                refine fin b xo len _ _ hev hcond.2.1 hcond.2.2 ((zae rfl).2 (.ptr k2 _ b (.ar cap sh) _ hr ?_))
                have:=zlf (p:=[]) (root:=.ar cap sh) rfl hof (by omega:off+j.toNat<cap)
                rw[List.nil_append]at this
                rw[this,hxo hlt,<-hcond.1,wP,wR]
              . cases hs
    | _=>simp[hv,hv1]at hs
  | _=>simp[hv1]at hs
 ·
  rename_i n e hu
  simp only[wC]at hc
  obtain⟨d,hd,rfl⟩:=hc
  have hsz:(P.info? e).map (·.size)=some d.size:=by simp[hd]
  simp only[zaa]at hs
  cases hv1:Opd.val gl st.fr i' with
  | int k j =>
    rw[hv1]at hvi
    have hvi:=zas hvi
    have fin:∀(b off:Nat) (r:AV),a.eval x= .pointer (some ⟨b,off,none⟩)->0<=j->j<n->RepT w.heap G (.pointer (some ⟨b,off+j.toNat * d.size,none⟩)) r->Good P w G st.hp (execOp a.eval o) r []:=by
     intro b off r hev h0 h1 hr
     exact⟨_,w,G,⟨rfl,rfl⟩,.inl (by simp only[execOp,ho,hev,hvi,Sem.run_bind,zlx hu hsz h0 h1,Result.andThen_ok,Sem.run_pure]),Step.refl hst.inv,hr⟩
    cases hv:Opd.val gl st.fr x' with
    | ptr k2 p =>
      rw[hv,zae rfl]at hvx
      obtain⟨b,root,off,hev,hr,hof⟩:=zhn hvx
      simp only[hv,hv1]at hs
      cases hk:st.hp.get k2 with
      | none=>simp[hk]at hs
      | some ob =>
        cases ob with
        | dead=>simp[hk]at hs
        | lp _ _ _=>simp[hk]at hs
        | mp _ _=>simp[hk]at hs
        | fix sh z =>
          have:=ziz hst.inv hk hr
          subst this
          simp only[hk]at hs
          split at hs
          . rename_i n' e' hsub
            split at hs
            . rename_i hcond
              simp only[wB,wG]at hs
              obtain⟨rfl,rfl⟩:=hs
              refine fin b off _ hev hcond.2.2.1 hcond.2.2.2 ((zae rfl).2 (.ptr k2 _ b root _ hr ?_))
              rw[zlf hsub hof (by omega),hcond.2.1]
            . cases hs
          . cases hs
        | grow sh els =>
          obtain⟨cap,rfl,_⟩:=ziy hst.inv hk hr
          cases p with
          | nil=>simp[hk]at hs
          | cons j0 q =>
            simp only[hk]at hs
            split at hs
            . rename_i n' e' hsub
              split at hs
              . rename_i hcond
                simp only[wB,wG]at hs
                obtain⟨rfl,rfl⟩:=hs
                refine fin b off _ hev hcond.2.2.1 hcond.2.2.2 ((zae rfl).2 (.ptr k2 _ b (.ar cap sh) _ hr ?_))
                have:=zlf (p:=j0::q) (by rw[zvw hof];exact hsub) hof (by omega:j.toNat<n')
                rw[hcond.2.1]at this;exact this
              . cases hs
            . cases hs
    | cp sh z =>
      rw[hv,zae rfl]at hvx
      obtain⟨b,off,c,e',fz,hev,himm,hb,hrc,h1,h2,h3⟩:=zpt hvx
      simp only[hv,hv1]at hs
      cases sh with
      | ar n' e'' =>
        simp only at hs
        split at hs
        . rename_i y hky
          split at hs
          . rename_i hcond
            simp only[wB,wG]at hs
            obtain⟨rfl,rfl⟩:=hs
            simp only[zap,wH,beq_iff_eq,w0]at h1
            obtain⟨pre,post,g1,g2,_⟩:=zby (fun y hy=>zaf e'' y (h1.2 y hy)) hky
            refine fin b off _ hev hcond.2.2.1 hcond.2.2.2 ((zae rfl).2 (zm5 himm hb ?_ (h1.2 y (w1 hky)) (zfx h2 h3 hky) (zdt h3 hky)))
            have:=hrc.part (by rw[AV.flat_kids h1.1.1];exact g1)
            rwa [g2,hcond.2.1]at this
          . cases hs
        . cases hs
      | _=>simp at hs
    | _=>simp[hv,hv1]at hs
  | _=>simp[hv1]at hs
 . cases hc
end Go.Ev
namespace Go.Ev
open Go
variable {im :Im} {P:Program} {w:World} {H:Heap} {G:Gh} {gl:Gl} {cl:Cl} {st:St} {a:Act} {o:Oper} {m:MOp} {v:AV} {us:Hp}
theorem zcd {lo:Option Operand}{lo2:Option Opd}(hg:GlOk w.heap G gl)(hst:StOk w.heap G st a.tmps)(h:zbt lo=some lo2) :
  (lo=none/\lo2=none)\/∃x y,lo=some x/\lo2=some y/\RepT w.heap G (a.eval x) (y.val gl st.fr):=by
 cases lo with
 | none=>simp[zbt]at h;exact .inl ⟨rfl,h.symm⟩
 | some x =>
   simp only[zbt,wC]at h
   obtain⟨y,hy,rfl⟩:=h
   exact .inr ⟨x,y,rfl,rfl,zam hg hst hy⟩
theorem zb3 {k:IntKind}{n:Int}{y:Nat}{code:BoundsCode}(h0:0<=n)(h1:n<=y):(Instr.sliceBound (.int k n) y code).run P w= .ok n.toNat w:=by
 simp[Instr.sliceBound,asIntOf,h0,h1]
theorem zfq {isS:Bool}{len cap l h:Nat}{lo hi:Option Operand}{lo2 hi2:Option Opd}(hg:GlOk w.heap G gl)(hst:StOk w.heap G st a.tmps)
  (hlo:zbt lo=some lo2) (hhi:zbt hi=some hi2) (hb:bnds len (lo2.map (Opd.val gl st.fr)) (hi2.map (Opd.val gl st.fr))=some (l,h)) (hle:len<=cap) :
  (Instr.sliceBounds isS len cap (lo.map a.eval) (hi.map a.eval) none).run P w= .ok (l,h,cap) w/\l<=h/\h<=len:=by
 rcases zcd hg hst hlo with ⟨rfl,rfl⟩|⟨x,y,rfl,rfl,hr⟩
 . rcases zcd hg hst hhi with ⟨rfl,rfl⟩|⟨x',y',rfl,rfl,hr'⟩
   . simp only[bnds,wF,wB,wG]at hb
     obtain⟨rfl,rfl⟩:=hb
     exact⟨by simp[Instr.sliceBounds],by omega,by omega⟩
   . simp only[bnds,wF,wE]at hb
     cases hv:Opd.val gl st.fr y'<;>simp only[hv]at hb hr'<;>(try (cases hb;done))
     split at hb
     . rename_i hc
       simp only[wB,wG]at hb
       obtain⟨rfl,rfl⟩:=hb
       refine⟨?_,by omega,by omega⟩
       simp only[Instr.sliceBounds,wF,wE,zas hr',Sem.run_bind,Sem.run_pure,Result.andThen_ok]
       rw[zb3 hc.1 (by omega)];rfl
     . cases hb
 . rcases zcd hg hst hhi with ⟨rfl,rfl⟩|⟨x',y',rfl,rfl,hr'⟩
   . simp only[bnds,wF,wE]at hb
     cases hv:Opd.val gl st.fr y<;>simp only[hv]at hb hr<;>(try (cases hb;done))
     split at hb
     . rename_i hc
       simp only[wB,wG]at hb
       obtain⟨rfl,rfl⟩:=hb
       refine⟨?_,by omega,by omega⟩
       simp only[Instr.sliceBounds,wF,wE,zas hr,Sem.run_bind,Sem.run_pure,Result.andThen_ok]
       rw[zb3 hc.1 hc.2];rfl
     . cases hb
   . simp only[bnds,wE]at hb
     cases hv:Opd.val gl st.fr y<;>simp only[hv]at hb hr<;>(try (cases hb;done))
     cases hv':Opd.val gl st.fr y'<;>simp only[hv']at hb hr'<;>(try (cases hb;done))
     split at hb
     . rename_i hc
       simp only[wB,wG]at hb
       obtain⟨rfl,rfl⟩:=hb
       refine⟨?_,by omega,by omega⟩
       simp only[Instr.sliceBounds,wE,zas hr,zas hr',Sem.run_bind,Sem.run_pure,Result.andThen_ok]
       rw[zb3 (by omega) (by omega)]
       simp only[Result.andThen_ok]
       rw[zb3 hc.1 (by omega)];rfl
     . cases hb
theorem zt4 {isS:Bool}{len cap l h:Nat}{lo hi:Option Operand}{lo2 hi2:Option Opd}{km:IntKind}(hg:GlOk w.heap G gl)(hst:StOk w.heap G st a.tmps)
  (hlo:zbt lo=some lo2) (hhi:zbt hi=some hi2) (hb:bnds len (lo2.map (Opd.val gl st.fr)) (hi2.map (Opd.val gl st.fr))=some (l,h)) (hle:len<=cap) (hs:hi.isSome=true) :
  (Instr.sliceBounds isS len cap (lo.map a.eval) (hi.map a.eval) (some (.int km h))).run P w= .ok (l,h,h) w/\l<=h/\h<=len:=by
 rcases zcd hg hst hhi with ⟨rfl,rfl⟩|⟨x',y',rfl,rfl,hr'⟩
 . simp at hs
 rcases zcd hg hst hlo with ⟨rfl,rfl⟩|⟨x,y,rfl,rfl,hr⟩
 . simp only[bnds,wF,wE]at hb
   cases hv:Opd.val gl st.fr y'<;>simp only[hv]at hb hr'<;>(try (cases hb;done))
   split at hb
   . rename_i n hc
     simp only[wB,wG]at hb
     obtain⟨rfl,rfl⟩:=hb
     refine⟨?_,by omega,by omega⟩
     simp only[Instr.sliceBounds,wF,wE,zas hr',Sem.run_bind,Sem.run_pure,Result.andThen_ok]
     rw[zb3 (by omega) (by omega)]
     simp only[Result.andThen_ok]
     rw[zb3 hc.1 (by omega)]
     simp;omega
   . cases hb
 . simp only[bnds,wE]at hb
   cases hv:Opd.val gl st.fr y<;>simp only[hv]at hb hr<;>(try (cases hb;done))
   cases hv':Opd.val gl st.fr y'<;>simp only[hv']at hb hr'<;>(try (cases hb;done))
   split at hb
   . rename_i hc
     simp only[wB,wG]at hb
     obtain⟨rfl,rfl⟩:=hb
     refine⟨?_,by omega,by omega⟩
     simp only[Instr.sliceBounds,wE,zas hr,zas hr',Sem.run_bind,Sem.run_pure]
     rw[zb3 (by omega) (by omega)]
     simp only[Result.andThen_ok]
     rw[zb3 (by omega) (by omega)]
     simp only[Result.andThen_ok]
     rw[zb3 hc.1 (by omega)]
     simp;omega
   . cases hb
theorem zlz {isS:Bool}{len cap l h:Nat}{lo hi:Option Operand}{lo2 hi2:Option Opd}{km:IntKind}(hg:GlOk w.heap G gl)(hst:StOk w.heap G st a.tmps)
  (hlo:zbt lo=some lo2) (hhi:zbt hi=some hi2) (hb:bnds len (lo2.map (Opd.val gl st.fr)) (hi2.map (Opd.val gl st.fr))=some (l,h)) (hle:len<=cap) (hs:hi.isSome=true) :
  (Instr.sliceBounds isS len cap (lo.map a.eval) (hi.map a.eval) (some (.int km len))).run P w= .ok (l,h,len) w/\l<=h/\h<=len:=by
 rcases zcd hg hst hhi with ⟨rfl,rfl⟩|⟨x',y',rfl,rfl,hr'⟩
 . simp at hs
 rcases zcd hg hst hlo with ⟨rfl,rfl⟩|⟨x,y,rfl,rfl,hr⟩
 . simp only[bnds,wF,wE]at hb
   cases hv:Opd.val gl st.fr y'<;>simp only[hv]at hb hr'<;>(try (cases hb;done))
   split at hb
   . rename_i n hc
     simp only[wB,wG]at hb
     obtain⟨rfl,rfl⟩:=hb
     refine⟨?_,by omega,by omega⟩
     simp only[Instr.sliceBounds,wF,wE,zas hr',Sem.run_bind,Sem.run_pure,Result.andThen_ok]
     rw[zb3 (by omega) (by omega)]
     simp only[Result.andThen_ok]
     rw[zb3 hc.1 (by omega)]
     simp<;>omega
   . cases hb
 . simp only[bnds,wE]at hb
   cases hv:Opd.val gl st.fr y<;>simp only[hv]at hb hr<;>(try (cases hb;done))
   cases hv':Opd.val gl st.fr y'<;>simp only[hv']at hb hr'<;>(try (cases hb;done))
   split at hb
   . rename_i hc
     simp only[wB,wG]at hb
     obtain⟨rfl,rfl⟩:=hb
     refine⟨?_,by omega,by omega⟩
     simp only[Instr.sliceBounds,wE,zas hr,zas hr',Sem.run_bind,Sem.run_pure]
     rw[zb3 (by omega) (by omega)]
     simp only[Result.andThen_ok]
     rw[zb3 (by omega) (by omega)]
     simp only[Result.andThen_ok]
     rw[zb3 hc.1 (by omega)]
     simp<;>omega
   . cases hb
theorem zy2 {t:TypeId}{x:Operand}{lo hi mx:Option Operand}{x':Opd}{lo2 hi2:Option Opd}(hg:GlOk w.heap G gl)(hst:StOk w.heap G st a.tmps)(ho:o.op= .slice t x lo hi mx)
  (hx:zag x=some x') (hlo:zbt lo=some lo2) (hhi:zbt hi=some hi2) (hmx:mx=none) (hu:P.underlying t=some .string)
  (hs:zaa gl cl st o.dst (.slStr x' lo2 hi2)=some (v,us)):Good P w G st.hp (execOp a.eval o) v us:=by
 have hvx:=zam hg hst hx
 simp only[zaa]at hs
 split at hs
 . rename_i l hv
   rw[hv]at hvx
   simp only[wC,wG]at hs
   obtain⟨⟨b1,b2⟩,hb,rfl,rfl⟩:=hs
   obtain⟨h1,h2,h3⟩:=zfq (P:=P) (isS:=false) hg hst hlo hhi hb (wM _)
   refine⟨.string ⟨⟨(l.take b2).drop b1⟩⟩,w,G,⟨rfl,rfl⟩,.inl ?_,Step.refl hst.inv,ze0 _⟩
   have hsz:(ByteArray.mk ⟨l⟩).size=l.length:=rfl
   subst hmx
   simp only[execOp,ho,zdh hvx,Instr.sliceAt,Instr.slice,Sem.run_bind,zaj hu,Result.andThen_ok,hsz,wF,Option.isSome_none,wJ,if_false,h1,Sem.run_pure]
   congr 3
   rw[Lib.extract_eq]
   congr 2
   rw[List.drop_take]
 . cases hs
end Go.Ev
