/-
  Arguments and tables that are read as data: what the evaluator has for them. No condition.
-/
import Derived.Test.YtaloneiaejhopaaDoorEvCall2
import Derived.ProofKit
set_option linter.all false
open Bool renaming and_eq_true->wB
open List renaming getElem?_eq_getElem->wC,range->wD,getElem_range->wE,append_nil->wF,map_map->wG,length_range->wH,flatten_cons->wJ,range_succ_eq_map->wK,map_congr_left->wL,getElem_of_mem->wM,length_drop->wN,getElem_map->wO,all_eq_true->wP,drop_drop->wQ,map_cons->wR,mem_map->wS
open Option renaming ite_none_right_eq_some->wT,bind_eq_some_iff->wU,map_eq_some_iff->wV,some.injEq->wW
open Array renaming length_toList->wX,getElem?_eq_some_iff->wY
open Nat renaming div_add_mod->wZ,mul_comm->w0
namespace Go.Ev
open Go
inductive Kd where
 | bool
 | int (k:IntKind)
 | str
 | sl (e:Kd)
 | st (fs:List Kd)
 | ar (n:Nat) (e:Kd)
 deriving Inhabited
mutual
def Kd.sh :Kd->Sh
 | .bool=>.sc
 | .int _=>.sc
 | .str=>.sc
 | .sl _=>.sc
 | .st fs=>.st (Kd.shs fs)
 | .ar n e=>.ar n e.sh
def Kd.shs :List Kd->List Sh
 | []=>[]
 | k::l=>k.sh::Kd.shs l
end
def kdOf (P:Program):Nat->TypeId->Option Kd
 | 0,_=>none
 | n+1,t =>
   match P.underlying t with
   | some .bool=>some .bool
   | some (.int k)=>some (.int k)
   | some .string=>some .str
   | some (.slice e)=>(kdOf P n e).bind fun k=>if P.cellsOf e=k.sh.size/\0<k.sh.size then some (.sl k)else none
   | some (.struct fs)=>(mapO (fun f=>kdOf P n f.type) fs.toList).bind fun l =>
      if(fs.toList.zipIdx.all fun q=>q.1.offset==Sh.sizes ((Kd.shs l).take q.2)&&(((Kd.shs l)[q.2]?).map (·.size)==some (P.cellsOf q.1.type)))&&P.cellsOf t==Sh.sizes (Kd.shs l)then some (.st l)else none
   | some (.array k e)=>(kdOf P n e).bind fun q=>if P.cellsOf e=q.sh.size/\P.cellsOf t=k*q.sh.size then some (.ar k q)else none
   | _=>none
mutual
def avD {H:Type}:Kd->DataW H->AV
 | .bool,.lit (.bool b)=>.bool b
 | .int k,.lit (.int _ n)=>.int k n
 | .str,.lit (.string b)=>.str b
 | .sl e,.nil=>.lst false e.sh []
 | .sl e,.slice els _=>.lst false e.sh (els.map (avD e))
 | .st fs,.agg ps=>.agg (avDs fs ps)
 | .ar _ e,.agg ps=>.agg (ps.map (avD e))
 | _,_=>.unk
def avDs {H:Type}:List Kd->List (DataW H)->List AV
 | k::fs,d::ps=>avD k d::avDs fs ps
 | _,_=>[]
end
mutual
def HasKd :Kd->AV->Prop
 | .bool,a=>∃b,a= .bool b
 | .int k,a=>∃n,a= .int k n/\k.min<=n/\n<=k.max
 | .str,a=>∃l,a= .str l/\l.length<=Go.maxLen
 | .sl e,a=>∃l,a= .lst false e.sh l/\l.length<=Go.maxLen/\∀x∈l,HasKd e x
 | .st fs,a=>∃l,a= .agg l/\HasKds fs l
 | .ar n e,a=>∃l,a= .agg l/\l.length=n/\∀x∈l,HasKd e x
def HasKds :List Kd->List AV->Prop
 | [],l=>l=[]
 | k::fs,l=>∃a r,l=a::r/\HasKd k a/\HasKds fs r
end
mutual
theorem HasKd.ok :∀{k:Kd} {a:AV},HasKd k a->zap k.sh a=true/\a.plain=true/\a.wf
 | .bool,a,h=>by obtain⟨b,rfl⟩:=h;exact⟨rfl,rfl,trivial⟩
 | .int k,a,h=>by obtain⟨n,rfl,_⟩:=h;exact⟨rfl,rfl,trivial⟩
 | .str,a,h=>by obtain⟨l,rfl,_⟩:=h;exact⟨rfl,rfl,trivial⟩
 | .sl e,a,h=>by obtain⟨l,rfl,_⟩:=h;exact⟨rfl,rfl,trivial⟩
 | .st fs,a,h=>by
   obtain⟨l,rfl,h⟩:=h
   obtain⟨h1,h2⟩:=HasKds.ok h
   refine⟨by rw[Kd.sh,zec];exact h1,rfl,h2⟩
 | .ar n e,a,h=>by
   obtain⟨l,rfl,hn,h⟩:=h
   refine⟨?_,rfl,?_⟩
   . rw[Kd.sh,zbm,wB,beq_iff_eq,wP]
     exact⟨hn,fun x hx=>(HasKd.ok (h x hx)).1⟩
   . rw[AV.wf,AV.wfp_iff]
     exact fun x hx=>(HasKd.ok (h x hx)).2
theorem HasKds.ok :∀{fs:List Kd} {l:List AV},HasKds fs l->za5 (Kd.shs fs) l=true/\AV.wfp l
 | [],l,h=>by subst h;exact⟨rfl,trivial⟩
 | k::fs,l,h=>by
   obtain⟨a,r,rfl,h1,h2⟩:=h
   obtain⟨g1,g2⟩:=HasKds.ok h2
   obtain⟨k1,k2,k3⟩:=HasKd.ok h1
   exact⟨by simp[Kd.shs,za5,k1,g1],k2,k3,g2⟩
end
theorem znq :∀(l:List Kd),(Kd.shs l).length=l.length
 | []=>rfl
 | k::l=>by simp[Kd.shs,znq l]
def zq9 (H:Heap):Gh:={imm:=fun b=>b<H.size,reg:=fun _=>none,yl:=fun _=>none}
section read
variable {H :Type} {enc:TypeId×Value->H} {P:Program} {W:World} {sp:Nat->Bool} {held:Bool}
theorem zg8 {α β:Type}{f:α->Option β}:∀{l:List α} {r:List β},l.mapM f=some r->r.length=l.length/\∀i (h:i<l.length) (h':i<r.length),f l[i]=some r[i]
 | [],r,h=>by simp at h;subst h;exact⟨rfl,fun i h=>by simp at h⟩
 | a::l,r,h=>by
   rw[List.mapM_cons]at h
   simp only[Option.bind_eq_bind,wU,Option.pure_def,wW]at h
   obtain⟨b,hb,r',hr,rfl⟩:=h
   obtain⟨h1,h2⟩:=zg8 hr
   refine⟨by simp[h1],fun i hi hi'=> ?_⟩
   cases i with
   | zero=>exact hb
   | succ i=>exact h2 i (by simpa using hi) (by simpa using hi')
theorem zki {a:Addr}{v:Value}(h:W.cell? a=some v):a.spot=none/\∃c e fz,W.heap[a.block]? =some (.cells c e fz)/\c[a.off]? =some v:=by
 unfold World.cell? at h
 split at h
 . rename_i c e fz hb
   split at h
   . cases h
   . rename_i hs
     refine⟨by simpa using hs,c,e,fz,hb,h⟩
 . cases h
theorem z5o (a:Addr)(h:a.spot=none)(i:Nat):a.add i=⟨a.block,a.off+i,none⟩:=by
 obtain⟨b,o,s⟩:=a
 simp only at h;subst h
 exact zcp b o i
theorem z45 {base n:Nat}{a:Addr}{cs:List Value}(h:W.cells? base a n=some cs):cs.length=n/\∀i (h:i<cs.length),W.cell? (a.add i)=some cs[i]:=by
 unfold World.cells? at h
 split at h
 . obtain⟨h1,h2⟩:=zg8 h
   rw[wH]at h1
   refine⟨h1,fun i hi=> ?_⟩
   have:=h2 i (by simpa using by omega) hi
   simpa using this
 . cases h
def RepB (W:World)(cs:List Value)(a:AV):Prop:=RepL W.heap (zq9 W.heap) cs a.flat
theorem zjz {n:Nat}:∀{l:List AV} {css:List (List Value)},css.length=l.length->(∀i (h:i<css.length) (h':i<l.length),RepL W.heap (zq9 W.heap) css[i] l[i].flat)->RepL W.heap (zq9 W.heap) css.flatten (AV.flats l)
 | [],[],_,_=>⟨rfl,fun j h=>by simp at h⟩
 | a::l,cs::css,h,hr=>by
   rw[wJ,AV.flats]
   refine zdx (hr 0 (by simp) (by simp)) (zjz (n:=n) (by simpa using h) fun i hi hi'=> ?_)
   have:=hr (i+1) (by simpa using hi) (by simpa using hi')
   simpa using this
 | [],_::_,h,_=>by simp at h
 | _::_,[],h,_=>by simp at h
theorem qak {α:Type}(n:Nat):∀(k:Nat) (cs:List α),cs.length=k*n->((wD k).map fun i=>(cs.drop (i*n)).take n).flatten=cs
 | 0,cs,h=>by simp at h;subst h;rfl
 | k+1,cs,h=>by
   rw[wK,wR,wJ,wG]
   have:=qak n k (cs.drop n) (by rw[wN,h,Nat.add_mul];omega)
   have e:(wD k).map ((fun i=>(cs.drop (i*n)).take n)∘Nat.succ)=(wD k).map fun i=>((cs.drop n).drop (i*n)).take n:=by
    apply wL
    intro i _
    simp only[Function.comp,wQ]
    rw[show i.succ*n=n+i*n by rw[Nat.succ_mul];omega]
   rw[e,this]
   simp
theorem z9v {α:Type}:∀(ss:List Nat) (cs:List α),cs.length=ss.sum->((wD ss.length).map fun i=>(cs.drop (ss.take i).sum).take (ss.getD i 0)).flatten=cs
 | [],cs,h=>by simp at h;subst h;rfl
 | s::ss,cs,h=>by
   simp only[List.length_cons]
   rw[wK,wR,wJ,wG]
   have:=z9v ss (cs.drop s) (by rw[wN,h];simp)
   have e:(wD ss.length).map ((fun i=>(cs.drop ((s::ss).take i).sum).take ((s::ss).getD i 0))∘Nat.succ)=(wD ss.length).map fun i=>((cs.drop s).drop (ss.take i).sum).take (ss.getD i 0):=by
    apply wL
    intro i _
    simp[Function.comp,wQ]
   rw[e,this]
   simp
theorem zlt :∀(l:List Sh),Sh.sizes l=(l.map (·.size)).sum
 | []=>rfl
 | s::l=>by simp[Sh.sizes,zlt l]
theorem zq5 {H:Type}:∀{fs:List Kd} {ps:List (DataW H)},fs.length=ps.length->(avDs fs ps).length=fs.length/\∀i (h:i<(avDs fs ps).length) (h1:i<fs.length) (h2:i<ps.length),(avDs fs ps)[i]=avD fs[i] ps[i]
 | [],[],_=>⟨rfl,fun i h=>by simp[avDs]at h⟩
 | k::fs,d::ps,h=>by
   obtain⟨g1,g2⟩:=zq5 (fs:=fs) (ps:=ps) (by simpa using h)
   refine⟨by simp[avDs,g1],fun i h h1 h2=> ?_⟩
   cases i with
   | zero=>rfl
   | succ i =>
     have:=g2 i (by simpa[avDs]using h) (by simpa using h1) (by simpa using h2)
     simpa[avDs]using this
 | [],_::_,h=>by simp at h
 | _::_,[],h=>by simp at h
theorem zmu :∀{fs:List Kd} {l:List AV},l.length=fs.length->(∀i (h:i<l.length) (h':i<fs.length),HasKd fs[i] l[i])->HasKds fs l
 | [],[],_,_=>rfl
 | k::fs,a::l,h,hk=>⟨a,l,rfl,hk 0 (by simp) (by simp),zmu (by simpa using h) fun i hi hi'=>by
    have:=hk (i+1) (by simpa using hi) (by simpa using hi')
    simpa using this⟩
 | [],_::_,h,_=>by simp at h
 | _::_,[],h,_=>by simp at h
theorem qfi {k:IntKind}{n:Int}(h:(Lit.int k n).wf=true):k.min<=n/\n<=k.max:=by simpa[Lit.wf]using h
theorem zvr :∀(m:Nat) (t:TypeId) (kd:Kd),kdOf P m t=some kd->∀(fuel:Nat) (cs:List Value) (x:DataW H×List MemPlace),DataW.trod enc P W 0 sp held fuel t cs=some x ->
  HasKd kd (avD kd x.1)/\RepB W cs (avD kd x.1):=by
 intro m
 induction m with
 | zero=>intro t kd h;simp[kdOf]at h
 | succ m ih =>
   intro t kd hk fuel cs x hx
   cases fuel with
   | zero=>simp[DataW.trod]at hx
   | succ fuel =>
     simp only[kdOf]at hk
     split at hk
     . rename_i hu
       cases hk
       simp only[DataW.trod,hu]at hx
       split at hx<;>first|(simp at hx;done)|skip
       all_goals first|(cases hx;exact⟨⟨_,rfl⟩,(zdi rfl).2 (.bool _)⟩)|(simp_all;done)
     . rename_i k hu
       cases hk
       simp only[DataW.trod,hu]at hx
       split at hx<;>first|(simp at hx;done)|skip
       all_goals first
        | (rename_i k' n' heq;cases heq;rw[wT]at hx;obtain⟨⟨rfl,hw⟩,hx⟩:=hx;cases hx;exact⟨⟨_,rfl,qfi hw⟩,(zdi rfl).2 (.int _ _)⟩)
        | (simp_all;done)
     . rename_i hu
       cases hk
       simp only[DataW.trod,hu]at hx
       split at hx<;>first|(simp at hx;done)|skip
       all_goals first
        | (rename_i s heq;rw[wT]at hx;obtain⟨hs,hx⟩:=hx;cases hx;refine⟨⟨_,rfl,?_⟩,(zdi rfl).2 (.str _)⟩;rw[wX];exact hs)
        | (simp_all;done)
     . rename_i e hu
       simp only[wU]at hk
       obtain⟨ke,hke,hk⟩:=hk
       rw[wT]at hk
       obtain⟨⟨hce,hpos⟩,hk⟩:=hk
       cases hk
       simp only[DataW.trod,hu]at hx
       split at hx<;>first|(simp at hx;done)|skip
       all_goals (try (simp_all;done))
       . cases hx
         refine⟨⟨[],rfl,by simp,fun x hx=>by cases hx⟩,(zdi rfl).2 (.lstE _ _ _ _ fun h=>by cases h)⟩
       . rename_i e' a len cap heq
         cases heq
         rw[wT]at hx
         obtain⟨⟨_,hle,hmax⟩,hx⟩:=hx
         simp only[wU,wV]at hx
         obtain⟨elems,hel,rest,hrest,rfl⟩:=hx
         obtain⟨h1,h2⟩:=zg8 hel
         rw[wH]at h1
         have hone:∀i (hi:i<elems.length),HasKd ke (avD ke elems[i].1)/\∀j (hj:j<(avD ke elems[i].1).flat.length),∃v,W.cell? ((a.add (i*ke.sh.size)).add j)=some v/\RepS W.heap (zq9 W.heap) v (avD ke elems[i].1).flat[j]:=fun i hi=>by
          have:=h2 i (by simpa using by omega) hi
          simp only[wE,hce,wU]at this
          obtain⟨cs,hcs,ht⟩:=this
          obtain⟨g1,g2⟩:=ih e ke hke fuel cs _ ht
          refine⟨g1,fun j hj=> ?_⟩
          obtain⟨k1,k2⟩:=z45 hcs
          have hl:=g2.len
          exact⟨cs[j],k2 j (by omega),g2.get j (by omega) hj⟩
         have hall:∀x∈(elems.map (·.1)).map (avD ke),HasKd ke x:=fun x hx=>by
          simp only[wG,wS,Function.comp]at hx
          obtain⟨y,hy,rfl⟩:=hx
          obtain⟨i,hi,rfl⟩:=wM hy
          exact(hone i hi).1
         have hlen:((elems.map (·.1)).map (avD ke)).length=len:=by simp[h1]
         refine⟨⟨_,rfl,by rw[hlen];omega,hall⟩,(zdi rfl).2 ?_⟩
         simp only[avD]
         rw[<-hlen]
         refine zli (by omega) (fun h=>by cases h) (fun x hx=>(hall x hx).ok) ?_
         by_cases h0:elems=[]
         . left;simp[h0]
         . right
           have hpos':0<elems.length:=List.length_pos_iff.2 h0
           have hsz:∀i (hi:i<elems.length),(avD ke elems[i].1).flat.length=ke.sh.size:=fun i hi=>zaf _ _ (hone i hi).1.ok.1
           obtain⟨v0,hv0,_⟩:=(hone 0 hpos').2 0 (by rw[hsz 0 hpos'];exact hpos)
           have hsp:a.spot=none:=by
            cases ha:a.spot with
            | none=>rfl
            | some q =>
              exfalso
              obtain⟨b,o,s⟩:=a
              simp only at ha
              subst ha
              have ez:((⟨b,o,some q⟩:Addr).add (0*ke.sh.size)).add 0=⟨b,o,some q⟩:=by simp[Addr.add]
              rw[ez]at hv0
              have:=(zki hv0).1
              cases this
           simp only[z5o a hsp]at hone hv0
           simp only[zcp]at hone hv0
           obtain⟨_,c,et,fz,hb,_⟩:=zki hv0
           simp only at hb
           refine⟨a.block,a.off,c,et,fz,?_,(wY.1 hb).1,hb,?_⟩
           . obtain⟨b,o,s⟩:=a;simp only at hsp;subst hsp;rfl
           ·
            intro j hj
            have hflen:(AV.flats ((elems.map (·.1)).map (avD ke))).length=elems.length*ke.sh.size:=by
             rw[za1 (n:=ke.sh.size) _ (fun x hx=>zaf _ _ (hall x hx).ok.1)];simp
            rw[hflen]at hj
            have hq:j/ke.sh.size<elems.length:=by
             rw[Nat.div_lt_iff_lt_mul hpos];exact hj
            have hr:j%ke.sh.size<ke.sh.size:=Nat.mod_lt _ hpos
            obtain⟨v,hv,hrv⟩:=(hone _ hq).2 (j%ke.sh.size) (by rw[hsz _ hq];exact hr)
            obtain⟨_,c',et',fz',hb',hcv⟩:=zki hv
            simp only at hb' hcv
            rw[hb]at hb'
            cases hb'
            have hj':a.off+j=a.off+j/ke.sh.size*ke.sh.size+j%ke.sh.size:=by
             have:=wZ j ke.sh.size
             rw[w0]at this;omega
            refine⟨v,by rw[hj'];exact hcv,?_⟩
            have hq':j/ke.sh.size<((elems.map (·.1)).map (avD ke)).length:=by simpa using hq
            obtain⟨pre,post,f1,f2,_⟩:=zby (n:=ke.sh.size) (l:=(elems.map (·.1)).map (avD ke)) (i:=j/ke.sh.size) (fun x hx=>zaf _ _ (hall x hx).ok.1) (wC hq')
            have e1:((elems.map (·.1)).map (avD ke))[j/ke.sh.size]=avD ke (elems[j/ke.sh.size].1):=by simp
            rw[e1]at f1
            have e2:(AV.flats ((elems.map (·.1)).map (avD ke)))[j]? =some ((avD ke elems[j/ke.sh.size].1).flat[j%ke.sh.size]'(by rw[hsz _ hq];exact hr)):=by
             rw[f1,List.append_assoc,List.getElem?_append_right (by rw[f2];exact Nat.div_mul_le_self _ _),f2,List.getElem?_append_left (by
              have:=wZ j ke.sh.size
              rw[w0]at this
              rw[hsz _ hq];omega)]
             have:j-j/ke.sh.size*ke.sh.size=j%ke.sh.size:=by
              have:=wZ j ke.sh.size
              rw[w0]at this;omega
             rw[this,wC]
            have e3:=(List.getElem?_eq_some_iff.1 e2).2
            rw[e3]
            exact hrv
     . rename_i fs hu
       simp only[wU]at hk
       obtain⟨l,hl,hk⟩:=hk
       rw[wT,wB,wP,beq_iff_eq]at hk
       obtain⟨⟨hoff,hsize⟩,hk⟩:=hk
       cases hk
       obtain⟨l1,l2⟩:=zdm hl
       have key:∀(cs:List Value),(if cs.length=P.cellsOf t then(fs.toList.mapM fun f=>DataW.trod enc P W 0 sp held fuel f.type ((cs.drop f.offset).take (P.cellsOf f.type))).map (fun xs=>(DataW.agg (xs.map (·.1)),xs.flatMap (·.2)))else none)=some x ->
         HasKd (.st l) (avD (.st l) x.1)/\RepB W cs (avD (.st l) x.1):=by
        intro cs hx
        rw[wT,wV]at hx
        obtain⟨hcl,xs,hxs,rfl⟩:=hx
        obtain⟨x1,x2⟩:=zg8 hxs
        obtain⟨a1,a2⟩:=zq5 (fs:=l) (ps:=xs.map (·.1)) (by simp;omega)
        have hsl:=znq l
        have hone:∀i (hi:i<l.length),(HasKd l[i] (avD l[i] (xs[i]'(by omega)).1))/\RepB W ((cs.drop (Sh.sizes ((Kd.shs l).take i))).take ((Kd.shs l)[i]'(by omega)).size) (avD l[i] (xs[i]'(by omega)).1):=fun i hi=>by
         have h1:=l2 i (by omega) hi
         have h2:=x2 i (by omega) (by omega)
         have h3:=hoff (fs.toList[i]'(by omega),i) (by rw[List.mk_mem_zipIdx_iff_getElem?];simp[show i<fs.size by simpa using (by omega:i<fs.toList.length)])
         simp only[wB,beq_iff_eq]at h3
         obtain⟨h3,h4⟩:=h3
         rw[wC (by omega)]at h4
         simp only[Option.map_some,wW]at h4
         rw[h3,<-h4]at h2
         exact ih _ _ h1 fuel _ _ h2
        simp only[avD]
        refine⟨⟨_,rfl,zmu a1 fun i hi hi'=> ?_⟩,?_⟩
        . rw[a2 i hi hi' (by simp;omega)]
          simpa using (hone i hi').1
        . unfold RepB
          simp only[AV.flat]
          have hp:=z9v ((Kd.shs l).map (·.size)) cs (by rw[hcl,hsize,zlt])
          rw[<-hp]
          refine zjz (n:=0) (by simp[a1,hsl]) fun i hi hi'=> ?_
          have hil:i<l.length:=by omega
          rw[a2 i hi' hil (by simp;omega)]
          simp only[wO,wE]
          have:=(hone i hil).2
          unfold RepB at this
          rw[zlt,List.map_take]at this
          rw[List.getD_eq_getElem?_getD,List.getElem?_map,wC (by omega)]
          exact this
       simp only[DataW.trod,hu]at hx
       exact key _ hx
     . rename_i k e hu
       simp only[wU]at hk
       obtain⟨ke,hke,hk⟩:=hk
       rw[wT]at hk
       obtain⟨⟨hce,hct⟩,hk⟩:=hk
       cases hk
       have key:∀(cs:List Value),(if cs.length=P.cellsOf t then((wD k).mapM fun i=>DataW.trod enc P W 0 sp held fuel e ((cs.drop (i*P.cellsOf e)).take (P.cellsOf e))).map (fun xs=>(DataW.agg (xs.map (·.1)),xs.flatMap (·.2)))else none)=some x ->
         HasKd (.ar k ke) (avD (.ar k ke) x.1)/\RepB W cs (avD (.ar k ke) x.1):=by
        intro cs hx
        rw[wT,wV]at hx
        obtain⟨hcl,xs,hxs,rfl⟩:=hx
        obtain⟨x1,x2⟩:=zg8 hxs
        rw[wH]at x1
        have hone:∀i (hi:i<xs.length),HasKd ke (avD ke xs[i].1)/\RepB W ((cs.drop (i*ke.sh.size)).take ke.sh.size) (avD ke xs[i].1):=fun i hi=>by
         have h2:=x2 i (by simpa using by omega) hi
         simp only[wE,hce]at h2
         exact ih _ _ hke fuel _ _ h2
        simp only[avD]
        refine⟨⟨_,rfl,by simp[x1],fun y hy=> ?_⟩,?_⟩
        . simp only[wG,wS,Function.comp]at hy
          obtain⟨z,hz,rfl⟩:=hy
          obtain⟨i,hi,rfl⟩:=wM hz
          exact(hone i hi).1
        . unfold RepB
          simp only[AV.flat]
          have hp:=qak ke.sh.size k cs (by rw[hcl,hct])
          rw[<-hp]
          refine zjz (n:=0) (by simp[x1]) fun i hi hi'=> ?_
          simp only[wO,wE]
          exact(hone i (by simpa using hi')).2
       simp only[DataW.trod,hu]at hx
       exact key _ hx
     . cases hk
end read
end Go.Ev
namespace Go.Ev
open Go Go.ChangeShapes Go.RowKit
section
variable {H :Type} {enc:TypeId×Value->H} {P:Program} {W W':World} {base:Nat} {sp:Nat->Bool} {held:Bool}
theorem zlq :∀{ts:List TypeId} {vs:List Value} {ds:List (DataW H)} {ps:List MemPlace},DataW.TrodAll enc P W base sp held ts vs ds ps ->
  vs.length=ts.length/\ds.length=ts.length/\∀i (h:i<ts.length) (h1:i<vs.length) (h2:i<ds.length),∃p,DataW.Trod enc P W base sp held ts[i] vs[i] ds[i] p/\∀x∈p,x∈ps
 | [],vs,ds,ps,h=>by
   obtain⟨rfl,rfl,rfl⟩:=trodAll_nil h
   exact⟨rfl,rfl,fun i h=>by simp at h⟩
 | t::ts,vs,ds,ps,h=>by
   obtain⟨v,vs1,d,ds1,a,b,rfl,rfl,rfl,h1,h2⟩:=trodAll_cons h
   obtain⟨g1,g2,g3⟩:=zlq h2
   refine⟨by simp[g1],by simp[g2],fun i hi hi1 hi2=> ?_⟩
   cases i with
   | zero=>exact⟨a,h1,fun x hx=>by simp[hx]⟩
   | succ i =>
     obtain⟨p,k1,k2⟩:=g3 i (by simpa using hi) (by simpa using hi1) (by simpa using hi2)
     exact⟨p,by simpa using k1,fun x hx=>by simp[k2 x hx]⟩
structure Grew (W W':World):Prop where
 kept:Kept W W'
 size:W.heap.size<=W'.heap.size
 same:∀b,b<W.heap.size->W'.heap[b]? =W.heap[b]?
theorem Grew.keptBut (h:Grew W W')(may:MemPlace->Prop):W.keptBut W' may :=
 ⟨h.kept.1,h.kept.2,fun i hi=>by rw[h.same i hi];exact(World.keptBut_refl W may).2.2 i hi⟩
theorem Grew.sameAt (h:Grew W W'){p:MemPlace}(hp:p.block<W.heap.size):W.sameAt W' p:=by
 cases p with
 | cell b o=>exact World.cell?_of_block (w:=W) (h.same b hp)
 | map b=>exact h.same b hp
theorem Grew.frozen (h:Grew W W'){a:Addr}(ha:a.block<W.heap.size):W'.frozen? a=W.frozen? a:=by
 unfold World.frozen?;rw[h.same _ ha]
theorem zis (hl:laidOutB P=true)(hg:Grew W W'):∀{ts:List TypeId} {vs:List Value} {ds:List (DataW H)} {ps:List MemPlace},(ts.all fun t=>P.readableRec t&&decide (t<P.types.size))=true ->
  DataW.TrodAll enc P W 0 (fun _=>true) true ts vs ds ps->(∀p∈ps,p.block<W.heap.size)->(∀p∈ps,sp p.block=true)->DataW.TrodAll enc P W' 0 sp true ts vs ds ps
 | [],vs,ds,ps,_,h,_,_=>by
   obtain⟨rfl,rfl,rfl⟩:=trodAll_nil h
   exact rfl
 | t::ts,vs,ds,ps,hr,h,hlt,hsp=>by
   simp only[List.all_cons,wB,decide_eq_true_eq]at hr
   obtain⟨v,vs1,d,ds1,a,b,rfl,rfl,rfl,h1,h2⟩:=trodAll_cons h
   exact⟨a,b,WideElems.Trod_stays hl hr.1.1 hr.1.2 h1 (fun p hp=>hg.sameAt (hlt p (by simp[hp]))) (fun p hp=>hsp p (by simp[hp])),
    zis hl hg hr.2 h2 (fun p hp=>hlt p (by simp[hp])) (fun p hp=>hsp p (by simp[hp])),rfl⟩
theorem zr6 {f:Func}{s:ChangeSpec}{apart fresh handsOn again:Bool}{args:Array Value}{v:Value}{ds gs:List (DataW H)}{before pa pv:List MemPlace}
  (hW:DataW.Whole enc P f.params.toList s.vars apart W args.toList ds gs before)
  (hres:∀(b:Nat) (sp:Nat->Bool) (hd:Bool),DataW.TrodAll enc P W' b sp hd f.resultTypes.toList (v.resultList f.resultTypes.size) (s.fn H (ds++gs)).results [])
  (hargs:∀sp:Nat->Bool,(∀p∈before,sp p.block=true)->DataW.TrodAll enc P W' 0 sp true f.params.toList args.toList (s.fn H (ds++gs)).args pa)
  (hvars:∀sp:Nat->Bool,(∀p∈before,sp p.block=true)->DataW.TrodVars enc P W' sp s.vars (s.fn H (ds++gs)).vars pv)
  (hps:before=pa++pv) (hg:Grew W W')
  (hok:∀(j:Nat) (t:TypeId) (r:Value),f.resultTypes[j]? =some t->(v.resultList f.resultTypes.size)[j]? =some r->Value.okWide P W' .any 0 t r) :
  s.post enc P f apart fresh handsOn again W args v W':=by
 have hlt:∀p∈before,p.block<W.heap.size:=fun p hp=>hW.lt p hp
 have hold:∀p∈before,(fun b=>decide (b<W.heap.size)) p.block=true:=fun p hp=>by simpa using hlt p hp
 refine⟨ds,gs,before,[],pa,pv,hW,hres _ _ _,hargs _ hold,hvars _ hold,World.keptBut_mono (fun p hp=>⟨hp,?_⟩) (hg.keptBut (· ∈before)),fun _=> ?_⟩
 . rw[hps,List.mem_append]at hp
   exact Or.inr hp
 . obtain⟨_,_,_,_,_,hz,hn⟩:=hW
   refine⟨hok,_,_,([]++pa)++pv,⟨[]++pa,pv,trodAll_append (hargs _ (fun _ _=>rfl)) (hres _ _ _),hvars _ (fun _ _=>rfl),rfl,?_,?_⟩,?_⟩
   . intro b off hp
     have hm:MemPlace.cell b off∈before:=by rw[hps];simpa using hp
     rw[hg.frozen (show b<W.heap.size from hlt _ hm)]
     exact hz b off hm
   . intro ha
     have:=hn ha
     rw[hps]at this
     simpa using this
   . intro p hp _
     rw[hps]
     simpa using hp
end
section
variable {H :Type} {enc:TypeId×Value->H} {P:Program} {W:World}
theorem qcf {base:Nat}{m:Nat}{t:TypeId}{kd:Kd}{v:Value}{a:AV}(hk:kdOf P m t=some kd)(hv:Value.okWide P W .any base t v)(ha:HasKd kd a)(hr:RepB W v.cells.toList a):RepV W.heap (zq9 W.heap) v a:=by
 obtain⟨h1,h2,h3⟩:=ha.ok
 refine⟨zbq h1,h3,_,hr,?_⟩
 cases m with
 | zero=>simp[kdOf]at hk
 | succ m =>
   simp only[kdOf]at hk
   split at hk
   . rename_i hu
     cases hk
     obtain⟨b,rfl⟩:=ha
     simp only[Value.okWide,hu,Cell.okWide,Cell.ok]at hv
     cases v<;>simp_all[ze3,AV.isAgg,Value.cells]
   . rename_i k hu
     cases hk
     obtain⟨b,rfl,_⟩:=ha
     simp only[Value.okWide,hu,Cell.okWide,Cell.ok]at hv
     cases v<;>simp_all[ze3,AV.isAgg,Value.cells]
   . rename_i hu
     cases hk
     obtain⟨b,rfl,_⟩:=ha
     simp only[Value.okWide,hu,Cell.okWide,Cell.ok]at hv
     cases v<;>simp_all[ze3,AV.isAgg,Value.cells]
   . rename_i e hu
     simp only[wU]at hk
     obtain⟨ke,_,hk⟩:=hk
     rw[wT]at hk
     cases hk.2
     obtain⟨b,rfl,_⟩:=ha
     simp only[Value.okWide,hu,Cell.okWide,Cell.ok]at hv
     cases v<;>simp_all[ze3,AV.isAgg,Value.cells]
   . rename_i fs hu
     simp only[wU]at hk
     obtain⟨l,_,hk⟩:=hk
     rw[wT]at hk
     cases hk.2
     obtain⟨b,rfl,_⟩:=ha
     simp only[Value.okWide,hu]at hv
     obtain⟨cs,rfl,_⟩:=hv
     simp[ze3,AV.isAgg,Value.cells]
   . rename_i k e hu
     simp only[wU]at hk
     obtain⟨l,_,hk⟩:=hk
     rw[wT]at hk
     cases hk.2
     obtain⟨b,rfl,_⟩:=ha
     simp only[Value.okWide,hu]at hv
     obtain⟨cs,rfl,_⟩:=hv
     simp[ze3,AV.isAgg,Value.cells]
   . cases hk
def TabOk (Hm:Heap)(gl:Gl):Prop :=
 ∀i sh a,gl.tbl i=some (sh,a)->(zq9 Hm).imm i/\zap sh a=true/\a.plain=true/\a.wf/\∃c e fz,Hm[i]? =some (.cells c e fz)/\RepC Hm (zq9 Hm) c 0 a.flat
theorem TabOk.none {Hm:Heap}{ri:Nat->Option RInfo}:TabOk Hm ⟨fun _=>.none,ri⟩:=fun _ _ _ h=>by cases h
def zxp (Hm:Heap)(gl:Gl):Gh:={imm:=fun b=>b<Hm.size,reg:=fun _=>none,yl:=gl.ri}
theorem ztr (Hm:Heap)(gl:Gl):Le Hm (zq9 Hm) Hm (zxp Hm gl):=⟨fun _ h=>⟨h,rfl⟩,(fun _ _ h=>by cases h),(fun _ _ h=>by cases h)⟩
theorem zz4 (Hm:Heap)(gl:Gl):Inv Hm (zxp Hm gl) [] where
 obs k o h:=by cases h
 out k _:=rfl
 dist k k' b r r' h:=(h.none rfl).elim
 imm b hb:=⟨hb,fun⟨k,r,_,h⟩=>h.none rfl⟩
 lt b hb:=by obtain⟨k,r,_,h⟩:=hb;exact(h.none rfl).elim
theorem z3r {gl:Gl}{laid:List (String×DataW Unit)}(h:laidMet P laid W)
  (hgl:∀g sh a,gl.tbl g=some (sh,a)->∃x∈laid,∃m t kd,P.globalNamed x.1=some g/\(P.globals[g]?).map (·.type)=some t/\kdOf P m t=some kd/\sh=kd.sh/\a=avD kd x.2):TabOk W.heap gl:=by
 obtain⟨ps,hl,_⟩:=h
 have key:∀{laid:List (String×DataW Unit)} {ps:List MemPlace},DataW.LaidVars P W laid ps->∀x∈laid,∃g t cs fuel p,P.globalNamed x.1=some g/\(P.globals[g]?).map (·.type)=some t/\W.var? P x.1=some cs /\
   DataW.trod (fun _=>()) P W 0 (fun _=>true) false fuel t cs.toList=some (x.2,p):=by
  intro laid
  induction laid with
  | nil=>intro ps _ x hx;cases hx
  | cons y laid ih =>
    intro ps h x hx
    obtain⟨n,d⟩:=y
    obtain⟨g,t,cs,fuel,p,q,h1,h2,h3,h4,h5,_⟩:=h
    rcases List.mem_cons.1 hx with rfl|hx
    . exact⟨g,t,cs,fuel,p,h1,h2,h3,h4⟩
    . exact ih h5 x hx
 intro g sh a hga
 obtain⟨x,hx,m,t,kd,h1,h2,h3,rfl,rfl⟩:=hgl g sh a hga
 obtain⟨g',t',cs,fuel,p,k1,k2,k3,k4⟩:=key hl x hx
 rw[h1]at k1;cases k1
 rw[h2]at k2;cases k2
 obtain⟨r1,r2⟩:=zvr m t kd h3 fuel _ _ k4
 obtain⟨s1,s2,s3⟩:=r1.ok
 simp only[World.var?,h1,Option.bind_some]at k3
 split at k3
 . rename_i cs' e fz hb
   cases k3
   refine⟨(wY.1 hb).1,s1,s2,s3,cs,e,fz,hb,fun j hj=> ?_⟩
   have hlen:=r2.len
   have hlen':cs.toList.length=(avD kd x.2).flat.length:=hlen
   have hjc:j<cs.toList.length:=by omega
   refine⟨cs.toList[j],?_,r2.get j hjc hj⟩
   rw[Nat.zero_add]
   simp only[wX]at hjc
   simp[hjc]
 . cases k3
theorem zsi {gl:Gl}{tab:Nat->Option Fd}{nn f:Nat}{fn:Func}{kds:List Kd}{tb:TypeId}{s:ChangeSpec}{apart fresh handsOn again:Bool}{base:Nat}{args:Array Value}{ds gs:List (DataW H)}{before:List MemPlace}
  (hmix:P.follows .mixedOrders=true) (htab:∀f fd,tab f=some fd->FnOk P gl f fd) (hl:laidOutB P=true) (hkds:mapO (kdOf P 8) fn.params.toList=some kds)
  (hread:(fn.params.toList.all fun t=>P.readableRec t&&decide (t<P.types.size))=true) (hres:fn.resultTypes= #[tb]) (htb:P.underlying tb=some .bool) (hvars:s.vars=[])
  (hs:∀ds:List (DataW H),ds.length=fn.params.size->s.fn H ds={results:=[.lit (.bool true)],args:=ds})
  (hlaw:∀as,HasKds kds as->call gl tab nn f as []=some (.bool true,[],[])) (hgl:TabOk W.heap gl)
  (hval:∀(j:Nat) t v,fn.params[j]? =some t->args[j]? =some v->Value.okWide P W .any base t v) (hW:DataW.Whole enc P fn.params.toList s.vars apart W args.toList ds gs before) :
  Calls P f args W fun e W'=>∃v,e= .returned v/\s.post enc P fn apart fresh handsOn again W args v W':=by
 have hW':=hW
 obtain⟨p,q,hA,hV,hpq,hfz,hnd⟩:=hW
 rw[hvars]at hV
 obtain⟨rfl,rfl⟩:gs=[]/\q=[]:=by
  cases gs with
  | nil=>exact⟨rfl,hV⟩
  | cons _ _=>exact hV.elim
 obtain⟨a1,a2,a3⟩:=zlq hA
 obtain⟨k1,k2⟩:=zdm hkds
 obtain⟨d1,d2⟩:=zq5 (fs:=kds) (ps:=ds) (by omega)
 have hone:∀i (hi:i<kds.length),HasKd kds[i] (avD kds[i] (ds[i]'(by omega)))/\RepV W.heap (zq9 W.heap) (args.toList[i]'(by omega)) (avD kds[i] (ds[i]'(by omega))):=fun i hi=>by
  obtain⟨p',⟨fuel,ht⟩,_⟩:=a3 i (by omega) (by omega) (by omega)
  obtain⟨r1,r2⟩:=zvr 8 _ _ (k2 i (by omega) hi) fuel _ _ ht
  have hpi:i<fn.params.size:=by simpa using (by omega:i<fn.params.toList.length)
  have hai:i<args.size:=by simpa using (by omega:i<args.toList.length)
  exact⟨r1,qcf (k2 i (by omega) hi) (hval i _ _ (by simp[hpi]) (by simp[hai])) r1 r2⟩
 have hcall:=hlaw (avDs kds ds) (zmu d1 fun i hi hi'=>by rw[d2 i hi hi' (by omega)];exact(hone i hi').1)
 obtain⟨_,hc⟩:=(z48 (gl:=gl) hmix htab nn).call f _ _ _ _ _ (fun h=>absurd rfl h) hcall
 have hgl2:GlOk W.heap (zxp W.heap gl) gl:=⟨fun i sh a hi=>by
  obtain⟨h1,h2,h3,h4,c,e,fz,h5,h6⟩:=hgl i sh a hi
  exact⟨h1,h2,h3,h4,c,e,fz,h5,h6.mono (ztr W.heap gl)⟩,fun _ _ h=>h⟩
 have hcalls:=hc 0 W args (zxp W.heap gl) (zz4 W.heap gl) hgl2 (by rw[d1,<-wX];omega) fun i hi hi'=>by
  have hik:i<kds.length:=by omega
  rw[d2 i hi' hik (by omega)]
  have:=((hone i hik).2).mono (ztr W.heap gl)
  simpa using this
 refine(callsIn_wide.1 hcalls).mono ?_
 rintro e W' ⟨v,G',rfl,hkept,hm,-,hv⟩
 have hv:=zb7 hv
 subst hv
 have hg:Grew W W':=⟨hkept,hm.size,fun b hb=>hm.same b hb fun⟨k,r,⟨o,ho,_⟩,_⟩=>by cases ho⟩
 refine⟨_,rfl,zr6 (pa:=before) (pv:=[]) hW' (fun b sp hd=> ?_) (fun sp hsp=> ?_) (fun sp hsp=> ?_) (by simp) hg ?_⟩
 . rw[hs _ (by simp only[wF];rw[a2];simp),hres]
   exact⟨[],[],shut_bool htb _,rfl,rfl⟩
 . rw[hs _ (by simp only[wF];rw[a2];simp)]
   have hbp:before=p:=by simpa using hpq
   subst hbp
   simp only[wF]
   exact zis hl hg hread hA (fun p hp=>hW'.lt p hp) hsp
 . rw[hs _ (by simp only[wF];rw[a2];simp),hvars]
   rfl
 . exact ok_one hres rfl (okWide_bool_mk htb _)
end
end Go.Ev
