/-
  One operation of the evaluator is one of the model's: copy and append. No condition.
-/
import Derived.Test.YtaloneiaejhopaaDoorEvOpsC
set_option linter.all false
open List renaming getElem?_cons_zero->wB,getElem?_toArray->wC,getElem?_cons_succ->wD,all_eq_true->wE,mem_append->wF,getElem?_eq_getElem->wG,mem_of_mem_take->wH,toList_toArray->wJ,map_cons->wK,getElem_of_mem->wL,map_toArray->wM,length_append->wN,mem_of_mem_drop->wO,mem_of_getElem?->wP,map_nil->wQ,getElem?_eq_some_iff->wR,getElem_mem->wS,getElem_map->wT,length_pos_iff->wU,getElem_append_left->wV,isEmpty_iff->wW,length_nil->wX,getElem?_range'->wY,eraseIdx_eq_take_drop_succ->wZ,length_take->w0,nil_append->w2,append_nil->w3,getElem_append_right->w4,getElem?_zip_eq_some->w5,eq_of_mem_replicate->w6,all_cons->w7,length_replicate->w8,getElem_toArray->w9,getElem_modify->wa,mem_singleton->wb,append_assoc->wc
open Nat renaming zero_add->wd,mul_le_mul_right->we,add_mul->wg,le_refl->wh,mul_le_mul_left->wi,le_add_right->wj,sub_zero->wk,add_zero->wm
open Bool renaming and_eq_true->wo,false_eq_true->wp,not_eq_true'->wq,or_eq_true->wr,not_false->ws,true_and->wt
open Array renaming toArray_toList->wu,getElem?_toList->wv,getElem?_eq_some_iff->ww,getElem?_append_left->wx,getElem_modify->wy,toList_append->wz,forIn_toList->WA,size_append->WB,size_range->WC,size_map->WD,ext->WE
open Option renaming some.injEq->WF,map_eq_some_iff->WG,bind_eq_some_iff->WH,ite_none_right_eq_some->WI,map_some->WJ,map_none->WK,isNone_iff_eq_none->WL
open Prod renaming mk.injEq->WM
namespace Go.Ev
open Go
variable {im :Im} {P:Program} {w:World} {H:Heap} {G:Gh} {gl:Gl} {cl:Cl} {st:St} {a:Act} {o:Oper} {m:MOp} {v:AV} {us:Hp}
theorem zrh {H:Heap}{G:Gh}{hp:Hp}(inv:Inv H G hp){k kx b:Nat}{ox:OB}{root:Sh}(hkx:hp.get kx=some ox)(hox:ox≠.dead)(hk:hp.get k=none)
  (hr:G.reg kx=some (.blk b root)) (H':Heap) (ob:OB) (hsz:H'.size=H.size) (hoth:∀b',b'≠b->H'[b']? =H[b']?)
  (hob:Le H G H' (G.with k (.blk b root))->ObOk H' (G.with k (.blk b root)) k ob):Step H G hp H' (G.with k (.blk b root)) ((kx,.dead)::(k,ob)::hp):=by
 have hne:kx≠k:=fun e=>by rw[e,hk]at hkx;cases hkx
 have hreg:=inv.out k hk
 have hLb:Live G hp b:=⟨kx,root,⟨ox,hkx,hox⟩,.of hr⟩
 have hle:Le H G H' (G.with k (.blk b root)):=Gh.with_le hreg fun b' hb'=>hoth b' fun e=>(inv.imm b' hb').2 (e▸hLb)
 have hlo:∀j,za0 ((kx,.dead)::(k,ob)::hp) j->j≠kx/\(j=k\/(j≠k/\za0 hp j)):=fun j hj=>by
  rcases zba.1 hj with ⟨_,h⟩|⟨h1,h2⟩
  . exact absurd rfl h
  . rcases zba.1 h2 with ⟨h3,_⟩|⟨h3,h4⟩
    . exact⟨fun e=>h1 e.symm,.inl h3.symm⟩
    . exact⟨fun e=>h1 e.symm,.inr ⟨fun e=>h3 e.symm,h4⟩⟩
 have hregne:∀j,j≠k->(G.with k (.blk b root)).reg j=G.reg j:=fun j h=>by simp[Gh.with,h]
 have hregk:(G.with k (.blk b root)).reg k=some (.blk b root):=by simp[Gh.with]
 have hL:∀b',Live (G.with k (.blk b root)) ((kx,.dead)::(k,ob)::hp) b'->Live G hp b':=by
  rintro b' ⟨j,r,hl,hr'⟩
  obtain⟨_,rfl|⟨h2,h3⟩⟩:=hlo j hl
  . rw[Gh.with_at,if_pos rfl]at hr'
    exact hr'.1▸hLb
  . rw[Gh.with_at,if_neg h2]at hr'
    exact⟨j,r,h3,hr'⟩
 refine⟨⟨?_,?_,?_,?_,?_⟩,hle,by omega,fun b' _ hl=>hoth b' fun e=>hl (e▸hLb),fun b' hb=>.inl (hL b' hb),fun b' hb=>.inl hb⟩
 . intro j o hj
   rw[Hp.get_cons]at hj
   by_cases h:kx=j
   . subst h
     simp at hj;subst hj
     exact⟨_,by rw[hregne _ hne];exact hr⟩
   . simp only[h,if_false]at hj
     rw[Hp.get_cons]at hj
     by_cases h':k=j
     . subst h';simp at hj;subst hj;exact hob hle
     . simp only[h',if_false]at hj
       refine ObOk.mono (hp:=hp) hle (fun hl b' r hr'=>hoth b' fun e=> ?_) (fun r hr'=>by simp only[Gh.with,show ¬j=k from fun e=>h' e.symm,if_false];exact hr') hj (inv.obs j o hj)
       subst e
       exact h (inv.dist kx j b' root r (.of hr) hr' ⟨ox,hkx,hox⟩ hl)
 . intro j hj
   rw[Hp.get_cons]at hj
   by_cases h:kx=j
   . simp[h]at hj
   . simp only[h,if_false]at hj
     rw[Hp.get_cons]at hj
     by_cases h':k=j
     . simp[h']at hj
     . simp only[h',if_false]at hj
       rw[hregne j (fun e=>h' e.symm)]
       exact inv.out j hj
 . intro j j' b' r r' hj hj' hl hl'
   obtain⟨h1,h2⟩:=hlo j hl
   obtain⟨h1',h2'⟩:=hlo j' hl'
   rcases h2 with rfl|⟨h2,h3⟩<;>rcases h2' with rfl|⟨h2',h3'⟩
   . rfl
   . rw[Gh.with_at,if_pos rfl]at hj
     rw[Gh.with_at,if_neg h2']at hj'
     exact absurd (inv.dist j' kx b' r' root hj' (.of (hj.1▸hr)) h3' ⟨ox,hkx,hox⟩) h1'
   . rw[Gh.with_at,if_pos rfl]at hj'
     rw[Gh.with_at,if_neg h2]at hj
     exact absurd (inv.dist j kx b' r root hj (.of (hj'.1▸hr)) h3 ⟨ox,hkx,hox⟩) h1
   . rw[Gh.with_at,if_neg h2]at hj
     rw[Gh.with_at,if_neg h2']at hj'
     exact inv.dist j j' b' r r' hj hj' h3 h3'
 . exact fun b' hb=>⟨by have:=(inv.imm b' hb).1;omega,fun hl=>(inv.imm b' hb).2 (hL b' hl)⟩
 . exact fun b' hb=>by have:=inv.lt b' (hL b' hb);omega
theorem zsv (need:Nat):∀(r c:Nat),c<need->Builtin.growBy need r c<=need+(need+768)/4
 | 0,c,h=>by simp only[Builtin.growBy];omega
 | r+1,c,h=>by
   simp only[Builtin.growBy]
   split
   . omega
   . by_cases h1:c+(c+768)/4<need
     . exact zsv need r _ h1
     . have h2:∀r,Builtin.growBy need r (c+(c+768)/4)=c+(c+768)/4:=fun r=>by
        cases r with
        | zero=>rfl
        | succ r=>simp only[Builtin.growBy];rw[if_pos (by omega)]
       rw[h2];omega
theorem zg6 {need cap:Nat}(h:cap<need)(hl:need<=LIM):Builtin.nextslicecap need cap*1024<=2^48:=by
 have:Builtin.nextslicecap need cap<=2*LIM:=by
  unfold Builtin.nextslicecap
  split
  . omega
  . split
    . simp only[LIM]at hl ⊢;omega
    . have:=zsv need 4 cap h
      simp only[LIM]at hl ⊢;omega
 simp only[LIM]at this;omega
end Go.Ev
namespace Go.Ev
open Go
variable {im :Im} {P:Program} {w:World} {H:Heap} {G:Gh} {gl:Gl} {cl:Cl} {st:St} {a:Act} {o:Oper} {m:MOp} {v:AV} {us:Hp}
def zcs (l:List AV)(off:Nat)(ys:List AV):List AV:=l.take off++ys++l.drop (off+ys.length)
theorem zhl {c:Array Value}{sh:Sh}{l ys:List AV}{off base:Nat}{vs:List Value}{pre post:List AV}
  (hl:∀x∈l,zap sh x=true) (hy:∀x∈ys,zap sh x=true) (hle:off+ys.length<=l.length)
  (hc:RepC H G c 0 (pre++AV.flats l++post)) (hb:pre.length=base) (hv:RepL H G vs (AV.flats ys)) (hsz:base+(AV.flats l).length<=c.size) :
  RepC H G (zav c (base+off*sh.size) vs) 0 (pre++AV.flats (zcs l off ys)++post)/\base+off*sh.size+vs.length<=c.size/\(zcs l off ys).length=l.length /\
   (AV.flats (zcs l off ys)).length=(AV.flats l).length:=by
 obtain⟨f1,f2,f3⟩:=zed (n:=sh.size) (fun x hx=>zaf sh x (hl x hx)) off ys.length hle
 have hyl:(AV.flats ys).length=ys.length*sh.size:=za1 ys fun x hx=>zaf sh x (hy x hx)
 have hvl:=hv.len
 have e2:AV.flats (zcs l off ys)=AV.flats (l.take off)++AV.flats ys++AV.flats (l.drop (off+ys.length)):=by
  unfold zcs;rw[AV.flats_append,AV.flats_append]
 have hle2:base+off*sh.size+vs.length<=c.size:=by
  rw[f1]at hsz
  simp only[wN,f2,f3]at hsz
  rw[hvl,hyl];omega
 refine⟨?_,hle2,by simp[zcs];omega,by rw[e2,f1];simp[f3,hyl]⟩
 have:=zle (c:=c) (off:=base+off*sh.size) (vs:=vs) (pre:=pre++AV.flats (l.take off)) (old:=AV.flats (sub l off ys.length)) (new:=AV.flats ys) (post:=AV.flats (l.drop (off+ys.length))++post)
  hc (by rw[f1];simp[wc]) hv (by rw[hyl,f3]) (by simp[hb,f2]) hle2
 rw[e2]
 simpa[wc]using this
theorem Src.firstAll {v:Value}{sh:Sh}{l:List AV}(h:Src P H G v sh l){size:Nat}(hs:l=[]\/size=sh.size)(w':World)(hw:w'.heap=H) :
  ∃vs:Array Value,(Builtin.firstCells size l.length v).run P w'= .ok vs w'/\RepL H G vs.toList (AV.flats l):=by
 obtain⟨vs,h1,h2⟩:=h.first l.length size w' hw (wh _) hs
 exact⟨vs,h1,by simpa using h2⟩
def z1t (P:Program)(u:TypeId):Prop:=P.underlying u=some .string\/∃e,P.underlying u=some (.slice e)
theorem zg0 {t u e:TypeId}{ty:TypeId}{b:Option Addr}{cap:Nat}{vy:Value}{sh shx shy:Sh}{z:AV}{i:TypeInfo}{l ys:List AV}
  (hu:P.underlying t=some (.slice e)) (hu2:z1t P u) (hz:zej P e=some (sh,z)) (hi:P.info? e=some i) (hbytes:i.bytes<=1024)
  (hx:Src P w.heap G (.slice b l.length cap) shx l) (hxs:l=[]\/sh=shx) (hy:Src P w.heap G vy shy ys) (hys:ys=[]\/sh=shy)
  (hlt:cap<l.length+ys.length) (hlim:l.length+ys.length<=LIM) :
  ∃(newCap:Nat) (c:Array Value),(Builtin.append_ #[t,u] ty #[.slice b l.length cap,vy]).run P w =
     .ok (.slice (some ⟨w.heap.size,0,none⟩) (l.length+ys.length) newCap) {w with drawn:=w.drawn+1,heap:=w.heap.push (.cells c e)} /\
   l.length+ys.length<=newCap/\c.size=newCap*sh.size/\RepC w.heap G c 0 (AV.flats (l++ys)):=by
 obtain⟨hshT,zv,hzv,hsh,hzp,hzw,hrl⟩:=zbx hz
 have hzl:z.flat.length=sh.size:=zaf sh z hsh
 have hzs:zv.cells.size=sh.size:=by have:=(hrl w.heap G).len;rw[<-hzl,<-this];simp
 let w1:World:={w with drawn:=w.drawn+1}
 obtain⟨vx,hx1,hx2⟩:=hx.firstAll (size:=sh.size) (by rcases hxs with h|h<;>simp[h]) w1 rfl
 obtain⟨vys,hy1,hy2⟩:=hy.firstAll (size:=sh.size) (by rcases hys with h|h<;>simp[h]) w1 rfl
 let newCap:=(Question.appendCap (l.length+ys.length) cap e).cut (w.tape w.drawn (.appendCap (l.length+ys.length) cap e))
 have hcap:l.length+ys.length<=newCap:=wj _ _
 have hlx:(AV.flats l).length=l.length*sh.size:=by
  rcases hxs with h|h
  . subst h;simp[AV.flats]
  . subst h;exact za1 l fun x hx'=>zaf sh x (hx.els x hx').1
 have hly:(AV.flats ys).length=ys.length*sh.size:=by
  rcases hys with h|h
  . subst h;simp[AV.flats]
  . subst h;exact za1 ys fun x hx'=>zaf sh x (hy.els x hx').1
 have s1:vx.size=l.length*sh.size:=by rw[<-hlx,<-hx2.len];simp
 have s2:vys.size=ys.length*sh.size:=by rw[<-hly,<-hy2.len];simp
 refine⟨newCap,vx++vys++Builtin.zeroCells zv.cells (newCap-(l.length+ys.length)),?_,hcap,?_,?_⟩
 . have hq:(Question.appendCap (l.length+ys.length) cap e).forced=false:=rfl
   have c1:¬(l.length+ys.length<=cap):=by omega
   have c2:¬(((l.length+ys.length:Nat):Int)>IntKind.i64.max/\i.bytes=0):=by
    have:IntKind.i64.max=2^63-1:=rfl
    rw[this];simp only[LIM]at hlim;omega
   have c3:¬(Builtin.nextslicecap (l.length+ys.length) cap*i.bytes>2^48):=by
    have h1:=zg6 hlt hlim
    have h2:Builtin.nextslicecap (l.length+ys.length) cap*i.bytes<=Builtin.nextslicecap (l.length+ys.length) cap*1024:=wi _ hbytes
    omega
   have hyl:=hy.len w
   simp only[w1]at hx1 hy1
   rcases hu2 with hu2|⟨e',hu2⟩
   . simp only[Builtin.append_,wC,wB,wD,Sem.run_bind,zaj hu,zaj hu2,za9 (zbb hshT),Result.andThen_ok,Sem.run_pure,wp,if_false,hyl,c1,c2,c3,zfb hi,
      false_or,run_choose,hq,run_askRoom,ws,if_true]
     simp only[hx1,hy1,hzv,Result.andThen_ok,newRow,Sem.run_bind,run_newObj,Sem.run_pure]
     rfl
   . simp only[Builtin.append_,wC,wB,wD,Sem.run_bind,zaj hu,zaj hu2,za9 (zbb hshT),Result.andThen_ok,Sem.run_pure,wp,if_false,hyl,c1,c2,c3,zfb hi,
      false_or,run_choose,hq,run_askRoom,ws,if_true]
     simp only[hx1,hy1,hzv,Result.andThen_ok,newRow,Sem.run_bind,run_newObj,Sem.run_pure]
     rfl
 . simp only[WB,s1,s2,Builtin.zeroCells,WD,WC,hzs]
   rw[<-wg,<-wg];congr 1;omega
 . have h:=zdx hx2 hy2
   rw[<-AV.flats_append]at h
   intro j hj
   have hj':j<vx.size+vys.size:=by rw[s1,s2,<-hlx,<-hly];rw[AV.flats_append,wN]at hj;exact hj
   have hjl:j<(vx.toList++vys.toList).length:=by simpa using hj'
   refine⟨(vx.toList++vys.toList)[j],?_,h.get j hjl hj⟩
   rw[wd,wx (by simpa using hj')]
   rw[<-wv,wz,wG hjl]
theorem zc5 {t u e:TypeId}{ty:TypeId}{b:Option Addr}{n cap:Nat}{vy:Value}{sh shy:Sh}{ys:List AV}{w':World}
  (hu:P.underlying t=some (.slice e)) (hu2:z1t P u) (hsz:(P.info? e).map (·.size)=some sh.size)
  (hy:Src P w.heap G vy shy ys) {vys:Array Value} (hy1:(Builtin.firstCells sh.size ys.length vy).run P w= .ok vys w)
  (hle:n+ys.length<=cap) (hst:∀ad,b=some ad->(storeCells (ad.add (n*sh.size)) vys.toList).run P w= .ok () w') (hnone:b=none->w'=w) :
  (Builtin.append_ #[t,u] ty #[.slice b n cap,vy]).run P w= .ok (.slice b (n+ys.length) cap) w':=by
 have hyl:=hy.len w
 rcases hu2 with hu2|⟨e',hu2⟩
 . simp only[Builtin.append_,wC,wB,wD,Sem.run_bind,zaj hu,zaj hu2,za9 hsz,Result.andThen_ok,Sem.run_pure,wp,if_false,hyl,hle,if_true,
    ws,hy1]
   cases b with
   | none=>rw[hnone rfl];rfl
   | some ad=>simp only[hst ad rfl,Result.andThen_ok,Sem.run_pure,Sem.run_bind]
 . simp only[Builtin.append_,wC,wB,wD,Sem.run_bind,zaj hu,zaj hu2,za9 hsz,Result.andThen_ok,Sem.run_pure,wp,if_false,hyl,hle,if_true,
    ws,hy1]
   cases b with
   | none=>rw[hnone rfl];rfl
   | some ad=>simp only[hst ad rfl,Result.andThen_ok,Sem.run_pure,Sem.run_bind]
theorem zmv {c:Call}{t u e:TypeId}{x y:Operand}{x' y':Opd}{sh:Sh}{z:AV}{i:TypeInfo}(hg:GlOk w.heap G gl)(hst:StOk w.heap G st a.tmps)(ho:o.op= .call c)(hb:c.callee= .builtin .append)
  (hargs:c.args= #[x,y]) (ht:c.argTypes= #[t,u]) (hu:P.underlying t=some (.slice e)) (hu2:z1t P u) (hz:zej P e=some (sh,z)) (hi:P.info? e=some i)
  (hx:zag x=some x') (hy:zag y=some y') (hs:zaa gl cl st o.dst (.append sh i.bytes x' y')=some (v,us)):Good P w G st.hp (execOp a.eval o) v us:=by
 have hvx:=zam hg hst hx
 have hvy:=zam hg hst hy
 have hshT:=(zbx hz).1
 have run:∀{r:Value} {w':World},(Builtin.append_ #[t,u] o.type #[a.eval x,a.eval y]).run P w= .ok r w'->(execOp a.eval o).run P w= .ok (.value r) w':=by
  intro r w' hr
  simp only[execOp,ho,resolve,hb,hargs,ht,Sem.run_bind,Sem.run_pure,Result.andThen_ok,invoke,builtin,wM,wK,wQ,hr]
 change (match o.dst,z5z st.hp (Opd.val gl st.fr y')with
  | some k,some (shy,ys) =>
    if(st.hp.get k).isNone&&decide (i.bytes<=1024)&&(ys.isEmpty||Sh.beq sh shy)then
     match Opd.val gl st.fr x' with
     | .lst true shx l =>
       if(l.isEmpty||(Sh.beq sh shx&& !ys.isEmpty))&&decide (l.length+ys.length<=LIM)then
        some (AV.sl k [] 0 (l.length+ys.length),[(k,OB.grow sh (l++ys))])
       else none
     | .sl kx [] 0 n =>
       match st.hp.get kx with
       | some (.grow shx els) =>
         if Sh.beq sh shx&&decide (n=els.length/\els.length+ys.length<=LIM)then
          some (AV.sl k [] 0 (els.length+ys.length),[(kx,OB.dead),(k,OB.grow sh (els++ys))])
         else if Sh.beq sh shx&&decide (n+ys.length<=els.length)then
          some (AV.sl kx [] 0 (n+ys.length),[(k,OB.grow sh []),(kx,OB.grow sh (els.take n++ys++els.drop (n+ys.length)))])
         else none
       | _=>none
     | _=>none
    else none
  | _,_=>none)=some (v,us)at hs
 split at hs
 . rename_i k shy ys hk hsrc
   split at hs
   . rename_i hcond
     simp only[wo,decide_eq_true_eq,wr,WL,wW]at hcond
     obtain⟨⟨hnone,hbytes⟩,hys⟩:=hcond
     have hys:ys=[]\/sh=shy:=hys.imp_right Sh.beq_eq
     have hsy:=z0e (P:=P) hst.inv hvy hsrc
     have hels:∀q∈ys,zap sh q=true/\q.plain=true/\q.wf:=by
      rcases hys with h|h
      . subst h;simp
      . subst h;exact hsy.els
     obtain⟨vys,hy1,hy2⟩:=hsy.firstAll (size:=sh.size) (by rcases hys with h|h<;>simp[h]) w rfl
     split at hs
     . rename_i shx l hvx'
       rw[hvx',zae rfl]at hvx
       split at hs
       . rename_i hc2
         simp only[wo,decide_eq_true_eq,wr,wW,wq]at hc2
         simp only[WF,WM]at hs
         obtain⟨rfl,rfl⟩:=hs
         have hsx:=zgx (P:=P) hst.inv hvx (show za6 st.hp (.lst true shx l)=some (shx,l)from rfl)
         obtain⟨b,cap,hev,hcap,hfull,hsh,_⟩:=zd2 hvx
         have hcapl:=hfull rfl
         subst hcapl
         by_cases h0:ys=[]
         . have hl0:l=[]:=by
            rcases hc2.1 with h|⟨_,h⟩
            . exact h
            . simp[h0]at h
           subst h0 hl0
           have hv0:vys= #[]:=by have:=hy2.len;simp[AV.flats]at this;exact this
           subst hv0
           refine⟨.slice b 0 0,w,G.with k .nil,⟨rfl,rfl⟩,.inl (run ?_),zpe hst.inv hnone sh,(zae rfl).2 (.slNil k b (by simp[Gh.with]))⟩
           rw[hev]
           exact zc5 hu hu2 (zbb hshT) hsy hy1 (wh _) (fun ad _=>rfl) (fun _=>rfl)
         . have hpos:0<ys.length:=wU.2 h0
           have hxs:l=[]\/sh=shx:=by
            rcases hc2.1 with h|⟨h,_⟩
            . exact .inl h
            . exact .inr (Sh.beq_eq h)
           obtain⟨newCap,c',hrun,h1,h2,h3⟩:=zg0 (P:=P) (ty:=o.type) hu hu2 hz hi hbytes (hev▸hsx) hxs hsy hys (by omega) hc2.2
           have hst':=zez (sh:=sh) (e:=e) (fz:=(0,0)) (k:=k) (els:=l++ys) (c:=c') (cap:=newCap) hst.inv hnone (by simpa using h1) h2 (.inl rfl)
            (fun q hq=>by
              rcases wF.1 hq with hq|hq
              . rcases hxs with h|h
                . subst h;cases hq
                . subst h;exact hsh q hq
              . exact hels q hq) h3
           refine⟨_,{w with drawn:=w.drawn+1,heap:=w.heap.push (.cells c' e)},_,⟨rfl,rfl⟩,.inl (run ?_),hst',ziu (by simpa using h1)⟩
           rw[hev];exact hrun
       . cases hs
     . rename_i kx n hvx'
       rw[hvx',zae rfl]at hvx
       split at hs
       . rename_i shx els hkx
         split at hs
         . rename_i hc2
           simp only[wo,decide_eq_true_eq]at hc2
           simp only[WF,WM]at hs
           obtain⟨rfl,rfl⟩:=hs
           obtain⟨hbq,rfl,hlim⟩:=hc2
           have:=Sh.beq_eq hbq
           subst this
           have hcont:za6 st.hp (.sl kx [] 0 els.length)=some (sh,els):=by simp[za6,hkx,sub]
           have hsx:=zgx (P:=P) hst.inv hvx hcont
           have hnek:k≠kx:=fun e=>by rw[<-e,hnone]at hkx;cases hkx
           have grow:∀(b:Option Addr) (cap:Nat),a.eval x= .slice b els.length cap->cap<els.length+ys.length ->
             Good P w G st.hp (execOp a.eval o) (.sl k [] 0 (els.length+ys.length)) [(kx,.dead),(k,.grow sh (els++ys))]:=by
            intro b cap hev hlt
            obtain⟨newCap,c',hrun,h1,h2,h3⟩:=zg0 (P:=P) (ty:=o.type) hu hu2 hz hi hbytes (hev▸hsx) (.inr rfl) hsy hys hlt hlim
            have hst':=zez (sh:=sh) (e:=e) (fz:=(0,0)) (k:=k) (els:=els++ys) (c:=c') (cap:=newCap) hst.inv hnone (by simpa using h1) h2 (.inl rfl)
             (fun q hq=>by
               rcases wF.1 hq with hq|hq
               . exact hsx.els q hq
               . exact hels q hq) h3
            have hd:=zgv hst'.inv (k:=kx) (o:=.grow sh els) (by rw[Hp.get_cons,if_neg hnek];exact hkx)
            refine⟨_,{w with drawn:=w.drawn+1,heap:=w.heap.push (.cells c' e)},_,⟨rfl,rfl⟩,.inl (run ?_),hst'.trans hd,ziu (by simpa using h1)⟩
            rw[hev];exact hrun
           have hv0:ys=[]->vys= #[]:=fun h=>by subst h;have:=hy2.len;simp[AV.flats]at this;exact this
           rcases hst.inv.obs kx _ hkx with ⟨rfl,hreg⟩|⟨b',cap,c',e',fz,hr',hle0,hb',hsz,hf,hsh,hrc⟩
           . rcases zbn hvx with ⟨a0,_,_,_,hev,_⟩|⟨b,root,mm,e2,o',xo,hr,_⟩
             . by_cases h0:ys=[]
               . have:=hv0 h0
                 subst h0 this
                 have s1:=zpe hst.inv hnone sh
                 have s2:=zgv s1.inv (k:=kx) (o:=.grow sh []) (by rw[Hp.get_cons,if_neg hnek];exact hkx)
                 refine⟨.slice a0 0 0,w,G.with k .nil,⟨rfl,rfl⟩,.inl (run ?_),s1.trans s2,(zae rfl).2 (.slNil k a0 (by simp[Gh.with]))⟩
                 rw[hev]
                 exact zc5 hu hu2 (zbb hshT) hsy hy1 (wh _) (fun ad _=>rfl) (fun _=>rfl)
               . exact grow a0 0 hev (by have:=wU.2 h0;simp;omega)
             . rw[hreg]at hr;cases hr
           . rcases zbn hvx with ⟨a0,_,_,_,hev,hreg⟩|⟨b,root,mm,e2,o',xo,hr,hs2,hof,hle2,hev,hxo⟩
             . rw[hreg]at hr';cases hr'
             rw[hr]at hr'
             simp only[WF,Rg.blk.injEq]at hr'
             obtain⟨rfl,rfl⟩:=hr'
             simp only[Sh.sub,WF,Sh.ar.injEq]at hs2
             obtain⟨rfl,rfl⟩:=hs2
             simp only[Sh.off,WF]at hof
             subst hof
             rw[wk]at hev
             by_cases hfit:els.length+ys.length<=cap
             . have hel:(AV.flats els).length=els.length*sh.size:=za1 els fun x hx=>zaf sh x (hsh x hx).1
               have hyl:(AV.flats ys).length=ys.length*sh.size:=za1 ys fun x hx=>zaf sh x (hels x hx).1
               have s2:vys.toList.length=ys.length*sh.size:=by rw[hy2.len,hyl]
               have hbd:els.length*sh.size+vys.toList.length<=c'.size:=by
                rw[s2,hsz,<-wg];exact we _ hfit
               let w':World:={w with heap:=w.heap.setIfInBounds b (.cells (zav c' (els.length*sh.size) vys.toList) e' fz)}
               have hput:∀j,j<(AV.flats (els++ys)).length->∃q,(zav c' (els.length*sh.size) vys.toList)[j]? =some q/\RepS w.heap G q ((AV.flats (els++ys))[j]!):=by
                intro j hj
                rw[AV.flats_append]at hj ⊢
                rw[zg4 _ _ _ _ hbd]
                simp only[wN]at hj
                by_cases h:j<els.length*sh.size
                . rw[if_neg (by omega)]
                  obtain⟨q,hq,hrq⟩:=hrc j (by omega)
                  refine⟨q,by simpa using hq,?_⟩
                  rw[getElem!_pos _ j (by simp;omega),wV (by omega)]
                  exact hrq
                . have hj2:j-els.length*sh.size<vys.toList.length:=by omega
                  rw[if_pos (by omega),wG hj2]
                  refine⟨_,rfl,?_⟩
                  rw[getElem!_pos _ j (by simp;omega),w4 (by omega)]
                  have:=hy2.get (j-els.length*sh.size) hj2 (by omega)
                  simpa[hel]using this
               have hmove:=zrh hst.inv hkx (by simp) hnone hr (w.heap.setIfInBounds b (.cells (zav c' (els.length*sh.size) vys.toList) e' fz)) (.grow sh (els++ys)) (by simp)
                (fun b' hb'=>za8 hb') fun le=>.inr ⟨b,cap,_,e',fz,by simp[Gh.with],by simpa using hfit,zbs hb',by simp[zau,hsz],by
                  exact hf.put (zau ..),fun q hq=>by
                   rcases wF.1 hq with hq|hq
                   . exact hsh q hq
                   . exact hels q hq,fun j hj=>by
                     obtain⟨q,hq,hrq⟩:=hput j hj
                     rw[getElem!_pos _ j hj]at hrq
                     exact⟨q,by simpa using hq,hrq.mono le⟩⟩
               refine⟨.slice (some ⟨b,xo,none⟩) (els.length+ys.length) cap,w',_,⟨rfl,rfl⟩,.inl (run ?_),hmove,(zae rfl).2 ?_⟩
               . rw[hev]
                 refine zc5 hu hu2 (zbb hshT) hsy hy1 hfit (fun ad had=> ?_) (fun h=>by cases h)
                 cases had
                 by_cases h0:ys=[]
                 . have:=hv0 h0
                   subst this
                   have:w'=w:=by simp only[w',zav,zes hb']
                   rw[this];rfl
                 . have hpos:0<ys.length:=wU.2 h0
                   have hx0:=hxo (by omega)
                   subst hx0
                   have:=za4 (P:=P) (e:=e') (fz:=fz) vys.toList (els.length*sh.size) 0 c' w hb' (by simpa using hbd) hf.free (fun q hq=>by
                    obtain⟨j,hj,rfl⟩:=wL hq
                    exact(hy2.get j hj (by rw[<-hy2.len];exact hj)).oneCell)
                   rw[zcp]
                   simpa using this
               . by_cases h0:0<cap
                 . have hx0:=hxo h0
                   subst hx0
                   have:=RepS.sl (H:=w'.heap) (G:=G.with k (.blk b (.ar cap sh))) k [] 0 (els.length+ys.length) b (.ar cap sh) cap sh 0 (by simp[Gh.with]) rfl rfl (by omega)
                   simpa using this
                 . have:cap=0:=by omega
                   subst this
                   have e0:els.length+ys.length=0:=by omega
                   rw[e0]
                   exact .slZ k [] 0 b xo (.ar 0 sh) 0 sh (by simp[Gh.with]) rfl rfl
             . exact grow _ _ hev (by omega)
         . split at hs
           . rename_i hc2
             simp only[wo,decide_eq_true_eq]at hc2
             simp only[WF,WM]at hs
             obtain⟨rfl,rfl⟩:=hs
             obtain⟨hbq,hle⟩:=hc2
             have:=Sh.beq_eq hbq
             subst this
             have hnek:k≠kx:=fun e=>by rw[<-e,hnone]at hkx;cases hkx
             have lay:∀{H':Heap} {ob:OB},Step w.heap G st.hp H' G ((kx,ob)::st.hp)->Step w.heap G st.hp H' (G.with k .nil) ((k,.grow sh [])::(kx,ob)::st.hp):=fun s =>
              s.trans (zpe s.inv (by rw[Hp.get_cons,if_neg hnek.symm];exact hnone) sh)
             have hregk:(G.with k .nil).reg kx=G.reg kx:=by simp[Gh.with,hnek.symm]
             have hv0:ys=[]->vys= #[]:=fun h=>by subst h;have:=hy2.len;simp[AV.flats]at this;exact this
             have hsp:els.take n++ys++els.drop (n+ys.length)=zcs els n ys:=rfl
             rw[hsp]
             rcases hst.inv.obs kx _ hkx with ⟨rfl,hreg⟩|⟨b',cap,c',e',fz,hr',hle0,hb',hsz,hf,hsh,hrc⟩
             . simp only[wX]at hle
               obtain⟨rfl,h0⟩:n=0/\ys.length=0:=by omega
               have h0:=List.eq_nil_of_length_eq_zero h0
               rcases zbn hvx with ⟨a0,_,_,_,hev,_⟩|⟨b,root,mm,e2,o',xo,hr,_⟩
               . have:=hv0 h0
                 subst h0 this
                 refine⟨.slice a0 0 0,w,G.with k .nil,⟨rfl,rfl⟩,.inl (run ?_),lay (zck hst.inv hkx _ _ rfl (fun _ _=>rfl) (fun _=>by simp) fun le=>.inl ⟨by simp[zcs],hreg⟩),(zae rfl).2 (.slNil kx a0 (hregk.trans hreg))⟩
                 rw[hev]
                 exact zc5 hu hu2 (zbb hshT) hsy hy1 (wh _) (fun ad _=>rfl) (fun _=>rfl)
               . rw[hreg]at hr;cases hr
             . rcases zbn hvx with ⟨a0,_,_,_,hev,hreg⟩|⟨b,root,mm,e2,o',xo,hr,hs2,hof,hle2,hev,hxo⟩
               . rw[hreg]at hr';cases hr'
               rw[hr]at hr'
               simp only[WF,Rg.blk.injEq]at hr'
               obtain⟨rfl,rfl⟩:=hr'
               simp only[Sh.sub,WF,Sh.ar.injEq]at hs2
               obtain⟨rfl,rfl⟩:=hs2
               simp only[Sh.off,WF]at hof
               subst hof
               rw[wk]at hev
               have hel:(AV.flats els).length=els.length*sh.size:=za1 els fun x hx=>zaf sh x (hsh x hx).1
               obtain⟨g1,g2,g3,g4⟩:=zhl (c:=c') (sh:=sh) (l:=els) (ys:=ys) (off:=n) (base:=0) (vs:=vys.toList) (pre:=[]) (post:=[])
                (fun q hq=>(hsh q hq).1) (fun q hq=>(hels q hq).1) hle (by simpa using hrc) rfl hy2 (by rw[hel,hsz,wd];exact we _ hle0)
               simp only[wd,w2,w3]at g1 g2
               refine⟨.slice (some ⟨b,xo,none⟩) (n+ys.length) cap,{w with heap:=w.heap.setIfInBounds b (.cells (zav c' (n*sh.size) vys.toList) e' fz)},G.with k .nil,⟨rfl,rfl⟩,.inl (run ?_),
                lay (zck hst.inv hkx _ _ (by simp) (fun b' hb'=>za8 fun e=>hb' ⟨_,.of (e▸hr),⟨_,hkx,by simp⟩⟩) (fun _=>by simp) fun le =>
                 .inr ⟨b,cap,_,e',fz,hr,by rw[g3];exact hle0,zbs hb',by simp[zau,hsz],hf.put (zau ..),fun q hq=> ?_,g1.mono le⟩),(zae rfl).2 ?_⟩
               . rw[hev]
                 refine zc5 hu hu2 (zbb hshT) hsy hy1 (by omega) (fun ad had=> ?_) (fun h=>by cases h)
                 cases had
                 by_cases h0:ys=[]
                 . have:=hv0 h0
                   subst this
                   simp only[zav,zes hb'];rfl
                 . have hpos:0<ys.length:=wU.2 h0
                   have hx0:=hxo (by omega)
                   subst hx0
                   have:=za4 (P:=P) (e:=e') (fz:=fz) vys.toList (n*sh.size) 0 c' w hb' (by simpa using g2) hf.free (fun q hq=>by
                    obtain⟨j,hj,rfl⟩:=wL hq
                    exact(hy2.get j hj (by rw[<-hy2.len];exact hj)).oneCell)
                   rw[zcp]
                   simpa using this
               . simp only[zcs,wF]at hq
                 rcases hq with (hq|hq)|hq
                 . exact hsh q (wH hq)
                 . exact hels q hq
                 . exact hsh q (wO hq)
               . by_cases h0:0<cap
                 . have hx0:=hxo h0
                   subst hx0
                   have:=RepS.sl (H:=w.heap.setIfInBounds b (.cells (zav c' (n*sh.size) vys.toList) e' fz)) (G:=G.with k .nil) kx [] 0 (n+ys.length) b (.ar cap sh) cap sh 0 (hregk.trans hr) rfl rfl (by omega)
                   simpa using this
                 . have:cap=0:=by omega
                   subst this
                   have e0:n+ys.length=0:=by omega
                   rw[e0]
                   exact .slZ kx [] 0 b xo (.ar 0 sh) 0 sh (hregk.trans hr) rfl rfl
           . cases hs
       . cases hs
     . cases hs
   . cases hs
 . cases hs
end Go.Ev
namespace Go.Ev
open Go
variable {im :Im} {P:Program} {w:World} {H:Heap} {G:Gh} {gl:Gl} {cl:Cl} {st:St} {a:Act} {o:Oper} {m:MOp} {v:AV} {us:Hp}
theorem zpl {t u e:TypeId}{ty:TypeId}{b:Option Addr}{dLen cap n:Nat}{vy:Value}{sh shy:Sh}{ys:List AV}{w':World}
  (hu:P.underlying t=some (.slice e)) (hsz:(P.info? e).map (·.size)=some sh.size) (hy:Src P w.heap G vy shy ys) (hn:n=min ys.length dLen) {vys:Array Value}
  (hy1:(Builtin.firstCells sh.size n vy).run P w= .ok vys w) (hst:∀ad,b=some ad->(storeCells ad vys.toList).run P w= .ok () w') (hnone:b=none->w'=w) :
  (Builtin.copy_ #[t,u] ty #[.slice b dLen cap,vy]).run P w= .ok (.int .i64 n) w':=by
 have hyl:=hy.len w
 subst hn
 have hn':Nat.min ys.length dLen=min ys.length dLen:=rfl
 simp only[Builtin.copy_,wC,wB,wD,Sem.run_bind,zaj hu,za9 hsz,Result.andThen_ok,hyl,hn',hy1]
 cases b with
 | none=>rw[hnone rfl];rfl
 | some ad=>simp only[hst ad rfl,Result.andThen_ok,Sem.run_pure,Sem.run_bind];rfl
theorem z3n {c:Call}{t u e:TypeId}{x y:Operand}{x' y':Opd}{sh:Sh}(hg:GlOk w.heap G gl)(hst:StOk w.heap G st a.tmps)(ho:o.op= .call c)(hb:c.callee= .builtin .copy)
  (hargs:c.args= #[x,y]) (ht:c.argTypes= #[t,u]) (hu:P.underlying t=some (.slice e)) (hshT:shOf P SF e=some sh)
  (hx:zag x=some x') (hy:zag y=some y') (hs:zaa gl cl st o.dst (.copy sh x' y')=some (v,us)):Good P w G st.hp (execOp a.eval o) v us:=by
 have hvx:=zam hg hst hx
 have hvy:=zam hg hst hy
 have run:∀{r:Value} {w':World},(Builtin.copy_ #[t,u] o.type #[a.eval x,a.eval y]).run P w= .ok r w'->(execOp a.eval o).run P w= .ok (.value r) w':=by
  intro r w' hr
  simp only[execOp,ho,resolve,hb,hargs,ht,Sem.run_bind,Sem.run_pure,Result.andThen_ok,invoke,builtin,wM,wK,wQ,hr]
 change (match Opd.val gl st.fr x',z5z st.hp (Opd.val gl st.fr y')with
  | .sl k p off len,some (shy,ys) =>
    if ys.isEmpty||Sh.beq sh shy then
     let n:=min ys.length len
     match st.hp.get k,p with
     | some (.grow shx els),[] =>
       if Sh.beq sh shx&&decide (off+len<=els.length)then
        some (AV.int .i64 n,[(k,OB.grow shx (els.take off++ys.take n++els.drop (off+n)))])
       else none
     | some (.fix shx a),p =>
       match shx.sub p,a.nav p with
       | some (.ar _ e),some (.agg l) =>
         if Sh.beq sh e&&decide (off+len<=l.length)then
          (a.setNav p (.agg (l.take off++ys.take n++l.drop (off+n)))).map fun a'=>(.int .i64 n,[(k,.fix shx a')])
         else none
       | _,_=>none
     | _,_=>none
    else none
  | _,none=>zfl st.hp sh (Opd.val gl st.fr x') (Opd.val gl st.fr y')
  | _,_=>none)=some (v,us)at hs
 split at hs
 . rename_i k p off len shy ys hvx' hsrc
   rw[hvx',zae rfl]at hvx
   split at hs
   . rename_i hys
     simp only[wr,wW]at hys
     have hys:ys=[]\/sh=shy:=hys.imp_right Sh.beq_eq
     have hsy:=z0e (P:=P) hst.inv hvy hsrc
     have hels:∀q∈ys,zap sh q=true/\q.plain=true/\q.wf:=by
      rcases hys with h|h
      . subst h;simp
      . subst h;exact hsy.els
     obtain⟨vys,hy1,hy2⟩:=hsy.first (min ys.length len) sh.size w rfl (Nat.min_le_left _ _) (by rcases hys with h|h<;>simp[h])
     have hyt:∀q∈ys.take (min ys.length len),zap sh q=true/\q.plain=true/\q.wf:=fun q hq=>hels q (wH hq)
     have htl:(ys.take (min ys.length len)).length=min ys.length len:=by rw[w0];omega
     have hone:∀q∈vys.toList,q.oneCell'=true:=fun q hq=>by
      obtain⟨j,hj,rfl⟩:=wL hq
      exact(hy2.get j hj (by rw[<-hy2.len];exact hj)).oneCell
     have hv0:min ys.length len=0->vys= #[]:=fun h=>by rw[h]at hy2;have:=hy2.len;simp[AV.flats]at this;exact this
     simp only at hs
     split at hs
     . rename_i shx els hk
       split at hs
       . rename_i hc2
         simp only[wo,decide_eq_true_eq]at hc2
         simp only[WF,WM]at hs
         obtain⟨rfl,rfl⟩:=hs
         obtain⟨hbq,hle⟩:=hc2
         have:=Sh.beq_eq hbq
         subst this
         have hsp:els.take off++ys.take (min ys.length len)++els.drop (off+min ys.length len)=zcs els off (ys.take (min ys.length len)):=by rw[zcs,htl]
         rw[hsp]
         rcases hst.inv.obs k _ hk with ⟨rfl,hreg⟩|⟨b',cap,c',e',fz,hr',hle0,hb',hsz,hf,hsh,hrc⟩
         . simp only[wX]at hle
           obtain⟨rfl,rfl⟩:off=0/\len=0:=by omega
           rcases zbn hvx with ⟨a0,_,_,_,hev,_⟩|⟨b,root,mm,e2,o',xo,hr,_⟩
           . have:=hv0 (by simp)
             subst this
             refine⟨_,w,G,⟨rfl,rfl⟩,.inl (run ?_),?_,zat _ _⟩
             . rw[hev];exact zpl (P:=P) hu (zbb hshT) hsy rfl hy1 (fun ad _=>rfl) (fun _=>rfl)
             . refine zck hst.inv hk _ _ rfl (fun _ _=>rfl) (fun _=>by simp) fun le=>.inl ⟨by simp[zcs],hreg⟩
           . rw[hreg]at hr;cases hr
         . rcases zbn hvx with ⟨a0,_,_,_,hev,hreg⟩|⟨b,root,mm,e2,o',xo,hr,hs2,hof,hle2,hev,hxo⟩
           . rw[hreg]at hr';cases hr'
           rw[hr]at hr'
           simp only[WF,Rg.blk.injEq]at hr'
           obtain⟨rfl,rfl⟩:=hr'
           simp only[Sh.sub,WF,Sh.ar.injEq]at hs2
           obtain⟨rfl,rfl⟩:=hs2
           simp only[Sh.off,WF]at hof
           subst hof
           have hel:(AV.flats els).length=els.length*sh.size:=za1 els fun x hx=>zaf sh x (hsh x hx).1
           obtain⟨g1,g2,g3,g4⟩:=zhl (c:=c') (sh:=sh) (l:=els) (ys:=ys.take (min ys.length len)) (off:=off) (base:=0) (vs:=vys.toList) (pre:=[]) (post:=[])
            (fun q hq=>(hsh q hq).1) (fun q hq=>(hyt q hq).1) (by rw[htl];omega) (by simpa using hrc) rfl hy2 (by rw[hel,hsz,wd];exact we _ hle0)
           simp only[wd,w2,w3]at g1 g2
           refine⟨_,{w with heap:=w.heap.setIfInBounds b (.cells (zav c' (off*sh.size) vys.toList) e' fz)},G,⟨rfl,rfl⟩,.inl (run ?_),?_,zat _ _⟩
           . rw[hev]
             refine zpl (P:=P) hu (zbb hshT) hsy rfl hy1 (fun ad had=> ?_) (fun h=>by cases h)
             cases had
             by_cases h0:min ys.length len=0
             . have:=hv0 h0
               subst this
               simp only[zav,zes hb'];rfl
             . have hx0:=hxo (by omega)
               rw[wd]at hx0
               subst hx0
               have:=za4 (P:=P) (e:=e') (fz:=fz) vys.toList (off*sh.size) 0 c' w hb' (by simpa using g2) hf.free hone
               simpa using this
           . refine zck hst.inv hk _ _ (by simp) (fun b' hb'=>za8 fun e=>hb' ⟨_,.of (e▸hr),⟨_,hk,by simp⟩⟩) (fun _=>by simp) fun le =>
              .inr ⟨b,cap,_,e',fz,hr,by rw[g3];exact hle0,zbs hb',by simp[zau,hsz],hf.put (zau ..),fun q hq=> ?_,g1.mono le⟩
             simp only[zcs,wF]at hq
             rcases hq with (hq|hq)|hq
             . exact hsh q (wH hq)
             . exact hyt q hq
             . exact hsh q (wO hq)
       . cases hs
     . rename_i p ob0 p0 shx z hk
       split at hs
       . rename_i n0 e0 l hsub hnav
         split at hs
         . rename_i hc2
           simp only[wo,decide_eq_true_eq]at hc2
           simp only[WG,WM]at hs
           obtain⟨z',hz',rfl,rfl⟩:=hs
           obtain⟨hbq,hle⟩:=hc2
           have:=Sh.beq_eq hbq
           subst this
           have hsp:l.take off++ys.take (min ys.length len)++l.drop (off+min ys.length len)=zcs l off (ys.take (min ys.length len)):=by rw[zcs,htl]
           rw[hsp]at hz'
           obtain⟨b',c',e',fz,hr',hb',hsz,hf,hsh,hw,hrc⟩:=hst.inv.obs k _ hk
           rcases zbn hvx with ⟨a0,_,_,_,hev,hreg⟩|⟨b,root,mm,e2,o',xo,hr,hs2,hof,hle2,hev,hxo⟩
           . rw[hreg]at hr';cases hr'
           rw[hr]at hr'
           simp only[WF,Rg.blk.injEq]at hr'
           obtain⟨rfl,rfl⟩:=hr'
           obtain⟨y0,o2,pre,post,hn',ho',hy0,hfl,hl,hwf,hpl,hset⟩:=zd8 p root z _ hsh hsub
           rw[hnav]at hn';cases hn'
           rw[hof]at ho';cases ho'
           rw[hs2]at hsub
           simp only[WF,Sh.ar.injEq]at hsub
           obtain⟨rfl,rfl⟩:=hsub
           rw[zbm]at hy0
           simp only[wo,beq_iff_eq,wE]at hy0
           have hlw:=hwf hw
           rw[AV.wf,AV.wfp_iff]at hlw
           rw[AV.flat]at hfl
           have hcl:z.flat.length=root.size:=zaf root z hsh
           obtain⟨g1,g2,g3,g4⟩:=zhl (c:=c') (sh:=e2) (l:=l) (ys:=ys.take (min ys.length len)) (off:=off) (base:=o') (vs:=vys.toList) (pre:=pre) (post:=post)
            (fun q hq=>hy0.2 q hq) (fun q hq=>(hyt q hq).1) (by rw[htl];omega) (by rw[<-hfl];exact hrc) hl hy2 (by
              rw[hsz,<-hcl,hfl];simp[hl])
           have hnew:zap (.ar mm e2) (.agg (zcs l off (ys.take (min ys.length len))))=true:=by
            rw[zbm]
            simp only[wo,beq_iff_eq,wE,g3,hy0.1,true_and]
            intro q hq
            simp only[zcs,wF]at hq
            rcases hq with (hq|hq)|hq
            . exact hy0.2 q (wH hq)
            . exact(hyt q hq).1
            . exact hy0.2 q (wO hq)
           have hnw:(AV.agg (zcs l off (ys.take (min ys.length len)))).wf:=by
            rw[AV.wf,AV.wfp_iff]
            intro q hq
            simp only[zcs,wF]at hq
            rcases hq with (hq|hq)|hq
            . exact hlw q (wH hq)
            . exact(hyt q hq).2
            . exact hlw q (wO hq)
           obtain⟨z'',hz'',hsh',hfl',hwf',_⟩:=hset _ hnew
           rw[hz']at hz'';cases hz''
           refine⟨_,{w with heap:=w.heap.setIfInBounds b (.cells (zav c' (o'+off*e2.size) vys.toList) e' fz)},G,⟨rfl,rfl⟩,.inl (run ?_),?_,zat _ _⟩
           . rw[hev]
             refine zpl (P:=P) hu (zbb hshT) hsy rfl hy1 (fun ad had=> ?_) (fun h=>by cases h)
             cases had
             by_cases h0:min ys.length len=0
             . have:=hv0 h0
               subst this
               simp only[zav,zes hb'];rfl
             . have hx0:=hxo (by omega)
               subst hx0
               have:=za4 (P:=P) (e:=e') (fz:=fz) vys.toList (o'+off*e2.size) 0 c' w hb' (by simpa using g2) hf hone
               simpa using this
           . refine zck hst.inv hk _ _ (by simp) (fun b' hb'=>za8 fun e=>hb' ⟨_,.of (e▸hr),⟨_,hk,by simp⟩⟩) (fun _=>by simp) fun le =>
              ⟨b,_,e',fz,hr,zbs hb',by simp[zau,hsz],by unfold free at hf ⊢;rw[zau];exact hf,hsh',hwf' hw hnw,?_⟩
             rw[hfl',AV.flat]
             exact g1.mono le
         . cases hs
       . cases hs
     . cases hs
   . cases hs
 . unfold zfl at hs
   split at hs
   . rename_i k off len k' off2 len2 hvx' hvy'
     rw[hvx',zae rfl]at hvx
     rw[hvy',zae rfl]at hvy
     split at hs
     . rename_i hkk
       subst hkk
       split at hs
       . rename_i shx els hk
         rw[WI,wo,decide_eq_true_eq]at hs
         obtain⟨⟨hbq,hoff,hend,hsrc,hpos⟩,hs⟩:=hs
         cases hs
         have:=Sh.beq_eq hbq
         subst this
         rcases hst.inv.obs k _ hk with ⟨rfl,hreg⟩|⟨b',cap,c',e',fz,hr',hle0,hb',hsz,hf,hsh,hrc⟩
         . exfalso;simp only[wX]at *;omega
         rcases zbn hvx with ⟨a0,_,_,_,hev,hreg⟩|⟨b,root,mm,e2,o',xo,hr,hs2,hof,hle2,hev,hxo⟩
         . rw[hreg]at hr';cases hr'
         rw[hr]at hr'
         simp only[WF,Rg.blk.injEq]at hr'
         obtain⟨rfl,rfl⟩:=hr'
         simp only[Sh.sub,WF,Sh.ar.injEq]at hs2
         obtain⟨rfl,rfl⟩:=hs2
         simp only[Sh.off,WF]at hof
         subst hof
         have hx0:=hxo (by omega)
         rw[wd]at hx0
         subst hx0
         rcases zbn hvy with ⟨a0,_,_,_,_,hreg⟩|⟨b2,root,mm,e2,o',xo,hr2,hs2,hof,hle3,hev2,hxo2⟩
         . rw[hreg]at hr;cases hr
         rw[hr]at hr2
         simp only[WF,Rg.blk.injEq]at hr2
         obtain⟨rfl,rfl⟩:=hr2
         simp only[Sh.sub,WF,Sh.ar.injEq]at hs2
         obtain⟨rfl,rfl⟩:=hs2
         simp only[Sh.off,WF]at hof
         subst hof
         have hx0:=hxo2 (by omega)
         rw[wd]at hx0
         subst hx0
         obtain⟨f1,f2,f3⟩:=zed (n:=sh.size) (fun x hx=>zaf sh x (hsh x hx).1) off2 (min len2 len) hsrc
         have hr':=hrc.part f1
         rw[f2,wd]at hr'
         obtain⟨vs,h5,h6⟩:=zly (P:=P) (w':=w) rfl hb' hr' f3.symm
         have hel:(AV.flats els).length=els.length*sh.size:=za1 els fun x hx=>zaf sh x (hsh x hx).1
         have hvl:vs.toList.length=min len2 len*sh.size:=by rw[h6.len,f3]
         have hbd:off*sh.size+vs.toList.length<=c'.size:=by
          rw[hvl,hsz,<-wg];exact we _ (by omega)
         have hone:∀q∈vs.toList,q.oneCell'=true:=fun q hq=>by
          obtain⟨j,hj,rfl⟩:=wL hq
          exact(h6.get j hj (by rw[<-h6.len];exact hj)).oneCell
         have hst2:=za4 (P:=P) (e:=e') (fz:=fz) vs.toList (off*sh.size) 0 c' w hb' (by simpa using hbd) hf.free hone
         simp only[wm]at hst2
         have htk:(AV.flats (els.take off)).length=off*sh.size:=by
          rw[za1 (n:=sh.size) _ fun x hx=>zaf sh x (hsh x (wH hx)).1,w0,Nat.min_eq_left hoff]
         have htk2:AV.flats els=AV.flats (els.take off)++AV.flats (els.drop off):=by rw[<-AV.flats_append,List.take_append_drop]
         have hnew:RepC w.heap G (zav c' (off*sh.size) vs.toList) 0 (AV.flats (els.take off++sub els off2 (min len2 len))):=by
          intro j hj
          rw[AV.flats_append,wN,htk]at hj
          rw[wd,zg4 _ _ _ _ hbd]
          by_cases h:j<off*sh.size
          . rw[if_neg (by omega)]
            obtain⟨q,hq,hrq⟩:=hrc j (by rw[htk2,wN,htk];omega)
            refine⟨q,by simpa using hq,?_⟩
            simp only[AV.flats_append]
            rw[wV (by omega)]
            simp only[htk2]at hrq
            rw[wV (by omega)]at hrq
            exact hrq
          . rw[f3]at hj
            have hj2:j-off*sh.size<vs.toList.length:=by rw[hvl];omega
            rw[if_pos (by omega),wG hj2]
            refine⟨_,rfl,?_⟩
            simp only[AV.flats_append]
            rw[w4 (by omega)]
            have:=h6.get (j-off*sh.size) hj2 (by rw[<-h6.len];exact hj2)
            simpa[htk]using this
         have hlen2:(els.take off++sub els off2 (min len2 len)).length<=cap:=by
          rw[wN,w0,zju hsrc];omega
         refine⟨_,{w with heap:=w.heap.setIfInBounds b (.cells (zav c' (off*sh.size) vs.toList) e' fz)},G,⟨rfl,rfl⟩,.inl (run (r:=.int .i64 (min len2 len:Nat)) ?_),zck hst.inv hk _ _ (by simp) (fun b' hb'=>za8 fun e=>hb' ⟨_,.of (e▸hr),⟨_,hk,by simp⟩⟩) (fun _=>by simp) fun le =>
          .inr ⟨b,cap,_,e',fz,hr,hlen2,zbs hb',by simp[zau,hsz],hf.put (zau ..),fun q hq=> ?_,hnew.mono le⟩,zat _ _⟩
         . rw[hev,hev2]
           have hn':Nat.min len2 len=min len2 len:=rfl
           simp only[Builtin.copy_,wC,wB,wD,Sem.run_bind,zaj hu,za9 (zbb hshT),Result.andThen_ok,Builtin.lenOf,Sem.run_pure,hn',Builtin.firstCells,h5,hst2]
           rfl
         . rcases wF.1 hq with hq|hq
           . exact hsh q (wH hq)
           . exact hsh q (zul hq)
       . cases hs
     . cases hs
   . cases hs
 . cases hs
end Go.Ev
namespace Go.Ev
open Go
variable {im :Im} {P:Program} {w:World} {H:Heap} {G:Gh} {gl:Gl} {cl:Cl} {st:St} {a:Act} {o:Oper} {m:MOp} {v:AV} {us:Hp}
theorem zpm {α β:Type}(f:α->β->Sem (ForInStep β))(s0 s1:β):∀(l:List α) (n:Nat) (res:Bool),
  (∀(i:Nat) (x:α),l[i]? =some x->i<n->(f x s0).run P w= .ok (.yield s0) w) ->
  (n=l.length/\res=true\/res=false/\∃x,l[n]? =some x/\(f x s0).run P w= .ok (.done s1) w) ->
  (forIn l s0 f).run P w= .ok (if res then s0 else s1) w
 | [],n,res,_,h=>by
   rcases h with ⟨_,rfl⟩|⟨_,x,hx,_⟩
   . rfl
   . simp at hx
 | x::l,n,res,h1,h2=>by
   simp only[List.forIn_cons,Sem.run_bind]
   cases n with
   | zero =>
     rcases h2 with ⟨h,_⟩|⟨rfl,y,hy,hr⟩
     . simp at h
     . simp only[wB,WF]at hy
       subst hy
       rw[hr];rfl
   | succ n =>
     rw[h1 0 x rfl (by omega)]
     simp only[Result.andThen_ok]
     exact zpm f s0 s1 l n res (fun i y hy hi=>h1 (i+1) y (by simpa using hy) (by omega)) (by simpa using h2)
theorem zor :∀{fs:List Ek} {l m:List AV} {r:Bool},zm1 fs l m=some r->l.length=fs.length/\m.length=fs.length\/r=false->∃n,
  (∀(i:Nat) (s:Ek) (x y:AV),i<n->fs[i]? =some s->l[i]? =some x->m[i]? =some y->eqAV s x y=some true) /\
  (n=fs.length/\r=true\/r=false/\∃s x y,fs[n]? =some s/\l[n]? =some x/\m[n]? =some y/\eqAV s x y=some false)
 | [],[],[],r,h,_=>by simp only[zm1,WF]at h;exact⟨0,fun i _ _ _ hi=>by omega,.inl ⟨rfl,h.symm⟩⟩
 | s::fs,x::l,y::m,r,h,hl=>by
   simp only[zm1,WH]at h
   obtain⟨t,ht,h⟩:=h
   cases t with
   | false =>
     simp only[wp,if_false,WF]at h
     exact⟨0,fun i _ _ _ hi=>by omega,.inr ⟨h.symm,s,x,y,rfl,rfl,rfl,ht⟩⟩
   | true =>
     simp only[if_true]at h
     obtain⟨n,h1,h2⟩:=zor h (by simpa using hl)
     refine⟨n+1,fun i s' x' y' hi h3 h4 h5=> ?_,by simpa using h2⟩
     cases i with
     | zero=>simp only[wB,WF]at h3 h4 h5;subst h3 h4 h5;exact ht
     | succ i=>exact h1 i s' x' y' (by omega) (by simpa using h3) (by simpa using h4) (by simpa using h5)
 | [],_::_,_,_,h,_=>by simp[zm1]at h
 | [],[],_::_,_,h,_=>by simp[zm1]at h
 | _::_,[],_,_,h,_=>by simp[zm1]at h
 | _::_,_::_,[],_,h,_=>by simp[zm1]at h
theorem zoq {f:AV×AV->Option Bool}:∀{l:List (AV×AV)} {r:Bool},zu6 l f=some r->∃n,
  (∀(i:Nat) (p:AV×AV),i<n->l[i]? =some p->f p=some true)/\(n=l.length/\r=true\/r=false/\∃p,l[n]? =some p/\f p=some false)
 | [],r,h=>by simp only[zu6,WF]at h;exact⟨0,fun i _ hi=>by omega,.inl ⟨rfl,h.symm⟩⟩
 | p::l,r,h=>by
   simp only[zu6,WH]at h
   obtain⟨t,ht,h⟩:=h
   cases t with
   | false =>
     simp only[wp,if_false,WF]at h
     exact⟨0,fun i _ hi=>by omega,.inr ⟨h.symm,p,rfl,ht⟩⟩
   | true =>
     simp only[if_true]at h
     obtain⟨n,h1,h2⟩:=zoq h
     refine⟨n+1,fun i q hi h3=> ?_,by simpa using h2⟩
     cases i with
     | zero=>simp only[wB,WF]at h3;subst h3;exact ht
     | succ i=>exact h1 i q (by omega) (by simpa using h3)
theorem zs7 :∀(n d m:Nat) (t:TypeId) (sh:Sh) (ek:Ek) (vx vy:Value) (x y:AV) (r:Bool),n<=d->ekOf P n t=some ek->shOf P m t=some sh->zap sh x=true->zap sh y=true ->
  RepV w.heap G vx x->RepV w.heap G vy y->eqAV ek x y=some r->(Op.equalIn d t vx vy).run P w= .ok r w:=by
 intro n
 induction n with
 | zero=>intro d m t sh ek vx vy x y r _ h;simp[ekOf]at h
 | succ n ih =>
   intro d m t sh ek vx vy x y r hd hok hsh hx hy hvx hvy he
   obtain⟨d,rfl⟩:∃d',d=d'+1:=⟨d-1,by omega⟩
   simp only[ekOf]at hok
   split at hok
   . rename_i hu
     simp only[WF]at hok
     subst hok
     cases x<;>cases y<;>simp only[eqAV]at he<;>(try (cases he;done))
     simp only[WF]at he
     subst he
     rw[zb7 ((RepT.of_known rfl).2 hvx),zb7 ((RepT.of_known rfl).2 hvy)]
     exact zk0 hu
   . rename_i kk hu
     simp only[WF]at hok
     subst hok
     cases x<;>cases y<;>simp only[eqAV]at he<;>(try (cases he;done))
     split at he
     . rename_i hk
       simp only[WF]at he
       subst he hk
       rw[zas ((RepT.of_known rfl).2 hvx),zas ((RepT.of_known rfl).2 hvy)]
       simp only[Op.equalIn,Sem.run_bind,zaj hu,Result.andThen_ok,if_true,Sem.run_pure]
     . cases he
   . rename_i hu
     simp only[WF]at hok
     subst hok
     cases x<;>cases y<;>simp only[eqAV]at he<;>(try (cases he;done))
     rename_i l1 l2
     simp only[WF]at he
     subst he
     rw[zdh ((RepT.of_known rfl).2 hvx),zdh ((RepT.of_known rfl).2 hvy)]
     have e1:((ByteArray.mk ⟨l1⟩)==(ByteArray.mk ⟨l2⟩))=(l1==l2):=by
      change ((⟨l1⟩:Array UInt8)==⟨l2⟩)=_
      simp
     simp only[Op.equalIn,Sem.run_bind,zaj hu,Result.andThen_ok,Sem.run_pure,e1]
   . rename_i fs hu
     split at hok
     . rename_i hcond
       simp only[wo,wq,wE]at hcond
       obtain⟨hstood,hfs⟩:=hcond
       simp only[WG]at hok
       obtain⟨eks,heks,rfl⟩:=hok
       obtain⟨hel,heg⟩:=zd9 heks
       obtain⟨shs,rfl,hlen,hget⟩:=zc9 hsh hu
       cases x<;>cases y<;>simp only[eqAV]at he<;>(try (cases he;done))
       rename_i lx ly
       rw[zec]at hx hy
       obtain⟨xs,rfl,hxl,hxw⟩:=zd1 ((RepT.of_known rfl).2 hvx) rfl
       obtain⟨ys,rfl,hyl,hyw⟩:=zd1 ((RepT.of_known rfl).2 hvy) rfl
       have hlx:lx.length=fs.size:=by rw[hlen];exact(zep hx).symm
       have hly:ly.length=fs.size:=by rw[hlen];exact(zep hy).symm
       have hle:eks.length=fs.size:=by simpa using hel
       obtain⟨k,hk1,hk2⟩:=zor he (.inl ⟨by omega,by omega⟩)
       have field:∀(i:Nat) (f:Field) (s:Sh) (ek:Ek) (u v:AV) (b:Bool),fs[i]? =some f->shs[i]? =some s->eks[i]? =some ek->lx[i]? =some u->ly[i]? =some v->eqAV ek u v=some b ->
         f.name≠ "_" /\∃pu pv,(part f.type xs f.offset).run P w= .ok pu w/\(part f.type ys f.offset).run P w= .ok pv w/\(Op.equalIn d f.type pu pv).run P w= .ok b w:=by
        intro i f s ek u v b hf hs hek hu' hv' he'
        obtain⟨s',g1,g2,g3,n',g4⟩:=hget i f hf
        rw[hs]at g1;cases g1
        obtain⟨ek',hek1,hek2⟩:=heg i f (by simpa using hf)
        rw[hek]at hek1;cases hek1
        have hmem:=hfs f (by have:=wP (l:=fs.toList) (i:=i) (by simpa using hf);exact this)
        obtain⟨u',hu2,hsu⟩:=zde hx hs
        rw[hu']at hu2;cases hu2
        obtain⟨v',hv2,hsv⟩:=zde hy hs
        rw[hv']at hv2;cases hv2
        obtain⟨pre,post,k1,k2,_⟩:=zci hx hu'
        obtain⟨pre',post',k1',k2',_⟩:=zci hy hv'
        have hp:=(za7 hxl).part k1
        rw[wd,k2]at hp
        have hp':=(za7 hyl).part k1'
        rw[wd,k2']at hp'
        obtain⟨pu,hpu,hru⟩:=zfa (P:=P) (w:=w) (G:=G) (cs:=xs) (off:=f.offset) g4 hsu (zdt hxw hu') (by rw[g2];exact hp)
        obtain⟨pv,hpv,hrv⟩:=zfa (P:=P) (w:=w) (G:=G) (cs:=ys) (off:=f.offset) g4 hsv (zdt hyw hv') (by rw[g2];exact hp')
        exact⟨by simpa using hmem,pu,pv,hpu,hpv,ih d n' f.type s ek pu pv u v b (by omega) hek2 g4 hsu hsv hru hrv he'⟩
       simp only[Op.equalIn,Sem.run_bind,zaj hu,Result.andThen_ok,run_program,hstood,<-WA,wp,if_false]
       rw[zpm (P:=P) (w:=w) _ (none,()) (some false,()) fs.toList k r]
       . cases r<;>rfl
       . intro i f hf hi
         rw[wv]at hf
         have hil:i<fs.size:=(ww.1 hf).1
         obtain⟨hn,pu,pv,h1,h2,h3⟩:=field i f (shs[i]'(by omega)) (eks[i]'(by omega)) (lx[i]'(by omega)) (ly[i]'(by omega)) true hf (by simp) (by simp) (by simp) (by simp) (hk1 i _ _ _ hi (by simp) (by simp) (by simp))
         simp only[hn,ne_eq,not_false_eq_true,if_true,Sem.run_bind,h1,h2,h3,Result.andThen_ok]
         rfl
       . rcases hk2 with ⟨h1,h2⟩|⟨h1,s,u,v,h2,h3,h4,h5⟩
         . exact .inl ⟨by simp[h1,hle],h2⟩
         . have hil:k<fs.size:=by rw[<-hle];exact(wR.1 h2).1
           obtain⟨hn,pu,pv,g1,g2,g3⟩:=field k fs[k] (shs[k]'(by omega)) s u v false (by simp[hil]) (by simp) h2 h3 h4 h5
           refine .inr ⟨h1,fs[k],by simp[hil],?_⟩
           simp only[hn,ne_eq,not_false_eq_true,if_true,Sem.run_bind,g1,g2,g3,Result.andThen_ok]
           rfl
     . cases hok
   . rename_i k e hu
     simp only[WG]at hok
     obtain⟨ek,hek,rfl⟩:=hok
     obtain⟨s,rfl,hsz,n',hse⟩:=zdw hsh hu
     cases x<;>cases y<;>simp only[eqAV]at he<;>(try (cases he;done))
     rename_i lx ly
     rw[zbm]at hx hy
     simp only[wo,beq_iff_eq,wE]at hx hy
     obtain⟨xs,rfl,hxl,hxw⟩:=zd1 ((RepT.of_known rfl).2 hvx) rfl
     obtain⟨ys,rfl,hyl,hyw⟩:=zd1 ((RepT.of_known rfl).2 hvy) rfl
     split at he
     . obtain⟨q,hq1,hq2⟩:=zoq he
       have elem:∀(i:Nat) (u v:AV) (b:Bool),lx[i]? =some u->ly[i]? =some v->eqAV ek u v=some b ->
         ∃pu pv,(part e xs (i*s.size)).run P w= .ok pu w/\(part e ys (i*s.size)).run P w= .ok pv w/\(Op.equalIn d e pu pv).run P w= .ok b w:=by
        intro i u v b hu' hv' he'
        have hsu:=hx.2 u (wP hu')
        have hsv:=hy.2 v (wP hv')
        obtain⟨pre,post,k1,k2,_⟩:=zby (fun z hz=>zaf s z (hx.2 z hz)) hu'
        obtain⟨pre',post',k1',k2',_⟩:=zby (fun z hz=>zaf s z (hy.2 z hz)) hv'
        have hp:=(za7 hxl).part k1
        rw[wd,k2]at hp
        have hp':=(za7 hyl).part k1'
        rw[wd,k2']at hp'
        obtain⟨pu,hpu,hru⟩:=zfa (P:=P) (w:=w) (G:=G) (cs:=xs) (off:=i*s.size) hse hsu (zdt hxw hu') hp
        obtain⟨pv,hpv,hrv⟩:=zfa (P:=P) (w:=w) (G:=G) (cs:=ys) (off:=i*s.size) hse hsv (zdt hyw hv') hp'
        exact⟨pu,pv,hpu,hpv,ih d n' e s ek pu pv u v b (by omega) hek hse hsu hsv hru hrv he'⟩
       simp only[Op.equalIn,Sem.run_bind,zaj hu,Result.andThen_ok,za9 hsz,Std.Legacy.Range.forIn_eq_forIn_range']
       have hzl:(lx.zip ly).length=k:=by rw[List.length_zip,hx.1,hy.1];omega
       rw[zpm (P:=P) (w:=w) _ (none,()) (some false,()) _ q r]
       . cases r<;>rfl
       . intro i j hj hi
         have hik:i<k:=by
          rcases hq2 with ⟨h,_⟩|⟨_,p,h,_⟩
          . omega
          . have:=(wR.1 h).1;omega
         have hji:j=i:=by
          rw[wY]at hj
          . simpa using hj.symm
          . simpa[Std.Legacy.Range.size]using hik
         subst hji
         obtain⟨pu,pv,h1,h2,h3⟩:=elem j (lx[j]'(by omega)) (ly[j]'(by omega)) true (by simp) (by simp) (hq1 j (lx[j]'(by omega),ly[j]'(by omega)) hi (by simp[w5]))
         simp only[Sem.run_bind,h1,h2,h3,Result.andThen_ok]
         rfl
       . rcases hq2 with ⟨h1,h2⟩|⟨h1,p,h2,h3⟩
         . exact .inl ⟨by simp[Std.Legacy.Range.size,h1,hzl],h2⟩
         . have hil:q<k:=by rw[<-hzl];exact(wR.1 h2).1
           rw[w5]at h2
           obtain⟨pu,pv,g1,g2,g3⟩:=elem q p.1 p.2 false h2.1 h2.2 h3
           refine .inr ⟨h1,q,?_,?_⟩
           . rw[wY]
             . simp
             . simpa[Std.Legacy.Range.size]using hil
           . simp only[Sem.run_bind,g1,g2,g3,Result.andThen_ok]
             rfl
     . cases he
   . cases hok
theorem z71 {neg:Bool}{bop:BinOp}{t yt:TypeId}{x y:Operand}{x' y':Opd}{sh:Sh}{ek:Ek}(hg:GlOk w.heap G gl)(hst:StOk w.heap G st a.tmps)(ho:o.op= .binOp bop t x y yt)
  (hop:bop=if neg then .neq else .eql) (hag:sh.agg=true) (hgu:P.eqGuardType P.depth t=false) (hsh:shOf P SF t=some sh) (hek:ekOf P SF t=some ek)
  (hx:zag x=some x') (hy:zag y=some y')
  (hs:zaa gl cl st o.dst (.eqA neg sh ek x' y')=some (v,us)):Good P w G st.hp (execOp a.eval o) v us:=by
 have hvx:=zam hg hst hx
 have hvy:=zam hg hst hy
 simp only[zaa]at hs
 split at hs
 . rename_i hcond
   simp only[wo]at hcond
   simp only[WG,WM]at hs
   obtain⟨r,hr,rfl,rfl⟩:=hs
   have hvx':=(RepT.of_known (zbq hcond.1)).1 hvx
   have hvy':=(RepT.of_known (zbq hcond.2)).1 hvy
   have he:=zs7 SF 10000 SF t sh ek _ _ _ _ r (by decide) hek hsh hcond.1 hcond.2 hvx' hvy' hr
   obtain⟨xs,ex,_⟩:=zd1 hvx (by rw[zmt hcond.1,hag])
   obtain⟨ys,ey,_⟩:=zd1 hvy (by rw[zmt hcond.2,hag])
   rw[ex,ey]at he
   have he':(Op.equal t (.agg xs) (.agg ys)).run P w= .ok r w:=he
   refine⟨_,w,G,⟨rfl,rfl⟩,.inl ?_,Step.refl hst.inv,zb6 _⟩
   have hguard:(eqGuard bop t x y (.agg xs) (.agg ys)).run P w= .ok () w:=by
    subst hop
    cases neg<;>simp[eqGuard,hgu]
   have hbin:(binOp bop t (.agg xs) (.agg ys)).run P w= .ok (.bool (if neg then !r else r)) w:=by
    subst hop
    cases neg<;>simp only[binOp,wp,if_false,if_true,Sem.run_bind,he',Result.andThen_ok,Sem.run_pure]
   simp only[execOp,ho,ex,ey,Sem.run_bind,hguard,hbin,Result.andThen_ok,Sem.run_pure]
 . cases hs
end Go.Ev
namespace Go.Ev
open Go
variable {im :Im} {P:Program} {w:World} {H:Heap} {G:Gh} {gl:Gl} {cl:Cl} {st:St} {a:Act} {o:Oper} {m:MOp} {v:AV} {us:Hp}
theorem zh2 {zv:Value}{z:AV}{sh:Sh}(hrl:RepL H G zv.cells.toList z.flat)(hzl:z.flat.length=sh.size)(n:Nat) :
  RepL H G (Builtin.zeroCells zv.cells n).toList (AV.flats (List.replicate n z)):=by
 have hzs:zv.cells.size=sh.size:=by have:=hrl.len;rw[<-hzl,<-this];simp
 have:=zc6 hrl hzl n
 rw[<-hzs]at this
 exact this
theorem zzb {c:Call}{t e:TypeId}{x:Operand}{x':Opd}{sh:Sh}{z:AV}(hg:GlOk w.heap G gl)(hst:StOk w.heap G st a.tmps)(ho:o.op= .call c)(hb:c.callee= .builtin .clear)
  (hargs:c.args= #[x]) (ht:c.argTypes= #[t]) (hu:P.underlying t=some (.slice e)) (hz:zej P e=some (sh,z))
  (hx:zag x=some x') (hs:zaa gl cl st o.dst (.clear sh z x')=some (v,us)):Good P w G st.hp (execOp a.eval o) v us:=by
 have hvx:=zam hg hst hx
 obtain⟨hshT,zv,hzv,hsh,hzp,hzw,hrl⟩:=zbx hz
 have hzl:z.flat.length=sh.size:=zaf sh z hsh
 have run:∀{r:Value} {w':World},(Builtin.clear_ #[t] o.type #[a.eval x]).run P w= .ok r w'->(execOp a.eval o).run P w= .ok (.value r) w':=by
  intro r w' hr
  simp only[execOp,ho,resolve,hb,hargs,ht,Sem.run_bind,Sem.run_pure,Result.andThen_ok,invoke,builtin,wM,wK,wQ,hr]
 simp only[zaa]at hs
 split at hs
 . rename_i k off len hvx'
   rw[hvx',zae rfl]at hvx
   split at hs
   . rename_i shx els hk
     rw[WI,wo,decide_eq_true_eq]at hs
     obtain⟨⟨hbq,hle⟩,hs⟩:=hs
     cases hs
     have:=Sh.beq_eq hbq
     subst this
     have hrz:∀q∈List.replicate len z,zap sh q=true/\q.plain=true/\q.wf:=fun q hq=>by rw[w6 hq];exact⟨hsh,hzp,hzw⟩
     have hsp:els.take off++List.replicate len z++els.drop (off+len)=zcs els off (List.replicate len z):=by rw[zcs,w8]
     rw[hsp]
     have hzl2:=zh2 (hrl w.heap G) hzl len
     rcases hst.inv.obs k _ hk with ⟨rfl,hreg⟩|⟨b',cap,c',e',fz,hr',hle0,hb',hsz,hf,hsh',hrc⟩
     . simp only[wX]at hle
       obtain⟨rfl,rfl⟩:off=0/\len=0:=by omega
       rcases zbn hvx with ⟨a0,_,_,_,hev,_⟩|⟨b,root,mm,e2,o',xo,hr,_⟩
       . refine⟨.tuple #[],w,G,⟨rfl,rfl⟩,.inl (run ?_),zck hst.inv hk _ _ rfl (fun _ _=>rfl) (fun _=>by simp) fun le=>.inl ⟨by simp[zcs],hreg⟩,trivial⟩
         rw[hev]
         simp only[Builtin.clear_,wC,wB,Sem.run_bind,zaj hu,Result.andThen_ok]
         cases a0<;>rfl
       . rw[hreg]at hr;cases hr
     . rcases zbn hvx with ⟨a0,_,_,_,hev,hreg⟩|⟨b,root,mm,e2,o',xo,hr,hs2,hof,hle2,hev,hxo⟩
       . rw[hreg]at hr';cases hr'
       rw[hr]at hr'
       simp only[WF,Rg.blk.injEq]at hr'
       obtain⟨rfl,rfl⟩:=hr'
       simp only[Sh.sub,WF,Sh.ar.injEq]at hs2
       obtain⟨rfl,rfl⟩:=hs2
       simp only[Sh.off,WF]at hof
       subst hof
       have hel:(AV.flats els).length=els.length*sh.size:=za1 els fun x hx=>zaf sh x (hsh' x hx).1
       obtain⟨g1,g2,g3,g4⟩:=zhl (c:=c') (sh:=sh) (l:=els) (ys:=List.replicate len z) (off:=off) (base:=0) (vs:=(Builtin.zeroCells zv.cells len).toList) (pre:=[]) (post:=[])
        (fun q hq=>(hsh' q hq).1) (fun q hq=>(hrz q hq).1) (by rw[w8];exact hle) (by simpa using hrc) rfl hzl2 (by rw[hel,hsz,wd];exact we _ hle0)
       simp only[wd,w2,w3]at g1 g2
       refine⟨.tuple #[],{w with heap:=w.heap.setIfInBounds b (.cells (zav c' (off*sh.size) (Builtin.zeroCells zv.cells len).toList) e' fz)},G,⟨rfl,rfl⟩,.inl (run ?_),
        zck hst.inv hk _ _ (by simp) (fun b' hb'=>za8 fun e=>hb' ⟨_,.of (e▸hr),⟨_,hk,by simp⟩⟩) (fun _=>by simp) fun le =>
         .inr ⟨b,cap,_,e',fz,hr,by rw[g3];exact hle0,zbs hb',by simp[zau,hsz],hf.put (zau ..),fun q hq=> ?_,g1.mono le⟩,trivial⟩
       . rw[hev]
         cases len with
         | zero =>
           have:Builtin.zeroCells zv.cells 0= #[]:=by simp[Builtin.zeroCells]
           rw[this]
           simp only[Builtin.clear_,wC,wB,Sem.run_bind,zaj hu,Result.andThen_ok,zav,zes hb',Sem.run_pure]
         | succ len =>
           have hx0:=hxo (by omega)
           rw[wd]at hx0
           subst hx0
           have hs1:=za4 (P:=P) (e:=e') (fz:=fz) (Builtin.zeroCells zv.cells (len+1)).toList (off*sh.size) 0 c' w hb' (by simpa using g2) hf.free (fun q hq=>by
            obtain⟨j,hj,rfl⟩:=wL hq
            exact(hzl2.get j hj (by rw[<-hzl2.len];exact hj)).oneCell)
           simp only[wm]at hs1
           simp only[Builtin.clear_,wC,wB,Sem.run_bind,zaj hu,Result.andThen_ok,hzv,hs1,Sem.run_pure]
       . simp only[zcs,wF]at hq
         rcases hq with (hq|hq)|hq
         . exact hsh' q (wH hq)
         . exact hrz q hq
         . exact hsh' q (wO hq)
   . cases hs
 . cases hs
theorem z3p {c:Call}{t e:TypeId}{x:Operand}{x':Opd}(hg:GlOk w.heap G gl)(hst:StOk w.heap G st a.tmps)(ho:o.op= .call c)(hb:c.callee= .builtin .cap)
  (hargs:c.args= #[x]) (ht:c.argTypes= #[t]) (hu:P.underlying t=some (.slice e))
  (hx:zag x=some x') (hs:zaa gl cl st o.dst (.capl x')=some (v,us)):Good P w G st.hp (execOp a.eval o) v us:=by
 have hvx:=zam hg hst hx
 simp only[zaa]at hs
 split at hs
 . rename_i sh l hvx'
   rw[hvx',zae rfl]at hvx
   cases hs
   obtain⟨b,cap,hev,hcap,hfull,hsh,_⟩:=zd2 hvx
   have:=hfull rfl
   subst this
   refine⟨_,w,G,⟨rfl,rfl⟩,.inl ?_,Step.refl hst.inv,zat _ _⟩
   simp only[execOp,ho,resolve,hb,hargs,ht,Sem.run_bind,Sem.run_pure,Result.andThen_ok,invoke,builtin,wM,wK,wQ,hev,Builtin.cap_,wC,wB,zaj hu]
   rfl
 . cases hs
theorem zgz {t u e:TypeId}{ty:TypeId}{b:Option Addr}{cap:Nat}{sh shx:Sh}{z:AV}{i:TypeInfo}{l:List AV}{n:Nat}
  (hu:P.underlying t=some (.slice e)) (hu2:P.underlying u=some (.int .i64)) (hz:zej P e=some (sh,z)) (hi:P.info? e=some i) (hbytes:i.bytes<=1024) (hpos:0<sh.size) (h1n:1<=n)
  (hx:Src P w.heap G (.slice b l.length cap) shx l) (hxs:l=[]\/sh=shx) (hlt:cap<l.length+n) (hlim:l.length+n<=LIM) :
  ∃(newCap:Nat) (c:Array Value),(Builtin.append_ #[t,u] ty #[.slice b l.length cap,.int .i64 n]).run P w =
     .ok (.slice (some ⟨w.heap.size,0,none⟩) (l.length+n) newCap) {w with drawn:=w.drawn+1,heap:=w.heap.push (.cells c e)} /\
   l.length+n<=newCap/\c.size=newCap*sh.size/\RepC w.heap G c 0 (AV.flats (l++List.replicate n z)):=by
 obtain⟨hshT,zv,hzv,hsh,hzp,hzw,hrl⟩:=zbx hz
 have hzl:z.flat.length=sh.size:=zaf sh z hsh
 have hzs:zv.cells.size=sh.size:=by have:=(hrl w.heap G).len;rw[<-hzl,<-this];simp
 let w1:World:={w with drawn:=w.drawn+1}
 obtain⟨vx,hx1,hx2⟩:=hx.firstAll (size:=sh.size) (by rcases hxs with h|h<;>simp[h]) w1 rfl
 have hz2:=zh2 (hrl w.heap G) hzl n
 let newCap:=(Question.appendCap (l.length+n) cap e).cut (w.tape w.drawn (.appendCap (l.length+n) cap e))
 have hcap:l.length+n<=newCap:=wj _ _
 have hlx:(AV.flats l).length=l.length*sh.size:=by
  rcases hxs with h|h
  . subst h;simp[AV.flats]
  . subst h;exact za1 l fun x hx'=>zaf sh x (hx.els x hx').1
 have s1:vx.size=l.length*sh.size:=by rw[<-hlx,<-hx2.len];simp
 have s2:(Builtin.zeroCells zv.cells n).size=n*sh.size:=by simp[Builtin.zeroCells,hzs]
 refine⟨newCap,vx++Builtin.zeroCells zv.cells n++Builtin.zeroCells zv.cells (newCap-(l.length+n)),?_,hcap,?_,?_⟩
 . have hq:(Question.appendCap (l.length+n) cap e).forced=false:=rfl
   have c1:¬(l.length+n<=cap):=by omega
   have c2:¬(((l.length+n:Nat):Int)>IntKind.i64.max):=by
    have:IntKind.i64.max=2^63-1:=rfl
    rw[this];simp only[LIM]at hlim;omega
   have c3:¬(Builtin.nextslicecap (l.length+n) cap*i.bytes>2^48):=by
    have h1:=zg6 hlt hlim
    have h2:Builtin.nextslicecap (l.length+n) cap*i.bytes<=Builtin.nextslicecap (l.length+n) cap*1024:=wi _ hbytes
    omega
   have wn:IntKind.i64.wrap (n:Int)=n:=by
    simp[IntKind.wrap,IntKind.bits,IntKind.signed,LIM]at hlim ⊢;omega
   have c4:¬((n:Int)<0):=by omega
   have c5:¬((n:Int)*(i.bytes:Int)>2^48):=by
    have h4:(n:Int)*(i.bytes:Int)<=2^36*1024:=Int.mul_le_mul (by simp only[LIM]at hlim;omega) (by omega) (by omega) (by decide)
    omega
   have c6:¬(n*sh.size=0):=Nat.mul_ne_zero (by omega) (by omega)
   have ai:∀(kk:IntKind) (nn:Int),(Go.asInt (Value.int kk nn)).run P w=Result.ok nn w:=fun kk nn=>by simp[Go.asInt,asIntOf]
   simp only[w1]at hx1
   simp only[Builtin.append_,wC,wB,wD,Sem.run_bind,zaj hu,zaj hu2,za9 (zbb hshT),Result.andThen_ok,Sem.run_pure,if_true,ai,wn,c4,if_false,zfb hi,c5,
    Int.toNat_natCast,c1,c2,c3,Bool.not_true,wp,c6,false_and,run_choose,hq,run_askRoom]
   simp only[hx1,hzv,Result.andThen_ok,newRow,Sem.run_bind,run_newObj,Sem.run_pure]
   rfl
 . simp only[WB,s1,s2]
   simp only[Builtin.zeroCells,WD,WC,hzs]
   rw[<-wg,<-wg];congr 1;omega
 . have h:=zdx hx2 hz2
   rw[<-AV.flats_append]at h
   intro j hj
   have hjl:j<(vx.toList++(Builtin.zeroCells zv.cells n).toList).length:=by rw[h.len];exact hj
   refine⟨(vx.toList++(Builtin.zeroCells zv.cells n).toList)[j],?_,h.get j hjl hj⟩
   rw[wd,wx (by simpa using hjl)]
   rw[<-wv,wz,wG hjl]
theorem zzg {c:Call}{t u e:TypeId}{x y:Operand}{x' y':Opd}{sh:Sh}{z:AV}{i:TypeInfo}(hg:GlOk w.heap G gl)(hst:StOk w.heap G st a.tmps)(ho:o.op= .call c)(hb:c.callee= .builtin .append)
  (hargs:c.args= #[x,y]) (ht:c.argTypes= #[t,u]) (hu:P.underlying t=some (.slice e)) (hu2:P.underlying u=some (.int .i64)) (hz:zej P e=some (sh,z)) (hi:P.info? e=some i)
  (hx:zag x=some x') (hy:zag y=some y') (hs:zaa gl cl st o.dst (.appmk sh z i.bytes x' y')=some (v,us)):Good P w G st.hp (execOp a.eval o) v us:=by
 have hvx:=zam hg hst hx
 have hvy:=zam hg hst hy
 obtain⟨hshT,zv,hzv,hsh,hzp,hzw,hrl⟩:=zbx hz
 have run:∀{r:Value} {w':World},(Builtin.append_ #[t,u] o.type #[a.eval x,a.eval y]).run P w= .ok r w'->(execOp a.eval o).run P w= .ok (.value r) w':=by
  intro r w' hr
  simp only[execOp,ho,resolve,hb,hargs,ht,Sem.run_bind,Sem.run_pure,Result.andThen_ok,invoke,builtin,wM,wK,wQ,hr]
 simp only[zaa]at hs
 split at hs
 . rename_i k shx l n hk hvx' hvy'
   rw[hvx',zae rfl]at hvx
   rw[hvy']at hvy
   rw[WI]at hs
   simp only[wo,decide_eq_true_eq,wr,wW,WL]at hs
   obtain⟨⟨⟨hnone,h1n,hbytes,hpos,hlim⟩,hxs⟩,hs⟩:=hs
   cases hs
   have hsx:=zgx (P:=P) hst.inv hvx (show za6 st.hp (.lst true shx l)=some (shx,l)from rfl)
   obtain⟨b,cap,hev,hcap,hfull,hsh',_⟩:=zd2 hvx
   have hcl:=hfull rfl
   have hn:n=((n.toNat:Nat):Int):=by omega
   have hxs':l=[]\/sh=shx:=hxs.imp_right Sh.beq_eq
   obtain⟨newCap,c',hrun,h1,h2,h3⟩:=zgz (P:=P) (ty:=o.type) (n:=n.toNat) hu hu2 hz hi hbytes hpos (by omega) (hev▸hsx) hxs' (by omega) hlim
   have hst':=zez (sh:=sh) (e:=e) (fz:=(0,0)) (k:=k) (els:=l++List.replicate n.toNat z) (c:=c') (cap:=newCap) hst.inv hnone (by simpa using h1) h2 (.inl rfl)
    (fun q hq=>by
      rcases wF.1 hq with hq|hq
      . rcases hxs' with h|h
        . subst h;cases hq
        . subst h;exact hsh' q hq
      . rw[w6 hq];exact⟨hsh,hzp,hzw⟩) h3
   refine⟨_,{w with drawn:=w.drawn+1,heap:=w.heap.push (.cells c' e)},_,⟨rfl,rfl⟩,.inl (run ?_),hst',ziu h1⟩
   rw[hev,zas hvy,hn]
   exact hrun
 . cases hs
end Go.Ev
namespace Go.Ev
open Go
variable {im :Im} {P:Program} {w:World} {H:Heap} {G:Gh} {gl:Gl} {cl:Cl} {st:St} {a:Act} {o:Oper} {m:MOp} {v:AV} {us:Hp}
theorem z5h (a b:ByteArray):(a==b)=true↔a=b:=by
 show(a.data==b.data)=true↔a=b
 rw[beq_iff_eq]
 exact⟨fun h=>by cases a;cases b;simp_all,fun h=>by rw[h]⟩
theorem zml {a:AV}(h:a.kv=true):a.scalar=true:=by cases a<;>first|rfl|cases h
theorem zwi {a:AV}(h:a.kv=true):RepT H G (zbd a) a:=by
 cases a with
 | bool b=>exact zb6 b
 | int k n=>exact zat k n
 | str l=>exact ze0 l
 | _=>cases h
theorem z7g {a:AV}{v:Value}(h:a.kv=true)(hr:RepT H G v a):v=zbd a:=by
 cases a with
 | bool b=>exact zb7 hr
 | int k n=>exact zas hr
 | str l=>exact zdh hr
 | _=>cases h
theorem zkb :∀{l:List AV},l.all isI=true->AV.flats l=l
 | [],_=>rfl
 | x::l,h=>by
   simp only[w7,wo]at h
   rw[AV.flats,zkb h.2]
   cases x<;>first|rfl|cases h.1
theorem z7p {l:List AV}(h:l.all isI=true):AV.wfp l:=by
 rw[AV.wfp_iff]
 intro x hx
 have:=wE.1 h x hx
 cases x<;>first|exact⟨rfl,trivial⟩|cases this
theorem z2x {l:List AV}(h:l.all isI=true):RepL H G (l.map valI) l:=by
 refine⟨by simp,fun j h1 h2=> ?_⟩
 have:=wE.1 h l[j] (wS h2)
 simp only[wT]
 generalize l[j]=x at *
 cases x<;>first|exact .int _ _|cases this
theorem zqf {l:List AV}(h:l.all isI=true):RepV H G (zbd (.agg l)) (.agg l) :=
 ⟨rfl,z7p h,l.map valI,by rw[AV.flat,zkb h];exact z2x h,rfl⟩
theorem zwj {a:AV}{v:Value}(h:a.kkv=true)(hr:RepT H G v a):v=zbd a:=by
 cases a with
 | agg l =>
   obtain⟨_,_,vs,hl,rfl⟩:=hr
   have h':l.all isI=true:=h
   rw[AV.flat,zkb h']at hl
   show Value.agg vs.toArray=Value.agg (l.map valI).toArray
   congr 2
   refine List.ext_getElem (by rw[hl.len];simp) fun j h1 h2=> ?_
   have hj:j<l.length:=by simpa using h2
   have h3:=hl.get j h1 hj
   have h4:=wE.1 h' l[j] (wS hj)
   simp only[wT]
   generalize l[j]=x at *
   generalize vs[j]=y at *
   cases x<;>first|(cases h3;rfl)|cases h4
 | _=>first|exact z7g h hr|cases h
theorem zjc {kk:Nat}{a:AV}(h:zc1 kk a=true):a.kkv=true:=by
 unfold zc1 at h
 split at h<;>first|rfl|(simp only[wo]at h;exact h.2)|cases h
theorem qcg {v:Value}{k:Nat}(h:RepS H G v (.mp k)):∃b,v= .map (some b)/\G.reg k=some (.blk b .sc):=by
 cases h with
 | mp _ b hr=>exact⟨b,rfl,hr⟩
theorem zjl :∀{l m:List AV} {r:Bool},eqI l m=some r->m.length=l.length/\l.all isI=true/\m.all isI=true/\(∀fs:List Ek,fs.all Ek.isIt=true->l.length=fs.length->zm1 fs l m=some r)/\zu6 (l.zip m) (fun p=>eqAV .it p.1 p.2)=some r/\(r=true->l=m)
 | [],[],r,h=>by
   simp only[eqI,WF]at h
   subst h
   exact⟨rfl,rfl,rfl,fun fs _ hl=>by obtain rfl:=List.length_eq_zero_iff.1 hl.symm;rfl,rfl,fun _=>rfl⟩
 | [],y::m,r,h=>by simp[eqI]at h
 | x::l,[],r,h=>by cases x<;>simp[eqI]at h
 | x::l,y::m,r,h=>by
   cases x<;>(try (simp[eqI]at h;done))
   cases y<;>(try (simp[eqI]at h;done))
   rename_i k a k' b
   simp only[eqI]at h
   rw[WI,WG]at h
   obtain⟨rfl,t,ht,rfl⟩:=h
   obtain⟨h1,h2,h3,h4,h5,h6⟩:=zjl ht
   refine⟨by simp[h1],by simp[h2,isI],by simp[h3,isI],fun fs hf hl=> ?_,?_,fun hr=> ?_⟩
   . cases fs with
     | nil=>simp at hl
     | cons f fs =>
       simp only[w7,wo]at hf
       cases f<;>(try (cases hf.1;done))
       have:=h4 fs hf.2 (by simpa using hl)
       cases e:(a==b)<;>simp[zm1,eqAV,e,this]
   . cases e:(a==b)<;>simp[zu6,eqAV,e,h5]
   . rw[wo,beq_iff_eq]at hr
     rw[hr.1,h6 hr.2]
theorem zsu :∀{l:List AV} {n:Nat},l.length=n->l.all isI=true->za5 (List.replicate n .sc) l=true
 | [],0,_,_=>rfl
 | [],n+1,h,_=>by simp at h
 | x::l,0,h,_=>by simp at h
 | x::l,n+1,h,hi=>by
   simp only[w7,wo]at hi
   rw[List.replicate_succ,za5,zsu (by simpa using h) hi.2]
   cases x<;>first|rfl|cases hi.1
theorem zv1 {α:Type}(f:α->PUnit->Sem (ForInStep PUnit)):∀(l:List α),(∀(i:Nat) (x:α),l[i]? =some x->(f x ⟨⟩).run P w= .ok (.yield ⟨⟩) w)->(forIn l ⟨⟩ f).run P w= .ok ⟨⟩ w:=fun l h=>by
 have:=zpm (P:=P) (w:=w) f ⟨⟩ ⟨⟩ l l.length true (fun i x hx _=>h i x hx) (.inl ⟨rfl,rfl⟩)
 simpa using this
theorem z44 (em:Bool):∀(n d m:Nat) (t:TypeId) (sh:Sh) (ek:Ek) (vx:Value) (x:AV),n<d->ekOf P n t=some ek->shOf P m t=some sh->zap sh x=true->RepV w.heap G vx x->(Instr.checkKey em d t vx).run P w= .ok () w:=by
 intro n
 induction n with
 | zero=>intro d m t sh ek vx x _ h;simp[ekOf]at h
 | succ n ih =>
   intro d m t sh ek vx x hd hok hsh hx hvx
   obtain⟨d,rfl⟩:∃d',d=d'+1:=⟨d-1,by omega⟩
   simp only[ekOf]at hok
   unfold Instr.checkKey
   split at hok
   . rename_i hu
     simp only[Sem.run_bind,zaj hu,Result.andThen_ok,Sem.run_pure]
   . rename_i kk hu
     simp only[Sem.run_bind,zaj hu,Result.andThen_ok,Sem.run_pure]
   . rename_i hu
     simp only[Sem.run_bind,zaj hu,Result.andThen_ok,Sem.run_pure]
   . rename_i fs hu
     split at hok
     . rename_i hcond
       simp only[wo,wq,wE]at hcond
       obtain⟨hstood,hfs⟩:=hcond
       simp only[WG]at hok
       obtain⟨eks,heks,rfl⟩:=hok
       obtain⟨hel,heg⟩:=zd9 heks
       obtain⟨shs,rfl,hlen,hget⟩:=zc9 hsh hu
       have hagg:x.isAgg=true:=by simp only[zap,wo]at hx;exact hx.1
       obtain⟨xs,rfl,hxl,hxw⟩:=zd1 ((RepT.of_known hvx.known).2 hvx) hagg
       have hx':za5 shs x.kids=true:=by simp only[zap,wo]at hx;exact hx.2
       have hle:eks.length=fs.size:=by simpa using hel
       simp only[Sem.run_bind,zaj hu,Result.andThen_ok,<-WA]
       rw[zv1]
       . rfl
       intro i f hf
       rw[wv]at hf
       have hil:i<fs.size:=(ww.1 hf).1
       obtain⟨s',g1,g2,g3,n',g4⟩:=hget i f hf
       obtain⟨ek',hek1,hek2⟩:=heg i f (by simpa using hf)
       obtain⟨u',hu2,hsu⟩:=zde hx' g1
       obtain⟨pre,post,k1,k2,_⟩:=zci hx' hu2
       have hp:=(za7 hxl).part k1
       rw[wd,k2]at hp
       obtain⟨pu,hpu,hru⟩:=zfa (P:=P) (w:=w) (G:=G) (cs:=xs) (off:=f.offset) g4 hsu (zdt hxw hu2) (by rw[g2];exact hp)
       have hc:=ih d n' f.type s' ek' pu u' (by omega) hek2 g4 hsu hru
       by_cases hn:f.name= "_"
       . simp[hn]
       . simp only[ne_eq,hn,not_false_eq_true,if_true,Sem.run_bind,hpu,hc,Result.andThen_ok,Sem.run_pure]
     . cases hok
   . rename_i k e hu
     simp only[WG]at hok
     obtain⟨ek,hek,rfl⟩:=hok
     obtain⟨s,rfl,hsz,n',hse⟩:=zdw hsh hu
     have hagg:x.isAgg=true:=by simp only[zap,wo]at hx;exact hx.1.1
     obtain⟨xs,rfl,hxl,hxw⟩:=zd1 ((RepT.of_known hvx.known).2 hvx) hagg
     simp only[zap,wo,beq_iff_eq,wE]at hx
     simp only[Sem.run_bind,zaj hu,Result.andThen_ok,Std.Legacy.Range.forIn_eq_forIn_range']
     rw[zv1]
     . rfl
     intro i j hj
     have hik:i<k:=by
      have:=(wR.1 hj).1
      simpa[Std.Legacy.Range.size]using this
     have hji:j=i:=by
      rw[wY]at hj
      . simpa using hj.symm
      . simpa[Std.Legacy.Range.size]using hik
     subst hji
     have hjl:j<x.kids.length:=by omega
     have hsu:=hx.2 x.kids[j] (wS hjl)
     obtain⟨pre,post,k1,k2,_⟩:=zby (fun z hz=>zaf s z (hx.2 z hz)) (wG hjl)
     have hp:=(za7 hxl).part k1
     rw[wd,k2]at hp
     obtain⟨pu,hpu,hru⟩:=zfa (P:=P) (w:=w) (G:=G) (cs:=xs) (off:=j*s.size) hse hsu (zdt hxw (wG hjl)) hp
     have hc:=ih d n' e s ek pu x.kids[j] (by omega) hek hse hsu hru
     simp only[Sem.run_bind,za9 hsz,Result.andThen_ok,hpu,hc,Sem.run_pure]
   . cases hok
theorem zs4 {d:TypeDesc}{x:AV}(hx:∀e b,zh1 x e=some b->Instr.sameNow d (zbd x) (zbd e)=some b):∀(es:List (AV×AV×Nat)) (i:Nat) (r:Option (Nat×AV)),zcg x es=some r ->
  Instr.findNow d (zbd x) (es.map entV) i=some (r.map fun p=>(i+p.1,zbd p.2))
 | [],i,r,h=>by simp only[zcg,WF]at h;subst h;rfl
 | e::es,i,r,h=>by
   simp only[zcg,WH]at h
   obtain⟨t,ht,h⟩:=h
   have h1:=hx _ _ ht
   cases t with
   | true =>
     simp only[if_true,WF]at h
     subst h
     simp[Instr.findNow,entV,h1]
   | false =>
     simp only[wp,if_false,WG]at h
     obtain⟨r',hr',rfl⟩:=h
     have:=zs4 hx es (i+1) r' hr'
     simp only[wK,Instr.findNow]
     rw[show(entV e).key=zbd e.1 from rfl,h1]
     simp only[this]
     cases r' with
     | none=>rfl
     | some p=>simp;omega
theorem zu1 {kt:TypeId}{d:TypeDesc}(hd:P.underlying kt=some d){x:AV}(hs:∀e b,zh1 x e=some b->Instr.sameNow d (zbd x) (zbd e)=some b){es:List (AV×AV×Nat)}{r:Option (Nat×AV)}(hf:zcg x es=some r)(w:World) :
  (Instr.findKey kt (zbd x) (es.map entV)).run P w= .ok (r.map fun p=>(p.1,zbd p.2)) w:=by
 have h1:=zs4 hs es 0 r hf
 simp only[wd]at h1
 simp only[Instr.findKey,Sem.run_bind,zaj hd,Result.andThen_ok,h1,Sem.run_pure]
theorem zmz {kt:TypeId}{x:AV}{w:World}:∀{es:List (AV×AV×Nat)} {i:Nat} {r:Option (Nat×AV)},(∀e∈es,∀b,zh1 x e.1=some b->(Op.equal kt (zbd x) (zbd e.1)).run P w= .ok b w)->zcg x es=some r ->
  (Instr.findAsking kt (zbd x) (es.map entV) i).run P w= .ok (r.map fun p=>(i+p.1,zbd p.2)) w
 | [],i,r,_,h=>by simp only[zcg,WF]at h;subst h;rfl
 | e::es,i,r,hs,h=>by
   simp only[zcg,WH]at h
   obtain⟨t,ht,h⟩:=h
   have h1:=hs e (by simp) t ht
   simp only[wK,Instr.findAsking,Sem.run_bind]
   rw[show(entV e).key=zbd e.1 from rfl,h1]
   simp only[Result.andThen_ok]
   cases t with
   | true =>
     simp only[if_true,WF]at h
     subst h
     simp[entV]
   | false =>
     simp only[wp,if_false,WG]at h
     obtain⟨r',hr',rfl⟩:=h
     have:=zmz (i:=i+1) (fun e he=>hs e (by simp[he])) hr'
     simp only[wp,if_false,this]
     cases r' with
     | none=>rfl
     | some p=>simp;omega
structure MapT (P:Program)(t:TypeId)(kk:Nat)(z:AV):Prop where
 all:∃kt e,P.underlying t=some (.map kt e)/\(∀w,(zeroValue e).run P w= .ok (zbd z) w)/\z.kv=true /\
  ∀x,zc1 kk x=true->∀(es:List (AV×AV×Nat)) (r:Option (Nat×AV)) (w:World),zcg x es=some r->(Instr.findKey kt (zbd x) (es.map entV)).run P w= .ok (r.map fun p=>(p.1,zbd p.2)) w
 chk:∀kt e,P.underlying t=some (.map kt e)->∀x,zc1 kk x=true->∀b w,(Instr.checkKey b 10000 kt (zbd x)).run P w= .ok () w
def gh0 :Gh:=⟨fun _=>False,fun _=>none,fun _=>none⟩
theorem zrc {kt:TypeId}{kk:Nat}(h:zwk P kt=some kk){d:TypeDesc}(hd:P.underlying kt=some d)(hw:∀a b,Instr.sameNow d a b=none) :
  (∀x,zc1 kk x=true->∀(es:List (AV×AV×Nat)) (r:Option (Nat×AV)) (w:World),zcg x es=some r->(Instr.findKey kt (zbd x) (es.map entV)).run P w= .ok (r.map fun p=>(p.1,zbd p.2)) w) /\
  ∀x,zc1 kk x=true->∀b w,(Instr.checkKey b 10000 kt (zbd x)).run P w= .ok () w:=by
 have key:∃ek sh n,ekOf P SF kt=some ek/\shOf P SF kt=some sh/\kk=n+3/\(∀l:List AV,l.length=n->l.all isI=true->zap sh (.agg l)=true)/\∀(l m:List AV) (r:Bool),l.length=n->eqI l m=some r->eqAV ek (.agg l) (.agg m)=some r:=by
  unfold zwk at h
  split at h
  . rename_i fs sh h1 h2
    rw[WI,wo]at h
    obtain⟨⟨hf,hb⟩,h⟩:=h
    cases h
    have hb:=Sh.beq_eq hb
    subst hb
    refine⟨_,_,fs.length,h1,h2,rfl,fun l hl hi=>by rw[zec];exact zsu hl hi,fun l m r hl he=> ?_⟩
    rw[eqAV];exact(zjl he).2.2.2.1 fs hf hl
  . rename_i n sh h1 h2
    rw[WI]at h
    obtain⟨hb,h⟩:=h
    cases h
    have hb:=Sh.beq_eq hb
    subst hb
    refine⟨_,_,n,h1,h2,rfl,fun l hl hi=> ?_,fun l m r hl he=> ?_⟩
    . rw[zbm,hl]
      simp only[beq_self_eq_true,wt,wE]
      intro x hx
      have:=wE.1 hi x hx
      cases x<;>first|rfl|cases this
    . obtain⟨e1,e2,e3,e4,e5,e6⟩:=zjl he
      rw[eqAV,if_pos ⟨hl,by omega⟩];exact e5
  . cases h
 obtain⟨ek,sh,n,h1,h2,rfl,h3,h4⟩:=key
 have agg:∀x,zc1 (n+3) x=true->∃l,x= .agg l/\l.length=n/\l.all isI=true:=fun x hx=>by
  cases x<;>simp only[zc1]at hx<;>(try (cases hx;done))
  rw[wo,beq_iff_eq]at hx
  exact⟨_,rfl,hx.1,hx.2⟩
 refine⟨fun x hx es r w hf=> ?_,fun x hx b w=> ?_⟩
 . obtain⟨l,rfl,hl,hi⟩:=agg x hx
   have hq:∀e∈es,∀b,zh1 (.agg l) e.1=some b->(Op.equal kt (zbd (.agg l)) (zbd e.1)).run P w= .ok b w:=fun e he b hb=>by
    obtain⟨k,v,c⟩:=e
    cases k<;>simp only[zh1]at hb<;>(try (cases hb;done))
    rename_i m
    obtain⟨e1,e2,e3,_⟩:=zjl hb
    exact zs7 (G:=gh0) SF 10000 SF kt sh ek _ _ _ _ b (by decide) h1 h2 (h3 l hl hi) (h3 m (by omega) e3) (zqf hi) (zqf e3) (h4 l m b hl hb)
   have hfa:=zmz (i:=0) hq hf
   simp only[wd]at hfa
   simp only[Instr.findKey,Sem.run_bind,zaj hd,Result.andThen_ok]
   cases es with
   | nil =>
     simp only[zcg,WF]at hf
     subst hf
     simp[Instr.findNow]
   | cons e es =>
     simp only[wK,Instr.findNow,hw]
     exact hfa
 . obtain⟨l,rfl,hl,hi⟩:=agg x hx
   exact z44 (G:=gh0) b SF 10000 SF kt sh ek _ _ (by decide) h1 h2 (h3 l hl hi) (zqf hi)
theorem zhv {t:TypeId}{kk:Nat}{z:AV}(h:zun P t=some (kk,z)):MapT P t kk z:=by
 unfold zun at h
 split at h
 . rename_i kt e hu
   simp only[WH]at h
   obtain⟨kk',hkk,i,hi,zv,hz,z',hz',h⟩:=h
   rw[WI,WF,WM]at h
   obtain⟨hkv,rfl,rfl⟩:=h
   have hzv:zv=zbd z':=z7g (H:= #[]) (G:=⟨fun _=>False,fun _=>none,fun _=>none⟩) hkv ((zae (zml hkv)).2 (zlg hz').2.2)
   subst hzv
   unfold kkOf at hkk
   have both:(∀x,zc1 kk' x=true->∀(es:List (AV×AV×Nat)) (r:Option (Nat×AV)) (w:World),zcg x es=some r->(Instr.findKey kt (zbd x) (es.map entV)).run P w= .ok (r.map fun p=>(p.1,zbd p.2)) w) /\
     ∀x,zc1 kk' x=true->∀b w,(Instr.checkKey b 10000 kt (zbd x)).run P w= .ok () w:=by
    have plain:∀(d:TypeDesc),P.underlying kt=some d->(∀x,zc1 kk' x=true->∀e b,zh1 x e=some b->Instr.sameNow d (zbd x) (zbd e)=some b)->(∀x,zc1 kk' x=true->∀b w,(Instr.checkKey b 10000 kt (zbd x)).run P w= .ok () w)->_:=fun d hd h1 h2 =>
     (⟨fun x hx es r w hf=>zu1 hd (h1 x hx) hf w,h2⟩:(∀x,zc1 kk' x=true->∀(es:List (AV×AV×Nat)) (r:Option (Nat×AV)) (w:World),zcg x es=some r->(Instr.findKey kt (zbd x) (es.map entV)).run P w= .ok (r.map fun p=>(p.1,zbd p.2)) w) /\
     ∀x,zc1 kk' x=true->∀b w,(Instr.checkKey b 10000 kt (zbd x)).run P w= .ok () w)
    split at hkk
    . rename_i ik hk
      cases hkk
      refine plain _ hk (fun x hx y b hb=> ?_) fun x hx b w=> ?_
      . obtain⟨k,n,rfl⟩:∃k n,x= .int k n:=by cases x<;>first|exact⟨_,_,rfl⟩|cases hx
        cases y<;>simp only[zh1]at hb<;>try cases hb
        rw[WI]at hb
        obtain⟨h1,h2⟩:=hb
        cases h2
        simp only[zbd,Instr.sameNow,h1,if_true]
      . rw[show(10000:Nat)=9999+1 from rfl]
        unfold Instr.checkKey
        simp only[Sem.run_bind,zaj hk,Result.andThen_ok]
        cases x<;>first|rfl|cases hx
    . rename_i hk
      cases hkk
      refine plain _ hk (fun x hx y b hb=> ?_) fun x hx b w=> ?_
      . obtain⟨l,rfl⟩:∃l,x= .str l:=by cases x<;>first|exact⟨_,rfl⟩|cases hx
        cases y<;>simp only[zh1]at hb<;>try cases hb
        rename_i l'
        simp only[zbd,Instr.sameNow,WF]
        by_cases h:l=l'
        . subst h;rw[(z5h _ _).2 rfl];simp
        . have h2:(⟨⟨l⟩⟩:ByteArray)≠⟨⟨l'⟩⟩:=fun e=>h (by cases e;rfl)
          rw[beq_eq_false_iff_ne.2 h,Bool.eq_false_iff.2 fun e=>h2 ((z5h _ _).1 e)]
      . rw[show(10000:Nat)=9999+1 from rfl]
        unfold Instr.checkKey
        simp only[Sem.run_bind,zaj hk,Result.andThen_ok]
        cases x<;>first|rfl|cases hx
    . rename_i hk
      cases hkk
      refine plain _ hk (fun x hx y b hb=> ?_) fun x hx b w=> ?_
      . obtain⟨l,rfl⟩:∃l,x= .bool l:=by cases x<;>first|exact⟨_,rfl⟩|cases hx
        cases y<;>simp only[zh1]at hb<;>try cases hb
        simp only[zbd,Instr.sameNow]
      . rw[show(10000:Nat)=9999+1 from rfl]
        unfold Instr.checkKey
        simp only[Sem.run_bind,zaj hk,Result.andThen_ok]
        cases x<;>first|rfl|cases hx
    . rename_i hk
      exact zrc hkk hk fun a b=>rfl
    . rename_i hk
      exact zrc hkk hk fun a b=>rfl
    . cases hkk
   exact⟨⟨kt,e,hu,fun w=>by simp[zeroValue,zfb hi,hz],hkv,both.1⟩,fun kt' e' hu' x hx b w=>by
    rw[hu]at hu'
    cases hu'
    exact both.2 x hx b w⟩
 . cases h
theorem zhz :∀{es:List (AV×AV×Nat)} {x:AV} {i:Nat} {v:AV},zcg x es=some (some (i,v))->∃e,es[i]? =some e/\e.2.1=v/\zh1 x e.1=some true
 | [],x,i,v,h=>by simp[zcg]at h
 | e::es,x,i,v,h=>by
   simp only[zcg,WH]at h
   obtain⟨t,ht,h⟩:=h
   cases t with
   | true =>
     simp only[if_true,WF,WM]at h
     obtain⟨rfl,rfl⟩:=h
     exact⟨e,rfl,rfl,ht⟩
   | false =>
     simp only[wp,if_false,WG]at h
     obtain⟨r',hr',h⟩:=h
     cases r' with
     | none=>simp at h
     | some p =>
       obtain⟨a,b⟩:=p
       simp only[WJ,WF,WM]at h
       obtain⟨_,⟨rfl,rfl⟩,h4,rfl⟩:=h
       subst h4
       obtain⟨e',h1,h2,h3⟩:=zhz hr'
       exact⟨e',by simpa using h1,h2,h3⟩
theorem zwm {x y:AV}(h:zh1 x y=some true):x=y:=by
 cases x<;>cases y<;>simp only[zh1]at h<;>try cases h
 . simp at h;rw[h]
 . rw[WI]at h
   obtain⟨h1,h2⟩:=h
   simp at h2;rw[h1,h2]
 . simp at h;rw[h]
 . rw[(zjl h).2.2.2.2.2 rfl]
theorem zt0 {a:AV}(h:a.kv=true):Instr.sameBits 10000 (zbd a) (zbd a)=true:=by
 cases a with
 | bool b=>simp[zbd,Instr.sameBits]
 | int k n=>simp[zbd,Instr.sameBits]
 | str l=>simp[zbd,Instr.sameBits,z5h]
 | _=>cases h
theorem zro {a:AV}(h:a.kkv=true):Instr.sameBits 10000 (zbd a) (zbd a)=true:=by
 cases a with
 | agg l =>
   rw[show(10000:Nat)=9999+1 from rfl]
   simp only[zbd,Instr.sameBits,beq_self_eq_true,wt,wE]
   rintro ⟨x,y⟩ hp
   obtain⟨i,hi,e⟩:=wL hp
   simp only[List.getElem_zip,wT,WM]at e
   obtain⟨rfl,rfl⟩:=e
   have hil:i<l.length:=by simpa using hi
   have:=wE.1 (show l.all isI=true from h) l[i] (wS hil)
   generalize l[i]=z at *
   cases z<;>first|(simp[valI,Instr.sameBits];done)|cases this
 | _=>first|exact zt0 h|cases h
theorem set_self {α:Type}:∀{l:List α} {i:Nat} {x:α},l[i]? =some x->l.set i x=l
 | y::l,0,x,h=>by simp at h;simp[h]
 | y::l,i+1,x,h=>by simp at h;simp[set_self h]
 | [],i,x,h=>by simp at h
theorem zn0 (es:List (AV×AV×Nat))(i:Nat)(f:MapEntry->MapEntry)(e':AV×AV×Nat)(h:∀e,es[i]? =some e->f (entV e)=entV e') :
  ((es.map entV).toArray).modify i f=((es.set i e').map entV).toArray:=by
 apply WE
 . simp
 . intro j h1 h2
   simp only[wy,w9,wT]
   by_cases hij:i=j
   . subst hij
     have hl:i<es.length:=by simpa using h2
     simp only[if_true]
     rw[h _ (wG hl)]
     simp
   . simp only[hij,if_false]
     rw[List.getElem_set_ne hij]
structure MapAt (w:World)(G:Gh)(hp:Hp)(q b:Nat)(es:List (AV×AV×Nat))(c:Nat):Prop where
 hk:hp.get q=some (.mp es c)
 reg:G.reg q=some (.blk b .sc)
 at':w.heap[b]? =some (.map (es.map entV).toArray c)
 kv:∀e∈es,e.1.kkv=true/\e.2.1.kv=true
theorem zyh {hp:Hp}{q:Nat}{es:List (AV×AV×Nat)}{c:Nat}{v:Value}(inv:Inv w.heap G hp)(hk:hp.get q=some (.mp es c))(hv:RepT w.heap G v (.mp q)) :
  ∃b,v= .map (some b)/\MapAt w G hp q b es c:=by
 rw[zae rfl]at hv
 obtain⟨b,rfl,hr⟩:=qcg hv
 obtain⟨b',h1,h2,h3⟩:=inv.obs q _ hk
 rw[hr]at h1
 cases h1
 exact⟨b,rfl,hk,hr,h2,h3⟩
section
variable {hp :Hp} {q b:Nat} {es:List (AV×AV×Nat)} {c:Nat}
theorem MapAt.get (h:MapAt w G hp q b es c):(getObj b).run P w= .ok (.map (es.map entV).toArray c) w:=by
 simp[getObj,Sem.run,h.at']
theorem MapAt.set (h:MapAt w G hp q b es c)(x:Obj):(setObj b x).run P w= .ok () {w with heap:=w.heap.setIfInBounds b x}:=by
 simp[setObj,Sem.run,h.at']
theorem MapAt.step (h:MapAt w G hp q b es c)(inv:Inv w.heap G hp)(es':List (AV×AV×Nat))(c':Nat)(hkv:∀e∈es',e.1.kkv=true/\e.2.1.kv=true) :
  Step w.heap G hp (w.heap.setIfInBounds b (.map (es'.map entV).toArray c')) G ((q,.mp es' c')::hp) :=
 zck inv h.hk _ _ (by simp) (fun b' hb'=>za8 fun e=>hb' ⟨_,.of (e▸h.reg),⟨_,h.hk,by simp⟩⟩) (fun _=>by simp) fun le =>
  ⟨b,h.reg,zbs h.at',hkv⟩
theorem qgq {x:AV}(h:x.kkv=true):(Instr.keyThatStays (zbd x) (zbd x)).run P w= .ok (zbd x) w:=by
 simp[Instr.keyThatStays,zro h]
theorem zw0 {i:Nat}{e:AV×AV×Nat}(h:es[i]? =some e)(k:Value):((((es.map entV).toArray[i]?).map (·.key)).getD k)=zbd e.1:=by
 simp[h,entV]
theorem z3x {i:Nat}:((((es.map entV).toArray[i]?).map fun x=>(x.born:Int)).getD 0)=(zq2 es i:Int):=by
 unfold zq2
 cases h:es[i]? <;>simp[h,entV]
end
theorem zy5 {t:TypeId}{r:Option Operand}(hst:StOk w.heap G st a.tmps)(ho:o.op= .makeMap t r)(hc:zan P im o=some m)
  (hs:zaa gl cl st o.dst m=some (v,us)):Good P w G st.hp (execOp a.eval o) v us:=by
 simp only[zan,ho]at hc
 split at hc
 . cases hc
   simp only[zaa,vals,zbh]at hs
   split at hs
   . rename_i q hq
     split at hs
     . rename_i hn
       cases hs
       refine⟨.map (some w.heap.size),{w with heap:=w.heap.push (.map #[] 0)},G.with q (.blk w.heap.size .sc),⟨rfl,rfl⟩,.inl ?_,?_,(zae rfl).2 (.mp q _ (by simp[Gh.with]))⟩
       . simp[execOp,ho,Instr.makeMap]
       . exact zit hst.inv (by simpa using hn) _ .sc _ fun le=>⟨w.heap.size,by simp[Gh.with],by simp,fun e he=>by cases he⟩
     . cases hs
   . cases hs
 . cases hc
theorem z3j {t:TypeId}{x i:Operand}{ok:Bool}(hg:GlOk w.heap G gl)(hst:StOk w.heap G st a.tmps)(ho:o.op= .lookup t x i ok)(hc:zan P im o=some m)
  (hs:zaa gl cl st o.dst m=some (v,us)):Good P w G st.hp (execOp a.eval o) v us:=by
 simp only[zan,ho,WH,WG]at hc
 obtain⟨⟨kk,z⟩,hz,x',hx,i',hi,rfl⟩:=hc
 have hvx:=zam hg hst hx
 have hvi:=zam hg hst hi
 simp only[zaa,vals]at hs
 generalize Opd.val gl st.fr x'=ax at *
 generalize Opd.val gl st.fr i'=ai at *
 cases ax<;>simp only[zbh]at hs<;>try cases hs
 rename_i q
 split at hs
 . rename_i es c hk
   rw[WI,WG]at hs
   obtain⟨hko,r,hr,hs⟩:=hs
   cases hs
   obtain⟨b,hb,hm⟩:=zyh hst.inv hk hvx
   obtain⟨⟨kt,e,h1,h3,h4,h5⟩,h6⟩:=zhv hz
   have hkv:=zjc hko
   have hei:=zwj hkv hvi
   have hf:=h5 _ hko es _ w hr
   have run:(execOp a.eval o).run P w= .ok (.value (match r with|some p=>if ok then .tuple #[zbd p.2,.bool true]else zbd p.2|none=>if ok then .tuple #[zbd z,.bool false]else zbd z)) w:=by
    simp only[execOp,ho,Instr.lookup,hb,hei,Sem.run_bind,zaj h1,Result.andThen_ok,hm.get,h6 kt e h1 _ hko,wJ,Sem.run_pure]
    simp only[wJ,hf,Result.andThen_ok]
    cases r<;>cases ok<;>simp[h3]
   refine⟨_,w,G,⟨rfl,rfl⟩,.inl run,Step.refl hst.inv,?_⟩
   have tup:∀{y:AV} {t:Bool},y.kv=true->RepT w.heap G (.tuple #[zbd y,.bool t]) (.tup [y,.bool t]):=fun{y t} hy=>by
    refine⟨_,rfl,rfl,fun i hi hi'=> ?_⟩
    match i,hi' with
    | 0,_=>exact(RepT.of_known (AV.known_scalar (zml hy))).1 (zwi hy)
    | 1,_=>exact(RepT.of_known (a:=.bool t) rfl).1 (zb6 t)
   cases r with
   | none =>
     cases ok
     . exact zwi h4
     . exact tup h4
   | some p =>
     obtain⟨e',he1,he2,_⟩:=zhz (i:=p.1) (v:=p.2) hr
     have hp2:p.2.kv=true:=by rw[<-he2];exact(hm.kv e' (wP he1)).2
     cases ok
     . exact zwi hp2
     . exact tup hp2
 . cases hs
theorem z7x {t:TypeId}{x i y:Operand}(hg:GlOk w.heap G gl)(hst:StOk w.heap G st a.tmps)(ho:o.op= .mapUpdate t x i y)(hc:zan P im o=some m)
  (hs:zaa gl cl st o.dst m=some (v,us)):Good P w G st.hp (execOp a.eval o) v us:=by
 simp only[zan,ho,WH,WG]at hc
 obtain⟨⟨kk,z⟩,hz,x',hx,i',hi,y',hy,rfl⟩:=hc
 have hvx:=zam hg hst hx
 have hvi:=zam hg hst hi
 have hvy:=zam hg hst hy
 simp only[zaa,vals]at hs
 generalize Opd.val gl st.fr x'=ax at *
 generalize Opd.val gl st.fr i'=ai at *
 generalize Opd.val gl st.fr y'=ay at *
 cases ax<;>simp only[zbh]at hs<;>try cases hs
 rename_i q
 split at hs
 . rename_i es c hk
   rw[WI,WG,wo]at hs
   obtain⟨⟨hko,hky⟩,r,hr,hs⟩:=hs
   cases hs
   obtain⟨b,hb,hm⟩:=zyh hst.inv hk hvx
   obtain⟨⟨kt,e,h1,h3,h4,h5⟩,h6⟩:=zhv hz
   have hkv:=zjc hko
   have hei:=zwj hkv hvi
   have hey:=z7g hky hvy
   have hf:=h5 _ hko es _ w hr
   cases r with
   | none =>
     refine⟨undef,{w with heap:=w.heap.setIfInBounds b (.map ((es++[(ai,ay,c)]).map entV).toArray (c+1))},G,⟨rfl,rfl⟩,.inr ⟨?_,rfl⟩,hm.step hst.inv _ _ fun e he=> ?_,trivial⟩
     . simp only[execOp,ho,Instr.mapUpdate,hb,hei,hey,Sem.run_bind,zaj h1,Result.andThen_ok,hm.get,h6 kt e h1 _ hko,wJ,hf,WK,hm.set,Sem.run_pure]
       simp[entV]
     . rcases wF.1 he with he|he
       . exact hm.kv e he
       . rw[wb.1 he];exact⟨hkv,hky⟩
   | some p =>
     obtain⟨e',he1,he2,he3⟩:=zhz (i:=p.1) (v:=p.2) hr
     have hke:=zwm he3
     refine⟨undef,{w with heap:=w.heap.setIfInBounds b (.map ((es.set p.1 (ai,ay,zq2 es p.1)).map entV).toArray c)},G,⟨rfl,rfl⟩,.inr ⟨?_,rfl⟩,hm.step hst.inv _ _ fun e he=> ?_,trivial⟩
     . simp only[execOp,ho,Instr.mapUpdate,hb,hei,hey,Sem.run_bind,zaj h1,Result.andThen_ok,hm.get,h6 kt e h1 _ hko,wJ,hf,WJ,zw0 he1,<-hke,qgq hkv,hm.set,Sem.run_pure]
       rw[zn0 es p.1 _ (ai,ay,zq2 es p.1) fun e0 he0=>by rw[he1]at he0;cases he0;simp[entV,zq2,he1]]
     . rcases List.mem_or_eq_of_mem_set he with he|rfl
       . exact hm.kv e he
       . exact⟨hkv,hky⟩
 . cases hs
theorem z72 {t:TypeId}{x i:Operand}(hg:GlOk w.heap G gl)(hst:StOk w.heap G st a.tmps)(ho:o.op= .mapEntry t x i)(hc:zan P im o=some m)
  (hs:zaa gl cl st o.dst m=some (v,us)):Good P w G st.hp (execOp a.eval o) v us:=by
 simp only[zan,ho,WH,WG]at hc
 obtain⟨⟨kk,z⟩,hz,x',hx,i',hi,rfl⟩:=hc
 have hvx:=zam hg hst hx
 have hvi:=zam hg hst hi
 simp only[zaa,vals]at hs
 generalize Opd.val gl st.fr x'=ax at *
 generalize Opd.val gl st.fr i'=ai at *
 cases ax<;>simp only[zbh]at hs<;>try cases hs
 rename_i q
 have tup:∀{H:Heap} {y:AV} {t:Nat},y.kv=true->RepT H G (.tuple #[zbd y,goInt t]) (.tup [y,.int .i64 t]):=fun{H y t} hy=>by
  refine⟨_,rfl,rfl,fun i hi hi'=> ?_⟩
  match i,hi' with
  | 0,_=>exact(RepT.of_known (AV.known_scalar (zml hy))).1 (zwi hy)
  | 1,_=>exact(RepT.of_known (a:=.int .i64 t) rfl).1 (zat _ _)
 split at hs
 . rename_i es c hk
   rw[WI,WG]at hs
   obtain⟨hko,r,hr,hs⟩:=hs
   obtain⟨b,hb,hm⟩:=zyh hst.inv hk hvx
   obtain⟨⟨kt,e,h1,h3,h4,h5⟩,h6⟩:=zhv hz
   have hkv:=zjc hko
   have hei:=zwj hkv hvi
   have hf:=h5 _ hko es _ w hr
   cases r with
   | none =>
     cases hs
     refine⟨_,{w with heap:=w.heap.setIfInBounds b (.map ((es++[(ai,z,c)]).map entV).toArray (c+1))},G,⟨rfl,rfl⟩,.inl ?_,hm.step hst.inv _ _ fun e he=> ?_,tup h4⟩
     . simp only[execOp,ho,Instr.mapEntry,hb,hei,Sem.run_bind,zaj h1,Result.andThen_ok,hm.get,h6 kt e h1 _ hko,wJ,hf,WK,h3,hm.set,Sem.run_pure]
       simp[entV]
     . rcases wF.1 he with he|he
       . exact hm.kv e he
       . rw[wb.1 he];exact⟨hkv,h4⟩
   | some p =>
     cases hs
     obtain⟨e',he1,he2,he3⟩:=zhz (i:=p.1) (v:=p.2) hr
     have hke:=zwm he3
     have hp2:p.2.kv=true:=by rw[<-he2];exact(hm.kv e' (wP he1)).2
     refine⟨_,{w with heap:=w.heap.setIfInBounds b (.map (es.map entV).toArray c)},G,⟨rfl,rfl⟩,.inl ?_,hm.step hst.inv _ _ hm.kv,tup hp2⟩
     simp only[execOp,ho,Instr.mapEntry,hb,hei,Sem.run_bind,zaj h1,Result.andThen_ok,hm.get,h6 kt e h1 _ hko,wJ,hf,WJ,zw0 he1,<-hke,qgq hkv,hm.set,Sem.run_pure,z3x]
     rw[zn0 es p.1 _ e' fun e0 he0=>by rw[he1]at he0;cases he0;simp[entV,hke],set_self he1]
 . cases hs
theorem z15 {α β:Type}(f:α->β)(l:List α)(i:Nat):(l.map f).eraseIdx i=(l.eraseIdx i).map f:=by
 rw[wZ,wZ,List.map_append,List.map_take,List.map_drop]
theorem z4f {α:Type}(l:List α)(i:Nat):l.toArray.eraseIdxIfInBounds i=(l.eraseIdx i).toArray:=by
 unfold Array.eraseIdxIfInBounds
 split
 . apply Array.ext'
   simp
 . rename_i h
   rw[List.eraseIdx_of_length_le (by simpa using h)]
theorem zvh (es:List (AV×AV×Nat))(n:Int):((es.map entV).toArray.findIdx? fun e=>(e.born:Int)==n)=zoy es n:=by
 unfold zoy
 rw[List.findIdx?_toArray,List.findIdx?_map]
 rfl
theorem z7y {t:TypeId}{x i y:Operand}(hg:GlOk w.heap G gl)(hst:StOk w.heap G st a.tmps)(ho:o.op= .entryStore t x i y)(hc:zan P im o=some m)
  (hs:zaa gl cl st o.dst m=some (v,us)):Good P w G st.hp (execOp a.eval o) v us:=by
 simp only[zan,ho,WH,WG]at hc
 obtain⟨x',hx,i',hi,y',hy,rfl⟩:=hc
 have hvx:=zam hg hst hx
 have hvi:=zam hg hst hi
 have hvy:=zam hg hst hy
 simp only[zaa,vals]at hs
 generalize Opd.val gl st.fr x'=ax at *
 generalize Opd.val gl st.fr i'=ai at *
 generalize Opd.val gl st.fr y'=ay at *
 cases ax<;>simp only[zbh]at hs<;>try cases hs
 rename_i q
 cases ai<;>simp only[zbh]at hs<;>try cases hs
 rename_i k n
 split at hs
 . rename_i es c hk
   rw[WI,WG]at hs
   obtain⟨hky,j,hr,hs⟩:=hs
   cases hs
   obtain⟨b,hb,hm⟩:=zyh hst.inv hk hvx
   have hei:=zas hvi
   have hey:=z7g hky hvy
   have hf:=zvh es n
   rw[hr]at hf
   have he:(es.map entV).toArray.modify j (fun e=>{e with val:=zbd ay})=((stoE es j ay).map entV).toArray:=by
    unfold stoE
    apply WE
    . simp
    . intro l h1 h2
      simp only[wy,w9,wT,wa]
      by_cases hjl:j=l
      . simp[hjl,entV]
      . simp[hjl]
   refine⟨undef,{w with heap:=w.heap.setIfInBounds b (.map ((stoE es j ay).map entV).toArray c)},G,⟨rfl,rfl⟩,.inr ⟨?_,rfl⟩,hm.step hst.inv _ _ fun e he=> ?_,trivial⟩
   . have hn:(Go.asInt (Value.int k n)).run P w= .ok n w:=rfl
     simp only[execOp,ho,Instr.entryStore,hb,hei,hey,hn,Sem.run_bind,Result.andThen_ok,hm.get,Sem.run_pure,hf,hm.set,he]
   . unfold stoE at he
     obtain⟨l,hl,rfl⟩:=wL he
     rw[wa]
     have hl':l<es.length:=by simpa using hl
     have:=hm.kv es[l] (wS hl')
     split
     . exact⟨this.1,hky⟩
     . exact this
 . cases hs
theorem z73 {c:Call}{t u:TypeId}{x i:Operand}{x' i':Opd}{kk:Nat}{z:AV}(hg:GlOk w.heap G gl)(hst:StOk w.heap G st a.tmps)(ho:o.op= .call c)(hb:c.callee= .builtin .delete)
  (hargs:c.args= #[x,i]) (ht:c.argTypes= #[t,u]) (hz:zun P t=some (kk,z)) (hx:zag x=some x') (hi:zag i=some i')
  (hs:zaa gl cl st o.dst (.mapop .del kk z [x',i'])=some (v,us)):Good P w G st.hp (execOp a.eval o) v us:=by
 have hvx:=zam hg hst hx
 have hvi:=zam hg hst hi
 simp only[zaa,vals]at hs
 generalize Opd.val gl st.fr x'=ax at *
 generalize Opd.val gl st.fr i'=ai at *
 cases ax<;>simp only[zbh]at hs<;>try cases hs
 rename_i q
 split at hs
 . rename_i es cc hk
   rw[WI,WG]at hs
   obtain⟨hko,r,hr,hs⟩:=hs
   cases hs
   obtain⟨b,hbv,hm⟩:=zyh hst.inv hk hvx
   obtain⟨⟨kt,e,h1,h3,h4,h5⟩,h6⟩:=zhv hz
   have hkv:=zjc hko
   have hei:=zwj hkv hvi
   have hf:=h5 _ hko es _ w hr
   have run:∀{w':World},(Builtin.delete_ #[t,u] o.type #[a.eval x,a.eval i]).run P w= .ok (.tuple #[]) w'->(execOp a.eval o).run P w= .ok (.value (.tuple #[])) w':=by
    intro w' hr
    simp only[execOp,ho,resolve,hb,hargs,ht,Sem.run_bind,Sem.run_pure,Result.andThen_ok,invoke,builtin,wM,wK,wQ,hr]
   refine⟨.tuple #[],{w with heap:=w.heap.setIfInBounds b (.map ((delE es r).map entV).toArray cc)},G,⟨rfl,rfl⟩,.inl (run ?_),hm.step hst.inv _ _ fun e he=> ?_,⟨#[],rfl,rfl,fun i hi=>by simp at hi⟩⟩
   . cases r with
     | none =>
       simp only[Builtin.delete_,wC,wB,wD,hbv,hei,Sem.run_bind,zaj h1,Result.andThen_ok,hm.get,h6 kt e h1 _ hko,wJ,hf,WK,hm.set,Sem.run_pure,delE]
     | some p =>
       have he:(es.map entV).toArray.eraseIdxIfInBounds p.1=((es.eraseIdx p.1).map entV).toArray:=by
        rw[<-z15,z4f]
       simp only[Builtin.delete_,wC,wB,wD,hbv,hei,Sem.run_bind,zaj h1,Result.andThen_ok,hm.get,h6 kt e h1 _ hko,wJ,hf,WJ,hm.set,Sem.run_pure,delE,he]
   . cases r with
     | none=>exact hm.kv e he
     | some p=>exact hm.kv e (List.mem_of_mem_eraseIdx he)
 . cases hs
theorem z3f {c:Call}{t kt e:TypeId}{x:Operand}{x':Opd}(hg:GlOk w.heap G gl)(hst:StOk w.heap G st a.tmps)(ho:o.op= .call c)(hb:c.callee= .builtin .len)
  (hargs:c.args= #[x]) (ht:c.argTypes= #[t]) (hu:P.underlying t=some (.map kt e)) (hx:zag x=some x')
  (hs:zaa gl cl st o.dst (.mapop .len 0 .unk [x'])=some (v,us)):Good P w G st.hp (execOp a.eval o) v us:=by
 have hvx:=zam hg hst hx
 simp only[zaa,vals]at hs
 generalize Opd.val gl st.fr x'=ax at *
 cases ax<;>simp only[zbh]at hs<;>try cases hs
 rename_i q
 split at hs
 . rename_i es cc hk
   cases hs
   obtain⟨b,hbv,hm⟩:=zyh hst.inv hk hvx
   refine⟨_,w,G,⟨rfl,rfl⟩,.inl ?_,Step.refl hst.inv,zat .i64 es.length⟩
   simp only[execOp,ho,resolve,hb,hargs,ht,Sem.run_bind,Sem.run_pure,Result.andThen_ok,invoke,builtin,wM,wK,wQ,hbv,Builtin.len_,wC,wB,zaj hu,hm.get]
   simp[goInt]
 . cases hs
end Go.Ev
namespace Go.Ev
open Go
variable {im :Im} {P:Program} {w:World} {H:Heap} {G:Gh} {gl:Gl} {cl:Cl} {st:St} {a:Act} {o:Oper} {m:MOp} {v:AV} {us:Hp}
theorem zjn {x:Option Operand}{y:Option Opd}(h:zbt x=some y)(hn:y.isNone=true):x=none:=by
 cases x with
 | none=>rfl
 | some x =>
   simp only[zbt,WG]at h
   obtain⟨z,_,rfl⟩:=h
   cases hn
theorem qcu {xs:Array Operand}{y:Opd}(h:mapO zag xs.toList=some [y]):∃x,xs= #[x]/\zag x=some y:=by
 obtain⟨xs⟩:=xs
 obtain⟨h1,h2⟩:=zd9 h
 match xs,h1 with
 | [x],_ =>
   obtain⟨z,hz,hx⟩:=h2 0 x rfl
   simp only[wB,WF]at hz
   subst hz
   exact⟨x,rfl,hx⟩
theorem qct {xs:Array Operand}{y z:Opd}(h:mapO zag xs.toList=some [y,z]):∃x x',xs= #[x,x']/\zag x=some y/\zag x'=some z:=by
 obtain⟨xs⟩:=xs
 obtain⟨h1,h2⟩:=zd9 h
 match xs,h1 with
 | [x,x'],_ =>
   obtain⟨u,hu,hx⟩:=h2 0 x rfl
   obtain⟨u',hu',hx'⟩:=h2 1 x' rfl
   simp only[wB,wD,WF]at hu hu'
   subst hu hu'
   exact⟨x,x',rfl,hx,hx'⟩
theorem zze {bop:BinOp}{t yt:TypeId}{x y:Operand}(hg:GlOk w.heap G gl)(hst:StOk w.heap G st a.tmps)(ho:o.op= .binOp bop t x y yt)(hc:zan P im o=some m)
  (hs:zaa gl cl st o.dst m=some (v,us)):Good P w G st.hp (execOp a.eval o) v us:=by
 simp only[zan,ho,WH]at hc
 obtain⟨x',hx,y',hy,hc⟩:=hc
 have agg:∀{neg:Bool},bop=(if neg then .neq else .eql)->(∀sh,shOf P SF t=some sh->sh.agg=true) ->
   (if(!P.eqGuardType P.depth t)=true then(shOf P SF t).bind fun sh=>(ekOf P SF t).map fun k=>MOp.eqA neg sh k x' y' else none)=some m->Good P w G st.hp (execOp a.eval o) v us:=by
  intro neg hop hag h
  split at h
  . rename_i hgd
    simp only[wq]at hgd
    simp only[WH,WG]at h
    obtain⟨sh,hsh,k,hk,rfl⟩:=h
    exact z71 hg hst ho hop (hag sh hsh) hgd hsh hk hx hy hs
  . cases h
 split at hc
 . rename_i fs hu
   exact agg (neg:=false) rfl (fun sh h=>by obtain⟨fs',rfl,_⟩:=zc9 h hu;rfl) hc
 . rename_i fs hu
   exact agg (neg:=true) rfl (fun sh h=>by obtain⟨fs',rfl,_⟩:=zc9 h hu;rfl) hc
 . rename_i k e hu
   exact agg (neg:=false) rfl (fun sh h=>by obtain⟨s,rfl,_⟩:=zdw h hu;rfl) hc
 . rename_i k e hu
   exact agg (neg:=true) rfl (fun sh h=>by obtain⟨s,rfl,_⟩:=zdw h hu;rfl) hc
 . cases hc;exact zwy hg hst ho hx hy hs
 . cases hc;exact zwy hg hst ho hx hy hs
 . rename_i hu;cases hc;exact z3q hg hst ho hx hy hu hs
 . cases hc
theorem zsx {s d:TypeId}{x:Operand}(hg:GlOk w.heap G gl)(hst:StOk w.heap G st a.tmps)(ho:o.op= .convert s d x)(hc:zan P im o=some m)
  (hs:zaa gl cl st o.dst m=some (v,us)):Good P w G st.hp (execOp a.eval o) v us:=by
 simp only[zan,ho,WH]at hc
 obtain⟨x',hx,hc⟩:=hc
 split at hc
 . rename_i h1 h2;cases hc;exact z3o hg hst ho hx h1 h2 hs
 . rename_i h1 h2;cases hc;exact z3c hg hst ho hx h1 h2 hs
 . rename_i h1 h2
   split at hc
   . rename_i h3;simp only[wo]at h3;cases hc;exact z7z hg hst ho h1 h2 h3.1 hx hs
   . cases hc
 . rename_i h1 h2
   split at hc
   . rename_i h3;cases hc;exact z75 hg hst ho h1 h2 h3 hx hs
   . cases hc
 . rename_i h1 h2
   split at hc
   . rename_i h3
     simp only[wo,beq_iff_eq]at h3
     cases hc
     obtain⟨rfl,h3⟩:=h3
     exact z70 hg hst ho h2 h3 hx hs
   . cases hc
 . cases hc
theorem zy1 {t:TypeId}{x:Operand}{lo hi mx:Option Operand}(hg:GlOk w.heap G gl)(hst:StOk w.heap G st a.tmps)(ho:o.op= .slice t x lo hi mx)(hc:zan P im o=some m)
  (hs:zaa gl cl st o.dst m=some (v,us)):Good P w G st.hp (execOp a.eval o) v us:=by
 simp only[zan,ho,WH]at hc
 obtain⟨x',hx,lo',hlo,hi',hhi,mx',hmx,hc⟩:=hc
 split at hc
 . rename_i hu
   split at hc
   . rename_i hn;cases hc;exact zy2 hg hst ho hx hlo hhi (zjn hmx hn) hu hs
   . cases hc
 . rename_i e hu
   simp only[WG]at hc
   obtain⟨i,hi,rfl⟩:=hc
   exact z3d hg hst ho hx hlo hhi hmx hu hi hs
 . rename_i n e hu
   split at hc
   . rename_i hn
     simp only[WG]at hc
     obtain⟨i,hi,rfl⟩:=hc
     exact zy3 hg hst ho hx hlo hhi (zjn hmx hn) hu hi hs
   . cases hc
 . cases hc
theorem zpk {t e:TypeId}{n:Nat}{vx:Value}{ty:TypeId}(hu:P.underlying t=some (.array n e)):(Builtin.len_ #[t] ty #[vx]).run P w= .ok (.int .i64 n) w:=by
 simp only[Builtin.len_,wC,wB,Sem.run_bind,zaj hu,Result.andThen_ok,Sem.run_pure]
 rfl
theorem zzc {c:Call}(hg:GlOk w.heap G gl)(hst:StOk w.heap G st a.tmps)(ho:o.op= .call c)(hc:zan P im o=some m)(hn:zfz m=false)
  (hs:zaa gl cl st o.dst m=some (v,us)):Good P w G st.hp (execOp a.eval o) v us:=by
 simp only[zan,ho,WH]at hc
 obtain⟨args,hargs,hc⟩:=hc
 split at hc
 . cases hc;cases hn
 . cases hc;cases hn
 . rename_i hb
   split at hc
   . rename_i t x ht
     obtain⟨x0,hx0,hx⟩:=qcu hargs
     have ht':c.argTypes= #[t]:=by rw[<-wu (xs:=c.argTypes),ht]
     split at hc
     . rename_i hu;cases hc;exact zwx hg hst ho hb hx0 ht' hx (fun _=>hu) (fun h=>by cases h) hs
     . rename_i e hu;cases hc;exact zwx hg hst ho hb hx0 ht' hx (fun h=>by cases h) (fun _=>⟨e,hu⟩) hs
     . rename_i kt e hu;cases hc;exact z3f hg hst ho hb hx0 ht' hu hx hs
     . rename_i n e hu
       cases hc
       simp only[zaa,WF,WM]at hs
       obtain⟨rfl,rfl⟩:=hs
       refine⟨_,w,G,⟨rfl,rfl⟩,.inl ?_,Step.refl hst.inv,zat _ _⟩
       simp only[execOp,ho,resolve,hb,hx0,ht',Sem.run_bind,Sem.run_pure,Result.andThen_ok,invoke,builtin,wM,wK,wQ,zpk hu]
     . cases hc
   . cases hc
 . rename_i hb
   split at hc
   . rename_i t u x y ht
     obtain⟨x0,y0,hx0,hx,hy⟩:=qct hargs
     have ht':c.argTypes= #[t,u]:=by rw[<-wu (xs:=c.argTypes),ht]
     split at hc
     . rename_i e e' hu hu2
       simp only[WH,WG]at hc
       obtain⟨⟨sh,z⟩,hz,i,hi,rfl⟩:=hc
       exact zmv hg hst ho hb hx0 ht' hu (.inr ⟨e',hu2⟩) hz hi hx hy hs
     . rename_i e hu hu2
       simp only[WH,WG]at hc
       obtain⟨⟨sh,z⟩,hz,i,hi,rfl⟩:=hc
       exact zmv hg hst ho hb hx0 ht' hu (.inl hu2) hz hi hx hy hs
     . rename_i e hu hu2
       simp only[WH,WG]at hc
       obtain⟨⟨sh,z⟩,hz,i,hi,rfl⟩:=hc
       exact zzg hg hst ho hb hx0 ht' hu hu2 hz hi hx hy hs
     . cases hc
   . cases hc
 . rename_i hb
   split at hc
   . rename_i t u x y ht
     obtain⟨x0,y0,hx0,hx,hy⟩:=qct hargs
     have ht':c.argTypes= #[t,u]:=by rw[<-wu (xs:=c.argTypes),ht]
     split at hc
     . rename_i e hu
       simp only[WG]at hc
       obtain⟨sh,hsh,rfl⟩:=hc
       exact z3n hg hst ho hb hx0 ht' hu hsh hx hy hs
     . cases hc
   . cases hc
 . rename_i hb
   split at hc
   . rename_i t x ht
     obtain⟨x0,hx0,hx⟩:=qcu hargs
     have ht':c.argTypes= #[t]:=by rw[<-wu (xs:=c.argTypes),ht]
     split at hc
     . rename_i e hu
       simp only[WG]at hc
       obtain⟨⟨sh,z⟩,hz,rfl⟩:=hc
       exact zzb hg hst ho hb hx0 ht' hu hz hx hs
     . cases hc
   . cases hc
 . rename_i hb
   split at hc
   . rename_i t x ht
     obtain⟨x0,hx0,hx⟩:=qcu hargs
     have ht':c.argTypes= #[t]:=by rw[<-wu (xs:=c.argTypes),ht]
     split at hc
     . rename_i e hu
       cases hc
       exact z3p hg hst ho hb hx0 ht' hu hx hs
     . cases hc
   . cases hc
 . rename_i hb
   split at hc
   . rename_i t u x y ht
     obtain⟨x0,y0,hx0,hx,hy⟩:=qct hargs
     have ht':c.argTypes= #[t,u]:=by rw[<-wu (xs:=c.argTypes),ht]
     simp only[WG]at hc
     obtain⟨⟨kk,z⟩,hz,rfl⟩:=hc
     exact z73 hg hst ho hb hx0 ht' hz hx hy hs
   . cases hc
 . rename_i hb;cases hc;exact z3h hg hst ho hb hargs hs
 . rename_i hb;cases hc;exact z3i hg hst ho hb hargs hs
 . cases hc
theorem qdx (hg:GlOk w.heap G gl)(hst:StOk w.heap G st a.tmps)(hc:zan P im o=some m)(hn:∀c,o.op= .call c->zfz m=false)
  (hs:zaa gl cl st o.dst m=some (v,us)):Good P w G st.hp (execOp a.eval o) v us:=by
 cases ho:o.op with
 | move x=>exact zww hg hst (.inl ho) hc hs
 | assign x=>exact zww hg hst (.inr ho) hc hs
 | pick c x y=>exact z3e hg hst ho hc hs
 | alloc t=>exact zzh hst ho hc hs
 | box t x=>exact z74 hg hst ho hc hs
 | build t ps=>exact zzd hg hst ho hc hs
 | buildSlice t n ps=>exact zux hg hst ho hc hs
 | load t x=>exact z3k hg hst ho hc hs
 | store t p x=>exact zy0 hg hst ho hc hs
 | binOp b t x y yt=>exact zze hg hst ho hc hs
 | unOp u t x=>exact qdw hg hst ho hc hs
 | convert s d x=>exact zsx hg hst ho hc hs
 | sliceToArrayPointer t x=>exact zzf hg hst ho hc hs
 | makeFunc f xs ys=>exact z3g hg hst ho hc hs
 | makeSlice t l c=>exact zsw hg hst ho hc hs
 | slice t x lo hi mx=>exact zy1 hg hst ho hc hs
 | fieldAddr t x f=>exact zza hg hst ho hc hs
 | indexAddr t x i=>exact zy8 hg hst ho hc hs
 | field t x f=>exact zy9 hg hst ho hc hs
 | index t x i=>exact zy7 hg hst ho hc hs
 | extract x i=>exact z3m hg hst ho hc hs
 | nilCheck x=>exact zy4 hg hst ho hc hs
 | call c=>exact zzc hg hst ho hc (hn c ho) hs
 | makeMap t r=>exact zy5 hst ho hc hs
 | lookup t x i ok=>exact z3j hg hst ho hc hs
 | mapUpdate t x i y=>exact z7x hg hst ho hc hs
 | mapEntry t x i=>exact z72 hg hst ho hc hs
 | entryStore t x i y=>exact z7y hg hst ho hc hs
 | _=>simp[zan,ho]at hc
end Go.Ev
