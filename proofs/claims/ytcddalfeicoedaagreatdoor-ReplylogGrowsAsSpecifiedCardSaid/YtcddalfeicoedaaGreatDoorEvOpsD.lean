/-
  One operation of the evaluator is one of the model's: copy and append. No condition.
-/
import Derived.Test.YtcddalfeicoedaaGreatDoorEvOpsC
set_option linter.all false
open List renaming getElem?_cons_zero->wA,getElem?_toArray->wB,getElem?_cons_succ->wC,mem_of_mem_take->wD,mem_append->wE,length_append->wF,mem_of_mem_drop->wG,map_toArray->wH,getElem_of_mem->wI,getElem?_eq_getElem->wJ,map_cons->wK,length_pos_iff->wL,map_nil->wM,getElem?_eq_some_iff->wN,getElem_append_left->wO,isEmpty_iff->wP,all_eq_true->wQ,length_nil->wR,mem_of_getElem?->wS,length_take->wT,nil_append->wU,append_nil->wV,getElem_append_right->wW,getElem?_zip_eq_some->wX,eq_of_mem_replicate->wY,length_replicate->wZ,getElem?_range'->w0,append_assoc->w2
open Nat renaming zero_add->w3,mul_le_mul_right->w4,add_mul->w5,le_refl->w6,mul_le_mul_left->w7,le_add_right->w8,sub_zero->w9,add_zero->wa
open Bool renaming and_eq_true->wb,false_eq_true->wc,or_eq_true->wd,not_false->we,not_eq_true'->wg
open Array renaming toArray_toList->wh,getElem?_toList->wi,getElem?_append_left->wj,toList_append->wk,size_append->wl,size_range->wm,size_map->wo
open Option renaming some.injEq->wp,map_eq_some_iff->wq,bind_eq_some_iff->wr,ite_none_right_eq_some->ws,isNone_iff_eq_none->wt
open Prod renaming mk.injEq->wu
namespace Go.Ev
open Go
variable {im :Im} {P:Program} {w:World} {H:Heap} {G:Gh} {gl:Gl} {cl:Cl} {st:St} {a:Act} {o:Oper} {m:MOp} {v:AV} {us:Hp}
theorem zy5 {H:Heap}{G:Gh}{hp:Hp}(inv:Inv H G hp){k kx b:Nat}{ox:OB}{root:Sh}(hkx:hp.get kx=some ox)(hox:ox≠.dead)(hk:hp.get k=none)
  (hr:G.reg kx=some (.blk b root)) (H':Heap) (ob:OB) (hsz:H'.size=H.size) (hoth:∀b',b'≠b->H'[b']? =H[b']?)
  (hob:Le H G H' (G.with k (.blk b root))->ObOk H' (G.with k (.blk b root)) k ob):Step H G hp H' (G.with k (.blk b root)) ((kx,.dead)::(k,ob)::hp):=by
 have hne:kx≠k:=fun e=>by rw[e,hk]at hkx;cases hkx
 have hreg:=inv.out k hk
 have hLb:Live G hp b:=⟨kx,root,⟨ox,hkx,hox⟩,.of hr⟩
 have hle:Le H G H' (G.with k (.blk b root)):=Gh.with_le hreg fun b' hb'=>hoth b' fun e=>(inv.imm b' hb').2 (e▸hLb)
 have hlo:∀j,zbk ((kx,.dead)::(k,ob)::hp) j->j≠kx/\(j=k\/(j≠k/\zbk hp j)):=fun j hj=>by
  rcases zb4.1 hj with ⟨_,h⟩|⟨h1,h2⟩
  . exact absurd rfl h
  . rcases zb4.1 h2 with ⟨h3,_⟩|⟨h3,h4⟩
    . exact⟨fun e=>h1 e.symm,.inl h3.symm⟩
    . exact⟨fun e=>h1 e.symm,.inr ⟨fun e=>h3 e.symm,h4⟩⟩
 have hregne:∀j,j≠k->(G.with k (.blk b root)).reg j=G.reg j:=fun j h=>by simp[Gh.with,h]
 have hregk:(G.with k (.blk b root)).reg k=some (.blk b root):=by simp[Gh.with]
 have hL:∀b',Live (G.with k (.blk b root)) ((kx,.dead)::(k,ob)::hp) b'->Live G hp b':=by
  rintro b' ⟨j,r,hl,hr'⟩
  obtain⟨_,rfl|⟨h2,h3⟩⟩:=hlo j hl
  . rw[Gh.with_at,if_pos rfl]at hr'
    exact hr'.1▸hLb
  . rw[Gh.with_at,if_neg h2]at hr'
    exact⟨j,r,h3,hr'⟩
 refine⟨⟨?_,?_,?_,?_,?_⟩,hle,by omega,fun b' _ hl=>hoth b' fun e=>hl (e▸hLb),fun b' hb=>.inl (hL b' hb),fun b' hb=>.inl hb⟩
 . intro j o hj
   rw[Hp.get_cons]at hj
   by_cases h:kx=j
   . subst h
     simp at hj;subst hj
     exact⟨_,by rw[hregne _ hne];exact hr⟩
   . simp only[h,if_false]at hj
     rw[Hp.get_cons]at hj
     by_cases h':k=j
     . subst h';simp at hj;subst hj;exact hob hle
     . simp only[h',if_false]at hj
       refine ObOk.mono (hp:=hp) hle (fun hl b' r hr'=>hoth b' fun e=> ?_) (fun r hr'=>by simp only[Gh.with,show ¬j=k from fun e=>h' e.symm,if_false];exact hr') hj (inv.obs j o hj)
       subst e
       exact h (inv.dist kx j b' root r (.of hr) hr' ⟨ox,hkx,hox⟩ hl)
 . intro j hj
   rw[Hp.get_cons]at hj
   by_cases h:kx=j
   . simp[h]at hj
   . simp only[h,if_false]at hj
     rw[Hp.get_cons]at hj
     by_cases h':k=j
     . simp[h']at hj
     . simp only[h',if_false]at hj
       rw[hregne j (fun e=>h' e.symm)]
       exact inv.out j hj
 . intro j j' b' r r' hj hj' hl hl'
   obtain⟨h1,h2⟩:=hlo j hl
   obtain⟨h1',h2'⟩:=hlo j' hl'
   rcases h2 with rfl|⟨h2,h3⟩<;>rcases h2' with rfl|⟨h2',h3'⟩
   . rfl
   . rw[Gh.with_at,if_pos rfl]at hj
     rw[Gh.with_at,if_neg h2']at hj'
     exact absurd (inv.dist j' kx b' r' root hj' (.of (hj.1▸hr)) h3' ⟨ox,hkx,hox⟩) h1'
   . rw[Gh.with_at,if_pos rfl]at hj'
     rw[Gh.with_at,if_neg h2]at hj
     exact absurd (inv.dist j kx b' r root hj (.of (hj'.1▸hr)) h3 ⟨ox,hkx,hox⟩) h1
   . rw[Gh.with_at,if_neg h2]at hj
     rw[Gh.with_at,if_neg h2']at hj'
     exact inv.dist j j' b' r r' hj hj' h3 h3'
 . exact fun b' hb=>⟨by have:=(inv.imm b' hb).1;omega,fun hl=>(inv.imm b' hb).2 (hL b' hl)⟩
 . exact fun b' hb=>by have:=inv.lt b' (hL b' hb);omega
theorem zrs (need:Nat):∀(r c:Nat),c<need->Builtin.growBy need r c<=need+(need+768)/4
 | 0,c,h=>by simp only[Builtin.growBy];omega
 | r+1,c,h=>by
   simp only[Builtin.growBy]
   split
   . omega
   . by_cases h1:c+(c+768)/4<need
     . exact zrs need r _ h1
     . have h2:∀r,Builtin.growBy need r (c+(c+768)/4)=c+(c+768)/4:=fun r=>by
        cases r with
        | zero=>rfl
        | succ r=>simp only[Builtin.growBy];rw[if_pos (by omega)]
       rw[h2];omega
theorem zgr {need cap:Nat}(h:cap<need)(hl:need<=LIM):Builtin.nextslicecap need cap*1024<=2^48:=by
 have:Builtin.nextslicecap need cap<=2*LIM:=by
  unfold Builtin.nextslicecap
  split
  . omega
  . split
    . simp only[LIM]at hl ⊢;omega
    . have:=zrs need 4 cap h
      simp only[LIM]at hl ⊢;omega
 simp only[LIM]at this;omega
end Go.Ev
namespace Go.Ev
open Go
variable {im :Im} {P:Program} {w:World} {H:Heap} {G:Gh} {gl:Gl} {cl:Cl} {st:St} {a:Act} {o:Oper} {m:MOp} {v:AV} {us:Hp}
def zcs (l:List AV)(off:Nat)(ys:List AV):List AV:=l.take off++ys++l.drop (off+ys.length)
theorem zg6 {c:Array Value}{sh:Sh}{l ys:List AV}{off base:Nat}{vs:List Value}{pre post:List AV}
  (hl:∀x∈l,zaq sh x=true) (hy:∀x∈ys,zaq sh x=true) (hle:off+ys.length<=l.length)
  (hc:RepC H G c 0 (pre++AV.flats l++post)) (hb:pre.length=base) (hv:RepL H G vs (AV.flats ys)) (hsz:base+(AV.flats l).length<=c.size) :
  RepC H G (zay c (base+off*sh.size) vs) 0 (pre++AV.flats (zcs l off ys)++post)/\base+off*sh.size+vs.length<=c.size/\(zcs l off ys).length=l.length /\
   (AV.flats (zcs l off ys)).length=(AV.flats l).length:=by
 obtain⟨f1,f2,f3⟩:=zd4 (n:=sh.size) (fun x hx=>zah sh x (hl x hx)) off ys.length hle
 have hyl:(AV.flats ys).length=ys.length*sh.size:=zbc ys fun x hx=>zah sh x (hy x hx)
 have hvl:=hv.len
 have e2:AV.flats (zcs l off ys)=AV.flats (l.take off)++AV.flats ys++AV.flats (l.drop (off+ys.length)):=by
  unfold zcs;rw[AV.flats_append,AV.flats_append]
 have hle2:base+off*sh.size+vs.length<=c.size:=by
  rw[f1]at hsz
  simp only[wF,f2,f3]at hsz
  rw[hvl,hyl];omega
 refine⟨?_,hle2,by simp[zcs];omega,by rw[e2,f1];simp[f3,hyl]⟩
 have:=zkv (c:=c) (off:=base+off*sh.size) (vs:=vs) (pre:=pre++AV.flats (l.take off)) (old:=AV.flats (sub l off ys.length)) (new:=AV.flats ys) (post:=AV.flats (l.drop (off+ys.length))++post)
  hc (by rw[f1];simp[w2]) hv (by rw[hyl,f3]) (by simp[hb,f2]) hle2
 rw[e2]
 simpa[w2]using this
theorem Src.firstAll {v:Value}{sh:Sh}{l:List AV}(h:Src P H G v sh l){size:Nat}(hs:l=[]\/size=sh.size)(w':World)(hw:w'.heap=H) :
  ∃vs:Array Value,(Builtin.firstCells size l.length v).run P w'= .ok vs w'/\RepL H G vs.toList (AV.flats l):=by
 obtain⟨vs,h1,h2⟩:=h.first l.length size w' hw (w6 _) hs
 exact⟨vs,h1,by simpa using h2⟩
def z0c (P:Program)(u:TypeId):Prop:=P.underlying u=some .string\/∃e,P.underlying u=some (.slice e)
theorem zgj {t u e:TypeId}{ty:TypeId}{b:Option Addr}{cap:Nat}{vy:Value}{sh shx shy:Sh}{z:AV}{i:TypeInfo}{l ys:List AV}
  (hu:P.underlying t=some (.slice e)) (hu2:z0c P u) (hz:zec P e=some (sh,z)) (hi:P.info? e=some i) (hbytes:i.bytes<=1024)
  (hx:Src P w.heap G (.slice b l.length cap) shx l) (hxs:l=[]\/sh=shx) (hy:Src P w.heap G vy shy ys) (hys:ys=[]\/sh=shy)
  (hlt:cap<l.length+ys.length) (hlim:l.length+ys.length<=LIM) :
  ∃(newCap:Nat) (c:Array Value),(Builtin.append_ #[t,u] ty #[.slice b l.length cap,vy]).run P w =
     .ok (.slice (some ⟨w.heap.size,0,none⟩) (l.length+ys.length) newCap) {w with drawn:=w.drawn+1,heap:=w.heap.push (.cells c e)} /\
   l.length+ys.length<=newCap/\c.size=newCap*sh.size/\RepC w.heap G c 0 (AV.flats (l++ys)):=by
 obtain⟨hshT,zv,hzv,hsh,hzp,hzw,hrl⟩:=zch hz
 have hzl:z.flat.length=sh.size:=zah sh z hsh
 have hzs:zv.cells.size=sh.size:=by have:=(hrl w.heap G).len;rw[<-hzl,<-this];simp
 let w1:World:={w with drawn:=w.drawn+1}
 obtain⟨vx,hx1,hx2⟩:=hx.firstAll (size:=sh.size) (by rcases hxs with h|h<;>simp[h]) w1 rfl
 obtain⟨vys,hy1,hy2⟩:=hy.firstAll (size:=sh.size) (by rcases hys with h|h<;>simp[h]) w1 rfl
 let newCap:=(Question.appendCap (l.length+ys.length) cap e).cut (w.tape w.drawn (.appendCap (l.length+ys.length) cap e))
 have hcap:l.length+ys.length<=newCap:=w8 _ _
 have hlx:(AV.flats l).length=l.length*sh.size:=by
  rcases hxs with h|h
  . subst h;simp[AV.flats]
  . subst h;exact zbc l fun x hx'=>zah sh x (hx.els x hx').1
 have hly:(AV.flats ys).length=ys.length*sh.size:=by
  rcases hys with h|h
  . subst h;simp[AV.flats]
  . subst h;exact zbc ys fun x hx'=>zah sh x (hy.els x hx').1
 have s1:vx.size=l.length*sh.size:=by rw[<-hlx,<-hx2.len];simp
 have s2:vys.size=ys.length*sh.size:=by rw[<-hly,<-hy2.len];simp
 refine⟨newCap,vx++vys++Builtin.zeroCells zv.cells (newCap-(l.length+ys.length)),?_,hcap,?_,?_⟩
 . have hq:(Question.appendCap (l.length+ys.length) cap e).forced=false:=rfl
   have c1:¬(l.length+ys.length<=cap):=by omega
   have c2:¬(((l.length+ys.length:Nat):Int)>IntKind.i64.max/\i.bytes=0):=by
    have:IntKind.i64.max=2^63-1:=rfl
    rw[this];simp only[LIM]at hlim;omega
   have c3:¬(Builtin.nextslicecap (l.length+ys.length) cap*i.bytes>2^48):=by
    have h1:=zgr hlt hlim
    have h2:Builtin.nextslicecap (l.length+ys.length) cap*i.bytes<=Builtin.nextslicecap (l.length+ys.length) cap*1024:=w7 _ hbytes
    omega
   have hyl:=hy.len w
   simp only[w1]at hx1 hy1
   rcases hu2 with hu2|⟨e',hu2⟩
   . simp only[Builtin.append_,wB,wA,wC,Sem.run_bind,zap hu,zap hu2,zbt (zbq hshT),Result.andThen_ok,Sem.run_pure,wc,if_false,hyl,c1,c2,c3,zg8 hi,
      false_or,run_choose,hq,run_askRoom,we,if_true]
     simp only[hx1,hy1,hzv,Result.andThen_ok,newRow,Sem.run_bind,run_newObj,Sem.run_pure]
     rfl
   . simp only[Builtin.append_,wB,wA,wC,Sem.run_bind,zap hu,zap hu2,zbt (zbq hshT),Result.andThen_ok,Sem.run_pure,wc,if_false,hyl,c1,c2,c3,zg8 hi,
      false_or,run_choose,hq,run_askRoom,we,if_true]
     simp only[hx1,hy1,hzv,Result.andThen_ok,newRow,Sem.run_bind,run_newObj,Sem.run_pure]
     rfl
 . simp only[wl,s1,s2,Builtin.zeroCells,wo,wm,hzs]
   rw[<-w5,<-w5];congr 1;omega
 . have h:=zdp hx2 hy2
   rw[<-AV.flats_append]at h
   intro j hj
   have hj':j<vx.size+vys.size:=by rw[s1,s2,<-hlx,<-hly];rw[AV.flats_append,wF]at hj;exact hj
   have hjl:j<(vx.toList++vys.toList).length:=by simpa using hj'
   refine⟨(vx.toList++vys.toList)[j],?_,h.get j hjl hj⟩
   rw[w3,wj (by simpa using hj')]
   rw[<-wi,wk,wJ hjl]
theorem zc4 {t u e:TypeId}{ty:TypeId}{b:Option Addr}{n cap:Nat}{vy:Value}{sh shy:Sh}{ys:List AV}{w':World}
  (hu:P.underlying t=some (.slice e)) (hu2:z0c P u) (hsz:(P.info? e).map (·.size)=some sh.size)
  (hy:Src P w.heap G vy shy ys) {vys:Array Value} (hy1:(Builtin.firstCells sh.size ys.length vy).run P w= .ok vys w)
  (hle:n+ys.length<=cap) (hst:∀ad,b=some ad->(storeCells (ad.add (n*sh.size)) vys.toList).run P w= .ok () w') (hnone:b=none->w'=w) :
  (Builtin.append_ #[t,u] ty #[.slice b n cap,vy]).run P w= .ok (.slice b (n+ys.length) cap) w':=by
 have hyl:=hy.len w
 rcases hu2 with hu2|⟨e',hu2⟩
 . simp only[Builtin.append_,wB,wA,wC,Sem.run_bind,zap hu,zap hu2,zbt hsz,Result.andThen_ok,Sem.run_pure,wc,if_false,hyl,hle,if_true,
    we,hy1]
   cases b with
   | none=>rw[hnone rfl];rfl
   | some ad=>simp only[hst ad rfl,Result.andThen_ok,Sem.run_pure,Sem.run_bind]
 . simp only[Builtin.append_,wB,wA,wC,Sem.run_bind,zap hu,zap hu2,zbt hsz,Result.andThen_ok,Sem.run_pure,wc,if_false,hyl,hle,if_true,
    we,hy1]
   cases b with
   | none=>rw[hnone rfl];rfl
   | some ad=>simp only[hst ad rfl,Result.andThen_ok,Sem.run_pure,Sem.run_bind]
theorem zmj {c:Call}{t u e:TypeId}{x y:Operand}{x' y':Opd}{sh:Sh}{z:AV}{i:TypeInfo}(hg:GlOk w.heap G gl)(hst:StOk w.heap G st a.tmps)(ho:o.op= .call c)(hb:c.callee= .builtin .append)
  (hargs:c.args= #[x,y]) (ht:c.argTypes= #[t,u]) (hu:P.underlying t=some (.slice e)) (hu2:z0c P u) (hz:zec P e=some (sh,z)) (hi:P.info? e=some i)
  (hx:zak x=some x') (hy:zak y=some y') (hs:zae gl cl st o.dst (.append sh i.bytes x' y')=some (v,us)):Good P w G st.hp (execOp a.eval o) v us:=by
 have hvx:=zas hg hst hx
 have hvy:=zas hg hst hy
 have hshT:=(zch hz).1
 have run:∀{r:Value} {w':World},(Builtin.append_ #[t,u] o.type #[a.eval x,a.eval y]).run P w= .ok r w'->(execOp a.eval o).run P w= .ok (.value r) w':=by
  intro r w' hr
  simp only[execOp,ho,resolve,hb,hargs,ht,Sem.run_bind,Sem.run_pure,Result.andThen_ok,invoke,builtin,wH,wK,wM,hr]
 change (match o.dst,z3m st.hp (Opd.val gl st.fr y')with
  | some k,some (shy,ys) =>
    if(st.hp.get k).isNone&&decide (i.bytes<=1024)&&(ys.isEmpty||Sh.beq sh shy)then
     match Opd.val gl st.fr x' with
     | .lst true shx l =>
       if(l.isEmpty||(Sh.beq sh shx&& !ys.isEmpty))&&decide (l.length+ys.length<=LIM)then
        some (AV.sl k [] 0 (l.length+ys.length),[(k,OB.grow sh (l++ys))])
       else none
     | .sl kx [] 0 n =>
       match st.hp.get kx with
       | some (.grow shx els) =>
         if Sh.beq sh shx&&decide (n=els.length/\els.length+ys.length<=LIM)then
          some (AV.sl k [] 0 (els.length+ys.length),[(kx,OB.dead),(k,OB.grow sh (els++ys))])
         else if Sh.beq sh shx&&decide (n+ys.length<=els.length)then
          some (AV.sl kx [] 0 (n+ys.length),[(k,OB.grow sh []),(kx,OB.grow sh (els.take n++ys++els.drop (n+ys.length)))])
         else none
       | _=>none
     | _=>none
    else none
  | _,_=>none)=some (v,us)at hs
 split at hs
 . rename_i k shy ys hk hsrc
   split at hs
   . rename_i hcond
     simp only[wb,decide_eq_true_eq,wd,wt,wP]at hcond
     obtain⟨⟨hnone,hbytes⟩,hys⟩:=hcond
     have hys:ys=[]\/sh=shy:=hys.imp_right Sh.beq_eq
     have hsy:=zy6 (P:=P) hst.inv hvy hsrc
     have hels:∀q∈ys,zaq sh q=true/\q.plain=true/\q.wf:=by
      rcases hys with h|h
      . subst h;simp
      . subst h;exact hsy.els
     obtain⟨vys,hy1,hy2⟩:=hsy.firstAll (size:=sh.size) (by rcases hys with h|h<;>simp[h]) w rfl
     split at hs
     . rename_i shx l hvx'
       rw[hvx',zaj rfl]at hvx
       split at hs
       . rename_i hc2
         simp only[wb,decide_eq_true_eq,wd,wP,wg]at hc2
         simp only[wp,wu]at hs
         obtain⟨rfl,rfl⟩:=hs
         have hsx:=zie (P:=P) hst.inv hvx (show zbp st.hp (.lst true shx l)=some (shx,l)from rfl)
         obtain⟨b,cap,hev,hcap,hfull,hsh,_⟩:=zdv hvx
         have hcapl:=hfull rfl
         subst hcapl
         by_cases h0:ys=[]
         . have hl0:l=[]:=by
            rcases hc2.1 with h|⟨_,h⟩
            . exact h
            . simp[h0]at h
           subst h0 hl0
           have hv0:vys= #[]:=by have:=hy2.len;simp[AV.flats]at this;exact this
           subst hv0
           refine⟨.slice b 0 0,w,G.with k .nil,⟨rfl,rfl⟩,.inl (run ?_),zol hst.inv hnone sh,(zaj rfl).2 (.slNil k b (by simp[Gh.with]))⟩
           rw[hev]
           exact zc4 hu hu2 (zbq hshT) hsy hy1 (w6 _) (fun ad _=>rfl) (fun _=>rfl)
         . have hpos:0<ys.length:=wL.2 h0
           have hxs:l=[]\/sh=shx:=by
            rcases hc2.1 with h|⟨h,_⟩
            . exact .inl h
            . exact .inr (Sh.beq_eq h)
           obtain⟨newCap,c',hrun,h1,h2,h3⟩:=zgj (P:=P) (ty:=o.type) hu hu2 hz hi hbytes (hev▸hsx) hxs hsy hys (by omega) hc2.2
           have hst':=zfh (sh:=sh) (e:=e) (fz:=(0,0)) (k:=k) (els:=l++ys) (c:=c') (cap:=newCap) hst.inv hnone (by simpa using h1) h2 (.inl rfl)
            (fun q hq=>by
              rcases wE.1 hq with hq|hq
              . rcases hxs with h|h
                . subst h;cases hq
                . subst h;exact hsh q hq
              . exact hels q hq) h3
           refine⟨_,{w with drawn:=w.drawn+1,heap:=w.heap.push (.cells c' e)},_,⟨rfl,rfl⟩,.inl (run ?_),hst',zld (by simpa using h1)⟩
           rw[hev];exact hrun
       . cases hs
     . rename_i kx n hvx'
       rw[hvx',zaj rfl]at hvx
       split at hs
       . rename_i shx els hkx
         split at hs
         . rename_i hc2
           simp only[wb,decide_eq_true_eq]at hc2
           simp only[wp,wu]at hs
           obtain⟨rfl,rfl⟩:=hs
           obtain⟨hbq,rfl,hlim⟩:=hc2
           have:=Sh.beq_eq hbq
           subst this
           have hcont:zbp st.hp (.sl kx [] 0 els.length)=some (sh,els):=by simp[zbp,hkx,sub]
           have hsx:=zie (P:=P) hst.inv hvx hcont
           have hnek:k≠kx:=fun e=>by rw[<-e,hnone]at hkx;cases hkx
           have grow:∀(b:Option Addr) (cap:Nat),a.eval x= .slice b els.length cap->cap<els.length+ys.length ->
             Good P w G st.hp (execOp a.eval o) (.sl k [] 0 (els.length+ys.length)) [(kx,.dead),(k,.grow sh (els++ys))]:=by
            intro b cap hev hlt
            obtain⟨newCap,c',hrun,h1,h2,h3⟩:=zgj (P:=P) (ty:=o.type) hu hu2 hz hi hbytes (hev▸hsx) (.inr rfl) hsy hys hlt hlim
            have hst':=zfh (sh:=sh) (e:=e) (fz:=(0,0)) (k:=k) (els:=els++ys) (c:=c') (cap:=newCap) hst.inv hnone (by simpa using h1) h2 (.inl rfl)
             (fun q hq=>by
               rcases wE.1 hq with hq|hq
               . exact hsx.els q hq
               . exact hels q hq) h3
            have hd:=zid hst'.inv (k:=kx) (o:=.grow sh els) (by rw[Hp.get_cons,if_neg hnek];exact hkx)
            refine⟨_,{w with drawn:=w.drawn+1,heap:=w.heap.push (.cells c' e)},_,⟨rfl,rfl⟩,.inl (run ?_),hst'.trans hd,zld (by simpa using h1)⟩
            rw[hev];exact hrun
           have hv0:ys=[]->vys= #[]:=fun h=>by subst h;have:=hy2.len;simp[AV.flats]at this;exact this
           rcases hst.inv.obs kx _ hkx with ⟨rfl,hreg⟩|⟨b',cap,c',e',fz,hr',hle0,hb',hsz,hf,hsh,hrc⟩
           . rcases zb9 hvx with ⟨a0,_,_,_,hev,_⟩|⟨b,root,mm,e2,o',xo,hr,_⟩
             . by_cases h0:ys=[]
               . have:=hv0 h0
                 subst h0 this
                 have s1:=zol hst.inv hnone sh
                 have s2:=zid s1.inv (k:=kx) (o:=.grow sh []) (by rw[Hp.get_cons,if_neg hnek];exact hkx)
                 refine⟨.slice a0 0 0,w,G.with k .nil,⟨rfl,rfl⟩,.inl (run ?_),s1.trans s2,(zaj rfl).2 (.slNil k a0 (by simp[Gh.with]))⟩
                 rw[hev]
                 exact zc4 hu hu2 (zbq hshT) hsy hy1 (w6 _) (fun ad _=>rfl) (fun _=>rfl)
               . exact grow a0 0 hev (by have:=wL.2 h0;simp;omega)
             . rw[hreg]at hr;cases hr
           . rcases zb9 hvx with ⟨a0,_,_,_,hev,hreg⟩|⟨b,root,mm,e2,o',xo,hr,hs2,hof,hle2,hev,hxo⟩
             . rw[hreg]at hr';cases hr'
             rw[hr]at hr'
             simp only[wp,Rg.blk.injEq]at hr'
             obtain⟨rfl,rfl⟩:=hr'
             simp only[Sh.sub,wp,Sh.ar.injEq]at hs2
             obtain⟨rfl,rfl⟩:=hs2
             simp only[Sh.off,wp]at hof
             subst hof
             rw[w9]at hev
             by_cases hfit:els.length+ys.length<=cap
             . have hel:(AV.flats els).length=els.length*sh.size:=zbc els fun x hx=>zah sh x (hsh x hx).1
               have hyl:(AV.flats ys).length=ys.length*sh.size:=zbc ys fun x hx=>zah sh x (hels x hx).1
               have s2:vys.toList.length=ys.length*sh.size:=by rw[hy2.len,hyl]
               have hbd:els.length*sh.size+vys.toList.length<=c'.size:=by
                rw[s2,hsz,<-w5];exact w4 _ hfit
               let w':World:={w with heap:=w.heap.setIfInBounds b (.cells (zay c' (els.length*sh.size) vys.toList) e' fz)}
               have hput:∀j,j<(AV.flats (els++ys)).length->∃q,(zay c' (els.length*sh.size) vys.toList)[j]? =some q/\RepS w.heap G q ((AV.flats (els++ys))[j]!):=by
                intro j hj
                rw[AV.flats_append]at hj ⊢
                rw[zgn _ _ _ _ hbd]
                simp only[wF]at hj
                by_cases h:j<els.length*sh.size
                . rw[if_neg (by omega)]
                  obtain⟨q,hq,hrq⟩:=hrc j (by omega)
                  refine⟨q,by simpa using hq,?_⟩
                  rw[getElem!_pos _ j (by simp;omega),wO (by omega)]
                  exact hrq
                . have hj2:j-els.length*sh.size<vys.toList.length:=by omega
                  rw[if_pos (by omega),wJ hj2]
                  refine⟨_,rfl,?_⟩
                  rw[getElem!_pos _ j (by simp;omega),wW (by omega)]
                  have:=hy2.get (j-els.length*sh.size) hj2 (by omega)
                  simpa[hel]using this
               have hmove:=zy5 hst.inv hkx (by simp) hnone hr (w.heap.setIfInBounds b (.cells (zay c' (els.length*sh.size) vys.toList) e' fz)) (.grow sh (els++ys)) (by simp)
                (fun b' hb'=>zbj hb') fun le=>.inr ⟨b,cap,_,e',fz,by simp[Gh.with],by simpa using hfit,zbx hb',by simp[zav,hsz],by
                  exact hf.put (zav ..),fun q hq=>by
                   rcases wE.1 hq with hq|hq
                   . exact hsh q hq
                   . exact hels q hq,fun j hj=>by
                     obtain⟨q,hq,hrq⟩:=hput j hj
                     rw[getElem!_pos _ j hj]at hrq
                     exact⟨q,by simpa using hq,hrq.mono le⟩⟩
               refine⟨.slice (some ⟨b,xo,none⟩) (els.length+ys.length) cap,w',_,⟨rfl,rfl⟩,.inl (run ?_),hmove,(zaj rfl).2 ?_⟩
               . rw[hev]
                 refine zc4 hu hu2 (zbq hshT) hsy hy1 hfit (fun ad had=> ?_) (fun h=>by cases h)
                 cases had
                 by_cases h0:ys=[]
                 . have:=hv0 h0
                   subst this
                   have:w'=w:=by simp only[w',zay,zel hb']
                   rw[this];rfl
                 . have hpos:0<ys.length:=wL.2 h0
                   have hx0:=hxo (by omega)
                   subst hx0
                   have:=zba (P:=P) (e:=e') (fz:=fz) vys.toList (els.length*sh.size) 0 c' w hb' (by simpa using hbd) hf.free (fun q hq=>by
                    obtain⟨j,hj,rfl⟩:=wI hq
                    exact(hy2.get j hj (by rw[<-hy2.len];exact hj)).oneCell)
                   rw[zc1]
                   simpa using this
               . by_cases h0:0<cap
                 . have hx0:=hxo h0
                   subst hx0
                   have:=RepS.sl (H:=w'.heap) (G:=G.with k (.blk b (.ar cap sh))) k [] 0 (els.length+ys.length) b (.ar cap sh) cap sh 0 (by simp[Gh.with]) rfl rfl (by omega)
                   simpa using this
                 . have:cap=0:=by omega
                   subst this
                   have e0:els.length+ys.length=0:=by omega
                   rw[e0]
                   exact .slZ k [] 0 b xo (.ar 0 sh) 0 sh (by simp[Gh.with]) rfl rfl
             . exact grow _ _ hev (by omega)
         . split at hs
           . rename_i hc2
             simp only[wb,decide_eq_true_eq]at hc2
             simp only[wp,wu]at hs
             obtain⟨rfl,rfl⟩:=hs
             obtain⟨hbq,hle⟩:=hc2
             have:=Sh.beq_eq hbq
             subst this
             have hnek:k≠kx:=fun e=>by rw[<-e,hnone]at hkx;cases hkx
             have lay:∀{H':Heap} {ob:OB},Step w.heap G st.hp H' G ((kx,ob)::st.hp)->Step w.heap G st.hp H' (G.with k .nil) ((k,.grow sh [])::(kx,ob)::st.hp):=fun s =>
              s.trans (zol s.inv (by rw[Hp.get_cons,if_neg hnek.symm];exact hnone) sh)
             have hregk:(G.with k .nil).reg kx=G.reg kx:=by simp[Gh.with,hnek.symm]
             have hv0:ys=[]->vys= #[]:=fun h=>by subst h;have:=hy2.len;simp[AV.flats]at this;exact this
             have hsp:els.take n++ys++els.drop (n+ys.length)=zcs els n ys:=rfl
             rw[hsp]
             rcases hst.inv.obs kx _ hkx with ⟨rfl,hreg⟩|⟨b',cap,c',e',fz,hr',hle0,hb',hsz,hf,hsh,hrc⟩
             . simp only[wR]at hle
               obtain⟨rfl,h0⟩:n=0/\ys.length=0:=by omega
               have h0:=List.eq_nil_of_length_eq_zero h0
               rcases zb9 hvx with ⟨a0,_,_,_,hev,_⟩|⟨b,root,mm,e2,o',xo,hr,_⟩
               . have:=hv0 h0
                 subst h0 this
                 refine⟨.slice a0 0 0,w,G.with k .nil,⟨rfl,rfl⟩,.inl (run ?_),lay (zcm hst.inv hkx _ _ rfl (fun _ _=>rfl) (fun _=>by simp) fun le=>.inl ⟨by simp[zcs],hreg⟩),(zaj rfl).2 (.slNil kx a0 (hregk.trans hreg))⟩
                 rw[hev]
                 exact zc4 hu hu2 (zbq hshT) hsy hy1 (w6 _) (fun ad _=>rfl) (fun _=>rfl)
               . rw[hreg]at hr;cases hr
             . rcases zb9 hvx with ⟨a0,_,_,_,hev,hreg⟩|⟨b,root,mm,e2,o',xo,hr,hs2,hof,hle2,hev,hxo⟩
               . rw[hreg]at hr';cases hr'
               rw[hr]at hr'
               simp only[wp,Rg.blk.injEq]at hr'
               obtain⟨rfl,rfl⟩:=hr'
               simp only[Sh.sub,wp,Sh.ar.injEq]at hs2
               obtain⟨rfl,rfl⟩:=hs2
               simp only[Sh.off,wp]at hof
               subst hof
               rw[w9]at hev
               have hel:(AV.flats els).length=els.length*sh.size:=zbc els fun x hx=>zah sh x (hsh x hx).1
               obtain⟨g1,g2,g3,g4⟩:=zg6 (c:=c') (sh:=sh) (l:=els) (ys:=ys) (off:=n) (base:=0) (vs:=vys.toList) (pre:=[]) (post:=[])
                (fun q hq=>(hsh q hq).1) (fun q hq=>(hels q hq).1) hle (by simpa using hrc) rfl hy2 (by rw[hel,hsz,w3];exact w4 _ hle0)
               simp only[w3,wU,wV]at g1 g2
               refine⟨.slice (some ⟨b,xo,none⟩) (n+ys.length) cap,{w with heap:=w.heap.setIfInBounds b (.cells (zay c' (n*sh.size) vys.toList) e' fz)},G.with k .nil,⟨rfl,rfl⟩,.inl (run ?_),
                lay (zcm hst.inv hkx _ _ (by simp) (fun b' hb'=>zbj fun e=>hb' ⟨_,.of (e▸hr),⟨_,hkx,by simp⟩⟩) (fun _=>by simp) fun le =>
                 .inr ⟨b,cap,_,e',fz,hr,by rw[g3];exact hle0,zbx hb',by simp[zav,hsz],hf.put (zav ..),fun q hq=> ?_,g1.mono le⟩),(zaj rfl).2 ?_⟩
               . rw[hev]
                 refine zc4 hu hu2 (zbq hshT) hsy hy1 (by omega) (fun ad had=> ?_) (fun h=>by cases h)
                 cases had
                 by_cases h0:ys=[]
                 . have:=hv0 h0
                   subst this
                   simp only[zay,zel hb'];rfl
                 . have hpos:0<ys.length:=wL.2 h0
                   have hx0:=hxo (by omega)
                   subst hx0
                   have:=zba (P:=P) (e:=e') (fz:=fz) vys.toList (n*sh.size) 0 c' w hb' (by simpa using g2) hf.free (fun q hq=>by
                    obtain⟨j,hj,rfl⟩:=wI hq
                    exact(hy2.get j hj (by rw[<-hy2.len];exact hj)).oneCell)
                   rw[zc1]
                   simpa using this
               . simp only[zcs,wE]at hq
                 rcases hq with (hq|hq)|hq
                 . exact hsh q (wD hq)
                 . exact hels q hq
                 . exact hsh q (wG hq)
               . by_cases h0:0<cap
                 . have hx0:=hxo h0
                   subst hx0
                   have:=RepS.sl (H:=w.heap.setIfInBounds b (.cells (zay c' (n*sh.size) vys.toList) e' fz)) (G:=G.with k .nil) kx [] 0 (n+ys.length) b (.ar cap sh) cap sh 0 (hregk.trans hr) rfl rfl (by omega)
                   simpa using this
                 . have:cap=0:=by omega
                   subst this
                   have e0:n+ys.length=0:=by omega
                   rw[e0]
                   exact .slZ kx [] 0 b xo (.ar 0 sh) 0 sh (hregk.trans hr) rfl rfl
           . cases hs
       . cases hs
     . cases hs
   . cases hs
 . cases hs
end Go.Ev
namespace Go.Ev
open Go
variable {im :Im} {P:Program} {w:World} {H:Heap} {G:Gh} {gl:Gl} {cl:Cl} {st:St} {a:Act} {o:Oper} {m:MOp} {v:AV} {us:Hp}
theorem zov {t u e:TypeId}{ty:TypeId}{b:Option Addr}{dLen cap n:Nat}{vy:Value}{sh shy:Sh}{ys:List AV}{w':World}
  (hu:P.underlying t=some (.slice e)) (hsz:(P.info? e).map (·.size)=some sh.size) (hy:Src P w.heap G vy shy ys) (hn:n=min ys.length dLen) {vys:Array Value}
  (hy1:(Builtin.firstCells sh.size n vy).run P w= .ok vys w) (hst:∀ad,b=some ad->(storeCells ad vys.toList).run P w= .ok () w') (hnone:b=none->w'=w) :
  (Builtin.copy_ #[t,u] ty #[.slice b dLen cap,vy]).run P w= .ok (.int .i64 n) w':=by
 have hyl:=hy.len w
 subst hn
 have hn':Nat.min ys.length dLen=min ys.length dLen:=rfl
 simp only[Builtin.copy_,wB,wA,wC,Sem.run_bind,zap hu,zbt hsz,Result.andThen_ok,hyl,hn',hy1]
 cases b with
 | none=>rw[hnone rfl];rfl
 | some ad=>simp only[hst ad rfl,Result.andThen_ok,Sem.run_pure,Sem.run_bind];rfl
theorem z1r {c:Call}{t u e:TypeId}{x y:Operand}{x' y':Opd}{sh:Sh}(hg:GlOk w.heap G gl)(hst:StOk w.heap G st a.tmps)(ho:o.op= .call c)(hb:c.callee= .builtin .copy)
  (hargs:c.args= #[x,y]) (ht:c.argTypes= #[t,u]) (hu:P.underlying t=some (.slice e)) (hshT:shOf P SF e=some sh)
  (hx:zak x=some x') (hy:zak y=some y') (hs:zae gl cl st o.dst (.copy sh x' y')=some (v,us)):Good P w G st.hp (execOp a.eval o) v us:=by
 have hvx:=zas hg hst hx
 have hvy:=zas hg hst hy
 have run:∀{r:Value} {w':World},(Builtin.copy_ #[t,u] o.type #[a.eval x,a.eval y]).run P w= .ok r w'->(execOp a.eval o).run P w= .ok (.value r) w':=by
  intro r w' hr
  simp only[execOp,ho,resolve,hb,hargs,ht,Sem.run_bind,Sem.run_pure,Result.andThen_ok,invoke,builtin,wH,wK,wM,hr]
 change (match Opd.val gl st.fr x',z3m st.hp (Opd.val gl st.fr y')with
  | .sl k p off len,some (shy,ys) =>
    if ys.isEmpty||Sh.beq sh shy then
     let n:=min ys.length len
     match st.hp.get k,p with
     | some (.grow shx els),[] =>
       if Sh.beq sh shx&&decide (off+len<=els.length)then
        some (AV.int .i64 n,[(k,OB.grow shx (els.take off++ys.take n++els.drop (off+n)))])
       else none
     | some (.fix shx a),p =>
       match shx.sub p,a.nav p with
       | some (.ar _ e),some (.agg l) =>
         if Sh.beq sh e&&decide (off+len<=l.length)then
          (a.setNav p (.agg (l.take off++ys.take n++l.drop (off+n)))).map fun a'=>(.int .i64 n,[(k,.fix shx a')])
         else none
       | _,_=>none
     | _,_=>none
    else none
  | _,none=>zgd st.hp sh (Opd.val gl st.fr x') (Opd.val gl st.fr y')
  | _,_=>none)=some (v,us)at hs
 split at hs
 . rename_i k p off len shy ys hvx' hsrc
   rw[hvx',zaj rfl]at hvx
   split at hs
   . rename_i hys
     simp only[wd,wP]at hys
     have hys:ys=[]\/sh=shy:=hys.imp_right Sh.beq_eq
     have hsy:=zy6 (P:=P) hst.inv hvy hsrc
     have hels:∀q∈ys,zaq sh q=true/\q.plain=true/\q.wf:=by
      rcases hys with h|h
      . subst h;simp
      . subst h;exact hsy.els
     obtain⟨vys,hy1,hy2⟩:=hsy.first (min ys.length len) sh.size w rfl (Nat.min_le_left _ _) (by rcases hys with h|h<;>simp[h])
     have hyt:∀q∈ys.take (min ys.length len),zaq sh q=true/\q.plain=true/\q.wf:=fun q hq=>hels q (wD hq)
     have htl:(ys.take (min ys.length len)).length=min ys.length len:=by rw[wT];omega
     have hone:∀q∈vys.toList,q.oneCell'=true:=fun q hq=>by
      obtain⟨j,hj,rfl⟩:=wI hq
      exact(hy2.get j hj (by rw[<-hy2.len];exact hj)).oneCell
     have hv0:min ys.length len=0->vys= #[]:=fun h=>by rw[h]at hy2;have:=hy2.len;simp[AV.flats]at this;exact this
     simp only at hs
     split at hs
     . rename_i shx els hk
       split at hs
       . rename_i hc2
         simp only[wb,decide_eq_true_eq]at hc2
         simp only[wp,wu]at hs
         obtain⟨rfl,rfl⟩:=hs
         obtain⟨hbq,hle⟩:=hc2
         have:=Sh.beq_eq hbq
         subst this
         have hsp:els.take off++ys.take (min ys.length len)++els.drop (off+min ys.length len)=zcs els off (ys.take (min ys.length len)):=by rw[zcs,htl]
         rw[hsp]
         rcases hst.inv.obs k _ hk with ⟨rfl,hreg⟩|⟨b',cap,c',e',fz,hr',hle0,hb',hsz,hf,hsh,hrc⟩
         . simp only[wR]at hle
           obtain⟨rfl,rfl⟩:off=0/\len=0:=by omega
           rcases zb9 hvx with ⟨a0,_,_,_,hev,_⟩|⟨b,root,mm,e2,o',xo,hr,_⟩
           . have:=hv0 (by simp)
             subst this
             refine⟨_,w,G,⟨rfl,rfl⟩,.inl (run ?_),?_,za5 _ _⟩
             . rw[hev];exact zov (P:=P) hu (zbq hshT) hsy rfl hy1 (fun ad _=>rfl) (fun _=>rfl)
             . refine zcm hst.inv hk _ _ rfl (fun _ _=>rfl) (fun _=>by simp) fun le=>.inl ⟨by simp[zcs],hreg⟩
           . rw[hreg]at hr;cases hr
         . rcases zb9 hvx with ⟨a0,_,_,_,hev,hreg⟩|⟨b,root,mm,e2,o',xo,hr,hs2,hof,hle2,hev,hxo⟩
           . rw[hreg]at hr';cases hr'
           rw[hr]at hr'
           simp only[wp,Rg.blk.injEq]at hr'
           obtain⟨rfl,rfl⟩:=hr'
           simp only[Sh.sub,wp,Sh.ar.injEq]at hs2
           obtain⟨rfl,rfl⟩:=hs2
           simp only[Sh.off,wp]at hof
           subst hof
           have hel:(AV.flats els).length=els.length*sh.size:=zbc els fun x hx=>zah sh x (hsh x hx).1
           obtain⟨g1,g2,g3,g4⟩:=zg6 (c:=c') (sh:=sh) (l:=els) (ys:=ys.take (min ys.length len)) (off:=off) (base:=0) (vs:=vys.toList) (pre:=[]) (post:=[])
            (fun q hq=>(hsh q hq).1) (fun q hq=>(hyt q hq).1) (by rw[htl];omega) (by simpa using hrc) rfl hy2 (by rw[hel,hsz,w3];exact w4 _ hle0)
           simp only[w3,wU,wV]at g1 g2
           refine⟨_,{w with heap:=w.heap.setIfInBounds b (.cells (zay c' (off*sh.size) vys.toList) e' fz)},G,⟨rfl,rfl⟩,.inl (run ?_),?_,za5 _ _⟩
           . rw[hev]
             refine zov (P:=P) hu (zbq hshT) hsy rfl hy1 (fun ad had=> ?_) (fun h=>by cases h)
             cases had
             by_cases h0:min ys.length len=0
             . have:=hv0 h0
               subst this
               simp only[zay,zel hb'];rfl
             . have hx0:=hxo (by omega)
               rw[w3]at hx0
               subst hx0
               have:=zba (P:=P) (e:=e') (fz:=fz) vys.toList (off*sh.size) 0 c' w hb' (by simpa using g2) hf.free hone
               simpa using this
           . refine zcm hst.inv hk _ _ (by simp) (fun b' hb'=>zbj fun e=>hb' ⟨_,.of (e▸hr),⟨_,hk,by simp⟩⟩) (fun _=>by simp) fun le =>
              .inr ⟨b,cap,_,e',fz,hr,by rw[g3];exact hle0,zbx hb',by simp[zav,hsz],hf.put (zav ..),fun q hq=> ?_,g1.mono le⟩
             simp only[zcs,wE]at hq
             rcases hq with (hq|hq)|hq
             . exact hsh q (wD hq)
             . exact hyt q hq
             . exact hsh q (wG hq)
       . cases hs
     . rename_i p ob0 p0 shx z hk
       split at hs
       . rename_i n0 e0 l hsub hnav
         split at hs
         . rename_i hc2
           simp only[wb,decide_eq_true_eq]at hc2
           simp only[wq,wu]at hs
           obtain⟨z',hz',rfl,rfl⟩:=hs
           obtain⟨hbq,hle⟩:=hc2
           have:=Sh.beq_eq hbq
           subst this
           have hsp:l.take off++ys.take (min ys.length len)++l.drop (off+min ys.length len)=zcs l off (ys.take (min ys.length len)):=by rw[zcs,htl]
           rw[hsp]at hz'
           obtain⟨b',c',e',fz,hr',hb',hsz,hf,hsh,hw,hrc⟩:=hst.inv.obs k _ hk
           rcases zb9 hvx with ⟨a0,_,_,_,hev,hreg⟩|⟨b,root,mm,e2,o',xo,hr,hs2,hof,hle2,hev,hxo⟩
           . rw[hreg]at hr';cases hr'
           rw[hr]at hr'
           simp only[wp,Rg.blk.injEq]at hr'
           obtain⟨rfl,rfl⟩:=hr'
           obtain⟨y0,o2,pre,post,hn',ho',hy0,hfl,hl,hwf,hpl,hset⟩:=zer p root z _ hsh hsub
           rw[hnav]at hn';cases hn'
           rw[hof]at ho';cases ho'
           rw[hs2]at hsub
           simp only[wp,Sh.ar.injEq]at hsub
           obtain⟨rfl,rfl⟩:=hsub
           rw[zb1]at hy0
           simp only[wb,beq_iff_eq,wQ]at hy0
           have hlw:=hwf hw
           rw[AV.wf,AV.wfp_iff]at hlw
           rw[AV.flat]at hfl
           have hcl:z.flat.length=root.size:=zah root z hsh
           obtain⟨g1,g2,g3,g4⟩:=zg6 (c:=c') (sh:=e2) (l:=l) (ys:=ys.take (min ys.length len)) (off:=off) (base:=o') (vs:=vys.toList) (pre:=pre) (post:=post)
            (fun q hq=>hy0.2 q hq) (fun q hq=>(hyt q hq).1) (by rw[htl];omega) (by rw[<-hfl];exact hrc) hl hy2 (by
              rw[hsz,<-hcl,hfl];simp[hl])
           have hnew:zaq (.ar mm e2) (.agg (zcs l off (ys.take (min ys.length len))))=true:=by
            rw[zb1]
            simp only[wb,beq_iff_eq,wQ,g3,hy0.1,true_and]
            intro q hq
            simp only[zcs,wE]at hq
            rcases hq with (hq|hq)|hq
            . exact hy0.2 q (wD hq)
            . exact(hyt q hq).1
            . exact hy0.2 q (wG hq)
           have hnw:(AV.agg (zcs l off (ys.take (min ys.length len)))).wf:=by
            rw[AV.wf,AV.wfp_iff]
            intro q hq
            simp only[zcs,wE]at hq
            rcases hq with (hq|hq)|hq
            . exact hlw q (wD hq)
            . exact(hyt q hq).2
            . exact hlw q (wG hq)
           obtain⟨z'',hz'',hsh',hfl',hwf',_⟩:=hset _ hnew
           rw[hz']at hz'';cases hz''
           refine⟨_,{w with heap:=w.heap.setIfInBounds b (.cells (zay c' (o'+off*e2.size) vys.toList) e' fz)},G,⟨rfl,rfl⟩,.inl (run ?_),?_,za5 _ _⟩
           . rw[hev]
             refine zov (P:=P) hu (zbq hshT) hsy rfl hy1 (fun ad had=> ?_) (fun h=>by cases h)
             cases had
             by_cases h0:min ys.length len=0
             . have:=hv0 h0
               subst this
               simp only[zay,zel hb'];rfl
             . have hx0:=hxo (by omega)
               subst hx0
               have:=zba (P:=P) (e:=e') (fz:=fz) vys.toList (o'+off*e2.size) 0 c' w hb' (by simpa using g2) hf hone
               simpa using this
           . refine zcm hst.inv hk _ _ (by simp) (fun b' hb'=>zbj fun e=>hb' ⟨_,.of (e▸hr),⟨_,hk,by simp⟩⟩) (fun _=>by simp) fun le =>
              ⟨b,_,e',fz,hr,zbx hb',by simp[zav,hsz],by unfold free at hf ⊢;rw[zav];exact hf,hsh',hwf' hw hnw,?_⟩
             rw[hfl',AV.flat]
             exact g1.mono le
         . cases hs
       . cases hs
     . cases hs
   . cases hs
 . unfold zgd at hs
   split at hs
   . rename_i k off len k' off2 len2 hvx' hvy'
     rw[hvx',zaj rfl]at hvx
     rw[hvy',zaj rfl]at hvy
     split at hs
     . rename_i hkk
       subst hkk
       split at hs
       . rename_i shx els hk
         rw[ws,wb,decide_eq_true_eq]at hs
         obtain⟨⟨hbq,hoff,hend,hsrc,hpos⟩,hs⟩:=hs
         cases hs
         have:=Sh.beq_eq hbq
         subst this
         rcases hst.inv.obs k _ hk with ⟨rfl,hreg⟩|⟨b',cap,c',e',fz,hr',hle0,hb',hsz,hf,hsh,hrc⟩
         . exfalso;simp only[wR]at *;omega
         rcases zb9 hvx with ⟨a0,_,_,_,hev,hreg⟩|⟨b,root,mm,e2,o',xo,hr,hs2,hof,hle2,hev,hxo⟩
         . rw[hreg]at hr';cases hr'
         rw[hr]at hr'
         simp only[wp,Rg.blk.injEq]at hr'
         obtain⟨rfl,rfl⟩:=hr'
         simp only[Sh.sub,wp,Sh.ar.injEq]at hs2
         obtain⟨rfl,rfl⟩:=hs2
         simp only[Sh.off,wp]at hof
         subst hof
         have hx0:=hxo (by omega)
         rw[w3]at hx0
         subst hx0
         rcases zb9 hvy with ⟨a0,_,_,_,_,hreg⟩|⟨b2,root,mm,e2,o',xo,hr2,hs2,hof,hle3,hev2,hxo2⟩
         . rw[hreg]at hr;cases hr
         rw[hr]at hr2
         simp only[wp,Rg.blk.injEq]at hr2
         obtain⟨rfl,rfl⟩:=hr2
         simp only[Sh.sub,wp,Sh.ar.injEq]at hs2
         obtain⟨rfl,rfl⟩:=hs2
         simp only[Sh.off,wp]at hof
         subst hof
         have hx0:=hxo2 (by omega)
         rw[w3]at hx0
         subst hx0
         obtain⟨f1,f2,f3⟩:=zd4 (n:=sh.size) (fun x hx=>zah sh x (hsh x hx).1) off2 (min len2 len) hsrc
         have hr':=hrc.part f1
         rw[f2,w3]at hr'
         obtain⟨vs,h5,h6⟩:=zlk (P:=P) (w':=w) rfl hb' hr' f3.symm
         have hel:(AV.flats els).length=els.length*sh.size:=zbc els fun x hx=>zah sh x (hsh x hx).1
         have hvl:vs.toList.length=min len2 len*sh.size:=by rw[h6.len,f3]
         have hbd:off*sh.size+vs.toList.length<=c'.size:=by
          rw[hvl,hsz,<-w5];exact w4 _ (by omega)
         have hone:∀q∈vs.toList,q.oneCell'=true:=fun q hq=>by
          obtain⟨j,hj,rfl⟩:=wI hq
          exact(h6.get j hj (by rw[<-h6.len];exact hj)).oneCell
         have hst2:=zba (P:=P) (e:=e') (fz:=fz) vs.toList (off*sh.size) 0 c' w hb' (by simpa using hbd) hf.free hone
         simp only[wa]at hst2
         have htk:(AV.flats (els.take off)).length=off*sh.size:=by
          rw[zbc (n:=sh.size) _ fun x hx=>zah sh x (hsh x (wD hx)).1,wT,Nat.min_eq_left hoff]
         have htk2:AV.flats els=AV.flats (els.take off)++AV.flats (els.drop off):=by rw[<-AV.flats_append,List.take_append_drop]
         have hnew:RepC w.heap G (zay c' (off*sh.size) vs.toList) 0 (AV.flats (els.take off++sub els off2 (min len2 len))):=by
          intro j hj
          rw[AV.flats_append,wF,htk]at hj
          rw[w3,zgn _ _ _ _ hbd]
          by_cases h:j<off*sh.size
          . rw[if_neg (by omega)]
            obtain⟨q,hq,hrq⟩:=hrc j (by rw[htk2,wF,htk];omega)
            refine⟨q,by simpa using hq,?_⟩
            simp only[AV.flats_append]
            rw[wO (by omega)]
            simp only[htk2]at hrq
            rw[wO (by omega)]at hrq
            exact hrq
          . rw[f3]at hj
            have hj2:j-off*sh.size<vs.toList.length:=by rw[hvl];omega
            rw[if_pos (by omega),wJ hj2]
            refine⟨_,rfl,?_⟩
            simp only[AV.flats_append]
            rw[wW (by omega)]
            have:=h6.get (j-off*sh.size) hj2 (by rw[<-h6.len];exact hj2)
            simpa[htk]using this
         have hlen2:(els.take off++sub els off2 (min len2 len)).length<=cap:=by
          rw[wF,wT,zi5 hsrc];omega
         refine⟨_,{w with heap:=w.heap.setIfInBounds b (.cells (zay c' (off*sh.size) vs.toList) e' fz)},G,⟨rfl,rfl⟩,.inl (run (r:=.int .i64 (min len2 len:Nat)) ?_),zcm hst.inv hk _ _ (by simp) (fun b' hb'=>zbj fun e=>hb' ⟨_,.of (e▸hr),⟨_,hk,by simp⟩⟩) (fun _=>by simp) fun le =>
          .inr ⟨b,cap,_,e',fz,hr,hlen2,zbx hb',by simp[zav,hsz],hf.put (zav ..),fun q hq=> ?_,hnew.mono le⟩,za5 _ _⟩
         . rw[hev,hev2]
           have hn':Nat.min len2 len=min len2 len:=rfl
           simp only[Builtin.copy_,wB,wA,wC,Sem.run_bind,zap hu,zbt (zbq hshT),Result.andThen_ok,Builtin.lenOf,Sem.run_pure,hn',Builtin.firstCells,h5,hst2]
           rfl
         . rcases wE.1 hq with hq|hq
           . exact hsh q (wD hq)
           . exact hsh q (zs4 hq)
       . cases hs
     . cases hs
   . cases hs
 . cases hs
end Go.Ev
namespace Go.Ev
open Go
variable {im :Im} {P:Program} {w:World} {H:Heap} {G:Gh} {gl:Gl} {cl:Cl} {st:St} {a:Act} {o:Oper} {m:MOp} {v:AV} {us:Hp}
theorem zsm {α β:Type}(f:α->β->Sem (ForInStep β))(s0 s1:β):∀(l:List α) (n:Nat) (res:Bool),
  (∀(i:Nat) (x:α),l[i]? =some x->i<n->(f x s0).run P w= .ok (.yield s0) w) ->
  (n=l.length/\res=true\/res=false/\∃x,l[n]? =some x/\(f x s0).run P w= .ok (.done s1) w) ->
  (forIn l s0 f).run P w= .ok (if res then s0 else s1) w
 | [],n,res,_,h=>by
   rcases h with ⟨_,rfl⟩|⟨_,x,hx,_⟩
   . rfl
   . simp at hx
 | x::l,n,res,h1,h2=>by
   simp only[List.forIn_cons,Sem.run_bind]
   cases n with
   | zero =>
     rcases h2 with ⟨h,_⟩|⟨rfl,y,hy,hr⟩
     . simp at h
     . simp only[wA,wp]at hy
       subst hy
       rw[hr];rfl
   | succ n =>
     rw[h1 0 x rfl (by omega)]
     simp only[Result.andThen_ok]
     exact zsm f s0 s1 l n res (fun i y hy hi=>h1 (i+1) y (by simpa using hy) (by omega)) (by simpa using h2)
theorem zn1 :∀{fs:List Ek} {l m:List AV} {r:Bool},zh2 fs l m=some r->l.length=fs.length/\m.length=fs.length\/r=false->∃n,
  (∀(i:Nat) (s:Ek) (x y:AV),i<n->fs[i]? =some s->l[i]? =some x->m[i]? =some y->eqAV s x y=some true) /\
  (n=fs.length/\r=true\/r=false/\∃s x y,fs[n]? =some s/\l[n]? =some x/\m[n]? =some y/\eqAV s x y=some false)
 | [],[],[],r,h,_=>by simp only[zh2,wp]at h;exact⟨0,fun i _ _ _ hi=>by omega,.inl ⟨rfl,h.symm⟩⟩
 | s::fs,x::l,y::m,r,h,hl=>by
   simp only[zh2,wr]at h
   obtain⟨t,ht,h⟩:=h
   cases t with
   | false =>
     simp only[wc,if_false,wp]at h
     exact⟨0,fun i _ _ _ hi=>by omega,.inr ⟨h.symm,s,x,y,rfl,rfl,rfl,ht⟩⟩
   | true =>
     simp only[if_true]at h
     obtain⟨n,h1,h2⟩:=zn1 h (by simpa using hl)
     refine⟨n+1,fun i s' x' y' hi h3 h4 h5=> ?_,by simpa using h2⟩
     cases i with
     | zero=>simp only[wA,wp]at h3 h4 h5;subst h3 h4 h5;exact ht
     | succ i=>exact h1 i s' x' y' (by omega) (by simpa using h3) (by simpa using h4) (by simpa using h5)
 | [],_::_,_,_,h,_=>by simp[zh2]at h
 | [],[],_::_,_,h,_=>by simp[zh2]at h
 | _::_,[],_,_,h,_=>by simp[zh2]at h
 | _::_,_::_,[],_,h,_=>by simp[zh2]at h
theorem zn0 {f:AV×AV->Option Bool}:∀{l:List (AV×AV)} {r:Bool},zpy l f=some r->∃n,
  (∀(i:Nat) (p:AV×AV),i<n->l[i]? =some p->f p=some true)/\(n=l.length/\r=true\/r=false/\∃p,l[n]? =some p/\f p=some false)
 | [],r,h=>by simp only[zpy,wp]at h;exact⟨0,fun i _ hi=>by omega,.inl ⟨rfl,h.symm⟩⟩
 | p::l,r,h=>by
   simp only[zpy,wr]at h
   obtain⟨t,ht,h⟩:=h
   cases t with
   | false =>
     simp only[wc,if_false,wp]at h
     exact⟨0,fun i _ hi=>by omega,.inr ⟨h.symm,p,rfl,ht⟩⟩
   | true =>
     simp only[if_true]at h
     obtain⟨n,h1,h2⟩:=zn0 h
     refine⟨n+1,fun i q hi h3=> ?_,by simpa using h2⟩
     cases i with
     | zero=>simp only[wA,wp]at h3;subst h3;exact ht
     | succ i=>exact h1 i q (by omega) (by simpa using h3)
theorem z2c :∀(n d m:Nat) (t:TypeId) (sh:Sh) (ek:Ek) (vx vy:Value) (x y:AV) (r:Bool),n<=d->ekOf P n t=some ek->shOf P m t=some sh->zaq sh x=true->zaq sh y=true ->
  RepV w.heap G vx x->RepV w.heap G vy y->eqAV ek x y=some r->(Op.equalIn d t vx vy).run P w= .ok r w:=by
 intro n
 induction n with
 | zero=>intro d m t sh ek vx vy x y r _ h;simp[ekOf]at h
 | succ n ih =>
   intro d m t sh ek vx vy x y r hd hok hsh hx hy hvx hvy he
   obtain⟨d,rfl⟩:∃d',d=d'+1:=⟨d-1,by omega⟩
   simp only[ekOf]at hok
   split at hok
   . rename_i hu
     simp only[wp]at hok
     subst hok
     cases x<;>cases y<;>simp only[eqAV]at he<;>(try (cases he;done))
     simp only[wp]at he
     subst he
     rw[zct ((RepT.of_known rfl).2 hvx),zct ((RepT.of_known rfl).2 hvy)]
     exact zj9 hu
   . rename_i kk hu
     simp only[wp]at hok
     subst hok
     cases x<;>cases y<;>simp only[eqAV]at he<;>(try (cases he;done))
     split at he
     . rename_i hk
       simp only[wp]at he
       subst he hk
       rw[zbb ((RepT.of_known rfl).2 hvx),zbb ((RepT.of_known rfl).2 hvy)]
       simp only[Op.equalIn,Sem.run_bind,zap hu,Result.andThen_ok,if_true,Sem.run_pure]
     . cases he
   . rename_i hu
     simp only[wp]at hok
     subst hok
     cases x<;>cases y<;>simp only[eqAV]at he<;>(try (cases he;done))
     rename_i l1 l2
     simp only[wp]at he
     subst he
     rw[zdu ((RepT.of_known rfl).2 hvx),zdu ((RepT.of_known rfl).2 hvy)]
     have e1:((ByteArray.mk ⟨l1⟩)==(ByteArray.mk ⟨l2⟩))=(l1==l2):=by
      change ((⟨l1⟩:Array UInt8)==⟨l2⟩)=_
      simp
     simp only[Op.equalIn,Sem.run_bind,zap hu,Result.andThen_ok,Sem.run_pure,e1]
   . rename_i fs hu
     split at hok
     . rename_i hcond
       simp only[wb,wg,wQ]at hcond
       obtain⟨hstood,hfs⟩:=hcond
       simp only[wq]at hok
       obtain⟨eks,heks,rfl⟩:=hok
       obtain⟨hel,heg⟩:=zes heks
       obtain⟨shs,rfl,hlen,hget⟩:=zdn hsh hu
       cases x<;>cases y<;>simp only[eqAV]at he<;>(try (cases he;done))
       rename_i lx ly
       rw[ze4]at hx hy
       obtain⟨xs,rfl,hxl,hxw⟩:=zey ((RepT.of_known rfl).2 hvx) rfl
       obtain⟨ys,rfl,hyl,hyw⟩:=zey ((RepT.of_known rfl).2 hvy) rfl
       have hlx:lx.length=fs.size:=by rw[hlen];exact(zei hx).symm
       have hly:ly.length=fs.size:=by rw[hlen];exact(zei hy).symm
       have hle:eks.length=fs.size:=by simpa using hel
       obtain⟨k,hk1,hk2⟩:=zn1 he (.inl ⟨by omega,by omega⟩)
       have field:∀(i:Nat) (f:Field) (s:Sh) (ek:Ek) (u v:AV) (b:Bool),fs[i]? =some f->shs[i]? =some s->eks[i]? =some ek->lx[i]? =some u->ly[i]? =some v->eqAV ek u v=some b ->
         f.name≠ "_" /\∃pu pv,(part f.type xs f.offset).run P w= .ok pu w/\(part f.type ys f.offset).run P w= .ok pv w/\(Op.equalIn d f.type pu pv).run P w= .ok b w:=by
        intro i f s ek u v b hf hs hek hu' hv' he'
        obtain⟨s',g1,g2,g3,n',g4⟩:=hget i f hf
        rw[hs]at g1;cases g1
        obtain⟨ek',hek1,hek2⟩:=heg i f (by simpa using hf)
        rw[hek]at hek1;cases hek1
        have hmem:=hfs f (by have:=wS (l:=fs.toList) (i:=i) (by simpa using hf);exact this)
        obtain⟨u',hu2,hsu⟩:=zdr hx hs
        rw[hu']at hu2;cases hu2
        obtain⟨v',hv2,hsv⟩:=zdr hy hs
        rw[hv']at hv2;cases hv2
        obtain⟨pre,post,k1,k2,_⟩:=zcw hx hu'
        obtain⟨pre',post',k1',k2',_⟩:=zcw hy hv'
        have hp:=(zb0 hxl).part k1
        rw[w3,k2]at hp
        have hp':=(zb0 hyl).part k1'
        rw[w3,k2']at hp'
        obtain⟨pu,hpu,hru⟩:=zg7 (P:=P) (w:=w) (G:=G) (cs:=xs) (off:=f.offset) g4 hsu (zeg hxw hu') (by rw[g2];exact hp)
        obtain⟨pv,hpv,hrv⟩:=zg7 (P:=P) (w:=w) (G:=G) (cs:=ys) (off:=f.offset) g4 hsv (zeg hyw hv') (by rw[g2];exact hp')
        exact⟨by simpa using hmem,pu,pv,hpu,hpv,ih d n' f.type s ek pu pv u v b (by omega) hek2 g4 hsu hsv hru hrv he'⟩
       simp only[Op.equalIn,Sem.run_bind,zap hu,Result.andThen_ok,run_program,hstood,<-Array.forIn_toList,wc,if_false]
       rw[zsm (P:=P) (w:=w) _ (none,()) (some false,()) fs.toList k r]
       . cases r<;>rfl
       . intro i f hf hi
         rw[wi]at hf
         have hil:i<fs.size:=(Array.getElem?_eq_some_iff.1 hf).1
         obtain⟨hn,pu,pv,h1,h2,h3⟩:=field i f (shs[i]'(by omega)) (eks[i]'(by omega)) (lx[i]'(by omega)) (ly[i]'(by omega)) true hf (by simp) (by simp) (by simp) (by simp) (hk1 i _ _ _ hi (by simp) (by simp) (by simp))
         simp only[hn,ne_eq,not_false_eq_true,if_true,Sem.run_bind,h1,h2,h3,Result.andThen_ok]
         rfl
       . rcases hk2 with ⟨h1,h2⟩|⟨h1,s,u,v,h2,h3,h4,h5⟩
         . exact .inl ⟨by simp[h1,hle],h2⟩
         . have hil:k<fs.size:=by rw[<-hle];exact(wN.1 h2).1
           obtain⟨hn,pu,pv,g1,g2,g3⟩:=field k fs[k] (shs[k]'(by omega)) s u v false (by simp[hil]) (by simp) h2 h3 h4 h5
           refine .inr ⟨h1,fs[k],by simp[hil],?_⟩
           simp only[hn,ne_eq,not_false_eq_true,if_true,Sem.run_bind,g1,g2,g3,Result.andThen_ok]
           rfl
     . cases hok
   . rename_i k e hu
     simp only[wq]at hok
     obtain⟨ek,hek,rfl⟩:=hok
     obtain⟨s,rfl,hsz,n',hse⟩:=zek hsh hu
     cases x<;>cases y<;>simp only[eqAV]at he<;>(try (cases he;done))
     rename_i lx ly
     rw[zb1]at hx hy
     simp only[wb,beq_iff_eq,wQ]at hx hy
     obtain⟨xs,rfl,hxl,hxw⟩:=zey ((RepT.of_known rfl).2 hvx) rfl
     obtain⟨ys,rfl,hyl,hyw⟩:=zey ((RepT.of_known rfl).2 hvy) rfl
     split at he
     . obtain⟨q,hq1,hq2⟩:=zn0 he
       have elem:∀(i:Nat) (u v:AV) (b:Bool),lx[i]? =some u->ly[i]? =some v->eqAV ek u v=some b ->
         ∃pu pv,(part e xs (i*s.size)).run P w= .ok pu w/\(part e ys (i*s.size)).run P w= .ok pv w/\(Op.equalIn d e pu pv).run P w= .ok b w:=by
        intro i u v b hu' hv' he'
        have hsu:=hx.2 u (wS hu')
        have hsv:=hy.2 v (wS hv')
        obtain⟨pre,post,k1,k2,_⟩:=zb5 (fun z hz=>zah s z (hx.2 z hz)) hu'
        obtain⟨pre',post',k1',k2',_⟩:=zb5 (fun z hz=>zah s z (hy.2 z hz)) hv'
        have hp:=(zb0 hxl).part k1
        rw[w3,k2]at hp
        have hp':=(zb0 hyl).part k1'
        rw[w3,k2']at hp'
        obtain⟨pu,hpu,hru⟩:=zg7 (P:=P) (w:=w) (G:=G) (cs:=xs) (off:=i*s.size) hse hsu (zeg hxw hu') hp
        obtain⟨pv,hpv,hrv⟩:=zg7 (P:=P) (w:=w) (G:=G) (cs:=ys) (off:=i*s.size) hse hsv (zeg hyw hv') hp'
        exact⟨pu,pv,hpu,hpv,ih d n' e s ek pu pv u v b (by omega) hek hse hsu hsv hru hrv he'⟩
       simp only[Op.equalIn,Sem.run_bind,zap hu,Result.andThen_ok,zbt hsz,Std.Legacy.Range.forIn_eq_forIn_range']
       have hzl:(lx.zip ly).length=k:=by rw[List.length_zip,hx.1,hy.1];omega
       rw[zsm (P:=P) (w:=w) _ (none,()) (some false,()) _ q r]
       . cases r<;>rfl
       . intro i j hj hi
         have hik:i<k:=by
          rcases hq2 with ⟨h,_⟩|⟨_,p,h,_⟩
          . omega
          . have:=(wN.1 h).1;omega
         have hji:j=i:=by
          rw[w0]at hj
          . simpa using hj.symm
          . simpa[Std.Legacy.Range.size]using hik
         subst hji
         obtain⟨pu,pv,h1,h2,h3⟩:=elem j (lx[j]'(by omega)) (ly[j]'(by omega)) true (by simp) (by simp) (hq1 j (lx[j]'(by omega),ly[j]'(by omega)) hi (by simp[wX]))
         simp only[Sem.run_bind,h1,h2,h3,Result.andThen_ok]
         rfl
       . rcases hq2 with ⟨h1,h2⟩|⟨h1,p,h2,h3⟩
         . exact .inl ⟨by simp[Std.Legacy.Range.size,h1,hzl],h2⟩
         . have hil:q<k:=by rw[<-hzl];exact(wN.1 h2).1
           rw[wX]at h2
           obtain⟨pu,pv,g1,g2,g3⟩:=elem q p.1 p.2 false h2.1 h2.2 h3
           refine .inr ⟨h1,q,?_,?_⟩
           . rw[w0]
             . simp
             . simpa[Std.Legacy.Range.size]using hil
           . simp only[Sem.run_bind,g1,g2,g3,Result.andThen_ok]
             rfl
     . cases he
   . cases hok
theorem z5g {neg:Bool}{bop:BinOp}{t yt:TypeId}{x y:Operand}{x' y':Opd}{sh:Sh}{ek:Ek}(hg:GlOk w.heap G gl)(hst:StOk w.heap G st a.tmps)(ho:o.op= .binOp bop t x y yt)
  (hop:bop=if neg then .neq else .eql) (hag:sh.agg=true) (hgu:P.eqGuardType P.depth t=false) (hsh:shOf P SF t=some sh) (hek:ekOf P SF t=some ek)
  (hx:zak x=some x') (hy:zak y=some y')
  (hs:zae gl cl st o.dst (.eqA neg sh ek x' y')=some (v,us)):Good P w G st.hp (execOp a.eval o) v us:=by
 have hvx:=zas hg hst hx
 have hvy:=zas hg hst hy
 simp only[zae]at hs
 split at hs
 . rename_i hcond
   simp only[wb]at hcond
   simp only[wq,wu]at hs
   obtain⟨r,hr,rfl,rfl⟩:=hs
   have hvx':=(RepT.of_known (zbr hcond.1)).1 hvx
   have hvy':=(RepT.of_known (zbr hcond.2)).1 hvy
   have he:=z2c SF 10000 SF t sh ek _ _ _ _ r (by decide) hek hsh hcond.1 hcond.2 hvx' hvy' hr
   obtain⟨xs,ex,_⟩:=zey hvx (by rw[zmh hcond.1,hag])
   obtain⟨ys,ey,_⟩:=zey hvy (by rw[zmh hcond.2,hag])
   rw[ex,ey]at he
   have he':(Op.equal t (.agg xs) (.agg ys)).run P w= .ok r w:=he
   refine⟨_,w,G,⟨rfl,rfl⟩,.inl ?_,Step.refl hst.inv,zdc _⟩
   have hguard:(eqGuard bop t x y (.agg xs) (.agg ys)).run P w= .ok () w:=by
    subst hop
    cases neg<;>simp[eqGuard,hgu]
   have hbin:(binOp bop t (.agg xs) (.agg ys)).run P w= .ok (.bool (if neg then !r else r)) w:=by
    subst hop
    cases neg<;>simp only[binOp,wc,if_false,if_true,Sem.run_bind,he',Result.andThen_ok,Sem.run_pure]
   simp only[execOp,ho,ex,ey,Sem.run_bind,hguard,hbin,Result.andThen_ok,Sem.run_pure]
 . cases hs
end Go.Ev
namespace Go.Ev
open Go
variable {im :Im} {P:Program} {w:World} {H:Heap} {G:Gh} {gl:Gl} {cl:Cl} {st:St} {a:Act} {o:Oper} {m:MOp} {v:AV} {us:Hp}
theorem zho {zv:Value}{z:AV}{sh:Sh}(hrl:RepL H G zv.cells.toList z.flat)(hzl:z.flat.length=sh.size)(n:Nat) :
  RepL H G (Builtin.zeroCells zv.cells n).toList (AV.flats (List.replicate n z)):=by
 have hzs:zv.cells.size=sh.size:=by have:=hrl.len;rw[<-hzl,<-this];simp
 have:=zfa hrl hzl n
 rw[<-hzs]at this
 exact this
theorem zxo {c:Call}{t e:TypeId}{x:Operand}{x':Opd}{sh:Sh}{z:AV}(hg:GlOk w.heap G gl)(hst:StOk w.heap G st a.tmps)(ho:o.op= .call c)(hb:c.callee= .builtin .clear)
  (hargs:c.args= #[x]) (ht:c.argTypes= #[t]) (hu:P.underlying t=some (.slice e)) (hz:zec P e=some (sh,z))
  (hx:zak x=some x') (hs:zae gl cl st o.dst (.clear sh z x')=some (v,us)):Good P w G st.hp (execOp a.eval o) v us:=by
 have hvx:=zas hg hst hx
 obtain⟨hshT,zv,hzv,hsh,hzp,hzw,hrl⟩:=zch hz
 have hzl:z.flat.length=sh.size:=zah sh z hsh
 have run:∀{r:Value} {w':World},(Builtin.clear_ #[t] o.type #[a.eval x]).run P w= .ok r w'->(execOp a.eval o).run P w= .ok (.value r) w':=by
  intro r w' hr
  simp only[execOp,ho,resolve,hb,hargs,ht,Sem.run_bind,Sem.run_pure,Result.andThen_ok,invoke,builtin,wH,wK,wM,hr]
 simp only[zae]at hs
 split at hs
 . rename_i k off len hvx'
   rw[hvx',zaj rfl]at hvx
   split at hs
   . rename_i shx els hk
     rw[ws,wb,decide_eq_true_eq]at hs
     obtain⟨⟨hbq,hle⟩,hs⟩:=hs
     cases hs
     have:=Sh.beq_eq hbq
     subst this
     have hrz:∀q∈List.replicate len z,zaq sh q=true/\q.plain=true/\q.wf:=fun q hq=>by rw[wY hq];exact⟨hsh,hzp,hzw⟩
     have hsp:els.take off++List.replicate len z++els.drop (off+len)=zcs els off (List.replicate len z):=by rw[zcs,wZ]
     rw[hsp]
     have hzl2:=zho (hrl w.heap G) hzl len
     rcases hst.inv.obs k _ hk with ⟨rfl,hreg⟩|⟨b',cap,c',e',fz,hr',hle0,hb',hsz,hf,hsh',hrc⟩
     . simp only[wR]at hle
       obtain⟨rfl,rfl⟩:off=0/\len=0:=by omega
       rcases zb9 hvx with ⟨a0,_,_,_,hev,_⟩|⟨b,root,mm,e2,o',xo,hr,_⟩
       . refine⟨.tuple #[],w,G,⟨rfl,rfl⟩,.inl (run ?_),zcm hst.inv hk _ _ rfl (fun _ _=>rfl) (fun _=>by simp) fun le=>.inl ⟨by simp[zcs],hreg⟩,trivial⟩
         rw[hev]
         simp only[Builtin.clear_,wB,wA,Sem.run_bind,zap hu,Result.andThen_ok]
         cases a0<;>rfl
       . rw[hreg]at hr;cases hr
     . rcases zb9 hvx with ⟨a0,_,_,_,hev,hreg⟩|⟨b,root,mm,e2,o',xo,hr,hs2,hof,hle2,hev,hxo⟩
       . rw[hreg]at hr';cases hr'
       rw[hr]at hr'
       simp only[wp,Rg.blk.injEq]at hr'
       obtain⟨rfl,rfl⟩:=hr'
       simp only[Sh.sub,wp,Sh.ar.injEq]at hs2
       obtain⟨rfl,rfl⟩:=hs2
       simp only[Sh.off,wp]at hof
       subst hof
       have hel:(AV.flats els).length=els.length*sh.size:=zbc els fun x hx=>zah sh x (hsh' x hx).1
       obtain⟨g1,g2,g3,g4⟩:=zg6 (c:=c') (sh:=sh) (l:=els) (ys:=List.replicate len z) (off:=off) (base:=0) (vs:=(Builtin.zeroCells zv.cells len).toList) (pre:=[]) (post:=[])
        (fun q hq=>(hsh' q hq).1) (fun q hq=>(hrz q hq).1) (by rw[wZ];exact hle) (by simpa using hrc) rfl hzl2 (by rw[hel,hsz,w3];exact w4 _ hle0)
       simp only[w3,wU,wV]at g1 g2
       refine⟨.tuple #[],{w with heap:=w.heap.setIfInBounds b (.cells (zay c' (off*sh.size) (Builtin.zeroCells zv.cells len).toList) e' fz)},G,⟨rfl,rfl⟩,.inl (run ?_),
        zcm hst.inv hk _ _ (by simp) (fun b' hb'=>zbj fun e=>hb' ⟨_,.of (e▸hr),⟨_,hk,by simp⟩⟩) (fun _=>by simp) fun le =>
         .inr ⟨b,cap,_,e',fz,hr,by rw[g3];exact hle0,zbx hb',by simp[zav,hsz],hf.put (zav ..),fun q hq=> ?_,g1.mono le⟩,trivial⟩
       . rw[hev]
         cases len with
         | zero =>
           have:Builtin.zeroCells zv.cells 0= #[]:=by simp[Builtin.zeroCells]
           rw[this]
           simp only[Builtin.clear_,wB,wA,Sem.run_bind,zap hu,Result.andThen_ok,zay,zel hb',Sem.run_pure]
         | succ len =>
           have hx0:=hxo (by omega)
           rw[w3]at hx0
           subst hx0
           have hs1:=zba (P:=P) (e:=e') (fz:=fz) (Builtin.zeroCells zv.cells (len+1)).toList (off*sh.size) 0 c' w hb' (by simpa using g2) hf.free (fun q hq=>by
            obtain⟨j,hj,rfl⟩:=wI hq
            exact(hzl2.get j hj (by rw[<-hzl2.len];exact hj)).oneCell)
           simp only[wa]at hs1
           simp only[Builtin.clear_,wB,wA,Sem.run_bind,zap hu,Result.andThen_ok,hzv,hs1,Sem.run_pure]
       . simp only[zcs,wE]at hq
         rcases hq with (hq|hq)|hq
         . exact hsh' q (wD hq)
         . exact hrz q hq
         . exact hsh' q (wG hq)
   . cases hs
 . cases hs
theorem z1t {c:Call}{t e:TypeId}{x:Operand}{x':Opd}(hg:GlOk w.heap G gl)(hst:StOk w.heap G st a.tmps)(ho:o.op= .call c)(hb:c.callee= .builtin .cap)
  (hargs:c.args= #[x]) (ht:c.argTypes= #[t]) (hu:P.underlying t=some (.slice e))
  (hx:zak x=some x') (hs:zae gl cl st o.dst (.capl x')=some (v,us)):Good P w G st.hp (execOp a.eval o) v us:=by
 have hvx:=zas hg hst hx
 simp only[zae]at hs
 split at hs
 . rename_i sh l hvx'
   rw[hvx',zaj rfl]at hvx
   cases hs
   obtain⟨b,cap,hev,hcap,hfull,hsh,_⟩:=zdv hvx
   have:=hfull rfl
   subst this
   refine⟨_,w,G,⟨rfl,rfl⟩,.inl ?_,Step.refl hst.inv,za5 _ _⟩
   simp only[execOp,ho,resolve,hb,hargs,ht,Sem.run_bind,Sem.run_pure,Result.andThen_ok,invoke,builtin,wH,wK,wM,hev,Builtin.cap_,wB,wA,zap hu]
   rfl
 . cases hs
theorem zll {t u e:TypeId}{ty:TypeId}{b:Option Addr}{cap:Nat}{sh shx:Sh}{z:AV}{i:TypeInfo}{l:List AV}{n:Nat}
  (hu:P.underlying t=some (.slice e)) (hu2:P.underlying u=some (.int .i64)) (hz:zec P e=some (sh,z)) (hi:P.info? e=some i) (hbytes:i.bytes<=1024) (hpos:0<sh.size) (h1n:1<=n)
  (hx:Src P w.heap G (.slice b l.length cap) shx l) (hxs:l=[]\/sh=shx) (hlt:cap<l.length+n) (hlim:l.length+n<=LIM) :
  ∃(newCap:Nat) (c:Array Value),(Builtin.append_ #[t,u] ty #[.slice b l.length cap,.int .i64 n]).run P w =
     .ok (.slice (some ⟨w.heap.size,0,none⟩) (l.length+n) newCap) {w with drawn:=w.drawn+1,heap:=w.heap.push (.cells c e)} /\
   l.length+n<=newCap/\c.size=newCap*sh.size/\RepC w.heap G c 0 (AV.flats (l++List.replicate n z)):=by
 obtain⟨hshT,zv,hzv,hsh,hzp,hzw,hrl⟩:=zch hz
 have hzl:z.flat.length=sh.size:=zah sh z hsh
 have hzs:zv.cells.size=sh.size:=by have:=(hrl w.heap G).len;rw[<-hzl,<-this];simp
 let w1:World:={w with drawn:=w.drawn+1}
 obtain⟨vx,hx1,hx2⟩:=hx.firstAll (size:=sh.size) (by rcases hxs with h|h<;>simp[h]) w1 rfl
 have hz2:=zho (hrl w.heap G) hzl n
 let newCap:=(Question.appendCap (l.length+n) cap e).cut (w.tape w.drawn (.appendCap (l.length+n) cap e))
 have hcap:l.length+n<=newCap:=w8 _ _
 have hlx:(AV.flats l).length=l.length*sh.size:=by
  rcases hxs with h|h
  . subst h;simp[AV.flats]
  . subst h;exact zbc l fun x hx'=>zah sh x (hx.els x hx').1
 have s1:vx.size=l.length*sh.size:=by rw[<-hlx,<-hx2.len];simp
 have s2:(Builtin.zeroCells zv.cells n).size=n*sh.size:=by simp[Builtin.zeroCells,hzs]
 refine⟨newCap,vx++Builtin.zeroCells zv.cells n++Builtin.zeroCells zv.cells (newCap-(l.length+n)),?_,hcap,?_,?_⟩
 . have hq:(Question.appendCap (l.length+n) cap e).forced=false:=rfl
   have c1:¬(l.length+n<=cap):=by omega
   have c2:¬(((l.length+n:Nat):Int)>IntKind.i64.max):=by
    have:IntKind.i64.max=2^63-1:=rfl
    rw[this];simp only[LIM]at hlim;omega
   have c3:¬(Builtin.nextslicecap (l.length+n) cap*i.bytes>2^48):=by
    have h1:=zgr hlt hlim
    have h2:Builtin.nextslicecap (l.length+n) cap*i.bytes<=Builtin.nextslicecap (l.length+n) cap*1024:=w7 _ hbytes
    omega
   have wn:IntKind.i64.wrap (n:Int)=n:=by
    simp[IntKind.wrap,IntKind.bits,IntKind.signed,LIM]at hlim ⊢;omega
   have c4:¬((n:Int)<0):=by omega
   have c5:¬((n:Int)*(i.bytes:Int)>2^48):=by
    have h4:(n:Int)*(i.bytes:Int)<=2^36*1024:=Int.mul_le_mul (by simp only[LIM]at hlim;omega) (by omega) (by omega) (by decide)
    omega
   have c6:¬(n*sh.size=0):=Nat.mul_ne_zero (by omega) (by omega)
   have ai:∀(kk:IntKind) (nn:Int),(Go.asInt (Value.int kk nn)).run P w=Result.ok nn w:=fun kk nn=>by simp[Go.asInt,asIntOf]
   simp only[w1]at hx1
   simp only[Builtin.append_,wB,wA,wC,Sem.run_bind,zap hu,zap hu2,zbt (zbq hshT),Result.andThen_ok,Sem.run_pure,if_true,ai,wn,c4,if_false,zg8 hi,c5,
    Int.toNat_natCast,c1,c2,c3,Bool.not_true,wc,c6,false_and,run_choose,hq,run_askRoom]
   simp only[hx1,hzv,Result.andThen_ok,newRow,Sem.run_bind,run_newObj,Sem.run_pure]
   rfl
 . simp only[wl,s1,s2]
   simp only[Builtin.zeroCells,wo,wm,hzs]
   rw[<-w5,<-w5];congr 1;omega
 . have h:=zdp hx2 hz2
   rw[<-AV.flats_append]at h
   intro j hj
   have hjl:j<(vx.toList++(Builtin.zeroCells zv.cells n).toList).length:=by rw[h.len];exact hj
   refine⟨(vx.toList++(Builtin.zeroCells zv.cells n).toList)[j],?_,h.get j hjl hj⟩
   rw[w3,wj (by simpa using hjl)]
   rw[<-wi,wk,wJ hjl]
theorem zxt {c:Call}{t u e:TypeId}{x y:Operand}{x' y':Opd}{sh:Sh}{z:AV}{i:TypeInfo}(hg:GlOk w.heap G gl)(hst:StOk w.heap G st a.tmps)(ho:o.op= .call c)(hb:c.callee= .builtin .append)
  (hargs:c.args= #[x,y]) (ht:c.argTypes= #[t,u]) (hu:P.underlying t=some (.slice e)) (hu2:P.underlying u=some (.int .i64)) (hz:zec P e=some (sh,z)) (hi:P.info? e=some i)
  (hx:zak x=some x') (hy:zak y=some y') (hs:zae gl cl st o.dst (.appmk sh z i.bytes x' y')=some (v,us)):Good P w G st.hp (execOp a.eval o) v us:=by
 have hvx:=zas hg hst hx
 have hvy:=zas hg hst hy
 obtain⟨hshT,zv,hzv,hsh,hzp,hzw,hrl⟩:=zch hz
 have run:∀{r:Value} {w':World},(Builtin.append_ #[t,u] o.type #[a.eval x,a.eval y]).run P w= .ok r w'->(execOp a.eval o).run P w= .ok (.value r) w':=by
  intro r w' hr
  simp only[execOp,ho,resolve,hb,hargs,ht,Sem.run_bind,Sem.run_pure,Result.andThen_ok,invoke,builtin,wH,wK,wM,hr]
 simp only[zae]at hs
 split at hs
 . rename_i k shx l n hk hvx' hvy'
   rw[hvx',zaj rfl]at hvx
   rw[hvy']at hvy
   rw[ws]at hs
   simp only[wb,decide_eq_true_eq,wd,wP,wt]at hs
   obtain⟨⟨⟨hnone,h1n,hbytes,hpos,hlim⟩,hxs⟩,hs⟩:=hs
   cases hs
   have hsx:=zie (P:=P) hst.inv hvx (show zbp st.hp (.lst true shx l)=some (shx,l)from rfl)
   obtain⟨b,cap,hev,hcap,hfull,hsh',_⟩:=zdv hvx
   have hcl:=hfull rfl
   have hn:n=((n.toNat:Nat):Int):=by omega
   have hxs':l=[]\/sh=shx:=hxs.imp_right Sh.beq_eq
   obtain⟨newCap,c',hrun,h1,h2,h3⟩:=zll (P:=P) (ty:=o.type) (n:=n.toNat) hu hu2 hz hi hbytes hpos (by omega) (hev▸hsx) hxs' (by omega) hlim
   have hst':=zfh (sh:=sh) (e:=e) (fz:=(0,0)) (k:=k) (els:=l++List.replicate n.toNat z) (c:=c') (cap:=newCap) hst.inv hnone (by simpa using h1) h2 (.inl rfl)
    (fun q hq=>by
      rcases wE.1 hq with hq|hq
      . rcases hxs' with h|h
        . subst h;cases hq
        . subst h;exact hsh' q hq
      . rw[wY hq];exact⟨hsh,hzp,hzw⟩) h3
   refine⟨_,{w with drawn:=w.drawn+1,heap:=w.heap.push (.cells c' e)},_,⟨rfl,rfl⟩,.inl (run ?_),hst',zld h1⟩
   rw[hev,zbb hvy,hn]
   exact hrun
 . cases hs
end Go.Ev
namespace Go.Ev
open Go
variable {im :Im} {P:Program} {w:World} {H:Heap} {G:Gh} {gl:Gl} {cl:Cl} {st:St} {a:Act} {o:Oper} {m:MOp} {v:AV} {us:Hp}
theorem zi1 {x:Option Operand}{y:Option Opd}(h:zby x=some y)(hn:y.isNone=true):x=none:=by
 cases x with
 | none=>rfl
 | some x =>
   simp only[zby,wq]at h
   obtain⟨z,_,rfl⟩:=h
   cases hn
theorem qal {xs:Array Operand}{y:Opd}(h:mapO zak xs.toList=some [y]):∃x,xs= #[x]/\zak x=some y:=by
 obtain⟨xs⟩:=xs
 obtain⟨h1,h2⟩:=zes h
 match xs,h1 with
 | [x],_ =>
   obtain⟨z,hz,hx⟩:=h2 0 x rfl
   simp only[wA,wp]at hz
   subst hz
   exact⟨x,rfl,hx⟩
theorem qer {xs:Array Operand}{y z:Opd}(h:mapO zak xs.toList=some [y,z]):∃x x',xs= #[x,x']/\zak x=some y/\zak x'=some z:=by
 obtain⟨xs⟩:=xs
 obtain⟨h1,h2⟩:=zes h
 match xs,h1 with
 | [x,x'],_ =>
   obtain⟨u,hu,hx⟩:=h2 0 x rfl
   obtain⟨u',hu',hx'⟩:=h2 1 x' rfl
   simp only[wA,wC,wp]at hu hu'
   subst hu hu'
   exact⟨x,x',rfl,hx,hx'⟩
theorem zxr {bop:BinOp}{t yt:TypeId}{x y:Operand}(hg:GlOk w.heap G gl)(hst:StOk w.heap G st a.tmps)(ho:o.op= .binOp bop t x y yt)(hc:zat P im o=some m)
  (hs:zae gl cl st o.dst m=some (v,us)):Good P w G st.hp (execOp a.eval o) v us:=by
 simp only[zat,ho,wr]at hc
 obtain⟨x',hx,y',hy,hc⟩:=hc
 have agg:∀{neg:Bool},bop=(if neg then .neq else .eql)->(∀sh,shOf P SF t=some sh->sh.agg=true) ->
   (if(!P.eqGuardType P.depth t)=true then(shOf P SF t).bind fun sh=>(ekOf P SF t).map fun k=>MOp.eqA neg sh k x' y' else none)=some m->Good P w G st.hp (execOp a.eval o) v us:=by
  intro neg hop hag h
  split at h
  . rename_i hgd
    simp only[wg]at hgd
    simp only[wr,wq]at h
    obtain⟨sh,hsh,k,hk,rfl⟩:=h
    exact z5g hg hst ho hop (hag sh hsh) hgd hsh hk hx hy hs
  . cases h
 split at hc
 . rename_i fs hu
   exact agg (neg:=false) rfl (fun sh h=>by obtain⟨fs',rfl,_⟩:=zdn h hu;rfl) hc
 . rename_i fs hu
   exact agg (neg:=true) rfl (fun sh h=>by obtain⟨fs',rfl,_⟩:=zdn h hu;rfl) hc
 . rename_i k e hu
   exact agg (neg:=false) rfl (fun sh h=>by obtain⟨s,rfl,_⟩:=zek h hu;rfl) hc
 . rename_i k e hu
   exact agg (neg:=true) rfl (fun sh h=>by obtain⟨s,rfl,_⟩:=zek h hu;rfl) hc
 . cases hc;exact zvi hg hst ho hx hy hs
 . cases hc;exact zvi hg hst ho hx hy hs
 . rename_i hu;cases hc;exact z1u hg hst ho hx hy hu hs
 . cases hc
theorem zrv {s d:TypeId}{x:Operand}(hg:GlOk w.heap G gl)(hst:StOk w.heap G st a.tmps)(ho:o.op= .convert s d x)(hc:zat P im o=some m)
  (hs:zae gl cl st o.dst m=some (v,us)):Good P w G st.hp (execOp a.eval o) v us:=by
 simp only[zat,ho,wr]at hc
 obtain⟨x',hx,hc⟩:=hc
 split at hc
 . rename_i h1 h2;cases hc;exact z1s hg hst ho hx h1 h2 hs
 . rename_i h1 h2;cases hc;exact z1j hg hst ho hx h1 h2 hs
 . rename_i h1 h2
   split at hc
   . rename_i h3;simp only[wb]at h3;cases hc;exact z5e hg hst ho h1 h2 h3.1 hx hs
   . cases hc
 . rename_i h1 h2
   split at hc
   . rename_i h3;cases hc;exact z5i hg hst ho h1 h2 h3 hx hs
   . cases hc
 . rename_i h1 h2
   split at hc
   . rename_i h3
     simp only[wb,beq_iff_eq]at h3
     cases hc
     obtain⟨rfl,h3⟩:=h3
     exact z5f hg hst ho h2 h3 hx hs
   . cases hc
 . cases hc
theorem zxg {t:TypeId}{x:Operand}{lo hi mx:Option Operand}(hg:GlOk w.heap G gl)(hst:StOk w.heap G st a.tmps)(ho:o.op= .slice t x lo hi mx)(hc:zat P im o=some m)
  (hs:zae gl cl st o.dst m=some (v,us)):Good P w G st.hp (execOp a.eval o) v us:=by
 simp only[zat,ho,wr]at hc
 obtain⟨x',hx,lo',hlo,hi',hhi,mx',hmx,hc⟩:=hc
 split at hc
 . rename_i hu
   split at hc
   . rename_i hn;cases hc;exact zxh hg hst ho hx hlo hhi (zi1 hmx hn) hu hs
   . cases hc
 . rename_i e hu
   simp only[wq]at hc
   obtain⟨i,hi,rfl⟩:=hc
   exact z1k hg hst ho hx hlo hhi hmx hu hi hs
 . rename_i n e hu
   split at hc
   . rename_i hn
     simp only[wq]at hc
     obtain⟨i,hi,rfl⟩:=hc
     exact zxi hg hst ho hx hlo hhi (zi1 hmx hn) hu hi hs
   . cases hc
 . cases hc
theorem zou {t e:TypeId}{n:Nat}{vx:Value}{ty:TypeId}(hu:P.underlying t=some (.array n e)):(Builtin.len_ #[t] ty #[vx]).run P w= .ok (.int .i64 n) w:=by
 simp only[Builtin.len_,wB,wA,Sem.run_bind,zap hu,Result.andThen_ok,Sem.run_pure]
 rfl
theorem zxp {c:Call}(hg:GlOk w.heap G gl)(hst:StOk w.heap G st a.tmps)(ho:o.op= .call c)(hc:zat P im o=some m)(hn:zfp m=false)
  (hs:zae gl cl st o.dst m=some (v,us)):Good P w G st.hp (execOp a.eval o) v us:=by
 simp only[zat,ho,wr]at hc
 obtain⟨args,hargs,hc⟩:=hc
 split at hc
 . cases hc;cases hn
 . cases hc;cases hn
 . rename_i hb
   split at hc
   . rename_i t x ht
     obtain⟨x0,hx0,hx⟩:=qal hargs
     have ht':c.argTypes= #[t]:=by rw[<-wh (xs:=c.argTypes),ht]
     split at hc
     . rename_i hu;cases hc;exact zvh hg hst ho hb hx0 ht' hx (fun _=>hu) (fun h=>by cases h) hs
     . rename_i e hu;cases hc;exact zvh hg hst ho hb hx0 ht' hx (fun h=>by cases h) (fun _=>⟨e,hu⟩) hs
     . rename_i n e hu
       cases hc
       simp only[zae,wp,wu]at hs
       obtain⟨rfl,rfl⟩:=hs
       refine⟨_,w,G,⟨rfl,rfl⟩,.inl ?_,Step.refl hst.inv,za5 _ _⟩
       simp only[execOp,ho,resolve,hb,hx0,ht',Sem.run_bind,Sem.run_pure,Result.andThen_ok,invoke,builtin,wH,wK,wM,zou hu]
     . cases hc
   . cases hc
 . rename_i hb
   split at hc
   . rename_i t u x y ht
     obtain⟨x0,y0,hx0,hx,hy⟩:=qer hargs
     have ht':c.argTypes= #[t,u]:=by rw[<-wh (xs:=c.argTypes),ht]
     split at hc
     . rename_i e e' hu hu2
       simp only[wr,wq]at hc
       obtain⟨⟨sh,z⟩,hz,i,hi,rfl⟩:=hc
       exact zmj hg hst ho hb hx0 ht' hu (.inr ⟨e',hu2⟩) hz hi hx hy hs
     . rename_i e hu hu2
       simp only[wr,wq]at hc
       obtain⟨⟨sh,z⟩,hz,i,hi,rfl⟩:=hc
       exact zmj hg hst ho hb hx0 ht' hu (.inl hu2) hz hi hx hy hs
     . rename_i e hu hu2
       simp only[wr,wq]at hc
       obtain⟨⟨sh,z⟩,hz,i,hi,rfl⟩:=hc
       exact zxt hg hst ho hb hx0 ht' hu hu2 hz hi hx hy hs
     . cases hc
   . cases hc
 . rename_i hb
   split at hc
   . rename_i t u x y ht
     obtain⟨x0,y0,hx0,hx,hy⟩:=qer hargs
     have ht':c.argTypes= #[t,u]:=by rw[<-wh (xs:=c.argTypes),ht]
     split at hc
     . rename_i e hu
       simp only[wq]at hc
       obtain⟨sh,hsh,rfl⟩:=hc
       exact z1r hg hst ho hb hx0 ht' hu hsh hx hy hs
     . cases hc
   . cases hc
 . rename_i hb
   split at hc
   . rename_i t x ht
     obtain⟨x0,hx0,hx⟩:=qal hargs
     have ht':c.argTypes= #[t]:=by rw[<-wh (xs:=c.argTypes),ht]
     split at hc
     . rename_i e hu
       simp only[wq]at hc
       obtain⟨⟨sh,z⟩,hz,rfl⟩:=hc
       exact zxo hg hst ho hb hx0 ht' hu hz hx hs
     . cases hc
   . cases hc
 . rename_i hb
   split at hc
   . rename_i t x ht
     obtain⟨x0,hx0,hx⟩:=qal hargs
     have ht':c.argTypes= #[t]:=by rw[<-wh (xs:=c.argTypes),ht]
     split at hc
     . rename_i e hu
       cases hc
       exact z1t hg hst ho hb hx0 ht' hu hx hs
     . cases hc
   . cases hc
 . rename_i hb;cases hc;exact z1n hg hst ho hb hargs hs
 . rename_i hb;cases hc;exact z1o hg hst ho hb hargs hs
 . cases hc
theorem qbx (hg:GlOk w.heap G gl)(hst:StOk w.heap G st a.tmps)(hc:zat P im o=some m)(hn:∀c,o.op= .call c->zfp m=false)
  (hs:zae gl cl st o.dst m=some (v,us)):Good P w G st.hp (execOp a.eval o) v us:=by
 cases ho:o.op with
 | move x=>exact zvg hg hst (.inl ho) hc hs
 | assign x=>exact zvg hg hst (.inr ho) hc hs
 | pick c x y=>exact z1l hg hst ho hc hs
 | alloc t=>exact zxu hst ho hc hs
 | box t x=>exact z5h hg hst ho hc hs
 | build t ps=>exact zxq hg hst ho hc hs
 | buildSlice t n ps=>exact zti hg hst ho hc hs
 | load t x=>exact z1p hg hst ho hc hs
 | store t p x=>exact zxf hg hst ho hc hs
 | binOp b t x y yt=>exact zxr hg hst ho hc hs
 | unOp u t x=>exact qbw hg hst ho hc hs
 | convert s d x=>exact zrv hg hst ho hc hs
 | sliceToArrayPointer t x=>exact zxs hg hst ho hc hs
 | makeFunc f xs ys=>exact z1m hg hst ho hc hs
 | makeSlice t l c=>exact zru hg hst ho hc hs
 | slice t x lo hi mx=>exact zxg hg hst ho hc hs
 | fieldAddr t x f=>exact zxn hg hst ho hc hs
 | indexAddr t x i=>exact zxl hg hst ho hc hs
 | field t x f=>exact zxm hg hst ho hc hs
 | index t x i=>exact zxk hg hst ho hc hs
 | extract x i=>exact z1q hg hst ho hc hs
 | nilCheck x=>exact zxj hg hst ho hc hs
 | call c=>exact zxp hg hst ho hc (hn c ho) hs
 | _=>simp[zat,ho]at hc
end Go.Ev
