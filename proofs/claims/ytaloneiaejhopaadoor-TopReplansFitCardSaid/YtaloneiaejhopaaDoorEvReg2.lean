/-
  The frame of an operation: what it looks at, and which keys it turns. No condition.
-/
import Derived.Test.YtaloneiaejhopaaDoorEvRs
set_option linter.all false
open List renaming mem_cons->wB,mem_singleton->wC,mem_cons_self->wD,not_mem_nil->wE,mem_append->wF,mem_of_getElem?->wG,map_congr_left->wH,all_eq_true->wJ,getD_eq_getElem?_getD->wK,getElem?_eq_getElem->wL,mem_map->wM,mem_append_right->wN,mem_cons_of_mem->wO,getElem_mem->wP,cons_append->wQ,range'->wR
open Option renaming ite_none_right_eq_some->wS,map_eq_some_iff->wT,some.injEq->wU,bind_eq_some_iff->wV,bind_some->wW
open Bool renaming and_eq_true->wX,or_eq_true->wY
open Prod renaming mk.injEq->wZ,mk->w0
open Nat renaming add_sub_cancel_left->w1,add_assoc->w2,zero_add->w3,add_comm->w4
namespace Go.Ev
open Go
variable {gl :Gl} {cl:Cl} {st st':St} {d:Option Nat} {m:MOp} {v:AV} {us:Hp}
theorem Hp.get_append (us hp:Hp)(k:Nat):Hp.get (us++hp) k=(match Hp.get us k with|some o=>some o|none=>Hp.get hp k):=by
 induction us with
 | nil=>rfl
 | cons x us ih =>
   obtain⟨j,o⟩:=x
   simp only[wQ,Hp.get]
   by_cases h:j=k<;>simp[h,ih]
theorem Hp.get_mem {us:Hp}{k:Nat}{o:OB}(h:Hp.get us k=some o):(k,o)∈us:=by
 induction us with
 | nil=>cases h
 | cons x us ih =>
   obtain⟨j,o'⟩:=x
   simp only[Hp.get]at h
   by_cases hj:j=k
   . simp[hj]at h;simp[hj,h]
   . simp only[hj,if_false]at h;exact wO _ (ih h)
theorem Hp.get_none {us:Hp}{k:Nat}(h:∀o,(k,o)∉us):Hp.get us k=none:=by
 cases h':Hp.get us k with
 | none=>rfl
 | some o=>exact absurd (Hp.get_mem h') (h o)
theorem zbu {fr fr':Fr}:∀{l:List Opd},(∀x∈l,Opd.val gl fr' x=Opd.val gl fr x)->vals gl fr' l=vals gl fr l
 | [],_=>rfl
 | x::l,h=>by rw[vals,vals,h x (by simp),zbu fun y hy=>h y (by simp[hy])]
theorem zdc {fr:Fr}{l:List Opd}{x:Opd}(hx:x∈l){k:Nat}(hk:k∈(x.val gl fr).refs):k∈AV.refss (vals gl fr l):=by
 induction l with
 | nil=>cases hx
 | cons y l ih =>
   rw[vals,AV.refss,wF]
   rcases wB.1 hx with rfl|h
   . exact .inl hk
   . exact .inr (ih h)
theorem znh {fr:Fr}{l:List Opd}{k:Nat}:k∈AV.refss (vals gl fr l)↔∃x∈l,k∈(x.val gl fr).refs:=by
 constructor
 . intro h
   induction l with
   | nil=>cases h
   | cons y l ih =>
     rw[vals,AV.refss,wF]at h
     rcases h with h|h
     . exact⟨y,by simp,h⟩
     . obtain⟨x,hx,hk⟩:=ih h;exact⟨x,by simp[hx],hk⟩
 . rintro ⟨x,hx,hk⟩;exact zdc hx hk
theorem reach_congr {hp hp':Hp}:∀{n:Nat} {l acc:List Nat},(∀k∈ze2 hp n l acc,k∈acc\/hp'.get k=hp.get k)->ze2 hp' n l acc=ze2 hp n l acc
 | 0,l,acc,_=>rfl
 | n+1,[],acc,_=>rfl
 | n+1,k::t,acc,h=>by
   rw[ze2]at h ⊢
   rw[ze2]
   split
   . rename_i hc
     rw[if_pos hc]at h
     exact reach_congr h
   . rename_i hc
     rw[if_neg hc]at h
     have hk:hp'.get k=hp.get k:=(h k (reach_acc (by simp))).resolve_left (by simpa using hc)
     rw[hk]
     refine reach_congr fun j hj=> ?_
     rcases h j hj with h1|h1
     . exact .inl (by simp[h1])
     . exact .inr h1
where
 reach_acc {hp:Hp}:∀{n:Nat} {l acc:List Nat} {k:Nat},k∈acc->k∈ze2 hp n l acc
 | 0,l,acc,k,h=>h
 | n+1,[],acc,k,h=>h
 | n+1,j::t,acc,k,h=>by
   rw[ze2];split
   . exact reach_acc h
   . exact reach_acc (by simp[h])
theorem zgg {hp hp':Hp}{l:List Nat}(h:∀k∈zax hp l,hp'.get k=hp.get k):zax hp' l=zax hp l:=reach_congr fun k hk=>.inr (h k hk)
theorem qek {f:Nat}{a c:List AV}{x:AV}(h:x∈cvA f a c):x∈a\/x∈c:=by
 unfold cvA at h
 split at h
 . exact wF.1 h
 . exact(wF.1 h).symm
theorem zfe (h:isImp m=false):zbj gl st m=AV.refss (vals gl st.fr m.opds):=by
 cases m with
 | call f l md=>cases md<;>first|rfl|cases h
 | callv f l md=>cases md<;>first|rfl|cases h
 | _=>rfl
theorem zkv (hv:∀x∈m.opds,x.val gl st'.fr=x.val gl st.fr)(hr:isImp m=true->∀k∈zbj gl st m,st'.hp.get k=st.hp.get k):zbj gl st' m=zbj gl st m:=by
 cases m with
 | call f l md =>
   cases md with
   | lend=>simp only[zbj];rw[zbu hv]
   | imp =>
     have hr:=hr rfl
     simp only[zbj]at hr ⊢
     rw[zbu (l:=l) hv]
     exact zgg hr
 | callv f l md =>
   cases md with
   | lend=>simp only[zbj];rw[zbu hv]
   | imp =>
     have hr:=hr rfl
     simp only[zbj]at hr ⊢
     rw[zbu (l:=l) fun x hx=>hv x (by simp[MOp.opds,hx]),hv f (by simp[MOp.opds])]
     exact zgg hr
 | _=>simp only[zbj];rw[zbu hv]
theorem zdo {hp hp':Hp}{a:AV}(h:∀k∈a.refs,hp'.get k=hp.get k):za6 hp' a=za6 hp a:=by
 cases a<;>simp only[za6]
 rename_i k p off len
 rw[h k (by simp[AV.refs])]
def ztp (hp:Hp)(a:AV):Option (Sh×List AV):=match a with| .str l=>some (Sh.sc,zad l)|a=>za6 hp a
theorem zk6 {hp hp':Hp}{a:AV}(h:za6 hp' a=za6 hp a):ztp hp' a=ztp hp a:=by
 cases a<;>first|rfl|exact h
theorem zf9 {sh:Sh}{bytes:Nat}{x y:Opd}:zaa gl cl st d (.append sh bytes x y) =
  match d,ztp st.hp (y.val gl st.fr)with
  | some k,some (shy,ys) =>
    if(st.hp.get k).isNone&&decide (bytes<=1024)&&(ys.isEmpty||Sh.beq sh shy)then
     match x.val gl st.fr with
     | .lst true shx l =>
       if(l.isEmpty||(Sh.beq sh shx&& !ys.isEmpty))&&decide (l.length+ys.length<=LIM)then
        some (.sl k [] 0 (l.length+ys.length),[(k,.grow sh (l++ys))])
       else none
     | .sl kx [] 0 n =>
       match st.hp.get kx with
       | some (.grow shx els) =>
         if Sh.beq sh shx&&decide (n=els.length/\els.length+ys.length<=LIM)then
          some (.sl k [] 0 (els.length+ys.length),[(kx,.dead),(k,.grow sh (els++ys))])
         else if Sh.beq sh shx&&decide (n+ys.length<=els.length)then
          some (.sl kx [] 0 (n+ys.length),[(k,.grow sh []),(kx,.grow sh (els.take n++ys++els.drop (n+ys.length)))])
         else none
       | _=>none
     | _=>none
    else none
  | _,_=>none:=rfl
theorem zh7 {sh:Sh}{x y:Opd}:zaa gl cl st d (.copy sh x y) =
  match x.val gl st.fr,ztp st.hp (y.val gl st.fr)with
  | .sl k p off len,some (shy,ys) =>
    if ys.isEmpty||Sh.beq sh shy then
     let n:=min ys.length len
     match st.hp.get k,p with
     | some (.grow shx els),[] =>
       if Sh.beq sh shx&&decide (off+len<=els.length)then
        some (.int .i64 n,[(k,.grow shx (els.take off++ys.take n++els.drop (off+n)))])
       else none
     | some (.fix shx a),p =>
       match shx.sub p,a.nav p with
       | some (.ar _ e),some (.agg l) =>
         if Sh.beq sh e&&decide (off+len<=l.length)then
          (a.setNav p (.agg (l.take off++ys.take n++l.drop (off+n)))).map fun a'=>(.int .i64 n,[(k,.fix shx a')])
         else none
       | _,_=>none
     | _,_=>none
    else none
  | _,none=>zfl st.hp sh (x.val gl st.fr) (y.val gl st.fr)
  | _,_=>none:=rfl
theorem zqw {hp hp':Hp}{sh:Sh}{x y:AV}(h:∀k∈x.refs,hp'.get k=hp.get k):zfl hp' sh x y=zfl hp sh x y:=by
 cases x<;>first|rfl|skip
 rename_i k p off len
 rw[AV.refs]at h
 have h:=h k (by simp)
 cases p<;>cases y<;>first|rfl|skip
 rename_i k' p' off' len'
 cases p'<;>first|rfl|skip
 simp only[zfl,h]
theorem zk2 {hp:Hp}{sh:Sh}{x y v:AV}{us:Hp}(h:zfl hp sh x y=some (v,us)):∃k o,us=[(k,o)]/\k∈x.refs/\hp.get k≠none:=by
 unfold zfl at h
 split at h
 . rename_i k off len k' off2 len2
   split at h
   . split at h
     . rename_i hk
       split at h
       . cases h;exact⟨k,_,rfl,by simp[AV.refs],by simp[hk]⟩
       . cases h
     . cases h
   . cases h
 . cases h
theorem zhw {α β:Type}{f g:α->Option β}:∀{l:List α},(∀x∈l,f x=g x)->mapO f l=mapO g l
 | [],_=>rfl
 | a::l,h=>by rw[mapO,mapO,h a (by simp),zhw fun x hx=>h x (by simp[hx])]
theorem zfd {hp hp':Hp}{d:Nat}:∀{l:List OB} {j:Nat} {us:Hp},zcf hp d j l=some us->(∀k o,(k,o)∈us->hp.get k=none->hp'.get k=none) ->
  zcf hp' d j l=some us/\∀k o,(k,o)∈us->hp.get k=none
 | [],j,us,h,_=>by simp only[zcf,wU]at h ⊢;subst h;exact⟨rfl,fun k o hk=>by cases hk⟩
 | .grow sh els::l,j,us,h,hn=>by
   simp only[zcf]at h ⊢
   split at h
   . rename_i hnone
     simp only[wT]at h
     obtain⟨r,hr,rfl⟩:=h
     rw[wX]at hnone
     have hnone':hp.get (d+1000*j)=none:=by simpa using hnone.1
     obtain⟨h1,h2⟩:=zfd (hp':=hp') hr fun k o hk=>hn k o (by simp[hk])
     rw[hn _ _ (wD ..) hnone']
     refine⟨by simp[h1,hnone.2],fun k o' hk=> ?_⟩
     rcases wB.1 hk with hk|hk
     . cases hk;exact hnone'
     . exact h2 k o' hk
   . cases h
 | .fix _ _::_,_,_,h,_=>by simp[zcf]at h
 | .dead::_,_,_,h,_=>by simp[zcf]at h
 | .lp _ _ _::_,_,_,h,_=>by simp[zcf]at h
theorem zgo {hp:Hp}{d f:Nat}{args:List AV}(h:zc3 cl hp d f args .lend=some (v,us)):∃as r es,mapO (zay hp 4) args=some as/\cl f as []=some (r,[],es) /\
  (AV.plains args=true\/(zdl r=true/\es.all zfk=true))/\((es=[]/\v=r/\us=[])\/(v=rn d r/\zcf hp d 0 es=some us)):=by
 simp only[zc3,wV]at h
 obtain⟨as,has,h⟩:=h
 split at h
 . rename_i r hr
   rw[wS]at h
   obtain⟨hc,h⟩:=h
   cases h
   refine⟨as,v,[],has,hr,?_,.inl ⟨rfl,rfl,rfl⟩⟩
   rw[wY]at hc
   exact hc.imp id fun h=>⟨h,rfl⟩
 . rename_i r e es hr
   rw[wS]at h
   obtain⟨hc,h⟩:=h
   simp only[wT,wZ]at h
   obtain⟨us',hus,h1,rfl⟩:=h
   refine⟨as,r,e::es,has,hr,?_,.inr ⟨h1.symm,hus⟩⟩
   rw[wY,wX]at hc
   exact hc
 . cases h
theorem znl {hp:Hp}{d f:Nat}{args as:List AV}{r:AV}{es:List OB}(has:mapO (zay hp 4) args=some as)(hr:cl f as []=some (r,[],es))
  (hc:AV.plains args=true\/(zdl r=true/\es.all zfk=true)) (h:(es=[]/\v=r/\us=[])\/(es≠[]/\v=rn d r/\zcf hp d 0 es=some us)):zc3 cl hp d f args .lend=some (v,us):=by
 simp only[zc3,has,wW,hr]
 rcases h with ⟨rfl,rfl,rfl⟩|⟨hne,rfl,hus⟩
 . simp only
   rw[if_pos]
   rw[wY];exact hc.imp id And.left
 . cases es with
   | nil=>exact absurd rfl hne
   | cons e es =>
     simp only
     rw[if_pos,hus]
     . rfl
     . rw[wY,wX];exact hc
theorem zfw {hp hp':Hp}{ks:List Nat}{d:Nat}:∀{l:List OB} {j:Nat} {us:Hp},layG hp ks d j l=some us->(∀k o,(k,o)∈us->hp.get k=none->hp'.get k=none) ->
  layG hp' ks d j l=some us/\∀k o,(k,o)∈us->hp.get k=none
 | [],j,us,h,_=>by simp only[layG,wU]at h ⊢;subst h;exact⟨rfl,fun k o hk=>by cases hk⟩
 | o::l,j,us,h,hn=>by
   simp only[layG]at h ⊢
   rw[wS]at h
   obtain⟨hc,h⟩:=h
   rw[wX]at hc
   simp only[wT]at h
   obtain⟨r,hr,rfl⟩:=h
   have hnone':hp.get (d+1000*j)=none:=by simpa using hc.1
   obtain⟨h1,h2⟩:=zfw (hp':=hp') hr fun k o hk=>hn k o (by simp[hk])
   rw[hn _ _ (wD ..) hnone']
   refine⟨by simp[h1,hc.2],fun k o' hk=> ?_⟩
   rcases wB.1 hk with hk|hk
   . cases hk;exact hnone'
   . exact h2 k o' hk
theorem zqz {hp hp':Hp}{ks:List Nat}(h:∀k∈ks,hp'.get k=hp.get k):zdp hp' ks=zdp hp ks:=by
 unfold zdp
 rw[Bool.eq_iff_iff,wJ,wJ]
 exact⟨fun g k hk=>by rw[<-h k hk];exact g k hk,fun g k hk=>by rw[h k hk];exact g k hk⟩
theorem zno {hp hp':Hp}{all:List Nat}:∀{ks:List Nat},(∀k∈ks,hp'.get k=hp.get k)->upHp hp' all ks=upHp hp all ks
 | [],_=>rfl
 | k::ks,h=>by rw[upHp,upHp,getO,getO,h k (by simp),zno fun j hj=>h j (by simp[hj])]
theorem zd5 :∀{hp:Hp} {i n:Nat},zbr hp i n=true->∀q o,(q,o)∈hp->∃j,j<n/\q=SHK+(i+j)
 | [],i,0,_,q,o,h=>by cases h
 | (p,_)::r,i,n+1,hs,q,o,h=>by
   simp only[zbr,wX,decide_eq_true_eq]at hs
   rcases wB.1 h with h|h
   . exact⟨0,by omega,(w0.inj h).1.trans hs.1⟩
   . obtain⟨j,hj,e⟩:=zd5 hs.2 q o h;exact⟨j+1,by omega,by rw[e];omega⟩
 | [],_,_+1,hs,_,_,_=>by simp[zbr]at hs
 | _::_,_,0,hs,_,_,_=>by simp[zbr]at hs
theorem zf7 {ks:List Nat}{d:Nat}:∀{hp:Hp} {k:Nat} {o:OB},(k,o)∈zdu ks d hp->∃q o',(q,o')∈hp/\k=ks.getD (q-SHK) 0/\o=rOB (dn ks d) o'
 | [],k,o,h=>by cases h
 | (q,o')::r,k,o,h=>by
   rw[zdu]at h
   rcases wB.1 h with h|h
   . exact⟨q,o',by simp,(w0.inj h).1,(w0.inj h).2⟩
   . obtain⟨q2,o2,h1,h2⟩:=zf7 h;exact⟨q2,o2,by simp[h1],h2⟩
theorem zb8 {hp:Hp}{d f:Nat}{args:List AV}{ks:List Nat}(h:zb4 cl hp d f args ks=some (v,us)) :
  (zdp hp ks=true/\(AV.refss args).all ks.contains=true/\ze4 ks=true/\AV.knowns args=true)/\∃r hp' es us',cl f (rAs (up ks) args) (upHp hp ks ks)=some (r,hp',es)/\zbr hp' 0 ks.length=true/\layG hp ks d 0 es=some us' /\
    v=rA (dn ks d) r/\us=zdu ks d hp'++us':=by
 unfold zb4 at h
 rw[wS]at h
 obtain⟨hc,h⟩:=h
 simp only[wX]at hc
 obtain⟨⟨⟨h1,h2⟩,h4⟩,h3⟩:=hc
 refine⟨⟨h1,h2,h4,h3⟩,?_⟩
 unfold zwv at h
 split at h
 . rename_i r hp' es hcl
   rw[wS]at h
   obtain⟨hs,h⟩:=h
   simp only[wT,wZ]at h
   obtain⟨us',hus,rfl,rfl⟩:=h
   exact⟨r,hp',es,us',hcl,hs,hus,rfl,rfl⟩
 . cases h
theorem zjf {hp hp':Hp}{d f:Nat}{args:List AV}{rt:List Nat}(h:zb4 cl hp d f args (zax hp rt)=some (v,us))(hk:∀k∈zax hp rt,hp'.get k=hp.get k)
  (hn:∀k o,(k,o)∈us->hp.get k=none->hp'.get k=none):zb4 cl hp' d f args (zax hp' rt)=some (v,us):=by
 rw[zgg hk]
 obtain⟨⟨h1,h2,h4,h3⟩,r,hp2,es,us',h5,h6,h7,rfl,rfl⟩:=zb8 h
 generalize zax hp rt=ks at *
 unfold zb4
 rw[zqz hk,h1,h2,h4,h3,zno hk,h5]
 simp only[Bool.and_self,if_true,zwv,h6]
 rw[(zfw (hp':=hp') h7 fun k o hk=>hn k o (wN _ hk)).1]
 rfl
theorem zrz {hp:Hp}{q:Nat}{l:List Nat}:q∈zax hp (q::l):=by
 unfold zax;rw[ze2,if_neg (by simp)];exact reach_congr.reach_acc (by simp)
theorem zsq {hp:Hp}{d f:Nat}{args:List AV}{ks:List Nat}(h:zb4 cl hp d f args ks=some (v,us)):∀k o,(k,o)∈us->hp.get k=none\/k∈ks:=by
 obtain⟨⟨h1,h2,h4,h3⟩,r,hp2,es,us',h5,h6,h7,rfl,rfl⟩:=zb8 h
 intro k o hk
 rcases wF.1 hk with hk|hk
 . have ⟨q,o',hq,e1,_⟩:=zf7 hk
   have ⟨j,hj,e2⟩:=zd5 h6 q o' hq
   have e3:q-SHK=j:=by rw[e2,w3];exact w1 SHK j
   right
   rw[e1,e3,wK,wL hj]
   exact wP hj
 . exact .inl ((zfw (hp':=hp) h7 fun _ _ _ h=>h).2 k o hk)
theorem zee {hp:Hp}{d q:Nat}{args:List AV}{m:Mode}(h:zgn cl hp d q args m=some (v,us)) :
  m= .imp/\∃rid vals,hp.get q=some (.lp rid vals .ready)/\zb4 cl hp d (RB+rid) args (zax hp (q::AV.refss args))=some (v,us):=by
 unfold zgn at h
 split at h
 . rename_i rid vals hq;exact⟨rfl,rid,vals,hq,h⟩
 . cases h
theorem zqt {hp hp':Hp}{d q:Nat}{args:List AV}{m:Mode}(h:zgn cl hp d q args m=some (v,us))
  (hk:∀k∈zax hp (q::AV.refss args),hp'.get k=hp.get k) (hn:∀k o,(k,o)∈us->hp.get k=none->hp'.get k=none):zgn cl hp' d q args m=some (v,us):=by
 obtain⟨rfl,rid,vals,hq,h⟩:=zee h
 unfold zgn
 rw[hk q zrz,hq]
 exact zjf h hk hn
theorem zk1 {hp hp':Hp}{d f:Nat}{args:List AV}{m:Mode}(h:zc3 cl hp d f args m=some (v,us))(hl:m= .lend->∀a∈args,zay hp' 4 a=zay hp 4 a)
  (hi:m= .imp->∀k∈zax hp (AV.refss args),hp'.get k=hp.get k)
  (hn:∀k o,(k,o)∈us->hp.get k=none->hp'.get k=none):zc3 cl hp' d f args m=some (v,us):=by
 cases m with
 | imp =>
   simp only[zc3,wS]at h ⊢
   exact⟨h.1,zjf h.2 (hi rfl) hn⟩
 | lend =>
   obtain⟨as,r,es,has,hr,hc,hres⟩:=zgo h
   refine znl (by rw[zhw (hl rfl)];exact has) hr hc ?_
   rcases hres with hres|⟨h1,h2⟩
   . exact .inl hres
   . cases es with
     | nil =>
       left
       simp only[zc3,has,wW,hr,wS,wU,wZ]at h
       exact⟨rfl,h.2.1.symm,h.2.2.symm⟩
     | cons e es=>exact .inr ⟨by simp,h1,(zfd h2 hn).1⟩
theorem zm2 {hp:Hp}{d f:Nat}{args:List AV}{m:Mode}(h:zc3 cl hp d f args m=some (v,us)):∀k o,(k,o)∈us->hp.get k=none\/(m= .imp/\k∈zax hp (AV.refss args)):=by
 cases m with
 | imp =>
   simp only[zc3,wS]at h
   obtain⟨⟨h1,h2,h4,h3⟩,r,hp2,es,us',h5,h6,h7,rfl,rfl⟩:=zb8 h.2
   intro k o hk
   rcases wF.1 hk with hk|hk
   . have ⟨q,o',hq,e1,_⟩:=zf7 hk
     have ⟨j,hj,e2⟩:=zd5 h6 q o' hq
     have e3:q-SHK=j:=by rw[e2,w3];exact w1 SHK j
     refine .inr ⟨rfl,?_⟩
     rw[e1,e3,wK,wL hj]
     exact wP hj
   . exact .inl ((zfw (hp':=hp) h7 fun _ _ _ h=>h).2 k o hk)
 | lend =>
   obtain⟨as,r,es,has,hr,hc,hres⟩:=zgo h
   rcases hres with ⟨_,_,rfl⟩|⟨_,h2⟩
   . intro k o hk;cases hk
   . exact fun k o hk=>.inl ((zfd (hp':=hp) h2 fun _ _ _ h=>h).2 k o hk)
theorem zgw {hp:Hp}{d:Option Nat}{k:MK}{kk:Nat}{z:AV}{xs:List AV}(h:zbh hp d k kk z xs=some (v,us)) :
  (k= .mk/\∃q,d=some q/\hp.get q=none/\us=[(q,.mp [] 0)])\/∃q ys,k≠.mk/\xs= .mp q::ys/\(us=[]\/∃o,k.w=true/\hp.get q≠none/\us=[(q,o)]):=by
 unfold zbh at h
 split at h
 . split at h
   . rename_i q
     rw[wS]at h
     obtain⟨h1,h2⟩:=h
     cases h2
     exact .inl ⟨rfl,q,rfl,by simpa using h1,rfl⟩
   . cases h
 . rename_i q x
   split at h
   . rename_i hg
     rw[wS,wT]at h
     obtain⟨_,r,_,h⟩:=h
     cases h
     exact .inr ⟨q,_,by simp,rfl,.inl rfl⟩
   . cases h
 . rename_i q x y
   split at h
   . rename_i hg
     rw[wS,wT]at h
     obtain⟨_,r,_,h⟩:=h
     cases h
     exact .inr ⟨q,_,by simp,rfl,.inr ⟨_,rfl,by rw[hg];simp,rfl⟩⟩
   . cases h
 . rename_i q x
   split at h
   . rename_i hg
     rw[wS,wT]at h
     obtain⟨_,r,_,h⟩:=h
     cases r<;>cases h
     . exact .inr ⟨q,_,by simp,rfl,.inr ⟨_,rfl,by rw[hg];simp,rfl⟩⟩
     . exact .inr ⟨q,_,by simp,rfl,.inr ⟨_,rfl,by rw[hg];simp,rfl⟩⟩
   . cases h
 . rename_i q k' n y
   split at h
   . rename_i hg
     rw[wS,wT]at h
     obtain⟨_,r,_,h⟩:=h
     cases h
     exact .inr ⟨q,_,by simp,rfl,.inr ⟨_,rfl,by rw[hg];simp,rfl⟩⟩
   . cases h
 . rename_i q x
   split at h
   . rename_i hg
     rw[wS,wT]at h
     obtain⟨_,r,_,h⟩:=h
     cases h
     exact .inr ⟨q,_,by simp,rfl,.inr ⟨_,rfl,by rw[hg];simp,rfl⟩⟩
   . cases h
 . rename_i q
   split at h
   . cases h
     exact .inr ⟨q,_,by simp,rfl,.inl rfl⟩
   . cases h
 . cases h
theorem zph {hp hp':Hp}{d:Option Nat}{k:MK}{kk:Nat}{z:AV}{xs:List AV}(h:zbh hp d k kk z xs=some (v,us))
  (hk:∀q∈AV.refss xs,hp'.get q=hp.get q) (hn:∀q o,(q,o)∈us->hp.get q=none->hp'.get q=none):zbh hp' d k kk z xs=some (v,us):=by
 rcases zgw h with ⟨rfl,q,rfl,h2,rfl⟩|⟨q,ys,h1,rfl,_⟩
 . cases xs with
   | nil =>
     simp only[zbh]at h ⊢
     rw[h2]at h
     rw[hn q (.mp [] 0) (by simp) h2]
     exact h
   | cons x xs=>simp[zbh]at h
 . have e:=hk q (by simp[AV.refss,AV.refs])
   unfold zbh at h ⊢
   rw[show(AV.mp q::ys)=AV.mp q::ys from rfl]at h ⊢
   split at h<;>simp_all
theorem zri (h:zaa gl cl st d m=some (v,us))(hv:∀x∈m.opds,x.val gl st'.fr=x.val gl st.fr)
  (hk:zgk m=true->zdn m=false->∀k∈zbj gl st m,st'.hp.get k=st.hp.get k)
  (hc:zdn m=true->∀a:AV,(∀k∈a.refs,k∈zbj gl st m)->zay st'.hp 4 a=zay st.hp 4 a)
  (hn:∀k o,(k,o)∈us->st.hp.get k=none->st'.hp.get k=none):zaa gl cl st' d m=some (v,us):=by
 have key:∀x∈m.opds,zgk m=true->zdn m=false->isImp m=false->∀k∈(x.val gl st.fr).refs,st'.hp.get k=st.hp.get k:=fun x hx h1 h2 h3 k hk'=>hk h1 h2 k (by
  rw[zfe h3];exact zdc hx hk')
 cases m with
 | mov x=>simp only[MOp.opds,wB,wE,or_false,forall_eq_or_imp,forall_eq]at hv;simp only[zaa,hv]at h ⊢;exact h
 | pick c a b=>simp only[MOp.opds,wB,wE,or_false,forall_eq_or_imp,forall_eq]at hv;simp only[zaa,hv]at h ⊢;exact h
 | un x=>simp only[MOp.opds,wB,wE,or_false,forall_eq_or_imp,forall_eq]at hv;simp only[zaa,hv]at h ⊢;exact h
 | conv x=>simp only[MOp.opds,wB,wE,or_false,forall_eq_or_imp,forall_eq]at hv;simp only[zaa,hv]at h ⊢;exact h
 | strc x=>simp only[MOp.opds,wB,wE,or_false,forall_eq_or_imp,forall_eq]at hv;simp only[zaa,hv]at h ⊢;exact h
 | field x=>simp only[MOp.opds,wB,wE,or_false,forall_eq_or_imp,forall_eq]at hv;simp only[zaa,hv]at h ⊢;exact h
 | extr x=>simp only[MOp.opds,wB,wE,or_false,forall_eq_or_imp,forall_eq]at hv;simp only[zaa,hv]at h ⊢;exact h
 | nilck x=>simp only[MOp.opds,wB,wE,or_false,forall_eq_or_imp,forall_eq]at hv;simp only[zaa,hv]at h ⊢;exact h
 | len s x=>simp only[MOp.opds,wB,wE,or_false,forall_eq_or_imp,forall_eq]at hv;simp only[zaa,hv]at h ⊢;exact h
 | bin o x y=>simp only[MOp.opds,wB,wE,or_false,forall_eq_or_imp,forall_eq]at hv;simp only[zaa,hv]at h ⊢;exact h
 | binB o x y=>simp only[MOp.opds,wB,wE,or_false,forall_eq_or_imp,forall_eq]at hv;simp only[zaa,hv]at h ⊢;exact h
 | eqA n s k x y=>simp only[MOp.opds,wB,wE,or_false,forall_eq_or_imp,forall_eq]at hv;simp only[zaa,hv]at h ⊢;exact h
 | idxStr x y=>simp only[MOp.opds,wB,wE,or_false,forall_eq_or_imp,forall_eq]at hv;simp only[zaa,hv]at h ⊢;exact h
 | idxArr n e x y=>simp only[MOp.opds,wB,wE,or_false,forall_eq_or_imp,forall_eq]at hv;simp only[zaa,hv]at h ⊢;exact h
 | mkfn f l=>simp only[zaa,zbu (l:=l) hv]at h ⊢;exact h
 | mapop k kk z l =>
   simp only[zaa,zbu (l:=l) hv]at h ⊢
   exact zph h (fun q hq=>hk rfl rfl q (by rw[zfe rfl];exact hq)) hn
 | mini l=>simp only[zaa,zbu (l:=l) hv]at h ⊢;exact h
 | maxi l=>simp only[zaa,zbu (l:=l) hv]at h ⊢;exact h
 | slStr x lo hi =>
   have e1:lo.map (Opd.val gl st'.fr)=lo.map (Opd.val gl st.fr):=by cases lo with|none=>rfl|some y=>simp[hv y (by simp[MOp.opds])]
   have e2:hi.map (Opd.val gl st'.fr)=hi.map (Opd.val gl st.fr):=by cases hi with|none=>rfl|some y=>simp[hv y (by simp[MOp.opds])]
   have e3:=hv x (by simp[MOp.opds])
   simp only[zaa,e1,e2,e3]at h ⊢;exact h
 | lits sh z n ps =>
   have e:ps.map (fun p=>(p.1,Opd.val gl st'.fr p.2))=ps.map (fun p=>(p.1,Opd.val gl st.fr p.2)):=by
    apply wH
    intro p hp
    rw[hv p.2 (by simp only[MOp.opds,wM];exact⟨p,hp,rfl⟩)]
   simp only[zaa,e]at h ⊢;exact h
 | build sh z ps =>
   have e:ps.map (fun p=>(p.1,Opd.val gl st'.fr p.2))=ps.map (fun p=>(p.1,Opd.val gl st.fr p.2)):=by
    apply wH
    intro p hp
    rw[hv p.2 (by simp only[MOp.opds,wM];exact⟨p,hp,rfl⟩)]
   simp only[zaa,e]at h ⊢;exact h
 | alloc sh z =>
   simp only[zaa]at h ⊢
   split at h
   . split at h
     . rename_i k hf
       simp only[wU,wZ]at h
       obtain⟨rfl,rfl⟩:=h
       have:=hn _ _ (wD ..) (by simpa using hf)
       simp[this]
     . cases h
   . cases h
 | box sh x =>
   have e3:=hv x (by simp[MOp.opds])
   simp only[zaa,e3]at h ⊢
   split at h
   . split at h
     . rename_i k hf
       simp only[wX]at hf
       simp only[wU,wZ]at h
       obtain⟨rfl,rfl⟩:=h
       have:=hn _ _ (wD ..) (by simpa using hf.1)
       simp[this,hf.2]
     . cases h
   . cases h
 | bslice sh z n ps =>
   have e:ps.map (fun p=>(p.1,Opd.val gl st'.fr p.2))=ps.map (fun p=>(p.1,Opd.val gl st.fr p.2)):=by
    apply wH
    intro p hp
    rw[hv p.2 (by simp only[MOp.opds,wM];exact⟨p,hp,rfl⟩)]
   simp only[zaa,e]at h ⊢
   split at h
   . split at h
     . rename_i k hf
       simp only[wV]at h
       obtain⟨l,hl,h⟩:=h
       split at h
       . rename_i hpl
         simp only[wU,wZ]at h
         obtain⟨rfl,rfl⟩:=h
         have:=hn _ _ (wD ..) (by simpa using hf)
         simp[this,hl,hpl]
       . rename_i hpl
         simp only[wU,wZ]at h
         obtain⟨rfl,rfl⟩:=h
         have:=hn _ _ (wD ..) (by simpa using hf)
         simp[this,hl,hpl]
     . cases h
   . cases h
 | s2b x =>
   have e3:=hv x (by simp[MOp.opds])
   simp only[zaa,e3]at h ⊢
   split at h
   . rename_i k l heq
     split at h
     . rename_i hf
       simp only[wX]at hf
       simp only[wU,wZ]at h
       obtain⟨rfl,rfl⟩:=h
       have:=hn _ _ (wD ..) (by simpa using hf.1)
       simp only[heq,this,hf.2]
       rfl
     . cases h
   . cases h
 | mkslice sh z b l c =>
   have e3:=hv l (by simp[MOp.opds])
   have e4:=hv c (by simp[MOp.opds])
   simp only[zaa,e3,e4]at h ⊢
   split at h
   . rename_i k k1 n1 k2 n2 h1 h2
     split at h
     . rename_i hf
       simp only[wX]at hf
       simp only[wU,wZ]at h
       obtain⟨rfl,rfl⟩:=h
       have:=hn _ _ (wD ..) (by simpa using hf.1)
       simp only[h1,h2,this,hf.2]
       rfl
     . cases h
   . cases h
 | mkarr sh z b l c =>
   have e3:=hv l (by simp[MOp.opds])
   have e4:=hv c (by simp[MOp.opds])
   simp only[zaa,e3,e4]at h ⊢
   split at h
   . rename_i k k1 n1 k2 n2 h1 h2
     split at h
     . rename_i hf
       simp only[wX]at hf
       simp only[wU,wZ]at h
       obtain⟨rfl,rfl⟩:=h
       have:=hn _ _ (wD ..) (by simpa using hf.1)
       simp only[h1,h2,this,hf.2]
       rfl
     . cases h
   . cases h
 | load ag n x =>
   have e3:=hv x (by simp[MOp.opds])
   have kx:=key x (by simp[MOp.opds]) rfl rfl rfl
   simp only[zaa,e3]at h ⊢
   cases hx:Opd.val gl st.fr x<;>rw[hx]at h kx<;>(try simp only[AV.refs,wC,forall_eq]at kx)<;>(try simp only[kx]at h ⊢)<;>first|exact h|(rename_i s z;cases s<;>first|exact h|(cases z<;>exact h))
 | store n p x =>
   have e3:=hv p (by simp[MOp.opds])
   have e4:=hv x (by simp[MOp.opds])
   have kx:=key p (by simp[MOp.opds]) rfl rfl rfl
   simp only[zaa,e3,e4]at h ⊢
   cases hx:Opd.val gl st.fr p<;>rw[hx]at h kx<;>(try simp only[AV.refs,wC,forall_eq]at kx)<;>(try simp only[kx]at h ⊢)<;>first|exact h|(rename_i s z;cases s<;>first|exact h|(cases z<;>exact h))
 | b2s x =>
   have e3:=hv x (by simp[MOp.opds])
   have kx:=key x (by simp[MOp.opds]) rfl rfl rfl
   simp only[zaa,e3,zdo kx]at h ⊢
   exact h
 | idc x =>
   have e3:=hv x (by simp[MOp.opds])
   have kx:=key x (by simp[MOp.opds]) rfl rfl rfl
   simp only[zaa,e3]at h ⊢
   cases hx:Opd.val gl st.fr x<;>rw[hx]at h kx<;>(try simp only[AV.refs,wC,forall_eq]at kx)<;>(try simp only[kx]at h ⊢)<;>first|exact h|(rename_i s z;cases s<;>first|exact h|(cases z<;>exact h))
 | arrAt n x =>
   have e3:=hv x (by simp[MOp.opds])
   have kx:=key x (by simp[MOp.opds]) rfl rfl rfl
   simp only[zaa,e3]at h ⊢
   cases hx:Opd.val gl st.fr x<;>rw[hx]at h kx<;>(try simp only[AV.refs,wC,forall_eq]at kx)<;>(try simp only[kx]at h ⊢)<;>first|exact h|(rename_i s z;cases s<;>first|exact h|(cases z<;>exact h))
 | slSl e x lo hi mx =>
   have e1:lo.map (Opd.val gl st'.fr)=lo.map (Opd.val gl st.fr):=by cases lo with|none=>rfl|some y=>simp[hv y (by simp[MOp.opds])]
   have e2:hi.map (Opd.val gl st'.fr)=hi.map (Opd.val gl st.fr):=by cases hi with|none=>rfl|some y=>simp[hv y (by simp[MOp.opds])]
   have e3:=hv x (by simp[MOp.opds])
   have kx:=key x (by simp[MOp.opds]) rfl rfl rfl
   cases mx with
   | none =>
     simp only[zaa,e1,e2,e3]at h ⊢
     cases hx:Opd.val gl st.fr x<;>rw[hx]at h kx<;>(try simp only[AV.refs,wC,forall_eq]at kx)<;>(try simp only[kx]at h ⊢)<;>first|exact h|(rename_i s z;cases s<;>first|exact h|(cases z<;>exact h))|(rename_i k p o n;revert h;cases st.hp.get k with|none=>exact id|some b=>cases b<;>cases p<;>exact id)
   | some y =>
     have e4:=hv y (by simp[MOp.opds])
     simp only[zaa,e1,e2,e3,e4]at h ⊢
     cases hx:Opd.val gl st.fr x<;>rw[hx]at h kx<;>(try simp only[AV.refs,wC,forall_eq]at kx)<;>(try simp only[kx]at h ⊢)<;>first|exact h|(rename_i s z;cases s<;>first|exact h|(cases z<;>exact h))
 | slArr n e x lo hi =>
   have e1:lo.map (Opd.val gl st'.fr)=lo.map (Opd.val gl st.fr):=by cases lo with|none=>rfl|some y=>simp[hv y (by simp[MOp.opds])]
   have e2:hi.map (Opd.val gl st'.fr)=hi.map (Opd.val gl st.fr):=by cases hi with|none=>rfl|some y=>simp[hv y (by simp[MOp.opds])]
   have e3:=hv x (by simp[MOp.opds])
   have kx:=key x (by simp[MOp.opds]) rfl rfl rfl
   simp only[zaa,e1,e2,e3]at h ⊢
   cases hx:Opd.val gl st.fr x<;>rw[hx]at h kx<;>(try simp only[AV.refs,wC,forall_eq]at kx)<;>(try simp only[kx]at h ⊢)<;>first|exact h|(rename_i s z;cases s<;>first|exact h|(cases z<;>exact h))
 | faddr i o x =>
   have e3:=hv x (by simp[MOp.opds])
   have kx:=key x (by simp[MOp.opds]) rfl rfl rfl
   simp only[zaa,e3]at h ⊢
   cases hx:Opd.val gl st.fr x<;>rw[hx]at h kx<;>(try simp only[AV.refs,wC,forall_eq]at kx)<;>(try simp only[kx]at h ⊢)<;>first|exact h|(rename_i s z;cases s<;>first|exact h|(cases z<;>exact h))
 | iaddrA n e x i =>
   have e3:=hv x (by simp[MOp.opds])
   have e4:=hv i (by simp[MOp.opds])
   have kx:=key x (by simp[MOp.opds]) rfl rfl rfl
   simp only[zaa,e3,e4]at h ⊢
   generalize Opd.val gl st.fr i=vi at h ⊢
   cases vi<;>cases hx:Opd.val gl st.fr x<;>rw[hx]at h kx<;>(try simp only[AV.refs,wC,forall_eq]at kx)<;>(try simp only[kx]at h ⊢)<;>first|exact h|(rename_i s z;cases s<;>first|exact h|(cases z<;>exact h))
 | iaddrS e x i =>
   have e3:=hv x (by simp[MOp.opds])
   have e4:=hv i (by simp[MOp.opds])
   have kx:=key x (by simp[MOp.opds]) rfl rfl rfl
   simp only[zaa,e3,e4]at h ⊢
   generalize Opd.val gl st.fr i=vi at h ⊢
   cases vi<;>cases hx:Opd.val gl st.fr x<;>rw[hx]at h kx<;>(try simp only[AV.refs,wC,forall_eq]at kx)<;>(try simp only[kx]at h ⊢)<;>first|exact h|(rename_i s z;cases s<;>first|exact h|(cases z<;>exact h))
 | append sh b x y =>
   have e3:=hv x (by simp[MOp.opds])
   have e4:=hv y (by simp[MOp.opds])
   have kx:=key x (by simp[MOp.opds]) rfl rfl rfl
   have ky:=zdo (key y (by simp[MOp.opds]) rfl rfl rfl)
   simp only[zf9,e3,e4,zk6 ky]at h ⊢
   split at h
   . rename_i k shy ys hy
     split at h
     . rename_i hf
       rw[wX,wX]at hf
       have hnone:st.hp.get k=none:=by simpa using hf.1.1
       have hmem:∃o,(k,o)∈us:=by
        split at h
        . split at h
          . simp only[wU,wZ]at h
            obtain⟨_,rfl⟩:=h
            exact⟨_,wD ..⟩
          . cases h
        . split at h
          . split at h
            . simp only[wU,wZ]at h
              obtain⟨_,rfl⟩:=h
              exact⟨_,wO _ (wD ..)⟩
            . split at h
              . simp only[wU,wZ]at h
                obtain⟨_,rfl⟩:=h
                exact⟨_,wD ..⟩
              . cases h
          . cases h
        . cases h
       obtain⟨o,ho⟩:=hmem
       have hn':=hn _ _ ho hnone
       simp only[hn',Option.isNone_none,Bool.true_and,hf.1.2,hf.2,if_true]
       split at h
       . exact h
       . rename_i kx' n hx
         simp only[hx,AV.refs,wC,forall_eq]at kx
         simp only[hx,kx];exact h
       . cases h
     . cases h
   . cases h
 | copy sh x y =>
   have e3:=hv x (by simp[MOp.opds])
   have e4:=hv y (by simp[MOp.opds])
   have kx:=key x (by simp[MOp.opds]) rfl rfl rfl
   have ky:=zdo (key y (by simp[MOp.opds]) rfl rfl rfl)
   simp only[zh7,e3,e4,zk6 ky]at h ⊢
   generalize hq:ztp st.hp (Opd.val gl st.fr y)=q at h ⊢
   rcases q with _|⟨_,_⟩
   . have e:=zqw (sh:=sh) (y:=Opd.val gl st.fr y) kx
     cases hx:Opd.val gl st.fr x<;>rw[hx]at h e<;>(first|exact e.trans h)
   all_goals cases hx:Opd.val gl st.fr x<;>rw[hx]at h kx<;>(try simp only[AV.refs,wC,forall_eq]at kx)<;>(try simp only[kx]at h ⊢)<;>first|exact h|(rename_i s z;cases s<;>first|exact h|(cases z<;>exact h))
 | clear sh z x =>
   have e3:=hv x (by simp[MOp.opds])
   have kx:=key x (by simp[MOp.opds]) rfl rfl rfl
   simp only[zaa,e3]at h ⊢
   split at h
   . rename_i k off len hx
     rw[hx]at kx
     simp only[AV.refs,wC,forall_eq]at kx
     simp only[kx]
     exact h
   . cases h
 | capl x =>
   have e3:=hv x (by simp[MOp.opds])
   simp only[zaa,e3]at h ⊢
   exact h
 | appmk sh z b x y =>
   have e3:=hv x (by simp[MOp.opds])
   have e4:=hv y (by simp[MOp.opds])
   simp only[zaa,e3,e4]at h ⊢
   split at h
   . rw[wS]at h
     obtain⟨hc,h⟩:=h
     simp only[wU,wZ]at h
     obtain⟨rfl,rfl⟩:=h
     have hc':=hc
     simp only[wX,Option.isNone_iff_eq_none]at hc'
     have:=hn _ _ (wD ..) hc'.1.1
     rw[hc'.1.1]at hc
     rw[this,if_pos hc]
   . cases h
 | call f l md =>
   simp only[zaa]at h ⊢
   split at h
   . rw[zbu (l:=l) hv]
     refine zk1 h (fun hm a ha=> ?_) (fun hm k hk'=> ?_) hn
     . subst hm
       exact hc rfl a fun k hk'=>by
        unfold zbj MOp.opds
        exact zbc ha hk'
     . subst hm
       exact hk rfl rfl k hk'
   . cases h
 | callv f l md =>
   have ef:=hv f (by simp[MOp.opds])
   have el:=zbu (l:=l) fun x hx=>hv x (by simp[MOp.opds,hx])
   simp only[zaa,ef,el]at h ⊢
   split at h
   . rename_i k g caps hf
     refine zk1 h (fun hm a ha=> ?_) (fun hm k hk'=> ?_) hn
     . subst hm
       exact hc rfl a fun k hk'=>by
        unfold zbj MOp.opds
        rw[vals,AV.refss,wF]
        rcases qek ha with ha|ha
        . exact .inr (zbc ha hk')
        . rw[hf,AV.refs];exact .inl (zbc ha hk')
     . subst hm
       refine hk rfl rfl k ?_
       simp only[zbj,hf,zjm];exact hk'
   . rename_i k q hf
     obtain⟨rfl,_⟩:=zee h
     refine zqt h (fun k hk'=> ?_) hn
     refine hk rfl rfl k ?_
     simp only[zbj,hf,zjm];exact hk'
   . cases h
theorem zlr (h:zaa gl cl st d m=some (v,us)):∀k o,(k,o)∈us->st.hp.get k=none\/(zbk m=true/\k∈zbj gl st m):=by
 have nil:∀{a:AV} {b:AV} {us:Hp},(a,([]:Hp))=(b,us)->∀k o,(k,o)∈us->st.hp.get k=none\/(zbk m=true/\k∈zbj gl st m):=by
  intro a b us h k o hk;cases h;cases hk
 have one:∀{k:Nat} {o:OB},st.hp.get k=none\/(zbk m=true/\k∈zbj gl st m)->∀k' o',(k',o')∈([(k,o)]:Hp)->st.hp.get k'=none\/(zbk m=true/\k'∈zbj gl st m):=by
  intro k o h k' o' hk;simp only[wC,wZ]at hk;rw[hk.1];exact h
 cases m with
 | mapop k kk z l =>
   simp only[zaa]at h
   rcases zgw h with ⟨_,q,_,h2,rfl⟩|⟨q,ys,_,hx,rfl|⟨o,hw,_,rfl⟩⟩
   . exact one (.inl h2)
   . intro k o hk;cases hk
   . refine one (.inr ⟨hw,?_⟩)
     rw[zfe rfl]
     show q∈AV.refss (vals gl st.fr l)
     rw[hx];simp[AV.refss,AV.refs]
 | lits sh z n ps =>
   simp only[zaa,wV,wS,wU,wZ]at h
   obtain⟨l,_,_,_,rfl⟩:=h
   intro k o hk;cases hk
 | alloc sh z =>
   simp only[zaa]at h
   split at h
   . split at h
     . rename_i k hf;cases h;exact one (.inl (by simpa using hf))
     . cases h
   . cases h
 | box sh x =>
   simp only[zaa]at h
   split at h
   . split at h
     . rename_i k hf;simp only[wX]at hf;cases h;exact one (.inl (by simpa using hf.1))
     . cases h
   . cases h
 | bslice sh z n ps =>
   simp only[zaa]at h
   split at h
   . split at h
     . rename_i k hf
       simp only[wV]at h
       obtain⟨l,hl,h⟩:=h
       split at h
       . cases h;exact one (.inl (by simpa using hf))
       . cases h;exact one (.inl (by simpa using hf))
     . cases h
   . cases h
 | s2b x =>
   simp only[zaa]at h
   split at h
   . split at h
     . rename_i hf;simp only[wX]at hf;cases h;exact one (.inl (by simpa using hf.1))
     . cases h
   . cases h
 | mkslice sh z b l c =>
   simp only[zaa]at h
   split at h
   . split at h
     . rename_i hf;simp only[wX]at hf;cases h;exact one (.inl (by simpa using hf.1))
     . cases h
   . cases h
 | mkarr sh z b l c =>
   simp only[zaa]at h
   split at h
   . split at h
     . rename_i hf;simp only[wX]at hf;cases h;exact one (.inl (by simpa using hf.1))
     . cases h
   . cases h
 | store n p x =>
   simp only[zaa]at h
   split at h
   . rename_i k q hp
     have hk:k∈zbj gl st (.store n p x):=zdc (x:=p) (by simp[MOp.opds]) (by simp[hp,AV.refs])
     split at h
     . split at h
       . split at h
         . simp only[wT,wZ]at h
           obtain⟨a',_,_,rfl⟩:=h
           exact one (.inr ⟨rfl,hk⟩)
         . cases h
       . cases h
     . split at h
       . split at h
         . simp only[wT,wZ]at h
           obtain⟨a',_,_,rfl⟩:=h
           exact one (.inr ⟨rfl,hk⟩)
         . cases h
       . cases h
     . cases h
   . cases h
 | idc x =>
   simp only[zaa]at h
   split at h
   . rename_i k p o l hx
     have hk:k∈zbj gl st (.idc x):=zdc (x:=x) (by simp[MOp.opds]) (by simp[hx,AV.refs])
     split at h
     . cases h;exact one (.inr ⟨rfl,hk⟩)
     . cases h
   . cases h
 | append sh b x y =>
   rw[zf9]at h
   split at h
   . split at h
     . rename_i k shy ys hy hf
       rw[wX,wX]at hf
       have hnone:st.hp.get k=none:=by simpa using hf.1.1
       split at h
       . split at h
         . cases h;exact one (.inl hnone)
         . cases h
       . rename_i kx n hx
         have hk:kx∈zbj gl st (.append sh b x y):=zdc (x:=x) (by simp[MOp.opds]) (by simp[hx,AV.refs])
         split at h
         . split at h
           . cases h
             intro k' o' hm
             rcases wB.1 hm with hm|hm
             . cases hm;exact .inr ⟨rfl,hk⟩
             . exact one (.inl hnone) k' o' hm
           . split at h
             . cases h
               intro k' o' hm
               rcases wB.1 hm with hm|hm
               . cases hm;exact .inl hnone
               . exact one (.inr ⟨rfl,hk⟩) k' o' hm
             . cases h
         . cases h
       . cases h
     . cases h
   . cases h
 | copy sh x y =>
   rw[zh7]at h
   split at h
   . rename_i k p off len shy ys hx hy
     have hk:k∈zbj gl st (.copy sh x y):=zdc (x:=x) (by simp[MOp.opds]) (by simp[hx,AV.refs])
     split at h
     . dsimp only at h
       split at h
       . split at h
         . cases h;exact one (.inr ⟨rfl,hk⟩)
         . cases h
       . split at h
         . split at h
           . simp only[wT,wZ]at h
             obtain⟨a',_,_,rfl⟩:=h
             exact one (.inr ⟨rfl,hk⟩)
           . cases h
         . cases h
       . cases h
     . cases h
   . obtain⟨k,o,rfl,hk,_⟩:=zk2 h
     exact one (.inr ⟨rfl,zdc (x:=x) (by simp[MOp.opds]) hk⟩)
   . cases h
 | clear sh z x =>
   simp only[zaa]at h
   split at h
   . rename_i k off len hx
     have hk:k∈zbj gl st (.clear sh z x):=zdc (x:=x) (by simp[MOp.opds]) (by simp[hx,AV.refs])
     split at h
     . split at h
       . cases h;exact one (.inr ⟨rfl,hk⟩)
       . cases h
     . cases h
   . cases h
 | appmk sh z b x y =>
   simp only[zaa]at h
   split at h
   . split at h
     . rename_i hf;simp only[wX]at hf;cases h;exact one (.inl (by simpa using hf.1.1))
     . cases h
   . cases h
 | call f l md =>
   simp only[zaa]at h
   split at h
   . intro k o hk
     rcases zm2 h k o hk with h1|⟨rfl,h1⟩
     . exact .inl h1
     . exact .inr ⟨rfl,h1⟩
   . cases h
 | callv f l md =>
   simp only[zaa]at h
   split at h
   . rename_i k0 g caps hf
     intro k o hk
     rcases zm2 h k o hk with h1|⟨rfl,h1⟩
     . exact .inl h1
     . refine .inr ⟨rfl,?_⟩
       simp only[zbj,hf,zjm];exact h1
   . rename_i k0 q hf
     intro k o hk
     obtain⟨rfl,rid,vals,_,h⟩:=zee h
     rcases zsq h k o hk with h1|h1
     . exact .inl h1
     . refine .inr ⟨rfl,?_⟩
       simp only[zbj,hf,zjm];exact h1
   . cases h
 | mov x=>simp only[zaa,wU]at h;exact nil h
 | bin o x y=>simp only[zaa,wT]at h;obtain⟨r,_,h⟩:=h;exact nil h
 | binB o x y=>simp only[zaa,wT]at h;obtain⟨r,_,h⟩:=h;exact nil h
 | _ =>
   simp only[zaa]at h
   repeat' (first|(cases h;done)|(simp only[wU]at h;exact nil h)|(simp only[wT]at h;obtain⟨r,_,h⟩:=h;exact nil h)|split at h|(simp only[wV]at h;obtain⟨r,_,h⟩:=h))
end Go.Ev
namespace Go.Ev
open Go
variable {gl :Gl} {cl:Cl} {st st':St} {o u:FO}
theorem AV.plain_refs {a:AV}(h:a.plain=true):a.refs=[]:=by cases a<;>first|rfl|cases h
theorem zp5 :∀(p:List Nat) (a x:AV),a.wf->a.nav p=some x->x.wf/\∀k∈x.refs,k∈a.refs
 | [],a,x,hw,h=>by
   have:a=x:=by cases a<;>simpa[AV.nav]using h
   subst this;exact⟨hw,fun k hk=>hk⟩
 | i::p,a,x,hw,h=>by
   cases a with
   | agg l =>
     simp only[AV.nav,wV]at h
     obtain⟨y,hy,h⟩:=h
     rw[AV.wf,AV.wfp_iff]at hw
     have hm:=hw y (wG hy)
     obtain⟨h1,h2⟩:=zp5 p y x hm.2 h
     refine⟨h1,fun k hk=> ?_⟩
     have:=h2 k hk
     rw[AV.plain_refs hm.1]at this;cases this
   | aggR l =>
     simp only[AV.nav,wV]at h
     obtain⟨y,hy,h⟩:=h
     rw[AV.wf,AV.wfs_iff]at hw
     obtain⟨h1,h2⟩:=zp5 p y x (hw y (wG hy)) h
     exact⟨h1,fun k hk=>by rw[AV.refs];exact zbc (wG hy) (h2 k hk)⟩
   | _=>simp[AV.nav]at h
structure Closed (st:St):Prop where
 fr:∀i,∀k∈(st.fr.get i).refs,st.hp.get k≠none
 ob:∀k sh a,st.hp.get k=some (.fix sh a)->a.wf/\∀j∈a.refs,st.hp.get j≠none
 all:∀k o,st.hp.get k=some o->∀j∈zdd o,st.hp.get j≠none
theorem StOk.closed {H:Heap}{G:Gh}{tmps:Array Value}(h:StOk H G st tmps):Closed st:=by
 have hfix:∀k sh a,st.hp.get k=some (.fix sh a)->∀j∈a.refs,st.hp.get j≠none:=fun k sh a hk j hj=>by
  obtain⟨r,hr⟩:=h.inv.fix_refs hk j hj
  obtain⟨o,ho⟩:=h.inv.reg_get hr
  simp[ho]
 refine⟨fun i k hk=> ?_,fun k sh a hk=>⟨?_,fun j hj=> ?_⟩,fun k o hk j hj=> ?_⟩
 rotate_left 3
 . cases o with
   | fix sh a=>exact hfix k sh a hk j hj
   | lp rid vals s =>
     obtain⟨b,rc,info,_,_,_,_,hv⟩:=h.inv.obs k _ hk
     obtain⟨x,hx,hj⟩:=zgj hj
     obtain⟨i,hi,rfl⟩:=List.getElem_of_mem hx
     obtain⟨r,hr⟩:=(hv.get i hi).known_refs j hj
     obtain⟨o,ho⟩:=h.inv.reg_get hr
     simp[ho]
   | _=>cases hj
 . obtain⟨r,hr⟩:=(h.fr i).known_refs k hk
   obtain⟨o,ho⟩:=h.inv.reg_get hr
   simp[ho]
 . obtain⟨b,c,e,fz,_,_,_,_,_,hw,_⟩:=h.inv.obs k _ hk
   exact hw
 . obtain⟨r,hr⟩:=h.inv.fix_refs hk j hj
   obtain⟨o,ho⟩:=h.inv.reg_get hr
   simp[ho]
theorem zj9 {hp hp':Hp}(hob:∀k sh a,hp.get k=some (.fix sh a)->a.wf/\∀j∈a.refs,hp.get j≠none)(hag:∀k,hp.get k≠none->hp'.get k=hp.get k) :
  ∀(n:Nat) (a:AV),(∀k∈a.refs,hp.get k≠none)->zay hp' n a=zay hp n a
 | 0,a,_=>by simp[zay]
 | n+1,a,ha=>by
   have ih:=zj9 hob hag n
   simp only[zay]
   split
   . rfl
   . split
     . rename_i k p off len
       rw[zdo fun k' hk'=>hag k' (ha k' hk')]
     . rename_i k p _
       have hk:=ha k (by simp[AV.refs])
       rw[hag k hk]
       split
       . rename_i sh b hb
         split
         . rename_i s x hs hx
           have h1:=zp5 _ _ _ (hob k sh b hb).1 hx
           rw[ih x fun j hj=>(hob k sh b hb).2 j (h1.2 j hj)]
         . rfl
       . rfl
     . rename_i l
       rw[zhw fun x hx=>ih x fun k hk=>ha k (by rw[AV.refs];exact zbc hx hk)]
     . rename_i f l
       rw[zhw fun x hx=>ih x fun k hk=>ha k (by rw[AV.refs];exact zbc hx hk)]
     . rfl
theorem zwg {hp hp':Hp}(hag:∀k,hp'.get k=hp.get k):∀(n:Nat) (a:AV),zay hp' n a=zay hp n a
 | 0,a=>by simp[zay]
 | n+1,a=>by
   have ih:=zwg hag n
   have ih':zay hp' n=zay hp n:=funext ih
   simp only[zay,ih',hag]
   rw[show za6 hp'=za6 hp from funext fun a=>zdo fun k _=>hag k]
abbrev Tr :=AV×Hp×List Nat
def FO.wants (fr:Fr)(o:FO):Option Bool :=
 match o.g with
 | none=>some true
 | some (c,want) =>
   match fr.get c with
   | .bool t=>some (t==want)
   | .tup []=>some false
   | _=>none
def foStep (gl:Gl)(cl:Cl)(st:St)(o:FO):Option Tr :=
 match o.wants st.fr with
 | none=>none
 | some true=>(zaa gl cl st o.d o.m).map fun r=>(r.1,r.2,zbj gl st o.m)
 | some false=>some (.tup [],[],[])
def St.after (st:St)(o:FO)(t:Tr):St:=st.upd o.d t.1 t.2.1
theorem zgm (l:List FO):zb0 gl cl (o::l) st=(foStep gl cl st o).bind fun t=>(zb0 gl cl l (st.after o t)).map fun q=>(q.1,t.2.2::q.2):=by
 obtain⟨d,m,g⟩:=o
 cases g with
 | none =>
   simp only[zb0,foStep,FO.wants,St.after]
   rcases zaa gl cl st d m with _|⟨v,us⟩<;>rfl
 | some q =>
   obtain⟨c,want⟩:=q
   simp only[zb0,foStep,FO.wants]
   cases st.fr.get c with
   | bool t =>
     by_cases h:t=want
     . subst h
       simp only[if_true,beq_self_eq_true,St.after]
       rcases zaa gl cl st d m with _|⟨v,us⟩<;>rfl
     . have:(t==want)=false:=by simpa using h
       simp[h,this,St.after]
   | tup l=>cases l<;>simp[St.after]
   | _=>simp
theorem z66 {x:Opd}{i:Nat}(hx:x∈o.m.opds)(hi:x= .t i):i∈o.uses:=by
 subst hi
 unfold FO.uses
 exact List.mem_append_left _ (List.mem_filterMap.2 ⟨.t i,hx,rfl⟩)
theorem zyt {c:Nat}{w:Bool}(h:o.g=some (c,w)):c∈o.uses:=by
 unfold FO.uses
 rw[h]
 exact wN _ (by simp)
theorem zld (h:∀i∈o.uses,st'.fr.get i=st.fr.get i):∀x∈o.m.opds,x.val gl st'.fr=x.val gl st.fr:=by
 intro x hx
 cases x with
 | t i=>exact h i (z66 hx rfl)
 | _=>rfl
theorem zxv (h:∀i∈o.uses,st'.fr.get i=st.fr.get i):o.wants st'.fr=o.wants st.fr:=by
 unfold FO.wants
 cases hg:o.g with
 | none=>rfl
 | some q=>obtain⟨c,w⟩:=q;simp only[h c (zyt hg)]
theorem zib {hp:Hp}(hob:∀k o,hp.get k=some o->∀j∈zdd o,hp.get j≠none):∀{n:Nat} {l acc:List Nat},(∀k∈l,hp.get k≠none)->(∀k∈acc,hp.get k≠none)->∀k∈ze2 hp n l acc,hp.get k≠none
 | 0,l,acc,_,ha=>ha
 | n+1,[],acc,_,ha=>ha
 | n+1,k::t,acc,hl,ha=>by
   rw[ze2]
   split
   . exact zib hob (fun j hj=>hl j (by simp[hj])) ha
   . refine zib hob (fun j hj=> ?_) (fun j hj=> ?_)
     . rcases wF.1 hj with hj|hj
       . cases ho:hp.get k with
         | none=>rw[ho]at hj;cases hj
         | some o =>
           rw[ho]at hj
           exact hob k o ho j hj
       . exact hl j (by simp[hj])
     . rcases wF.1 hj with hj|hj
       . exact ha j hj
       . rw[wC]at hj;subst hj;exact hl j (by simp)
theorem zl6 {hp hp':Hp}(hob:∀k o,hp.get k=some o->∀j∈zdd o,hp.get j≠none):∀{n:Nat} {l acc:List Nat},(∀k∈l,hp.get k≠none)->(∀k∈acc,hp.get k≠none) ->
  (∀k∈ze2 hp' n l acc,hp.get k≠none->hp'.get k=hp.get k)->∀k∈ze2 hp' n l acc,hp.get k≠none
 | 0,l,acc,_,ha,_=>ha
 | n+1,[],acc,_,ha,_=>ha
 | n+1,k::t,acc,hl,ha,hs=>by
   rw[ze2]at hs ⊢
   split
   . rename_i hc
     rw[if_pos hc]at hs
     exact zl6 hob (fun j hj=>hl j (by simp[hj])) ha hs
   . rename_i hc
     rw[if_neg hc]at hs
     have hk:hp'.get k=hp.get k:=hs k (reach_congr.reach_acc (by simp)) (hl k (by simp))
     refine zl6 hob (fun j hj=> ?_) (fun j hj=> ?_) hs
     . rcases wF.1 hj with hj|hj
       . rw[hk]at hj
         cases ho:hp.get k with
         | none=>rw[ho]at hj;cases hj
         | some o =>
           rw[ho]at hj
           exact hob k o ho j hj
       . exact hl j (by simp[hj])
     . rcases wF.1 hj with hj|hj
       . exact ha j hj
       . rw[wC]at hj;subst hj;exact hl j (by simp)
theorem znw (hC:Closed st)(hc:o.m.cOk=true):∀k∈AV.refss (vals gl st.fr o.m.opds),st.hp.get k≠none:=by
 intro k hk
 obtain⟨x,hx,hk⟩:=znh.1 hk
 unfold MOp.cOk at hc
 rw[wJ]at hc
 have:=hc x hx
 cases x with
 | t i=>exact hC.fr i k hk
 | c a=>simp only[List.isEmpty_iff]at this;rw[Opd.val,this]at hk;cases hk
 | g i =>
   simp only[Opd.val]at hk
   split at hk<;>simp[AV.refs]at hk
 | f i=>simp[Opd.val,AV.refs,AV.refss]at hk
def zeo (gl:Gl)(fr:Fr):MOp->List Nat
 | .call _ l _=>AV.refss (vals gl fr l)
 | .callv f l _=>zjm (f.val gl fr) (vals gl fr l)
 | _=>[]
theorem zkt :∀(l m:List AV),AV.refss (l++m)=AV.refss l++AV.refss m
 | [],m=>rfl
 | a::l,m=>by rw[wQ,AV.refss,AV.refss,zkt l m,List.append_assoc]
theorem zzp {f:AV}{args:List AV}:∀k∈zjm f args,k∈f.refs\/k∈AV.refss args:=by
 intro k hk
 unfold zjm at hk
 split at hk
 . rcases wB.1 hk with rfl|hk
   . exact .inl (by simp[AV.refs])
   . exact .inr hk
 . unfold cvA at hk
   split at hk<;>simp only[zkt,wF]at hk
   . exact hk.symm.imp (fun h=>by rw[AV.refs];exact h) id
   . exact hk.imp (fun h=>by rw[AV.refs];exact h) id
 . exact .inr hk
theorem zkx {m:MOp}{fr:Fr}:∀k∈zeo gl fr m,k∈AV.refss (vals gl fr m.opds):=by
 intro k hk
 cases m with
 | call f l md=>exact hk
 | callv f l md =>
   simp only[zeo]at hk
   simp only[MOp.opds,vals,AV.refss,wF]
   exact zzp k hk
 | _=>cases hk
theorem zn6 {m:MOp}(h:isImp m=true):zbj gl st m=zax st.hp (zeo gl st.fr m):=by
 cases m with
 | call f l md=>cases md<;>first|rfl|cases h
 | callv f l md=>cases md<;>first|rfl|cases h
 | _=>cases h
theorem zn5 (hC:Closed st)(hc:o.m.cOk=true):∀k∈zbj gl st o.m,st.hp.get k≠none:=by
 have h0:=znw (gl:=gl) hC hc
 cases hi:isImp o.m with
 | false=>rw[zfe hi];exact h0
 | true =>
   rw[zn6 hi]
   exact zib hC.all (fun k hk=>h0 k (zkx k hk)) fun k hk=>by cases hk
theorem zuz {t:Tr}(h:foStep gl cl st o=some t):∀k b,(k,b)∈t.2.1->st.hp.get k=none\/(zbk o.m=true/\k∈t.2.2):=by
 unfold foStep at h
 split at h
 . cases h
 . simp only[wT]at h
   obtain⟨r,hr,rfl⟩:=h
   exact zlr (v:=r.1) (us:=r.2) hr
 . cases h;intro k b hk;cases hk
theorem z78 {t:Tr}(hC:Closed st)(hc:o.m.cOk=true)(h:foStep gl cl st o=some t):∀k∈t.2.2,st.hp.get k≠none:=by
 unfold foStep at h
 split at h
 . cases h
 . simp only[wT]at h
   obtain⟨r,hr,rfl⟩:=h
   exact zn5 hC hc
 . cases h;intro k hk;cases hk
theorem zqj {m:MOp}(h:isImp m=true):zgk m=true/\zdn m=false:=by
 cases m with
 | call f l md=>cases md<;>first|exact⟨rfl,rfl⟩|cases h
 | callv f l md=>cases md<;>first|exact⟨rfl,rfl⟩|cases h
 | _=>cases h
theorem zqm {t:Tr}(h:foStep gl cl st o=some t)(hu:∀i∈o.uses,st'.fr.get i=st.fr.get i)
  (hk:zgk o.m=true->zdn o.m=false->∀k∈t.2.2,st'.hp.get k=st.hp.get k)
  (hc:zdn o.m=true->∀a:AV,(∀k∈a.refs,k∈t.2.2)->zay st'.hp 4 a=zay st.hp 4 a)
  (hn:∀k b,(k,b)∈t.2.1->st.hp.get k=none->st'.hp.get k=none):foStep gl cl st' o=some t:=by
 unfold foStep at h ⊢
 rw[zxv hu]
 split at h
 . cases h
 . simp only[wT]at h
   obtain⟨r,hr,rfl⟩:=h
   rw[zri (v:=r.1) (us:=r.2) hr (zld hu) hk hc hn]
   simp[zkv (zld hu) fun hi=>hk (zqj hi).1 (zqj hi).2]
 . exact h
def Disj (a b:List Nat):Prop:=∀x∈a,x∉b
theorem z8t {a b:List Nat}:disj a b=true↔Disj a b:=by
 unfold disj Disj
 simp
structure Apart (u o:FO):Prop where
 use:∀d,u.d=some d->d∉o.uses
 use':∀d,o.d=some d->d∉u.uses
 dst:∀d,u.d=some d->o.d≠some d
 wc:zbk u.m=true->zdn o.m=false
 cw:zdn u.m=true->zbk o.m=false
theorem FO.apart_spec (h:u.apart o=true):Apart u o:=by
 unfold FO.apart at h
 simp only[wX,Bool.not_eq_true',Bool.and_eq_false_iff]at h
 obtain⟨⟨⟨h1,h2⟩,h3⟩,h4⟩:=h
 refine⟨fun d hd=> ?_,fun d hd=> ?_,fun d hd=> ?_,fun hw=> ?_,fun hw=> ?_⟩
 . rw[hd]at h1;simp at h1;exact h1.1
 . rw[hd]at h2;simp at h2;exact h2
 . rw[hd]at h1;simp at h1;exact h1.2
 . rcases h3 with h3|h3
   . rw[hw]at h3;cases h3
   . exact h3
 . rcases h4 with h4|h4
   . rw[hw]at h4;cases h4
   . exact h4
theorem Apart.symm (h:Apart u o):Apart o u:=by
 refine⟨h.use',h.use,fun d hd hu=>h.dst d hu hd,fun hw=> ?_,fun hw=> ?_⟩
 . cases hc:zdn u.m with
   | false=>rfl
   | true=>rw[h.cw hc]at hw;cases hw
 . cases hc:zbk u.m with
   | false=>rfl
   | true=>rw[h.wc hc]at hw;cases hw
theorem Disj.symm {a b:List Nat}(h:Disj a b):Disj b a:=fun x hx hy=>h x hy hx
theorem zxt {m:MOp}(h:zbk m=true):zgk m=true:=by
 cases m with
 | call f l md=>rfl
 | callv f l md=>rfl
 | _=>first|rfl|cases h
structure Eqv (s t:St):Prop where
 fr:∀i,s.fr.get i=t.fr.get i
 hp:∀k,s.hp.get k=t.hp.get k
theorem Eqv.refl (s:St):Eqv s s:=⟨fun _=>rfl,fun _=>rfl⟩
theorem Eqv.symm {s t:St}(h:Eqv s t):Eqv t s:=⟨fun i=>(h.fr i).symm,fun k=>(h.hp k).symm⟩
theorem Eqv.trans {s t r:St}(h:Eqv s t)(h':Eqv t r):Eqv s r:=⟨fun i=>(h.fr i).trans (h'.fr i),fun k=>(h.hp k).trans (h'.hp k)⟩
theorem zfg (t:Tr)(i:Nat):(st.after o t).fr.get i=if o.d=some i then t.1 else st.fr.get i:=by rw[St.after,St.upd,ztu]
theorem zco (t:Tr)(k:Nat):(st.after o t).hp.get k=(match Hp.get t.2.1 k with|some b=>some b|none=>st.hp.get k):=Hp.get_append _ _ _
theorem Eqv.after {s r:St}(h:Eqv s r)(o:FO)(t:Tr):Eqv (s.after o t) (r.after o t) :=
 ⟨fun i=>by rw[zfg,zfg,h.fr],fun k=>by rw[zco,zco,h.hp]⟩
theorem Eqv.foStep {s r:St}(h:Eqv s r){t:Tr}(hs:foStep gl cl s o=some t):foStep gl cl r o=some t :=
 zqm hs (fun i _=>(h.fr i).symm) (fun _ _ k _=>(h.hp k).symm) (fun _ a _=>zwg (fun k=>(h.hp k).symm) 4 a) fun k b _ hn=>(h.hp k).symm.trans hn
theorem zzi {us:Hp}{k:Nat}{b:OB}(h:(k,b)∈us):Hp.get us k≠none:=by
 induction us with
 | nil=>cases h
 | cons x us ih =>
   obtain⟨j,c⟩:=x
   simp only[Hp.get]
   split
   . simp
   . rename_i hne
     rcases wB.1 h with h|h
     . cases h;exact absurd rfl hne
     . exact ih h
theorem qd4 (hC:Closed st)(hcu:u.m.cOk=true)(hco:o.m.cOk=true)(ha:Apart u o){tu to:Tr}(hd:u.clash o=true->Disj tu.2.2 to.2.2)
  (hu:foStep gl cl st u=some tu) (ho:foStep gl cl (st.after u tu) o=some to) :
  foStep gl cl st o=some to/\foStep gl cl (st.after o to) u=some tu/\Eqv ((st.after u tu).after o to) ((st.after o to).after u tu):=by
 have husk:=zuz hu
 have hosk:=zuz ho
 have huex:=z78 hC hcu hu
 have fr1:∀i∈o.uses,st.fr.get i=(st.after u tu).fr.get i:=fun i hi=>by
  rw[zfg,if_neg]
  intro h;exact ha.use i h hi
 have hnoU:∀k,st.hp.get k≠none->(zbk u.m=true->k∉tu.2.2)->Hp.get tu.2.1 k=none:=fun k hk hw=>by
  refine Hp.get_none fun b hb=> ?_
  rcases husk k b hb with h|⟨h1,h2⟩
  . exact hk h
  . exact hw h1 h2
 have hkeys:∀k∈to.2.2,st.hp.get k≠none:=by
  have ho':=ho
  unfold foStep at ho'
  split at ho'
  . cases ho'
  . simp only[wT]at ho'
    obtain⟨r,hr,e⟩:=ho'
    have e2:to.2.2=zbj gl (st.after u tu) o.m:=by rw[<-e]
    rw[e2]
    have h0:=znw (gl:=gl) hC hco
    cases hi:isImp o.m with
    | false =>
      intro k hk
      have:k∈zbj gl st o.m:=by rw[zkv (zld fr1) (by rw[hi];intro h;cases h)];exact hk
      exact zn5 hC hco k this
    | true =>
      have hv:zeo gl (st.after u tu).fr o.m=zeo gl st.fr o.m:=by
       have hvu:=zld (gl:=gl) (st:=st.after u tu) (st':=st) fr1
       cases hm:o.m with
       | call f l md=>rw[hm]at hvu;simp only[zeo];rw[zbu (l:=l) fun x hx=>(hvu x hx).symm]
       | callv f l md =>
         rw[hm]at hvu
         simp only[zeo];rw[zbu (l:=l) fun x hx=>(hvu x (by simp[MOp.opds,hx])).symm,hvu f (by simp[MOp.opds])]
       | _=>rfl
      have e3:zbj gl (st.after u tu) o.m=zax (st.after u tu).hp (zeo gl st.fr o.m):=by rw[zn6 hi,hv]
      have hsame:∀k∈zax (st.after u tu).hp (zeo gl st.fr o.m),st.hp.get k≠none->(st.after u tu).hp.get k=st.hp.get k:=by
       intro k hk hex
       rw[zco,hnoU k hex fun hw hku=>hd (by unfold FO.clash;simp[hw,(zqj hi).1]) k hku (by rw[e2,e3];exact hk)]
      rw[e3]
      exact zl6 hC.all (fun k hk=>h0 k (zkx k hk)) (fun k hk=>by cases hk) hsame
  . cases ho';intro k hk;cases hk
 have step1:foStep gl cl st o=some to:=by
  refine zqm ho fr1 (fun hh _ k hk=> ?_) (fun hcall a hka=> ?_) (fun k b _ hn=> ?_)
  . rw[zco,hnoU k (hkeys k hk) fun hw hku=>hd (by unfold FO.clash;simp[hw,hh]) k hku hk]
  . refine(zj9 hC.ob (fun k hk=> ?_) 4 a fun k hk=>hkeys k (hka k hk)).symm
    rw[zco,hnoU k hk fun hw=>by have:=ha.wc hw;rw[hcall]at this;cases this]
  . rw[zco]at hn
    split at hn
    . cases hn
    . exact hn
 have hboth:∀k b,(k,b)∈to.2.1->Hp.get tu.2.1 k=none:=fun k b hb=>by
  rcases hosk k b hb with h|⟨hw,hk⟩
  . rw[zco]at h
    split at h
    . cases h
    . assumption
  . exact hnoU k (hkeys k hk) fun hw' hk'=>hd (by unfold FO.clash;simp[hw',zxt hw]) k hk' hk
 have hosk1:=zuz step1
 refine⟨step1,?_,⟨fun i=> ?_,fun k=> ?_⟩⟩
 . have hnoO:∀k,st.hp.get k≠none->(zbk o.m=true->k∉to.2.2)->Hp.get to.2.1 k=none:=fun k hk hw=>by
    refine Hp.get_none fun b hb=> ?_
    rcases hosk1 k b hb with h|⟨h1,h2⟩
    . exact hk h
    . exact hw h1 h2
   refine zqm hu (fun i hi=> ?_) (fun hh _ k hk=> ?_) (fun hcall a hka=> ?_) (fun k b hb hn=> ?_)
   . rw[zfg,if_neg];intro h;exact ha.use' i h hi
   . rw[zco,hnoO k (huex k hk) fun hw hko=>hd (by unfold FO.clash;simp[hw,hh]) k hk hko]
   . refine zj9 hC.ob (fun k hk=> ?_) 4 a fun k hk=>huex k (hka k hk)
     rw[zco,hnoO k hk fun hw=>by have:=ha.cw hcall;rw[hw]at this;cases this]
   . rw[zco]
     cases hg:Hp.get to.2.1 k with
     | none=>exact hn
     | some c=>exact absurd (hboth k c (Hp.get_mem hg)) (zzi hb)
 . rw[zfg,zfg,zfg,zfg]
   by_cases h:u.d=some i
   . rw[if_pos h,if_neg (ha.dst i h)];simp[h]
   . simp[h]
 . rw[zco,zco,zco,zco]
   cases h1:Hp.get to.2.1 k with
   | none=>cases h2:Hp.get tu.2.1 k<;>rfl
   | some c=>rw[hboth k c (Hp.get_mem h1)]
variable {fo :Nat->FO} {T:Nat->Tr}
def OkRun (gl:Gl)(cl:Cl)(fo:Nat->FO)(T:Nat->Tr):List Nat->St->Prop
 | [],_=>True
 | i::l,st=>foStep gl cl st (fo i)=some (T i)/\OkRun gl cl fo T l (st.after (fo i) (T i))
def runT (fo:Nat->FO)(T:Nat->Tr):List Nat->St->St
 | [],st=>st
 | i::l,st=>runT fo T l (st.after (fo i) (T i))
theorem OkRun.eqv :∀{l:List Nat} {s r:St},Eqv s r->OkRun gl cl fo T l s->OkRun gl cl fo T l r/\Eqv (runT fo T l s) (runT fo T l r)
 | [],_,_,h,_=>⟨trivial,h⟩
 | i::l,s,r,h,ho=>by
   obtain⟨h1,h2⟩:=OkRun.eqv (h.after (fo i) (T i)) ho.2
   exact⟨⟨h.foStep ho.1,h1⟩,h2⟩
theorem znz {S:St->Prop}{j:Nat}{post:List Nat}(hS:∀s,S s->Closed s)(hcj:(fo j).m.cOk=true) :
  ∀(pre:List Nat) (st:St),(∀i∈pre,∀s,S s->foStep gl cl s (fo i)=some (T i)->S (s.after (fo i) (T i))) ->
   (∀i∈pre,(fo i).m.cOk=true/\Apart (fo i) (fo j)/\((fo i).clash (fo j)=true->Disj (T i).2.2 (T j).2.2))->S st->OkRun gl cl fo T (pre++j::post) st ->
   OkRun gl cl fo T (j::(pre++post)) st/\Eqv (runT fo T (pre++j::post) st) (runT fo T (j::(pre++post)) st)
 | [],st,_,_,_,h=>⟨h,.refl _⟩
 | i::pre,st,hstep,hap,hs,h=>by
   obtain⟨h1,h2⟩:=h
   obtain⟨⟨g1,g2⟩,g3⟩:=znz (S:=S) hS hcj pre _ (fun p hp=>hstep p (by simp[hp])) (fun p hp=>hap p (by simp[hp])) (hstep i (by simp) st hs h1) h2
   obtain⟨hc,ha,hd⟩:=hap i (by simp)
   obtain⟨k1,k2,k3⟩:=qd4 (hS st hs) hc hcj ha hd h1 g1
   obtain⟨m1,m2⟩:=OkRun.eqv k3 g2
   exact⟨⟨k1,k2,m1⟩,g3.trans m2⟩
theorem zon :∀(l:List FO) (st st':St) (ks:List (List Nat)) (off:Nat),zb0 gl cl l st=some (st',ks) ->
  ∃trs:List Tr,trs.length=l.length/\ks=trs.map (·.2.2)/\∀(fo:Nat->FO) (T:Nat->Tr),(∀i (h:i<l.length),fo (off+i)=l[i]) ->
   (∀i (h:i<trs.length),T (off+i)=trs[i])->OkRun gl cl fo T (wR off l.length) st/\runT fo T (wR off l.length) st=st'
 | [],st,st',ks,off,h=>by
   simp only[zb0,wU,wZ]at h
   obtain⟨rfl,rfl⟩:=h
   exact⟨[],rfl,rfl,fun _ _ _ _=>⟨trivial,rfl⟩⟩
 | o::l,st,st',ks,off,h=>by
   rw[zgm]at h
   simp only[wV,wT,wZ]at h
   obtain⟨t,ht,⟨s2,ks2⟩,h2,rfl,rfl⟩:=h
   obtain⟨trs,g1,g2,g3⟩:=zon l _ _ _ (off+1) h2
   refine⟨t::trs,by simp[g1],by simp[g2],fun fo T hf hT=> ?_⟩
   have e1:fo off=o:=hf 0 (by simp)
   have e2:T off=t:=hT 0 (by simp)
   obtain⟨k1,k2⟩:=g3 fo T (fun i hi=>by have:=hf (i+1) (by simpa using hi);simpa[w2,w4 1 i]using this)
    (fun i hi=>by have:=hT (i+1) (by simpa using hi);simpa[w2,w4 1 i]using this)
   simp only[List.length_cons,List.range'_succ,OkRun,runT,e1,e2]
   exact⟨⟨ht,k1⟩,k2⟩
end Go.Ev
