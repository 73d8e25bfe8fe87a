/-
  Chapter 30: a lease needs hearing. No condition.
-/
import Derived.Test.YtjenmopgcpnklaaDoorW30G18x5
set_option linter.unusedVariables false
set_option linter.unusedSimpArgs false
set_option linter.unusedSectionVars false
namespace Go.Proofs.S30.G
open Go Go.Ev Go.Proofs Go.Ck
open Go.Proofs.S30.H (GlK GlR)
variable {gl :Gl} {n:Nat}
def hrd (l:List Gt)(a:Int):Nat->Int
 | 0=>0
 | j+1=>if(gat l j).s=a then(gat l j).h else hrd l a j
theorem hrd_find {t m:Int}{l:List Gt}(hv:VG t m l)(a:Int):hrd l a l.length=(findG l a).h:=by
 by_cases h:∃k,k<l.length/\(gat l k).s=a
 . obtain⟨k,hk,hs⟩:=h
   have hp:Pos l a k:=⟨by omega,fun j hj=>by have:=hv.mono k j hj hk;omega,fun j h1 h2=>by
    by_cases he:j=k
    . subst he;omega
    . have:=hv.mono j k (by omega) h2;omega⟩
   rw[findG_is hp hk hs]
   have key:∀j,k<j->j<=l.length->hrd l a j=(gat l k).h:=by
    intro j
    induction j with
    | zero=>intro h1;omega
    | succ j ih =>
      intro h1 h2
      rw[hrd]
      by_cases he:j=k
      . subst he;rw[if_pos hs]
      . have h3:=hv.mono j k (by omega) (by omega)
        rw[if_neg (by omega)];exact ih (by omega) (by omega)
   exact key _ hk (Nat.le_refl _)
 . have hn:∀j,j<l.length->(gat l j).s≠a:=fun j hj he=>h ⟨j,hj,he⟩
   rw[findG_no hn]
   have key:∀j,j<=l.length->hrd l a j=0:=by
    intro j
    induction j with
    | zero=>intro _;rfl
    | succ j ih=>intro h2;rw[hrd,if_neg (hn j (by omega))];exact ih (by omega)
   exact key _ (Nat.le_refl _)
def L4 :MC:=match m4 with| .seq _ (.seq _ (.seq _ (.seq _ (.seq (.seq _ (.block _ (.loop _ b))) _))))=>b|_=>.skip
def S4 (t m lo hi len:Int)(l:List Gt)(a:Nat)(j:Nat):St :=
 ⟨[.set 11 (i64 j),.set 10 (i64 (hrd l a j)),.set 9 (i64 a),.set 6 (.ptr 6 []),.set 4 (.ptr 4 []),.set 3 (i64 len)],[(6,.fix (.st [.sc,.sc]) (.agg [i64 lo,i64 hi])),(4,.fix sG (gAV t m false sG l))]⟩
theorem step4 {d:Nat}{t m lo hi len:Int}{l:List Gt}{a:Nat}(hl:l.length<=64)(j:Nat)(hj:j<l.length) :
  contK [.slot 3,.slot 4,.slot 6,.slot 9,.slot 10,.slot 11,.key 4,.key 6] (evC gl (call gl tab d) L4 (S4 t m lo hi len l a j))=some (S4 t m lo hi len l a (j+1)):=by
 have hL:=gs_length l
 have hx:=gs_at hj
 rw[S4,S4,hrd]
 by_cases hs:(gat l j).s=(a:Int)
 . rw[if_pos hs]
   have hb:((gat l j).s==(a:Int))=true:=by rw[beq_iff_eq];exact hs
   generalize gat l j=x at *
   simp(disch:=((fail_if_success (intro _));omega)) only[go_sem,simprocAttr,↓reduceIte,↓Nat.reduceEqDiff,xx,L4,m4,hL,hx,hb]
 . rw[if_neg hs]
   have hb:((gat l j).s==(a:Int))=false:=by rw[beq_eq_false_iff_ne];exact hs
   generalize gat l j=x at *
   simp(disch:=((fail_if_success (intro _));omega)) only[go_sem,simprocAttr,↓reduceIte,↓Nat.reduceEqDiff,xx,L4,m4,hL,hx,hb]
theorem rem64 (y:Nat):binInt .rem .i64 (y:Int) 64=some (i64 ((y%64:Nat):Int)):=by
 show(if(64:Int)=0 then none else some (AV.int .i64 (Int.tmod (y:Int) 64)))=_
 rw[if_neg (by decide)];rfl
theorem putL_mem :∀{l:List Gt} {x y:Gt},y∈putL l x->y=x\/y∈l
 | [],x,y,h=>by simp[putL]at h;exact .inl h
 | z::l,x,y,h=>by
   rw[putL]at h
   split at h
   . simp at h;rcases h with h|h|h;exact .inl h;exact .inr (by simp[h]);exact .inr (by simp[h])
   . split at h
     . simp at h;rcases h with h|h;exact .inl h;exact .inr (by simp[h])
     . simp at h;rcases h with h|h
       . exact .inr (by simp[h])
       . rcases putL_mem h with h|h;exact .inl h;exact .inr (by simp[h])
def Srt :Int->List Gt->Prop
 | _,[]=>True
 | a,x::l=>a<x.s/\Srt x.s l
theorem Srt.put :∀{l:List Gt} {a:Int} {x:Gt},Srt a l->a<x.s->Srt a (putL l x)
 | [],a,x,h,hx=>⟨hx,trivial⟩
 | y::l,a,x,h,hx=>by
   rw[putL]
   split
   . exact⟨hx,by assumption,h.2⟩
   . split
     . have e:x.s=y.s:=by assumption
       exact⟨hx,by rw[e];exact h.2⟩
     . exact⟨h.1,Srt.put h.2 (by omega)⟩
theorem pv_cons (x:Gt)(l:List Gt):∀i,pv (x::l) (i+1)=if i=0 then x.s else pv l i
 | 0=>rfl
 | i+1=>rfl
theorem srt_iff :∀{l:List Gt} {a:Int},Srt a l↔∀i,i<l.length->(if i=0 then a else pv l i)<(gat l i).s
 | [],a=>⟨fun _ i hi=>by simp at hi,fun _=>trivial⟩
 | x::l,a=>by
   rw[Srt,srt_iff (l:=l)]
   constructor
   . rintro ⟨h1,h2⟩ i hi
     cases i with
     | zero=>exact h1
     | succ i =>
       rw[if_neg (by omega),pv_cons]
       exact h2 i (by simpa using hi)
   . intro h
     refine⟨h 0 (by simp),fun i hi=> ?_⟩
     have:=h (i+1) (by simp;omega)
     rw[if_neg (by omega),pv_cons]at this
     exact this
theorem vg_iff {t m:Int}{l:List Gt}:VG t m l↔(Srt (-1) l/\∀x∈l,(0<=x.s/\x.s<64)/\0<=x.h/\0<=x.u/\x.h<=t/\x.u<=1099511627776)/\(0<=t/\t<=1099511627776)/\1<=m/\m<=3600000:=by
 unfold VG
 refine and_congr ?_ Iff.rfl
 rw[srt_iff]
 constructor
 . intro h
   refine⟨fun i hi=> ?_,fun x hx=> ?_⟩
   . have:=(h i hi).2.1
     cases i with
     | zero=>exact this
     | succ i=>exact this
   . obtain⟨i,hi,rfl⟩:=List.getElem_of_mem hx
     have:=h i hi
     unfold RowOk at this
     rw[gat_eq hi]at this
     exact⟨this.1,this.2.2⟩
 . rintro ⟨h1,h2⟩ i hi
   have h3:=h2 _ (List.getElem_mem hi)
   rw[<-gat_eq hi]at h3
   have h4:=h1 i hi
   refine⟨h3.1,?_,h3.2⟩
   cases i with
   | zero=>exact h4
   | succ i=>exact h4
theorem VG.put {t m:Int}{l:List Gt}(hv:VG t m l){x:Gt}(h1:0<=x.s/\x.s<64)(h2:0<=x.h/\x.h<=t)(h3:0<=x.u/\x.u<=1099511627776):VG t m (putL l x):=by
 rw[vg_iff]at *
 obtain⟨⟨a,b⟩,c⟩:=hv
 refine⟨⟨a.put (by omega),fun y hy=> ?_⟩,c⟩
 rcases putL_mem hy with rfl|hy
 . exact⟨h1,h2.1,h3.1,h2.2,h3.2⟩
 . exact b y hy
theorem findG_put :∀(l:List Gt) (x:Gt),findG (putL l x) x.s=x
 | [],x=>by rw[putL,findG,if_pos rfl]
 | y::l,x=>by
   rw[putL]
   split
   . rw[findG,if_pos rfl]
   . split
     . rw[findG,if_pos rfl]
     . rw[findG,if_neg (by omega),findG_put l x]
theorem putL_len :∀(l:List Gt) (x:Gt),(putL l x).length<=l.length+1
 | [],x=>by simp[putL]
 | y::l,x=>by
   have:=putL_len l x
   rw[putL];split
   . simp
   . split<;>simp;exact this
theorem findG_ok {t m:Int}{l:List Gt}(hv:VG t m l)(a:Int):0<=(findG l a).h/\(findG l a).h<=t/\0<=(findG l a).u/\(findG l a).u<=1099511627776:=by
 have hv':=vg_iff.1 hv
 have key:∀l:List Gt,(∀x∈l,(0<=x.s/\x.s<64)/\0<=x.h/\0<=x.u/\x.h<=t/\x.u<=1099511627776)->0<=(findG l a).h/\(findG l a).h<=t/\0<=(findG l a).u/\(findG l a).u<=1099511627776:=by
  intro l
  induction l with
  | nil=>intro _;have:=hv.2.1;exact⟨Int.le_refl _,this.1,Int.le_refl _,by show(0:Int)<=1099511627776;omega⟩
  | cons y l ih =>
    intro h
    rw[findG]
    split
    . have:=h y (by simp);omega
    . exact ih fun x hx=>h x (by simp[hx])
 exact key l hv'.1.2
theorem eqAV_it (x:Int):eqAV .it (i64 x) (i64 x)=some true:=by simp[eqAV]
theorem eqL (a b c d:Int){z:List UInt8}(hz:z.length=16):eqAV (.st [.it,.it,.it,.it,.ar 16 .it]) (.agg [i64 a,i64 b,i64 c,i64 d,.agg (bytesAV z)]) (.agg [i64 a,i64 b,i64 c,i64 d,.agg (bytesAV z)])=some true:=by
 have:=S30.eqB hz hz
 rw[eqAV]
 simp only[eqAVs,eqAV_it,this,decide_true,Option.bind_some,if_pos]
section
variable [Nonempty (GlK gl)] {t m:Int} {f:Bool} {sh:Sh} {l:List Gt} {a lo hi len:Int}
theorem grant_any (h:12<=n)(hm:Mg l sh)(hl:l.length<=1000)(ok:GOk t m l a kk lo hi len)(g1:t<=(findG l a).h)(g2:lo+len<=1099511627776) :
  ∃f' sh' l',call gl tab n 11 [gAV t m f sh l,ky kk,i64 a,.agg [i64 lo,i64 hi],i64 len] []=some (.tup [gAV t m f' sh' l',leAV (leG kk a t (lo+len)),i64 0],[],[])/\Mg l' sh'/\VG t m l'/\l'.length<=l.length+1:=by
 by_cases g3:lo+len<=(findG l a).u
 . exact⟨f,sh,l,grant_old h hm hl ok g1 g2 g3,hm,ok.v,by omega⟩
 . have hf:=findG_ok ok.v a
   have n1:=ok.n1
   have n2:=ok.c.1
   have hs:=of_decide_eq_true ok.s
   exact⟨false,sG,_,grant_new h hm hl ok g1 g2 (by omega),.inr rfl,ok.v.put hs ⟨hf.1,hf.2.1⟩ ⟨by show 0<=lo+len;omega,g2⟩,putL_len _ _⟩
theorem confirm_any (h:6<=n)(hm:Mg l sh)(hl:l.length<=1000)(hv:VG t m l)(hs:isSite a=true){e:Int}(h1:0<=e)(h2:e<=t) :
  ∃f' sh' l',call gl tab n 10 [gAV t m f sh l,i64 a,i64 e] []=some (.tup [gAV t m f' sh' l',i64 0],[],[])/\Mg l' sh'/\VG t m l'/\l'.length<=l.length+1/\e<=(findG l' a).h:=by
 by_cases h3:e<=(findG l a).h
 . exact⟨f,sh,l,confirm_old h hm (by omega) hv hs h1 h2 h3,hm,hv,by omega,h3⟩
 . have hf:=findG_ok hv a
   have hs2:=of_decide_eq_true hs
   refine⟨false,sG,_,confirm_new h hm hl hv hs h1 h2 (by omega),.inr rfl,hv.put hs2 ⟨h1,h2⟩ ⟨hf.2.2.1,hf.2.2.2⟩,putL_len _ _,?_⟩
   have:=findG_put l ⟨a,e,(findG l a).u⟩
   simp only at this
   rw[this];exact Int.le_refl _
end
section
variable [Nonempty (GlK gl)]
theorem law4_go {t m lo hi len:Int}{l:List Gt}{a:Nat}{site:Nat}(hn:20<=n)(hsite:site<256)(ha:a=site%64)(hl:l.length<=64)(hv:VG t m l)(hc:CV lo hi)(h1:1<=len)(h2:len<=m)(h3:lo+len<=1099511627775) :
  call gl tab (n+1) 4 [gAV t m false sG l,.int .u8 (site:Int),.agg [i64 lo,i64 hi],i64 len] []=some (.bool true,[],[]):=by
 have c7:=@sanity_at gl n _ hn
 have hL:=gs_length l
 have v1:=@valid_at gl n (by omega) t m false sG l (.inr rfl) (by omega)
 rw[decide_eq_true hv]at v1
 have v2:=@cvalid_at gl n (by omega) lo hi
 rw[decide_eq_true hc]at v2
 have k1:=@key_at gl n (by omega)
 have hsi:isSite (a:Int)=true:=decide_eq_true (by omega)
 have hT:=hv.2.1
 have hM:=hv.2.2
 have hc2:=hc
 unfold CV at hc2
 have ok:GOk t m l a kk lo hi len:=⟨hv,hsi,hc,h1,h2,kk_v,rfl⟩
 have hr:=rem64 site
 rw[<-ha]at hr
 have hf:=findG_ok hv (a:Int)
 have hh:=hrd_find hv (a:Int)
 have st:=fun j hj=>@step4 gl n t m lo hi len l a hl j hj
 simp only[L4,m4,↓out16_eq]at st
 obtain⟨f2,s2,l2,d1,e1,e2,e3,e4⟩:=confirm_any (gl:=gl) (n:=n) (f:=false) (sh:=sG) (by omega) (.inr rfl) (by omega) hv hsi hT.1 (Int.le_refl t)
 have ok2:GOk t m l2 a kk lo hi len:=⟨e2,hsi,hc,h1,h2,kk_v,rfl⟩
 obtain⟨f3,s3,l3,d2,w1,w2,w3⟩:=grant_any (gl:=gl) (n:=n) (f:=f2) (by omega) e1 (by omega) ok2 e4 (by omega)
 have v3:=@valid_at gl n (by omega) t m f3 s3 l3 w1 (by omega)
 rw[decide_eq_true w2]at v3
 have hle:=leG_ok hsi hv (lo+len) (by omega)
 have sa:(leG kk a t (lo+len)).sgn.length=16:=(leS_ok kk_v.ok hle).s
 have lok:=leS_ok kk_v.ok hle
 rw[show leS kk ⟨a,t,lo+len,0,zB⟩=leG kk a t (lo+len)from rfl]at lok
 have t1:=take_at (gl:=gl) (n:=n) (by omega) (f:=false) (sh:=sY) (.inr rfl) kk_r ⟨a,t,⟨0,0,0,0,zB⟩⟩ rfl (leG kk a t (lo+len)) lok
 have t2:=take_at (gl:=gl) (n:=n) (by omega) (f:=false) (sh:=sY) (.inr rfl) kk_r ⟨a,t-1,⟨0,0,0,0,zB⟩⟩ rfl (leG kk a t (lo+len)) lok
 have hv1:HV ⟨a,t,⟨0,0,0,0,zB⟩⟩:=⟨hsi,hT,by show(0:Int)<=0;omega,by show(0:Int)<=1099511627776;omega⟩
 have lc:=leC_own (t:=t) hsi (show 1<=lo+len by omega) (by omega)
 have g1:(leG kk a t (lo+len)).site=a:=rfl
 have g2:(leG kk a t (lo+len)).til=lo+len:=rfl
 have g3:(leG kk a t (lo+len)).ep=t:=rfl
 have g4:(leG kk a t (lo+len)).ser=1:=rfl
 have x1:tkE [kk] ⟨a,t,⟨0,0,0,0,zB⟩⟩ (leG kk a t (lo+len))=(⟨a,t,leG kk a t (lo+len)⟩,0):=by
  rw[tkE,if_neg (fun h=>h ⟨hv1,g1⟩),if_neg (fun h=>h lc),g3,g2]
  simp only
  rw[if_neg (by omega),if_neg (by omega)]
 have x2:t≠0->tkE [kk] ⟨a,t-1,⟨0,0,0,0,zB⟩⟩ (leG kk a t (lo+len))=(⟨a,t-1,⟨0,0,0,0,zB⟩⟩,4):=fun h0=>by
  have hv2:HV ⟨a,t-1,⟨0,0,0,0,zB⟩⟩:=⟨hsi,by show 0<=t-1/\t-1<=1099511627776;omega,by show(0:Int)<=0;omega,by show(0:Int)<=1099511627776;omega⟩
  rw[tkE,if_neg (fun h=>h ⟨hv2,g1⟩),if_neg (fun h=>h lc),g3]
  simp only
  rw[if_pos (by omega)]
 rw[x1]at t1
 replace t1:call gl tab n 26 [.lst false sY [.agg [i64 1,i64 1,.str [115],i64 0,i64 1099511627776]],.agg [i64 a,i64 t,.agg [i64 0,i64 0,i64 0,i64 0,.agg H.out16l]],leAV (leG kk a t (lo+len))] []=some (.tup [.agg [i64 a,i64 t,leAV (leG kk a t (lo+len))],i64 0],[],[]):=t1
 have x3:t≠0->call gl tab n 26 [.lst false sY [.agg [i64 1,i64 1,.str [115],i64 0,i64 1099511627776]],.agg [i64 a,i64 (t-1),.agg [i64 0,i64 0,i64 0,i64 0,.agg H.out16l]],leAV (leG kk a t (lo+len))] []=some (.tup [.agg [i64 a,i64 (t-1),.agg [i64 0,i64 0,i64 0,i64 0,.agg H.out16l]],i64 4],[],[]):=fun h0=>by
  rw[x2 h0]at t2;exact t2
 clear t2
 have eL:=eqL a t (lo+len) 1 sa
 have q1:=H.bytes_all (leG kk a t (lo+len)).sgn
 have q2:=H.noImms_bytesAV (leG kk a t (lo+len)).sgn
 simp only[leAV,bAV,g1,g2,g3,g4,zB_av]at d2 t1 x3
 have gr0:(t<=(findG l a).h->∃f1 s1 l1,call gl tab n 11 [gAV t m false sG l,ky kk,i64 a,.agg [i64 lo,i64 hi],i64 len] []=some (.tup [gAV t m f1 s1 l1,.agg [i64 a,i64 t,i64 (lo+len),i64 1,.agg (bytesAV (leG kk a t (lo+len)).sgn)],i64 0],[],[])):=fun h=>by
  obtain⟨f1,s1,l1,d0,_⟩:=grant_any (gl:=gl) (n:=n) (f:=false) (by omega) (.inr rfl) (by omega) ok h (by omega)
  simp only[leAV,bAV,g1,g2,g3,g4]at d0
  exact⟨f1,s1,l1,d0⟩
 have gr1:=(grant_lo (gl:=gl) (n:=n) (f:=false) (sh:=sG) (by omega) (.inr rfl) (by omega) ok).1
 generalize (leG kk a t (lo+len)).sgn=sg at *
 have ek:ky kk= .agg [i64 1,i64 1,.str [115],i64 0,i64 1099511627776]:=rfl
 rw[ek]at k1 d2 gr1
 simp only[ek]at gr0
 have nz:noImms H.out16l=true:=by rw[<-zB_av];exact H.noImms_bytesAV _
 have hx0:((a:Int) != (a:Int))=false:=bne_self_eq_false _
 have hx1:(t != t)=false:=bne_self_eq_false _
 have hx2:(lo+len != lo+len)=false:=bne_self_eq_false _
 rw[call_go (fd:=fd4) rfl]
 simp(maxSteps:=1000000) (implicitDefEqProofs:=false) (disch:=((fail_if_success (intro _));omega)) only[go_sem,simprocAttr,↓reduceIte,↓Nat.reduceEqDiff,xx,fd4,m4,hL,v1,v2,c7,hr,↓out16_eq]
 rw[iter_to (S4 t m lo hi len l a) l.length (by unfold LF;omega)]
 . rw[S4,hh]
   clear st x2 hh lc x1 g1 g2 g3 g4 lok hle
   by_cases g:t<=(findG l a).h
   . obtain⟨f1,s1,l1,d0⟩:=gr0 g
     have eh:(findG l a).h=t:=by omega
     have hb:((findG l a).h==t)=true:=by rw[eh];exact beq_self_eq_true _
     generalize (findG l a).h=y at *
     by_cases g0:t=0
     . have hz:(t==0)=true:=by rw[g0];rfl
       simp(maxSteps:=1000000) (implicitDefEqProofs:=false) (disch:=((fail_if_success (intro _));omega)) only[go_sem,simprocAttr,↓reduceIte,↓Nat.reduceEqDiff,xx,hL,d0,hb,hz,hx0,hx1,hx2,c7,k1,d1,d2,v3,t1,sa,q1,q2,eL,↓out16_eq,H.out16_len,H.out16_all,H.out16_pl,bne_self_eq_false,beq_self_eq_true]
     . have hz:(t==0)=false:=by rw[beq_eq_false_iff_ne];exact g0
       have t3:=x3 g0
       simp(maxSteps:=1000000) (implicitDefEqProofs:=false) (disch:=((fail_if_success (intro _));omega)) only[go_sem,simprocAttr,↓reduceIte,↓Nat.reduceEqDiff,xx,hL,d0,hb,hz,hx0,hx1,hx2,t3,nz,c7,k1,d1,d2,v3,t1,sa,q1,q2,eL,↓out16_eq,H.out16_len,H.out16_all,H.out16_pl,bne_self_eq_false,beq_self_eq_true]
   . have d0:=gr1 (by omega)
     have hb:((findG l a).h==t)=false:=by rw[beq_eq_false_iff_ne];omega
     have g0:t≠0:=by omega
     generalize (findG l a).h=y at *
     have hz:(t==0)=false:=by rw[beq_eq_false_iff_ne];exact g0
     have t3:=x3 g0
     simp(maxSteps:=1000000) (implicitDefEqProofs:=false) (disch:=((fail_if_success (intro _));omega)) only[go_sem,simprocAttr,↓reduceIte,↓Nat.reduceEqDiff,xx,hL,d0,hb,hz,hx0,hx1,hx2,t3,nz,c7,k1,d1,d2,v3,t1,sa,q1,q2,eL,↓out16_eq,H.out16_len,H.out16_all,H.out16_pl,bne_self_eq_false,beq_self_eq_true]
 . rw[S4,hrd];simp(implicitDefEqProofs:=false) (disch:=((fail_if_success (intro _));omega)) only[go_sem,simprocAttr,↓reduceIte,↓Nat.reduceEqDiff,xx,hL]
 . exact st
 . rw[S4];simp(implicitDefEqProofs:=false) (disch:=((fail_if_success (intro _));omega)) only[go_sem,simprocAttr,↓reduceIte,↓Nat.reduceEqDiff,xx,hL]
theorem law4 (hn:20<=n)(ar:List AV)(h:HasKds [kGs,.int .u8,kPe,kI] ar):call gl tab (n+1) 4 ar []=some (.bool true,[],[]):=by
 simp only[HasKds]at h
 obtain⟨_,_,rfl,h1,_,_,rfl,h2,_,_,rfl,h3,_,_,rfl,h4,rfl⟩:=h
 obtain⟨t,m,l,rfl,ht,hm,hl0⟩:=kd_gs h1
 obtain⟨b,rfl⟩:=byte_of h2
 obtain⟨lo,hi,rfl,hlo,hhi⟩:=kd_pe h3
 obtain⟨len,rfl,hlen⟩:=kd_i h4
 clear h1 h2 h3 h4
 have c7:=@sanity_at gl n _ hn
 have hL:=gs_length l
 have hb:=b.toNat_lt
 generalize b.toNat=w at *
 by_cases g1:l.length<=64
 case neg=>rw[call_go (fd:=fd4) rfl];simp(disch:=((fail_if_success (intro _));omega)) only[go_sem,simprocAttr,↓reduceIte,↓Nat.reduceEqDiff,xx,fd4,m4,c7,hL,↓out16_eq]
 have v1:=@valid_at gl n (by omega) t m false sG l (.inr rfl) (by omega)
 by_cases g2:VG t m l
 case neg=>rw[decide_eq_false g2]at v1;rw[call_go (fd:=fd4) rfl];simp(disch:=((fail_if_success (intro _));omega)) only[go_sem,simprocAttr,↓reduceIte,↓Nat.reduceEqDiff,xx,fd4,m4,c7,hL,v1,↓out16_eq]
 have v2:=@cvalid_at gl n (by omega) lo hi
 by_cases g3:CV lo hi
 case neg=>rw[decide_eq_true g2]at v1;rw[decide_eq_false g3]at v2;rw[call_go (fd:=fd4) rfl];simp(disch:=((fail_if_success (intro _));omega)) only[go_sem,simprocAttr,↓reduceIte,↓Nat.reduceEqDiff,xx,fd4,m4,c7,hL,v1,v2,↓out16_eq]
 by_cases g4:1<=len
 case neg=>rw[decide_eq_true g2]at v1;rw[decide_eq_true g3]at v2;rw[call_go (fd:=fd4) rfl];simp(disch:=((fail_if_success (intro _));omega)) only[go_sem,simprocAttr,↓reduceIte,↓Nat.reduceEqDiff,xx,fd4,m4,c7,hL,v1,v2,↓out16_eq]
 by_cases g5:len<=m
 case neg=>rw[decide_eq_true g2]at v1;rw[decide_eq_true g3]at v2;rw[call_go (fd:=fd4) rfl];simp(disch:=((fail_if_success (intro _));omega)) only[go_sem,simprocAttr,↓reduceIte,↓Nat.reduceEqDiff,xx,fd4,m4,c7,hL,v1,v2,↓out16_eq]
 by_cases g6:lo+len<=1099511627775
 case neg =>
  rw[decide_eq_true g2]at v1;rw[decide_eq_true g3]at v2
  have hM:=g2.2.2
  have hC:=g3
  unfold CV at hC
  rw[call_go (fd:=fd4) rfl];simp(disch:=((fail_if_success (intro _));omega)) only[go_sem,simprocAttr,↓reduceIte,↓Nat.reduceEqDiff,xx,fd4,m4,c7,hL,v1,v2,↓out16_eq]
 exact law4_go hn (by omega) rfl g1 g2 g3 g4 g5 g6
end
end Go.Proofs.S30.G
