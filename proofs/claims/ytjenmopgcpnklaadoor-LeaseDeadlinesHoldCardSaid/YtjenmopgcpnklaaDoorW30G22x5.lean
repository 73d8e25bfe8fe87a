/-
  Chapter 30: acts, a site's hearing is confirmed. No condition.
-/
import Derived.Test.YtjenmopgcpnklaaDoorW30G21x5
set_option linter.unusedVariables false
set_option linter.unusedSimpArgs false
set_option linter.unusedSectionVars false
namespace Go.Proofs.S30.G
open Go Go.Ev Go.Proofs Go.Ck
open Go.Proofs.S30.H (GlK GlR)
variable {gl :Gl} {n:Nat}
theorem act_conf (hn:8<=n){w:Wd}{q:Nat}(h:WI w q)(hq:q<=59){p:Fg}(fp:FOk w p){kd si nn af ea la:Nat}(hk:kd<256)(hsi:si<256)(hnn:nn<256)(haf:af<256)(hea:ea<256)(hla:la<256)(h0:kd%5=2) :
  ∃w' p',call gl tab n 28 [wAV w p,.agg [.int .u8 kd,.int .u8 si,.int .u8 nn,.int .u8 af,.int .u8 ea,.int .u8 la]] []=some (wAV w' p',[],[])/\WI w' (q+1)/\FOk w' p':=by
 have hp:=fp.g
 obtain⟨d,rfl⟩:=Nat.exists_eq_add_of_le' hn
 have hw:=(h.tick (d:=(af:Int)) (by omega) (by omega))
 have hn:=h.n
 have hbk:=h.k
 have hT:=h.T
 have hv:=h.v
 have hv1:=hv.2
 have r5:=rem5 kd
 rw[h0]at r5
 have r33:=rem3 si
 have ha:si%3<3:=Nat.mod_lt _ (by decide)
 generalize si%3=a at *
 have hA:=(h.a a ha).h
 obtain⟨r,r1,r2,r3⟩:=remP nn (y:=(w.h a).h+1) (by omega)
 have hsi:isSite (a:Int)=true:=decide_eq_true (by omega)
 have hc:=h.c
 have l0:=(h.a 0 (by omega)).z
 have l1:=(h.a 1 (by omega)).z
 have l2:=(h.a 2 (by omega)).z
 have q0:=H.bytes_all (w.h 0).le.sgn
 have q1:=H.bytes_all (w.h 1).le.sgn
 have q2:=H.bytes_all (w.h 2).le.sgn
 by_cases g:r<=(findG w.l a).h
 . have c1:=confirm_old (gl:=gl) (n:=d+7) (t:=w.t) (m:=w.m) (f:=p.f) (sh:=p.sh) (l:=w.l) (by omega) hp (by omega) hv hsi r2 (by omega) g
   refine⟨_,p,?_,hw,⟨fp.g,fp.s⟩⟩
   show _=some (AV.agg [gAV w.t w.m p.f p.sh w.l,.agg [hAV (w.h 0),hAV (w.h 1),hAV (w.h 2)],.lst p.g p.sk (les w.s),.lst p.k .sc (ints w.b),i64 (w.T+af),.bool false],[],[])
   rw[call_go (fd:=fd28) rfl]
   clear hsi
   have a3:a=0\/a=1\/a=2:=by omega
   rcases a3 with rfl|rfl|rfl
   . have e0:(((0:Nat)):Int)=0:=rfl
     rw[e0]at c1 r33
     simp(disch:=((fail_if_success (intro _));omega)) only[go_sem,simprocAttr,↓reduceIte,↓Nat.reduceEqDiff,xx,fd28,m28,↓out16_eq,H.out16_len,H.out16_all,H.out16_pl,l0,l1,l2,q0,q1,q2,c1,r5,r33,r1]
   . have e0:(((1:Nat)):Int)=1:=rfl
     rw[e0]at c1 r33
     simp(disch:=((fail_if_success (intro _));omega)) only[go_sem,simprocAttr,↓reduceIte,↓Nat.reduceEqDiff,xx,fd28,m28,↓out16_eq,H.out16_len,H.out16_all,H.out16_pl,l0,l1,l2,q0,q1,q2,c1,r5,r33,r1]
   . have e0:(((2:Nat)):Int)=2:=rfl
     rw[e0]at c1 r33
     simp(disch:=((fail_if_success (intro _));omega)) only[go_sem,simprocAttr,↓reduceIte,↓Nat.reduceEqDiff,xx,fd28,m28,↓out16_eq,H.out16_len,H.out16_all,H.out16_pl,l0,l1,l2,q0,q1,q2,c1,r5,r33,r1]
 . have c1:=confirm_new (gl:=gl) (n:=d+7) (t:=w.t) (m:=w.m) (f:=p.f) (sh:=p.sh) (l:=w.l) (by omega) hp (by omega) hv hsi r2 (by omega) (by omega)
   refine⟨_,⟨false,sG,p.g,p.sk,p.k⟩,?_,hw.conf ha (e:=r) (by show(findG w.l a).h<r;omega) (by show r<=(w.h a).h;omega),⟨.inr rfl,fp.s⟩⟩
   show _=some (AV.agg [gAV w.t w.m false sG (putL w.l ⟨a,r,(findG w.l a).u⟩),.agg [hAV (w.h 0),hAV (w.h 1),hAV (w.h 2)],.lst p.g p.sk (les w.s),.lst p.k .sc (ints w.b),i64 (w.T+af),.bool false],[],[])
   generalize putL w.l ⟨a,r,(findG w.l a).u⟩=l' at *
   rw[call_go (fd:=fd28) rfl]
   clear hsi
   have a3:a=0\/a=1\/a=2:=by omega
   rcases a3 with rfl|rfl|rfl
   . have e0:(((0:Nat)):Int)=0:=rfl
     rw[e0]at c1 r33
     simp(disch:=((fail_if_success (intro _));omega)) only[go_sem,simprocAttr,↓reduceIte,↓Nat.reduceEqDiff,xx,fd28,m28,↓out16_eq,H.out16_len,H.out16_all,H.out16_pl,l0,l1,l2,q0,q1,q2,c1,r5,r33,r1]
   . have e0:(((1:Nat)):Int)=1:=rfl
     rw[e0]at c1 r33
     simp(disch:=((fail_if_success (intro _));omega)) only[go_sem,simprocAttr,↓reduceIte,↓Nat.reduceEqDiff,xx,fd28,m28,↓out16_eq,H.out16_len,H.out16_all,H.out16_pl,l0,l1,l2,q0,q1,q2,c1,r5,r33,r1]
   . have e0:(((2:Nat)):Int)=2:=rfl
     rw[e0]at c1 r33
     simp(disch:=((fail_if_success (intro _));omega)) only[go_sem,simprocAttr,↓reduceIte,↓Nat.reduceEqDiff,xx,fd28,m28,↓out16_eq,H.out16_len,H.out16_all,H.out16_pl,l0,l1,l2,q0,q1,q2,c1,r5,r33,r1]
end Go.Proofs.S30.G
namespace Go.Proofs.S30.G
open Go Go.Ev Go.Proofs Go.Ck
open Go.Proofs.S30.H (GlK GlR)
variable {gl :Gl} {n:Nat}
theorem grant_w [Nonempty (GlK gl)](hn:12<=n){w:Wd}{q:Nat}(h:WI w q)(hk:w.s.length+1<=q){p:Fg}(hp:Mg w.l p.sh){a:Nat}(ha:a<3){lo hi len:Int}
  (ok:GOk w.t w.m w.l a kk lo hi len) (g1:w.t<=(findG w.l a).h) (g2:lo+len<=1099511627776) (g3:lo+len<=w.T+w.m) :
  ∃l' f' sh',call gl tab n 11 [gAV w.t w.m p.f p.sh w.l,ky kk,i64 a,.agg [i64 lo,i64 hi],i64 len] []=some (.tup [gAV w.t w.m f' sh' l',leAV (leG kk a w.t (lo+len)),i64 0],[],[]) /\
   Mg l' sh'/\(leG kk a w.t (lo+len)).sgn.length=16/\WI ⟨w.t,w.m,l',w.h,w.s++[leG kk a w.t (lo+len)],w.b,w.T⟩ q:=by
 have hc:=h.c
 have hlo:=ok.c.1
 have hl1:=ok.n1
 have hle:(leG kk a w.t (lo+len)).sgn.length=16:=(leS_ok kk_v.ok (leG_ok ok.s h.v (lo+len) (by omega))).s
 by_cases g:lo+len<=(findG w.l a).u
 . exact⟨w.l,p.f,p.sh,grant_old hn hp (by omega) ok g1 g2 g,hp,hle,h.snt (h.sok ha (by omega) g1 g) hk⟩
 . have hw:=h.grow ha (u:=lo+len) (by omega) g1 (by omega) g3
   have hf:=find_ent w ⟨a,(findG w.l a).h,lo+len⟩
   have hf:findG (w.ent ⟨a,(findG w.l a).h,lo+len⟩).l a=⟨a,(findG w.l a).h,lo+len⟩:=hf
   refine⟨_,_,_,grant_new hn hp (by omega) ok g1 g2 (by omega),.inr rfl,hle,hw.snt (hw.sok ha (u:=lo+len) (by omega) ?_ ?_) hk⟩
   . rw[hf];exact g1
   . rw[hf];exact Int.le_refl _
theorem les_length (l:List Le):(les l).length=l.length:=by simp[les]
theorem les_app (l:List Le)(x:Le):les (l++[x])=les l++[leAV x]:=by simp[les]
theorem act_grant [Nonempty (GlK gl)](hn:14<=n){w:Wd}{q:Nat}(h:WI w q)(hq:q<=59){p:Fg}(fp:FOk w p){kd si nn af ea la:Nat}(hk:kd<256)(hsi:si<256)(hnn:nn<256)(haf:af<256)(hea:ea<256)(hla:la<256)(h0:kd%5=3) :
  ∃w' p',call gl tab n 28 [wAV w p,.agg [.int .u8 kd,.int .u8 si,.int .u8 nn,.int .u8 af,.int .u8 ea,.int .u8 la]] []=some (wAV w' p',[],[])/\WI w' (q+1)/\FOk w' p':=by
 have hp:=fp.g
 obtain⟨d,rfl⟩:=Nat.exists_eq_add_of_le' hn
 have hw:=(h.tick (d:=(af:Int)) (by omega) (by omega))
 have hbk:=h.k
 have hT:=h.T
 have hv:=h.v
 have hv1:=hv.2
 have hM:=h.m
 have hz:=h.z
 have r5:=rem5 kd
 rw[h0]at r5
 have r33:=rem3 si
 have ha:si%3<3:=Nat.mod_lt _ (by decide)
 generalize si%3=a at *
 obtain⟨mv,hmv,m1,m2,m3⟩:=max_ex 1 w.m
 obtain rfl:mv=w.m:=by omega
 obtain⟨r,r1,r2,r3⟩:=remP nn (y:=w.m) (by omega)
 have hsi:isSite (a:Int)=true:=decide_eq_true (by omega)
 have hc:=h.c
 have ck:=key_at (gl:=gl) (n:=d+13) (by omega)
 have ok:GOk w.t w.m w.l a kk (w.T+af-ea) (w.T+af+la) (1+r):=⟨hv,hsi,by unfold CV;omega,by omega,by omega,kk_v,rfl⟩
 have l0:=(h.a 0 (by omega)).z
 have l1:=(h.a 1 (by omega)).z
 have l2:=(h.a 2 (by omega)).z
 have q0:=H.bytes_all (w.h 0).le.sgn
 have q1:=H.bytes_all (w.h 1).le.sgn
 have q2:=H.bytes_all (w.h 2).le.sgn
 have hlL:=les_length w.s
 by_cases g:(findG w.l a).h<w.t
 . have c1:=(grant_lo (gl:=gl) (n:=d+13) (f:=p.f) (sh:=p.sh) (by omega) hp (by omega) ok).1 g
   refine⟨w.tick af,p,?_,hw,⟨fp.g,fp.s⟩⟩
   show _=some (AV.agg [gAV w.t w.m p.f p.sh w.l,.agg [hAV (w.h 0),hAV (w.h 1),hAV (w.h 2)],.lst p.g p.sk (les w.s),.lst p.k .sc (ints w.b),i64 (w.T+af),.bool false],[],[])
   clear hsi ok
   rw[call_go (fd:=fd28) rfl]
   simp(disch:=((fail_if_success (intro _));omega)) only[go_sem,simprocAttr,↓reduceIte,↓Nat.reduceEqDiff,xx,fd28,m28,↓out16_eq,H.out16_len,H.out16_all,H.out16_pl,l0,l1,l2,q0,q1,q2,hlL,c1,r5,r33,r1,ck,hmv]
 . have hW:WI (w.tick af) (q+1):=hw
   obtain⟨l',f',sh',c1,hl',h16,hw'⟩:=grant_w (gl:=gl) (n:=d+13) (by omega) hW (by show w.s.length+1<=q+1;omega) (p:=p) hp ha ok (by show w.t<=(findG w.l a).h;omega) (by omega) (by show _<=w.T+af+w.m;omega)
   refine⟨_,⟨f',sh',false,sLe,p.k⟩,?_,hw',⟨hl',.inr rfl⟩⟩
   have e1:(w.tick af).t=w.t:=rfl
   have e2:(w.tick af).m=w.m:=rfl
   have e3:(w.tick af).l=w.l:=rfl
   rw[e1,e2,e3]at c1
   show _=some (AV.agg [gAV w.t w.m f' sh' l',.agg [hAV (w.h 0),hAV (w.h 1),hAV (w.h 2)],.lst false sLe (les (w.s++[leG kk a w.t (w.T+af-ea+(1+r))])),.lst p.k .sc (ints w.b),i64 (w.T+af),.bool false],[],[])
   have h16:(leG kk a w.t (w.T+af-ea+(1+r))).sgn.length=16:=h16
   rw[les_app]
   have b1:=H.bytes_all (leG kk a w.t (w.T+af-ea+(1+r))).sgn
   have tl:(leG kk a w.t (w.T+af-ea+(1+r))).til=w.T+af-ea+(1+r):=rfl
   simp only[leAV,bAV,zB_av]at c1 ⊢
   generalize leG kk a w.t (w.T+af-ea+(1+r))=le at *
   clear hsi ok hw' e1 e2 e3
   have hLim:w.s.length<=LIM:=by unfold LIM;omega
   have hLim2:w.s.length+1<=LIM:=by unfold LIM;omega
   have hLim0:0+1<=LIM:=by unfold LIM;omega
   have hLim1:0<=LIM:=by unfold LIM;omega
   rw[call_go (fd:=fd28) rfl]
   by_cases hs0:w.s=[]
   . have hI:les w.s=[]:=by rw[hs0];rfl
     simp(disch:=((fail_if_success (intro _));omega)) only[go_sem,simprocAttr,↓reduceIte,↓Nat.reduceEqDiff,xx,fd28,m28,↓out16_eq,H.out16_len,H.out16_all,H.out16_pl,l0,l1,l2,q0,q1,q2,hI,List.length_nil,h16,b1,tl,c1,r5,r33,r1,ck,hmv,hLim0,hLim1]
   . have hsl:w.s.length≠0:=fun e=>hs0 (List.length_eq_zero_iff.1 e)
     have hsk:p.sk=sLe:=fp.s.resolve_left hs0
     simp(disch:=((fail_if_success (intro _));omega)) only[go_sem,simprocAttr,↓reduceIte,↓Nat.reduceEqDiff,xx,hsk,fd28,m28,↓out16_eq,H.out16_len,H.out16_all,H.out16_pl,l0,l1,l2,q0,q1,q2,hlL,h16,b1,tl,c1,r5,r33,r1,ck,hmv,hLim,hLim2]
     rw[List.take_of_length_le (by rw[List.length_append,hlL];exact Nat.le_refl _)]
end Go.Proofs.S30.G
namespace Go.Proofs.S30.G
open Go Go.Ev Go.Proofs Go.Ck
open Go.Proofs.S30.H (GlK GlR)
variable {gl :Gl} {n:Nat}
theorem les_at {l:List Le}{i:Nat}(h:i<l.length):(les l)[i]? =some (leAV (l.getD i zLe)):=by simp[les,h]
theorem sok_le {w:Wd}{q:Nat}(h:WI w q){x:Le}(hx:SOk w x):LeOk x:=by
 obtain⟨a,e,u,h1,h2,h3,h4,_⟩:=hx.i
 subst h1
 have t:=(h.a a h2).h
 have v:=h.v.2.1
 have hs:isSite (a:Int)=true:=decide_eq_true (by omega)
 exact leS_ok kk_v.ok ⟨few_mk (show R64 a by unfold R64;omega) (few_mk (show R64 e by unfold R64;omega) (few_mk (show R64 u by unfold R64;omega) (few_mk (show R64 0 by unfold R64;omega) few_nil (by simp)) (by simp)) (by simp)) (by simp),by simp⟩
theorem act_take [Nonempty (GlK gl)](hn:14<=n){w:Wd}{q:Nat}(h:WI w q)(hq:q<=59){p:Fg}(fp:FOk w p){kd si nn af ea la:Nat}(hk:kd<256)(hsi:si<256)(hnn:nn<256)(haf:af<256)(hea:ea<256)(hla:la<256)(h0:kd%5=4) :
  ∃w' p',call gl tab n 28 [wAV w p,.agg [.int .u8 kd,.int .u8 si,.int .u8 nn,.int .u8 af,.int .u8 ea,.int .u8 la]] []=some (wAV w' p',[],[])/\WI w' (q+1)/\FOk w' p':=by
 have hp:=fp.g
 obtain⟨d,rfl⟩:=Nat.exists_eq_add_of_le' hn
 have hw:=(h.tick (d:=(af:Int)) (by omega) (by omega))
 have hbk:=h.k
 have hT:=h.T
 have hz:=h.z
 have r5:=rem5 kd
 rw[h0]at r5
 have r33:=rem3 si
 have ha:si%3<3:=Nat.mod_lt _ (by decide)
 generalize si%3=b at *
 have l0:=(h.a 0 (by omega)).z
 have l1:=(h.a 1 (by omega)).z
 have l2:=(h.a 2 (by omega)).z
 have q0:=H.bytes_all (w.h 0).le.sgn
 have q1:=H.bytes_all (w.h 1).le.sgn
 have q2:=H.bytes_all (w.h 2).le.sgn
 have hlL:=les_length w.s
 by_cases hs0:w.s=[]
 . have hI:les w.s=[]:=by rw[hs0];rfl
   refine⟨w.tick af,p,?_,hw,⟨fp.g,fp.s⟩⟩
   show _=some (AV.agg [gAV w.t w.m p.f p.sh w.l,.agg [hAV (w.h 0),hAV (w.h 1),hAV (w.h 2)],.lst p.g p.sk (les w.s),.lst p.k .sc (ints w.b),i64 (w.T+af),.bool false],[],[])
   rw[call_go (fd:=fd28) rfl]
   simp(disch:=((fail_if_success (intro _));omega)) only[go_sem,simprocAttr,↓reduceIte,↓Nat.reduceEqDiff,xx,fd28,m28,↓out16_eq,H.out16_len,H.out16_all,H.out16_pl,l0,l1,l2,q0,q1,q2,hI,List.length_nil,r5,r33]
 . have hsl:w.s.length≠0:=fun e=>hs0 (List.length_eq_zero_iff.1 e)
   have hsk:p.sk=sLe:=fp.s.resolve_left hs0
   obtain⟨r,r1,r2,r3⟩:=remP nn (y:=(w.s.length:Int)) (by omega)
   obtain⟨i,rfl⟩:=Int.eq_ofNat_of_zero_le r2
   have hi:i<w.s.length:=by omega
   have hx:SOk (w.tick af) (w.s.getD i zLe):=hw.s _ (by
    show w.s.getD i zLe∈w.s
    rw[show w.s.getD i zLe=w.s[i] by simp[hi]];exact List.getElem_mem hi)
   have hat:=les_at hi
   have hok:=sok_le hw hx
   obtain⟨a,ha',hsa,hc0,hw'⟩:=hw.take hx
   generalize w.s.getD i zLe=x at *
   have ck:=key_at (gl:=gl) (n:=d+13) (by omega)
   have c1:=take_at (gl:=gl) (n:=d+13) (f:=false) (sh:=sY) (by omega) (.inr rfl) kk_r (w.h a) (h.a a ha').z x hok
   have eh:((w.tick af).h a)=w.h a:=rfl
   rw[eh]at hc0 hw'
   rw[hc0]at c1
   generalize (tkE [kk] (w.h a) x).1=y at *
   replace c1:call gl tab (d+13) 26 [.lst false sY [.agg [i64 1,i64 1,.str [115],i64 0,i64 1099511627776]],hAV (w.h a),leAV x] []=some (.tup [hAV y,i64 0],[],[]):=c1
   have ek:ky kk= .agg [i64 1,i64 1,.str [115],i64 0,i64 1099511627776]:=rfl
   rw[ek]at ck
   have yz:y.le.sgn.length=16:=by
    have:=(hw'.a a ha').z
    have e:((w.tick af).put a y).h a=y:=setH_at _ _ _
    rw[e]at this;exact this
   have yq:=H.bytes_all y.le.sgn
   have xz:=hok.s
   have xq:=H.bytes_all x.sgn
   refine⟨_,p,?_,hw',⟨fp.g,fp.s⟩⟩
   show _=some (AV.agg [gAV w.t w.m p.f p.sh w.l,.agg [hAV (setH w.h a y 0),hAV (setH w.h a y 1),hAV (setH w.h a y 2)],.lst p.g p.sk (les w.s),.lst p.k .sc (ints w.b),i64 (w.T+af),.bool false],[],[])
   simp only[leAV,bAV]at c1 hat
   rw[call_go (fd:=fd28) rfl]
   clear hw' hok hx hw
   have a3:a=0\/a=1\/a=2:=by omega
   rcases a3 with rfl|rfl|rfl
   . have e0:(((0:Nat)):Int)=0:=rfl
     rw[e0]at hsa
     rw[hsa]at c1 hat
     simp(disch:=((fail_if_success (intro _));omega)) only[go_sem,simprocAttr,↓reduceIte,↓Nat.reduceEqDiff,xx,hsk,fd28,m28,↓out16_eq,H.out16_len,H.out16_all,H.out16_pl,l0,l1,l2,q0,q1,q2,hlL,hat,H.noImms_bytesAV,xz,xq,yz,yq,c1,ck,r5,r33,r1]
     rfl
   . have e0:(((1:Nat)):Int)=1:=rfl
     rw[e0]at hsa
     rw[hsa]at c1 hat
     simp(disch:=((fail_if_success (intro _));omega)) only[go_sem,simprocAttr,↓reduceIte,↓Nat.reduceEqDiff,xx,hsk,fd28,m28,↓out16_eq,H.out16_len,H.out16_all,H.out16_pl,l0,l1,l2,q0,q1,q2,hlL,hat,H.noImms_bytesAV,xz,xq,yz,yq,c1,ck,r5,r33,r1]
     rfl
   . have e0:(((2:Nat)):Int)=2:=rfl
     rw[e0]at hsa
     rw[hsa]at c1 hat
     simp(disch:=((fail_if_success (intro _));omega)) only[go_sem,simprocAttr,↓reduceIte,↓Nat.reduceEqDiff,xx,hsk,fd28,m28,↓out16_eq,H.out16_len,H.out16_all,H.out16_pl,l0,l1,l2,q0,q1,q2,hlL,hat,H.noImms_bytesAV,xz,xq,yz,yq,c1,ck,r5,r33,r1]
     rfl
end Go.Proofs.S30.G
namespace Go.Proofs.S30.G
open Go Go.Ev Go.Proofs Go.Ck
open Go.Proofs.S30.H (GlK GlR)
variable {gl :Gl} {n:Nat}
structure Ac where
 kd:Nat
 si:Nat
 nn:Nat
 af:Nat
 ea:Nat
 la:Nat
structure AOk (x:Ac):Prop where
 kd:x.kd<256
 si:x.si<256
 nn:x.nn<256
 af:x.af<256
 ea:x.ea<256
 la:x.la<256
abbrev acAV (x:Ac):AV:=.agg [.int .u8 x.kd,.int .u8 x.si,.int .u8 x.nn,.int .u8 x.af,.int .u8 x.ea,.int .u8 x.la]
abbrev sAc :Sh:=.st [.sc,.sc,.sc,.sc,.sc,.sc]
abbrev kAc :Kd:=.st [.int .u8,.int .u8,.int .u8,.int .u8,.int .u8,.int .u8]
def acs (l:List Ac):List AV:=l.map acAV
theorem acs_length (l:List Ac):(acs l).length=l.length:=by simp[acs]
theorem act_any [Nonempty (GlK gl)](hn:14<=n){w:Wd}{q:Nat}(h:WI w q)(hq:q<=59){p:Fg}(fp:FOk w p){x:Ac}(hx:AOk x) :
  ∃w' p',call gl tab n 28 [wAV w p,acAV x] []=some (wAV w' p',[],[])/\WI w' (q+1)/\FOk w' p':=by
 obtain⟨b1,b2,b3,b4,b5,b6⟩:=hx
 have h5:x.kd%5=0\/x.kd%5=1\/x.kd%5=2\/x.kd%5=3\/x.kd%5=4:=by omega
 rcases h5 with h0|h0|h0|h0|h0
 . exact act_issue (by omega) h hq fp b1 b2 b3 b4 b5 b6 h0
 . exact act_hear (by omega) h hq fp b1 b2 b3 b4 b5 b6 h0
 . exact act_conf (by omega) h hq fp b1 b2 b3 b4 b5 b6 h0
 . exact act_grant hn h hq fp b1 b2 b3 b4 b5 b6 h0
 . exact act_take hn h hq fp b1 b2 b3 b4 b5 b6 h0
theorem kd_u8 {a:AV}(h:HasKd (.int .u8) a):∃k:Nat,a= .int .u8 k/\k<256:=by
 obtain⟨b,rfl⟩:=byte_of h
 exact⟨b.toNat,rfl,b.toNat_lt⟩
theorem kd_u16 {a:AV}(h:HasKd (.int .u16) a):∃k:Nat,a= .int .u16 k/\k<65536:=by
 obtain⟨k,rfl,h1,h2⟩:=h
 have h1:0<=k:=h1
 have h2:k<=65535:=h2
 exact⟨k.toNat,by rw[Int.toNat_of_nonneg h1],by omega⟩
theorem kd_ac {a:AV}(h:HasKd kAc a):∃x:Ac,a=acAV x/\AOk x:=by
 obtain⟨l,rfl,h⟩:=h
 simp only[HasKds]at h
 obtain⟨_,_,rfl,h1,_,_,rfl,h2,_,_,rfl,h3,_,_,rfl,h4,_,_,rfl,h5,_,_,rfl,h6,rfl⟩:=h
 obtain⟨a1,rfl,b1⟩:=kd_u8 h1
 obtain⟨a2,rfl,b2⟩:=kd_u8 h2
 obtain⟨a3,rfl,b3⟩:=kd_u8 h3
 obtain⟨a4,rfl,b4⟩:=kd_u8 h4
 obtain⟨a5,rfl,b5⟩:=kd_u8 h5
 obtain⟨a6,rfl,b6⟩:=kd_u8 h6
 exact⟨⟨a1,a2,a3,a4,a5,a6⟩,rfl,⟨b1,b2,b3,b4,b5,b6⟩⟩
theorem kd_acs0 :∀{l:List AV},(∀x∈l,HasKd kAc x)->∃r:List Ac,l=acs r/\∀x∈r,AOk x
 | [],_=>⟨[],rfl,fun x h=>by simp at h⟩
 | y::l,h=>by
   obtain⟨x,rfl,hx⟩:=kd_ac (h y (by simp))
   obtain⟨r,rfl,hr⟩:=kd_acs0 (l:=l) fun z hz=>h z (by simp[hz])
   exact⟨x::r,rfl,fun z hz=>by
    simp at hz
    rcases hz with rfl|hz
    . exact hx
    . exact hr z hz⟩
theorem kd_acs {a:AV}(h:HasKd (.sl kAc) a):∃r:List Ac,a= .lst false sAc (acs r)/\∀x∈r,AOk x:=by
 obtain⟨l,rfl,h1,h2⟩:=h
 obtain⟨r,rfl,hr⟩:=kd_acs0 h2
 exact⟨r,rfl,hr⟩
end Go.Proofs.S30.G
