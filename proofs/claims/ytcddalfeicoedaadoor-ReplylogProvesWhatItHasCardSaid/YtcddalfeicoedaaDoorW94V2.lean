/-
  Chapter 44, the seat of what a ledger proves: heads of a ledger of given replies. No condition.
-/
import Derived.Test.YtcddalfeicoedaaDoorW94G22x3
import Derived.Test.YtcddalfeicoedaaDoorW94G23x3
import Derived.Test.YtcddalfeicoedaaDoorW94G20x3
import Derived.Test.YtcddalfeicoedaaDoorW94G24x3
set_option linter.all false
open Nat renaming le_refl->wA
open List renaming take_of_length_le->wB,getD_eq_getElem?_getD->wC,getElem?_eq_getElem->wD
namespace Go.Proofs.S94.L
open Go Go.Ev Go.Proofs Go.Proofs.S94
open Go.Proofs.S94.H (GlK)
open Go.Proofs.S94.M (Dg dgL All16 sB pkAV P8 R8)
variable {gl :Gl} {n:Nat}
def h7 (r:List Re)(j:Nat):Hd:=hdS k7 (hd0 7 (j+1) (R8 (fs (ws r (j+1))) (j+1)) (100*j) (100*j+50))
theorem zs6 (r:List Re)(j:Nat):(h7 r j).site=7:=rfl
theorem zdm (r:List Re)(j:Nat):(h7 r j).size=(j+1:Nat):=rfl
theorem zpc (r:List Re)(j:Nat):(h7 r j).root=R8 (fs (ws r (j+1))) (j+1):=rfl
theorem qdo (r:List Re)(j:Nat):(h7 r j).lo=100*j:=rfl
theorem qgy (r:List Re)(j:Nat):(h7 r j).hi=100*j+50:=rfl
def gs (s:Nat)(r:List Re):Nat->List Hd
 | 0=>[]
 | k+1=>if k%s=0 then gs s r k++[h7 r k]else gs s r k
theorem gs_y {s:Nat}{r:List Re}{k:Nat}(h:k%s=0):gs s r (k+1)=gs s r k++[h7 r k]:=by rw[gs,if_pos h]
theorem gs_n {s:Nat}{r:List Re}{k:Nat}(h:¬k%s=0):gs s r (k+1)=gs s r k:=by rw[gs,if_neg h]
theorem zil (s:Nat)(r:List Re):∀k,(gs s r k).length<=k
 | 0=>by simp[gs]
 | k+1=>by
   have:=zil s r k
   by_cases h:k%s=0
   . rw[gs_y h,List.length_append];simp;omega
   . rw[gs_n h];omega
theorem zrb (s:Nat)(r:List Re):∀k,∀h∈gs s r k,∃j,j<k/\h=h7 r j
 | 0,h,hh=>by simp[gs]at hh
 | k+1,h,hh=>by
   by_cases hs:k%s=0
   . rw[gs_y hs]at hh
     rcases List.mem_append.1 hh with h1|h1
     . obtain⟨j,hj,e⟩:=zrb s r k h h1
       exact⟨j,by omega,e⟩
     . exact⟨k,by omega,List.mem_singleton.1 h1⟩
   . rw[gs_n hs]at hh
     obtain⟨j,hj,e⟩:=zrb s r k h hh
     exact⟨j,by omega,e⟩
theorem cnt7 {j:Nat}(h:j<=1000):cnt k7 (100*j) (100*j+50)=true:=by
 unfold cnt k7
 simp
 omega
theorem zmn {r:List Re}{j:Nat}(h:RsOk r (j+1)):HdOk (h7 r j):=by
 have:=h.l
 exact z0m k7_v.ok ⟨zbn (show R64 7 by unfold R64;omega) (few4 (show R64 ((j+1:Nat):Int) by unfold R64;omega) (show R64 (100*(j:Int)) by unfold R64;omega) (show R64 (100*(j:Int)+50) by unfold R64;omega) r0) (by simp),M.R8_len h.all16 _,by simp⟩
theorem h7_C {r:List Re}{j:Nat}(h:j<=1000):hdC [k7] (h7 r j)=0:=z4p _ _ (cnt7 h)
theorem RsOk.lt {r:List Re}{k m:Nat}(o:RsOk r k)(h:m<=k):RsOk r m:=⟨by have:=o.l;omega,by have:=o.n;omega,fun i hi=>o.s i (by omega),o.r⟩
theorem z4r {s:Nat}{r:List Re}{k:Nat}(o:RsOk r k):∀h∈gs s r k,HdOk h:=fun h hh=>by
 obtain⟨j,hj,rfl⟩:=zrb s r k h hh
 exact zmn (o.lt hj)
theorem qdp {s:Nat}{r:List Re}{k:Nat}:gs s r k=[]\/(hdat (gs s r k) ((gs s r k).length-1)).lo<=100*k:=by
 by_cases h:gs s r k=[]
 . exact .inl h
 . have h0:(gs s r k).length≠0:=fun e=>h (List.length_eq_zero_iff.1 e)
   obtain⟨j,hj,e⟩:=zrb s r k _ (zcr (show(gs s r k).length-1<(gs s r k).length by omega))
   rw[e,qdo]
   exact .inr (by omega)
theorem z9m (s:Nat)(r:List Re):∀k,VL 7 (ws r k) k (P8 (fs (ws r k)) k) (gs s r k)
 | 0=>⟨by omega,fun i hi=>by simp[ws]at hi,⟨rfl,rfl⟩,fun i hi=>by simp[gs]at hi⟩
 | k+1=>by
   have h:=(z9m s r k).app (x:=toRv (at7 (reat r k) k)) rfl (by rw[zbd];rfl)
   have e:=zs8 (ws r k) (toRv (at7 (reat r k) k))
   rw[zbd]at h e
   rw[e]at h
   by_cases hs:k%s=0
   . rw[gs_y hs]
     exact h.seal1 (y:=h7 r k) rfl (by rw[zdm,<-ws_s,zbd]) (by rw[zpc,<-ws_s,zbd]) qdp
   . rw[gs_n hs];exact h
def gl7 (s:Nat)(r:List Re):Nat->AV
 | 0=>.lst true .sc []
 | k+1=>.lst false sHd (hds (gs s r (k+1)))
theorem zu2 (s:Nat)(r:List Re)(k:Nat):∃f sh,gl7 s r k= .lst f sh (hds (gs s r k))/\(gs s r k=[]\/sh=sHd):=by
 cases k with
 | zero=>exact⟨true,.sc,rfl,.inl rfl⟩
 | succ k=>exact⟨false,sHd,rfl,.inr rfl⟩
theorem z9h [Nonempty (GlK gl)](h:16<=n){s:Nat}{r:List Re}{k:Nat}(o:RsOk r (k+1))(hs:k%s=0) :
  call gl tab n 8 [.agg [i64 7,.lst false sRe (rvs (ws r (k+1))),.agg [i64 (k+1:Nat),.lst false sB (dgL (P8 (fs (ws r (k+1))) (k+1)))],gl7 s r k],ky k7,.agg [i64 (100*k),i64 (100*k+50)]] [] =
   some (.tup [.agg [i64 7,.lst false sRe (rvs (ws r (k+1))),.agg [i64 (k+1:Nat),.lst false sB (dgL (P8 (fs (ws r (k+1))) (k+1)))],.lst false sHd (hds (gs s r (k+1)))],hdAV (h7 r k),i64 0],[],[]):=by
 obtain⟨f,sh,e,hg⟩:=zu2 s r k
 have hk:=o.l
 have wl:=zbd r (k+1)
 have fl:(fs (ws r (k+1))).length=k+1:=by rw[zas,wl]
 have al:=o.all16
 have ht:P8 (fs (ws r (k+1))) (k+1)≠[]:=M.P8_ne (l:=fs (ws r (k+1))) (k:=k) (by omega)
 have F:M.Form (k+1:Nat) (P8 (fs (ws r (k+1))) (k+1)):=M.P8_form (by omega) (by omega)
 have a8:All16 (P8 (fs (ws r (k+1))) (k+1)):=M.P8_all _ _ (by omega) al
 have l8:(P8 (fs (ws r (k+1))) (k+1)).length<=60000:=M.P8_le _ (by omega) (by omega)
 have hr:(R8 (fs (ws r (k+1))) (k+1)).length=16:=M.R8_len al _
 have ct:∀m,14<=m->call gl tab m 25 [pkAV (k+1:Nat) false sB (P8 (fs (ws r (k+1))) (k+1))] []=some (.tup [bAV (R8 (fs (ws r (k+1))) (k+1)),i64 0],[],[]):=fun m hm=>by
  have e:=M.top_ok (gl:=gl) (f:=false) hm (by omega) a8 ht (by omega) F
  rw[M.topV8]at e
  exact e
 have gk:=zil s r k
 have c1:=@zyn gl n 7 (k+1:Nat) (100*k) (100*k+50) false false f sRe sB sh (ws r (k+1)) (P8 (fs (ws r (k+1))) (k+1)) (gs s r k) k7 _ _ (by omega) k7_v (by omega) (by decide) (by unfold CV;omega) hr ct (by omega) hg (by omega) (z4r (o.lt (by omega))) qdp
 rw[wl]at c1
 rw[e,gs_y hs]
 exact c1
theorem z7v [Nonempty (GlK gl)](hn:1001<=n){s:Nat}{r:List Re}{N j i:Nat}(o:RsOk r N)(hN:N<=800)(hg:h7 r j∈gs s r N)(hj:j<N)(hi:i<=j) :
  ∃p:List Dg,call gl tab n 10 [.agg [i64 7,.lst false sRe (rvs (ws r N)),.agg [i64 N,.lst false sB (dgL (P8 (fs (ws r N)) N))],.lst false sHd (hds (gs s r N))],i64 i,hdAV (h7 r j)] [] =
    some (.tup [.agg [rvAV (toRv (at7 (reat r i) i)),hdAV (h7 r j),.lst false sB (dgL p)],i64 0],[],[]) /\
   call gl tab n 11 [.lst false sY [ky k7],.agg [rvAV (toRv (at7 (reat r i) i)),hdAV (h7 r j),.lst false sB (dgL p)]] []=some (i64 0,[],[]):=by
 have wl:=zbd r N
 have c2:=@zuf gl n 7 N false false false sRe sB sHd (ws r N) (P8 (fs (ws r N)) N) (gs s r N) _ hn (.inr rfl) (by omega) o.ok (.inr rfl) (by have:=zil s r N;omega) (z4r o) (h7 r j) hg (j+1) i (zdm r j) (by omega) (by omega)
 rw[z63 r _ _ (show i<N by omega),zr2 r _ _ (show j+1<=N by omega)]at c2
 have oj:=o.lt (show j+1<=N by omega)
 have fl:(fs (ws r (j+1))).length=j+1:=by rw[zas,zbd]
 have al:=oj.all16
 have il:=M.incl_le _ (fs (ws r (j+1))) i (wA _)
 have ia:=M.incl_all _ (fs (ws r (j+1))) i (wA _) al
 have xo:=zn8 (gl:=gl) (oj.R (show i<j+1 by omega)) (qat (oj.s i (by omega)) i)
 have c3:=zog (gl:=gl) (n:=n) (fr:=false) (m:=sY) (ring:=[k7]) (by omega) (.inr rfl) k7_r xo (zmn oj) (f:=false) (sh:=sB) (p:=Mk.incl M.nd M.em (fs (ws r (j+1))) i) ia (by omega) (.inr rfl)
 have ek:ckS [k7] (toRv (at7 (reat r i) i)) (h7 r j) (Mk.incl M.nd M.em (fs (ws r (j+1))) i)=0:=by
  unfold ckS
  rw[h7_C (by omega),zdm,zs6,zpc]
  have e1:(toRv (at7 (reat r i) i)).f=M.dgA (fs (ws r (j+1))) i:=by
   have h:=z63 r (j+1) i (by omega)
   rw[<-h,M.dgA,wC,wD (by omega),Option.getD_some]
   simp only[fs,List.getElem_map]
   rw[rat,wC,wD (by rw[zbd];omega),Option.getD_some]
  have e2:R8 (fs (ws r (j+1))) (j+1)=Mk.rt M.nd M.em (fs (ws r (j+1))):=by rw[R8,wB (by omega)]
  have h:=qaj (l:=fs (ws r (j+1))) (i:=i) (by omega) (by omega)
  rw[fl]at h
  rw[e1,e2]
  show fE [mE ((7:Int)==7) 1,0,mE (ckI (M.dgA (fs (ws r (j+1))) i) i (j+1:Nat) (Mk.incl M.nd M.em (fs (ws r (j+1))) i) (Mk.rt M.nd M.em (fs (ws r (j+1))))) 3]=0
  rw[h]
  rfl
 rw[ek]at c3
 exact⟨_,c2,c3⟩
theorem znb (r:List Re){k m:Nat}(h:k<=m):(fs (ws r m)).take k=fs (ws r k):=by
 rw[<-zr2 r k m h];simp[fs,List.map_take]
theorem qak {l:List Dg}{m:Nat}(h1:1<=m)(hm:m<=l.length)(hl:l.length<=60000):ckC m l.length (Mk.rt M.nd M.em (l.take m)) (Mk.rt M.nd M.em l) (Mk.cons M.nd M.em l m true)=true:=by
 obtain⟨h3,h4⟩:=@Mk.cons_ok Dg M.nd M.em M.z16 (Mk.rt M.nd M.em (l.take m)) _ l m true (wA _) h1 hm (fun _ _=>rfl)
 rw[ckC,decide_eq_true_eq,if_neg (by omega),Int.toNat_natCast,Int.toNat_natCast]
 exact⟨by omega,h3,h4⟩
theorem z5l [Nonempty (GlK gl)](hn:1001<=n){s:Nat}{r:List Re}{N i j:Nat}(o:RsOk r N)(hN:N<=800)(hgi:h7 r i∈gs s r N)(hgj:h7 r j∈gs s r N)(hij:i<=j)(hj:j<N) :
  ∃p:List Dg,call gl tab n 12 [.agg [i64 7,.lst false sRe (rvs (ws r N)),.agg [i64 N,.lst false sB (dgL (P8 (fs (ws r N)) N))],.lst false sHd (hds (gs s r N))],hdAV (h7 r i),hdAV (h7 r j)] [] =
    some (.tup [.lst false sB (dgL p),i64 0],[],[]) /\
   call gl tab n 13 [.lst false sY [ky k7],hdAV (h7 r i),hdAV (h7 r j),.lst false sB (dgL p)] []=some (i64 0,[],[]) /\
   call gl tab n 14 [.lst false sY [ky k7],hdAV (h7 r i),hdAV (h7 r j)] []=some (.bool false,[],[]):=by
 have wl:=zbd r N
 have oi:=o.lt (show i+1<=N by omega)
 have oj:=o.lt (show j+1<=N by omega)
 have oki:=zmn oi
 have okj:=zmn oj
 have c1:=cons_ok (gl:=gl) (n:=n) (s:=7) (z:=N) (f:=false) (f2:=false) (f3:=false) (sh:=sRe) (sh2:=sB) (sh3:=sHd) (l:=ws r N) (t:=P8 (fs (ws r N)) N) (hs:=gs s r N) (.inr rfl) (by have:=zil s r N;omega) (z4r o) oki okj (.inr rfl) (by omega) o.ok (zdm r j) (zdm r i) (by omega) (by omega) hn hgi hgj
 have fl:(fs (ws r (j+1))).length=j+1:=by rw[zas,zbd]
 have al:=oj.all16
 have ep:pC (ws r N) (j+1) (i+1)=Mk.cons M.nd M.em (fs (ws r (j+1))) (i+1) true:=by
  rw[pC,znb r (by omega)]
  by_cases h:i=j
  . subst h
    rw[if_pos (.inr rfl)]
    have:=@Mk.cons_all Dg M.nd M.em (fs (ws r (i+1))) true
    rw[fl]at this
    rw[this];rfl
  . rw[if_neg (by omega)]
 rw[ep]at c1
 have pl:=M.cons_le _ (fs (ws r (j+1))) (i+1) true (wA _) (by omega) (by omega)
 have pa:=M.cons_all16 _ (fs (ws r (j+1))) (i+1) true (wA _) (by omega) (by omega) al
 have c2:=z4o (gl:=gl) (n:=n) (fr:=false) (m:=sY) (ring:=[k7]) (by omega) (.inr rfl) k7_r oki okj (f:=false) (sh:=sB) (p:=Mk.cons M.nd M.em (fs (ws r (j+1))) (i+1) true) pa (by omega) (.inr rfl)
 have c3:=z1c (gl:=gl) (n:=n) (fr:=false) (m:=sY) (ring:=[k7]) (by omega) (.inr rfl) k7_r oki okj
 have e1:R8 (fs (ws r (i+1))) (i+1)=Mk.rt M.nd M.em ((fs (ws r (j+1))).take (i+1)):=by
  rw[znb r (by omega),R8,wB (by rw[zas,zbd];omega)]
 have e2:R8 (fs (ws r (j+1))) (j+1)=Mk.rt M.nd M.em (fs (ws r (j+1))):=by rw[R8,wB (by omega)]
 have ek:ckH [k7] (h7 r i) (h7 r j) (Mk.cons M.nd M.em (fs (ws r (j+1))) (i+1) true)=0:=by
  unfold ckH
  rw[h7_C (by omega),h7_C (by omega),zdm,zdm,zs6,zs6,zpc,zpc,qdo,qgy,e1,e2]
  have h:=qak (l:=fs (ws r (j+1))) (m:=i+1) (by omega) (by omega) (by omega)
  rw[fl]at h
  rw[h,decide_eq_true (show(100*(j:Int)+50)>=100*(i:Int) by omega)]
  rfl
 have ef:ckF [k7] (h7 r i) (h7 r j)=false:=by
  rw[ckF,decide_eq_false_iff_not]
  rintro ⟨_,h1,h2,_⟩
  rw[zdm,zdm]at h1
  obtain rfl:i=j:=by omega
  exact h2 rfl
 rw[ek]at c2
 rw[ef]at c3
 exact⟨_,c1,c2,c3⟩
end Go.Proofs.S94.L
