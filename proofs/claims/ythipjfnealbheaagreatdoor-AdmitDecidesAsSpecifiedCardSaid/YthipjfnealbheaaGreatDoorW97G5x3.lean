/-
  Chapter 16: who is the victim. No condition; no program.
-/
import Derived.Test.YthipjfnealbheaaGreatDoorW97G4x3
import Derived.Test.YthipjfnealbheaaGreatDoorW97G3x3
import Derived.Test.YthipjfnealbheaaGreatDoorW97
import Derived.Test.YthipjfnealbheaaGreatDoorEvY
set_option linter.all false
open List renaming getD_eq_getElem?_getD->wB,getElem?_eq_getElem->wC,length_set->wD,getElem?_map->wE
open BitVec renaming shiftLeft_add->wF
namespace Go.Proofs.S97.Q
open Go Go.Ev Go.Proofs
variable {l :List A3} {c m v:Int} {k:Nat}
theorem zsu (l:List A3)(g:List Int)(k:Nat):∀i,(bst l g k i=(0,0)/\∀j,j<i->j≠k->(aat l j).u<=nat g j)\/∃j,j<i/\j≠k/\bst l g k i=((aat l j).t,(aat l j).u-nat g j)/\nat g j<(aat l j).u
 | 0=>.inl ⟨rfl,fun j hj=>absurd hj (Nat.not_lt_zero j)⟩
 | i+1=>by
   by_cases h:i≠k/\(bst l g k i).2<(aat l i).u-nat g i
   . refine .inr ⟨i,by omega,h.1,by rw[bst,if_pos h],?_⟩
     have:=z4o l g k i
     have:=h.2;omega
   . have e:bst l g k (i+1)=bst l g k i:=by rw[bst,if_neg h]
     rw[e]
     rcases zsu l g k i with ⟨h1,h2⟩|⟨j,h1,h2,h3,h4⟩
     . refine .inl ⟨h1,fun j hj hjk=> ?_⟩
       by_cases hji:j=i
       . subst hji
         have h5:¬(bst l g k j).2<(aat l j).u-nat g j:=fun h'=>h ⟨hjk,h'⟩
         rw[h1]at h5
         simp only at h5;omega
       . exact h2 j (by omega) hjk
     . exact .inr ⟨j,by omega,h2,h3,h4⟩
theorem z9n {l:List S2}{g:List Int}{N:Nat}(h:∀i,i<N->nat g i=(sat l i).x):∀{i:Nat},i<=N->sumG g i=sumX l i
 | 0,_=>rfl
 | i+1,hi=>by rw[sumG,sumX,z9n h (show i<=N by omega),h i (by omega)]
theorem zvd (hx:mn 1099511627776 ((aat l k).u+v)=(aat l k).u+v):∀{i:Nat},i<=l.length->sumX (wnt l k v) i=sumU l i+if k<i then v else 0
 | 0,_=>by simp[sumX,sumU]
 | i+1,hi=>by
   have ih:=zvd hx (show i<=l.length by omega)
   rw[sumX,sumU,ih,zh8 (show i<l.length by omega)]
   simp only
   by_cases e:i=k
   . subst e;rw[if_pos rfl,hx,if_neg (by omega),if_pos (by omega)];omega
   . rw[if_neg e]
     by_cases h:k<i
     . rw[if_pos h,if_pos (by omega)];omega
     . rw[if_neg h,if_neg (by omega)];omega
theorem z5h {i:Nat}(hi:i<l.length):sumW (wnt l k v) (i+1)=sumW (wnt l k v) i+(aat l i).w:=by
 rw[sumW,zh8 hi]
section
variable (hv :VA l) (hk:k<l.length) (hc:0<=c/\c<=1099511627776) (hvv:0<=v/\v<=1099511627776) (h:Lv (wnt l k v) c m)
include hv hk hc hvv h
theorem qmc (ht:c<sumU l l.length+v)(hg:¬nat (gets (wnt l k v) m c l.length) k<(aat l k).u+v) :
  ∃j,j<l.length/\j≠k/\(bst l (gets (wnt l k v) m c l.length) k l.length).1=(aat l j).t/\nat (gets (wnt l k v) m c l.length) j<(aat l j).u/\(aat l j).w*(c/sumW (wnt l k v) l.length)<(aat l j).u:=by
 have hw:=zd0 hv (k:=k) hvv
 have ok:=fun i (hi:i<l.length)=>qd7 hw h (i:=i) (by rw[zb5];exact hi)
 have hp:=fun i (hi:i<l.length)=>z3h hw hc h (i:=i) (by rw[zb5];exact hi)
 have hs:=z7r hw h
 rw[zb5]at ok hp hs
 rcases zsu l (gets (wnt l k v) m c l.length) k l.length with ⟨h1,h2⟩|⟨j,h1,h2,h3,h4⟩
 . exfalso
   generalize gets (wnt l k v) m c l.length=g at *
   have o:=ok k hk
   have o1:=o.hi
   rw[zh8 hk]at o1
   simp only[if_true]at o1
   have h5:=zx2 1099511627776 ((aat l k).u+v)
   have h6:mn 1099511627776 ((aat l k).u+v)=(aat l k).u+v:=by omega
   have e:∀i,i<l.length->nat g i=(sat (wnt l k v) i).x:=fun i hi=>by
    have a1:=(ok i hi).hi
    rw[zh8 hi]at a1 ⊢
    simp only at a1 ⊢
    by_cases e:i=k
    . subst e;rw[if_pos rfl]at a1 ⊢;omega
    . rw[if_neg e]at a1 ⊢;have:=h2 i hi e;omega
   have e1:=z9n e (Nat.le_refl l.length)
   have e2:=zvd h6 (Nat.le_refl l.length)
   rw[if_pos hk]at e2
   have e3:=zx2 c (sumX (wnt l k v) l.length)
   omega
 . refine⟨j,h1,h2,by rw[h3],h4,?_⟩
   have a:=hp j h1
   rw[zh8 h1]at a
   simp only[if_neg h2]at a
   have:=a h4;omega
end
end Go.Proofs.S97.Q
namespace Go.Proofs.S97.H
open Go Go.Ev Go.Proofs Go.Proofs.S97
abbrev i64 (n:Int):AV:=.int .i64 n
abbrev u64 (x:BitVec 64):AV:=.int .u64 (x.toNat:Int)
abbrev u32 (x:BitVec 32):AV:=.int .u32 (x.toNat:Int)
abbrev u8 (x:BitVec 8):AV:=.int .u8 (x.toNat:Int)
def ub (b:BitVec 8):UInt8:=⟨b⟩
structure GlK (gl:Gl):Prop where
 k:gl.tbl 1=some (.ar 64 .sc,.agg kA)
structure GlR (gl:Gl):Prop where
 r:gl.tbl 0=some (.ar 64 .sc,.agg kA)
def zir (l:List (List UInt8)):List AV:=l.map fun x=>.str x
theorem zdf (l:List (List UInt8)):(zir l).length=l.length:=by simp[zir]
theorem znm {l:List (List UInt8)}{i:Nat}(h:i<l.length):(zir l)[i]? =some (.str l[i]):=by
 rw[zir,wE,wC h];rfl
theorem zdz {i:Nat}(h:i<2^62):IntKind.wrap .i64 ((i:Int)+1)=((i+1:Nat):Int):=by
 rw[zay (by omega) (by omega)];rfl
theorem glK {gl:Gl}[h:Nonempty (GlK gl)]:gl.tbl 1=some (.ar 64 .sc,.agg kA):=h.elim fun h=>h.k
theorem glR {gl:Gl}[h:Nonempty (GlR gl)]:gl.tbl 0=some (.ar 64 .sc,.agg kA):=h.elim fun h=>h.r
theorem zqo {l:List UInt8}{n:Nat}(h:l.length=n):(zad l).take n=zad l:=by rw[<-h,zku]
theorem zh3 {n:Nat}(h:n<2^36):n+1<=LIM:=by unfold LIM;omega
theorem zas (a b:List UInt8):zad (a++b)=zad a++zad b:=by simp[zad]
theorem rem_nat (a b:Nat)(h:0<b):zam .rem .i64 (a:Int) (b:Int)=some (.int .i64 ((a%b:Nat):Int)):=by
 have hb:¬((b:Int)=0):=by omega
 simp only[zam,hb,if_false];rfl
theorem noImms_bytesAV :∀l:List UInt8,zcz (zad l)=true
 | []=>rfl
 | b::l=>by
   show(zc5 (.int .u8 (b.toNat:Int))&&zcz (zad l))=true
   rw[noImms_bytesAV l];rfl
end Go.Proofs.S97.H
namespace Go.Proofs.S97.H
open Go Go.Ev Go.Proofs Go.Proofs.S97
variable {gl :Gl}
def rr (x:BitVec 32)(i:Nat):BitVec 32:=x<<<(32-i)|||x>>>i
theorem zxm :∀i:Fin 32,BitVec.ofInt 64 (-(i.val:Int))&&&31#64=BitVec.ofNat 64 ((32-i.val)%32):=by decide +kernel
theorem qcc :∀i:Fin 32,(0<i.val->(32#64-BitVec.ofNat 64 ((32-i.val)%32)).toNat=i.val/\(BitVec.ofNat 64 ((32-i.val)%32)).toNat=32-i.val):=by decide +kernel
theorem zlz (d:Nat)(x:BitVec 32)(i:Nat)(h0:0<i)(h:i<32):call gl tab (d+1) 128 [u32 x,.int .i64 (-(i:Int))] []=some (u32 (rr x i),[],[]):=by
 have h1:=zxm ⟨i,h⟩
 have ⟨h2,h3⟩:=qcc ⟨i,h⟩ h0
 have h4:(32-i)%32=32-i:=Nat.mod_eq_of_lt (by omega)
 simp only[h4]at h1 h2 h3
 rw[zaf (fd:=z7z) rfl]
 simp only[z7z,m128,go_sem,simprocAttr,↓Nat.reduceEqDiff,h1,h2,h3,rr]
theorem qc2 (i:Nat)(h:i<64):IntKind.wrap .i64 (0-(i:Int))=-(i:Int):=by rw[zay (by omega) (by omega)];omega
theorem z9w (d:Nat)(x:BitVec 32)(i j k:Nat)(hi:0<i)(hi':i<32)(hj:0<j)(hj':j<32)(hk:0<k)(hk':k<32) :
  call gl tab (d+2) 127 [u32 x,.int .i64 (i:Int),.int .i64 (j:Int),.int .i64 (k:Int)] []=some (u32 (rr x i^^^rr x j^^^rr x k),[],[]):=by
 rw[zaf (fd:=z70) rfl]
 simp only[z70,m127,go_sem,simprocAttr,↓Nat.reduceEqDiff,qc2 i (by omega),qc2 j (by omega),qc2 k (by omega),zlz d x i hi hi',zlz d x j hj hj',zlz d x k hk hk']
abbrev Ws :=List (BitVec 32)
def wsAV (l:Ws):List AV:=l.map fun x=>u32 x
theorem zca (l:Ws):(wsAV l).length=l.length:=by simp[wsAV]
theorem zcm {l:Ws}{i:Nat}(h:i<l.length):(wsAV l)[i]? =some (u32 (l.getD i 0)):=by
 rw[wsAV,wE,wC h,wB,wC h];rfl
theorem zin (l:Ws)(i:Nat)(x:BitVec 32):wsAV (l.set i x)=(wsAV l).set i (u32 x):=by simp[wsAV,List.map_set]
def bt (b:List UInt8)(i:Nat):BitVec 32:=((b.getD i 0).toBitVec).setWidth 32
def word (b:List UInt8)(t:Nat):BitVec 32:=bt b (4*t)<<<(24:Nat)|||bt b (4*t+1)<<<(16:Nat)|||bt b (4*t+2)<<<(8:Nat)|||bt b (4*t+3)
def qc1 (l:Ws)(t:Nat):BitVec 32 :=
 l.getD (t-16) 0+(rr (l.getD (t-15) 0) 7^^^rr (l.getD (t-15) 0) 18^^^l.getD (t-15) 0>>>(3:Nat))+l.getD (t-7) 0+(rr (l.getD (t-2) 0) 17^^^rr (l.getD (t-2) 0) 19^^^l.getD (t-2) 0>>>(10:Nat))
def zbq (b:List UInt8):Nat->Ws
 | 0=>List.replicate 64 0
 | t+1=>(zbq b t).set t (if t<16 then word b t else qc1 (zbq b t) t)
theorem za4 (b:List UInt8)(t:Nat):(zbq b t).length=64:=by
 induction t with
 | zero=>simp[zbq]
 | succ t ih=>rw[zbq,wD,ih]
theorem rot7 (d:Nat)(x:BitVec 32):call gl tab (d+1) 128 [u32 x,.int .i64 (-7)] []=some (u32 (rr x 7),[],[]):=zlz d x 7 (by omega) (by omega)
theorem qkl (d:Nat)(x:BitVec 32):call gl tab (d+1) 128 [u32 x,.int .i64 (-18)] []=some (u32 (rr x 18),[],[]):=zlz d x 18 (by omega) (by omega)
theorem qkm (d:Nat)(x:BitVec 32):call gl tab (d+1) 128 [u32 x,.int .i64 (-17)] []=some (u32 (rr x 17),[],[]):=zlz d x 17 (by omega) (by omega)
theorem qkk (d:Nat)(x:BitVec 32):call gl tab (d+1) 128 [u32 x,.int .i64 (-19)] []=some (u32 (rr x 19),[],[]):=zlz d x 19 (by omega) (by omega)
theorem zu1 (l:Ws):(wsAV l).all AV.scalar=true:=by
 rw[List.all_eq_true];intro x hx
 obtain⟨y,_,rfl⟩:=List.mem_map.1 hx;rfl
theorem qgp (b:List UInt8):AV.agg (wsAV (zbq b 0))= .agg (List.replicate 64 (.int .u32 0)):=rfl
def zer64 :AV:=.agg (List.replicate 64 (.int .u32 0))
theorem zem :zer64.refs=[]:=by kernel_rfl
theorem zxf (b:List UInt8)(t:Nat):∀i,t<=i->(zbq b t).getD i 0=0:=by
 induction t with
 | zero=>intro i _;rw[zbq,wB,List.getElem?_replicate];split<;>rfl
 | succ t ih =>
   intro i hi
   rw[zbq,wB,List.getElem?_set_ne (by omega),<-wB]
   exact ih i (by omega)
def accW (b:List UInt8)(t:Nat):Nat->BitVec 32
 | 0=>0#32
 | j+1=>accW b t j<<<(8:Nat)|||bt b (4*t+j)
theorem zno (a b:BitVec 32)(n:Nat):(a|||b)<<<n=a<<<n|||b<<<n:=by
 apply BitVec.eq_of_getLsbD_eq;intro i hi
 simp only[BitVec.getLsbD_shiftLeft,BitVec.getLsbD_or]
 cases decide (i<n)<;>simp[hi]
theorem qj0 (b:List UInt8)(t:Nat):accW b t 4=word b t:=by
 simp only[accW,word,Nat.add_zero]
 rw[zno,zno,zno,zno,zno,zno,<-wF,<-wF,<-wF]
 simp
theorem bytesAV_getD {l:List UInt8}{i:Nat}(h:i<l.length):(zad l)[i]? =some (.int .u8 ((l.getD i 0).toBitVec.toNat:Int)):=by
 rw[zil h,wB,wC h];rfl
def S51 (nb:Bool)(b:List UInt8)(t:Nat):St :=
 ⟨[.set 11 (.int .i64 t),.set 3 (.ptr 3 []),.set 2 (.ptr 2 []),.set 0 (.lst nb .sc (zad b))],[(3,.fix (.ar 64 .sc) (.agg (wsAV (zbq b t)))),(2,.fix (.ar 64 .sc) zer64)]⟩
def blkW (b:List UInt8)(t:Nat):List AV:=List.drop (4*t) (List.take (4*t+4) (zad b))
theorem zwy {b:List UInt8}(hb:b.length=64){t:Nat}(ht:t<16):(blkW b t).length=4:=by
 rw[blkW,List.length_drop,List.length_take,zae,hb];omega
theorem z86 {b:List UInt8}(hb:b.length=64){t j:Nat}(ht:t<16)(hj:j<4):(blkW b t)[j]? =some (.int .u8 ((b.getD (4*t+j) 0).toBitVec.toNat:Int)):=by
 rw[blkW,List.getElem?_drop,List.getElem?_take_of_lt (by omega),bytesAV_getD (by omega)]
def S51b (nb:Bool)(b:List UInt8)(t j:Nat):St :=
 ⟨[.set 24 (.int .i64 j),.set 23 (.int .i64 4),.set 22 (.lst (nb&&4*t==60) .sc (blkW b t)),.set 11 (.int .i64 t),.set 4 (.int .i64 t),.set 3 (.ptr 3 []),.set 2 (.ptr 2 []),.set 0 (.lst nb .sc (zad b))],
  [(3,.fix (.ar 64 .sc) (.agg (wsAV ((zbq b t).set t (accW b t j))))),(2,.fix (.ar 64 .sc) zer64)]⟩
theorem set_self (l:Ws)(i:Nat)(h:l.getD i 0=0):l.set i 0#32=l:=by
 apply List.ext_getElem?
 intro j
 rw[List.getElem?_set]
 split
 . rename_i e;subst e
   split
   . rename_i hl
     rw[wB,wC hl]at h
     rw[wC hl];congr 1;exact h.symm
   . rename_i hl;rw[List.getElem?_eq_none (by omega)]
 . rfl
theorem qb5 (l:Ws)(t:Nat)(x:BitVec 32)(h:t<l.length):(l.set t x).getD t 0=x:=by
 rw[wB,List.getElem?_set_self h];rfl
theorem z5q (d:Nat)(nb:Bool)(b:List UInt8)(hb:b.length=64):call gl tab (d+2) 126 [.lst nb .sc (zad b)] []=some (.agg (wsAV (zbq b 64)),[],[]):=by
 have hz:AV.agg (List.replicate 64 (.int .u32 0))=zer64:=rfl
 rw[zaf (fd:=z71) rfl]
 simp only[z71,m126,hz,go_sem,simprocAttr,↓Nat.reduceEqDiff]
 rw[zaj (S51 nb b) 64 (by unfold LF;omega)]
 . simp only[S51,go_sem,simprocAttr,↓Nat.reduceEqDiff,zca,za4,zu1]
 . simp only[S51,qgp,zer64,go_sem,simprocAttr,↓Nat.reduceEqDiff]
 . intro t ht
   by_cases h16:t<16
   . have hw1:IntKind.wrap .i64 (4*(t:Int))=((4*t:Nat):Int):=by rw[zay (by omega) (by omega)];omega
     have hw2:IntKind.wrap .i64 (((4*t:Nat):Int)+4)=((4*t+4:Nat):Int):=by rw[zay (by omega) (by omega)];omega
     have hle:4*t+4<=64:=by omega
     have hsub:4*t+4-4*t=4:=by omega
     have hbl:List.drop (4*t) (List.take (4*t+4) (zad b))=blkW b t:=rfl
     simp only[S51,go_sem,simprocAttr,↓Nat.reduceEqDiff,ht,h16,hw1,hw2,zae,hb,hle,Nat.le_add_right,hsub,hbl,zwy hb h16]
     rw[zaj (S51b nb b t) 4 (by unfold LF;omega)]
     . simp only[S51b,go_sem,simprocAttr,↓Nat.reduceEqDiff,zem,qj0,zdz (show t<2^62 by omega),zbq,h16]
     . have h0:(zbq b t).set t (accW b t 0)=zbq b t:=set_self _ _ (zxf b t t (by omega))
       simp only[S51b,go_sem,simprocAttr,↓Nat.reduceEqDiff,zem,h0,Bool.and_false]
     . intro j hj
       have gt:=zcm (l:=(zbq b t).set t (accW b t j)) (i:=t) (by rw[wD,za4];omega)
       rw[qb5 _ _ _ (by rw[za4];omega),zin]at gt
       have hss:(zbq b t).set t (accW b t (j+1))=((zbq b t).set t (accW b t j)).set t (accW b t (j+1)):=by rw[List.set_set]
       rw[show S51b nb b t (j+1)=⟨(S51b nb b t (j+1)).fr,[(3,.fix (.ar 64 .sc) (.agg (wsAV (((zbq b t).set t (accW b t j)).set t (accW b t (j+1)))))),(2,.fix (.ar 64 .sc) zer64)]⟩ by rw[<-hss];rfl]
       simp only[S51b,go_sem,simprocAttr,↓Nat.reduceEqDiff,zem,hj,ht,zwy hb h16,z86 hb h16 hj,gt,zin,wD,zca,za4,accW,bt,zdz (show j<2^62 by omega)]
     . simp only[S51b,go_sem,simprocAttr,↓Nat.reduceEqDiff]
   . have h15:IntKind.wrap .i64 ((t:Int)-15)=((t-15:Nat):Int):=by rw[zay (by omega) (by omega)];omega
     have h2:IntKind.wrap .i64 ((t:Int)-2)=((t-2:Nat):Int):=by rw[zay (by omega) (by omega)];omega
     have h7:IntKind.wrap .i64 ((t:Int)-7)=((t-7:Nat):Int):=by rw[zay (by omega) (by omega)];omega
     have h6:IntKind.wrap .i64 ((t:Int)-16)=((t-16:Nat):Int):=by rw[zay (by omega) (by omega)];omega
     have g15:=zcm (l:=zbq b t) (i:=t-15) (by rw[za4];omega)
     have g2:=zcm (l:=zbq b t) (i:=t-2) (by rw[za4];omega)
     have g7:=zcm (l:=zbq b t) (i:=t-7) (by rw[za4];omega)
     have g6:=zcm (l:=zbq b t) (i:=t-16) (by rw[za4];omega)
     have gt:=zcm (l:=zbq b t) (i:=t) (by rw[za4];omega)
     simp only[S51,go_sem,simprocAttr,↓Nat.reduceEqDiff,zem,gt,ht,h16,h15,h2,h7,h6,g15,g2,g7,g6,zca,za4,show t-15<64 by omega,show t-2<64 by omega,show t-7<64 by omega,show t-16<64 by omega,rot7,qkl,qkm,qkk,zdz (show t<2^62 by omega),zbq,zin,qc1]
 . simp only[S51,go_sem,simprocAttr,↓Nat.reduceEqDiff]
end Go.Proofs.S97.H
