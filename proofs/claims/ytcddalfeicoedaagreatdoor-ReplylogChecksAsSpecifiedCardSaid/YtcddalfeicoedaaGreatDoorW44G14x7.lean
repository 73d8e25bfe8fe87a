/-
  Hash trees, in plain terms: peaks. No condition.
-/
import Derived.Test.YtcddalfeicoedaaGreatDoorW44G13x7
import Derived.Test.YtcddalfeicoedaaGreatDoorW44G6x7
import Derived.Test.YtcddalfeicoedaaGreatDoorEvY
set_option linter.unusedVariables false
set_option linter.unusedSimpArgs false
set_option linter.unusedSectionVars false
namespace Go.Mk
def pcn (n:Nat):Nat:=if h:n=0 then 0 else n%2+pcn (n/2)
def tr1 (n:Nat):Nat:=if h:n%2=1 then tr1 (n/2)+1 else 0
termination_by n
decreasing_by omega
theorem pcn_0 :pcn 0=0:=by rw[pcn,dif_pos rfl]
theorem pcn_s {n:Nat}(h:n≠0):pcn n=n%2+pcn (n/2):=by rw[pcn,dif_neg h]
theorem pcn_two (n:Nat):pcn n=n%2+pcn (n/2):=by
 by_cases h:n=0
 . subst h;simp[pcn_0]
 . exact pcn_s h
theorem tr1_o {n:Nat}(h:n%2=1):tr1 n=tr1 (n/2)+1:=by rw[tr1,dif_pos h]
theorem tr1_e {n:Nat}(h:n%2=0):tr1 n=0:=by rw[tr1,dif_neg (by omega)]
theorem tr1_le :∀(q n:Nat),n<=q->tr1 n<=pcn n
 | 0,n,h=>by
   obtain rfl:n=0:=by omega
   rw[tr1_e rfl];exact Nat.zero_le _
 | q+1,n,h=>by
   by_cases ho:n%2=1
   . rw[tr1_o ho,pcn_two,ho]
     have:=tr1_le q (n/2) (by omega)
     omega
   . rw[tr1_e (by omega)];exact Nat.zero_le _
section
variable {D :Type} (node:D->D->D) (emp:D)
def gp (n:Nat):Nat:=2^n.log2
theorem gp_pos (n:Nat):0<gp n:=Nat.two_pow_pos _
def pk (l:List D):List D :=
 if h:l.length=0 then []else rt node emp (l.take (gp l.length))::pk (l.drop (gp l.length))
termination_by l.length
decreasing_by
 have:=gp_pos l.length;rw[List.length_drop];omega
variable {node emp}
variable (node)
variable {node}
end
end Go.Mk
namespace Go.Proofs.S44.M
open Go Go.Ev Go.Proofs Go.Mk
open Go.Proofs.S44.H (GlK GlR)
variable {gl :Gl} {n:Nat}
abbrev i64 (n:Int):AV:=.int .i64 n
abbrev sB :Sh:=.ar 16 .sc
abbrev Dg :=List UInt8
abbrev bAV (b:Dg):AV:=.agg (zac b)
theorem b16 {b:Dg}(h:b.length=16):(zac b).length=16:=by rw[zaa];exact h
theorem b16t {b:Dg}(h:b.length=16):List.take 16 (zac b)=zac b:=List.take_of_length_le (by rw[b16 h];exact Nat.le_refl _)
theorem out16_eq :List.replicate 16 (AV.int .u8 0)=H.out16l:=rfl
def z16 :Dg:=List.replicate 16 0
theorem z16_av :H.out16l=zac z16:=rfl
def dgL (l:List Dg):List AV:=l.map fun x=>.agg (zac x)
def dgA (l:List Dg)(i:Nat):Dg:=l.getD i []
theorem dgL_length (l:List Dg):(dgL l).length=l.length:=by simp[dgL]
theorem dgL_at {l:List Dg}{i:Nat}(h:i<l.length):(dgL l)[i]? =some (.agg (zac (dgA l i))):=by simp[dgL,dgA,h]
theorem zg1 :dgL []=[]:=rfl
theorem dgL_app (l:List Dg)(d:Dg):dgL (l++[d])=dgL l++[.agg (zac d)]:=by simp[dgL]
theorem zga (l:List Dg)(k:Nat):List.take k (dgL l)=dgL (l.take k):=by simp[dgL,List.map_take]
theorem zhs (l:List Dg)(k:Nat):List.drop k (dgL l)=dgL (l.drop k):=by simp[dgL,List.map_drop]
theorem dgL_all (l:List Dg):List.take l.length (dgL l)=dgL l:=by rw[<-dgL_length];exact List.take_length
theorem zhr :∀(l:List Dg),zdy (dgL l)=true
 | []=>rfl
 | x::l=>by
   have:=zhr l
   rw[dgL,List.map_cons,zdy,<-dgL,this,zc5,H.noImms_bytesAV];rfl
def All16 (l:List Dg):Prop:=∀x∈l,x.length=16
theorem All16.at {l:List Dg}(h:All16 l){i:Nat}(hi:i<l.length):(dgA l i).length=16:=by
 rw[dgA,List.getD_eq_getElem?_getD,List.getElem?_eq_getElem hi];exact h _ (List.getElem_mem hi)
theorem All16.take {l:List Dg}(h:All16 l)(k:Nat):All16 (l.take k):=fun x hx=>h x (List.mem_of_mem_take hx)
theorem All16.drop {l:List Dg}(h:All16 l)(k:Nat):All16 (l.drop k):=fun x hx=>h x (List.mem_of_mem_drop hx)
theorem All16.one {d:Dg}(h:d.length=16):All16 [d]:=fun x hx=>by simp at hx;subst hx;exact h
theorem All16.nil :All16 []:=fun x hx=>by simp at hx
theorem eqB_all :∀(a b:List UInt8),a.length=b.length->eqAll ((zac a).zip (zac b)) (fun p=>eqAV .it p.1 p.2)=some (decide (a=b))
 | [],[],_=>rfl
 | x::a,y::b,h=>by
   have ih:=eqB_all a b (by simpa using h)
   simp only[zac,List.map_cons,List.zip_cons_cons,eqAll,eqAV,if_pos,Option.bind_some]
   simp only[zac]at ih
   rw[ih]
   by_cases e:x=y
   . subst e;simp
   . have:((x.toNat:Int)==(y.toNat:Int))=false:=by
      rw[beq_eq_false_iff_ne];intro h2
      exact e (UInt8.toNat_inj.1 (by omega))
     rw[this];simp[e]
 | [],_::_,h=>by simp at h
 | _::_,[],h=>by simp at h
theorem eqB {a b:Dg}(ha:a.length=16)(hb:b.length=16):eqAV (.ar 16 .it) (.agg (zac a)) (.agg (zac b))=some (decide (a=b)):=by
 have:=eqB_all a b (by omega)
 rw[eqAV,if_pos ⟨by rw[zaa];exact ha,by rw[zaa];exact hb⟩]
 exact this
def lf (s:List UInt8):Dg:=H.dig (H.inp 30 [s])
def nd (a b:Dg):Dg:=H.dig (H.inp 31 [a,b])
def em :Dg:=H.dig (H.inp 32 [])
theorem zex (s:List UInt8):(lf s).length=16:=H.dig_len _
theorem zcv (a b:Dg):(nd a b).length=16:=H.dig_len _
theorem em_len :em.length=16:=H.dig_len _
section
variable [Nonempty (GlK gl)]
theorem leaf_at (h:7<=n)(s:List UInt8)(hs:s.length<=1048576):call gl tab n 85 [.str s] []=some (bAV (lf s),[],[]):=by
 obtain⟨d,rfl⟩:=Nat.exists_eq_add_of_le' h
 have c:=@H.of_at gl _ (d+5) (by omega) 30 false [s] ⟨by simp,fun x hx=>by simp at hx;subst hx;exact hs⟩
 simp only[H.strsAV,List.map_cons,List.map_nil]at c
 rw[show H.dig (H.inp 30 [s])=lf s from rfl]at c
 have hl:=zex s
 have hb:=H.bytes_all (lf s)
 generalize lf s=q at *
 rw[zad (fd:=fd85) rfl]
 simp(disch:=(fail_if_success intro _);omega) only[go_sem,simprocAttr,↓Nat.reduceEqDiff,xx,fd85,m85,↓out16_eq,H.oo,c,hl,hb,H.noImms_bytesAV]
theorem zgq (h:7<=n){a b:Dg}(ha:a.length=16)(hb:b.length=16):call gl tab n 105 [bAV a,bAV b] []=some (bAV (nd a b),[],[]):=by
 obtain⟨d,rfl⟩:=Nat.exists_eq_add_of_le' h
 have c:=@H.of_at gl _ (d+5) (by omega) 31 false [a,b] ⟨by simp,fun x hx=>by simp at hx;rcases hx with rfl|rfl<;>omega⟩
 simp only[H.strsAV,List.map_cons,List.map_nil]at c
 rw[show H.dig (H.inp 31 [a,b])=nd a b from rfl]at c
 have hl:=zcv a b
 have hq:=H.bytes_all (nd a b)
 generalize nd a b=q at *
 have a1:=b16t ha
 have a2:=H.bytes_all a
 have b1:=b16t hb
 have b2:=H.bytes_all b
 rw[zad (fd:=fd105) rfl]
 simp(implicitDefEqProofs:=false) (disch:=(fail_if_success intro _);omega) only[go_sem,simprocAttr,↓Nat.reduceEqDiff,xx,fd105,m105,↓out16_eq,H.oo,c,hl,hq,ha,hb,a1,a2,b1,b2,H.noImms_bytesAV]
theorem empty_at (h:7<=n):call gl tab n 107 [] []=some (bAV em,[],[]):=by
 obtain⟨d,rfl⟩:=Nat.exists_eq_add_of_le' h
 have c:=fun f=>@H.of_at gl _ (d+5) (by omega) 32 f [] ⟨by simp,fun x hx=>by simp at hx⟩
 simp only[H.strsAV,List.map_nil]at c
 rw[show H.dig (H.inp 32 [])=em from rfl]at c
 have hl:=em_len
 have hb:=H.bytes_all em
 generalize em=q at *
 rw[zad (fd:=fd107) rfl]
 simp(disch:=(fail_if_success intro _);omega) only[go_sem,simprocAttr,↓Nat.reduceEqDiff,xx,fd107,m107,↓out16_eq,H.oo,c,hl,hb,H.noImms_bytesAV]
end
section
variable [Nonempty (GlR gl)]
theorem rleaf_at (h:7<=n)(s:List UInt8)(hs:s.length<=1048576):call gl tab n 79 [.str s] []=some (bAV (lf s),[],[]):=by
 obtain⟨d,rfl⟩:=Nat.exists_eq_add_of_le' h
 have c:=@H.rof_at gl _ (d+4) (by omega) 30 false [s] ⟨by simp,fun x hx=>by simp at hx;subst hx;exact hs⟩
 simp only[H.strsAV,List.map_cons,List.map_nil]at c
 rw[show H.dig (H.inp 30 [s])=lf s from rfl]at c
 have hl:=zex s
 have hb:=H.bytes_all (lf s)
 generalize lf s=q at *
 rw[zad (fd:=fd79) rfl]
 simp(disch:=(fail_if_success intro _);omega) only[go_sem,simprocAttr,↓Nat.reduceEqDiff,xx,fd79,m79,↓out16_eq,H.oo,c,hl,hb,H.noImms_bytesAV]
theorem zio (h:7<=n){a b:Dg}(ha:a.length=16)(hb:b.length=16):call gl tab n 101 [bAV a,bAV b] []=some (bAV (nd a b),[],[]):=by
 obtain⟨d,rfl⟩:=Nat.exists_eq_add_of_le' h
 have c:=@H.rof_at gl _ (d+4) (by omega) 31 false [a,b] ⟨by simp,fun x hx=>by simp at hx;rcases hx with rfl|rfl<;>omega⟩
 simp only[H.strsAV,List.map_cons,List.map_nil]at c
 rw[show H.dig (H.inp 31 [a,b])=nd a b from rfl]at c
 have hl:=zcv a b
 have hq:=H.bytes_all (nd a b)
 generalize nd a b=q at *
 have a1:=b16t ha
 have a2:=H.bytes_all a
 have b1:=b16t hb
 have b2:=H.bytes_all b
 rw[zad (fd:=fd101) rfl]
 simp(implicitDefEqProofs:=false) (disch:=(fail_if_success intro _);omega) only[go_sem,simprocAttr,↓Nat.reduceEqDiff,xx,fd101,m101,↓out16_eq,H.oo,c,hl,hq,ha,hb,a1,a2,b1,b2,H.noImms_bytesAV]
theorem rempty_at (h:7<=n):call gl tab n 99 [] []=some (bAV em,[],[]):=by
 obtain⟨d,rfl⟩:=Nat.exists_eq_add_of_le' h
 have c:=fun f=>@H.rof_at gl _ (d+4) (by omega) 32 f [] ⟨by simp,fun x hx=>by simp at hx⟩
 simp only[H.strsAV,List.map_nil]at c
 rw[show H.dig (H.inp 32 [])=em from rfl]at c
 have hl:=em_len
 have hb:=H.bytes_all em
 generalize em=q at *
 rw[zad (fd:=fd99) rfl]
 simp(disch:=(fail_if_success intro _);omega) only[go_sem,simprocAttr,↓Nat.reduceEqDiff,xx,fd99,m99,↓out16_eq,H.oo,c,hl,hb,H.noImms_bytesAV]
end
end Go.Proofs.S44.M
namespace Go.Proofs.S44.M
open Go Go.Ev Go.Proofs Go.Mk
variable {gl :Gl} {n:Nat}
def ln (x:Nat):Nat:=if x=0 then 0 else x.log2+1
theorem ln_div {x k:Nat}(h:2^k<=x):ln x=k+ln (x/2^k):=by
 have hp:=Nat.two_pow_pos k
 have h1:x/2^k≠0:=by have:=Nat.div_pos h hp;omega
 unfold ln
 rw[if_neg (by omega),if_neg h1]
 have e:x.log2=(x/2^k).log2+k:=by
  rw[Nat.log2_eq_iff (by omega)]
  have a1:=Nat.log2_self_le h1
  have a2:=@Nat.lt_log2_self (x/2^k)
  constructor
  . rw[Nat.pow_add]
    exact(Nat.le_div_iff_mul_le hp).1 a1
  . rw[show(x/2^k).log2+k+1=(x/2^k).log2+1+k by omega,Nat.pow_add]
    exact(Nat.div_lt_iff_lt_mul hp).1 a2
 omega
def lenT :List UInt8:=[0,1,2,2,3,3,3,3,4,4,4,4,4,4,4,4,5,5,5,5,5,5,5,5,5,5,5,5,5,5,5,5,6,6,6,6,6,6,6,6,6,6,6,6,6,6,6,6,6,6,6,6,6,6,6,6,6,6,6,6,6,6,6,6,7,7,7,7,7,7,7,7,7,7,7,7,7,7,7,7,7,7,7,7,7,7,7,7,7,7,7,7,7,7,7,7,7,7,7,7,7,7,7,7,7,7,7,7,7,7,7,7,7,7,7,7,7,7,7,7,7,7,7,7,7,7,7,7,8,8,8,8,8,8,8,8,8,8,8,8,8,8,8,8,8,8,8,8,8,8,8,8,8,8,8,8,8,8,8,8,8,8,8,8,8,8,8,8,8,8,8,8,8,8,8,8,8,8,8,8,8,8,8,8,8,8,8,8,8,8,8,8,8,8,8,8,8,8,8,8,8,8,8,8,8,8,8,8,8,8,8,8,8,8,8,8,8,8,8,8,8,8,8,8,8,8,8,8,8,8,8,8,8,8,8,8,8,8,8,8,8,8,8,8,8,8,8,8,8,8,8,8,8,8,8,8]
theorem zey :([0,1,2,2,3,3,3,3,4,4,4,4,4,4,4,4,5,5,5,5,5,5,5,5,5,5,5,5,5,5,5,5,6,6,6,6,6,6,6,6,6,6,6,6,6,6,6,6,6,6,6,6,6,6,6,6,6,6,6,6,6,6,6,6,7,7,7,7,7,7,7,7,7,7,7,7,7,7,7,7,7,7,7,7,7,7,7,7,7,7,7,7,7,7,7,7,7,7,7,7,7,7,7,7,7,7,7,7,7,7,7,7,7,7,7,7,7,7,7,7,7,7,7,7,7,7,7,7,8,8,8,8,8,8,8,8,8,8,8,8,8,8,8,8,8,8,8,8,8,8,8,8,8,8,8,8,8,8,8,8,8,8,8,8,8,8,8,8,8,8,8,8,8,8,8,8,8,8,8,8,8,8,8,8,8,8,8,8,8,8,8,8,8,8,8,8,8,8,8,8,8,8,8,8,8,8,8,8,8,8,8,8,8,8,8,8,8,8,8,8,8,8,8,8,8,8,8,8,8,8,8,8,8,8,8,8,8,8,8,8,8,8,8,8,8,8,8,8,8,8,8,8,8,8,8,8]:List UInt8)=lenT:=rfl
theorem lenT_at :∀j:Fin 256,lenT[j.val]? =some (UInt8.ofNat (ln j.val))/\ln j.val<=8:=by decide +kernel
set_option maxRecDepth 20000 in
set_option maxHeartbeats 1000000 in
theorem len64_at (h:1<=n)(x:BitVec 64):call gl tab n 166 [.int .u64 (x.toNat:Int)] []=some (i64 (ln x.toNat),[],[]):=by
 obtain⟨d,rfl⟩:=Nat.exists_eq_add_of_le' h
 have hx:=x.isLt
 have last:∀(y:BitVec 64),y.toNat<256->lenT[((y.setWidth 8).toNat)]? =some (UInt8.ofNat (ln y.toNat))/\(((UInt8.ofNat (ln y.toNat)).toNat:Nat):Int)=((ln y.toNat:Nat):Int)/\ln y.toNat<=8:=fun y hy=>by
  obtain⟨h1,h2⟩:=lenT_at ⟨y.toNat,hy⟩
  have e:(y.setWidth 8).toNat=y.toNat:=by rw[BitVec.toNat_setWidth];omega
  rw[e]
  refine⟨h1,?_,h2⟩
  rw[UInt8.toNat_ofNat']
  simp only at h2
  rw[Nat.mod_eq_of_lt (by omega)]
 have sh:∀(y:BitVec 64) (k:Nat),(y>>>k).toNat=y.toNat/2^k:=fun y k=>by rw[BitVec.toNat_ushiftRight,Nat.shiftRight_eq_div_pow]
 have cc:∀(a b c:Nat),a+b=c->x>>>a>>>b=x>>>c:=fun a b c e=>by rw[<-e,BitVec.shiftRight_add]
 have sh0:(x>>>(0:Nat)).toNat=x.toNat:=by simp
 rw[zad (fd:=fd166) rfl]
 by_cases h1:4294967296<=x.toNat
 . have s1:(x>>>(32:Nat)).toNat=x.toNat/2^32:=by rw[sh]
   have l1:=ln_div (x:=x.toNat) (k:=32) h1
   rw[<-s1]at l1
   by_cases h2:65536<=(x>>>(32:Nat)).toNat
   . have s2:(x>>>(48:Nat)).toNat=(x>>>(32:Nat)).toNat/2^16:=by rw[<-cc 32 16 48 rfl,sh]
     have l2:=ln_div (x:=(x>>>(32:Nat)).toNat) (k:=16) h2
     rw[<-s2]at l2
     by_cases h3:256<=(x>>>(48:Nat)).toNat
     . have s3:(x>>>(56:Nat)).toNat=(x>>>(48:Nat)).toNat/2^8:=by rw[<-cc 48 8 56 rfl,sh]
       have l3:=ln_div (x:=(x>>>(48:Nat)).toNat) (k:=8) h3
       rw[<-s3]at l3
       obtain⟨t1,t2,t3⟩:=last (x>>>(56:Nat)) (by omega)
       rw[l1,l2,l3]
       simp(disch:=(fail_if_success intro _);omega) only[go_sem,simprocAttr,↓Nat.reduceEqDiff,xx,fd166,m166,↓zey,t1,t2,Int.zero_add]
       refine congrArg (fun z:Int=>some (AV.int .i64 z,([]:List (Nat×OB)),[])) ?_
       omega
     . skip
       obtain⟨t1,t2,t3⟩:=last (x>>>(48:Nat)) (by omega)
       rw[l1,l2]
       simp(disch:=(fail_if_success intro _);omega) only[go_sem,simprocAttr,↓Nat.reduceEqDiff,xx,fd166,m166,↓zey,t1,t2,Int.zero_add]
       refine congrArg (fun z:Int=>some (AV.int .i64 z,([]:List (Nat×OB)),[])) ?_
       omega
   . skip
     by_cases h3:256<=(x>>>(32:Nat)).toNat
     . have s2:(x>>>(40:Nat)).toNat=(x>>>(32:Nat)).toNat/2^8:=by rw[<-cc 32 8 40 rfl,sh]
       have l2:=ln_div (x:=(x>>>(32:Nat)).toNat) (k:=8) h3
       rw[<-s2]at l2
       obtain⟨t1,t2,t3⟩:=last (x>>>(40:Nat)) (by omega)
       rw[l1,l2]
       simp(disch:=(fail_if_success intro _);omega) only[go_sem,simprocAttr,↓Nat.reduceEqDiff,xx,fd166,m166,↓zey,t1,t2,Int.zero_add]
       refine congrArg (fun z:Int=>some (AV.int .i64 z,([]:List (Nat×OB)),[])) ?_
       omega
     . skip
       obtain⟨t1,t2,t3⟩:=last (x>>>(32:Nat)) (by omega)
       rw[l1]
       simp(disch:=(fail_if_success intro _);omega) only[go_sem,simprocAttr,↓Nat.reduceEqDiff,xx,fd166,m166,↓zey,t1,t2,Int.zero_add]
 . skip
   by_cases h2:65536<=x.toNat
   . have s1:(x>>>(16:Nat)).toNat=x.toNat/2^16:=by rw[sh]
     have l1:=ln_div (x:=x.toNat) (k:=16) h2
     rw[<-s1]at l1
     by_cases h3:256<=(x>>>(16:Nat)).toNat
     . have s2:(x>>>(24:Nat)).toNat=(x>>>(16:Nat)).toNat/2^8:=by rw[<-cc 16 8 24 rfl,sh]
       have l2:=ln_div (x:=(x>>>(16:Nat)).toNat) (k:=8) h3
       rw[<-s2]at l2
       obtain⟨t1,t2,t3⟩:=last (x>>>(24:Nat)) (by omega)
       rw[l1,l2]
       simp(disch:=(fail_if_success intro _);omega) only[go_sem,simprocAttr,↓Nat.reduceEqDiff,xx,fd166,m166,↓zey,t1,t2,Int.zero_add]
       refine congrArg (fun z:Int=>some (AV.int .i64 z,([]:List (Nat×OB)),[])) ?_
       omega
     . skip
       obtain⟨t1,t2,t3⟩:=last (x>>>(16:Nat)) (by omega)
       rw[l1]
       simp(disch:=(fail_if_success intro _);omega) only[go_sem,simprocAttr,↓Nat.reduceEqDiff,xx,fd166,m166,↓zey,t1,t2,Int.zero_add]
   . skip
     by_cases h3:256<=x.toNat
     . have s1:(x>>>(8:Nat)).toNat=x.toNat/2^8:=by rw[sh]
       have l1:=ln_div (x:=x.toNat) (k:=8) h3
       rw[<-s1]at l1
       obtain⟨t1,t2,t3⟩:=last (x>>>(8:Nat)) (by omega)
       rw[l1]
       simp(disch:=(fail_if_success intro _);omega) only[go_sem,simprocAttr,↓Nat.reduceEqDiff,xx,fd166,m166,↓zey,t1,t2,Int.zero_add]
     . skip
       obtain⟨t1,t2,t3⟩:=last x (by omega)
       simp(disch:=(fail_if_success intro _);omega) only[go_sem,simprocAttr,↓Nat.reduceEqDiff,xx,fd166,m166,↓zey,t1,t2,Int.zero_add]
theorem len_at (h:2<=n)(x:BitVec 64):call gl tab n 148 [.int .u64 (x.toNat:Int)] []=some (i64 (ln x.toNat),[],[]):=by
 obtain⟨d,rfl⟩:=Nat.exists_eq_add_of_le' h
 have c:=@len64_at gl (d+1) (by omega) x
 rw[zad (fd:=fd148) rfl]
 simp(disch:=(fail_if_success intro _);omega) only[go_sem,simprocAttr,↓Nat.reduceEqDiff,xx,fd148,m148,c]
theorem zks (h:3<=n){m:Nat}(h2:2<=m)(hm:m<=4611686018427387904):call gl tab n 108 [i64 m] []=some (i64 (spl m),[],[]):=by
 obtain⟨d,rfl⟩:=Nat.exists_eq_add_of_le' h
 have e:(BitVec.ofInt 64 ((m:Int)-1)).toNat=m-1:=by
  rw[show((m:Int)-1)=((m-1:Nat):Int) by omega,BitVec.ofInt_natCast,BitVec.toNat_ofNat];omega
 have c:=@len_at gl (d+2) (by omega) (BitVec.ofInt 64 ((m:Int)-1))
 have hl:ln (BitVec.ofInt 64 ((m:Int)-1)).toNat=(m-1).log2+1:=by rw[e,ln,if_neg (by omega)]
 rw[hl]at c
 have hlt:(m-1).log2<62:=(Nat.log2_lt (by omega)).2 (by omega)
 have hs:=zdi h2
 have hsl:zbw .shl .i64 1 ((((m-1).log2:Nat):Int)+1-1)=some (i64 (spl m)):=by
  unfold zbw
  rw[if_neg (by omega),show((((m-1).log2:Nat):Int)+1-1).toNat=(m-1).log2 by omega,show min (m-1).log2 IntKind.i64.bits=(m-1).log2 from Nat.min_eq_left (by show _<=64;omega)]
  show some (AV.int .i64 (IntKind.i64.wrap (1*2^(m-1).log2)))=_
  have e2:(1:Int)*2^(m-1).log2=((spl m:Nat):Int):=by unfold spl;simp
  rw[e2,zaz (by omega) (by omega)]
 rw[zad (fd:=fd108) rfl]
 simp(disch:=(fail_if_success intro _);omega) only[go_sem,simprocAttr,↓Nat.reduceEqDiff,xx,fd108,m108,c,hsl]
end Go.Proofs.S44.M
