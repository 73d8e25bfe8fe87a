/-
  Integers and texts as bytes. No condition.
-/
import Derived.Test.YtjenmopgcpnklaaDoorW30G7x5
set_option linter.unusedVariables false
set_option linter.unusedSimpArgs false
set_option linter.unusedSectionVars false
namespace Go.Proofs.S30.H
open Go Go.Ev Go.Proofs Go.Proofs.S30
variable {gl :Gl}
def vb (z:Nat):UInt8:=ub (BitVec.ofNat 8 (z%128+128))
def ve (z:Nat):UInt8:=ub (BitVec.ofNat 8 z)
def vintF :Nat->Nat->List UInt8
 | 0,z=>[ve z]
 | f+1,z=>if z<128 then [ve z]else vb z::vintF f (z/128)
def vint (z:Nat):List UInt8:=vintF 9 z
def vpre (z:Nat):Nat->List UInt8
 | 0=>[]
 | k+1=>vpre z k++[vb (z/128^k)]
theorem vpre_len (z k:Nat):(vpre z k).length=k:=by
 induction k with
 | zero=>rfl
 | succ k ih=>rw[vpre,List.length_append,ih];rfl
theorem vpre_join (z:Nat):∀k f,(∀j,j<k->128<=z/128^j)->vpre z k++vintF f (z/128^k)=vintF (f+k) z
 | 0,f,_=>by simp[vpre]
 | k+1,f,h=>by
   have hk:=h k (by omega)
   have ih:=vpre_join z k (f+1) fun j hj=>h j (by omega)
   have e:vintF (f+1) (z/128^k)=vb (z/128^k)::vintF f (z/128^(k+1)):=by
    rw[vintF,if_neg (by omega),Nat.div_div_eq_div_mul,Nat.pow_succ]
   rw[vpre,List.append_assoc,List.singleton_append,<-e,ih]
   congr 1;omega
theorem vint_end (z k:Nat)(hk:k<=9)(h:∀j,j<k->128<=z/128^j)(he:z/128^k<128):vpre z k++[ve (z/128^k)]=vint z:=by
 have:=vpre_join z k (9-k) h
 rw[show 9-k+k=9 by omega]at this
 rw[vint,<-this]
 congr 1
 cases hf:9-k with
 | zero=>rfl
 | succ f=>rw[vintF,if_pos he]
def zzN (n:Int):Nat:=if n<0 then(2*(-1-n)+1).toNat else(2*n).toNat
theorem zzN_lt {n:Int}(h:-9223372036854775808<=n/\n<=9223372036854775807):zzN n<2^64:=by unfold zzN;split<;>omega
theorem zz_bv (x:BitVec 64):(x<<<(1:Nat)^^^x.sshiftRight 63).toNat=zzN x.toInt:=by
 have hx:=x.isLt
 cases hm:x.msb with
 | false =>
   have h1:x.sshiftRight 63=0#64:=by
    rw[BitVec.sshiftRight_eq_of_msb_false hm]
    apply BitVec.eq_of_toNat_eq
    have:=BitVec.msb_eq_false_iff_two_mul_lt.1 hm
    rw[BitVec.toNat_ushiftRight,Nat.shiftRight_eq_div_pow,BitVec.toNat_ofNat]
    omega
   have h2:=BitVec.msb_eq_false_iff_two_mul_lt.1 hm
   rw[h1,BitVec.xor_zero,BitVec.toNat_shiftLeft,BitVec.toInt_eq_toNat_of_msb hm,Nat.shiftLeft_eq]
   unfold zzN
   rw[if_neg (by omega)]
   omega
 | true =>
   have h2:=BitVec.msb_eq_true_iff_two_mul_ge.1 hm
   have h1:x.sshiftRight 63=BitVec.allOnes 64:=by
    rw[BitVec.sshiftRight_eq_of_msb_true hm]
    have h0: ~~~x>>>(63:Nat)=0#64:=by
     apply BitVec.eq_of_toNat_eq
     rw[BitVec.toNat_ushiftRight,Nat.shiftRight_eq_div_pow,BitVec.toNat_not,BitVec.toNat_ofNat]
     omega
    rw[h0];decide
   have h3:x.toInt=(x.toNat:Int)-18446744073709551616:=by rw[BitVec.toInt_eq_msb_cond,hm];rfl
   rw[h1,BitVec.xor_allOnes,BitVec.toNat_not,BitVec.toNat_shiftLeft,h3,Nat.shiftLeft_eq]
   unfold zzN
   rw[if_pos (by omega)]
   omega
theorem or128 :∀b:BitVec 8,b|||128#8=BitVec.ofNat 8 (b.toNat%128+128):=by decide +kernel
theorem vb_or (y:BitVec 64):(y.setWidth 8|||128#8)=BitVec.ofNat 8 (y.toNat%128+128):=by
 rw[or128,BitVec.toNat_setWidth];congr 2;omega
theorem sh_div (x:BitVec 64)(k:Nat):(x>>>(7*k)).toNat=x.toNat/128^k:=by
 rw[BitVec.toNat_ushiftRight,Nat.shiftRight_eq_div_pow,Nat.pow_mul]
theorem pow9 {z:Nat}(h:z<2^64):z/128^9<128:=by
 have:(128:Nat)^9=9223372036854775808:=by decide
 rw[this];omega
def zint (n:Int):List UInt8:=vint (zzN n)
theorem vintF_len :∀f z,1<=(vintF f z).length/\(vintF f z).length<=f+1
 | 0,z=>by simp[vintF]
 | f+1,z=>by
   have:=vintF_len f (z/128)
   rw[vintF];split
   . simp
   . simp only[List.length_cons];omega
theorem zint_len (n:Int):1<=(zint n).length/\(zint n).length<=10:=vintF_len 9 _
def S53 (x:BitVec 64)(k:Nat):St :=
 ⟨[.set 4 (.sl 5004 [] 0 k),.set 3 (u64 (x>>>(7*k)))],[(5004,.grow .sc (bytesAV (vpre x.toNat k)))]⟩
theorem int53_ok (d:Nat)(n:Int)(h:-9223372036854775808<=n/\n<=9223372036854775807):call gl tab (d+1) 93 [.int .i64 n] []=some (.sl 20000 [] 0 (zint n).length,[],[.grow .sc (bytesAV (zint n))]):=by
 have hz:=zzN_lt h
 obtain⟨x,rfl⟩:=int_bv h.1 h.2
 have hzz:=zz_bv x
 rw[call_go (fd:=fd93) rfl]
 simp(disch:=((fail_if_success (intro _));omega)) only[go_sem,simprocAttr,↓reduceIte,↓Nat.reduceEqDiff,xx,fd93,m93,shr_i64]
 generalize hy:x<<<(1:Nat)^^^x.sshiftRight 63=y at *
 have hyz:zint x.toInt=vint y.toNat:=by rw[zint,hzz]
 rw[hyz]
 rw[<-hzz]at hz
 rw[iter_fst (S53 y) 9 (fun k=>128<=y.toNat/128^k) (by unfold LF;omega)]
 . obtain⟨hk,hlt,hge⟩:=fst_spec (fun k=>128<=y.toNat/128^k) 9
   generalize fstN _ _=k at *
   have he:y.toNat/128^k<128:=by
    by_cases hn:k<9
    . have:=hge hn;omega
    . have:k=9:=by omega
      subst this;exact pow9 hz
   have hv:=vint_end y.toNat k hk hlt he
   have hs:=sh_div y k
   have hvl:(vint y.toNat).length=k+1:=by rw[<-hv,List.length_append,vpre_len];rfl
   have hb:bytesAV (vint y.toNat)=bytesAV (vpre y.toNat k)++[.int .u8 (((y>>>(7*k)).setWidth 8).toNat:Int)]:=by
    rw[<-hv,bytesAV_append]
    congr 1
    have e:(y>>>(7*k)).setWidth 8=BitVec.ofNat 8 (y.toNat/128^k):=by
     apply BitVec.eq_of_toNat_eq;rw[BitVec.toNat_setWidth,hs,BitVec.toNat_ofNat]
    rw[e];rfl
   clear hlt hge hy hzz
   rw[hb,hvl]
   have h127:(y>>>(7*k)).toNat<128:=by omega
   simp(disch:=((fail_if_success (intro _));omega)) only[go_sem,simprocAttr,↓reduceIte,↓Nat.reduceEqDiff,xx,S53,bytesAV_length,vpre_len,lim_of (show k<2^36 by omega)]
 . simp(disch:=((fail_if_success (intro _));omega)) only[go_sem,simprocAttr,↓reduceIte,↓Nat.reduceEqDiff,xx,S53];rfl
 . intro k hk hp
   have hs:=sh_div y k
   have e:y>>>(7*(k+1))=y>>>(7*k)>>>(7:Nat):=by rw[<-BitVec.shiftRight_add,show 7*(k+1)=7*k+7 by omega]
   have hb:bytesAV (vpre y.toNat (k+1))=bytesAV (vpre y.toNat k)++[.int .u8 (((y>>>(7*k)).setWidth 8|||128#8).toNat:Int)]:=by
    rw[vpre,bytesAV_append,vb_or,hs];rfl
   clear hy hzz
   unfold S53
   rw[hb,e]
   have h127:128<=(y>>>(7*k)).toNat:=by omega
   simp(disch:=((fail_if_success (intro _));omega)) only[go_sem,simprocAttr,↓reduceIte,↓Nat.reduceEqDiff,xx,bytesAV_length,vpre_len,lim_of (show k<2^36 by omega)]
 . intro k hk hp
   have hs:=sh_div y k
   have h127:(y>>>(7*k)).toNat<128:=by omega
   clear hy hzz
   simp(disch:=((fail_if_success (intro _));omega)) only[go_sem,simprocAttr,↓reduceIte,↓Nat.reduceEqDiff,xx,S53]
 . have hs:=sh_div y 9
   have h9:=pow9 hz
   have h127:(y>>>(7*9)).toNat<128:=by omega
   clear hy hzz
   unfold S53
   generalize y>>>(7*9)=u at *
   simp(disch:=((fail_if_success (intro _));omega)) only[go_sem,simprocAttr,↓reduceIte,↓Nat.reduceEqDiff,xx]
end Go.Proofs.S30.H
namespace Go.Proofs.S30.H
open Go Go.Ev Go.Proofs Go.Proofs.S30
variable {gl :Gl}
theorem remu128 (a:Nat):binInt .rem .u64 (a:Int) 128=some (.int .u64 ((a%128:Nat):Int)):=by
 have h8:¬((128:Int)=0):=by decide
 simp only[binInt,h8,if_false];rfl
theorem quou128 (a:Nat)(h:a<2^64):binInt .quo .u64 (a:Int) 128=some (.int .u64 ((a/128:Nat):Int)):=by
 have h8:¬((128:Int)=0):=by decide
 simp only[binInt,h8,if_false,wrap_u64]
 have e:(a:Int).tdiv 128=((a/128:Nat):Int):=rfl
 rw[e,BitVec.ofInt_natCast,BitVec.toNat_ofNat,Nat.mod_eq_of_lt (by omega)]
theorem zz_pos {n:Int}(h:0<=n/\n<=9223372036854775807):(BitVec.ofInt 64 n*2#64).toNat=zzN n:=by
 unfold zzN
 rw[if_neg (by omega),BitVec.toNat_mul,BitVec.toNat_ofInt]
 simp only[BitVec.toNat_ofNat]
 omega
theorem zz_neg {n:Int}(h:-9223372036854775808<=n/\n<0):(BitVec.ofInt 64 (-1-n)*2#64+1#64).toNat=zzN n:=by
 unfold zzN
 rw[if_pos (by omega),BitVec.toNat_add,BitVec.toNat_mul,BitVec.toNat_ofInt]
 simp only[BitVec.toNat_ofNat]
 omega
def S54 (z:Nat)(k:Nat):St :=
 ⟨[.set 4 (.sl 5004 [] 0 k),.set 3 (.int .u64 ((z/128^k:Nat):Int))],[(5004,.grow .sc (bytesAV (vpre z k)))]⟩
def L54 :MC:=match m96 with
 | .seq _ (.seq _ (.seq _ (.seq _ (.seq (.block _ (.loop _ b)) _))))=>b
 | _=>.skip
def K54 :List Kp:=[.slot 3,.own 4 5004 .sc]
theorem loop54 (F:Ev.Cl)(z:Nat)(hz:z<2^64) :
  ∃k,k<=9/\z/128^k<128/\bytesAV (vint z)=bytesAV (vpre z k)++[.int .u8 ((BitVec.ofNat 8 (z/128^k)).toNat:Int)]/\(vint z).length=k+1/\∀st,clean K54 st=some (S54 z 0)->iter (evC gl F L54) K54 LF st=evC gl F L54 (S54 z k):=by
 have main:=fun st h0=>iter_fst (f:=evC gl F L54) (ks:=K54) (st:=st) (S54 z) 9 (fun k=>128<=z/128^k) (by unfold LF;omega) h0 ?_ ?_ ?_
 . obtain⟨hk,hlt,hge⟩:=fst_spec (fun k=>128<=z/128^k) 9
   generalize fstN _ _=k at *
   have he:z/128^k<128:=by
    by_cases hn:k<9
    . have:=hge hn;omega
    . have:k=9:=by omega
      subst this;exact pow9 hz
   have hv:=vint_end z k hk hlt he
   refine⟨k,hk,he,?_,?_,main⟩
   . rw[<-hv,bytesAV_append];rfl
   . rw[<-hv,List.length_append,vpre_len];rfl
 . intro k hk hp
   have hlt:z/128^k<2^64:=Nat.lt_of_le_of_lt (Nat.div_le_self _ _) hz
   have hb:bytesAV (vpre z (k+1))=bytesAV (vpre z k)++[.int .u8 ((BitVec.ofNat 8 (z/128^k%128)+128#8).toNat:Int)]:=by
    rw[vpre,bytesAV_append,<-BitVec.ofNat_add];rfl
   have e:z/128^(k+1)=z/128^k/128:=by rw[Nat.div_div_eq_div_mul,Nat.pow_succ]
   have hl:=vpre_len z k
   unfold S54
   rw[hb,e]
   generalize z/128^k=y at *
   simp(disch:=((fail_if_success (intro _));omega)) only[go_sem,simprocAttr,↓reduceIte,↓Nat.reduceEqDiff,xx,L54,m96,K54,remu128,quou128 y hlt,bytesAV_length,hl,lim_of (show k<2^36 by omega)]
 . intro k hk hp
   unfold S54
   generalize z/128^k=y at *
   simp(disch:=((fail_if_success (intro _));omega)) only[go_sem,simprocAttr,↓reduceIte,↓Nat.reduceEqDiff,xx,L54,m96]
 . have h9:=pow9 hz
   unfold S54
   generalize z/128^9=y at *
   simp(disch:=((fail_if_success (intro _));omega)) only[go_sem,simprocAttr,↓reduceIte,↓Nat.reduceEqDiff,xx,L54,m96]
theorem int54_ok (d:Nat)(n:Int)(h:-9223372036854775808<=n/\n<=9223372036854775807):call gl tab (d+1) 96 [.int .i64 n] []=some (.sl 20000 [] 0 (zint n).length,[],[.grow .sc (bytesAV (zint n))]):=by
 have hz:=zzN_lt h
 rw[call_go (fd:=fd96) rfl]
 obtain⟨k,hk,he,hb,hl,e⟩:=loop54 (gl:=gl) (call gl tab d) (zzN n) hz
 simp only[L54,m96,K54]at e
 by_cases hn:n<0
 . have h1:=zz_neg (n:=n) (by omega)
   simp(disch:=((fail_if_success (intro _));omega)) only[go_sem,simprocAttr,↓reduceIte,↓Nat.reduceEqDiff,xx,fd96,m96,h1]
   rw[e _ (by simp(disch:=((fail_if_success (intro _));omega)) only[go_sem,simprocAttr,↓reduceIte,↓Nat.reduceEqDiff,xx,S54,vpre,bytesAV,Nat.pow_zero,Nat.div_one]),zint,hb,hl]
   unfold S54
   have hvl:=vpre_len (zzN n) k
   generalize zzN n/128^k=y at *
   simp(disch:=((fail_if_success (intro _));omega)) only[go_sem,simprocAttr,↓reduceIte,↓Nat.reduceEqDiff,xx,bytesAV_length,hvl,lim_of (show k<2^36 by omega)]
 . have h1:=zz_pos (n:=n) (by omega)
   simp(disch:=((fail_if_success (intro _));omega)) only[go_sem,simprocAttr,↓reduceIte,↓Nat.reduceEqDiff,xx,fd96,m96,h1]
   rw[e _ (by simp(disch:=((fail_if_success (intro _));omega)) only[go_sem,simprocAttr,↓reduceIte,↓Nat.reduceEqDiff,xx,S54,vpre,bytesAV,Nat.pow_zero,Nat.div_one]),zint,hb,hl]
   unfold S54
   have hvl:=vpre_len (zzN n) k
   generalize zzN n/128^k=y at *
   simp(disch:=((fail_if_success (intro _));omega)) only[go_sem,simprocAttr,↓reduceIte,↓Nat.reduceEqDiff,xx,bytesAV_length,hvl,lim_of (show k<2^36 by omega)]
def encB (s:List UInt8):List UInt8:=zint s.length++s
theorem encB_len (s:List UInt8):(encB s).length<=s.length+10:=by have:=zint_len s.length;rw[encB,List.length_append];omega
theorem bytes48_ok (d:Nat)(s:List UInt8)(hs:s.length<2^35):call gl tab (d+2) 89 [.str s] []=some (.sl 20000 [] 0 (encB s).length,[],[.grow .sc (bytesAV (encB s))]):=by
 have h53:=int53_ok (gl:=gl) d (s.length:Int) (by omega)
 have hl:=zint_len s.length
 have hL:(zint (s.length:Int)).length+s.length<=LIM:=by unfold LIM;omega
 rw[call_go (fd:=fd89) rfl]
 unfold encB
 generalize zint (s.length:Int)=z at *
 simp(disch:=((fail_if_success (intro _));omega)) only[go_sem,simprocAttr,↓reduceIte,↓Nat.reduceEqDiff,xx,fd89,m89,h53,bytesAV_length,hL,bytesAV_append]
theorem bytes50_ok (d:Nat)(s:List UInt8)(hs:s.length<2^35):call gl tab (d+2) 95 [.str s] []=some (.sl 20000 [] 0 (encB s).length,[],[.grow .sc (bytesAV (encB s))]):=by
 have h54:=int54_ok (gl:=gl) d (s.length:Int) (by omega)
 have hl:=zint_len s.length
 have hL:(zint (s.length:Int)).length+s.length<=LIM:=by unfold LIM;omega
 rw[call_go (fd:=fd95) rfl]
 unfold encB
 generalize zint (s.length:Int)=z at *
 simp(disch:=((fail_if_success (intro _));omega)) only[go_sem,simprocAttr,↓reduceIte,↓Nat.reduceEqDiff,xx,fd95,m95,h54,bytesAV_length,hL,bytesAV_append]
end Go.Proofs.S30.H
