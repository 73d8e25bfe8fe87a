/-
  Chapter 3: peaks that grow. No condition.
-/
import Derived.Test.YtcddalfeicoedaaGreatDoorW44G19x5
import Derived.Test.YtcddalfeicoedaaGreatDoorW44G13x5
set_option linter.unusedVariables false
set_option linter.unusedSimpArgs false
set_option linter.unusedSectionVars false
namespace Go.Proofs.S44.M
open Go Go.Ev Go.Proofs Go.Mk
open Go.Proofs.S44.H (GlK GlR)
variable {gl :Gl} {n:Nat}
theorem Sd.drop {p:List Dg}{sh:Sh}(hs:Sd p sh sB)(k:Nat):Sd (p.drop k) sh sB:=by
 rcases hs with h|h
 . subst h;exact Or.inl (by simp)
 . exact Or.inr h
theorem clone_at (h:1<=n){f:Bool}{sh:Sh}{t:List Dg}(hl:t.length<=1000000)(hs:Sd t sh sB) :
  call gl tab n 106 [.lst f sh (dgL t)] []=some (.sl 20000 [] 0 t.length,[],[.grow sB (dgL t)]):=by
 obtain⟨d,rfl⟩:=Nat.exists_eq_add_of_le' h
 have h1:t.length<=LIM:=by unfold LIM;omega
 rw[call_giv (fd:=fd106) rfl rfl]
 rcases hs with rfl|rfl
 . simp[cloneG,dgL_nil]
 . simp[cloneG,dgL_length,h1,Sh.beq,Sh.beqs]
def grw (s:Nat)(t:List Dg)(leaf:Dg):List Dg:=t.take (t.length-tr1 s)++[bk (t.drop (t.length-tr1 s)) leaf]
theorem not_u (y:BitVec 64):BitVec.ofInt 64 (if IntKind.u64.signed=true then -1 else IntKind.u64.max)^^^y= ~~~ y:=by
 rw[show BitVec.ofInt 64 (if IntKind.u64.signed=true then -1 else IntKind.u64.max)=BitVec.allOnes 64 from by decide +kernel]
 exact BitVec.allOnes_xor
section
variable [Nonempty (GlK gl)] [Nonempty (GlB gl)]
theorem append_ok (h:14<=n){s:Nat}{f:Bool}{sh:Sh}{t:List Dg}{leaf:Dg}(hf:leaf.length=16)(hl:t.length<=1000000)(ha:All16 t)(hs:Sd t sh sB)(hz:s<1099511627776)(hF:Form s t) :
  call gl tab n 52 [pkAV s f sh t,bAV leaf] []=some (.tup [.agg [i64 (s+1:Nat),.lst false sB (dgL (grw s t leaf))],i64 0],[],[]):=by
 obtain⟨d,rfl⟩:=Nat.exists_eq_add_of_le' h
 have c:=@form_at gl (d+13) (by omega) s f sh t hl (by omega)
 rw[decide_eq_true hF]at c
 have hle:tr1 s<=t.length:=by have h1:=tr1_le s s (Nat.le_refl _);have h2:=hF.2.2;rw[Int.toNat_natCast]at h2;omega
 have l1:=b16t hf
 have l2:=H.bytes_all leaf
 have tz:=@trail_at gl (d+13) _ (by omega) s (by omega)
 have hL:=dgL_length t
 have hT:=dgL_all t
 have hs1:Sd (t.take (t.length-tr1 s)) sh sB:=by rcases hs with rfl|h0;exact Or.inl (by simp);exact Or.inr h0
 have hs2:Sd (t.drop (t.length-tr1 s)) sh sB:=hs.drop _
 have k1:=fun f'=>@clone_at gl (d+13) (by omega) f' sh (t.take (t.length-tr1 s)) (by rw[List.length_take];omega) hs1
 have b1:=fun f'=>@backward_at gl (d+13) (by omega) f' sh (t.drop (t.length-tr1 s))
 have b2:=fun f'=>@all72_280 gl (d+13) _ (by omega) f' sh (t.drop (t.length-tr1 s)) leaf (by rw[List.length_drop];omega) (ha.drop _) hf hs2
 have b3:=bk_len (t.drop (t.length-tr1 s)) hf
 have b4:=H.bytes_all (bk (t.drop (t.length-tr1 s)) leaf)
 have b5:=H.noImms_bytesAV (bk (t.drop (t.length-tr1 s)) leaf)
 have n1:=dgL_noImms (t.take (t.length-tr1 s))
 have hk:(t.take (t.length-tr1 s)).length=t.length-tr1 s:=by rw[List.length_take];omega
 have hkL:=dgL_length (t.take (t.length-tr1 s))
 have hkT:=dgL_all (t.take (t.length-tr1 s))
 rw[hk]at k1 hkL hkT
 rw[grw,dgL_app]
 have ej:(t.length:Int)-(tr1 s:Int)=((t.length-tr1 s:Nat):Int):=by omega
 have es:BitVec.ofInt 64 (s:Int)=BitVec.ofNat 64 s:=BitVec.ofInt_natCast ..
 have hlim:t.length+1<=LIM:=by unfold LIM;omega
 have hs':((s+1:Nat):Int)=(s:Int)+1:=by omega
 rw[hs']
 have hj:t.length-tr1 s<=t.length:=Nat.sub_le _ _
 have hcv:IntKind.wrap .u64 (s:Int)=(s:Int):=by rw[wrap_u64,BitVec.ofInt_natCast,BitVec.toNat_ofNat,Nat.mod_eq_of_lt (by omega)]
 simp only[<-dgL_take,<-dgL_drop]at k1 b1 b2 n1 hkL hkT ⊢
 clear hF hs1 hs2
 generalize tr1 s=j0 at *
 generalize bk (t.drop (t.length-j0)) leaf=q at *
 generalize hjj:t.length-j0=j at *
 have hT2:List.take (j+1) (List.take j (dgL t)++[AV.agg (bytesAV q)])=List.take j (dgL t)++[AV.agg (bytesAV q)]:=List.take_of_length_le (by simp[hkL])
 rcases hs with h0|h0
 . subst h0
   obtain rfl:j=0:=by simpa using hj
   obtain rfl:j0=0:=by simpa using hle
   simp only[dgL_nil,List.take_nil,List.drop_nil,List.nil_append,List.length_nil]at *
   replace c:call gl tab (d+13) 102 [.agg [i64 s,.lst f sh []]] []=some (.bool true,[],[]):=c
   show call gl tab (d+14) 52 [.agg [i64 s,.lst f sh []],bAV leaf] []=_
   rw[call_go (fd:=fd52) rfl]
   simp(maxSteps:=1000000) (disch:=((fail_if_success (intro _));omega)) only[go_sem,simprocAttr,↓reduceIte,↓Nat.reduceEqDiff,xx,fd52,m52,↓out16_eq,H.out16_len,H.out16_all,H.out16_pl,↓not_u64,c,hf,l1,l2,tz,es,k1,b1,b2,b3,b4,b5,n1,hT2,sB_size]
 . subst h0
   rw[call_go (fd:=fd52) rfl]
   simp(maxSteps:=1000000) (disch:=((fail_if_success (intro _));omega)) only[go_sem,simprocAttr,↓reduceIte,↓Nat.reduceEqDiff,xx,fd52,m52,↓out16_eq,H.out16_len,H.out16_all,H.out16_pl,↓not_u64,c,hf,l1,l2,not_u,tz,ej,es,hL,hT,k1,b1,b2,b3,b4,b5,n1,hkL,hkT,hT2,sB_size]
end
end Go.Proofs.S44.M
namespace Go.Proofs.S44.M
open Go Go.Ev Go.Proofs Go.Mk
end Go.Proofs.S44.M
namespace Go.Proofs.S44.M
open Go Go.Ev Go.Proofs Go.Mk
open Go.Proofs.S44.H (GlK GlR)
variable {gl :Gl} {n:Nat}
section
variable [Nonempty (GlR gl)]
abbrev zG :OB:=.fix (.st [.st [.sc,.sc],.sc]) (.agg [.agg [i64 0,nilA],i64 0])
def S30 (s:Nat)(f:Bool)(sh:Sh)(t:List Dg)(leaf:Dg)(i:Nat):St :=
 ⟨[.set 8 (i64 ((s/2^i:Nat):Int)),.set 7 (.ptr 7 []),.set 6 (.sl 5006 [] 0 (t.length-i)),.set 4 (.ptr 4 []),.set 2 (.ptr 2 [])],
   [(7,cD (bk (t.drop (t.length-i)) leaf)),(4,zG),(2,.fix (.st [.sc,.sc]) (pkAV s f sh t)),(5006,.grow sB (dgL (t.take (t.length-i))))]⟩
end
end Go.Proofs.S44.M
namespace Go.Proofs.S44.M
open Go Go.Ev Go.Proofs Go.Mk
open Go.Proofs.S44.H (GlK GlR)
variable {gl :Gl} {n:Nat}
end Go.Proofs.S44.M
namespace Go.Proofs.S44.L
open Go Go.Ev Go.Proofs Go.Proofs.S44
open Go.Proofs.S44.H (strsAV strsAV_length strsAV_get Sml GlK GlR zints Few64 nsI nsI_length zint zint_len encB encB_len bytesAV_append dig inp)
open Go.Proofs.S44.M (lf lf_len)
variable {gl :Gl} {n:Nat}
def leaf (x:Re):List UInt8:=lf (zstrs (reP x))
theorem leaf_len (x:Re):(leaf x).length=16:=lf_len _
theorem box_ok {x:Re}(hx:ReOk x):((bytesAV x.dat).length=16/\(bytesAV x.pol).length=16/\(bytesAV x.tk.sgn).length=16)/\(bytesAV x.sp.body).length=16/\(bytesAV x.sp.sgn).length=16/\(bytesAV x.le.sgn).length=16 :=
 ⟨⟨b16 hx.d,b16 hx.p,b16 hx.t.s⟩,b16 hx.s.r,b16 hx.s.s,b16 hx.l.s⟩
theorem leaf_at [Nonempty (GlK gl)](h:12<=n){x:Re}(r:ReR x)(s:ReS x):call gl tab n 28 [reAV x] []=some (bAV (leaf x),[],[]):=by
 obtain⟨d,rfl⟩:=Nat.exists_eq_add_of_le' h
 have hx:=s.ok r
 have c1:=@parts_at gl (d+11) (by omega) _ hx
 have c2:=@strings_ok gl (d+11) (by omega) false _ (reP_sml r s)
 have c3:=@M.leaf_at gl (d+11) _ (by omega) (zstrs (reP x)) (reZ_len r s)
 rw[show lf (zstrs (reP x))=leaf x from rfl]at c3
 obtain⟨⟨u1,u2,u3⟩,u4,u5,u6⟩:=box_ok hx
 have w1:=H.bytes_all x.dat
 have w2:=H.bytes_all x.pol
 have w3:=H.bytes_all x.tk.sgn
 have w4:=H.bytes_all x.sp.body
 have w5:=H.bytes_all x.sp.sgn
 have w6:=H.bytes_all x.le.sgn
 have l:=leaf_len x
 have q:=H.bytes_all (leaf x)
 have t:List.take (zstrs (reP x)).length (bytesAV (zstrs (reP x)))=bytesAV (zstrs (reP x)):=List.take_of_length_le (by rw[bytesAV_length];exact Nat.le_refl _)
 generalize leaf x=g at *
 generalize zstrs (reP x)=z at *
 rw[call_go (fd:=fd28) rfl]
 simp(disch:=((fail_if_success (intro _));omega)) only[go_sem,simprocAttr,↓reduceIte,↓Nat.reduceEqDiff,xx,fd28,m28,↓out16_eq,H.out16_len,H.out16_all,H.out16_pl,u1,u2,u3,u4,u5,u6,w1,w2,w3,w4,w5,w6,c1,c2,c3,l,q,t,bytesAV_length,H.noImms_bytesAV]
theorem leaf0_at [Nonempty (GlK gl)](h:12<=n){x:Re}(r:ReR x)(s:ReS x)(n1:x.hs=[])(n2:x.tk.cs=[])(n3:x.rl.tg=[])(n4:x.rl.vy=[]):call gl tab n 28 [reAV0 x] []=some (bAV (leaf x),[],[]):=by
 obtain⟨d,rfl⟩:=Nat.exists_eq_add_of_le' h
 have hx:=s.ok r
 have c1:=@parts0_at gl (d+11) (by omega) _ hx n1 n2 n3 n4
 have c2:=@strings_ok gl (d+11) (by omega) false _ (reP_sml r s)
 have c3:=@M.leaf_at gl (d+11) _ (by omega) (zstrs (reP x)) (reZ_len r s)
 rw[show lf (zstrs (reP x))=leaf x from rfl]at c3
 obtain⟨⟨u1,u2,u3⟩,u4,u5,u6⟩:=box_ok hx
 have w1:=H.bytes_all x.dat
 have w2:=H.bytes_all x.pol
 have w3:=H.bytes_all x.tk.sgn
 have w4:=H.bytes_all x.sp.body
 have w5:=H.bytes_all x.sp.sgn
 have w6:=H.bytes_all x.le.sgn
 have l:=leaf_len x
 have q:=H.bytes_all (leaf x)
 have t:List.take (zstrs (reP x)).length (bytesAV (zstrs (reP x)))=bytesAV (zstrs (reP x)):=List.take_of_length_le (by rw[bytesAV_length];exact Nat.le_refl _)
 generalize leaf x=g at *
 generalize zstrs (reP x)=z at *
 rw[call_go (fd:=fd28) rfl]
 simp(disch:=((fail_if_success (intro _));omega)) only[go_sem,simprocAttr,↓reduceIte,↓Nat.reduceEqDiff,xx,fd28,m28,↓out16_eq,H.out16_len,H.out16_all,H.out16_pl,u1,u2,u3,u4,u5,u6,w1,w2,w3,w4,w5,w6,c1,c2,c3,l,q,t,bytesAV_length,H.noImms_bytesAV]
theorem rleaf_at [Nonempty (GlR gl)](h:12<=n){x:Re}(r:ReR x)(s:ReS x):call gl tab n 26 [reAV x] []=some (bAV (leaf x),[],[]):=by
 obtain⟨d,rfl⟩:=Nat.exists_eq_add_of_le' h
 have hx:=s.ok r
 have c1:=@rparts_at gl (d+11) (by omega) _ hx
 have c2:=@list_at gl (d+11) (by omega) false _ (reP_sml r s)
 have c3:=@M.rleaf_at gl (d+11) _ (by omega) (zstrs (reP x)) (reZ_len r s)
 rw[show lf (zstrs (reP x))=leaf x from rfl]at c3
 obtain⟨⟨u1,u2,u3⟩,u4,u5,u6⟩:=box_ok hx
 have w1:=H.bytes_all x.dat
 have w2:=H.bytes_all x.pol
 have w3:=H.bytes_all x.tk.sgn
 have w4:=H.bytes_all x.sp.body
 have w5:=H.bytes_all x.sp.sgn
 have w6:=H.bytes_all x.le.sgn
 have l:=leaf_len x
 have q:=H.bytes_all (leaf x)
 generalize leaf x=g at *
 generalize zstrs (reP x)=z at *
 rw[call_go (fd:=fd26) rfl]
 simp(disch:=((fail_if_success (intro _));omega)) only[go_sem,simprocAttr,↓reduceIte,↓Nat.reduceEqDiff,xx,fd26,m26,↓out16_eq,H.out16_len,H.out16_all,H.out16_pl,u1,u2,u3,u4,u5,u6,w1,w2,w3,w4,w5,w6,c1,c2,c3,l,q,bytesAV_length,H.noImms_bytesAV]
theorem rdata_at [Nonempty (GlR gl)](h:7<=n){z:List UInt8}(hz:z.length<=1048576):call gl tab n 30 [.str z] []=some (.agg (bytesAV (dig (inp 440 [z]))),[],[]):=by
 obtain⟨d,rfl⟩:=Nat.exists_eq_add_of_le' h
 have c:=@H.rof_at gl _ (d+4) (by omega) 440 false [z] (sml1 hz)
 rw[st1]at c
 have q:=H.bytes_all (dig (inp 440 [z]))
 have l:=H.dig_len (inp 440 [z])
 rw[call_go (fd:=fd30) rfl]
 generalize dig (inp 440 [z])=g at *
 simp(disch:=((fail_if_success (intro _));omega)) only[go_sem,simprocAttr,↓reduceIte,↓Nat.reduceEqDiff,xx,fd30,m30,↓out16_eq,H.out16_len,H.out16_all,H.out16_pl,c,q,l,bytesAV_length,H.noImms_bytesAV]
end Go.Proofs.S44.L
namespace Go.Proofs.S44.L
open Go Go.Ev Go.Proofs Go.Proofs.S44
open Go.Proofs.S44.H (strsAV strsAV_length strsAV_get Sml GlK GlR zints Few64 nsI nsI_length zint zint_len encB encB_len bytesAV_append dig inp)
open Go.Proofs.S44.M (lf lf_len Dg dgL dgL_length All16 Sd sB pkAV grw)
variable {gl :Gl} {n:Nat}
structure Rv where
 site:Int
 seq:Int
 r:List AV
 f:List UInt8
abbrev rvAV (x:Rv):AV:=.agg (i64 x.site::i64 x.seq::x.r)
abbrev rSh :List Sh:=[.st [.sc,.sc,.sc,.sc,.st [.sc,.sc]],.sc,sTk,.ar 16 .sc,sRl,.sc,sSp,.sc,.st [.sc,.sc],.ar 16 .sc,sTk,.sc,.sc]
structure RvOk (gl:Gl)(x:Rv):Prop where
 sh:hasShs rSh x.r=true
 f:x.f.length=16
 l:∀n,12<=n->call gl tab n 28 [rvAV x] []=some (bAV x.f,[],[])
def rvs (l:List Rv):List AV:=l.map rvAV
theorem rvs_length (l:List Rv):(rvs l).length=l.length:=by simp[rvs]
theorem rvs_app (l:List Rv)(x:Rv):rvs l++[rvAV x]=rvs (l++[x]):=by simp[rvs]
theorem site_at (h:1<=n)(a:Int):call gl tab n 47 [i64 a] []=some (.bool (decide (0<=a/\a<64)),[],[]):=by
 obtain⟨d,rfl⟩:=Nat.exists_eq_add_of_le' h
 rw[call_go (fd:=fd47) rfl]
 by_cases h1:0<=a
 . by_cases h2:a<64
   . rw[decide_eq_true ⟨h1,h2⟩];simp(disch:=((fail_if_success (intro _));omega)) only[go_sem,simprocAttr,↓reduceIte,↓Nat.reduceEqDiff,xx,fd47,m47]
   . rw[decide_eq_false (fun h=>h2 h.2)];simp(disch:=((fail_if_success (intro _));omega)) only[go_sem,simprocAttr,↓reduceIte,↓Nat.reduceEqDiff,xx,fd47,m47]
 . rw[decide_eq_false (fun h=>h1 h.1)];simp(disch:=((fail_if_success (intro _));omega)) only[go_sem,simprocAttr,↓reduceIte,↓Nat.reduceEqDiff,xx,fd47,m47]
abbrev sLd :Sh:=.st [.sc,.sc,.st [.sc,.sc],.sc]
theorem sz_ok {sh:Sh}{l:List AV}{k:Nat}(hs:l=[]\/sh.size=k):(l.isEmpty||sh.size==k)=true:=by
 rcases hs with rfl|rfl
 . rfl
 . simp
theorem clip_at (h:1<=n){f:Bool}{sh:Sh}{l:List AV}(hs:l=[]\/sh.size=146):call gl tab n 56 [.lst f sh l] []=some (.lst true sh l,[],[]):=by
 obtain⟨d,rfl⟩:=Nat.exists_eq_add_of_le' h
 have t:=List.take_of_length_le (Nat.le_refl l.length)
 have hz:=sz_ok hs
 rw[call_go (fd:=fd56) rfl]
 simp(disch:=((fail_if_success (intro _));omega)) only[go_sem,simprocAttr,↓reduceIte,↓Nat.reduceEqDiff,xx,fd56,m56,t,Nat.sub_zero,List.drop_zero,hz]
theorem cliph_at (h:1<=n){f:Bool}{sh:Sh}{l:List AV}(hs:l=[]\/sh.size=37):call gl tab n 62 [.lst f sh l] []=some (.lst true sh l,[],[]):=by
 obtain⟨d,rfl⟩:=Nat.exists_eq_add_of_le' h
 have t:=List.take_of_length_le (Nat.le_refl l.length)
 have hz:=sz_ok hs
 rw[call_go (fd:=fd62) rfl]
 simp(disch:=((fail_if_success (intro _));omega)) only[go_sem,simprocAttr,↓reduceIte,↓Nat.reduceEqDiff,xx,fd62,m62,t,Nat.sub_zero,List.drop_zero,hz]
def Sr (l:List Rv)(sh:Sh):Prop:=l=[]\/sh=sRe
abbrev ldAV (s:Int)(f:Bool)(sh:Sh)(l:List Rv)(z:Int)(f2:Bool)(sh2:Sh)(t:List Dg)(f3:Bool)(sh3:Sh)(U:List AV):AV:=.agg [i64 s,.lst f sh (rvs l),.agg [i64 z,.lst f2 sh2 (dgL t)],.lst f3 sh3 U]
section
variable {s :Int} {f f2 f3:Bool} {sh sh2 sh3:Sh} {l:List Rv} {t:List Dg} {U:List AV}
theorem app_arg (h:1<=n){z:Int}{x:Rv}(hx:RvOk gl x)(hl:l.length<=1000000)(hb:¬(x.site=s/\x.seq=l.length)) :
  call gl tab n 16 [ldAV s f sh l z f2 sh2 t f3 sh3 U,rvAV x] []=some (.tup [ldAV s f sh l z f2 sh2 t f3 sh3 U,i64 1],[],[]):=by
 obtain⟨d,rfl⟩:=Nat.exists_eq_add_of_le' h
 have h1:=hx.sh
 have hL:=rvs_length l
 rw[call_go (fd:=fd16) rfl]
 by_cases e1:x.site=s
 . have e2:(x.seq != (l.length:Int))=true:=by rw[bne_iff_ne];exact fun e=>hb ⟨e1,e⟩
   have e1:(x.site != s)=false:=by rw[e1];exact bne_self_eq_false _
   simp(disch:=((fail_if_success (intro _));omega)) only[go_sem,simprocAttr,↓reduceIte,↓Nat.reduceEqDiff,xx,fd16,m16,↓out16_eq,h1,hL,e1,e2,H.out16_len,H.out16_all,H.out16_pl]
 . have e1:(x.site != s)=true:=by rw[bne_iff_ne];exact e1
   simp(disch:=((fail_if_success (intro _));omega)) only[go_sem,simprocAttr,↓reduceIte,↓Nat.reduceEqDiff,xx,fd16,m16,↓out16_eq,h1,hL,e1,H.out16_len,H.out16_all,H.out16_pl]
theorem app_ok [Nonempty (GlK gl)][Nonempty (M.GlB gl)](h:15<=n){z:Nat}{x:Rv}(hx:RvOk gl x)(hl:l.length<60000)(hs:Sr l sh)(e1:x.site=s)(e2:x.seq=l.length)
  (ht:t.length<=1000000) (ha:All16 t) (hs2:Sd t sh2 sB) (hz:z<1099511627776) (hF:M.Form z t) :
  call gl tab n 16 [ldAV s f sh l z f2 sh2 t f3 sh3 U,rvAV x] []=some (.tup [ldAV s false sRe (l++[x]) (z+1:Nat) false sB (grw z t x.f) f3 sh3 U,i64 0],[],[]):=by
 obtain⟨d,rfl⟩:=Nat.exists_eq_add_of_le' h
 have h1:=hx.sh
 have h2:=hx.l (d+14) (by omega)
 have hL:=rvs_length l
 have c:=@M.append_ok gl (d+14) _ _ (by omega) z f2 sh2 t x.f hx.f ht ha hs2 hz hF
 have k:=@clip_at gl (d+14) (by omega) f sh (rvs l) (by
  rcases hs with rfl|rfl
  . exact .inl rfl
  . exact .inr rfl)
 have e1:(x.site != s)=false:=by rw[e1];exact bne_self_eq_false _
 have e2:(x.seq != (l.length:Int))=false:=by rw[e2];exact bne_self_eq_false _
 have hA:=rvs_app l x
 have q:=H.bytes_all x.f
 have q2:=b16 hx.f
 have hLim:l.length+1<=LIM:=by unfold LIM;omega
 rw[call_go (fd:=fd16) rfl]
 show _=some (AV.tup [.agg [i64 s,.lst false sRe (rvs (l++[x])),.agg [i64 (z+1:Nat),.lst false sB (dgL (grw z t x.f))],.lst f3 sh3 U],i64 0],[],[])
 rw[<-hA]
 have hLim0:0+1<=LIM:=by unfold LIM;omega
 have hLim1:0<=LIM:=by unfold LIM;omega
 rcases hs with rfl|rfl
 . have hI:rvs []=[]:=rfl
   rw[hI]at k
   simp(disch:=((fail_if_success (intro _));omega)) only[go_sem,simprocAttr,↓reduceIte,↓Nat.reduceEqDiff,xx,fd16,m16,↓out16_eq,h1,h2,hI,List.length_nil,e1,e2,c,k,q,q2,hLim0,hLim1,H.out16_len,H.out16_all,H.out16_pl]
 . simp(disch:=((fail_if_success (intro _));omega)) only[go_sem,simprocAttr,↓reduceIte,↓Nat.reduceEqDiff,xx,fd16,m16,↓out16_eq,h1,h2,hL,e1,e2,c,k,q,q2,hLim,H.out16_len,H.out16_all,H.out16_pl]
   rw[List.take_of_length_le (by rw[List.length_append,hL];exact Nat.le_refl _)]
end
end Go.Proofs.S44.L
