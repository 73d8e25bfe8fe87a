/-
  Chapter 3: checking several elements: the whole check. No condition.
-/
import Derived.Test.YthelhoikbegjlaaDoorW03G18x8
set_option linter.unusedVariables false
set_option linter.unusedSimpArgs false
set_option linter.unusedSectionVars false
namespace Go.Proofs.S03
open Go Go.Ev Go.Proofs Go.Mk
open Go.Proofs.S03.H (GlK GlR)
variable {gl :Gl} {n:Nat}
theorem d23A :dd23.mA=[m23_0,m23_1,m23_2]:=rfl
theorem d23B :dd23.mB=m23B:=rfl
theorem d23fos :dd23.fos=[(.o 39 (.l 11))]:=rfl
theorem d23args :dd23.dargs=[(.t 39),(.t 10)]:=rfl
theorem d23fS :dd23.fS=47:=rfl
theorem d23fd :dd23.fd=fd47:=rfl
theorem d23slots :dd23.slots=[0,1,9,10,11,12]:=rfl
theorem d23d :dd23.d=41000:=rfl
theorem d23dd :dd23.dd=51000:=rfl
theorem d23res :dd23.res=[.cell 10 false 1]:=rfl
theorem checkM_bad (h:2<=n){root:Dg}{N:Int}{g f f2:Bool}{shp sh sh2:Sh}{pl:List Int}{fs p:List Dg}(hb:N<0\/N>1099511627776\/¬AscB pl N\/fs.length≠pl.length)(hr:root.length=16)(hpl:pl.length<=1000000)(hfl:fs.length<=1000000)(hsp:Sd pl shp .sc) :
  call gl tab n 23 [i64 N,.lst g shp (pI pl),.lst f2 sh2 (dgL fs),.lst f sh (dgL p),bAV root] []=some (.bool false,[],[]):=by
 obtain⟨d,rfl⟩:=Nat.exists_eq_add_of_le' h
 have r1:=b16t hr
 have r2:=H.bytes_all root
 have hF:=dgL_length fs
 have hP:=pI_length pl
 obtain⟨b,hbb,c⟩:=@asc_at gl (d+1) (by omega) g shp pl N hpl hsp
 rw[call_df (fd:=fd23) rfl]
 by_cases h1:N<0
 . simp(disch:=((fail_if_success (intro _));omega)) only[go_sem,simprocAttr,↓reduceIte,↓Nat.reduceEqDiff,xx,d23A,d23B,d23fos,d23args,d23fS,d23fd,d23slots,d23d,d23dd,d23res,m23_0,m23_1,↓out16_eq,H.out16_len,H.out16_all,H.out16_pl,hr,r1,r2]
 by_cases h2:N>1099511627776
 . simp(disch:=((fail_if_success (intro _));omega)) only[go_sem,simprocAttr,↓reduceIte,↓Nat.reduceEqDiff,xx,d23A,d23B,d23fos,d23args,d23fS,d23fd,d23slots,d23d,d23dd,d23res,m23_0,m23_1,↓out16_eq,H.out16_len,H.out16_all,H.out16_pl,hr,r1,r2]
 by_cases h3:AscB pl N
 . obtain rfl:b=true:=hbb.2 h3
   have h4:fs.length≠pl.length:=by
    rcases hb with hb|hb|hb|hb
    . exact absurd hb h1
    . exact absurd hb h2
    . exact absurd h3 hb
    . exact hb
   have h5:(fs.length:Int)≠(pl.length:Int):=by omega
   simp(disch:=((fail_if_success (intro _));omega)) only[go_sem,simprocAttr,↓reduceIte,↓Nat.reduceEqDiff,xx,d23A,d23B,d23fos,d23args,d23fS,d23fd,d23slots,d23d,d23dd,d23res,m23_0,m23_1,↓out16_eq,H.out16_len,H.out16_all,H.out16_pl,hr,r1,r2,c,hF,hP]
 . obtain rfl:b=false:=by cases b;rfl;exact absurd (hbb.1 rfl) h3
   simp(disch:=((fail_if_success (intro _));omega)) only[go_sem,simprocAttr,↓reduceIte,↓Nat.reduceEqDiff,xx,d23A,d23B,d23fos,d23args,d23fS,d23fd,d23slots,d23d,d23dd,d23res,m23_0,m23_1,↓out16_eq,H.out16_len,H.out16_all,H.out16_pl,hr,r1,r2,c]
section
variable [Nonempty (GlK gl)]
abbrev H23 (root:Dg)(b:Bool)(o1 o2:OB):Hp :=
 [(100000,.fix (.ar 16 .sc) (bAV root)),(100001,.fix .sc (.bool b)),(100002,.fix .sc (.ptr 100003 [])),(100003,o1),(100004,.fix .sc (.ptr 100005 [])),(100005,o2)]
theorem body23_zero (h:59<=n){root:Dg}{g f f2:Bool}{shp sh sh2:Sh}{ps:List Nat}{fs p:List Dg}(hr:root.length=16)(hl:p.length<=1000000) :
  ∃o1 o2,evDfB dd23 gl (call gl tab n) [i64 0,.lst g shp (pN ps),.ptr 100000 [],.ptr 100001 [],.ptr 100002 [],.ptr 100004 []] [.ptr 100003 [],.ptr 100001 []] (H23 root false (PS f sh p false) (PS f2 sh2 fs false)) =
   some (.bool (decide (p.length=0/\root=em)),H23 root (decide (p.length=0/\root=em)) o1 o2,[]):=by
 have r1:=b16t hr
 have r2:=H.bytes_all root
 have e:=@empty_at gl n _ (by omega)
 have e1:=em_len
 have e2:=H.bytes_all em
 have c2:=eqB hr e1
 have hD:(decide (root=em)&& !false&&decide (p.length=0))=decide (p.length=0/\root=em):=by
  rw[Bool.eq_iff_iff];simp[and_comm]
 have st1:=@settle_at gl dd23 d23fd (call gl tab n) 47 f sh p false (decide (root=em))
 rw[hD]at st1
 refine⟨PS f sh p false,PS f2 sh2 fs false,?_⟩
 generalize decide (p.length=0/\root=em)=b2 at *
 generalize hb:decide (root=em)=b at *
 generalize em=q at *
 rw[evDfB_at]
 simp(disch:=((fail_if_success (intro _));omega)) only[go_sem,simprocAttr,↓reduceIte,↓Nat.reduceEqDiff,xx,d23A,d23B,d23fos,d23args,d23fS,d23fd,d23slots,d23d,d23dd,d23res,m23B,hr,r1,r2,e,e1,e2,c2,fn_scalar,st1]
theorem body23 (h:59<=n){root:Dg}{N:Nat}{g f f2:Bool}{shp sh sh2:Sh}{ps:List Nat}{fs p:List Dg}(h1:1<=N)(hN:N<=1099511627776)(hr:root.length=16)(ha:All16 p)(hl:p.length<=1000000)(hs:Sd p sh sB)(ha2:All16 fs)(hl2:fs.length<=1000000)(hs2:Sd fs sh2 sB)(hpl:ps.length<=1000000)(hsp:Sd ps shp .sc)(hA:Asc ps 0 N) :
  ∃o1 o2,evDfB dd23 gl (call gl tab n) [i64 N,.lst g shp (pN ps),.ptr 100000 [],.ptr 100001 [],.ptr 100002 [],.ptr 100004 []] [.ptr 100003 [],.ptr 100001 []] (H23 root false (PS f sh p false) (PS f2 sh2 fs false)) =
   some (.bool (decide (p.length=(cntW 0 N ps).2/\(wk 0 N ps fs p).1=root)),H23 root (decide (p.length=(cntW 0 N ps).2/\(wk 0 N ps fs p).1=root)) o1 o2,[]):=by
 have r1:=b16t hr
 have r2:=H.bytes_all root
 have h40:N<=2^40:=by have:(2:Nat)^40=1099511627776:=by decide
                      omega
 have a:=@climbM_at gl _ 40 n 0 N ps g shp f f2 sh sh2 p fs false false h40 h1 (by omega) (by omega) ha hl hs ha2 hl2 hs2 hpl hsp hA (by omega)
 simp only[show((0:Nat):Int)=0 from rfl,Bool.false_or]at a
 have c1:=@wk_len 0 N ps fs p ha2 ha
 have c2:=eqB c1 hr
 have c3:=H.bytes_all (wk 0 N ps fs p).1
 have hL2:(p.drop (cntW 0 N ps).2).length=p.length-(cntW 0 N ps).2:=List.length_drop
 have hD:(decide ((wk 0 N ps fs p).1=root)&& !(decide (p.length<(cntW 0 N ps).2))&&decide ((p.drop (cntW 0 N ps).2).length=0))=decide (p.length=(cntW 0 N ps).2/\(wk 0 N ps fs p).1=root):=by
  rw[hL2,Bool.eq_iff_iff]
  simp only[Bool.and_eq_true,decide_eq_true_eq,Bool.not_eq_true',decide_eq_false_iff_not]
  constructor
  . rintro ⟨⟨h1,h2⟩,h3⟩;exact⟨by omega,h1⟩
  . rintro ⟨h1,h2⟩;exact⟨⟨h2,by omega⟩,by omega⟩
 have st1:=@settle_at gl dd23 d23fd (call gl tab n) 47 f sh (p.drop (cntW 0 N ps).2) (decide (p.length<(cntW 0 N ps).2)) (decide ((wk 0 N ps fs p).1=root))
 rw[hD]at st1
 refine⟨PS f sh (p.drop (cntW 0 N ps).2) (decide (p.length<(cntW 0 N ps).2)),PS f2 sh2 (fs.drop (cntW 0 N ps).1) (decide (fs.length<(cntW 0 N ps).1)),?_⟩
 generalize decide (p.length=(cntW 0 N ps).2/\(wk 0 N ps fs p).1=root)=b2 at *
 generalize (wk 0 N ps fs p).1=q at *
 generalize hb:decide (q=root)=b at *
 clear hA hD hL2
 generalize cntW 0 N ps=j at *
 have hN0:¬(N:Int)=0:=by omega
 rw[evDfB_at]
 simp(disch:=((fail_if_success (intro _));omega)) only[go_sem,simprocAttr,↓reduceIte,↓Nat.reduceEqDiff,xx,d23A,d23B,d23fos,d23args,d23fS,d23fd,d23slots,d23d,d23dd,d23res,m23B,hr,r1,r2,a,c1,c2,c3,fn_scalar,st1]
theorem checkM_zero (h:60<=n){root:Dg}{g f f2:Bool}{shp sh sh2:Sh}{ps:List Nat}{fs p:List Dg}(hr:root.length=16)(hl:p.length<=1000000)(hlf:fs.length=ps.length)(hpl:ps.length<=1000000)(hsp:Sd ps shp .sc)(hA:Asc ps 0 0) :
  call gl tab n 23 [i64 0,.lst g shp (pN ps),.lst f2 sh2 (dgL fs),.lst f sh (dgL p),bAV root] []=some (.bool (decide (p.length=0/\root=em)),[],[]):=by
 obtain⟨d,rfl⟩:=Nat.exists_eq_add_of_le' h
 have r1:=b16t hr
 have r2:=H.bytes_all root
 have hF:=dgL_length fs
 have hP:=pN_length ps
 have hsT:Sd (toI ps) shp .sc:=by
  rcases hsp with rfl|hs'
  . exact Or.inl rfl
  . exact Or.inr hs'
 obtain⟨b,hbb,c⟩:=@asc_at gl (d+59) (by omega) g shp (toI ps) ((0:Nat):Int) (by rw[toI_length];exact hpl) hsT
 obtain rfl:b=true:=hbb.2 (toI_asc hA)
 rw[<-pN]at c
 simp only[show((0:Nat):Int)=0 from rfl]at c
 obtain⟨o1,o2,a⟩:=@body23_zero gl (d+59) _ (by omega) root g f f2 shp sh sh2 ps fs p hr hl
 generalize decide (p.length=0/\root=em)=b2 at *
 clear hA
 rw[call_df (fd:=fd23) rfl]
 simp(disch:=((fail_if_success (intro _));omega)) only[go_sem,simprocAttr,↓reduceIte,↓Nat.reduceEqDiff,xx,d23A,d23B,d23fos,d23args,d23fS,d23fd,d23slots,d23d,d23dd,d23res,m23_0,m23_1,m23_2,↓out16_eq,H.out16_len,H.out16_all,H.out16_pl,hr,r1,r2,a,c,hF,hP,hlf]
theorem checkM_ok (h:60<=n){root:Dg}{N:Nat}{g f f2:Bool}{shp sh sh2:Sh}{ps:List Nat}{fs p:List Dg}(h1:1<=N)(hN:N<=1099511627776)(hr:root.length=16)(ha:All16 p)(hl:p.length<=1000000)(hs:Sd p sh sB)(ha2:All16 fs)(hlf:fs.length=ps.length)(hs2:Sd fs sh2 sB)(hpl:ps.length<=1000000)(hsp:Sd ps shp .sc)(hA:Asc ps 0 N) :
  call gl tab n 23 [i64 N,.lst g shp (pN ps),.lst f2 sh2 (dgL fs),.lst f sh (dgL p),bAV root] []=some (.bool (decide (p.length=(cntW 0 N ps).2/\(wk 0 N ps fs p).1=root)),[],[]):=by
 obtain⟨d,rfl⟩:=Nat.exists_eq_add_of_le' h
 have r1:=b16t hr
 have r2:=H.bytes_all root
 have hF:=dgL_length fs
 have hP:=pN_length ps
 have hsT:Sd (toI ps) shp .sc:=by
  rcases hsp with rfl|hs'
  . exact Or.inl rfl
  . exact Or.inr hs'
 obtain⟨b,hbb,c⟩:=@asc_at gl (d+59) (by omega) g shp (toI ps) (N:Int) (by rw[toI_length];exact hpl) hsT
 obtain rfl:b=true:=hbb.2 (toI_asc hA)
 rw[<-pN]at c
 obtain⟨o1,o2,a⟩:=@body23 gl (d+59) _ (by omega) root N g f f2 shp sh sh2 ps fs p h1 hN hr ha hl hs ha2 (by omega) hs2 hpl hsp hA
 generalize decide (p.length=(cntW 0 N ps).2/\(wk 0 N ps fs p).1=root)=b2 at *
 clear hA
 rw[call_df (fd:=fd23) rfl]
 simp(disch:=((fail_if_success (intro _));omega)) only[go_sem,simprocAttr,↓reduceIte,↓Nat.reduceEqDiff,xx,d23A,d23B,d23fos,d23args,d23fS,d23fd,d23slots,d23d,d23dd,d23res,m23_0,m23_1,m23_2,↓out16_eq,H.out16_len,H.out16_all,H.out16_pl,hr,r1,r2,a,c,hF,hP,hlf]
end
end Go.Proofs.S03
