/-
  Chapter 4: seals: the parts are put together. No condition.
-/
import Derived.Test.YtjenmopgcpnklaaDoorW30G2x5
import Derived.Test.YtjenmopgcpnklaaDoorW30G9x5
set_option linter.unusedVariables false
set_option linter.unusedSimpArgs false
set_option linter.unusedSectionVars false
namespace Go.Proofs.S30
open Go Go.Ev Go.Proofs
open Go.Proofs.S30.H (strsAV strsAV_length strsAV_get)
variable {gl :Gl} {n:Nat}
def apL (s:List UInt8)(l:List (List UInt8)):Nat->List (List UInt8)
 | 0=>[]
 | 1=>[s]
 | 2=>s::l
 | _=>s::(l++[s])
abbrev allP (s:List UInt8)(l:List (List UInt8)):List (List UInt8):=s::(l++[s])
theorem apL_0 (s:List UInt8)(l:List (List UInt8)):apL s l 0=[]:=rfl
theorem apL_1 (s:List UInt8)(l:List (List UInt8)):apL s l 1=[s]:=rfl
theorem apL_2 (s:List UInt8)(l:List (List UInt8)):apL s l 2=s::l:=rfl
theorem apL_3 (s:List UInt8)(l:List (List UInt8)):apL s l 3=allP s l:=rfl
def filL (N:Nat)(l:List (List UInt8)):List AV:=strsAV l++List.replicate (N-l.length) (.str [])
theorem strs_app (a b:List (List UInt8)):strsAV (a++b)=strsAV a++strsAV b:=by simp[strsAV]
theorem filL_len {N:Nat}{l:List (List UInt8)}(h:l.length<=N):(filL N l).length=N:=by simp[filL,strsAV_length];omega
theorem filL_app {N:Nat}{a b:List (List UInt8)}(h:a.length+b.length<=N):(filL N a).take a.length++(strsAV b++(filL N a).drop (a.length+b.length))=filL N (a++b):=by
 unfold filL
 rw[List.take_left' (strsAV_length a),strs_app,List.append_assoc]
 congr 2
 rw[<-strsAV_length a,List.drop_append,List.drop_eq_nil_of_le (by omega),List.nil_append,Nat.add_sub_cancel_left,List.drop_replicate,List.length_append,strsAV_length]
 congr 1;omega
theorem filL_all (l:List (List UInt8)):filL l.length l=strsAV l:=by simp[filL]
theorem filL_0 (N:Nat):filL N []=List.replicate N (.str []):=by simp[filL,strsAV]
theorem grow_at (h:1<=n){N:Nat}(h0:1<=N)(hN:N<=100000):call gl tab n 91 [.lst true .sc [],i64 N] []=some (.sl 20000 [] 0 0,[],[.grow .sc (filL N [])]):=by
 obtain⟨d,rfl⟩:=Nat.exists_eq_add_of_le' h
 have hl:N<=LIM:=by unfold LIM;omega
 rw[filL_0]
 rw[call_gen (fd:=fd91) rfl]
 simp(disch:=((fail_if_success (intro _));omega)) only[go_sem,simprocAttr,↓reduceIte,↓Nat.reduceEqDiff,xx,fd91,m91,hl,List.nil_append,Nat.sub_zero]
def pob (f:Bool)(s:List UInt8)(l:List (List UInt8)):OB:=.fix (.ar 3 .sc) (.aggR [.sl 100001 [] 0 1,.lst f .sc (strsAV l),.sl 100002 [] 0 1])
def szP (l:List (List UInt8)):Nat->Int
 | 0=>0
 | 1=>1
 | 2=>1+l.length
 | _=>1+l.length+1
theorem szP_0 (l:List (List UInt8)):szP l 0=0:=rfl
theorem szP_1 (l:List (List UInt8)):szP l 1=1:=rfl
theorem szP_2 (l:List (List UInt8)):szP l 2=1+l.length:=rfl
theorem szP_3 (l:List (List UInt8)):szP l 3=1+l.length+1:=rfl
def L65 :MC:=match m80 with| .seq _ (.seq _ (.seq (.seq _ (.block _ (.loop _ b))) _))=>b|_=>.skip
def L65b :MC:=match m80 with| .seq _ (.seq _ (.seq _ (.seq _ (.seq (.seq _ (.block _ (.loop _ b))) _))))=>b|_=>.skip
def hp65 (f:Bool)(s:List UInt8)(l:List (List UInt8)):Hp:=[(100002,.grow .sc [.str s]),(100001,.grow .sc [.str s]),(100000,.fix (.ar 3 .sc) (.aggR [.sl 100001 [] 0 1,.lst f .sc (strsAV l),.sl 100002 [] 0 1]))]
def S65 (f:Bool)(s:List UInt8)(l:List (List UInt8))(i:Nat):St :=
 ⟨[.set 11 (i64 i),.set 10 (i64 3),.set 9 (.sl 100000 [] 0 3),.set 3 (i64 (szP l i)),.set 0 (.sl 100000 [] 0 3)],hp65 f s l⟩
def S65b (f:Bool)(s:List UInt8)(l:List (List UInt8))(i:Nat):St :=
 ⟨[.set 27 (i64 i),.set 26 (i64 3),.set 25 (.sl 100000 [] 0 3),.set 6 (.sl 24 [] 0 (apL s l i).length)],hp65 f s l++[(24,.grow .sc (filL (l.length+2) (apL s l i)))]⟩
set_option maxHeartbeats 1000000 in
theorem concat_at (h:2<=n)(f:Bool)(s:List UInt8)(l:List (List UInt8))(hl:l.length<=1000) :
  call gl tab n 80 [.sl 100000 [] 0 3] [(100000,.fix (.ar 3 .sc) (.aggR [.sl 100001 [] 0 1,.lst f .sc (strsAV l),.sl 100002 [] 0 1])),(100001,.grow .sc [.str s]),(100002,.grow .sc [.str s])] =
   some (.sl 20000 [] 0 (l.length+2),[(100000,.fix (.ar 3 .sc) (.aggR [.sl 100001 [] 0 1,.lst f .sc (strsAV l),.sl 100002 [] 0 1])),(100001,.grow .sc [.str s]),(100002,.grow .sc [.str s])],[.grow .sc (strsAV (allP s l))]):=by
 obtain⟨d,rfl⟩:=Nat.exists_eq_add_of_le' h
 have hs:∀i,i<3->contK [.slot 0,.slot 3,.slot 9,.slot 10,.slot 11] (evC gl (call gl tab (d+1)) L65 (S65 f s l i))=some (S65 f s l (i+1)):=fun i hi=>by
  match i,hi with
  | 0,_=>simp(disch:=((fail_if_success (intro _));omega)) only[go_sem,simprocAttr,↓reduceIte,↓Nat.reduceEqDiff,xx,L65,m80,S65,hp65,szP_0,szP_1]
  | 1,_=>simp(disch:=((fail_if_success (intro _));omega)) only[go_sem,simprocAttr,↓reduceIte,↓Nat.reduceEqDiff,xx,L65,m80,S65,hp65,szP_1,szP_2,strsAV_length]
  | 2,_=>simp(disch:=((fail_if_success (intro _));omega)) only[go_sem,simprocAttr,↓reduceIte,↓Nat.reduceEqDiff,xx,L65,m80,S65,hp65,szP_2,szP_3]
 have hs2:∀i,i<3->contK [.slot 6,.slot 25,.slot 26,.slot 27,.key 24] (evC gl (call gl tab (d+1)) L65b (S65b f s l i))=some (S65b f s l (i+1)):=fun i hi=>by
  match i,hi with
  | 0,_ =>
    have e:=@filL_app (l.length+2) [] [s] (by simp)
    have e2:=@filL_len (l.length+2) [] (by simp)
    simp only[List.length_nil,List.length_cons,List.nil_append,Nat.zero_add,List.take_zero]at e
    rw[S65b,S65b,apL_0,apL_1,<-e]
    generalize filL (l.length+2) []=z at *
    simp(disch:=((fail_if_success (intro _));omega)) only[go_sem,simprocAttr,↓reduceIte,↓Nat.reduceEqDiff,xx,L65b,m80,hp65,false_and,decide_false,e2,List.cons_append,List.nil_append,strsAV,List.map_cons,List.map_nil,List.length_cons,List.length_nil]
  | 1,_ =>
    have e:=@filL_app (l.length+2) [s] l (by simp;omega)
    have e2:=@filL_len (l.length+2) [s] (by simp)
    simp only[List.length_nil,List.length_cons,List.nil_append,Nat.zero_add,List.singleton_append]at e
    rw[S65b,S65b,apL_1,apL_2,<-e]
    generalize filL (l.length+2) [s]=z at *
    have c7:1+l.length=l.length+1:=by omega
    simp(disch:=((fail_if_success (intro _));omega)) only[go_sem,simprocAttr,↓reduceIte,↓Nat.reduceEqDiff,xx,c7,L65b,m80,hp65,false_and,decide_false,e2,List.cons_append,List.nil_append,strsAV_length,List.length_cons,List.length_nil,List.append_assoc]
  | 2,_ =>
    have e:=@filL_app (l.length+2) (s::l) [s] (by simp)
    have e2:=@filL_len (l.length+2) (s::l) (by simp)
    simp only[List.length_nil,List.length_cons,List.nil_append,Nat.zero_add,List.cons_append]at e
    rw[S65b,S65b,apL_2,apL_3,<-e]
    generalize filL (l.length+2) (s::l)=z at *
    simp(disch:=((fail_if_success (intro _));omega)) only[go_sem,simprocAttr,↓reduceIte,↓Nat.reduceEqDiff,xx,L65b,m80,hp65,false_and,decide_false,e2,List.cons_append,List.nil_append,strsAV,List.map_cons,List.map_nil,List.length_cons,List.length_nil,List.append_assoc,List.length_append]
 simp only[L65,m80]at hs
 simp only[L65b,m80]at hs2
 have c89:=@grow_at gl (d+1) (by omega) (l.length+2) (by omega) (by omega)
 rw[show((l.length+2:Nat):Int)=(l.length:Int)+2 by omega]at c89
 have c8:(1:Int)+l.length+1=(l.length:Int)+2:=by omega
 have e:=filL_all (allP s l)
 have e2:(allP s l).length=l.length+2:=by simp
 rw[e2]at e
 have e3:=filL_len (N:=l.length+2) (l:=allP s l) (by simp)
 rw[<-e]
 rw[call_gen (fd:=fd80) rfl]
 simp(disch:=((fail_if_success (intro _));omega)) only[go_sem,simprocAttr,↓reduceIte,↓Nat.reduceEqDiff,xx,fd80,m80]
 rw[iter_to (S65 f s l) 3 (by unfold LF;omega)]
 . rw[S65,szP_3,c8]
   simp(disch:=((fail_if_success (intro _));omega)) only[go_sem,simprocAttr,↓reduceIte,↓Nat.reduceEqDiff,xx,hp65,c89]
   rw[iter_to (S65b f s l) 3 (by unfold LF;omega)]
   . rw[S65b,apL_3]
     generalize filL (l.length+2) (allP s l)=z at *
     simp(disch:=((fail_if_success (intro _));omega)) only[go_sem,simprocAttr,↓reduceIte,↓Nat.reduceEqDiff,xx,hp65,List.cons_append,List.nil_append,e2,e3]
   . rw[S65b,apL_0]
     generalize filL (l.length+2) []=z at *
     simp(disch:=((fail_if_success (intro _));omega)) only[go_sem,simprocAttr,↓reduceIte,↓Nat.reduceEqDiff,xx,hp65,List.cons_append,List.nil_append,List.length_nil]
   . exact hs2
   . rw[S65b,apL_3]
     generalize filL (l.length+2) (allP s l)=z at *
     simp(disch:=((fail_if_success (intro _));omega)) only[go_sem,simprocAttr,↓reduceIte,↓Nat.reduceEqDiff,xx,hp65,List.cons_append,List.nil_append,e2,e3]
 . simp(disch:=((fail_if_success (intro _));omega)) only[go_sem,simprocAttr,↓reduceIte,↓Nat.reduceEqDiff,xx,S65,hp65,szP_0]
 . exact hs
 . simp(disch:=((fail_if_success (intro _));omega)) only[go_sem,simprocAttr,↓reduceIte,↓Nat.reduceEqDiff,xx,S65,hp65,szP_3]
end Go.Proofs.S30
namespace Go.Proofs.S30
open Go Go.Ev Go.Proofs
open Go.Proofs.S30.H (strsAV strsAV_length strsAV_get Sml GlK GlR)
variable {gl :Gl} {n:Nat}
def Pts (l:List (List UInt8)):Prop:=l.length<=100/\∀x∈l,x.length<=1048576
theorem Pts.all {s:List UInt8}{l:List (List UInt8)}(h:Pts l)(hs:s.length<=1048576):Sml (allP s l):=by
 refine⟨by have:=h.1;simp;omega,fun x hx=> ?_⟩
 simp only[allP,List.mem_cons,List.mem_append,List.not_mem_nil,or_false]at hx
 rcases hx with rfl|hx|rfl
 . exact hs
 . exact h.2 x hx
 . exact hs
def sea (k:List UInt8)(tag:Int)(l:List (List UInt8)):List UInt8:=H.dig (H.inp tag (allP k l))
theorem sea_len (k:List UInt8)(tag:Int)(l:List (List UInt8)):(sea k tag l).length=16:=H.dig_len _
def sAV (k:List UInt8)(tag:Int)(l:List (List UInt8)):List AV:=bytesAV (sea k tag l)
theorem sAV_len (k:List UInt8)(tag:Int)(l:List (List UInt8)):(sAV k tag l).length=16:=by rw[sAV,bytesAV_length,sea_len]
theorem out16_eq :List.replicate 16 (AV.int .u8 0)=H.out16l:=rfl
theorem sAV_all (k:List UInt8)(tag:Int)(l:List (List UInt8)):(sAV k tag l).all AV.scalar=true:=H.bytes_all _
theorem sAV_pl (k:List UInt8)(tag:Int)(l:List (List UInt8)):noImms (sAV k tag l)=true:=H.noImms_bytesAV _
theorem make_at [Nonempty (GlK gl)](h:8<=n)(x:Ky)(hx:x.k.length<=1048576)(tag:Int)(f:Bool)(l:List (List UInt8))(hl:Pts l) :
  call gl tab n 69 [ky x,i64 tag,.lst f .sc (strsAV l)] []=some (.agg (sAV x.k tag l),[],[]):=by
 obtain⟨d,rfl⟩:=Nat.exists_eq_add_of_le' h
 have c65:=@concat_at gl (d+7) (by omega) f x.k l (by have:=hl.1;omega)
 have c64:=@H.of_at gl _ (d+6) (by omega) tag false (allP x.k l) (hl.all hx)
 have e1:(strsAV (allP x.k l)).length=l.length+2:=by rw[strsAV_length];simp
 have e2:List.take (l.length+2) (strsAV (allP x.k l))=strsAV (allP x.k l):=by rw[<-e1];exact List.take_length
 have d1:=sAV_len x.k tag l
 have d2:=sAV_all x.k tag l
 have d3:=sAV_pl x.k tag l
 rw[show bytesAV (H.dig (H.inp tag (allP x.k l)))=sAV x.k tag l from rfl]at c64
 generalize sAV x.k tag l=z at *
 generalize strsAV (allP x.k l)=w at *
 rw[call_go (fd:=fd69) rfl]
 simp(disch:=((fail_if_success (intro _));omega)) only[go_sem,simprocAttr,↓reduceIte,↓Nat.reduceEqDiff,xx,fd69,m69,↓out16_eq,H.out16_len,H.out16_all,H.out16_pl,c65,c64,e1,e2,d1,d2,d3]
theorem rmake_at [Nonempty (GlR gl)](h:8<=n)(x:Ky)(hx:x.k.length<=1048576)(tag:Int)(f:Bool)(l:List (List UInt8))(hl:Pts l) :
  call gl tab n 61 [ky x,i64 tag,.lst f .sc (strsAV l)] []=some (.agg (sAV x.k tag l),[],[]):=by
 obtain⟨d,rfl⟩:=Nat.exists_eq_add_of_le' h
 have c66:=@H.rof_at gl _ (d+5) (by omega) tag false (allP x.k l) (hl.all hx)
 have e0:AV.str x.k::(strsAV l++[.str x.k])=strsAV (allP x.k l):=by simp[H.strsAV]
 have e1:(strsAV (allP x.k l)).length=l.length+2:=by rw[strsAV_length];simp
 have e2:List.take (l.length+2) (strsAV (allP x.k l))=strsAV (allP x.k l):=by rw[<-e1];exact List.take_length
 have d1:=sAV_len x.k tag l
 have d2:=sAV_all x.k tag l
 have d3:=sAV_pl x.k tag l
 have hl1:=hl.1
 have h1:1+l.length<=LIM:=by unfold LIM;omega
 have h2:1+l.length+1<=LIM:=by unfold LIM;omega
 have e5:1+l.length+1=l.length+2:=by omega
 have e6:(strsAV l).length=l.length:=strsAV_length l
 have e7:l.length+1+1=l.length+2:=by omega
 rw[show bytesAV (H.dig (H.inp tag (allP x.k l)))=sAV x.k tag l from rfl]at c66
 generalize sAV x.k tag l=z at *
 generalize strsAV (allP x.k l)=w at *
 generalize strsAV l=y at *
 rw[call_go (fd:=fd61) rfl]
 simp(disch:=((fail_if_success (intro _));omega)) only[go_sem,simprocAttr,↓reduceIte,↓Nat.reduceEqDiff,xx,fd61,m61,↓out16_eq,H.out16_len,H.out16_all,H.out16_pl,c66,e1,e2,d1,d2,d3,e6,h1,h2,e0,e5,e7,List.cons_append,List.nil_append,List.append_assoc]
end Go.Proofs.S30
namespace Go.Proofs.S30
open Go Go.Ev Go.Proofs
open Go.Proofs.S30.H (strsAV strsAV_length strsAV_get Sml GlK GlR)
variable {gl :Gl} {n:Nat}
theorem eqB_all :∀(a b:List UInt8),a.length=b.length->eqAll ((bytesAV a).zip (bytesAV b)) (fun p=>eqAV .it p.1 p.2)=some (decide (a=b))
 | [],[],_=>rfl
 | x::a,y::b,h=>by
   have ih:=eqB_all a b (by simpa using h)
   simp only[bytesAV,List.map_cons,List.zip_cons_cons,eqAll,eqAV,if_pos,Option.bind_some]
   simp only[bytesAV]at ih
   rw[ih]
   by_cases e:x=y
   . subst e;simp
   . have:((x.toNat:Int)==(y.toNat:Int))=false:=by
      rw[beq_eq_false_iff_ne];intro h2
      exact e (UInt8.toNat_inj.1 (by omega))
     rw[this];simp[e]
 | [],_::_,h=>by simp at h
 | _::_,[],h=>by simp at h
theorem eqB {a b:List UInt8}(ha:a.length=16)(hb:b.length=16):eqAV (.ar 16 .it) (.agg (bytesAV a)) (.agg (bytesAV b))=some (decide (a=b)):=by
 have:=eqB_all a b (by omega)
 rw[eqAV,if_pos ⟨by rw[bytesAV_length];exact ha,by rw[bytesAV_length];exact hb⟩]
 exact this
def fnK (l:List Ky)(p s:Int):Option Ky:=l.find? fun x=>x.p==p&&x.s==s
theorem fnK_is {l:List Ky}(hv:VR l){p s:Int}{k:Nat}(hk:Is l p s k):fnK l p s=some (yat l k):=by
 unfold fnK
 rw[List.find?_eq_some_iff_getElem]
 refine⟨by rw[Bool.and_eq_true,beq_iff_eq,beq_iff_eq];exact hk.2,k,hk.1,(yat_eq hk.1).symm,fun j hj=> ?_⟩
 have hj2:j<l.length:=by have:=hk.1;omega
 rw[Bool.not_eq_true',Bool.and_eq_false_iff]
 by_cases h1:l[j].p=p
 . right;rw[beq_eq_false_iff_ne];intro h2
   have:=is_one hv ⟨hj2,by rw[yat_eq hj2];exact h1,by rw[yat_eq hj2];exact h2⟩ hk
   omega
 . left;rw[beq_eq_false_iff_ne];exact h1
theorem fnK_no {l:List Ky}{p s:Int}(hk:∀k,¬Is l p s k):fnK l p s=none:=by
 unfold fnK
 rw[List.find?_eq_none]
 intro x hx
 obtain⟨j,hj,rfl⟩:=List.getElem_of_mem hx
 rw[Bool.and_eq_true,beq_iff_eq,beq_iff_eq]
 rintro ⟨h1,h2⟩
 exact hk j ⟨hj,by rw[yat_eq hj];exact h1,by rw[yat_eq hj];exact h2⟩
def ckE (l:List Ky)(p s tag:Int)(ps:List (List UInt8))(sl:List UInt8)(lo hi:Int):Int :=
 match fnK l p s with
 | none=>5
 | some x=>if cnt x lo hi=true then(if sea x.k tag ps=sl then 0 else 8)else 9
section
variable {f :Bool} {m:Sh} {l:List Ky} {p s:Int} {sl:List UInt8} {ps:List (List UInt8)} {fp:Bool}
theorem check_at [Nonempty (GlK gl)](h:10<=n)(hm:Mk l m)(hv:VR l)(hp:R64 p)(hs:R64 s)(tag:Int)(hps:Pts ps)(hsl:sl.length=16)(lo hi:Int) :
  call gl tab n 64 [.lst f m (ks l),i64 p,i64 s,i64 tag,.lst fp .sc (strsAV ps),.agg (bytesAV sl),.agg [i64 lo,i64 hi]] []=some (i64 (ckE l p s tag ps sl lo hi),[],[]):=by
 obtain⟨d,rfl⟩:=Nat.exists_eq_add_of_le' h
 have b1:(bytesAV sl).length=16:=by rw[bytesAV_length];exact hsl
 have b2:=H.bytes_all sl
 rcases @pfinds gl (d+9) (by omega) f m l hm hv p s hp hs with ⟨k,hk,c16⟩|⟨hno,c16⟩
 . have e:=fnK_is hv hk
   have hvk:=(hv.ok k hk.1).v.k
   have c62:=@counts_at gl (d+9) (by omega) (yat l k) lo hi
   have c23:=@make_at gl (d+9) _ (by omega) (yat l k) (by omega) tag fp ps hps
   have d1:=sAV_len (yat l k).k tag ps
   have d2:=sAV_all (yat l k).k tag ps
   have eq:=eqB (sea_len (yat l k).k tag ps) hsl
   rw[show bytesAV (sea (yat l k).k tag ps)=sAV (yat l k).k tag ps from rfl]at eq
   unfold ckE
   rw[e]
   simp only
   cases hc:cnt (yat l k) lo hi with
   | false =>
     rw[hc]at c62
     rw[call_go (fd:=fd64) rfl]
     simp(disch:=((fail_if_success (intro _));omega)) only[go_sem,simprocAttr,↓reduceIte,↓Nat.reduceEqDiff,xx,fd64,m64,c16,c62,b1,b2,Bool.false_eq_true]
   | true =>
     rw[hc]at c62
     by_cases hq:sea (yat l k).k tag ps=sl
     . rw[decide_eq_true hq]at eq
       rw[if_pos rfl,if_pos hq]
       generalize sAV (yat l k).k tag ps=z at *
       generalize bytesAV sl=w at *
       rw[call_go (fd:=fd64) rfl]
       simp(disch:=((fail_if_success (intro _));omega)) only[go_sem,simprocAttr,↓reduceIte,↓Nat.reduceEqDiff,xx,fd64,m64,c16,c62,b1,b2,c23,d1,d2,eq]
     . rw[decide_eq_false hq]at eq
       rw[if_pos rfl,if_neg hq]
       generalize sAV (yat l k).k tag ps=z at *
       generalize bytesAV sl=w at *
       rw[call_go (fd:=fd64) rfl]
       simp(disch:=((fail_if_success (intro _));omega)) only[go_sem,simprocAttr,↓reduceIte,↓Nat.reduceEqDiff,xx,fd64,m64,c16,c62,b1,b2,c23,d1,d2,eq]
 . unfold ckE
   rw[fnK_no hno]
   rw[call_go (fd:=fd64) rfl]
   simp(disch:=((fail_if_success (intro _));omega)) only[go_sem,simprocAttr,↓reduceIte,↓Nat.reduceEqDiff,xx,fd64,m64,c16,b1,b2]
end
end Go.Proofs.S30
