/-
  The program's digests. No condition.
-/
import Derived.Test.YthelhoikbegjlaaDoorW03G6x8
set_option linter.unusedVariables false
set_option linter.unusedSimpArgs false
set_option linter.unusedSectionVars false
namespace Go.Proofs.S03.H
open Go Go.Ev Go.Proofs Go.Proofs.S03
variable {gl :Gl} [Nonempty (GlK gl)]
def z64l :List AV:=List.replicate 64 (.int .u8 0)
theorem z64_def :List.replicate 64 (AV.int .u8 0)=z64l:=rfl
def z32l :List AV:=List.replicate 32 (.int .u8 0)
theorem z32_def :List.replicate 32 (AV.int .u8 0)=z32l:=rfl
def S34 (nb:Bool)(l:List (List UInt8))(s:Sm)(i:Nat):St :=
 ⟨[.set 17 (.int .i64 i),.set 16 (.int .i64 l.length),.set 15 (.lst nb .sc (strsAV l)),.set 5 (.ptr 5 []),.set 4 (.ptr 4 [])],
  [(5,.fix (.st [.ar 8 .sc,.ar 64 .sc,.sc]) s.av),(4,.fix (.ar 16 .sc) (.agg out16l))]⟩
def L34 :MC:=match m37 with
 | .seq _ (.seq _ (.seq (.seq _ (.block _ (.loop _ b))) _))=>b
 | _=>.skip
def K34 :List Kp:=[.slot 4,.slot 5,.slot 15,.slot 16,.slot 17,.key 4,.key 5]
theorem loop34 (F:Ev.Cl)(nb:Bool)(t:Int)(l:List (List UInt8))(h:Sml l)(s1:Sm)(hr1:Reps s1 [ub (BitVec.ofInt 8 t)])
  (c48:∀s:List UInt8,s.length<2^35->F 63 [.str s] []=some (.sl 20000 [] 0 (encB s).length,[],[.grow .sc (bytesAV (encB s))]))
  (c32:∀(s:Sm) (m x:List UInt8),Reps s m->m.length+x.length<2^60->∃s',Reps s' (m++x)/\F 62 [s.av,.str x] []=some (s'.av,[],[])) :
  ∃s,Reps s (inp t l)/\∀st,clean K34 st=some (S34 nb l s1 0)->iter (evC gl F L34) K34 LF st=evC gl F L34 (S34 nb l s l.length):=by
 have h1:=h.1
 have hstep:∀i st,i<l.length->(∃s,Reps s (inp t (l.take i))/\st=S34 nb l s i)->∃st',contK K34 (evC gl F L34 st)=some st'/\∃s,Reps s (inp t (l.take (i+1)))/\st'=S34 nb l s (i+1):=by
  rintro i _ hi ⟨s,hs,rfl⟩
  have h2:=sml_get h hi
  have h3:=inp_len (t:=t) (sml_take h i)
  have h4:=encB_len l[i]
  have c1:=c48 l[i] (by omega)
  obtain⟨s2,hr2,c2⟩:=c32 s _ (encB l[i]) hs (by omega)
  rw[<-inp_snoc t l i hi]at hr2
  refine⟨_,?_,s2,hr2,rfl⟩
  have hgi:=strsAV_get hi
  have hbl:=hs.2.1
  have hbl2:=hr2.2.1
  simp only[Sm.av,H8.av]at c2
  generalize encB l[i]=q at *
  simp(disch:=((fail_if_success (intro _));omega)) only[go_sem,simprocAttr,↓reduceIte,↓Nat.reduceEqDiff,xx,L34,m37,K34,S34,Sm.av,H8.av,hgi,strsAV_length,c1,c2,bytesAV_length,bytes_all,hbl,hbl2,out16_len]
 have hend:∀st,(∃s,Reps s (inp t (l.take l.length))/\st=S34 nb l s l.length)->isEx (evC gl F L34 st)=true:=by
  rintro _ ⟨s,hs,rfl⟩
  simp(disch:=((fail_if_success (intro _));omega)) only[go_sem,simprocAttr,↓reduceIte,↓Nat.reduceEqDiff,xx,L34,m37,S34]
 obtain⟨s',⟨s,hs,rfl⟩,e⟩:=iter_inv (f:=evC gl F L34) (ks:=K34) (fun i st=>∃s,Reps s (inp t (l.take i))/\st=S34 nb l s i) l.length (by unfold LF;omega) ⟨s1,hr1,rfl⟩ hstep hend
 rw[List.take_length]at hs
 exact⟨s,hs,e⟩
theorem of_at {n:Nat}(hn:5<=n)(t:Int)(nb:Bool)(l:List (List UInt8))(h:Sml l):call gl tab (n+1) 37 [.int .i64 t,.lst nb .sc (strsAV l)] []=some (.agg (bytesAV (dig (inp t l))),[],[]):=by
 have h1:=h.1
 have hb:=@sbegin_at gl _ n (by omega)
 have hil:=inp_len (t:=t) h
 obtain⟨s1,hr1,ha1⟩:=sadd_at (gl:=gl) (n:=n) (by omega) s0 [] [ub (BitVec.ofInt 8 t)] reps0 (by simp)
 rw[List.nil_append]at hr1
 have hbl1:=hr1.2.1
 obtain⟨s,hs,e⟩:=loop34 (gl:=gl) (call gl tab n) nb t l h s1 hr1 (fun s hs=>by
  obtain⟨d,rfl⟩:=Nat.exists_eq_add_of_le' (show 2<=n by omega)
  exact bytes48_ok d s hs) (fun s m x hs hm=>sadd_at (by omega) s m x hs hm)
 simp only[L34,m37,K34]at e
 rw[call_go (fd:=fd37) rfl]
 have hub:UInt8.ofNat ((((BitVec.ofInt 8 t).toNat:Nat):Int)).toNat=ub (BitVec.ofInt 8 t):=by
  rw[Int.toNat_natCast];apply UInt8.toBitVec_inj.1
  show BitVec.ofNat 8 _=_
  rw[BitVec.ofNat_toNat,BitVec.setWidth_eq];rfl
 have hub2:UInt8.ofNat (BitVec.ofInt 8 t).toNat=ub (BitVec.ofInt 8 t):=by rw[Int.toNat_natCast]at hub;exact hub
 simp only[Sm.av,H8.av]at hb ha1
 have hb0:s0.blk.length=64:=by simp[s0]
 simp(disch:=((fail_if_success (intro _));omega)) only[go_sem,simprocAttr,↓reduceIte,↓Nat.reduceEqDiff,xx,fd37,m37,↓z64_def,↓z32_def,↓out16_def,hb,ha1,bytesOf,Ev.byteOf,hub,hub2,noImms_bytesAV,bytesAV_length,bytes_all,hbl1,hb0]
 rw[e _ (by simp(disch:=((fail_if_success (intro _));omega)) only[go_sem,simprocAttr,↓reduceIte,↓Nat.reduceEqDiff,xx,S34,Sm.av,H8.av,bytesAV_length,strsAV_length])]
 have hsum:=ssum_at (gl:=gl) hn s _ hs (by omega)
 have hl:=hashL_len (inp t l)
 have hdl:=dig_len (inp t l)
 have hdd:List.take 16 (bytesAV (hashL (inp t l)))=bytesAV (dig (inp t l)):=by rw[bytesAV_tk];rfl
 have hbl:=hs.2.1
 simp only[Sm.av,H8.av]at hsum
 simp(disch:=((fail_if_success (intro _));omega)) only[go_sem,simprocAttr,↓reduceIte,↓Nat.reduceEqDiff,xx,S34,Sm.av,H8.av,bytesAV_length,bytes_all,hbl,hsum,noImms_bytesAV,hl,hdl,hdd,out16_len]
end Go.Proofs.S03.H
namespace Go.Mk
def spl (n:Nat):Nat:=2^(n-1).log2
theorem spl_lt {n:Nat}(h:2<=n):spl n<n:=by
 have:=Nat.log2_self_le (show n-1≠0 by omega)
 unfold spl;omega
theorem spl_pos (n:Nat):0<spl n:=Nat.two_pow_pos _
theorem spl_ge {n:Nat}:n<=2*spl n:=by
 have:=@Nat.lt_log2_self (n-1)
 unfold spl
 rw[Nat.pow_succ]at this
 omega
theorem spl_le {n m:Nat}(h:2<=n)(hn:n<=2^(m+1)):spl n<=2^m:=by
 have h1:=spl_lt h
 unfold spl at *
 refine Nat.pow_le_pow_right (by decide) ?_
 rcases Nat.lt_or_ge m (n-1).log2 with h2|h2
 . have:=Nat.pow_le_pow_right (show 0<2 by decide) (show m+1<=(n-1).log2 by omega)
   omega
 . exact h2
theorem spl_unique {n k:Nat}(h1:2^k<n)(h2:n<=2^(k+1)):spl n=2^k:=by
 unfold spl
 congr 1
 rw[Nat.log2_eq_iff (by have:=Nat.two_pow_pos k;omega)]
 omega
theorem spl_pow (n:Nat):∃k,spl n=2^k:=⟨_,rfl⟩
section
variable {D :Type} (node:D->D->D) (emp:D)
def rt (l:List D):D :=
 if h:2<=l.length then node (rt (l.take (spl l.length))) (rt (l.drop (spl l.length)))else l.headD emp
termination_by l.length
decreasing_by
 . have:=spl_lt h;rw[List.length_take];omega
 . have:=spl_pos l.length;rw[List.length_drop];omega
variable {node emp}
theorem rt_two {l:List D}(h:2<=l.length):rt node emp l=node (rt node emp (l.take (spl l.length))) (rt node emp (l.drop (spl l.length))):=by rw[rt,dif_pos h]
theorem rt_nil :rt node emp []=emp:=by rw[rt,dif_neg (by simp)];rfl
theorem rt_one (d:D):rt node emp [d]=d:=by rw[rt,dif_neg (by simp)];rfl
theorem rt_len1 {l:List D}(h:l.length=1):rt node emp l=l.headD emp:=by rw[rt,dif_neg (by omega)]
variable (node emp)
def incl (l:List D)(i:Nat):List D :=
 if h:2<=l.length then
  if i<spl l.length then incl (l.take (spl l.length)) i++[rt node emp (l.drop (spl l.length))]
  else incl (l.drop (spl l.length)) (i-spl l.length)++[rt node emp (l.take (spl l.length))]
 else []
termination_by l.length
decreasing_by
 . have:=spl_lt h;rw[List.length_take];omega
 . have:=spl_pos l.length;rw[List.length_drop];omega
variable {node emp}
theorem incl_one {l:List D}{i:Nat}(h:l.length<2):incl node emp l i=[]:=by rw[incl,dif_neg (by omega)]
theorem incl_lo {l:List D}{i:Nat}(h:2<=l.length)(hi:i<spl l.length):incl node emp l i=incl node emp (l.take (spl l.length)) i++[rt node emp (l.drop (spl l.length))]:=by rw[incl,dif_pos h,if_pos hi]
theorem incl_hi {l:List D}{i:Nat}(h:2<=l.length)(hi:¬i<spl l.length):incl node emp l i=incl node emp (l.drop (spl l.length)) (i-spl l.length)++[rt node emp (l.take (spl l.length))]:=by rw[incl,dif_pos h,if_neg hi]
def dep (i n:Nat):Nat :=
 if h:2<=n then(if i<spl n then dep i (spl n)else dep (i-spl n) (n-spl n))+1 else 0
termination_by n
decreasing_by
 . exact spl_lt h
 . have:=spl_pos n;omega
theorem dep_one {i n:Nat}(h:n<2):dep i n=0:=by rw[dep,dif_neg (by omega)]
theorem dep_lo {i n:Nat}(h:2<=n)(hi:i<spl n):dep i n=dep i (spl n)+1:=by rw[dep,dif_pos h,if_pos hi]
theorem dep_hi {i n:Nat}(h:2<=n)(hi:¬i<spl n):dep i n=dep (i-spl n) (n-spl n)+1:=by rw[dep,dif_pos h,if_neg hi]
variable (node)
def cl (z leaf:D)(i n:Nat)(p:List D):D :=
 if h:2<=n then
  if i<spl n then node (cl z leaf i (spl n) p.dropLast) (p.getLastD z)else node (p.getLastD z) (cl z leaf (i-spl n) (n-spl n) p.dropLast)
 else leaf
termination_by n
decreasing_by
 . exact spl_lt h
 . have:=spl_pos n;omega
variable {node}
theorem cl_one {z leaf:D}{i n:Nat}{p:List D}(h:n<2):cl node z leaf i n p=leaf:=by rw[cl,dif_neg (by omega)]
theorem cl_lo {z leaf:D}{i n:Nat}{p:List D}(h:2<=n)(hi:i<spl n):cl node z leaf i n p=node (cl node z leaf i (spl n) p.dropLast) (p.getLastD z):=by rw[cl,dif_pos h,if_pos hi]
theorem cl_hi {z leaf:D}{i n:Nat}{p:List D}(h:2<=n)(hi:¬i<spl n):cl node z leaf i n p=node (p.getLastD z) (cl node z leaf (i-spl n) (n-spl n) p.dropLast):=by rw[cl,dif_pos h,if_neg hi]
theorem getLastD_snoc (p:List D)(d z:D):(p++[d]).getLastD z=d:=by simp
theorem incl_ok (z:D):∀(m:Nat) (l:List D) (i:Nat),l.length<=m->i<l.length->(incl node emp l i).length=dep i l.length/\cl node z (l.getD i emp) i l.length (incl node emp l i)=rt node emp l
 | 0,l,i,hm,hi=>by omega
 | m+1,l,i,hm,hi=>by
   by_cases h2:2<=l.length
   case neg =>
    have h1:l.length=1:=by omega
    obtain rfl:i=0:=by omega
    rw[incl_one (by omega),dep_one (by omega),cl_one (by omega),rt_len1 h1]
    refine⟨rfl,?_⟩
    match l,h1 with
    | [d],_=>rfl
   have hs:=spl_lt h2
   have hp:=spl_pos l.length
   have ht:(l.take (spl l.length)).length=spl l.length:=by rw[List.length_take];omega
   have hd:(l.drop (spl l.length)).length=l.length-spl l.length:=List.length_drop
   by_cases hk:i<spl l.length
   . obtain⟨a1,a2⟩:=incl_ok z m (l.take (spl l.length)) i (by omega) (by omega)
     rw[ht]at a1 a2
     rw[incl_lo h2 hk,dep_lo h2 hk,cl_lo h2 hk,rt_two h2,List.length_append,a1,List.dropLast_concat,getLastD_snoc]
     refine⟨rfl,?_⟩
     rw[<-a2]
     congr 2
     rw[List.getD_eq_getElem?_getD,List.getD_eq_getElem?_getD,List.getElem?_take,if_pos hk]
   . obtain⟨a1,a2⟩:=incl_ok z m (l.drop (spl l.length)) (i-spl l.length) (by omega) (by omega)
     rw[hd]at a1 a2
     rw[incl_hi h2 hk,dep_hi h2 hk,cl_hi h2 hk,rt_two h2,List.length_append,a1,List.dropLast_concat,getLastD_snoc]
     refine⟨rfl,?_⟩
     rw[<-a2]
     congr 2
     rw[List.getD_eq_getElem?_getD,List.getD_eq_getElem?_getD,List.getElem?_drop,show spl l.length+(i-spl l.length)=i by omega]
variable (node emp)
def cons (l:List D)(m:Nat)(mark:Bool):List D :=
 if m=l.length then(if mark then []else [rt node emp l])
 else if h:2<=l.length then
  if m<=spl l.length then cons (l.take (spl l.length)) m mark++[rt node emp (l.drop (spl l.length))]
  else cons (l.drop (spl l.length)) (m-spl l.length) false++[rt node emp (l.take (spl l.length))]
 else []
termination_by l.length
decreasing_by
 . have:=spl_lt h;rw[List.length_take];omega
 . have:=spl_pos l.length;rw[List.length_drop];omega
variable {node emp}
theorem cons_all {l:List D}{mark:Bool}:cons node emp l l.length mark=if mark then []else [rt node emp l]:=by rw[cons,if_pos rfl]
theorem cons_lo {l:List D}{m:Nat}{mark:Bool}(h:2<=l.length)(hn:m≠l.length)(hm:m<=spl l.length):cons node emp l m mark=cons node emp (l.take (spl l.length)) m mark++[rt node emp (l.drop (spl l.length))]:=by rw[cons,if_neg hn,dif_pos h,if_pos hm]
theorem cons_hi {l:List D}{m:Nat}{mark:Bool}(h:2<=l.length)(hn:m≠l.length)(hm:¬m<=spl l.length):cons node emp l m mark=cons node emp (l.drop (spl l.length)) (m-spl l.length) false++[rt node emp (l.take (spl l.length))]:=by rw[cons,if_neg hn,dif_pos h,if_neg hm]
def depC (m n:Nat)(mark:Bool):Nat :=
 if m=n then(if mark then 0 else 1)
 else if h:2<=n then(if m<=spl n then depC m (spl n) mark else depC (m-spl n) (n-spl n) false)+1
 else 0
termination_by n
decreasing_by
 . exact spl_lt h
 . have:=spl_pos n;omega
theorem depC_all {n:Nat}{mark:Bool}:depC n n mark=if mark then 0 else 1:=by rw[depC,if_pos rfl]
theorem depC_lo {m n:Nat}{mark:Bool}(h:2<=n)(hn:m≠n)(hm:m<=spl n):depC m n mark=depC m (spl n) mark+1:=by rw[depC,if_neg hn,dif_pos h,if_pos hm]
theorem depC_hi {m n:Nat}{mark:Bool}(h:2<=n)(hn:m≠n)(hm:¬m<=spl n):depC m n mark=depC (m-spl n) (n-spl n) false+1:=by rw[depC,if_neg hn,dif_pos h,if_neg hm]
variable (node)
def clC (z old:D)(m n:Nat)(mark:Bool)(p:List D):D×D :=
 if m=n then(if mark then(old,old)else(p.getLastD z,p.getLastD z))
 else if h:2<=n then
  if m<=spl n then((clC z old m (spl n) mark p.dropLast).1,node (clC z old m (spl n) mark p.dropLast).2 (p.getLastD z))
  else(node (p.getLastD z) (clC z old (m-spl n) (n-spl n) false p.dropLast).1,node (p.getLastD z) (clC z old (m-spl n) (n-spl n) false p.dropLast).2)
 else(z,z)
termination_by n
decreasing_by
 all_goals first|exact spl_lt h|(have:=spl_pos n;omega)
variable {node}
theorem clC_all {z old:D}{n:Nat}{mark:Bool}{p:List D}:clC node z old n n mark p=if mark then(old,old)else(p.getLastD z,p.getLastD z):=by rw[clC,if_pos rfl]
theorem clC_lo {z old:D}{m n:Nat}{mark:Bool}{p:List D}(h:2<=n)(hn:m≠n)(hm:m<=spl n):clC node z old m n mark p=((clC node z old m (spl n) mark p.dropLast).1,node (clC node z old m (spl n) mark p.dropLast).2 (p.getLastD z)):=by rw[clC,if_neg hn,dif_pos h,if_pos hm]
theorem clC_hi {z old:D}{m n:Nat}{mark:Bool}{p:List D}(h:2<=n)(hn:m≠n)(hm:¬m<=spl n):clC node z old m n mark p=(node (p.getLastD z) (clC node z old (m-spl n) (n-spl n) false p.dropLast).1,node (p.getLastD z) (clC node z old (m-spl n) (n-spl n) false p.dropLast).2):=by rw[clC,if_neg hn,dif_pos h,if_neg hm]
def mrk (m n:Nat):Bool :=
 if m=n then true else if h:2<=n then(if m<=spl n then mrk m (spl n)else false)else true
termination_by n
decreasing_by exact spl_lt h
theorem take_take' {l:List D}{m k:Nat}(h:m<=k):(l.take k).take m=l.take m:=by rw[List.take_take,Nat.min_eq_left h]
theorem rt_take_hi {l:List D}{m:Nat}(h:2<=l.length)(h1:spl l.length<m)(h2:m<=l.length) :
  rt node emp (l.take m)=node (rt node emp (l.take (spl l.length))) (rt node emp ((l.drop (spl l.length)).take (m-spl l.length))):=by
 have hl:(l.take m).length=m:=by rw[List.length_take];omega
 obtain⟨k,hk⟩:=spl_pow l.length
 have hs:spl m=spl l.length:=by
  rw[hk]
  have:=spl_ge (n:=l.length)
  exact spl_unique (by omega) (by rw[Nat.pow_succ];omega)
 have hp:=spl_pos l.length
 rw[rt_two (by omega),hl,hs,take_take' (by omega),List.drop_take]
theorem cons_ok (z old:D):∀(q:Nat) (l:List D) (m:Nat) (mark:Bool),l.length<=q->1<=m->m<=l.length->(mark=true->mrk m l.length=true->old=rt node emp (l.take m)) ->
  (cons node emp l m mark).length=depC m l.length mark/\clC node z old m l.length mark (cons node emp l m mark)=(rt node emp (l.take m),rt node emp l)
 | 0,l,m,mark,hq,h1,h2,ho=>by omega
 | q+1,l,m,mark,hq,h1,h2,ho=>by
   by_cases hn:m=l.length
   . subst hn
     rw[cons_all,depC_all,clC_all,List.take_length]
     cases mark with
     | true =>
       have:=ho rfl (by rw[mrk,if_pos rfl])
       rw[List.take_length]at this
       simp[this]
     | false=>simp
   have h3:2<=l.length:=by omega
   have hs:=spl_lt h3
   have hp:=spl_pos l.length
   have ht:(l.take (spl l.length)).length=spl l.length:=by rw[List.length_take];omega
   have hd:(l.drop (spl l.length)).length=l.length-spl l.length:=List.length_drop
   by_cases hk:m<=spl l.length
   . obtain⟨a1,a2⟩:=cons_ok z old q (l.take (spl l.length)) m mark (by omega) h1 (by omega) (fun h4 h5=>by
      rw[take_take' hk]
      refine ho h4 ?_
      rw[mrk,if_neg hn,dif_pos h3,if_pos hk]
      rw[ht]at h5;exact h5)
     rw[ht]at a1 a2
     rw[cons_lo h3 hn hk,depC_lo h3 hn hk,clC_lo h3 hn hk,rt_two h3,List.length_append,a1,List.dropLast_concat,getLastD_snoc,a2,take_take' hk]
     exact⟨rfl,rfl⟩
   . obtain⟨a1,a2⟩:=cons_ok z old q (l.drop (spl l.length)) (m-spl l.length) false (by omega) (by omega) (by omega) (fun h4=>by cases h4)
     rw[hd]at a1 a2
     rw[cons_hi h3 hn hk,depC_hi h3 hn hk,clC_hi h3 hn hk,rt_take_hi h3 (by omega) h2,List.length_append,a1,List.dropLast_concat,getLastD_snoc,a2,rt_two (node:=node) (emp:=emp) h3]
     exact⟨rfl,rfl⟩
theorem mrk_pow :∀(q n m:Nat),n<=q->1<=m->m<n->mrk m n=true->∃k,m=2^k
 | 0,n,m,hq,h1,h2,h=>by omega
 | q+1,n,m,hq,h1,h2,h=>by
   have h3:2<=n:=by omega
   rw[mrk,if_neg (by omega),dif_pos h3]at h
   by_cases hk:m<=spl n
   . rw[if_pos hk]at h
     by_cases e:m=spl n
     . obtain⟨k,hk⟩:=spl_pow n;exact⟨k,e.trans hk⟩
     . exact mrk_pow q (spl n) m (by have:=spl_lt h3;omega) h1 (by omega) h
   . rw[if_neg hk]at h;cases h
def lows (ps:List Nat)(a:Nat):List Nat:=ps.filter fun x=>decide (x<a)
def highs (ps:List Nat)(a:Nat):List Nat:=ps.filter fun x=>decide (a<=x)
variable (node emp)
def mny (l:List D)(a:Nat)(ps:List Nat):List D :=
 if ps=[]then [rt node emp l]
 else if h:2<=l.length then mny (l.take (spl l.length)) a (lows ps (a+spl l.length))++mny (l.drop (spl l.length)) (a+spl l.length) (highs ps (a+spl l.length))
 else []
termination_by l.length
decreasing_by
 . have:=spl_lt h;rw[List.length_take];omega
 . have:=spl_pos l.length;rw[List.length_drop];omega
variable {node emp}
theorem mny_nil {l:List D}{a:Nat}:mny node emp l a []=[rt node emp l]:=by rw[mny,if_pos rfl]
theorem mny_one {l:List D}{a:Nat}{ps:List Nat}(hp:ps≠[])(h:l.length<2):mny node emp l a ps=[]:=by rw[mny,if_neg hp,dif_neg (by omega)]
theorem mny_two {l:List D}{a:Nat}{ps:List Nat}(hp:ps≠[])(h:2<=l.length):mny node emp l a ps=mny node emp (l.take (spl l.length)) a (lows ps (a+spl l.length))++mny node emp (l.drop (spl l.length)) (a+spl l.length) (highs ps (a+spl l.length)):=by rw[mny,if_neg hp,dif_pos h]
variable (node)
def wlk (z:D)(a n:Nat)(ps:List Nat)(fs p:List D):D×List D×List D :=
 if ps=[]then(p.headD z,fs,p.tail)
 else if h:2<=n then
  let x:=wlk z a (spl n) (lows ps (a+spl n)) fs p
  let y:=wlk z (a+spl n) (n-spl n) (highs ps (a+spl n)) x.2.1 x.2.2
  (node x.1 y.1,y.2.1,y.2.2)
 else(fs.headD z,fs.tail,p)
termination_by n
decreasing_by
 . exact spl_lt h
 . have:=spl_pos n;omega
def cntW (a n:Nat)(ps:List Nat):Nat×Nat :=
 if ps=[]then(0,1)
 else if h:2<=n then
  ((cntW a (spl n) (lows ps (a+spl n))).1+(cntW (a+spl n) (n-spl n) (highs ps (a+spl n))).1,(cntW a (spl n) (lows ps (a+spl n))).2+(cntW (a+spl n) (n-spl n) (highs ps (a+spl n))).2)
 else(1,0)
termination_by n
decreasing_by
 all_goals first|exact spl_lt h|(have:=spl_pos n;omega)
variable {node}
theorem wlk_nil {z:D}{a n:Nat}{fs p:List D}:wlk node z a n [] fs p=(p.headD z,fs,p.tail):=by rw[wlk,if_pos rfl]
theorem wlk_one {z:D}{a n:Nat}{ps:List Nat}{fs p:List D}(hp:ps≠[])(h:n<2):wlk node z a n ps fs p=(fs.headD z,fs.tail,p):=by rw[wlk,if_neg hp,dif_neg (by omega)]
theorem wlk_two {z:D}{a n:Nat}{ps:List Nat}{fs p:List D}(hp:ps≠[])(h:2<=n):wlk node z a n ps fs p =
  (node (wlk node z a (spl n) (lows ps (a+spl n)) fs p).1 (wlk node z (a+spl n) (n-spl n) (highs ps (a+spl n)) (wlk node z a (spl n) (lows ps (a+spl n)) fs p).2.1 (wlk node z a (spl n) (lows ps (a+spl n)) fs p).2.2).1,
    (wlk node z (a+spl n) (n-spl n) (highs ps (a+spl n)) (wlk node z a (spl n) (lows ps (a+spl n)) fs p).2.1 (wlk node z a (spl n) (lows ps (a+spl n)) fs p).2.2).2):=by rw[wlk,if_neg hp,dif_pos h]
theorem cntW_nil {a n:Nat}:cntW a n []=(0,1):=by rw[cntW,if_pos rfl]
theorem cntW_one {a n:Nat}{ps:List Nat}(hp:ps≠[])(h:n<2):cntW a n ps=(1,0):=by rw[cntW,if_neg hp,dif_neg (by omega)]
theorem cntW_two {a n:Nat}{ps:List Nat}(hp:ps≠[])(h:2<=n):cntW a n ps =
  ((cntW a (spl n) (lows ps (a+spl n))).1+(cntW (a+spl n) (n-spl n) (highs ps (a+spl n))).1,(cntW a (spl n) (lows ps (a+spl n))).2+(cntW (a+spl n) (n-spl n) (highs ps (a+spl n))).2):=by rw[cntW,if_neg hp,dif_pos h]
end
end Go.Mk
