/-
  The evaluator: a big-step, deterministic evaluation of the model's code over an abstract heap. No condition: definitions only.
-/
import Derived.RangeFuncIn
import Derived.DefersIn
set_option linter.all false
namespace Go.Ev
open Go
inductive Sh where
 | sc
 | st (fs:List Sh)
 | ar (n:Nat) (e:Sh)
 deriving Inhabited
mutual
def Sh.size :Sh->Nat
 | .sc=>1
 | .st fs=>Sh.sizes fs
 | .ar n e=>n*e.size
def Sh.sizes :List Sh->Nat
 | []=>0
 | s::l=>s.size+Sh.sizes l
end
inductive AV where
 | unk
 | bool (b:Bool)
 | int (k:IntKind) (n:Int)
 | str (l:List UInt8)
 | s (v:Value)
 | agg (l:List AV)
 | aggR (l:List AV)
 | tup (l:List AV)
 | lst (full:Bool) (sh:Sh) (l:List AV)
 | sl (k:Nat) (p:List Nat) (off len:Nat)
 | ptr (k:Nat) (p:List Nat)
 | arp (k:Nat) (p:List Nat) (off n:Nat)
 | cp (sh:Sh) (a:AV)
 | fn (f:Nat) (caps:List AV)
 | yld (k:Nat)
 | mp (k:Nat)
 deriving Inhabited
namespace AV
def plain :AV->Bool
 | .bool _| .int _ _| .str _| .s _| .agg _| .lst _ _ _| .cp _ _=>true
 | _=>false
def plains :List AV->Bool
 | []=>true
 | a::l=>a.plain&&plains l
def scalar :AV->Bool
 | .agg _| .aggR _| .tup _| .unk=>false
 | _=>true
def known :AV->Bool
 | .tup _| .unk=>false
 | _=>true
def knowns :List AV->Bool
 | []=>true
 | a::l=>a.known&&knowns l
def scalars :List AV->Bool
 | []=>true
 | a::l=>a.scalar&&scalars l
def isAgg :AV->Bool
 | .agg _| .aggR _=>true
 | _=>false
def kids :AV->List AV
 | .agg l| .aggR l=>l
 | _=>[]
def mk (l:List AV):AV:=if plains l then .agg l else .aggR l
mutual
def flat :AV->List AV
 | .agg l=>flats l
 | .aggR l=>flats l
 | a=>[a]
def flats :List AV->List AV
 | []=>[]
 | a::l=>flat a++flats l
end
def nav :AV->List Nat->Option AV
 | a,[]=>some a
 | .agg l,i::p=>(l[i]?).bind fun x=>nav x p
 | .aggR l,i::p=>(l[i]?).bind fun x=>nav x p
 | _,_::_=>none
def put (a:AV)(l:List AV)(i:Nat)(x:AV):AV :=
 match a with
 | .agg _=>if x.plain then .agg (l.set i x)else .aggR (l.set i x)
 | _=>.aggR (l.set i x)
def setNav :AV->List Nat->AV->Option AV
 | _,[],x=>some x
 | .agg l,i::p,x=>(l[i]?).bind fun y=>(setNav y p x).map fun y'=>if y'.plain then .agg (l.set i y')else .aggR (l.set i y')
 | .aggR l,i::p,x=>(l[i]?).bind fun y=>(setNav y p x).map fun y'=>.aggR (l.set i y')
 | _,_::_,_=>none
mutual
def refs :AV->List Nat
 | .aggR l=>refss l
 | .tup l=>refss l
 | .fn _ l=>refss l
 | .sl k _ _ _=>[k]
 | .ptr k _=>[k]
 | .arp k _ _ _=>[k]
 | .yld k=>[k]
 | .mp k=>[k]
 | _=>[]
def refss :List AV->List Nat
 | []=>[]
 | a::l=>refs a++refss l
end
end AV
mutual
def zap :Sh->AV->Bool
 | .sc,a=>a.scalar
 | .st fs,a=>a.isAgg&&za5 fs a.kids
 | .ar n e,a=>a.isAgg&&(a.kids.length==n)&&a.kids.all (zap e)
def za5 :List Sh->List AV->Bool
 | [],[]=>true
 | s::fs,a::l=>zap s a&&za5 fs l
 | _,_=>false
end
def Sh.sub :Sh->List Nat->Option Sh
 | s,[]=>some s
 | .st fs,i::p=>(fs[i]?).bind fun s=>Sh.sub s p
 | .ar n e,i::p=>if i<n then Sh.sub e p else none
 | .sc,_::_=>none
def Sh.off :Sh->List Nat->Option Nat
 | _,[]=>some 0
 | .st fs,i::p=>(fs[i]?).bind fun s=>(Sh.off s p).map fun o=>Sh.sizes (fs.take i)+o
 | .ar n e,i::p=>if i<n then(Sh.off e p).map fun o=>i*e.size+o else none
 | .sc,_::_=>none
inductive Ek where
 | bo
 | it
 | sg
 | st (fs:List Ek)
 | ar (n:Nat) (e:Ek)
 deriving Inhabited
inductive Ex where
 | norm
 | exit (id:Nat)
 | ret
 deriving DecidableEq,Inhabited
structure RInfo where
 params:Array Tmp
 assign:Code
 body:Code
 slots:List Nat
 nt:Nat
 deriving Inhabited
inductive RS where
 | ready
 | busy
 | done (e:Ex)
 deriving Inhabited
inductive OB where
 | fix (sh:Sh) (a:AV)
 | grow (sh:Sh) (els:List AV)
 | dead
 | lp (rid:Nat) (vals:List AV) (s:RS)
 | mp (es:List (AV×AV×Nat)) (clock:Nat)
instance : Inhabited OB:=⟨.dead⟩
abbrev Hp :=List (Nat×OB)
def Hp.get :Hp->Nat->Option OB
 | [],_=>none
 | (k,o)::r,j=>if k=j then some o else Hp.get r j
inductive FE where
 | set (i:Nat) (v:AV)
 | clr (lo hi:Nat)
 deriving Inhabited
abbrev Fr :=List FE
def Fr.get :Fr->Nat->AV
 | [],_=>.unk
 | .set i v::r,j=>if i=j then v else Fr.get r j
 | .clr lo hi::r,j=>if lo<=j/\j<hi then .unk else Fr.get r j
structure St where
 fr:Fr
 hp:Hp
 deriving Inhabited
inductive Opd where
 | t (i:Nat)
 | c (a:AV)
 | g (i:Nat)
 | f (i:Nat)
 deriving Inhabited
structure Gl where
 tbl:Nat->Option (Sh×AV)
 ri:Nat->Option RInfo
def Gl.none :Gl:=⟨fun _=>.none,fun _=>.none⟩
def Opd.val (gl:Gl)(fr:Fr):Opd->AV
 | .t i=>fr.get i
 | .c a=>a
 | .g i=>match gl.tbl i with|some (sh,a)=>.cp sh a|none=>.unk
 | .f i=>.fn i []
inductive Mode where
 | lend
 | imp
 deriving Inhabited
inductive MK where
 | mk
 | look (ok:Bool)
 | upd
 | ent
 | sto
 | del
 | len
 deriving Inhabited
def MK.w :MK->Bool
 | .upd| .ent| .sto| .del=>true
 | _=>false
inductive MOp where
 | mov (x:Opd)
 | pick (c a b:Opd)
 | alloc (sh:Sh) (z:AV)
 | box (sh:Sh) (x:Opd)
 | build (sh:Sh) (z:AV) (zj1:List (Nat×Opd))
 | bslice (sh:Sh) (z:AV) (len:Nat) (zj1:List (Nat×Opd))
 | lits (sh:Sh) (z:AV) (len:Nat) (zj1:List (Nat×Opd))
 | load (agg:Bool) (n:Nat) (x:Opd)
 | store (n:Nat) (p x:Opd)
 | bin (op:BinOp) (x y:Opd)
 | binB (op:BinOp) (x y:Opd)
 | eqA (neg:Bool) (sh:Sh) (k:Ek) (x y:Opd)
 | un (op:UnOp) (x:Opd)
 | conv (k:IntKind) (x:Opd)
 | s2b (x:Opd)
 | b2s (x:Opd)
 | idc (x:Opd)
 | strc (x:Opd)
 | arrAt (n:Nat) (x:Opd)
 | mkfn (f:Nat) (caps:List Opd)
 | mkslice (sh:Sh) (z:AV) (bytes:Nat) (l c:Opd)
 | mkarr (sh:Sh) (z:AV) (bytes:Nat) (l c:Opd)
 | slStr (x:Opd) (lo hi:Option Opd)
 | slSl (esz:Nat) (x:Opd) (lo hi mx:Option Opd)
 | slArr (n esz:Nat) (x:Opd) (lo hi:Option Opd)
 | faddr (i off:Nat) (x:Opd)
 | iaddrA (n esz:Nat) (x i:Opd)
 | iaddrS (esz:Nat) (x i:Opd)
 | field (sh:Sh) (i:Nat) (x:Opd)
 | idxStr (x i:Opd)
 | idxArr (n:Nat) (e:Sh) (x i:Opd)
 | extr (x:Opd) (i:Nat)
 | nilck (x:Opd)
 | len (str:Bool) (x:Opd)
 | append (sh:Sh) (bytes:Nat) (x y:Opd)
 | copy (sh:Sh) (x y:Opd)
 | clear (sh:Sh) (z:AV) (x:Opd)
 | capl (x:Opd)
 | appmk (sh:Sh) (z:AV) (bytes:Nat) (x n:Opd)
 | mini (xs:List Opd)
 | maxi (xs:List Opd)
 | call (f:Nat) (args:List Opd) (m:Mode)
 | callv (f:Opd) (args:List Opd) (m:Mode)
 | mapop (k:MK) (kk:Nat) (z:AV) (xs:List Opd)
 deriving Inhabited
def LIM :Nat:=2^36
def zad (l:List UInt8):List AV:=l.map fun b=>.int .u8 b.toNat
def byteOf :AV->Option UInt8
 | .int .u8 n=>some (UInt8.ofNat n.toNat)
 | _=>none
def zhh :List AV->Option (List UInt8)
 | []=>some []
 | a::l=>(byteOf a).bind fun b=>(zhh l).map fun r=>b::r
def zar (op:BinOp)(k:IntKind)(a b:Int):Option AV :=
 match op with
 | .add=>some (.int k (k.wrap (a+b)))
 | .sub=>some (.int k (k.wrap (a-b)))
 | .mul=>some (.int k (k.wrap (a*b)))
 | .quo=>if b=0 then none else some (.int k (k.wrap (a.tdiv b)))
 | .rem=>if b=0 then none else some (.int k (a.tmod b))
 | .and=>some (.int k (k.wrap ((BitVec.ofInt k.bits a&&&BitVec.ofInt k.bits b).toNat)))
 | .or=>some (.int k (k.wrap ((BitVec.ofInt k.bits a|||BitVec.ofInt k.bits b).toNat)))
 | .xor=>some (.int k (k.wrap ((BitVec.ofInt k.bits a^^^BitVec.ofInt k.bits b).toNat)))
 | .andNot=>some (.int k (k.wrap ((BitVec.ofInt k.bits a&&& ~~~BitVec.ofInt k.bits b).toNat)))
 | .eql=>some (.bool (a==b))
 | .neq=>some (.bool (a != b))
 | .lss=>some (.bool (a<b))
 | .leq=>some (.bool (a<=b))
 | .gtr=>some (.bool (a>b))
 | .geq=>some (.bool (a>=b))
 | _=>none
def zbw (op:BinOp)(k:IntKind)(a b:Int):Option AV :=
 if b<0 then none else
 match op with
 | .shl=>some (.int k (k.wrap (a*2^(min b.toNat k.bits))))
 | .shr=>some (.int k (a.fdiv (2^(min b.toNat k.bits))))
 | _=>none
def zoz (op:BinOp)(a b:List UInt8):Option AV :=
 match op with
 | .add=>if a.length+b.length<=LIM then some (.str (a++b))else none
 | .eql=>some (.bool (a==b))
 | .neq=>some (.bool (!(a==b)))
 | .lss=>some (.bool (Op.bytesLess a b))
 | .leq=>some (.bool (Op.bytesLess a b||a==b))
 | .gtr=>some (.bool (!(Op.bytesLess a b||a==b)))
 | .geq=>some (.bool (!Op.bytesLess a b))
 | _=>none
def zgu (op:BinOp)(x y:AV):Option AV :=
 match x,y with
 | .int k a,.int k' b =>
   match op with
   | .shl=>zbw .shl k a b
   | .shr=>zbw .shr k a b
   | _=>if k=k' then zar op k a b else none
 | .str a,.str b=>zoz op a b
 | _,_=>none
def z5d (op:BinOp)(x y:AV):Option AV :=
 match x,y with
 | .bool a,.bool b=>match op with
   | .eql=>some (.bool (a==b))
   | .neq=>some (.bool (!(a==b)))
   | _=>none
 | _,_=>none
mutual
def eqAV :Ek->AV->AV->Option Bool
 | .it,.int k a,.int k' b=>if k=k' then some (a==b)else none
 | .bo,.bool a,.bool b=>some (a==b)
 | .sg,.str a,.str b=>some (a==b)
 | .st fs,.agg l,.agg m=>zm1 fs l m
 | .ar n e,.agg l,.agg m=>if l.length=n/\m.length=n then zu6 (l.zip m) (fun p=>eqAV e p.1 p.2)else none
 | _,_,_=>none
def zm1 :List Ek->List AV->List AV->Option Bool
 | [],[],[]=>some true
 | k::fs,a::l,b::m=>(eqAV k a b).bind fun t=>if t then zm1 fs l m else some false
 | _,_,_=>none
def zu6 :List (AV×AV)->(AV×AV->Option Bool)->Option Bool
 | [],_=>some true
 | p::r,f=>(f p).bind fun t=>if t then zu6 r f else some false
end
mutual
def Sh.beq :Sh->Sh->Bool
 | .sc,.sc=>true
 | .st fs,.st gs=>Sh.beqs fs gs
 | .ar n e,.ar m f=>n==m&&Sh.beq e f
 | _,_=>false
def Sh.beqs :List Sh->List Sh->Bool
 | [],[]=>true
 | s::l,t::m=>Sh.beq s t&&Sh.beqs l m
 | _,_=>false
end
def sub (l:List AV)(off len:Nat):List AV:=(l.drop off).take len
def za6 (hp:Hp):AV->Option (Sh×List AV)
 | .lst _ sh l=>some (sh,l)
 | .sl k p off len =>
   match hp.get k,p with
   | some (.grow sh els),[]=>if off+len<=els.length then some (sh,sub els off len)else none
   | some (.fix sh a),p =>
     match sh.sub p,a.nav p with
     | some (.ar _ e),some (.agg l)=>if off+len<=l.length then some (e,sub l off len)else none
     | _,_=>none
   | _,_=>none
 | _=>none
def mapO {α β:Type}(f:α->Option β):List α->Option (List β)
 | []=>some []
 | a::l=>(f a).bind fun b=>(mapO f l).map fun r=>b::r
def zay (hp:Hp):Nat->AV->Option AV
 | 0,a=>if a.plain then some a else none
 | n+1,a =>
   if a.plain then some a else
   match a with
   | .sl k p off len=>(za6 hp (.sl k p off len)).map fun c=>.lst false c.1 c.2
   | .ptr k p =>
     match hp.get k with
     | some (.fix sh b) =>
       match sh.sub p,b.nav p with
       | some s,some x=>(zay hp n x).bind fun y=>if y.plain then some (.cp s y)else none
       | _,_=>none
     | _=>none
   | .aggR l=>(mapO (zay hp n) l).bind fun l'=>if AV.plains l' then some (.agg l')else none
   | .fn f l=>(mapO (zay hp n) l).map (.fn f)
   | _=>none
def zj1 (sub:Nat->Option Sh)(zs:List AV):List (Nat×AV)->Option (List AV)
 | []=>some zs
 | (i,x)::r =>
   match sub i with
   | some s=>if zap s x then zj1 sub (zs.set i x) r else none
   | none=>none
def zmg :AV->AV->Option AV
 | .int k x,.int k' y=>if k=k' then some (.int k (if y<x then y else x))else none
 | _,_=>none
def zp8 :AV->AV->Option AV
 | .int k x,.int k' y=>if k=k' then some (.int k (if y>x then y else x))else none
 | _,_=>none
def zgt (f:AV->AV->Option AV):AV->List AV->Option AV
 | a,[]=>some a
 | a,b::l=>(f a b).bind fun c=>zgt f c l
abbrev Cl :=Nat->List AV->Hp->Option (AV×Hp×List OB)
mutual
def rn (d:Nat):AV->AV
 | .sl k p o l=>.sl (if 20000<=k then d+1000*(k-20000)else k) p o l
 | .ptr k p=>.ptr (if 20000<=k then d+1000*(k-20000)else k) p
 | .arp k p o n=>.arp (if 20000<=k then d+1000*(k-20000)else k) p o n
 | .aggR l=>.aggR (rns d l)
 | .tup l=>.tup (rns d l)
 | .fn f l=>.fn f (rns d l)
 | .yld k=>.yld (if 20000<=k then d+1000*(k-20000)else k)
 | .mp k=>.mp (if 20000<=k then d+1000*(k-20000)else k)
 | a=>a
def rns (d:Nat):List AV->List AV
 | []=>[]
 | a::l=>rn d a::rns d l
end
def zcf (hp:Hp)(d:Nat):Nat->List OB->Option Hp
 | _,[]=>some []
 | j,.grow sh els::l=>if(hp.get (d+1000*j)).isNone&&decide (d+1000*j<100000)then(zcf hp d (j+1) l).map fun r=>(d+1000*j,.grow sh els)::r else none
 | _,_::_=>none
mutual
def zdl :AV->Bool
 | .lst _ _ l=>l.isEmpty
 | .cp _ _| .fn _ _=>false
 | .agg l=>zdk l
 | .aggR l=>zdk l
 | .tup l=>zdk l
 | _=>true
def zdk :List AV->Bool
 | []=>true
 | a::l=>zdl a&&zdk l
end
def zfk :OB->Bool
 | .grow _ els=>zdk els
 | _=>false
def vals (gl:Gl)(fr:Fr):List Opd->List AV
 | []=>[]
 | x::l=>x.val gl fr::vals gl fr l
def ze4 :List Nat->Bool
 | []=>true
 | a::l=> !l.contains a&&ze4 l
def disj (a b:List Nat):Bool:=a.all fun x=> !b.contains x
def SHK :Nat:=100000
mutual
def rA (ρ:Nat->Nat):AV->AV
 | .sl k p o l=>.sl (ρ k) p o l
 | .ptr k p=>.ptr (ρ k) p
 | .arp k p o n=>.arp (ρ k) p o n
 | .aggR l=>.aggR (rAs ρ l)
 | .tup l=>.tup (rAs ρ l)
 | .fn f l=>.fn f (rAs ρ l)
 | .yld k=>.yld (ρ k)
 | .mp k=>.mp (ρ k)
 | a=>a
def rAs (ρ:Nat->Nat):List AV->List AV
 | []=>[]
 | a::l=>rA ρ a::rAs ρ l
end
def rOB (ρ:Nat->Nat):OB->OB
 | .fix sh a=>.fix sh (rA ρ a)
 | .lp rid vals s=>.lp rid (rAs ρ vals) s
 | o=>o
def idx :List Nat->Nat->Nat
 | [],_=>0
 | a::l,k=>if a=k then 0 else idx l k+1
def up (ks:List Nat)(k:Nat):Nat:=SHK+idx ks k
def dn (ks:List Nat)(d q:Nat):Nat:=if SHK<=q then ks.getD (q-SHK) 0 else d+1000*(q-20000)
def zdd :OB->List Nat
 | .fix _ a=>a.refs
 | .lp _ vals _=>AV.refss vals
 | _=>[]
def zk9 :Option OB->List Nat
 | some o=>zdd o
 | none=>[]
def ze2 (hp:Hp):Nat->List Nat->List Nat->List Nat
 | 0,_,acc=>acc
 | _+1,[],acc=>acc
 | n+1,k::t,acc=>if acc.contains k then ze2 hp n t acc else ze2 hp n (zk9 (hp.get k)++t) (acc++[k])
def zax (hp:Hp)(l:List Nat):List Nat:=ze2 hp 64 l []
def zdp (hp:Hp)(ks:List Nat):Bool:=ks.all fun k=>(hp.get k).isSome&&(zk9 (hp.get k)).all ks.contains
def getO (hp:Hp)(k:Nat):OB:=(hp.get k).getD .dead
def layG (hp:Hp)(ks:List Nat)(d:Nat):Nat->List OB->Option Hp
 | _,[]=>some []
 | j,o::l=>if(hp.get (d+1000*j)).isNone&&decide (d+1000*j<SHK)then(layG hp ks d (j+1) l).map fun r=>(d+1000*j,rOB (dn ks d) o)::r else none
def zbr :Hp->Nat->Nat->Bool
 | [],_,0=>true
 | (q,_)::r,i,n+1=>decide (q=SHK+i)&&zbr r (i+1) n
 | _,_,_=>false
def zdu (ks:List Nat)(d:Nat):Hp->Hp
 | []=>[]
 | (q,o)::r=>(ks.getD (q-SHK) 0,rOB (dn ks d) o)::zdu ks d r
def upHp (hp:Hp)(all:List Nat):List Nat->Hp
 | []=>[]
 | k::ks=>(up all k,rOB (up all) (getO hp k))::upHp hp all ks
def zwv (hp:Hp)(d:Nat)(ks:List Nat):Option (AV×Hp×List OB)->Option (AV×Hp)
 | some (r,hp',es)=>if zbr hp' 0 ks.length then(layG hp ks d 0 es).map fun us=>(rA (dn ks d) r,zdu ks d hp'++us)else none
 | none=>none
def zb4 (cl:Cl)(hp:Hp)(d f:Nat)(args:List AV)(ks:List Nat):Option (AV×Hp) :=
 if zdp hp ks&&(AV.refss args).all ks.contains&&ze4 ks&&AV.knowns args then zwv hp d ks (cl f (rAs (up ks) args) (upHp hp ks ks))else none
def MB :Nat:=2000000
def cvF (f:Nat):Nat:=if f<MB then f else f-MB
def cvA (f:Nat)(args caps:List AV):List AV:=if f<MB then args++caps else caps++args
def RB :Nat:=1000000
def zc3 (cl:Cl)(hp:Hp)(d:Nat)(f:Nat)(args:List AV)(m:Mode):Option (AV×Hp) :=
 match m with
 | .lend =>
   (mapO (zay hp 4) args).bind fun as =>
   match cl f as []with
   | some (r,[],[])=>if AV.plains args||zdl r then some (r,[])else none
   | some (r,[],e::es)=>if AV.plains args||(zdl r&&(e::es).all zfk)then(zcf hp d 0 (e::es)).map fun us=>(rn d r,us)else none
   | _=>none
 | .imp=>if f<RB then zb4 cl hp d f args (zax hp (AV.refss args))else none
def zgn (cl:Cl)(hp:Hp)(d q:Nat)(args:List AV)(m:Mode):Option (AV×Hp) :=
 match m,hp.get q with
 | .imp,some (.lp rid _ .ready)=>zb4 cl hp d (RB+rid) args (zax hp (q::AV.refss args))
 | _,_=>none
def asInt :AV->Option Int
 | .int _ n=>some n
 | _=>none
def bnds (len:Nat)(lo hi:Option AV):Option (Nat×Nat) :=
 match lo,hi with
 | none,none=>some (0,len)
 | some (.int _ a),none=>if 0<=a/\a<=len then some (a.toNat,len)else none
 | none,some (.int _ b)=>if 0<=b/\b<=len then some (0,b.toNat)else none
 | some (.int _ a),some (.int _ b)=>if 0<=a/\a<=b/\b<=len then some (a.toNat,b.toNat)else none
 | _,_=>none
def zfl (hp:Hp)(sh:Sh)(x y:AV):Option (AV×Hp) :=
 match x,y with
 | .sl k [] off len,.sl k' [] off2 len2 =>
   if k=k' then
    match hp.get k with
    | some (.grow shx els) =>
      if Sh.beq sh shx&&decide (off<=els.length/\els.length<=off+min len2 len/\off2+min len2 len<=els.length/\0<min len2 len)then
       some (.int .i64 (min len2 len:Nat),[(k,.grow shx (els.take off++Ev.sub els off2 (min len2 len)))])
      else none
    | _=>none
   else none
 | _,_=>none
def AV.kv :AV->Bool
 | .bool _| .int _ _| .str _=>true
 | _=>false
def isI :AV->Bool
 | .int _ _=>true
 | _=>false
def AV.kkv :AV->Bool
 | .agg l=>l.all isI
 | a=>a.kv
def zc1 :Nat->AV->Bool
 | 0,.int _ _=>true
 | 1,.str _=>true
 | 2,.bool _=>true
 | n+3,.agg l=>l.length==n&&l.all isI
 | _,_=>false
def eqI :List AV->List AV->Option Bool
 | [],[]=>some true
 | .int k a::l,.int k' b::m=>if k=k' then(eqI l m).map fun t=>(a==b)&&t else none
 | _,_=>none
def zh1 :AV->AV->Option Bool
 | .int k a,.int k' b=>if k=k' then some (a==b)else none
 | .str a,.str b=>some (a==b)
 | .bool a,.bool b=>some (a==b)
 | .agg a,.agg b=>eqI a b
 | _,_=>none
def zcg (q:AV):List (AV×AV×Nat)->Option (Option (Nat×AV))
 | []=>some none
 | e::r=>(zh1 q e.1).bind fun t=>if t then some (some (0,e.2.1))else(zcg q r).map (Option.map fun p=>(p.1+1,p.2))
def zq2 (es:List (AV×AV×Nat))(i:Nat):Nat:=((es[i]?).map (·.2.2)).getD 0
def zup (ok:Bool)(z:AV):Option (Nat×AV)->AV
 | some p=>if ok then .tup [p.2,.bool true]else p.2
 | none=>if ok then .tup [z,.bool false]else z
def updE (es:List (AV×AV×Nat))(c:Nat)(x y:AV):Option (Nat×AV)->OB
 | some p=>.mp (es.set p.1 (x,y,zq2 es p.1)) c
 | none=>.mp (es++[(x,y,c)]) (c+1)
def entE (es:List (AV×AV×Nat))(c q:Nat)(x z:AV):Option (Nat×AV)->AV×Hp
 | some p=>(.tup [p.2,.int .i64 (zq2 es p.1)],[(q,.mp es c)])
 | none=>(.tup [z,.int .i64 c],[(q,.mp (es++[(x,z,c)]) (c+1))])
def zoy (es:List (AV×AV×Nat))(n:Int):Option Nat:=es.findIdx? fun e=>(e.2.2:Int)==n
def stoE (es:List (AV×AV×Nat))(i:Nat)(y:AV):List (AV×AV×Nat):=es.modify i fun e=>(e.1,y,e.2.2)
def delE (es:List (AV×AV×Nat)):Option (Nat×AV)->List (AV×AV×Nat)
 | some p=>es.eraseIdx p.1
 | none=>es
def zbh (hp:Hp)(d:Option Nat)(k:MK)(kk:Nat)(z:AV)(xs:List AV):Option (AV×Hp) :=
 match k,xs with
 | .mk,[] =>
   match d with
   | some q=>if(hp.get q).isNone then some (.mp q,[(q,.mp [] 0)])else none
   | none=>none
 | .look ok,[.mp q,x] =>
   match hp.get q with
   | some (.mp es _)=>if zc1 kk x then(zcg x es).map fun r=>(zup ok z r,[])else none
   | _=>none
 | .upd,[.mp q,x,y] =>
   match hp.get q with
   | some (.mp es c)=>if zc1 kk x&&y.kv then(zcg x es).map fun r=>(.unk,[(q,updE es c x y r)])else none
   | _=>none
 | .ent,[.mp q,x] =>
   match hp.get q with
   | some (.mp es c)=>if zc1 kk x then(zcg x es).map fun r=>entE es c q x z r else none
   | _=>none
 | .sto,[.mp q,.int _ n,y] =>
   match hp.get q with
   | some (.mp es c)=>if y.kv then(zoy es n).map fun i=>(.unk,[(q,.mp (stoE es i y) c)])else none
   | _=>none
 | .del,[.mp q,x] =>
   match hp.get q with
   | some (.mp es c)=>if zc1 kk x then(zcg x es).map fun r=>(.tup [],[(q,.mp (delE es r) c)])else none
   | _=>none
 | .len,[.mp q] =>
   match hp.get q with
   | some (.mp es _)=>some (.int .i64 es.length,[])
   | _=>none
 | _,_=>none
def zaa (gl:Gl)(cl:Cl)(st:St)(d:Option Nat)(m:MOp):Option (AV×Hp) :=
 let v:=Opd.val gl st.fr
 match m with
 | .mov x=>some (v x,[])
 | .pick c a b =>
   match v c with
   | .bool t=>some (if t then v a else v b,[])
   | _=>none
 | .alloc sh z =>
   match d with
   | some k=>if(st.hp.get k).isNone then some (.ptr k [],[(k,.fix sh z)])else none
   | none=>none
 | .box sh x =>
   match d with
   | some k=>if(st.hp.get k).isNone&&zap sh (v x)then some (.ptr k [],[(k,.fix sh (v x))])else none
   | none=>none
 | .build sh z ps =>
   match z,sh with
   | .agg zs,.st fs=>(zj1 (fs[·]?) zs (ps.map fun p=>(p.1,v p.2))).map fun l=>(AV.mk l,[])
   | .agg zs,.ar n e=>(zj1 (fun i=>if i<n then some e else none) zs (ps.map fun p=>(p.1,v p.2))).map fun l=>(AV.mk l,[])
   | _,_=>none
 | .bslice sh z len ps =>
   match d with
   | some k =>
     if(st.hp.get k).isNone then
      (zj1 (fun i=>if i<len then some sh else none) (List.replicate len z) (ps.map fun p=>(p.1,v p.2))).bind fun l =>
        if AV.plains l then some (.sl k [] 0 len,[(k,.grow sh l)])else some (.sl k [] 0 len,[(k,.fix (.ar len sh) (.aggR l))])
     else none
   | none=>none
 | .lits sh z len ps =>
   (zj1 (fun i=>if i<len then some sh else none) (List.replicate len z) (ps.map fun p=>(p.1,v p.2))).bind fun l=>if AV.plains l then some (.lst true sh l,[])else none
 | .load ag n x =>
   match v x with
   | .ptr k p =>
     match st.hp.get k,p with
     | some (.fix sh a),p =>
       match sh.sub p,a.nav p with
       | some s,some y=>if s.size=n/\y.isAgg=ag then some (y,[])else none
       | _,_=>none
     | some (.grow sh els),i::q =>
       match sh.sub q,(els[i]?).bind (·.nav q)with
       | some s,some y=>if s.size=n/\y.isAgg=ag then some (y,[])else none
       | _,_=>none
     | _,_=>none
   | .cp sh a=>if sh.size=n/\a.isAgg=ag then some (a,[])else none
   | .arp k p off cnt =>
     match st.hp.get k with
     | some (.fix sh a) =>
       match sh.sub p,a.nav p with
       | some (.ar _ e),some (.agg l)=>if ag=true/\cnt*e.size=n/\off+cnt<=l.length then some (.agg (sub l off cnt),[])else none
       | _,_=>none
     | _=>none
   | _=>none
 | .store n p x =>
   match v p with
   | .ptr k q =>
     match st.hp.get k,q with
     | some (.fix sh a),q =>
       match sh.sub q with
       | some s=>if s.size=n/\zap s (v x)then(a.setNav q (v x)).map fun a'=>(.unk,[(k,.fix sh a')])else none
       | none=>none
     | some (.grow sh els),i::q =>
       match sh.sub q,els[i]? with
       | some s,some e=>if s.size=n/\zap s (v x)/\(v x).plain then(e.setNav q (v x)).map fun e'=>(.unk,[(k,.grow sh (els.set i e'))])else none
       | _,_=>none
     | _,_=>none
   | _=>none
 | .bin op x y=>(zgu op (v x) (v y)).map fun r=>(r,[])
 | .binB op x y=>(z5d op (v x) (v y)).map fun r=>(r,[])
 | .eqA neg sh k x y=>if zap sh (v x)&&zap sh (v y)then(eqAV k (v x) (v y)).map fun r=>(.bool (if neg then !r else r),[])else none
 | .un op x =>
   match op,v x with
   | .neg,.int k n=>some (.int k (k.wrap (0-n)),[])
   | .xor,.int k n=>some (.int k (k.wrap ((BitVec.ofInt k.bits (if k.signed then -1 else k.max)^^^BitVec.ofInt k.bits n).toNat)),[])
   | .not,.bool b=>some (.bool (!b),[])
   | _,_=>none
 | .conv k x =>
   match v x with
   | .int _ n=>some (.int k (k.wrap n),[])
   | _=>none
 | .s2b x =>
   match d,v x with
   | some k,.str l=>if(st.hp.get k).isNone&&decide (l.length<=LIM)then some (.sl k [] 0 l.length,[(k,.grow .sc (zad l))])else none
   | _,_=>none
 | .b2s x =>
   match za6 st.hp (v x)with
   | some (.sc,l)=>(zhh l).map fun b=>(.str b,[])
   | _=>none
 | .idc x =>
   match v x with
   | .sl k p o l=>match st.hp.get k,p with
     | some (.grow .sc (e::els)),[]=>some (.sl k [] o l,[(k,.grow .sc (e::els))])
     | _,_=>none
   | _=>none
 | .strc x =>
   match v x with
   | .str l=>some (.str l,[])
   | _=>none
 | .arrAt n x =>
   match v x with
   | .sl k p off len =>
     match st.hp.get k with
     | some (.fix sh _) =>
       match sh.sub p with
       | some (.ar _ _)=>if n<=len/\0<n then some (.arp k p off n,[])else none
       | _=>none
     | _=>none
   | .lst _ sh l=>if n<=l.length/\0<n then some (.cp (.ar n sh) (.agg (l.take n)),[])else none
   | _=>none
 | .mkfn f caps =>
   let cs:=vals gl st.fr caps
   if AV.scalars cs then some (.fn f cs,[])else none
 | .mkslice sh z bytes l c =>
   match d,v l,v c with
   | some k,.int _ l,.int _ c =>
     if(st.hp.get k).isNone&&decide (0<=l/\l<=c/\c<=LIM/\bytes<=1024)then some (.sl k [] 0 l.toNat,[(k,.grow sh (List.replicate l.toNat z))])else none
   | _,_,_=>none
 | .mkarr sh z bytes l c =>
   match d,v l,v c with
   | some k,.int _ l,.int _ c =>
     if(st.hp.get k).isNone&&decide (0<=l/\l=c/\c<=LIM/\bytes<=1024)then some (.sl k [] 0 l.toNat,[(k,.fix (.ar l.toNat sh) (.agg (List.replicate l.toNat z)))])else none
   | _,_,_=>none
 | .slStr x lo hi =>
   match v x with
   | .str l=>(bnds l.length (lo.map v) (hi.map v)).map fun b=>(.str ((l.take b.2).drop b.1),[])
   | _=>none
 | .slSl esz x lo hi mx =>
   match v x with
   | .lst full sh l =>
     if l.isEmpty||sh.size==esz then
      (bnds l.length (lo.map v) (hi.map v)).bind fun b =>
        match mx with
        | none=>some (.lst (full&&(hi.isNone||b.2==l.length)) sh ((l.take b.2).drop b.1),[])
        | some m=>match v m with
          | .int _ mm=>if hi.isSome&&decide (mm=b.2)then some (.lst true sh ((l.take b.2).drop b.1),[])else none
          | _=>none
     else none
   | .sl k p off len =>
     match mx,st.hp.get k,p with
     | none,some (.grow sh els),[]=>if sh.size=esz then(bnds (if hi.isSome then max len (els.length-off)else len) (lo.map v) (hi.map v)).map fun b=>(.sl k [] (off+b.1) (b.2-b.1),[])else none
     | none,some (.fix sh _),p =>
       match sh.sub p with
       | some (.ar _ e)=>if e.size=esz then(bnds len (lo.map v) (hi.map v)).map fun b=>(.sl k p (off+b.1) (b.2-b.1),[])else none
       | _=>none
     | some m,_,_ =>
       match v m with
       | .int _ mm=>if hi.isSome&&decide (mm=len)then(bnds len (lo.map v) (hi.map v)).map fun _=>(.unk,[])else none
       | _=>none
     | _,_,_=>none
   | _=>none
 | .slArr n esz x lo hi =>
   match v x with
   | .ptr k p =>
     match st.hp.get k with
     | some (.fix sh _) =>
       match sh.sub p with
       | some (.ar n' e)=>if n'=n/\e.size=esz then(bnds n (lo.map v) (hi.map v)).map fun b=>(.sl k p b.1 (b.2-b.1),[])else none
       | _=>none
     | _=>none
   | .cp (.ar n' e) (.agg l)=>if n'=n/\e.size=esz then(bnds n (lo.map v) (hi.map v)).map fun b=>(.lst hi.isNone e ((l.take b.2).drop b.1),[])else none
   | _=>none
 | .faddr i off x =>
   match v x with
   | .ptr k p =>
     match st.hp.get k,p with
     | some (.fix sh _),p =>
       match sh.sub p with
       | some (.st fs)=>if i<fs.length/\Sh.sizes (fs.take i)=off then some (.ptr k (p++[i]),[])else none
       | _=>none
     | some (.grow sh _),j::q =>
       match sh.sub q with
       | some (.st fs)=>if i<fs.length/\Sh.sizes (fs.take i)=off then some (.ptr k (j::(q++[i])),[])else none
       | _=>none
     | _,_=>none
   | .cp (.st fs) a =>
     match fs[i]?,a.kids[i]? with
     | some s,some y=>if Sh.sizes (fs.take i)=off then some (.cp s y,[])else none
     | _,_=>none
   | _=>none
 | .iaddrA n esz x i =>
   match v x,v i with
   | .ptr k p,.int _ j =>
     match st.hp.get k,p with
     | some (.fix sh _),p =>
       match sh.sub p with
       | some (.ar n' e)=>if n'=n/\e.size=esz/\0<=j/\j<n then some (.ptr k (p++[j.toNat]),[])else none
       | _=>none
     | some (.grow sh _),j0::q =>
       match sh.sub q with
       | some (.ar n' e)=>if n'=n/\e.size=esz/\0<=j/\j<n then some (.ptr k (j0::(q++[j.toNat])),[])else none
       | _=>none
     | _,_=>none
   | .cp (.ar n' e) a,.int _ j =>
     match a.kids[j.toNat]? with
     | some y=>if n'=n/\e.size=esz/\0<=j/\j<n then some (.cp e y,[])else none
     | none=>none
   | _,_=>none
 | .iaddrS esz x i =>
   match v x,v i with
   | .lst _ sh l,.int _ j =>
     match l[j.toNat]? with
     | some y=>if sh.size=esz/\0<=j/\j<l.length then some (.cp sh y,[])else none
     | none=>none
   | .sl k p off len,.int _ j =>
     match st.hp.get k,p with
     | some (.grow sh _),[]=>if sh.size=esz/\0<=j/\j<len then some (.ptr k [off+j.toNat],[])else none
     | some (.fix sh _),p =>
       match sh.sub p with
       | some (.ar _ e)=>if e.size=esz/\0<=j/\j<len then some (.ptr k (p++[off+j.toNat]),[])else none
       | _=>none
     | _,_=>none
   | _,_=>none
 | .field sh i x =>
   match sh,v x with
   | .st fs,y=>if zap (.st fs) y then(y.kids[i]?).map fun r=>(r,[])else none
   | _,_=>none
 | .idxStr x i =>
   match v x,v i with
   | .str l,.int _ j =>
     match l[j.toNat]? with
     | some b=>if 0<=j then some (.int .u8 b.toNat,[])else none
     | none=>none
   | _,_=>none
 | .idxArr n e x i =>
   match v i with
   | .int _ j=>if zap (.ar n e) (v x)&&decide (0<=j)then((v x).kids[j.toNat]?).map fun r=>(r,[])else none
   | _=>none
 | .extr x i =>
   match v x with
   | .tup l=>(l[i]?).map fun r=>(r,[])
   | _=>none
 | .nilck x =>
   match v x with
   | .ptr k p=>some (.ptr k p,[])
   | .cp sh a=>some (.cp sh a,[])
   | _=>none
 | .len s x =>
   match s,v x with
   | true,.str l=>some (.int .i64 l.length,[])
   | false,.lst _ _ l=>some (.int .i64 l.length,[])
   | false,.sl _ _ _ n=>some (.int .i64 n,[])
   | _,_=>none
 | .append sh bytes x y =>
   match d,(match v y with| .str l=>some (Sh.sc,zad l)|a=>za6 st.hp a)with
   | some k,some (shy,ys) =>
     if(st.hp.get k).isNone&&decide (bytes<=1024)&&(ys.isEmpty||Sh.beq sh shy)then
      match v x with
      | .lst true shx l =>
        if(l.isEmpty||(Sh.beq sh shx&& !ys.isEmpty))&&decide (l.length+ys.length<=LIM)then
         some (.sl k [] 0 (l.length+ys.length),[(k,.grow sh (l++ys))])
        else none
      | .sl kx [] 0 n =>
        match st.hp.get kx with
        | some (.grow shx els) =>
          if Sh.beq sh shx&&decide (n=els.length/\els.length+ys.length<=LIM)then
           some (.sl k [] 0 (els.length+ys.length),[(kx,.dead),(k,.grow sh (els++ys))])
          else if Sh.beq sh shx&&decide (n+ys.length<=els.length)then
           some (.sl kx [] 0 (n+ys.length),[(k,.grow sh []),(kx,.grow sh (els.take n++ys++els.drop (n+ys.length)))])
          else none
        | _=>none
      | _=>none
     else none
   | _,_=>none
 | .copy sh x y =>
   match v x,(match v y with| .str l=>some (Sh.sc,zad l)|a=>za6 st.hp a)with
   | .sl k p off len,some (shy,ys) =>
     if ys.isEmpty||Sh.beq sh shy then
      let n:=min ys.length len
      match st.hp.get k,p with
      | some (.grow shx els),[] =>
        if Sh.beq sh shx&&decide (off+len<=els.length)then
         some (.int .i64 n,[(k,.grow shx (els.take off++ys.take n++els.drop (off+n)))])
        else none
      | some (.fix shx a),p =>
        match shx.sub p,a.nav p with
        | some (.ar _ e),some (.agg l) =>
          if Sh.beq sh e&&decide (off+len<=l.length)then
           (a.setNav p (.agg (l.take off++ys.take n++l.drop (off+n)))).map fun a'=>(.int .i64 n,[(k,.fix shx a')])
          else none
        | _,_=>none
      | _,_=>none
     else none
   | _,none=>zfl st.hp sh (v x) (v y)
   | _,_=>none
 | .clear sh z x =>
   match v x with
   | .sl k [] off len =>
     match st.hp.get k with
     | some (.grow shx els) =>
       if Sh.beq sh shx&&decide (off+len<=els.length)then some (.unk,[(k,.grow shx (els.take off++List.replicate len z++els.drop (off+len)))])else none
     | _=>none
   | _=>none
 | .capl x =>
   match v x with
   | .lst true _ l=>some (.int .i64 l.length,[])
   | _=>none
 | .appmk sh z bytes x n =>
   match d,v x,v n with
   | some k,.lst true shx l,.int .i64 m =>
     if(st.hp.get k).isNone&&decide (1<=m/\bytes<=1024/\0<sh.size/\l.length+m.toNat<=LIM)&&(l.isEmpty||Sh.beq sh shx)then
      some (.sl k [] 0 (l.length+m.toNat),[(k,.grow sh (l++List.replicate m.toNat z))])
     else none
   | _,_,_=>none
 | .mini xs =>
   match vals gl st.fr xs with
   | []=>none
   | a::l=>(zgt zmg a l).map fun r=>(r,[])
 | .maxi xs =>
   match vals gl st.fr xs with
   | []=>none
   | a::l=>(zgt zp8 a l).map fun r=>(r,[])
 | .call f args m =>
   match d with
   | some k=>zc3 cl st.hp k f (vals gl st.fr args) m
   | none=>none
 | .callv f args m =>
   match d,v f with
   | some k,.fn f caps=>zc3 cl st.hp k (cvF f) (cvA f (vals gl st.fr args) caps) m
   | some k,.yld q=>zgn cl st.hp k q (vals gl st.fr args) m
   | _,_=>none
 | .mapop k kk z xs=>zbh st.hp d k kk z (vals gl st.fr xs)
def Fr.upd (fr:Fr)(d:Option Nat)(v:AV):Fr :=
 match d with
 | some i=>.set i v::fr
 | none=>fr
def St.upd (st:St)(d:Option Nat)(v:AV)(us:Hp):St:={fr:=st.fr.upd d v,hp:=us++st.hp}
inductive Its where
 | nil
 | op (d:Option Nat) (m:MOp) (rest:Its)
 | ite (c:Nat) (want:Bool) (blk:Its) (lo hi:Nat) (d:Nat) (a b:Opd) (rest:Its)
 deriving Inhabited
def zbz (gl:Gl)(cl:Cl):Its->St->Option St
 | .nil,st=>some st
 | .op d m rest,st=>(zaa gl cl st d m).bind fun r=>zbz gl cl rest (st.upd d r.1 r.2)
 | .ite c want blk lo hi d a b rest,st =>
   match st.fr.get c with
   | .bool t =>
     (if t=want then(zbz gl cl blk st).bind fun st1 =>
         let x:=(if want then a else b).val gl st1.fr
         if x.plain then some x else none
       else some ((if want then b else a).val gl st.fr)).bind fun x=>zbz gl cl rest {fr:=.set d x::.clr lo hi::st.fr,hp:=st.hp}
   | _=>none
structure FO where
 d:Option Nat
 m:MOp
 g:Option (Nat×Bool)
 deriving Inhabited
mutual
def MOp.opds :MOp->List Opd
 | .mov x| .box _ x| .load _ _ x| .un _ x| .conv _ x| .s2b x| .b2s x| .idc x| .strc x| .arrAt _ x| .faddr _ _ x| .field _ _ x| .extr x _| .nilck x| .len _ x| .clear _ _ x| .capl x=>[x]
 | .pick c a b=>[c,a,b]
 | .alloc _ _=>[]
 | .build _ _ ps| .bslice _ _ _ ps| .lits _ _ _ ps=>ps.map (·.2)
 | .store _ p x| .bin _ p x| .binB _ p x| .eqA _ _ _ p x| .iaddrA _ _ p x| .iaddrS _ p x| .idxStr p x| .idxArr _ _ p x| .append _ _ p x| .copy _ p x| .appmk _ _ _ p x=>[p,x]
 | .mkfn _ l| .mini l| .maxi l=>l
 | .mkslice _ _ _ l c=>[l,c]
 | .mkarr _ _ _ l c=>[l,c]
 | .slStr x lo hi=>[x]++lo.toList++hi.toList
 | .slSl _ x lo hi mx=>[x]++lo.toList++hi.toList++mx.toList
 | .slArr _ _ x lo hi=>[x]++lo.toList++hi.toList
 | .call _ l _=>l
 | .callv f l _=>f::l
 | .mapop _ _ _ l=>l
end
def zjm (f:AV)(args:List AV):List Nat :=
 match f with
 | .yld q=>q::AV.refss args
 | .fn h caps=>AV.refss (cvA h args caps)
 | _=>AV.refss args
def zbj (gl:Gl)(st:St)(m:MOp):List Nat :=
 match m with
 | .call _ l .imp=>zax st.hp (AV.refss (vals gl st.fr l))
 | .callv f l .imp=>zax st.hp (zjm (f.val gl st.fr) (vals gl st.fr l))
 | _=>AV.refss (vals gl st.fr m.opds)
def zb0 (gl:Gl)(cl:Cl):List FO->St->Option (St×List (List Nat))
 | [],st=>some (st,[])
 | o::l,st =>
   match o.g with
   | none=>(zaa gl cl st o.d o.m).bind fun r=>(zb0 gl cl l (st.upd o.d r.1 r.2)).map fun q=>(q.1,zbj gl st o.m::q.2)
   | some (c,want) =>
     match st.fr.get c with
     | .bool t =>
       if t=want then(zaa gl cl st o.d o.m).bind fun r=>(zb0 gl cl l (st.upd o.d r.1 r.2)).map fun q=>(q.1,zbj gl st o.m::q.2)
       else(zb0 gl cl l (st.upd o.d (.tup []) [])).map fun q=>(q.1,[]::q.2)
     | .tup []=>(zb0 gl cl l (st.upd o.d (.tup []) [])).map fun q=>(q.1,[]::q.2)
     | _=>none
inductive Kp where
 | slot (i:Nat)
 | own (i k:Nat) (sh:Sh)
 | key (k:Nat)
 | mv (q:Nat) (p:List Nat) (k:Nat)
 | fam (q base:Nat)
 | frz (q:Nat) (p:List Nat)
 deriving Inhabited
def zka (st:St)(acc:St):Kp->Option St
 | .slot i=>some {acc with fr:=.set i (st.fr.get i)::acc.fr}
 | .own i k sh =>
   match st.fr.get i with
   | .sl k' [] 0 n =>
     match st.hp.get k' with
     | some (.grow sh' els)=>if Sh.beq sh sh'&&decide (n=els.length)then some {fr:=.set i (.sl k [] 0 n)::acc.fr,hp:=(k,.grow sh els)::acc.hp}else none
     | _=>none
   | .lst true _ []=>some {fr:=.set i (.sl k [] 0 0)::acc.fr,hp:=(k,.grow sh [])::acc.hp}
   | _=>none
 | .key k =>
   match st.hp.get k with
   | some o=>some {acc with hp:=(k,o)::acc.hp}
   | none=>none
 | .mv _ _ _=>none
 | .fam _ _=>none
 | .frz _ _=>none
def zfy (st:St):List Kp->St->Option St
 | [],acc=>some acc
 | x::l,acc=>(zka st acc x).bind (zfy st l)
def Kp.keys :List Kp->List Nat
 | []=>[]
 | .key k::l=>k::Kp.keys l
 | _::l=>Kp.keys l
def Kp.owns :List Kp->List Nat
 | []=>[]
 | .own _ k _::l=>k::Kp.owns l
 | _::l=>Kp.owns l
def Kp.slotRefs (st:St):List Kp->List Nat
 | []=>[]
 | .slot i::l=>(st.fr.get i).refs++Kp.slotRefs st l
 | .key k::l=>zk9 (st.hp.get k)++Kp.slotRefs st l
 | _::l=>Kp.slotRefs st l
def Kp.ownSrc (st:St):List Kp->List Nat
 | []=>[]
 | .own i _ _::l=>(match st.fr.get i with| .sl k _ _ _=>[k]|_=>[])++Kp.ownSrc st l
 | _::l=>Kp.ownSrc st l
def zow (ks:List Kp)(st:St):Option St :=
 if ze4 (Kp.keys ks++Kp.owns ks)&&ze4 (Kp.keys ks++Kp.ownSrc st ks)&&(Kp.slotRefs st ks).all (fun k=>(Kp.keys ks).contains k)then
  zfy st ks {fr:=[],hp:=[]}
 else none
def bigs (hp:Hp):Nat->Nat->List Kp
 | 0,_=>[]
 | n+1,i=>if(hp.get (SHK+i)).isSome then .key (SHK+i)::bigs hp n (i+1)else []
def ksA (ks:List Kp)(st:St):List Kp:=ks++bigs st.hp 64 0
def z0f :Option AV->Option Nat
 | some (.sl k _ _ _)=>if k<SHK then some k else none
 | _=>none
def zm7 (hp:Hp)(q:Nat)(p:List Nat):Option Nat :=
 match hp.get q with
 | some (.fix _ a)=>z0f (a.nav p)
 | _=>none
def keyL :Option Nat->List Kp->List Kp
 | some k,l=>.key k::l
 | none,l=>l
def famL :Nat->List AV->List (Nat×Nat)
 | _,[]=>[]
 | b,x::l=>(match z0f (some x)with|some k=>[(k,b)]|none=>[])++famL (b+1) l
def zqq (hp:Hp)(q b:Nat):List (Nat×Nat) :=
 match hp.get q with
 | some (.fix _ a)=>famL b a.kids
 | _=>[]
def ze5 (ps:List (Nat×Nat)):List Kp:=ps.map fun p=>.key p.1
def mvKs (hp:Hp):List Kp->List Kp
 | []=>[]
 | .mv q p _::l=>keyL (zm7 hp q p) (mvKs hp l)
 | .fam q b::l=>ze5 (zqq hp q b)++mvKs hp l
 | .frz _ _::l=>mvKs hp l
 | x::l=>x::mvKs hp l
def sw (k q j:Nat):Nat:=if j=k then q else if j=q then k else j
def rnFr (k q:Nat):Fr->Fr
 | []=>[]
 | .set i v::r=>.set i (rA (sw k q) v)::rnFr k q r
 | .clr a b::r=>.clr a b::rnFr k q r
def rnHp (k q:Nat):Hp->Hp
 | []=>[]
 | (j,o)::r=>(sw k q j,rOB (sw k q) o)::rnHp k q r
def rn1 (q:Nat)(st:St):Option Nat->Option St
 | some k=>if k=q then some st else if k<SHK/\q<SHK then some {fr:=rnFr k q st.fr,hp:=rnHp k q st.hp}else none
 | none=>some st
def zjy :List (Nat×Nat)->St->Option St
 | [],st=>some st
 | p::l,st=>(rn1 p.2 st (some p.1)).bind (zjy l)
def rnMv (hp:Hp):List Kp->St->Option St
 | [],st=>some st
 | .mv q p k::l,st=>(rn1 k st (zm7 hp q p)).bind (rnMv hp l)
 | .fam q b::l,st=>(zjy (zqq hp q b) st).bind (rnMv hp l)
 | _::l,st=>rnMv hp l st
def frzE (hp:Hp):AV->Option (AV×List Nat)
 | .lst f sh l=>some (.lst f sh l,[])
 | .sl k [] 0 n =>
   match hp.get k with
   | some (.grow sh els)=>if n<=els.length then some (.lst false sh (els.take n),[k])else none
   | _=>none
 | _=>none
def zjg (hp:Hp):List AV->Option (List AV×List Nat)
 | []=>some ([],[])
 | x::l=>(frzE hp x).bind fun a=>(zjg hp l).map fun r=>(a.1::r.1,a.2++r.2)
def zik :List Nat->Hp
 | []=>[]
 | k::l=>(k,.dead)::zik l
def frz1 (st:St)(q:Nat)(p:List Nat):Option St :=
 match st.hp.get q with
 | some (.fix sh a) =>
   match a.nav p,sh.sub p with
   | some (.sl k [] 0 n),some .sc =>
     match st.hp.get k with
     | some (.fix (.ar m .sc) b) =>
       (zjg st.hp b.kids).bind fun r =>
         if m=n&& !(k::r.2).contains q&&decide (k<SHK)&&r.2.all (fun j=>decide (j<SHK))then(a.setNav p (.lst false .sc r.1)).map fun a'=>{fr:=st.fr,hp:=(q,.fix sh a')::(zik (k::r.2)++st.hp)}else none
     | _=>none
   | _,_=>none
 | _=>none
def zcj :List Kp->St->Option St
 | [],st=>some st
 | .frz q p::l,st=>(frz1 st q p).bind (zcj l)
 | _::l,st=>zcj l st
def zxl (ks:List Kp)(st:St):Option St:=(zow (ksA (mvKs st.hp ks) st) st).bind (rnMv st.hp ks)
def zcr (ks:List Kp)(st:St):Option St:=(zxl ks st).bind (zcj ks)
inductive MC where
 | skip
 | reg (its:Its)
 | draw (ops:List FO) (prs:List (Nat×Nat))
 | seq (a b:MC)
 | cond (c:Opd) (a b:MC)
 | block (id:Nat) (b:MC)
 | loop (ks:List Kp) (b:MC)
 | exit (id:Nat)
 | scope (b:MC)
 | ret
 | kept (ks:List Kp) (b:MC)
 | rangeF (rid:Nat) (g:Opd) (slots:List Nat) (kd dc:Nat)
 | bad
 deriving Inhabited
def LF :Nat:=2^64
def iter (f:St->Option (Ex×St))(ks:List Kp):Nat->St->Option (Ex×St)
 | 0,_=>none
 | n+1,st=>(zcr ks st).bind fun st1=>(f st1).bind fun r =>
   match r.1 with
   | .norm=>iter f ks n r.2
   | e=>some (e,r.2)
def qce (fr:Fr)(hp:Hp)(kd:Nat):Option (Ex×St) :=
 match hp.get kd with
 | some (.lp _ _ .ready)=>some (.norm,{fr,hp:=(kd,.dead)::hp})
 | some (.lp _ _ (.done e))=>some (e,{fr,hp:=(kd,.dead)::hp})
 | _=>none
def evRf (cl:Cl)(rid:Nat)(slots:List Nat)(kd dc:Nat)(st:St)(g:AV):Option (Ex×St) :=
 match g with
 | .fn h caps =>
   if(st.hp.get kd).isNone&&decide (kd<SHK)&&decide (h<RB)then
    (zb4 cl ((kd,.lp rid (slots.map st.fr.get) .ready)::st.hp) dc h (.yld kd::caps) (zax ((kd,.lp rid (slots.map st.fr.get) .ready)::st.hp) (kd::AV.refss caps))).bind fun r =>
      qce st.fr (r.2++(kd,.lp rid (slots.map st.fr.get) .ready)::st.hp) kd
   else none
 | _=>none
def evC (gl:Gl)(cl:Cl):MC->St->Option (Ex×St)
 | .skip,st=>some (.norm,st)
 | .reg its,st=>(zbz gl cl its st).map fun st=>(.norm,st)
 | .draw ops prs,st =>
   (zb0 gl cl ops st).bind fun r =>
     if prs.all (fun p=>disj (r.2.getD p.1 []) (r.2.getD p.2 []))then some (.norm,r.1)else none
 | .seq a b,st=>(evC gl cl a st).bind fun r =>
   match r.1 with
   | .norm=>evC gl cl b r.2
   | e=>some (e,r.2)
 | .cond c a b,st =>
   match c.val gl st.fr with
   | .bool t=>if t then evC gl cl a st else evC gl cl b st
   | _=>none
 | .block id b,st=>(evC gl cl b st).map fun r=>(if r.1= .exit id then .norm else r.1,r.2)
 | .loop ks b,st=>iter (evC gl cl b) ks LF st
 | .exit id,st=>some (.exit id,st)
 | .scope b,st=>evC gl cl b st
 | .ret,st=>some (.ret,st)
 | .bad,_=>none
 | .rangeF rid g slots kd dc,st=>evRf cl rid slots kd dc st (g.val gl st.fr)
 | .kept ks b,st=>(evC gl cl b st).bind fun r =>
   match r.1 with
   | .norm=>(zcr ks r.2).map fun st=>(.norm,st)
   | e=>some (e,r.2)
inductive ResD where
 | tmp (t:Nat)
 | cell (t:Nat) (agg:Bool) (n:Nat)
 deriving Inhabited
inductive Pk where
 | asis
 | own (sh:Sh)
 | gen
 deriving Inhabited
structure Fd where
 body:MC
 res:List ResD
 pk:List Pk
 giv:Option (Gl->Cl->List AV->Hp->Option (AV×Hp×List OB)):=none
 deriving Inhabited
def zfi (st:St):ResD->Option AV
 | .tmp t=>some (st.fr.get t)
 | .cell t ag n=>(zaa Gl.none (fun _ _ _=>none) st none (.load ag n (.t t))).map (·.1)
def zbi (st:St):List ResD->Option (List AV)
 | []=>some []
 | r::rs=>(zfi st r).bind fun a=>(zbi st rs).map fun l=>a::l
def zef :List AV->List Pk->List Nat
 | [],_=>[]
 | r::rs,pks=>(match pks.headD .asis,r with| .own _,.sl k _ _ _=>[k]|_,_=>[])++zef rs pks.tail
def zla :List Nat->Hp
 | []=>[]
 | k::l=>(k,.dead)::zla l
def zi6 (hp hp':Hp)(j:Nat)(r:AV):Pk->Option (AV×List OB)
 | .asis=>(zay hp' 4 r).bind fun a=>if a.known then some (a,[])else none
 | .own sh =>
   match r with
   | .sl k [] 0 n =>
     match hp.get k with
     | some (.grow sh' els)=>if Sh.beq sh sh'&&decide (n=els.length)then some (.sl (20000+j) [] 0 n,[.grow sh els])else none
     | _=>none
   | .lst true _ []=>some (.sl (20000+j) [] 0 0,[.grow sh []])
   | _=>none
 | .gen=>none
def zem (hp hp':Hp):Nat->List AV->List Pk->Option (List AV×List OB)
 | _,[],_=>some ([],[])
 | j,r::rs,pks=>(zi6 hp hp' j r (pks.headD .asis)).bind fun q=>(zem hp hp' (j+q.2.length) rs pks.tail).map fun z=>(q.1::z.1,q.2++z.2)
def zg5 (st:St)(res:List ResD)(pks:List Pk):Option (List AV×List OB) :=
 (zbi st res).bind fun rs =>
   let ks:=zef rs pks
   if ze4 ks then zem st.hp (zla ks++st.hp) 0 rs pks else none
def frOf :Nat->List AV->Fr
 | _,[]=>[]
 | i,a::l=>.set i a::frOf (i+1) l
def nm (E:List Nat)(k:Nat):Nat:=if SHK<=k then k else 20000+idx E k
def zcq :Hp->List Nat
 | []=>[]
 | (k,_)::r=>k::zcq r
def qch (hp:Hp):List Nat->List Nat
 | []=>[]
 | k::l=>zk9 (hp.get k)++qch hp l
def zcy (st:St)(hk:List Nat)(rs:List AV):List Nat:=(ze2 st.hp 64 (AV.refss rs++qch st.hp hk) hk).drop hk.length
def zeq (hp:Hp)(E:List Nat):List Nat->Hp
 | []=>[]
 | k::l=>(k,rOB (nm E) (getO hp k))::zeq hp E l
def zft (st:St)(hk:List Nat)(rs:List AV)(E:List Nat):Option (List AV×Hp×List OB) :=
 if zdp st.hp (hk++E)&&(AV.refss rs).all (hk++E).contains&&ze4 (hk++E)&&hk.all (fun k=>decide (SHK<=k))&&E.all (fun k=>decide (k<SHK))&&decide (E.length<1000)&&AV.knowns rs then
  some (rAs (nm E) rs,zeq st.hp E hk,E.map fun k=>rOB (nm E) (getO st.hp k))
 else none
def zp2 :List AV->AV
 | [a]=>a
 | l=>.tup l
def ltO :Option Nat->Bool
 | some d=>decide (d<SHK)
 | none=>true
def zsl :Its->Bool
 | .nil=>true
 | .op d _ r=>ltO d&&zsl r
 | .ite _ _ b _ _ _ _ _ r=>zsl b&&zsl r
def ksLt :List Kp->Bool
 | []=>true
 | .own _ k _::l=>decide (k<SHK)&&ksLt l
 | .frz q _::l=>decide (q<SHK)&&ksLt l
 | _::l=>ksLt l
def mcLt :MC->Bool
 | .reg i=>zsl i
 | .draw l _=>l.all fun o=>ltO o.d
 | .seq a b=>mcLt a&&mcLt b
 | .cond _ a b=>mcLt a&&mcLt b
 | .block _ b=>mcLt b
 | .loop ks b=>ksLt ks&&mcLt b
 | .scope b=>mcLt b
 | .kept ks b=>ksLt ks&&mcLt b
 | .rangeF _ _ _ kd dc=>decide (kd<SHK)&&decide (dc<SHK)
 | _=>true
def zcm :MC->Bool
 | .seq a b=>zcm a||zcm b
 | .cond _ a b=>zcm a||zcm b
 | .block _ b=>zcm b
 | .loop _ b=>zcm b
 | .scope b=>zcm b
 | .kept _ b=>zcm b
 | .rangeF .. =>true
 | _=>false
def zmq :List Pk->Bool
 | .gen::_=>true
 | _=>false
def evFn (gl:Gl)(cl:Cl)(fd:Fd)(args:List AV)(imps:Hp):Option (AV×Hp×List OB) :=
 if zmq fd.pk then
  if !mcLt fd.body then none else
  (evC gl cl fd.body {fr:=frOf 0 args,hp:=imps}).bind fun r =>
    match r.1 with
    | .exit _=>none
    | _=>(zbi r.2 fd.res).bind fun rs=>(zft r.2 (zcq imps) rs (zcy r.2 (zcq imps) rs)).map fun z=>(zp2 z.1,z.2.1,z.2.2)
 else
 match imps with
 | [] =>
   (evC gl cl fd.body {fr:=frOf 0 args,hp:=[]}).bind fun r =>
     match r.1 with
     | .exit _=>none
     | _=>(zg5 r.2 fd.res fd.pk).map fun z =>
       (match z.1 with
         | [a]=>a
         | l=>.tup l,[],z.2)
 | _=>none
def frAt :List Nat->List AV->Fr
 | i::l,a::r=>.set i a::frAt l r
 | _,_=>[]
def znk (params slots:List Nat)(as body:MC):Gl->Cl->List AV->Hp->Option (AV×Hp×List OB):=fun gl cl args imps =>
 match imps with
 | (q,.lp rid vals .ready)::r =>
   if decide (q=SHK)&&decide (args.length=params.length)&&ze4 params&&mcLt as&&mcLt body&& !zcm as&& !zcm body then
    (evC gl cl as {fr:=frAt params args++frAt slots vals,hp:=(q,.lp rid vals .ready)::r}).bind fun a =>
      match a.1,Hp.get a.2.hp SHK with
      | .norm,some (.lp r1 v1 .ready) =>
        (evC gl cl body {fr:=a.2.fr,hp:=(SHK,.lp r1 v1 .busy)::a.2.hp}).bind fun b =>
          match Hp.get b.2.hp SHK with
          | some (.lp r2 v2 .busy) =>
            let st:St:={fr:=b.2.fr,hp:=(SHK,.lp r2 v2 (if b.1= .norm then .ready else .done b.1))::b.2.hp}
            (zft st (zcq imps) [] (zcy st (zcq imps) [])).map fun z=>(.bool (decide (b.1= .norm)),z.2.1,z.2.2)
          | _=>none
      | _,_=>none
   else none
 | _=>none
def call (gl:Gl)(tab:Nat->Option Fd):Nat->Cl
 | 0,_,_,_=>none
 | n+1,f,args,imps=>(tab f).bind fun fd =>
   match fd.giv with
   | some g=>g gl (call gl tab n) args imps
   | none=>evFn gl (call gl tab n) fd args imps
end Go.Ev
namespace Go.Ev
open Go
def Sh.agg :Sh->Bool
 | .sc=>false
 | _=>true
def ofSc :Value->Option AV
 | .bool b=>some (.bool b)
 | .int k n=>some (.int k n)
 | .string s=>some (.str s.data.toList)
 | .slice none 0 0=>some (.lst true .sc [])
 | .pointer none=>some (.s (.pointer none))
 | .nilFunc=>some (.s .nilFunc)
 | .nilIface=>some (.s .nilIface)
 | .map none=>some (.s (.map none))
 | _=>none
mutual
def avOf :Sh->List Value->Option (AV×List Value)
 | .sc,v::r=>(ofSc v).map fun a=>(a,r)
 | .sc,[]=>none
 | .st fs,vs=>(z5i fs vs).map fun q=>(.agg q.1,q.2)
 | .ar n e,vs=>(z5j n (avOf e) vs).map fun q=>(.agg q.1,q.2)
def z5i :List Sh->List Value->Option (List AV×List Value)
 | [],vs=>some ([],vs)
 | s::fs,vs=>(avOf s vs).bind fun q=>(z5i fs q.2).map fun z=>(q.1::z.1,z.2)
def z5j :Nat->(List Value->Option (AV×List Value))->List Value->Option (List AV×List Value)
 | 0,_,vs=>some ([],vs)
 | n+1,f,vs=>(f vs).bind fun q=>(z5j n f q.2).map fun z=>(q.1::z.1,z.2)
end
def shOf (P:Program):Nat->TypeId->Option Sh
 | 0,_=>none
 | n+1,t =>
   match P.underlying t with
   | some (.struct fs) =>
     (mapO (fun f=>shOf P n f.type) fs.toList).bind fun l =>
       if(fs.toList.zipIdx.all fun q=>q.1.offset==Sh.sizes (l.take q.2)&&((l[q.2]?).map (·.size)==(P.info? q.1.type).map (·.size)))&&(P.info? t).map (·.size)==some (Sh.sizes l)then some (.st l)else none
   | some (.array k e)=>(shOf P n e).bind fun s=>if(P.info? e).map (·.size)==some s.size&&(P.info? t).map (·.size)==some (k*s.size)then some (.ar k s)else none
   | some (.tuple _)=>none
   | some _=>if(P.info? t).map (·.size)==some 1 then some .sc else none
   | none=>none
def SF :Nat:=12
def zej (P:Program)(t:TypeId):Option (Sh×AV) :=
 (shOf P SF t).bind fun sh =>
   match P.info? t with
   | some i=>match i.zero with
     | some z=>match avOf sh z.cells.toList with
       | some (a,[])=>some (sh,a)
       | _=>none
     | none=>none
   | none=>none
def zag :Operand->Option Opd
 | .tmp t=>some (.t t)
 | .const v=>(ofSc v).map .c
 | .global g=>some (.g g)
 | .func f=>if f<MB then some (.f f)else none
def zbt :Option Operand->Option (Option Opd)
 | none=>some none
 | some x=>(zag x).map some
def isU8 (P:Program)(t:TypeId):Bool :=
 match P.underlying t with
 | some (.int .u8)=>true
 | _=>false
def ekOf (P:Program):Nat->TypeId->Option Ek
 | 0,_=>none
 | n+1,t=>match P.underlying t with
   | some .bool=>some .bo
   | some (.int _)=>some .it
   | some .string=>some .sg
   | some (.struct fs)=>if !P.stoodInHeld t&&fs.toList.all (fun f=>f.name != "_")then(mapO (fun f=>ekOf P n f.type) fs.toList).map .st else none
   | some (.array k e)=>(ekOf P n e).map (.ar k)
   | _=>none
def Mode.isImp :Mode->Bool
 | .imp=>true
 | .lend=>false
abbrev Im :=Nat->Bool
def mdOf (im:Im):Option Nat->Mode
 | some d=>if im d then .imp else .lend
 | none=>.lend
def Ek.isIt :Ek->Bool
 | .it=>true
 | _=>false
def zwk (P:Program)(t:TypeId):Option Nat :=
 match ekOf P SF t,shOf P SF t with
 | some (.st fs),some sh=>if fs.all Ek.isIt&&Sh.beq sh (.st (List.replicate fs.length .sc))then some (fs.length+3)else none
 | some (.ar n .it),some sh=>if Sh.beq sh (.ar n .sc)then some (n+3)else none
 | _,_=>none
def kkOf (P:Program)(t:TypeId):Option Nat :=
 match P.underlying t with
 | some (.int _)=>some 0
 | some .string=>some 1
 | some .bool=>some 2
 | some (.struct _)=>zwk P t
 | some (.array _ _)=>zwk P t
 | _=>none
def zun (P:Program)(t:TypeId):Option (Nat×AV) :=
 match P.underlying t with
 | some (.map kt e)=>(kkOf P kt).bind fun kk=>(P.info? e).bind fun i=>i.zero.bind fun zv=>(ofSc zv).bind fun z=>if z.kv then some (kk,z)else none
 | _=>none
def zan (P:Program)(im:Im)(o:Oper):Option MOp :=
 match o.op with
 | .move x| .assign x=>(zag x).map .mov
 | .pick c a b=>(zag c).bind fun c=>(zag a).bind fun a=>(zag b).map fun b=>.pick c a b
 | .alloc t=>(zej P t).map fun q=>.alloc q.1 q.2
 | .box t x=>(shOf P SF t).bind fun sh=>(zag x).map fun x=>.box sh x
 | .build t ps=>(zej P t).bind fun q=>(mapO (fun p=>(zag p.2).map fun x=>(p.1,x)) ps.toList).map fun l=>.build q.1 q.2 l
 | .buildSlice t len ps =>
   match P.underlying t with
   | some (.slice e)=>(zej P e).bind fun q=>if len*q.1.size<=2^24 then(mapO (fun p=>(zag p.2).map fun x=>(p.1,x)) ps.toList).map fun l=>if(mdOf im o.dst).isImp then .lits q.1 q.2 len l else .bslice q.1 q.2 len l else none
   | _=>none
 | .load t a=>(shOf P SF t).bind fun sh=>(zag a).map fun a=>.load sh.agg sh.size a
 | .store t a x=>(shOf P SF t).bind fun sh=>(zag a).bind fun a=>(zag x).map fun x=>.store sh.size a x
 | .binOp op t x y _ =>
   (zag x).bind fun x=>(zag y).bind fun y =>
     match P.underlying t,op with
     | some (.struct _),.eql=>if !P.eqGuardType P.depth t then(shOf P SF t).bind fun sh=>(ekOf P SF t).map fun k=>.eqA false sh k x y else none
     | some (.struct _),.neq=>if !P.eqGuardType P.depth t then(shOf P SF t).bind fun sh=>(ekOf P SF t).map fun k=>.eqA true sh k x y else none
     | some (.array _ _),.eql=>if !P.eqGuardType P.depth t then(shOf P SF t).bind fun sh=>(ekOf P SF t).map fun k=>.eqA false sh k x y else none
     | some (.array _ _),.neq=>if !P.eqGuardType P.depth t then(shOf P SF t).bind fun sh=>(ekOf P SF t).map fun k=>.eqA true sh k x y else none
     | some (.int _),_=>some (.bin op x y)
     | some .string,_=>some (.bin op x y)
     | some .bool,_=>some (.binB op x y)
     | _,_=>none
 | .unOp op _ x=>(zag x).map fun x=>.un op x
 | .convert s d x =>
   (zag x).bind fun x =>
     match P.underlying s,P.underlying d with
     | some (.int _),some (.int k)=>some (.conv k x)
     | some .string,some .string=>some (.strc x)
     | some .string,some (.slice e)=>if isU8 P e&&(P.info? e).map (·.size)==some 1 then some (.s2b x)else none
     | some (.slice e),some .string=>if isU8 P e then some (.b2s x)else none
     | some (.slice _),some (.slice e)=>if s==d&&isU8 P e then some (.idc x)else none
     | _,_=>none
 | .sliceToArrayPointer t x =>
   match P.underlying t with
   | some (.array n _)=>(zag x).map fun x=>.arrAt n x
   | _=>none
 | .makeFunc (.func f) first caps=>if first.size=0 then(if f<MB then(mapO zag caps.toList).map fun l=>.mkfn f l else none)else if caps.size=0 then(mapO zag first.toList).map fun l=>.mkfn (MB+f) l else none
 | .makeSlice t l c =>
   match P.underlying t with
   | some (.slice e)=>(zej P e).bind fun q=>(P.info? e).bind fun i=>(zag l).bind fun l=>(zag c).map fun c=>if(mdOf im o.dst).isImp then .mkarr q.1 q.2 i.bytes l c else .mkslice q.1 q.2 i.bytes l c
   | _=>none
 | .slice t x lo hi mx =>
   (zag x).bind fun x=>(zbt lo).bind fun lo=>(zbt hi).bind fun hi=>(zbt mx).bind fun mx =>
     match P.underlying t with
     | some .string=>if mx.isNone then some (.slStr x lo hi)else none
     | some (.slice e)=>(P.info? e).map fun i=>.slSl i.size x lo hi mx
     | some (.array n e)=>if mx.isNone then(P.info? e).map fun i=>.slArr n i.size x lo hi else none
     | _=>none
 | .fieldAddr t x f =>
   match P.underlying t with
   | some (.struct fs)=>(fs[f]?).bind fun fd=>if((P.info? fd.type).map (·.size)).any (· != 0)then(zag x).map fun x=>.faddr f fd.offset x else none
   | _=>none
 | .indexAddr t x i =>
   (zag x).bind fun x=>(zag i).bind fun i =>
     match P.underlying t with
     | some (.slice e)=>(P.info? e).map fun d=>.iaddrS d.size x i
     | some (.array n e)=>(P.info? e).map fun d=>.iaddrA n d.size x i
     | _=>none
 | .field t x f=>(shOf P SF t).bind fun sh=>(zag x).map fun x=>.field sh f x
 | .index t x i =>
   (zag x).bind fun x=>(zag i).bind fun i =>
     match P.underlying t with
     | some .string=>some (.idxStr x i)
     | some (.array n e)=>(shOf P SF e).map fun s=>.idxArr n s x i
     | _=>none
 | .extract x i=>(zag x).map fun x=>.extr x i
 | .nilCheck x=>(zag x).map fun x=>.nilck x
 | .makeMap t r =>
   match P.underlying t,r with
   | some (.map _ _),none=>some (.mapop .mk 0 .unk [])
   | _,_=>none
 | .lookup t x i ok=>(zun P t).bind fun q=>(zag x).bind fun x=>(zag i).map fun i=>.mapop (.look ok) q.1 q.2 [x,i]
 | .mapUpdate t x i y=>(zun P t).bind fun q=>(zag x).bind fun x=>(zag i).bind fun i=>(zag y).map fun y=>.mapop .upd q.1 q.2 [x,i,y]
 | .mapEntry t x i=>(zun P t).bind fun q=>(zag x).bind fun x=>(zag i).map fun i=>.mapop .ent q.1 q.2 [x,i]
 | .entryStore _ x i y=>(zag x).bind fun x=>(zag i).bind fun i=>(zag y).map fun y=>.mapop .sto 0 .unk [x,i,y]
 | .call c =>
   (mapO zag c.args.toList).bind fun args =>
     match c.callee with
     | .value (.func f)=>some (.call f args (mdOf im o.dst))
     | .value (.tmp t)=>some (.callv (.t t) args (mdOf im o.dst))
     | .builtin .len =>
       match c.argTypes.toList,args with
       | [t],[x]=>match P.underlying t with
         | some .string=>some (.len true x)
         | some (.slice _)=>some (.len false x)
         | some (.map _ _)=>some (.mapop .len 0 .unk [x])
         | some (.array n _)=>some (.mov (.c (.int .i64 n)))
         | _=>none
       | _,_=>none
     | .builtin .append =>
       match c.argTypes.toList,args with
       | [t,u],[x,y] =>
         match P.underlying t,P.underlying u with
         | some (.slice e),some (.slice _)=>(zej P e).bind fun q=>(P.info? e).map fun i=>.append q.1 i.bytes x y
         | some (.slice e),some .string=>(zej P e).bind fun q=>(P.info? e).map fun i=>.append q.1 i.bytes x y
         | some (.slice e),some (.int .i64)=>(zej P e).bind fun q=>(P.info? e).map fun i=>.appmk q.1 q.2 i.bytes x y
         | _,_=>none
       | _,_=>none
     | .builtin .copy =>
       match c.argTypes.toList,args with
       | [t,_],[x,y] =>
         match P.underlying t with
         | some (.slice e)=>(shOf P SF e).map fun sh=>.copy sh x y
         | _=>none
       | _,_=>none
     | .builtin .clear =>
       match c.argTypes.toList,args with
       | [t],[x]=>match P.underlying t with
         | some (.slice e)=>(zej P e).map fun q=>.clear q.1 q.2 x
         | _=>none
       | _,_=>none
     | .builtin .cap =>
       match c.argTypes.toList,args with
       | [t],[x]=>match P.underlying t with
         | some (.slice _)=>some (.capl x)
         | _=>none
       | _,_=>none
     | .builtin .delete =>
       match c.argTypes.toList,args with
       | [t,_],[x,y]=>(zun P t).map fun q=>.mapop .del q.1 q.2 [x,y]
       | _,_=>none
     | .builtin .min=>some (.mini args)
     | .builtin .max=>some (.maxi args)
     | _=>none
 | _=>none
def zbk :MOp->Bool
 | .append .. | .copy .. | .store .. | .idc _| .clear .. =>true
 | .call _ _ .imp| .callv _ _ .imp=>true
 | .mapop k _ _ _=>k.w
 | _=>false
def Opd.out (lo hi:Nat):Opd->Bool
 | .t i=> !(decide (lo<=i)&&decide (i<hi))
 | _=>true
def z5c (P:Program)(im:Im)(ops:Array Oper)(i q k c lo hi:Nat)(want:Bool):Bool :=
 (List.range q).all fun r=>decide (r<i) ||
   match ops[r]? with
   | some o=>(match o.dst with|some d=>decide (lo<=d)&&decide (d<hi)&&d != c|none=>false) &&
      (match zan P im o with|some m=> !zbk m|none=>false) &&
      (match o.guard with|some (j,w)=>(j==k&&w==want)||(decide (i<=j)&&decide (j<r))|none=>false)
   | none=>false
def zch (P:Program)(im:Im)(ops:Array Oper):Nat->Option (Nat×Bool)->Nat->Nat->Option (Its×Nat)
 | 0,_,_,_=>none
 | n+1,g,lo,i =>
   match ops[i]? with
   | none=>some (.nil,i)
   | some o =>
     if o.guard=g then
      (zan P im o).bind fun m=>(zch P im ops n g lo (i+1)).map fun q=>(.op o.dst m q.1,q.2)
     else
      match o.guard with
      | none=>some (.nil,i)
      | some (j,want) =>
        if lo<=j then
         (zch P im ops n (some (j,want)) i i).bind fun q =>
           match ops[q.2]? with
           | some {dst:=some d,op:=.pick (.tmp c) a b,guard:=g',..} =>
             if g'=g/\(ops[j]?).bind (·.dst)=some c then
              (zag a).bind fun a=>(zag b).bind fun b =>
                match (ops[i]?).bind (·.dst),(ops[q.2-1]?).bind (·.dst)with
                | some l,some h =>
                  if z5c P im ops i q.2 j c l (h+1) want&&(if want then b else a).out l (h+1)then
                   (zch P im ops n g lo (q.2+1)).map fun z=>(.ite c want q.1 l (h+1) d a b z.1,z.2)
                  else none
                | _,_=>none
             else none
           | _=>none
        else some (.nil,i)
def zgk :MOp->Bool
 | .load .. | .b2s _| .arrAt .. | .slSl .. | .slArr .. | .faddr .. | .iaddrA .. | .iaddrS .. | .call .. | .callv .. | .append .. | .copy .. | .store .. | .idc _| .clear .. | .appmk .. | .mapop .. =>true
 | _=>false
def zdn :MOp->Bool
 | .call _ _ .lend| .callv _ _ .lend=>true
 | _=>false
def isImp :MOp->Bool
 | .call _ _ .imp| .callv _ _ .imp=>true
 | _=>false
def zfz :MOp->Bool
 | .call .. | .callv .. =>true
 | _=>false
def zf6 (P:Program)(im:Im)(ops:Array Oper)(o:Oper):Option FO :=
 (zan P im o).bind fun m =>
   match o.guard with
   | none=>some {d:=o.dst,m,g:=none}
   | some (j,want)=>((ops[j]?).bind (·.dst)).map fun c=>{d:=o.dst,m,g:=some (c,want)}
def FO.uses (o:FO):List Nat:=(o.m.opds.filterMap fun x=>match x with| .t i=>some i|_=>none)++(match o.g with|some (c,_)=>[c]|none=>[])
def MOp.cOk (m:MOp):Bool:=m.opds.all fun x=>match x with| .c a=>a.refs.isEmpty|_=>true
def FO.apart (u o:FO):Bool :=
 (match u.d with|some d=> !o.uses.contains d&&o.d != some d|none=>true)&&(match o.d with|some d=> !u.uses.contains d|none=>true) &&
   !(zbk u.m&&zdn o.m)&& !(zdn u.m&&zbk o.m)
def FO.clash (u o:FO):Bool:=(zbk u.m&&zgk o.m)||(zgk u.m&&zbk o.m)
def z4h (ops:Array Oper):Bool:=ops.toList.zipIdx.all fun q=>q.1.after.toList.all fun e=> !Region.binds .any e||decide (e.on<q.2)
def zxd (ops:Array Oper)(fos:List FO):Bool :=
 let b:=Region.before ops
 z4h ops&&fos.all (fun o=>o.m.cOk)&&fos.zipIdx.all fun q=>(fos.take q.2).zipIdx.all fun r=>(b.getD q.2 0).testBit r.2||r.1.apart q.1
def zpz (ops:Array Oper)(fos:List FO):List (Nat×Nat) :=
 let b:=Region.before ops
 fos.zipIdx.flatMap fun q=>(fos.take q.2).zipIdx.filterMap fun r=>if !(b.getD q.2 0).testBit r.2&&r.1.clash q.1 then some (r.2,q.2)else none
def qe1 (l:List (Nat×List Kp))(k:Nat):Option (List Kp):=(l.find? (·.1==k)).map (·.2)
structure Rf where
 rid:Nat
 slots:List Nat
 kd:Nat
 dc:Nat
def z5k (l:List (Nat×Rf))(k:Nat):Option Rf:=(l.find? (·.1==k)).map (·.2)
structure Ann where
 loops:List (Nat×List Kp)
 after:List (Nat×List Kp)
 im:List Nat:=[]
 rfs:List (Nat×Rf):=[]
def Ann.imf (an:Ann):Im:=fun d=>an.im.contains d
def zqx (P:Program)(an:Ann)(ops:Array Oper):Bool->Option MC
 | false =>
   match zch P an.imf ops (2*ops.size+2) none 0 0 with
   | some q=>if q.2=ops.size then some (.reg q.1)else none
   | none=>(mapO (zf6 P an.imf ops) ops.toList).map fun l=>.draw l []
 | true=>(mapO (zf6 P an.imf ops) ops.toList).bind fun l=>if zxd ops l then some (.draw l (zpz ops l))else none
def comp (P:Program)(an:Ann):Nat->Code->Option MC
 | _,.skip=>some .skip
 | _,.region _ ops draw=>some ((zqx P an ops draw).getD .bad)
 | id,.seq a b=>(comp P an id a).bind fun a=>(comp P an id b).map fun b=>.seq a b
 | id,.cond c a b=>(zag c).bind fun c=>(comp P an id a).bind fun a=>(comp P an id b).map fun b=>.cond c a b
 | _,.block id b=>(comp P an id b).map fun b=>match qe1 an.after id with|some ks=>.kept ks (.block id b)|none=>.block id b
 | id,.loop b=>(comp P an 1000000 b).map fun b=>.loop ((qe1 an.loops id).getD []) b
 | _,.exit id=>some (.exit id)
 | _,.ret=>some .ret
 | id,.scope b=>(comp P an id b).map .scope
 | _,.label _=>some .skip
 | id,.rangeFunc g _ _ _=>match z5k an.rfs id with
   | some q=>(zag g).map fun g=>.rangeF q.rid g q.slots q.kd q.dc
   | none=>some .bad
 | _,_=>some .bad
def zds (an:Ann)(N:Nat):Nat->Code->List (Nat×RInfo)
 | id,.seq a b=>zds an N id a++zds an N id b
 | id,.cond _ a b=>zds an N id a++zds an N id b
 | _,.block id b=>zds an N id b
 | _,.loop b=>zds an N 1000000 b
 | id,.scope b=>zds an N id b
 | id,.rangeFunc _ ps as b=>match z5k an.rfs id with
   | some q=>[(q.rid,⟨ps,as,b,q.slots,N⟩)]
   | none=>[]
 | _,_=>[]
def zei (P:Program):ResultVar->Option ResD
 | .tmp t=>some (.tmp t)
 | .cell a t=>(shOf P SF t).map fun sh=>.cell a sh.agg sh.size
end Go.Ev
