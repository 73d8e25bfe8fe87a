/-
  The evaluator: a big-step, deterministic evaluation of the model's code over an abstract heap. No condition: definitions only.
-/
import Derived.RangeFuncIn
import Derived.DefersIn
import Derived.Laws.Sem
set_option linter.all false
open List renaming append_assoc->wB,length_cons->wC,mem_or_eq_of_mem_set->wD,all_eq_true->wE,getElem_append_right->wF,getElem_append_left->wG,mem_of_getElem?->wH,range->wJ,length_append->wK
open Nat renaming le_trans->wM,le_refl->wN,add_assoc->wO,ne_of_lt->wP,add_mul->wQ
open Bool renaming and_eq_true->wR
open Option renaming bind_eq_some_iff->wS,map_eq_some_iff->wT
open Array renaming getElem?_setIfInBounds_ne->wU,getElem?_eq_some_iff->wW,getElem?_setIfInBounds_self_of_lt->wX,ext_getElem?->wY,getElem?_modify->wZ,getElem?_push->w0
namespace Go.Ev
open Go
inductive Sh where
 | sc
 | st (fs:List Sh)
 | ar (n:Nat) (e:Sh)
 deriving Inhabited
mutual
def Sh.size :Sh->Nat
 | .sc=>1
 | .st fs=>Sh.sizes fs
 | .ar n e=>n*e.size
def Sh.sizes :List Sh->Nat
 | []=>0
 | s::l=>s.size+Sh.sizes l
end
inductive AV where
 | unk
 | bool (b:Bool)
 | int (k:IntKind) (n:Int)
 | str (l:List UInt8)
 | s (v:Value)
 | agg (l:List AV)
 | aggR (l:List AV)
 | tup (l:List AV)
 | lst (full:Bool) (sh:Sh) (l:List AV)
 | sl (k:Nat) (p:List Nat) (off len:Nat)
 | ptr (k:Nat) (p:List Nat)
 | arp (k:Nat) (p:List Nat) (off n:Nat)
 | cp (sh:Sh) (a:AV)
 | fn (f:Nat) (caps:List AV)
 | yld (k:Nat)
 | mp (k:Nat)
 deriving Inhabited
namespace AV
def plain :AV->Bool
 | .bool _| .int _ _| .str _| .s _| .agg _| .lst _ _ _| .cp _ _=>true
 | _=>false
def plains :List AV->Bool
 | []=>true
 | a::l=>a.plain&&plains l
def scalar :AV->Bool
 | .agg _| .aggR _| .tup _| .unk=>false
 | _=>true
def known :AV->Bool
 | .tup _| .unk=>false
 | _=>true
def knowns :List AV->Bool
 | []=>true
 | a::l=>a.known&&knowns l
def scalars :List AV->Bool
 | []=>true
 | a::l=>a.scalar&&scalars l
def isAgg :AV->Bool
 | .agg _| .aggR _=>true
 | _=>false
def kids :AV->List AV
 | .agg l| .aggR l=>l
 | _=>[]
def mk (l:List AV):AV:=if plains l then .agg l else .aggR l
mutual
def flat :AV->List AV
 | .agg l=>flats l
 | .aggR l=>flats l
 | a=>[a]
def flats :List AV->List AV
 | []=>[]
 | a::l=>flat a++flats l
end
def nav :AV->List Nat->Option AV
 | a,[]=>some a
 | .agg l,i::p=>(l[i]?).bind fun x=>nav x p
 | .aggR l,i::p=>(l[i]?).bind fun x=>nav x p
 | _,_::_=>none
def put (a:AV)(l:List AV)(i:Nat)(x:AV):AV :=
 match a with
 | .agg _=>if x.plain then .agg (l.set i x)else .aggR (l.set i x)
 | _=>.aggR (l.set i x)
def setNav :AV->List Nat->AV->Option AV
 | _,[],x=>some x
 | .agg l,i::p,x=>(l[i]?).bind fun y=>(setNav y p x).map fun y'=>if y'.plain then .agg (l.set i y')else .aggR (l.set i y')
 | .aggR l,i::p,x=>(l[i]?).bind fun y=>(setNav y p x).map fun y'=>.aggR (l.set i y')
 | _,_::_,_=>none
mutual
def refs :AV->List Nat
 | .aggR l=>refss l
 | .tup l=>refss l
 | .fn _ l=>refss l
 | .sl k _ _ _=>[k]
 | .ptr k _=>[k]
 | .arp k _ _ _=>[k]
 | .yld k=>[k]
 | .mp k=>[k]
 | _=>[]
def refss :List AV->List Nat
 | []=>[]
 | a::l=>refs a++refss l
end
end AV
mutual
def aD :Sh->AV->Bool
 | .sc,a=>a.scalar
 | .st fs,a=>a.isAgg&&bh fs a.kids
 | .ar n e,a=>a.isAgg&&(a.kids.length==n)&&a.kids.all (aD e)
def bh :List Sh->List AV->Bool
 | [],[]=>true
 | s::fs,a::l=>aD s a&&bh fs l
 | _,_=>false
end
def Sh.sub :Sh->List Nat->Option Sh
 | s,[]=>some s
 | .st fs,i::p=>(fs[i]?).bind fun s=>Sh.sub s p
 | .ar n e,i::p=>if i<n then Sh.sub e p else none
 | .sc,_::_=>none
def Sh.off :Sh->List Nat->Option Nat
 | _,[]=>some 0
 | .st fs,i::p=>(fs[i]?).bind fun s=>(Sh.off s p).map fun o=>Sh.sizes (fs.take i)+o
 | .ar n e,i::p=>if i<n then(Sh.off e p).map fun o=>i*e.size+o else none
 | .sc,_::_=>none
inductive Ek where
 | bo
 | it
 | sg
 | st (fs:List Ek)
 | ar (n:Nat) (e:Ek)
 deriving Inhabited
inductive Ex where
 | norm
 | exit (id:Nat)
 | ret
 deriving DecidableEq,Inhabited
structure RInfo where
 params:Array Tmp
 assign:Code
 body:Code
 slots:List Nat
 nt:Nat
 deriving Inhabited
inductive RS where
 | ready
 | busy
 | done (e:Ex)
 deriving Inhabited
inductive NE where
 | gone
 | own (l:List AV)
 | nm (k n:Nat)
 deriving Inhabited
inductive OB where
 | fix (sh:Sh) (a:AV)
 | grow (sh:Sh) (els:List AV)
 | dead
 | lp (rid:Nat) (vals:List AV) (s:RS)
 | mp (es:List (AV×AV×Nat)) (clock:Nat)
 | nest (els:List NE)
instance : Inhabited OB:=⟨.dead⟩
abbrev Hp :=List (Nat×OB)
def Hp.get :Hp->Nat->Option OB
 | [],_=>none
 | (k,o)::r,j=>if k=j then some o else Hp.get r j
inductive FE where
 | set (i:Nat) (v:AV)
 | clr (lo hi:Nat)
 deriving Inhabited
abbrev Fr :=List FE
def Fr.get :Fr->Nat->AV
 | [],_=>.unk
 | .set i v::r,j=>if i=j then v else Fr.get r j
 | .clr lo hi::r,j=>if lo<=j/\j<hi then .unk else Fr.get r j
structure St where
 fr:Fr
 hp:Hp
 deriving Inhabited
inductive Opd where
 | t (i:Nat)
 | c (a:AV)
 | g (i:Nat)
 | f (i:Nat)
 deriving Inhabited
structure Gl where
 tbl:Nat->Option (Sh×AV)
 ri:Nat->Option RInfo
def Gl.none :Gl:=⟨fun _=>.none,fun _=>.none⟩
def Opd.val (gl:Gl)(fr:Fr):Opd->AV
 | .t i=>fr.get i
 | .c a=>a
 | .g i=>match gl.tbl i with|some (sh,a)=>.cp sh a|none=>.unk
 | .f i=>.fn i []
inductive Mode where
 | lend
 | imp
 deriving Inhabited
inductive MK where
 | mk
 | look (ok:Bool)
 | upd
 | ent
 | sto
 | del
 | len
 deriving Inhabited
def MK.w :MK->Bool
 | .upd| .ent| .sto| .del=>true
 | _=>false
inductive MOp where
 | mov (x:Opd)
 | pick (c a b:Opd)
 | alloc (sh:Sh) (z:AV)
 | box (sh:Sh) (x:Opd)
 | build (sh:Sh) (z:AV) (jg:List (Nat×Opd))
 | bslice (sh:Sh) (z:AV) (len:Nat) (jg:List (Nat×Opd))
 | lits (sh:Sh) (z:AV) (len:Nat) (jg:List (Nat×Opd))
 | load (agg:Bool) (n:Nat) (x:Opd)
 | store (n:Nat) (p x:Opd)
 | bin (op:BinOp) (x y:Opd)
 | binB (op:BinOp) (x y:Opd)
 | eqA (neg:Bool) (sh:Sh) (k:Ek) (x y:Opd)
 | un (op:UnOp) (x:Opd)
 | conv (k:IntKind) (x:Opd)
 | s2b (x:Opd)
 | b2s (x:Opd)
 | idc (x:Opd)
 | strc (x:Opd)
 | arrAt (n:Nat) (x:Opd)
 | mkfn (f:Nat) (caps:List Opd)
 | mkslice (sh:Sh) (z:AV) (bytes:Nat) (l c:Opd)
 | mkarr (sh:Sh) (z:AV) (bytes:Nat) (l c:Opd)
 | nap (bytes:Nat) (x y:Opd)
 | ntk (x:Opd)
 | slStr (x:Opd) (lo hi:Option Opd)
 | slSl (esz:Nat) (x:Opd) (lo hi mx:Option Opd)
 | slArr (n esz:Nat) (x:Opd) (lo hi:Option Opd)
 | faddr (i off:Nat) (x:Opd)
 | iaddrA (n esz:Nat) (x i:Opd)
 | iaddrS (esz:Nat) (x i:Opd)
 | field (sh:Sh) (i:Nat) (x:Opd)
 | idxStr (x i:Opd)
 | idxArr (n:Nat) (e:Sh) (x i:Opd)
 | extr (x:Opd) (i:Nat)
 | nilck (x:Opd)
 | len (str:Bool) (x:Opd)
 | append (sh:Sh) (bytes:Nat) (x y:Opd)
 | copy (sh:Sh) (x y:Opd)
 | clear (sh:Sh) (z:AV) (x:Opd)
 | capl (x:Opd)
 | appmk (sh:Sh) (z:AV) (bytes:Nat) (x n:Opd)
 | mini (xs:List Opd)
 | maxi (xs:List Opd)
 | call (f:Nat) (args:List Opd) (m:Mode)
 | callv (f:Opd) (args:List Opd) (m:Mode)
 | mapop (k:MK) (kk:Nat) (z:AV) (xs:List Opd)
 deriving Inhabited
def LIM :Nat:=2^36
def az (l:List UInt8):List AV:=l.map fun b=>.int .u8 b.toNat
def byteOf :AV->Option UInt8
 | .int .u8 n=>some (UInt8.ofNat n.toNat)
 | _=>none
def iS :List AV->Option (List UInt8)
 | []=>some []
 | a::l=>(byteOf a).bind fun b=>(iS l).map fun r=>b::r
def aM (op:BinOp)(k:IntKind)(a b:Int):Option AV :=
 match op with
 | .add=>some (.int k (k.wrap (a+b)))
 | .sub=>some (.int k (k.wrap (a-b)))
 | .mul=>some (.int k (k.wrap (a*b)))
 | .quo=>if b=0 then none else some (.int k (k.wrap (a.tdiv b)))
 | .rem=>if b=0 then none else some (.int k (a.tmod b))
 | .and=>some (.int k (k.wrap ((BitVec.ofInt k.bits a&&&BitVec.ofInt k.bits b).toNat)))
 | .or=>some (.int k (k.wrap ((BitVec.ofInt k.bits a|||BitVec.ofInt k.bits b).toNat)))
 | .xor=>some (.int k (k.wrap ((BitVec.ofInt k.bits a^^^BitVec.ofInt k.bits b).toNat)))
 | .andNot=>some (.int k (k.wrap ((BitVec.ofInt k.bits a&&& ~~~BitVec.ofInt k.bits b).toNat)))
 | .eql=>some (.bool (a==b))
 | .neq=>some (.bool (a != b))
 | .lss=>some (.bool (a<b))
 | .leq=>some (.bool (a<=b))
 | .gtr=>some (.bool (a>b))
 | .geq=>some (.bool (a>=b))
 | _=>none
def bW (op:BinOp)(k:IntKind)(a b:Int):Option AV :=
 if b<0 then none else
 match op with
 | .shl=>some (.int k (k.wrap (a*2^(min b.toNat k.bits))))
 | .shr=>some (.int k (a.fdiv (2^(min b.toNat k.bits))))
 | _=>none
def p5 (op:BinOp)(a b:List UInt8):Option AV :=
 match op with
 | .add=>if a.length+b.length<=LIM then some (.str (a++b))else none
 | .eql=>some (.bool (a==b))
 | .neq=>some (.bool (!(a==b)))
 | .lss=>some (.bool (Op.bytesLess a b))
 | .leq=>some (.bool (Op.bytesLess a b||a==b))
 | .gtr=>some (.bool (!(Op.bytesLess a b||a==b)))
 | .geq=>some (.bool (!Op.bytesLess a b))
 | _=>none
def fQ (op:BinOp)(x y:AV):Option AV :=
 match x,y with
 | .int k a,.int k' b =>
   match op with
   | .shl=>bW .shl k a b
   | .shr=>bW .shr k a b
   | _=>if k=k' then aM op k a b else none
 | .str a,.str b=>p5 op a b
 | _,_=>none
def Bw (op:BinOp)(x y:AV):Option AV :=
 match x,y with
 | .bool a,.bool b=>match op with
   | .eql=>some (.bool (a==b))
   | .neq=>some (.bool (!(a==b)))
   | _=>none
 | _,_=>none
mutual
def jZ :Ek->AV->AV->Option Bool
 | .it,.int k a,.int k' b=>if k=k' then some (a==b)else none
 | .bo,.bool a,.bool b=>some (a==b)
 | .sg,.str a,.str b=>some (a==b)
 | .st fs,.agg l,.agg m=>lD fs l m
 | .ar n e,.agg l,.agg m=>if l.length=n/\m.length=n then tV (l.zip m) (fun p=>jZ e p.1 p.2)else none
 | _,_,_=>none
def lD :List Ek->List AV->List AV->Option Bool
 | [],[],[]=>some true
 | k::fs,a::l,b::m=>(jZ k a b).bind fun t=>if t then lD fs l m else some false
 | _,_,_=>none
def tV :List (AV×AV)->(AV×AV->Option Bool)->Option Bool
 | [],_=>some true
 | p::r,f=>(f p).bind fun t=>if t then tV r f else some false
end
mutual
def Sh.beq :Sh->Sh->Bool
 | .sc,.sc=>true
 | .st fs,.st gs=>Sh.beqs fs gs
 | .ar n e,.ar m f=>n==m&&Sh.beq e f
 | _,_=>false
def Sh.beqs :List Sh->List Sh->Bool
 | [],[]=>true
 | s::l,t::m=>Sh.beq s t&&Sh.beqs l m
 | _,_=>false
end
def sub (l:List AV)(off len:Nat):List AV:=(l.drop off).take len
def bn (hp:Hp):AV->Option (Sh×List AV)
 | .lst _ sh l=>some (sh,l)
 | .sl k p off len =>
   match hp.get k,p with
   | some (.grow sh els),[]=>if off+len<=els.length then some (sh,sub els off len)else none
   | some (.fix sh a),p =>
     match sh.sub p,a.nav p with
     | some (.ar _ e),some (.agg l)=>if off+len<=l.length then some (e,sub l off len)else none
     | _,_=>none
   | _,_=>none
 | _=>none
def bw {α β:Type}(f:α->Option β):List α->Option (List β)
 | []=>some []
 | a::l=>(f a).bind fun b=>(bw f l).map fun r=>b::r
def aW (hp:Hp):Nat->AV->Option AV
 | 0,a=>if a.plain then some a else none
 | n+1,a =>
   if a.plain then some a else
   match a with
   | .sl k p off len=>(bn hp (.sl k p off len)).map fun c=>.lst false c.1 c.2
   | .ptr k p =>
     match hp.get k with
     | some (.fix sh b) =>
       match sh.sub p,b.nav p with
       | some s,some x=>(aW hp n x).bind fun y=>if y.plain then some (.cp s y)else none
       | _,_=>none
     | _=>none
   | .aggR l=>(bw (aW hp n) l).bind fun l'=>if AV.plains l' then some (.agg l')else none
   | .fn f l=>(bw (aW hp n) l).map (.fn f)
   | _=>none
def jg (sub:Nat->Option Sh)(zs:List AV):List (Nat×AV)->Option (List AV)
 | []=>some zs
 | (i,x)::r =>
   match sub i with
   | some s=>if aD s x then jg sub (zs.set i x) r else none
   | none=>none
def ka :AV->AV->Option AV
 | .int k x,.int k' y=>if k=k' then some (.int k (if y<x then y else x))else none
 | _,_=>none
def mI :AV->AV->Option AV
 | .int k x,.int k' y=>if k=k' then some (.int k (if y>x then y else x))else none
 | _,_=>none
def fL (f:AV->AV->Option AV):AV->List AV->Option AV
 | a,[]=>some a
 | a,b::l=>(f a b).bind fun c=>fL f c l
abbrev Cl :=Nat->List AV->Hp->Option (AV×Hp×List OB)
mutual
def rn (d:Nat):AV->AV
 | .sl k p o l=>.sl (if 20000<=k then d+1000*(k-20000)else k) p o l
 | .ptr k p=>.ptr (if 20000<=k then d+1000*(k-20000)else k) p
 | .arp k p o n=>.arp (if 20000<=k then d+1000*(k-20000)else k) p o n
 | .aggR l=>.aggR (rns d l)
 | .tup l=>.tup (rns d l)
 | .fn f l=>.fn f (rns d l)
 | .yld k=>.yld (if 20000<=k then d+1000*(k-20000)else k)
 | .mp k=>.mp (if 20000<=k then d+1000*(k-20000)else k)
 | a=>a
def rns (d:Nat):List AV->List AV
 | []=>[]
 | a::l=>rn d a::rns d l
end
def cv (hp:Hp)(d:Nat):Nat->List OB->Option Hp
 | _,[]=>some []
 | j,.grow sh els::l=>if(hp.get (d+1000*j)).isNone&&decide (d+1000*j<100000)then(cv hp d (j+1) l).map fun r=>(d+1000*j,.grow sh els)::r else none
 | _,_::_=>none
mutual
def db :AV->Bool
 | .lst _ _ l=>l.isEmpty
 | .cp _ _| .fn _ _=>false
 | .agg l=>dN l
 | .aggR l=>dN l
 | .tup l=>dN l
 | _=>true
def dN :List AV->Bool
 | []=>true
 | a::l=>db a&&dN l
end
def gn :OB->Bool
 | .grow _ els=>dN els
 | _=>false
def vals (gl:Gl)(fr:Fr):List Opd->List AV
 | []=>[]
 | x::l=>x.val gl fr::vals gl fr l
def dR :List Nat->Bool
 | []=>true
 | a::l=> !l.contains a&&dR l
def uX (a b:List Nat):Bool:=a.all fun x=> !b.contains x
def SHK :Nat:=100000
mutual
def rA (ρ:Nat->Nat):AV->AV
 | .sl k p o l=>.sl (ρ k) p o l
 | .ptr k p=>.ptr (ρ k) p
 | .arp k p o n=>.arp (ρ k) p o n
 | .aggR l=>.aggR (rAs ρ l)
 | .tup l=>.tup (rAs ρ l)
 | .fn f l=>.fn f (rAs ρ l)
 | .yld k=>.yld (ρ k)
 | .mp k=>.mp (ρ k)
 | a=>a
def rAs (ρ:Nat->Nat):List AV->List AV
 | []=>[]
 | a::l=>rA ρ a::rAs ρ l
end
def rNE (ρ:Nat->Nat):NE->NE
 | .nm k n=>.nm (ρ k) n
 | e=>e
def kq (ρ:Nat->Nat):List NE->List NE
 | []=>[]
 | e::l=>rNE ρ e::kq ρ l
def dE :List NE->List Nat
 | []=>[]
 | .nm k _::l=>k::dE l
 | _::l=>dE l
def rOB (ρ:Nat->Nat):OB->OB
 | .fix sh a=>.fix sh (rA ρ a)
 | .lp rid vals s=>.lp rid (rAs ρ vals) s
 | .nest els=>.nest (kq ρ els)
 | o=>o
def idx :List Nat->Nat->Nat
 | [],_=>0
 | a::l,k=>if a=k then 0 else idx l k+1
def up (ks:List Nat)(k:Nat):Nat:=SHK+idx ks k
def dn (ks:List Nat)(d q:Nat):Nat:=if SHK<=q then ks.getD (q-SHK) 0 else d+1000*(q-20000)
def bO :OB->List Nat
 | .fix _ a=>a.refs
 | .lp _ vals _=>AV.refss vals
 | .nest els=>dE els
 | _=>[]
def er :Option OB->List Nat
 | some o=>bO o
 | none=>[]
def eo (hp:Hp):Nat->List Nat->List Nat->List Nat
 | 0,_,acc=>acc
 | _+1,[],acc=>acc
 | n+1,k::t,acc=>if acc.contains k then eo hp n t acc else eo hp n (er (hp.get k)++t) (acc++[k])
def aZ (hp:Hp)(l:List Nat):List Nat:=eo hp 64 l []
def dT (hp:Hp)(ks:List Nat):Bool:=ks.all fun k=>(hp.get k).isSome&&(er (hp.get k)).all ks.contains
def jT (hp:Hp)(k:Nat):OB:=(hp.get k).getD .dead
def mu (hp:Hp)(ks:List Nat)(d:Nat):Nat->List OB->Option Hp
 | _,[]=>some []
 | j,o::l=>if(hp.get (d+1000*j)).isNone&&decide (d+1000*j<SHK)then(mu hp ks d (j+1) l).map fun r=>(d+1000*j,rOB (dn ks d) o)::r else none
def bN :Hp->Nat->Nat->Bool
 | [],_,0=>true
 | (q,_)::r,i,n+1=>decide (q=SHK+i)&&bN r (i+1) n
 | _,_,_=>false
def dP (ks:List Nat)(d:Nat):Hp->Hp
 | []=>[]
 | (q,o)::r=>(ks.getD (q-SHK) 0,rOB (dn ks d) o)::dP ks d r
def iU (hp:Hp)(all:List Nat):List Nat->Hp
 | []=>[]
 | k::ks=>(up all k,rOB (up all) (jT hp k))::iU hp all ks
def yC (hp:Hp)(d:Nat)(ks:List Nat):Option (AV×Hp×List OB)->Option (AV×Hp)
 | some (r,hp',es)=>if bN hp' 0 ks.length then(mu hp ks d 0 es).map fun us=>(rA (dn ks d) r,dP ks d hp'++us)else none
 | none=>none
def dq (cl:Cl)(hp:Hp)(d f:Nat)(args:List AV)(ks:List Nat):Option (AV×Hp) :=
 if dT hp ks&&(AV.refss args).all ks.contains&&dR ks&&AV.knowns args then yC hp d ks (cl f (rAs (up ks) args) (iU hp ks ks))else none
def MB :Nat:=2000000
def cvF (f:Nat):Nat:=if f<MB then f else f-MB
def cvA (f:Nat)(args caps:List AV):List AV:=if f<MB then args++caps else caps++args
def RB :Nat:=1000000
def dg (cl:Cl)(hp:Hp)(d:Nat)(f:Nat)(args:List AV)(m:Mode):Option (AV×Hp) :=
 match m with
 | .lend =>
   (bw (aW hp 4) args).bind fun as =>
   match cl f as []with
   | some (r,[],[])=>if AV.plains args||db r then some (r,[])else none
   | some (r,[],e::es)=>if AV.plains args||(db r&&(e::es).all gn)then(cv hp d 0 (e::es)).map fun us=>(rn d r,us)else none
   | _=>none
 | .imp=>if f<RB then dq cl hp d f args (aZ hp (AV.refss args))else none
def gX (hp:Hp):AV->Option (AV×List Nat)
 | .lst f sh l=>some (.lst f sh l,[])
 | .sl k [] 0 n =>
   match hp.get k with
   | some (.grow sh els)=>if n<=els.length then some (.lst false sh (els.take n),[k])else none
   | _=>none
 | _=>none
def ct :List Nat->Hp
 | []=>[]
 | k::l=>(k,.dead)::ct l
def cg (hp:Hp):List AV->List AV×List Nat
 | []=>([],[])
 | x::l=>(((gX hp x).getD (x,[])).1::(cg hp l).1,((gX hp x).getD (x,[])).2++(cg hp l).2)
def Xd (l:Hp):Option (AV×Hp)->Option (AV×Hp)
 | some (v,us)=>some (v,us++l)
 | none=>none
def lR (cl:Cl)(hp:Hp)(d q rid:Nat)(rs xs:List Nat):List AV×List Nat->Option (AV×Hp)
 | (as,ks)=>if xs.all rs.contains&&(aZ (ct ks++hp) (q::AV.refss as)).all rs.contains then Xd (ct ks) (dq cl (ct ks++hp) d (RB+rid) as (aZ (ct ks++hp) (q::AV.refss as)))else none
def gq (cl:Cl)(hp:Hp)(d q:Nat)(args:List AV)(m:Mode):Option (AV×Hp) :=
 match m,hp.get q with
 | .imp,some (.lp rid _ .ready)=>lR cl hp d q rid (aZ hp (q::AV.refss args)) (AV.refss args) (cg hp args)
 | _,_=>none
def asInt :AV->Option Int
 | .int _ n=>some n
 | _=>none
def eX (len:Nat)(lo hi:Option AV):Option (Nat×Nat) :=
 match lo,hi with
 | none,none=>some (0,len)
 | some (.int _ a),none=>if 0<=a/\a<=len then some (a.toNat,len)else none
 | none,some (.int _ b)=>if 0<=b/\b<=len then some (0,b.toNat)else none
 | some (.int _ a),some (.int _ b)=>if 0<=a/\a<=b/\b<=len then some (a.toNat,b.toNat)else none
 | _,_=>none
def gr (hp:Hp)(sh:Sh)(x y:AV):Option (AV×Hp) :=
 match x,y with
 | .sl k [] off len,.sl k' [] off2 len2 =>
   if k=k' then
    match hp.get k with
    | some (.grow shx els) =>
      if Sh.beq sh shx&&decide (off<=els.length/\els.length<=off+min len2 len/\off2+min len2 len<=els.length/\0<min len2 len)then
       some (.int .i64 (min len2 len:Nat),[(k,.grow shx (els.take off++Ev.sub els off2 (min len2 len)))])
      else none
    | _=>none
   else none
 | _,_=>none
def AV.kv :AV->Bool
 | .bool _| .int _ _| .str _=>true
 | _=>false
def isI :AV->Bool
 | .int _ _=>true
 | _=>false
def AV.kkv :AV->Bool
 | .agg l=>l.all isI
 | a=>a.kv
def cD :Nat->AV->Bool
 | 0,.int _ _=>true
 | 1,.str _=>true
 | 2,.bool _=>true
 | n+3,.agg l=>l.length==n&&l.all isI
 | _,_=>false
def eqI :List AV->List AV->Option Bool
 | [],[]=>some true
 | .int k a::l,.int k' b::m=>if k=k' then(eqI l m).map fun t=>(a==b)&&t else none
 | _,_=>none
def gD :AV->AV->Option Bool
 | .int k a,.int k' b=>if k=k' then some (a==b)else none
 | .str a,.str b=>some (a==b)
 | .bool a,.bool b=>some (a==b)
 | .agg a,.agg b=>eqI a b
 | _,_=>none
def bQ (q:AV):List (AV×AV×Nat)->Option (Option (Nat×AV))
 | []=>some none
 | e::r=>(gD q e.1).bind fun t=>if t then some (some (0,e.2.1))else(bQ q r).map (Option.map fun p=>(p.1+1,p.2))
def oR (es:List (AV×AV×Nat))(i:Nat):Nat:=((es[i]?).map (·.2.2)).getD 0
def sZ (ok:Bool)(z:AV):Option (Nat×AV)->AV
 | some p=>if ok then .tup [p.2,.bool true]else p.2
 | none=>if ok then .tup [z,.bool false]else z
def Ht (es:List (AV×AV×Nat))(c:Nat)(x y:AV):Option (Nat×AV)->OB
 | some p=>.mp (es.set p.1 (x,y,oR es p.1)) c
 | none=>.mp (es++[(x,y,c)]) (c+1)
def K3 (es:List (AV×AV×Nat))(c q:Nat)(x z:AV):Option (Nat×AV)->AV×Hp
 | some p=>(.tup [p.2,.int .i64 (oR es p.1)],[(q,.mp es c)])
 | none=>(.tup [z,.int .i64 c],[(q,.mp (es++[(x,z,c)]) (c+1))])
def pZ (es:List (AV×AV×Nat))(n:Int):Option Nat:=es.findIdx? fun e=>(e.2.2:Int)==n
def BP (es:List (AV×AV×Nat))(i:Nat)(y:AV):List (AV×AV×Nat):=es.modify i fun e=>(e.1,y,e.2.2)
def Bj (es:List (AV×AV×Nat)):Option (Nat×AV)->List (AV×AV×Nat)
 | some p=>es.eraseIdx p.1
 | none=>es
def bC (hp:Hp)(d:Option Nat)(k:MK)(kk:Nat)(z:AV)(xs:List AV):Option (AV×Hp) :=
 match k,xs with
 | .mk,[] =>
   match d with
   | some q=>if(hp.get q).isNone then some (.mp q,[(q,.mp [] 0)])else none
   | none=>none
 | .look ok,[.mp q,x] =>
   match hp.get q with
   | some (.mp es _)=>if cD kk x then(bQ x es).map fun r=>(sZ ok z r,[])else none
   | _=>none
 | .upd,[.mp q,x,y] =>
   match hp.get q with
   | some (.mp es c)=>if cD kk x&&y.kv then(bQ x es).map fun r=>(.unk,[(q,Ht es c x y r)])else none
   | _=>none
 | .ent,[.mp q,x] =>
   match hp.get q with
   | some (.mp es c)=>if cD kk x then(bQ x es).map fun r=>K3 es c q x z r else none
   | _=>none
 | .sto,[.mp q,.int _ n,y] =>
   match hp.get q with
   | some (.mp es c)=>if y.kv then(pZ es n).map fun i=>(.unk,[(q,.mp (BP es i y) c)])else none
   | _=>none
 | .del,[.mp q,x] =>
   match hp.get q with
   | some (.mp es c)=>if cD kk x then(bQ x es).map fun r=>(.tup [],[(q,.mp (Bj es r) c)])else none
   | _=>none
 | .len,[.mp q] =>
   match hp.get q with
   | some (.mp es _)=>some (.int .i64 es.length,[])
   | _=>none
 | _,_=>none
def af (gl:Gl)(cl:Cl)(st:St)(d:Option Nat)(m:MOp):Option (AV×Hp) :=
 let v:=Opd.val gl st.fr
 match m with
 | .mov x=>some (v x,[])
 | .pick c a b =>
   match v c with
   | .bool t=>some (if t then v a else v b,[])
   | _=>none
 | .alloc sh z =>
   match d with
   | some k=>if(st.hp.get k).isNone then some (.ptr k [],[(k,.fix sh z)])else none
   | none=>none
 | .box sh x =>
   match d with
   | some k=>if(st.hp.get k).isNone&&aD sh (v x)then some (.ptr k [],[(k,.fix sh (v x))])else none
   | none=>none
 | .build sh z ps =>
   match z,sh with
   | .agg zs,.st fs=>(jg (fs[·]?) zs (ps.map fun p=>(p.1,v p.2))).map fun l=>(AV.mk l,[])
   | .agg zs,.ar n e=>(jg (fun i=>if i<n then some e else none) zs (ps.map fun p=>(p.1,v p.2))).map fun l=>(AV.mk l,[])
   | _,_=>none
 | .bslice sh z len ps =>
   match d with
   | some k =>
     if(st.hp.get k).isNone then
      (jg (fun i=>if i<len then some sh else none) (List.replicate len z) (ps.map fun p=>(p.1,v p.2))).bind fun l =>
        if AV.plains l then some (.sl k [] 0 len,[(k,.grow sh l)])else some (.sl k [] 0 len,[(k,.fix (.ar len sh) (.aggR l))])
     else none
   | none=>none
 | .lits sh z len ps =>
   (jg (fun i=>if i<len then some sh else none) (List.replicate len z) (ps.map fun p=>(p.1,v p.2))).bind fun l=>if AV.plains l then some (.lst true sh l,[])else none
 | .load ag n x =>
   match v x with
   | .ptr k p =>
     match st.hp.get k,p with
     | some (.fix sh a),p =>
       match sh.sub p,a.nav p with
       | some s,some y=>if s.size=n/\y.isAgg=ag then some (y,[])else none
       | _,_=>none
     | some (.grow sh els),i::q =>
       match sh.sub q,(els[i]?).bind (·.nav q)with
       | some s,some y=>if s.size=n/\y.isAgg=ag then some (y,[])else none
       | _,_=>none
     | _,_=>none
   | .cp sh a=>if sh.size=n/\a.isAgg=ag then some (a,[])else none
   | .arp k p off cnt =>
     match st.hp.get k with
     | some (.fix sh a) =>
       match sh.sub p,a.nav p with
       | some (.ar _ e),some (.agg l)=>if ag=true/\cnt*e.size=n/\off+cnt<=l.length then some (.agg (sub l off cnt),[])else none
       | _,_=>none
     | _=>none
   | _=>none
 | .store n p x =>
   match v p with
   | .ptr k q =>
     match st.hp.get k,q with
     | some (.fix sh a),q =>
       match sh.sub q with
       | some s=>if s.size=n/\aD s (v x)then(a.setNav q (v x)).map fun a'=>(.unk,[(k,.fix sh a')])else none
       | none=>none
     | some (.grow sh els),i::q =>
       match sh.sub q,els[i]? with
       | some s,some e=>if s.size=n/\aD s (v x)/\(v x).plain then(e.setNav q (v x)).map fun e'=>(.unk,[(k,.grow sh (els.set i e'))])else none
       | _,_=>none
     | _,_=>none
   | _=>none
 | .bin op x y=>(fQ op (v x) (v y)).map fun r=>(r,[])
 | .binB op x y=>(Bw op (v x) (v y)).map fun r=>(r,[])
 | .eqA neg sh k x y=>if aD sh (v x)&&aD sh (v y)then(jZ k (v x) (v y)).map fun r=>(.bool (if neg then !r else r),[])else none
 | .un op x =>
   match op,v x with
   | .neg,.int k n=>some (.int k (k.wrap (0-n)),[])
   | .xor,.int k n=>some (.int k (k.wrap ((BitVec.ofInt k.bits (if k.signed then -1 else k.max)^^^BitVec.ofInt k.bits n).toNat)),[])
   | .not,.bool b=>some (.bool (!b),[])
   | _,_=>none
 | .conv k x =>
   match v x with
   | .int _ n=>some (.int k (k.wrap n),[])
   | _=>none
 | .s2b x =>
   match d,v x with
   | some k,.str l=>if(st.hp.get k).isNone&&decide (l.length<=LIM)then some (.sl k [] 0 l.length,[(k,.grow .sc (az l))])else none
   | _,_=>none
 | .b2s x =>
   match bn st.hp (v x)with
   | some (.sc,l)=>(iS l).map fun b=>(.str b,[])
   | _=>none
 | .idc x =>
   match v x with
   | .sl k p o l=>match st.hp.get k,p with
     | some (.grow .sc (e::els)),[]=>some (.sl k [] o l,[(k,.grow .sc (e::els))])
     | _,_=>none
   | _=>none
 | .strc x =>
   match v x with
   | .str l=>some (.str l,[])
   | _=>none
 | .arrAt n x =>
   match v x with
   | .sl k p off len =>
     match st.hp.get k with
     | some (.fix sh _) =>
       match sh.sub p with
       | some (.ar _ _)=>if n<=len/\0<n then some (.arp k p off n,[])else none
       | _=>none
     | _=>none
   | .lst _ sh l=>if n<=l.length/\0<n then some (.cp (.ar n sh) (.agg (l.take n)),[])else none
   | _=>none
 | .mkfn f caps =>
   let cs:=vals gl st.fr caps
   if AV.scalars cs then some (.fn f cs,[])else none
 | .mkslice sh z bytes l c =>
   match d,v l,v c with
   | some k,.int _ l,.int _ c =>
     if(st.hp.get k).isNone&&decide (0<=l/\l<=c/\c<=LIM/\bytes<=1024)then some (.sl k [] 0 l.toNat,[(k,.grow sh (List.replicate l.toNat z))])else none
   | _,_,_=>none
 | .mkarr sh z bytes l c =>
   match d,v l,v c with
   | some k,.int _ l,.int _ c =>
     if(st.hp.get k).isNone&&decide (0<=l/\l=c/\c<=LIM/\bytes<=1024)then some (.sl k [] 0 l.toNat,[(k,.fix (.ar l.toNat sh) (.agg (List.replicate l.toNat z)))])else none
   | _,_,_=>none
 | .slStr x lo hi =>
   match v x with
   | .str l=>(eX l.length (lo.map v) (hi.map v)).map fun b=>(.str ((l.take b.2).drop b.1),[])
   | _=>none
 | .slSl esz x lo hi mx =>
   match v x with
   | .lst full sh l =>
     if l.isEmpty||sh.size==esz then
      (eX l.length (lo.map v) (hi.map v)).bind fun b =>
        match mx with
        | none=>some (.lst (full&&(hi.isNone||b.2==l.length)) sh ((l.take b.2).drop b.1),[])
        | some m=>match v m with
          | .int _ mm=>if hi.isSome&&decide (mm=b.2)then some (.lst true sh ((l.take b.2).drop b.1),[])else none
          | _=>none
     else none
   | .sl k p off len =>
     match mx,st.hp.get k,p with
     | none,some (.grow sh els),[]=>if sh.size=esz then(eX (if hi.isSome then max len (els.length-off)else len) (lo.map v) (hi.map v)).map fun b=>(.sl k [] (off+b.1) (b.2-b.1),[])else none
     | none,some (.fix sh _),p =>
       match sh.sub p with
       | some (.ar _ e)=>if e.size=esz then(eX len (lo.map v) (hi.map v)).map fun b=>(.sl k p (off+b.1) (b.2-b.1),[])else none
       | _=>none
     | some m,_,_ =>
       match v m with
       | .int _ mm=>if hi.isSome&&decide (mm=len)then(eX len (lo.map v) (hi.map v)).map fun _=>(.unk,[])else none
       | _=>none
     | _,_,_=>none
   | _=>none
 | .slArr n esz x lo hi =>
   match v x with
   | .ptr k p =>
     match st.hp.get k with
     | some (.fix sh _) =>
       match sh.sub p with
       | some (.ar n' e)=>if n'=n/\e.size=esz then(eX n (lo.map v) (hi.map v)).map fun b=>(.sl k p b.1 (b.2-b.1),[])else none
       | _=>none
     | _=>none
   | .cp (.ar n' e) (.agg l)=>if n'=n/\e.size=esz then(eX n (lo.map v) (hi.map v)).map fun b=>(.lst hi.isNone e ((l.take b.2).drop b.1),[])else none
   | _=>none
 | .faddr i off x =>
   match v x with
   | .ptr k p =>
     match st.hp.get k,p with
     | some (.fix sh _),p =>
       match sh.sub p with
       | some (.st fs)=>if i<fs.length/\Sh.sizes (fs.take i)=off then some (.ptr k (p++[i]),[])else none
       | _=>none
     | some (.grow sh _),j::q =>
       match sh.sub q with
       | some (.st fs)=>if i<fs.length/\Sh.sizes (fs.take i)=off then some (.ptr k (j::(q++[i])),[])else none
       | _=>none
     | _,_=>none
   | .cp (.st fs) a =>
     match fs[i]?,a.kids[i]? with
     | some s,some y=>if Sh.sizes (fs.take i)=off then some (.cp s y,[])else none
     | _,_=>none
   | _=>none
 | .iaddrA n esz x i =>
   match v x,v i with
   | .ptr k p,.int _ j =>
     match st.hp.get k,p with
     | some (.fix sh _),p =>
       match sh.sub p with
       | some (.ar n' e)=>if n'=n/\e.size=esz/\0<=j/\j<n then some (.ptr k (p++[j.toNat]),[])else none
       | _=>none
     | some (.grow sh _),j0::q =>
       match sh.sub q with
       | some (.ar n' e)=>if n'=n/\e.size=esz/\0<=j/\j<n then some (.ptr k (j0::(q++[j.toNat])),[])else none
       | _=>none
     | _,_=>none
   | .cp (.ar n' e) a,.int _ j =>
     match a.kids[j.toNat]? with
     | some y=>if n'=n/\e.size=esz/\0<=j/\j<n then some (.cp e y,[])else none
     | none=>none
   | _,_=>none
 | .iaddrS esz x i =>
   match v x,v i with
   | .lst _ sh l,.int _ j =>
     match l[j.toNat]? with
     | some y=>if sh.size=esz/\0<=j/\j<l.length then some (.cp sh y,[])else none
     | none=>none
   | .sl k p off len,.int _ j =>
     match st.hp.get k,p with
     | some (.grow sh _),[]=>if sh.size=esz/\0<=j/\j<len then some (.ptr k [off+j.toNat],[])else none
     | some (.nest _),[]=>if 1=esz/\off=0/\0<=j/\j<len then some (.ptr k [j.toNat],[])else none
     | some (.fix sh _),p =>
       match sh.sub p with
       | some (.ar _ e)=>if e.size=esz/\0<=j/\j<len then some (.ptr k (p++[off+j.toNat]),[])else none
       | _=>none
     | _,_=>none
   | _,_=>none
 | .field sh i x =>
   match sh,v x with
   | .st fs,y=>if aD (.st fs) y then(y.kids[i]?).map fun r=>(r,[])else none
   | _,_=>none
 | .idxStr x i =>
   match v x,v i with
   | .str l,.int _ j =>
     match l[j.toNat]? with
     | some b=>if 0<=j then some (.int .u8 b.toNat,[])else none
     | none=>none
   | _,_=>none
 | .idxArr n e x i =>
   match v i with
   | .int _ j=>if aD (.ar n e) (v x)&&decide (0<=j)then((v x).kids[j.toNat]?).map fun r=>(r,[])else none
   | _=>none
 | .extr x i =>
   match v x with
   | .tup l=>(l[i]?).map fun r=>(r,[])
   | _=>none
 | .nap bytes x y =>
   match d,v y with
   | some k,.sl ky [] 0 1 =>
     if(st.hp.get k).isNone&&decide (bytes<=1024)then
      match st.hp.get ky with
      | some (.fix (.ar 1 .sc) (.aggR [.sl kl [] 0 m])) =>
        match v x with
        | .lst true _ []=>some (.sl k [] 0 1,[(k,.nest [.nm kl m])])
        | .sl kx [] 0 n =>
          match st.hp.get kx with
          | some (.nest els)=>if n=els.length/\n+1<=LIM then some (.sl k [] 0 (n+1),[(kx,.dead),(k,.nest (els++[.nm kl m]))])else none
          | _=>none
        | _=>none
      | _=>none
     else none
   | _,_=>none
 | .ntk x =>
   match d,v x with
   | some k,.ptr q [i] =>
     match st.hp.get q with
     | some (.nest els) =>
       match els[i]? with
       | some (.own l)=>if(st.hp.get k).isNone&& !l.isEmpty then some (.sl k [] 0 l.length,[(q,.nest (els.set i .gone)),(k,.grow .sc l)])else none
       | _=>none
     | _=>none
   | _,_=>none
 | .nilck x =>
   match v x with
   | .ptr k p=>some (.ptr k p,[])
   | .cp sh a=>some (.cp sh a,[])
   | _=>none
 | .len s x =>
   match s,v x with
   | true,.str l=>some (.int .i64 l.length,[])
   | false,.lst _ _ l=>some (.int .i64 l.length,[])
   | false,.sl _ _ _ n=>some (.int .i64 n,[])
   | _,_=>none
 | .append sh bytes x y =>
   match d,(match v y with| .str l=>some (Sh.sc,az l)|a=>bn st.hp a)with
   | some k,some (shy,ys) =>
     if(st.hp.get k).isNone&&decide (bytes<=1024)&&(ys.isEmpty||Sh.beq sh shy)then
      match v x with
      | .lst true shx l =>
        if(l.isEmpty||(Sh.beq sh shx&& !ys.isEmpty))&&decide (l.length+ys.length<=LIM)then
         some (.sl k [] 0 (l.length+ys.length),[(k,.grow sh (l++ys))])
        else none
      | .sl kx [] 0 n =>
        match st.hp.get kx with
        | some (.grow shx els) =>
          if Sh.beq sh shx&&decide (n=els.length/\els.length+ys.length<=LIM)then
           some (.sl k [] 0 (els.length+ys.length),[(kx,.dead),(k,.grow sh (els++ys))])
          else if Sh.beq sh shx&&decide (n+ys.length<=els.length)then
           some (.sl kx [] 0 (n+ys.length),[(k,.grow sh []),(kx,.grow sh (els.take n++ys++els.drop (n+ys.length)))])
          else none
        | _=>none
      | _=>none
     else none
   | _,_=>none
 | .copy sh x y =>
   match v x,(match v y with| .str l=>some (Sh.sc,az l)|a=>bn st.hp a)with
   | .sl k p off len,some (shy,ys) =>
     if ys.isEmpty||Sh.beq sh shy then
      let n:=min ys.length len
      match st.hp.get k,p with
      | some (.grow shx els),[] =>
        if Sh.beq sh shx&&decide (off+len<=els.length)then
         some (.int .i64 n,[(k,.grow shx (els.take off++ys.take n++els.drop (off+n)))])
        else none
      | some (.fix shx a),p =>
        match shx.sub p,a.nav p with
        | some (.ar _ e),some (.agg l) =>
          if Sh.beq sh e&&decide (off+len<=l.length)then
           (a.setNav p (.agg (l.take off++ys.take n++l.drop (off+n)))).map fun a'=>(.int .i64 n,[(k,.fix shx a')])
          else none
        | _,_=>none
      | _,_=>none
     else none
   | _,none=>gr st.hp sh (v x) (v y)
   | _,_=>none
 | .clear sh z x =>
   match v x with
   | .sl k [] off len =>
     match st.hp.get k with
     | some (.grow shx els) =>
       if Sh.beq sh shx&&decide (off+len<=els.length)then some (.unk,[(k,.grow shx (els.take off++List.replicate len z++els.drop (off+len)))])else none
     | _=>none
   | _=>none
 | .capl x =>
   match v x with
   | .lst true _ l=>some (.int .i64 l.length,[])
   | _=>none
 | .appmk sh z bytes x n =>
   match d,v x,v n with
   | some k,.lst true shx l,.int .i64 m =>
     if(st.hp.get k).isNone&&decide (1<=m/\bytes<=1024/\0<sh.size/\l.length+m.toNat<=LIM)&&(l.isEmpty||Sh.beq sh shx)then
      some (.sl k [] 0 (l.length+m.toNat),[(k,.grow sh (l++List.replicate m.toNat z))])
     else none
   | _,_,_=>none
 | .mini xs =>
   match vals gl st.fr xs with
   | []=>none
   | a::l=>(fL ka a l).map fun r=>(r,[])
 | .maxi xs =>
   match vals gl st.fr xs with
   | []=>none
   | a::l=>(fL mI a l).map fun r=>(r,[])
 | .call f args m =>
   match d with
   | some k=>dg cl st.hp k f (vals gl st.fr args) m
   | none=>none
 | .callv f args m =>
   match d,v f with
   | some k,.fn f caps=>dg cl st.hp k (cvF f) (cvA f (vals gl st.fr args) caps) m
   | some k,.yld q=>gq cl st.hp k q (vals gl st.fr args) m
   | _,_=>none
 | .mapop k kk z xs=>bC st.hp d k kk z (vals gl st.fr xs)
def Fr.upd (fr:Fr)(d:Option Nat)(v:AV):Fr :=
 match d with
 | some i=>.set i v::fr
 | none=>fr
def St.upd (st:St)(d:Option Nat)(v:AV)(us:Hp):St:={fr:=st.fr.upd d v,hp:=us++st.hp}
inductive Its where
 | nil
 | op (d:Option Nat) (m:MOp) (rest:Its)
 | ite (c:Nat) (want:Bool) (blk:Its) (lo hi:Nat) (d:Nat) (a b:Opd) (rest:Its)
 deriving Inhabited
def bA (gl:Gl)(cl:Cl):Its->St->Option St
 | .nil,st=>some st
 | .op d m rest,st=>(af gl cl st d m).bind fun r=>bA gl cl rest (st.upd d r.1 r.2)
 | .ite c want blk lo hi d a b rest,st =>
   match st.fr.get c with
   | .bool t =>
     (if t=want then(bA gl cl blk st).bind fun st1 =>
         let x:=(if want then a else b).val gl st1.fr
         if x.plain then some x else none
       else some ((if want then b else a).val gl st.fr)).bind fun x=>bA gl cl rest {fr:=.set d x::.clr lo hi::st.fr,hp:=st.hp}
   | _=>none
structure FO where
 d:Option Nat
 m:MOp
 g:Option (Nat×Bool)
 deriving Inhabited
mutual
def MOp.opds :MOp->List Opd
 | .mov x| .box _ x| .load _ _ x| .un _ x| .conv _ x| .s2b x| .b2s x| .idc x| .strc x| .arrAt _ x| .faddr _ _ x| .field _ _ x| .extr x _| .nilck x| .len _ x| .clear _ _ x| .capl x=>[x]
 | .pick c a b=>[c,a,b]
 | .alloc _ _=>[]
 | .build _ _ ps| .bslice _ _ _ ps| .lits _ _ _ ps=>ps.map (·.2)
 | .store _ p x| .bin _ p x| .binB _ p x| .eqA _ _ _ p x| .iaddrA _ _ p x| .iaddrS _ p x| .idxStr p x| .idxArr _ _ p x| .append _ _ p x| .copy _ p x| .appmk _ _ _ p x=>[p,x]
 | .mkfn _ l| .mini l| .maxi l=>l
 | .mkslice _ _ _ l c=>[l,c]
 | .mkarr _ _ _ l c=>[l,c]
 | .nap _ x y=>[x,y]
 | .ntk x=>[x]
 | .slStr x lo hi=>[x]++lo.toList++hi.toList
 | .slSl _ x lo hi mx=>[x]++lo.toList++hi.toList++mx.toList
 | .slArr _ _ x lo hi=>[x]++lo.toList++hi.toList
 | .call _ l _=>l
 | .callv f l _=>f::l
 | .mapop _ _ _ l=>l
end
def j1 (f:AV)(args:List AV):List Nat :=
 match f with
 | .yld q=>q::AV.refss args
 | .fn h caps=>AV.refss (cvA h args caps)
 | _=>AV.refss args
def bz (gl:Gl)(st:St)(m:MOp):List Nat :=
 match m with
 | .call _ l .imp=>aZ st.hp (AV.refss (vals gl st.fr l))
 | .callv f l .imp=>aZ st.hp (j1 (f.val gl st.fr) (vals gl st.fr l))
 | _=>AV.refss (vals gl st.fr m.opds)
def cj (gl:Gl)(cl:Cl):List FO->St->Option (St×List (List Nat))
 | [],st=>some (st,[])
 | o::l,st =>
   match o.g with
   | none=>(af gl cl st o.d o.m).bind fun r=>(cj gl cl l (st.upd o.d r.1 r.2)).map fun q=>(q.1,bz gl st o.m::q.2)
   | some (c,want) =>
     match st.fr.get c with
     | .bool t =>
       if t=want then(af gl cl st o.d o.m).bind fun r=>(cj gl cl l (st.upd o.d r.1 r.2)).map fun q=>(q.1,bz gl st o.m::q.2)
       else(cj gl cl l (st.upd o.d (.tup []) [])).map fun q=>(q.1,[]::q.2)
     | .tup []=>(cj gl cl l (st.upd o.d (.tup []) [])).map fun q=>(q.1,[]::q.2)
     | _=>none
inductive Kp where
 | slot (i:Nat)
 | own (i k:Nat) (sh:Sh)
 | key (k:Nat)
 | mv (q:Nat) (p:List Nat) (k:Nat)
 | fam (q base:Nat)
 | frz (q:Nat) (p:List Nat)
 | nst (a b:Nat)
 | frs (i:Nat)
 deriving Inhabited
def gJ (st:St)(acc:St):Kp->Option St
 | .slot i=>some {acc with fr:=.set i (st.fr.get i)::acc.fr}
 | .own i k sh =>
   match st.fr.get i with
   | .sl k' [] 0 n =>
     match st.hp.get k' with
     | some (.grow sh' els)=>if Sh.beq sh sh'&&decide (n=els.length)then some {fr:=.set i (.sl k [] 0 n)::acc.fr,hp:=(k,.grow sh els)::acc.hp}else none
     | _=>none
   | .lst true _ []=>some {fr:=.set i (.sl k [] 0 0)::acc.fr,hp:=(k,.grow sh [])::acc.hp}
   | _=>none
 | .key k =>
   match st.hp.get k with
   | some o=>some {acc with hp:=(k,o)::acc.hp}
   | none=>none
 | .mv _ _ _=>none
 | .fam _ _=>none
 | .frz _ _=>none
 | .nst _ _=>none
 | .frs _=>none
def eU (st:St):List Kp->St->Option St
 | [],acc=>some acc
 | x::l,acc=>(gJ st acc x).bind (eU st l)
def Kp.keys :List Kp->List Nat
 | []=>[]
 | .key k::l=>k::Kp.keys l
 | _::l=>Kp.keys l
def Kp.owns :List Kp->List Nat
 | []=>[]
 | .own _ k _::l=>k::Kp.owns l
 | _::l=>Kp.owns l
def Kp.slotRefs (st:St):List Kp->List Nat
 | []=>[]
 | .slot i::l=>(st.fr.get i).refs++Kp.slotRefs st l
 | .key k::l=>er (st.hp.get k)++Kp.slotRefs st l
 | _::l=>Kp.slotRefs st l
def Kp.ownSrc (st:St):List Kp->List Nat
 | []=>[]
 | .own i _ _::l=>(match st.fr.get i with| .sl k _ _ _=>[k]|_=>[])++Kp.ownSrc st l
 | _::l=>Kp.ownSrc st l
def pW (ks:List Kp)(st:St):Option St :=
 if dR (Kp.keys ks++Kp.owns ks)&&dR (Kp.keys ks++Kp.ownSrc st ks)&&(Kp.slotRefs st ks).all (fun k=>(Kp.keys ks).contains k)then
  eU st ks {fr:=[],hp:=[]}
 else none
def js (hp:Hp):Nat->Nat->List Kp
 | 0,_=>[]
 | n+1,i=>if(hp.get (SHK+i)).isSome then .key (SHK+i)::js hp n (i+1)else []
def ksA (ks:List Kp)(st:St):List Kp:=ks++js st.hp 64 0
def zO :Option AV->Option Nat
 | some (.sl k _ _ _)=>if k<SHK then some k else none
 | _=>none
def pX (hp:Hp)(q:Nat)(p:List Nat):Option Nat :=
 match hp.get q with
 | some (.fix _ a)=>zO (a.nav p)
 | _=>none
def Jv :Option Nat->List Kp->List Kp
 | some k,l=>.key k::l
 | none,l=>l
def GA :Nat->List AV->List (Nat×Nat)
 | _,[]=>[]
 | b,x::l=>(match zO (some x)with|some k=>[(k,b)]|none=>[])++GA (b+1) l
def mL (hp:Hp)(q b:Nat):List (Nat×Nat) :=
 match hp.get q with
 | some (.fix _ a)=>GA b a.kids
 | _=>[]
def dS (ps:List (Nat×Nat)):List Kp:=ps.map fun p=>.key p.1
def jj (hp:Hp)(a b:Nat):Option Nat:=if(hp.get a).isSome then some a else if(hp.get b).isSome then some b else none
def fC (hp:Hp):List Kp->List Kp
 | []=>[]
 | .mv q p _::l=>Jv (pX hp q p) (fC hp l)
 | .fam q b::l=>dS (mL hp q b)++fC hp l
 | .frz _ _::l=>fC hp l
 | .frs _::l=>fC hp l
 | .nst a b::l=>Jv (jj hp a b) (fC hp l)
 | x::l=>x::fC hp l
def sw (k q j:Nat):Nat:=if j=k then q else if j=q then k else j
def qI (k q:Nat):Fr->Fr
 | []=>[]
 | .set i v::r=>.set i (rA (sw k q) v)::qI k q r
 | .clr a b::r=>.clr a b::qI k q r
def jd (k q:Nat):Hp->Hp
 | []=>[]
 | (j,o)::r=>(sw k q j,rOB (sw k q) o)::jd k q r
def rn1 (q:Nat)(st:St):Option Nat->Option St
 | some k=>if k=q then some st else if k<SHK/\q<SHK then some {fr:=qI k q st.fr,hp:=jd k q st.hp}else none
 | none=>some st
def iK :List (Nat×Nat)->St->Option St
 | [],st=>some st
 | p::l,st=>(rn1 p.2 st (some p.1)).bind (iK l)
def fN (hp:Hp):List Kp->St->Option St
 | [],st=>some st
 | .mv q p k::l,st=>(rn1 k st (pX hp q p)).bind (fN hp l)
 | .fam q b::l,st=>(iK (mL hp q b) st).bind (fN hp l)
 | .nst a b::l,st=>(rn1 b st (jj hp a b)).bind (fN hp l)
 | _::l,st=>fN hp l st
def gK (hp:Hp):List AV->Option (List AV×List Nat)
 | []=>some ([],[])
 | x::l=>(gX hp x).bind fun a=>(gK hp l).map fun r=>(a.1::r.1,a.2++r.2)
def CY (st:St)(q:Nat)(p:List Nat):Option St :=
 match st.hp.get q with
 | some (.fix sh a) =>
   match a.nav p,sh.sub p with
   | some (.sl k [] 0 n),some .sc =>
     match st.hp.get k with
     | some (.fix (.ar m .sc) b) =>
       (gK st.hp b.kids).bind fun r =>
         if m=n&& !(k::r.2).contains q&&decide (k<SHK)&&r.2.all (fun j=>decide (j<SHK))then(a.setNav p (.lst false .sc r.1)).map fun a'=>{fr:=st.fr,hp:=(q,.fix sh a')::(ct (k::r.2)++st.hp)}else none
     | _=>none
   | _,_=>none
 | _=>none
def Gs (st:St)(i:Nat):Option St :=
 match st.fr.get i with
 | .sl k [] 0 n =>
   match st.hp.get k with
   | some (.fix (.ar m .sc) b) =>
     (gK st.hp b.kids).bind fun r =>
       if m=n&&decide (k<SHK)&&r.2.all (fun j=>decide (j<SHK))then some {fr:=.set i (.lst false .sc r.1)::st.fr,hp:=ct (k::r.2)++st.hp}else none
   | _=>none
 | _=>none
def cJ :List Kp->St->Option St
 | [],st=>some st
 | .frs i::l,st=>(Gs st i).bind (cJ l)
 | .frz q p::l,st=>(CY st q p).bind (cJ l)
 | _::l,st=>cJ l st
def pV (ks:List Kp)(st:St):Option St:=(pW (ksA (fC st.hp ks) st) st).bind (fN st.hp ks)
def u5 (hp:Hp):NE->Option (NE×List Nat)
 | .nm k n =>
   match hp.get k with
   | some (.grow .sc l)=>if n=l.length/\0<n then some (.own l,[k])else none
   | _=>none
 | e=>some (e,[])
def ju (hp:Hp):List NE->Option (List NE×List Nat)
 | []=>some ([],[])
 | x::l=>(u5 hp x).bind fun a=>(ju hp l).map fun r=>(a.1::r.1,a.2++r.2)
def j4 (st:St)(a:Nat):Option St :=
 match st.hp.get a with
 | some (.nest els)=>(ju st.hp els).bind fun r=>if dR (a::r.2)&&decide (a<SHK)&&r.2.all (fun j=>decide (j<SHK))then some {fr:=st.fr,hp:=(a,.nest r.1)::(ct r.2++st.hp)}else none
 | _=>some st
def dC :List Kp->St->Option St
 | [],st=>some st
 | .nst a _::l,st=>(j4 st a).bind (dC l)
 | _::l,st=>dC l st
def bT (ks:List Kp)(st:St):Option St:=(dC ks st).bind fun st1=>(pV ks st1).bind (cJ ks)
inductive MC where
 | skip
 | reg (its:Its)
 | draw (ops:List FO) (prs:List (Nat×Nat))
 | seq (a b:MC)
 | cond (c:Opd) (a b:MC)
 | block (id:Nat) (b:MC)
 | loop (ks:List Kp) (b:MC)
 | exit (id:Nat)
 | scope (b:MC)
 | ret
 | kept (ks:List Kp) (b:MC)
 | rangeF (rid:Nat) (g:Opd) (slots:List Nat) (kd dc:Nat)
 | bad
 deriving Inhabited
def LF :Nat:=2^64
def fG (f:St->Option (Ex×St))(ks:List Kp):Nat->St->Option (Ex×St)
 | 0,_=>none
 | n+1,st=>(bT ks st).bind fun st1=>(f st1).bind fun r =>
   match r.1 with
   | .norm=>fG f ks n r.2
   | e=>some (e,r.2)
def H5 (fr:Fr)(hp:Hp)(kd:Nat):Option (Ex×St) :=
 match hp.get kd with
 | some (.lp _ _ .ready)=>some (.norm,{fr,hp:=(kd,.dead)::hp})
 | some (.lp _ _ (.done e))=>some (e,{fr,hp:=(kd,.dead)::hp})
 | _=>none
def GB (cl:Cl)(rid:Nat)(slots:List Nat)(kd dc:Nat)(st:St)(g:AV):Option (Ex×St) :=
 match g with
 | .fn h caps =>
   if(st.hp.get kd).isNone&&decide (kd<SHK)&&decide (h<RB)then
    (dq cl ((kd,.lp rid (slots.map st.fr.get) .ready)::st.hp) dc h (.yld kd::caps) (aZ ((kd,.lp rid (slots.map st.fr.get) .ready)::st.hp) (kd::AV.refss caps))).bind fun r =>
      H5 st.fr (r.2++(kd,.lp rid (slots.map st.fr.get) .ready)::st.hp) kd
   else none
 | _=>none
def evC (gl:Gl)(cl:Cl):MC->St->Option (Ex×St)
 | .skip,st=>some (.norm,st)
 | .reg its,st=>(bA gl cl its st).map fun st=>(.norm,st)
 | .draw ops prs,st =>
   (cj gl cl ops st).bind fun r =>
     if prs.all (fun p=>uX (r.2.getD p.1 []) (r.2.getD p.2 []))then some (.norm,r.1)else none
 | .seq a b,st=>(evC gl cl a st).bind fun r =>
   match r.1 with
   | .norm=>evC gl cl b r.2
   | e=>some (e,r.2)
 | .cond c a b,st =>
   match c.val gl st.fr with
   | .bool t=>if t then evC gl cl a st else evC gl cl b st
   | _=>none
 | .block id b,st=>(evC gl cl b st).map fun r=>(if r.1= .exit id then .norm else r.1,r.2)
 | .loop ks b,st=>fG (evC gl cl b) ks LF st
 | .exit id,st=>some (.exit id,st)
 | .scope b,st=>evC gl cl b st
 | .ret,st=>some (.ret,st)
 | .bad,_=>none
 | .rangeF rid g slots kd dc,st=>GB cl rid slots kd dc st (g.val gl st.fr)
 | .kept ks b,st=>(evC gl cl b st).bind fun r =>
   match r.1 with
   | .norm=>(bT ks r.2).map fun st=>(.norm,st)
   | e=>some (e,r.2)
inductive ResD where
 | tmp (t:Nat)
 | cell (t:Nat) (agg:Bool) (n:Nat)
 deriving Inhabited
inductive Pk where
 | asis
 | own (sh:Sh)
 | gen
 deriving Inhabited
structure Fd where
 body:MC
 res:List ResD
 pk:List Pk
 giv:Option (Gl->Cl->List AV->Hp->Option (AV×Hp×List OB)):=none
 deriving Inhabited
def gm (st:St):ResD->Option AV
 | .tmp t=>some (st.fr.get t)
 | .cell t ag n=>(af Gl.none (fun _ _ _=>none) st none (.load ag n (.t t))).map (·.1)
def bY (st:St):List ResD->Option (List AV)
 | []=>some []
 | r::rs=>(gm st r).bind fun a=>(bY st rs).map fun l=>a::l
def eY :List AV->List Pk->List Nat
 | [],_=>[]
 | r::rs,pks=>(match pks.headD .asis,r with| .own _,.sl k _ _ _=>[k]|_,_=>[])++eY rs pks.tail
def ki :List Nat->Hp
 | []=>[]
 | k::l=>(k,.dead)::ki l
def jh (hp hp':Hp)(j:Nat)(r:AV):Pk->Option (AV×List OB)
 | .asis=>(aW hp' 4 r).bind fun a=>if a.known then some (a,[])else none
 | .own sh =>
   match r with
   | .sl k [] 0 n =>
     match hp.get k with
     | some (.grow sh' els)=>if Sh.beq sh sh'&&decide (n=els.length)then some (.sl (20000+j) [] 0 n,[.grow sh els])else none
     | _=>none
   | .lst true _ []=>some (.sl (20000+j) [] 0 0,[.grow sh []])
   | _=>none
 | .gen=>none
def eL (hp hp':Hp):Nat->List AV->List Pk->Option (List AV×List OB)
 | _,[],_=>some ([],[])
 | j,r::rs,pks=>(jh hp hp' j r (pks.headD .asis)).bind fun q=>(eL hp hp' (j+q.2.length) rs pks.tail).map fun z=>(q.1::z.1,q.2++z.2)
def gC (st:St)(res:List ResD)(pks:List Pk):Option (List AV×List OB) :=
 (bY st res).bind fun rs =>
   let ks:=eY rs pks
   if dR ks then eL st.hp (ki ks++st.hp) 0 rs pks else none
def kr :Nat->List AV->Fr
 | _,[]=>[]
 | i,a::l=>.set i a::kr (i+1) l
def nm (E:List Nat)(k:Nat):Nat:=if SHK<=k then k else 20000+idx E k
def eT :Hp->List Nat
 | []=>[]
 | (k,_)::r=>k::eT r
def Il (hp:Hp):List Nat->List Nat
 | []=>[]
 | k::l=>er (hp.get k)++Il hp l
def eH (st:St)(hk:List Nat)(rs:List AV):List Nat:=(eo st.hp 64 (AV.refss rs++Il st.hp hk) hk).drop hk.length
def fK (hp:Hp)(E:List Nat):List Nat->Hp
 | []=>[]
 | k::l=>(k,rOB (nm E) (jT hp k))::fK hp E l
def fO (st:St)(hk:List Nat)(rs:List AV)(E:List Nat):Option (List AV×Hp×List OB) :=
 if dT st.hp (hk++E)&&(AV.refss rs).all (hk++E).contains&&dR (hk++E)&&hk.all (fun k=>decide (SHK<=k))&&E.all (fun k=>decide (k<SHK))&&decide (E.length<1000)&&AV.knowns rs then
  some (rAs (nm E) rs,fK st.hp E hk,E.map fun k=>rOB (nm E) (jT st.hp k))
 else none
def sF :List AV->AV
 | [a]=>a
 | l=>.tup l
def ltO :Option Nat->Bool
 | some d=>decide (d<SHK)
 | none=>true
def qq :Its->Bool
 | .nil=>true
 | .op d _ r=>ltO d&&qq r
 | .ite _ _ b _ _ _ _ _ r=>qq b&&qq r
def eM :List Kp->Bool
 | []=>true
 | .own _ k _::l=>decide (k<SHK)&&eM l
 | .frz q _::l=>decide (q<SHK)&&eM l
 | .nst a b::l=>decide (a<SHK)&&decide (b<SHK)&&eM l
 | _::l=>eM l
def gR :MC->Bool
 | .reg i=>qq i
 | .draw l _=>l.all fun o=>ltO o.d
 | .seq a b=>gR a&&gR b
 | .cond _ a b=>gR a&&gR b
 | .block _ b=>gR b
 | .loop ks b=>eM ks&&gR b
 | .scope b=>gR b
 | .kept ks b=>eM ks&&gR b
 | .rangeF _ _ _ kd dc=>decide (kd<SHK)&&decide (dc<SHK)
 | _=>true
def cE :MC->Bool
 | .seq a b=>cE a||cE b
 | .cond _ a b=>cE a||cE b
 | .block _ b=>cE b
 | .loop _ b=>cE b
 | .scope b=>cE b
 | .kept _ b=>cE b
 | .rangeF .. =>true
 | _=>false
def oy :List Pk->Bool
 | .gen::_=>true
 | _=>false
def qM (gl:Gl)(cl:Cl)(fd:Fd)(args:List AV)(imps:Hp):Option (AV×Hp×List OB) :=
 if oy fd.pk then
  if !gR fd.body then none else
  (evC gl cl fd.body {fr:=kr 0 args,hp:=imps}).bind fun r =>
    match r.1 with
    | .exit _=>none
    | _=>(bY r.2 fd.res).bind fun rs=>(fO r.2 (eT imps) rs (eH r.2 (eT imps) rs)).map fun z=>(sF z.1,z.2.1,z.2.2)
 else
 match imps with
 | [] =>
   (evC gl cl fd.body {fr:=kr 0 args,hp:=[]}).bind fun r =>
     match r.1 with
     | .exit _=>none
     | _=>(gC r.2 fd.res fd.pk).map fun z =>
       (match z.1 with
         | [a]=>a
         | l=>.tup l,[],z.2)
 | _=>none
def mw :List Nat->List AV->Fr
 | i::l,a::r=>.set i a::mw l r
 | _,_=>[]
def lz (params slots:List Nat)(as body:MC):Gl->Cl->List AV->Hp->Option (AV×Hp×List OB):=fun gl cl args imps =>
 match imps with
 | (q,.lp rid vals .ready)::r =>
   if decide (q=SHK)&&decide (args.length=params.length)&&dR params&&gR as&&gR body&& !cE as&& !cE body then
    (evC gl cl as {fr:=mw params args++mw slots vals,hp:=(q,.lp rid vals .ready)::r}).bind fun a =>
      match a.1,Hp.get a.2.hp SHK with
      | .norm,some (.lp r1 v1 .ready) =>
        (evC gl cl body {fr:=a.2.fr,hp:=(SHK,.lp r1 v1 .busy)::a.2.hp}).bind fun b =>
          match Hp.get b.2.hp SHK with
          | some (.lp r2 v2 .busy) =>
            let st:St:={fr:=b.2.fr,hp:=(SHK,.lp r2 v2 (if b.1= .norm then .ready else .done b.1))::b.2.hp}
            (fO st (eT imps) [] (eH st (eT imps) [])).map fun z=>(.bool (decide (b.1= .norm)),z.2.1,z.2.2)
          | _=>none
      | _,_=>none
   else none
 | _=>none
def call (gl:Gl)(tab:Nat->Option Fd):Nat->Cl
 | 0,_,_,_=>none
 | n+1,f,args,imps=>(tab f).bind fun fd =>
   match fd.giv with
   | some g=>g gl (call gl tab n) args imps
   | none=>qM gl (call gl tab n) fd args imps
end Go.Ev
namespace Go.Ev
open Go
def Sh.agg :Sh->Bool
 | .sc=>false
 | _=>true
def IV :Value->Option AV
 | .bool b=>some (.bool b)
 | .int k n=>some (.int k n)
 | .string s=>some (.str s.data.toList)
 | .slice none 0 0=>some (.lst true .sc [])
 | .pointer none=>some (.s (.pointer none))
 | .nilFunc=>some (.s .nilFunc)
 | .nilIface=>some (.s .nilIface)
 | .map none=>some (.s (.map none))
 | _=>none
mutual
def zd :Sh->List Value->Option (AV×List Value)
 | .sc,v::r=>(IV v).map fun a=>(a,r)
 | .sc,[]=>none
 | .st fs,vs=>(By fs vs).map fun q=>(.agg q.1,q.2)
 | .ar n e,vs=>(Bz n (zd e) vs).map fun q=>(.agg q.1,q.2)
def By :List Sh->List Value->Option (List AV×List Value)
 | [],vs=>some ([],vs)
 | s::fs,vs=>(zd s vs).bind fun q=>(By fs q.2).map fun z=>(q.1::z.1,z.2)
def Bz :Nat->(List Value->Option (AV×List Value))->List Value->Option (List AV×List Value)
 | 0,_,vs=>some ([],vs)
 | n+1,f,vs=>(f vs).bind fun q=>(Bz n f q.2).map fun z=>(q.1::z.1,z.2)
end
def dh (P:Program):Nat->TypeId->Option Sh
 | 0,_=>none
 | n+1,t =>
   match P.underlying t with
   | some (.struct fs) =>
     (bw (fun f=>dh P n f.type) fs.toList).bind fun l =>
       if(fs.toList.zipIdx.all fun q=>q.1.offset==Sh.sizes (l.take q.2)&&((l[q.2]?).map (·.size)==(P.info? q.1.type).map (·.size)))&&(P.info? t).map (·.size)==some (Sh.sizes l)then some (.st l)else none
   | some (.array k e)=>(dh P n e).bind fun s=>if(P.info? e).map (·.size)==some s.size&&(P.info? t).map (·.size)==some (k*s.size)then some (.ar k s)else none
   | some (.tuple _)=>none
   | some _=>if(P.info? t).map (·.size)==some 1 then some .sc else none
   | none=>none
def SF :Nat:=12
def dM (P:Program)(t:TypeId):Option (Sh×AV) :=
 (dh P SF t).bind fun sh =>
   match P.info? t with
   | some i=>match i.zero with
     | some z=>match zd sh z.cells.toList with
       | some (a,[])=>some (sh,a)
       | _=>none
     | none=>none
   | none=>none
def aw :Operand->Option Opd
 | .tmp t=>some (.t t)
 | .const v=>(IV v).map .c
 | .global g=>some (.g g)
 | .func f=>if f<MB then some (.f f)else none
def bR :Option Operand->Option (Option Opd)
 | none=>some none
 | some x=>(aw x).map some
def AI (P:Program)(t:TypeId):Bool :=
 match P.underlying t with
 | some (.int .u8)=>true
 | _=>false
def mC (P:Program):Nat->TypeId->Option Ek
 | 0,_=>none
 | n+1,t=>match P.underlying t with
   | some .bool=>some .bo
   | some (.int _)=>some .it
   | some .string=>some .sg
   | some (.struct fs)=>if !P.stoodInHeld t&&fs.toList.all (fun f=>f.name != "_")then(bw (fun f=>mC P n f.type) fs.toList).map .st else none
   | some (.array k e)=>(mC P n e).map (.ar k)
   | _=>none
def Mode.isImp :Mode->Bool
 | .imp=>true
 | .lend=>false
abbrev Im :=Nat->Bool
def oj (im:Im):Option Nat->Mode
 | some d=>if im d then .imp else .lend
 | none=>.lend
def Ek.isIt :Ek->Bool
 | .it=>true
 | _=>false
def yq (P:Program)(t:TypeId):Option Nat :=
 match mC P SF t,dh P SF t with
 | some (.st fs),some sh=>if fs.all Ek.isIt&&Sh.beq sh (.st (List.replicate fs.length .sc))then some (fs.length+3)else none
 | some (.ar n .it),some sh=>if Sh.beq sh (.ar n .sc)then some (n+3)else none
 | _,_=>none
def Vx (P:Program)(t:TypeId):Option Nat :=
 match P.underlying t with
 | some (.int _)=>some 0
 | some .string=>some 1
 | some .bool=>some 2
 | some (.struct _)=>yq P t
 | some (.array _ _)=>yq P t
 | _=>none
def sU (P:Program)(t:TypeId):Option (Nat×AV) :=
 match P.underlying t with
 | some (.map kt e)=>(Vx P kt).bind fun kk=>(P.info? e).bind fun i=>i.zero.bind fun zv=>(IV zv).bind fun z=>if z.kv then some (kk,z)else none
 | _=>none
def aF (P:Program)(im:Im)(o:Oper):Option MOp :=
 match o.op with
 | .move x| .assign x=>(aw x).map .mov
 | .pick c a b=>(aw c).bind fun c=>(aw a).bind fun a=>(aw b).map fun b=>.pick c a b
 | .alloc t=>(dM P t).map fun q=>.alloc q.1 q.2
 | .box t x=>(dh P SF t).bind fun sh=>(aw x).map fun x=>.box sh x
 | .build t ps=>(dM P t).bind fun q=>(bw (fun p=>(aw p.2).map fun x=>(p.1,x)) ps.toList).map fun l=>.build q.1 q.2 l
 | .buildSlice t len ps =>
   match P.underlying t with
   | some (.slice e)=>(dM P e).bind fun q=>if len*q.1.size<=2^24 then(bw (fun p=>(aw p.2).map fun x=>(p.1,x)) ps.toList).map fun l=>if(oj im o.dst).isImp then .lits q.1 q.2 len l else .bslice q.1 q.2 len l else none
   | _=>none
 | .load t a=>(dh P SF t).bind fun sh=>(aw a).bind fun a=>if(oj im o.dst).isImp then(if Sh.beq sh .sc then some (.ntk a)else none)else some (.load sh.agg sh.size a)
 | .store t a x=>(dh P SF t).bind fun sh=>(aw a).bind fun a=>(aw x).map fun x=>.store sh.size a x
 | .binOp op t x y _ =>
   (aw x).bind fun x=>(aw y).bind fun y =>
     match P.underlying t,op with
     | some (.struct _),.eql=>if !P.eqGuardType P.depth t then(dh P SF t).bind fun sh=>(mC P SF t).map fun k=>.eqA false sh k x y else none
     | some (.struct _),.neq=>if !P.eqGuardType P.depth t then(dh P SF t).bind fun sh=>(mC P SF t).map fun k=>.eqA true sh k x y else none
     | some (.array _ _),.eql=>if !P.eqGuardType P.depth t then(dh P SF t).bind fun sh=>(mC P SF t).map fun k=>.eqA false sh k x y else none
     | some (.array _ _),.neq=>if !P.eqGuardType P.depth t then(dh P SF t).bind fun sh=>(mC P SF t).map fun k=>.eqA true sh k x y else none
     | some (.int _),_=>some (.bin op x y)
     | some .string,_=>some (.bin op x y)
     | some .bool,_=>some (.binB op x y)
     | _,_=>none
 | .unOp op _ x=>(aw x).map fun x=>.un op x
 | .convert s d x =>
   (aw x).bind fun x =>
     match P.underlying s,P.underlying d with
     | some (.int _),some (.int k)=>some (.conv k x)
     | some .string,some .string=>some (.strc x)
     | some .string,some (.slice e)=>if AI P e&&(P.info? e).map (·.size)==some 1 then some (.s2b x)else none
     | some (.slice e),some .string=>if AI P e then some (.b2s x)else none
     | some (.slice _),some (.slice e)=>if s==d&&AI P e then some (.idc x)else none
     | _,_=>none
 | .sliceToArrayPointer t x =>
   match P.underlying t with
   | some (.array n _)=>(aw x).map fun x=>.arrAt n x
   | _=>none
 | .makeFunc (.func f) first caps=>if first.size=0 then(if f<MB then(bw aw caps.toList).map fun l=>.mkfn f l else none)else if caps.size=0 then(bw aw first.toList).map fun l=>.mkfn (MB+f) l else none
 | .makeSlice t l c =>
   match P.underlying t with
   | some (.slice e)=>(dM P e).bind fun q=>(P.info? e).bind fun i=>(aw l).bind fun l=>(aw c).map fun c=>if(oj im o.dst).isImp then .mkarr q.1 q.2 i.bytes l c else .mkslice q.1 q.2 i.bytes l c
   | _=>none
 | .slice t x lo hi mx =>
   (aw x).bind fun x=>(bR lo).bind fun lo=>(bR hi).bind fun hi=>(bR mx).bind fun mx =>
     match P.underlying t with
     | some .string=>if mx.isNone then some (.slStr x lo hi)else none
     | some (.slice e)=>(P.info? e).map fun i=>.slSl i.size x lo hi mx
     | some (.array n e)=>if mx.isNone then(P.info? e).map fun i=>.slArr n i.size x lo hi else none
     | _=>none
 | .fieldAddr t x f =>
   match P.underlying t with
   | some (.struct fs)=>(fs[f]?).bind fun fd=>if((P.info? fd.type).map (·.size)).any (· != 0)then(aw x).map fun x=>.faddr f fd.offset x else none
   | _=>none
 | .indexAddr t x i =>
   (aw x).bind fun x=>(aw i).bind fun i =>
     match P.underlying t with
     | some (.slice e)=>(P.info? e).map fun d=>.iaddrS d.size x i
     | some (.array n e)=>(P.info? e).map fun d=>.iaddrA n d.size x i
     | _=>none
 | .field t x f=>(dh P SF t).bind fun sh=>(aw x).map fun x=>.field sh f x
 | .index t x i =>
   (aw x).bind fun x=>(aw i).bind fun i =>
     match P.underlying t with
     | some .string=>some (.idxStr x i)
     | some (.array n e)=>(dh P SF e).map fun s=>.idxArr n s x i
     | _=>none
 | .extract x i=>(aw x).map fun x=>.extr x i
 | .nilCheck x=>(aw x).map fun x=>.nilck x
 | .makeMap t r =>
   match P.underlying t,r with
   | some (.map _ _),none=>some (.mapop .mk 0 .unk [])
   | _,_=>none
 | .lookup t x i ok=>(sU P t).bind fun q=>(aw x).bind fun x=>(aw i).map fun i=>.mapop (.look ok) q.1 q.2 [x,i]
 | .mapUpdate t x i y=>(sU P t).bind fun q=>(aw x).bind fun x=>(aw i).bind fun i=>(aw y).map fun y=>.mapop .upd q.1 q.2 [x,i,y]
 | .mapEntry t x i=>(sU P t).bind fun q=>(aw x).bind fun x=>(aw i).map fun i=>.mapop .ent q.1 q.2 [x,i]
 | .entryStore _ x i y=>(aw x).bind fun x=>(aw i).bind fun i=>(aw y).map fun y=>.mapop .sto 0 .unk [x,i,y]
 | .call c =>
   (bw aw c.args.toList).bind fun args =>
     match c.callee with
     | .value (.func f)=>some (.call f args (oj im o.dst))
     | .value (.tmp t)=>some (.callv (.t t) args (oj im o.dst))
     | .builtin .len =>
       match c.argTypes.toList,args with
       | [t],[x]=>match P.underlying t with
         | some .string=>some (.len true x)
         | some (.slice _)=>some (.len false x)
         | some (.map _ _)=>some (.mapop .len 0 .unk [x])
         | some (.array n _)=>some (.mov (.c (.int .i64 n)))
         | _=>none
       | _,_=>none
     | .builtin .append =>
       match c.argTypes.toList,args with
       | [t,u],[x,y] =>
         match P.underlying t,P.underlying u with
         | some (.slice e),some (.slice _)=>(dM P e).bind fun q=>(P.info? e).bind fun i=>if(oj im o.dst).isImp then(if Sh.beq q.1 .sc then some (.nap i.bytes x y)else none)else some (.append q.1 i.bytes x y)
         | some (.slice e),some .string=>(dM P e).bind fun q=>(P.info? e).map fun i=>.append q.1 i.bytes x y
         | some (.slice e),some (.int .i64)=>(dM P e).bind fun q=>(P.info? e).map fun i=>.appmk q.1 q.2 i.bytes x y
         | _,_=>none
       | _,_=>none
     | .builtin .copy =>
       match c.argTypes.toList,args with
       | [t,_],[x,y] =>
         match P.underlying t with
         | some (.slice e)=>(dh P SF e).map fun sh=>.copy sh x y
         | _=>none
       | _,_=>none
     | .builtin .clear =>
       match c.argTypes.toList,args with
       | [t],[x]=>match P.underlying t with
         | some (.slice e)=>(dM P e).map fun q=>.clear q.1 q.2 x
         | _=>none
       | _,_=>none
     | .builtin .cap =>
       match c.argTypes.toList,args with
       | [t],[x]=>match P.underlying t with
         | some (.slice _)=>some (.capl x)
         | _=>none
       | _,_=>none
     | .builtin .delete =>
       match c.argTypes.toList,args with
       | [t,_],[x,y]=>(sU P t).map fun q=>.mapop .del q.1 q.2 [x,y]
       | _,_=>none
     | .builtin .min=>some (.mini args)
     | .builtin .max=>some (.maxi args)
     | _=>none
 | _=>none
def bE :MOp->Bool
 | .append .. | .copy .. | .store .. | .idc _| .clear .. | .nap .. | .ntk _=>true
 | .call _ _ .imp| .callv _ _ .imp=>true
 | .mapop k _ _ _=>k.w
 | _=>false
def Opd.out (lo hi:Nat):Opd->Bool
 | .t i=> !(decide (lo<=i)&&decide (i<hi))
 | _=>true
def Bu (P:Program)(im:Im)(ops:Array Oper)(i q k c lo hi:Nat)(want:Bool):Bool :=
 (wJ q).all fun r=>decide (r<i) ||
   match ops[r]? with
   | some o=>(match o.dst with|some d=>decide (lo<=d)&&decide (d<hi)&&d != c|none=>false) &&
      (match aF P im o with|some m=> !bE m|none=>false) &&
      (match o.guard with|some (j,w)=>(j==k&&w==want)||(decide (i<=j)&&decide (j<r))|none=>false)
   | none=>false
def cG (P:Program)(im:Im)(ops:Array Oper):Nat->Option (Nat×Bool)->Nat->Nat->Option (Its×Nat)
 | 0,_,_,_=>none
 | n+1,g,lo,i =>
   match ops[i]? with
   | none=>some (.nil,i)
   | some o =>
     if o.guard=g then
      (aF P im o).bind fun m=>(cG P im ops n g lo (i+1)).map fun q=>(.op o.dst m q.1,q.2)
     else
      match o.guard with
      | none=>some (.nil,i)
      | some (j,want) =>
        if lo<=j then
         (cG P im ops n (some (j,want)) i i).bind fun q =>
           match ops[q.2]? with
           | some {dst:=some d,op:=.pick (.tmp c) a b,guard:=g',..} =>
             if g'=g/\(ops[j]?).bind (·.dst)=some c then
              (aw a).bind fun a=>(aw b).bind fun b =>
                match (ops[i]?).bind (·.dst),(ops[q.2-1]?).bind (·.dst)with
                | some l,some h =>
                  if Bu P im ops i q.2 j c l (h+1) want&&(if want then b else a).out l (h+1)then
                   (cG P im ops n g lo (q.2+1)).map fun z=>(.ite c want q.1 l (h+1) d a b z.1,z.2)
                  else none
                | _,_=>none
             else none
           | _=>none
        else some (.nil,i)
def iv :MOp->Bool
 | .load .. | .b2s _| .arrAt .. | .slSl .. | .slArr .. | .faddr .. | .iaddrA .. | .iaddrS .. | .call .. | .callv .. | .append .. | .copy .. | .store .. | .idc _| .clear .. | .appmk .. | .mapop .. | .nap .. | .ntk _=>true
 | _=>false
def ev :MOp->Bool
 | .call _ _ .lend| .callv _ _ .lend=>true
 | _=>false
def isImp :MOp->Bool
 | .call _ _ .imp| .callv _ _ .imp=>true
 | _=>false
def gZ :MOp->Bool
 | .call .. | .callv .. =>true
 | _=>false
def gI (P:Program)(im:Im)(ops:Array Oper)(o:Oper):Option FO :=
 (aF P im o).bind fun m =>
   match o.guard with
   | none=>some {d:=o.dst,m,g:=none}
   | some (j,want)=>((ops[j]?).bind (·.dst)).map fun c=>{d:=o.dst,m,g:=some (c,want)}
def FO.uses (o:FO):List Nat:=(o.m.opds.filterMap fun x=>match x with| .t i=>some i|_=>none)++(match o.g with|some (c,_)=>[c]|none=>[])
def MOp.cOk (m:MOp):Bool:=m.opds.all fun x=>match x with| .c a=>a.refs.isEmpty|_=>true
def FO.apart (u o:FO):Bool :=
 (match u.d with|some d=> !o.uses.contains d&&o.d != some d|none=>true)&&(match o.d with|some d=> !u.uses.contains d|none=>true) &&
   !(bE u.m&&ev o.m)&& !(ev u.m&&bE o.m)
def FO.clash (u o:FO):Bool:=(bE u.m&&iv o.m)||(iv u.m&&bE o.m)
def EE (ops:Array Oper):Bool:=ops.toList.zipIdx.all fun q=>q.1.after.toList.all fun e=> !Region.binds .any e||decide (e.on<q.2)
def yR (ops:Array Oper)(fos:List FO):Bool :=
 let b:=Region.before ops
 EE ops&&fos.all (fun o=>o.m.cOk)&&fos.zipIdx.all fun q=>(fos.take q.2).zipIdx.all fun r=>(b.getD q.2 0).testBit r.2||r.1.apart q.1
def q5 (ops:Array Oper)(fos:List FO):List (Nat×Nat) :=
 let b:=Region.before ops
 fos.zipIdx.flatMap fun q=>(fos.take q.2).zipIdx.filterMap fun r=>if !(b.getD q.2 0).testBit r.2&&r.1.clash q.1 then some (r.2,q.2)else none
def BA (l:List (Nat×List Kp))(k:Nat):Option (List Kp):=(l.find? (·.1==k)).map (·.2)
structure Rf where
 rid:Nat
 slots:List Nat
 kd:Nat
 dc:Nat
def ze (l:List (Nat×Rf))(k:Nat):Option Rf:=(l.find? (·.1==k)).map (·.2)
structure Ann where
 loops:List (Nat×List Kp)
 after:List (Nat×List Kp)
 im:List Nat:=[]
 rfs:List (Nat×Rf):=[]
def Ann.imf (an:Ann):Im:=fun d=>an.im.contains d
def rm (P:Program)(an:Ann)(ops:Array Oper):Bool->Option MC
 | false =>
   match cG P an.imf ops (2*ops.size+2) none 0 0 with
   | some q=>if q.2=ops.size then some (.reg q.1)else none
   | none=>(bw (gI P an.imf ops) ops.toList).map fun l=>.draw l []
 | true=>(bw (gI P an.imf ops) ops.toList).bind fun l=>if yR ops l then some (.draw l (q5 ops l))else none
def comp (P:Program)(an:Ann):Nat->Code->Option MC
 | _,.skip=>some .skip
 | _,.region _ ops draw=>some ((rm P an ops draw).getD .bad)
 | id,.seq a b=>(comp P an id a).bind fun a=>(comp P an id b).map fun b=>.seq a b
 | id,.cond c a b=>(aw c).bind fun c=>(comp P an id a).bind fun a=>(comp P an id b).map fun b=>.cond c a b
 | _,.block id b=>(comp P an id b).map fun b=>match BA an.after id with|some ks=>.kept ks (.block id b)|none=>.block id b
 | id,.loop b=>(comp P an 1000000 b).map fun b=>.loop ((BA an.loops id).getD []) b
 | _,.exit id=>some (.exit id)
 | _,.ret=>some .ret
 | id,.scope b=>(comp P an id b).map .scope
 | _,.label _=>some .skip
 | id,.rangeFunc g _ _ _=>match ze an.rfs id with
   | some q=>(aw g).map fun g=>.rangeF q.rid g q.slots q.kd q.dc
   | none=>some .bad
 | _,_=>some .bad
def dv (an:Ann)(N:Nat):Nat->Code->List (Nat×RInfo)
 | id,.seq a b=>dv an N id a++dv an N id b
 | id,.cond _ a b=>dv an N id a++dv an N id b
 | _,.block id b=>dv an N id b
 | _,.loop b=>dv an N 1000000 b
 | id,.scope b=>dv an N id b
 | id,.rangeFunc _ ps as b=>match ze an.rfs id with
   | some q=>[(q.rid,⟨ps,as,b,q.slots,N⟩)]
   | none=>[]
 | _,_=>[]
def fM (P:Program):ResultVar->Option ResD
 | .tmp t=>some (.tmp t)
 | .cell a t=>(dh P SF t).map fun sh=>.cell a sh.agg sh.size
inductive Rg where
 | nil
 | blk (b:Nat) (root:Sh)
 | env (X:Nat->Prop)
 | nst (b cap:Nat) (X:Nat->Prop)
def Rg.le :Rg->Rg->Prop
 | .env _,r=>∃X',r= .env X'
 | .nst b cap _,r=>∃X',r= .nst b cap X'
 | q,r=>r=q
theorem Rg.le_refl :∀r:Rg,r.le r
 | .nil=>rfl
 | .blk _ _=>rfl
 | .env X=>⟨X,rfl⟩
 | .nst _ _ X=>⟨X,rfl⟩
theorem Rg.le_trans :∀{a b c:Rg},a.le b->b.le c->a.le c
 | .nil,_,_,h,h'=>by cases h;exact h'
 | .blk _ _,_,_,h,h'=>by cases h;exact h'
 | .env _,_,_,⟨_,h⟩,h'=>by subst h;exact h'
 | .nst _ _ _,_,_,⟨_,h⟩,h'=>by subst h;exact h'
structure Gh where
 imm:Nat->Prop
 reg:Nat->Option Rg
 yl:Nat->Option RInfo
def Rg.at :Rg->Nat->Sh->Prop
 | .nil,_,_=>False
 | .blk b root,c,r=>b=c/\root=r
 | .env X,c,_=>X c
 | .nst b _ X,c,_=>b=c\/X c
def Gh.At (G:Gh)(k b:Nat)(r:Sh):Prop:=∃q,G.reg k=some q/\q.at b r
theorem Gh.At.of {G:Gh}{k b:Nat}{r:Sh}(h:G.reg k=some (.blk b r)):G.At k b r:=⟨_,h,rfl,rfl⟩
theorem Gh.at_congr {G G':Gh}{k k' b:Nat}{r:Sh}(h:G.reg k=G'.reg k'):G.At k b r↔G'.At k' b r:=by unfold Gh.At;rw[h]
theorem Gh.At.nil {G:Gh}{k b:Nat}{r:Sh}(h:G.At k b r)(e:G.reg k=some .nil):False:=by obtain⟨q,hq,hat⟩:=h;rw[e]at hq;cases hq;exact hat
theorem Gh.At.none {G:Gh}{k b:Nat}{r:Sh}(h:G.At k b r)(e:G.reg k=none):False:=by obtain⟨q,hq,_⟩:=h;rw[e]at hq;cases hq
def VD :Value->Bool
 | .pointer none| .nilFunc| .nilIface| .map none=>true
 | _=>false
mutual
def AV.wf :AV->Prop
 | .agg l=>AV.wfp l
 | .aggR l=>AV.wfs l
 | .tup l=>AV.wfs l
 | _=>True
def AV.wfp :List AV->Prop
 | []=>True
 | a::l=>a.plain=true/\AV.wf a/\AV.wfp l
def AV.wfs :List AV->Prop
 | []=>True
 | a::l=>AV.wf a/\AV.wfs l
end
theorem AV.wfs_iff :∀(l:List AV),AV.wfs l↔∀x∈l,x.wf
 | []=>by simp[AV.wfs]
 | a::l=>by simp[AV.wfs,AV.wfs_iff l]
theorem AV.wfp_iff :∀(l:List AV),AV.wfp l↔∀x∈l,x.plain=true/\x.wf
 | []=>by simp[AV.wfp]
 | a::l=>by simp[AV.wfp,AV.wfp_iff l,and_assoc]
abbrev aT :=Array Obj
def fnV (f:Nat)(vs:Array Value):Value:=if f<MB then .func (.func f) #[] vs else .func (.func (f-MB)) vs #[]
inductive RepS (H:aT)(G:Gh):Value->AV->Prop
 | bool (b:Bool):RepS H G (.bool b) (.bool b)
 | int (k:IntKind) (n:Int):RepS H G (.int k n) (.int k n)
 | str (l:List UInt8):RepS H G (.string ⟨⟨l⟩⟩) (.str l)
 | s (v:Value) (h:VD v=true):RepS H G v (.s v)
 | ptr (k:Nat) (p:List Nat) (b:Nat) (root:Sh) (off:Nat) (hr:G.reg k=some (.blk b root)) (ho:root.off p=some off) :
    RepS H G (.pointer (some ⟨b,off,none⟩)) (.ptr k p)
 | arp (k:Nat) (p:List Nat) (off n b:Nat) (root:Sh) (m:Nat) (e:Sh) (o:Nat) (hr:G.reg k=some (.blk b root))
    (hs:root.sub p=some (.ar m e)) (ho:root.off p=some o) (hle:off+n<=m) :
    RepS H G (.pointer (some ⟨b,o+off*e.size,none⟩)) (.arp k p off n)
 | sl (k:Nat) (p:List Nat) (off len b:Nat) (root:Sh) (m:Nat) (e:Sh) (o:Nat) (hr:G.reg k=some (.blk b root))
    (hs:root.sub p=some (.ar m e)) (ho:root.off p=some o) (hle:off+len<=m) :
    RepS H G (.slice (some ⟨b,o+off*e.size,none⟩) len (m-off)) (.sl k p off len)
 | slZ (k:Nat) (p:List Nat) (off b x:Nat) (root:Sh) (m:Nat) (e:Sh) (hr:G.reg k=some (.blk b root))
    (hs:root.sub p=some (.ar m e)) (ho:off=m):RepS H G (.slice (some ⟨b,x,none⟩) 0 0) (.sl k p off 0)
 | slNil (k:Nat) (a:Option Addr) (hr:G.reg k=some .nil):RepS H G (.slice a 0 0) (.sl k [] 0 0)
 | slN (k n b cap:Nat) (X:Nat->Prop) (hr:G.reg k=some (.nst b cap X)) (hle:n<=cap) (hn:0<n):RepS H G (.slice (some ⟨b,0,none⟩) n cap) (.sl k [] 0 n)
 | ptrN (k i b cap:Nat) (X:Nat->Prop) (hr:G.reg k=some (.nst b cap X)) (hi:i<cap):RepS H G (.pointer (some ⟨b,i,none⟩)) (.ptr k [i])
 | lstE (full:Bool) (sh:Sh) (a:Option Addr) (cap:Nat) (h:full=true->cap=0):RepS H G (.slice a 0 cap) (.lst full sh [])
 | lst (full:Bool) (sh:Sh) (l:List AV) (b off len cap:Nat) (c:Array Value) (e:TypeId) (fz:Nat×Nat) (hi:G.imm b)
    (hb:H[b]? =some (.cells c e fz)) (hl:len=l.length) (hc:len<=cap) (hf:full=true->cap=len)
    (hsh:∀x∈l,aD sh x=true/\x.plain=true/\x.wf) (val:Nat->Value)
    (hv:∀j,j<(AV.flats l).length->c[off+j]? =some (val j)) (hr:∀j (h:j<(AV.flats l).length),RepS H G (val j) (AV.flats l)[j]) :
    RepS H G (.slice (some ⟨b,off,none⟩) len cap) (.lst full sh l)
 | cp (sh:Sh) (a:AV) (b off:Nat) (c:Array Value) (e:TypeId) (fz:Nat×Nat) (hi:G.imm b) (hb:H[b]? =some (.cells c e fz))
    (hsh:aD sh a=true/\a.plain=true/\a.wf) (val:Nat->Value)
    (hv:∀j,j<a.flat.length->c[off+j]? =some (val j)) (hr:∀j (h:j<a.flat.length),RepS H G (val j) a.flat[j]) :
    RepS H G (.pointer (some ⟨b,off,none⟩)) (.cp sh a)
 | fn (v:Value) (f:Nat) (caps:List AV) (vs:Array Value) (he:fnV f vs=v) (hn:vs.size=caps.length) (hsc:AV.scalars caps=true) (val:Nat->Value)
    (hv:∀i,i<caps.length->vs[i]? =some (val i)) (hr:∀i (h:i<caps.length),RepS H G (val i) caps[i]) :
    RepS H G v (.fn f caps)
 | yld (k b:Nat) (hr:G.reg k=some (.blk b .sc)):RepS H G (.func (.yield b) #[] #[]) (.yld k)
 | mp (k b:Nat) (hr:G.reg k=some (.blk b .sc)):RepS H G (.map (some b)) (.mp k)
structure Le (H:aT)(G:Gh)(H':aT)(G':Gh):Prop where
 imm:∀b,G.imm b->G'.imm b/\H'[b]? =H[b]?
 reg:∀k r,G.reg k=some r->∃r',G'.reg k=some r'/\r.le r'
 yl:∀i l,G.yl i=some l->G'.yl i=some l
theorem fv {G G':Gh}(h:∀k r,G.reg k=some r->G'.reg k=some r):∀k r,G.reg k=some r->∃r',G'.reg k=some r'/\r.le r':=fun k r hk=>⟨r,h k r hk,Rg.le_refl r⟩
theorem Le.blk {H H':aT}{G G':Gh}(le:Le H G H' G'){k b:Nat}{s:Sh}(h:G.reg k=some (.blk b s)):G'.reg k=some (.blk b s):=by obtain⟨r,h1,h2⟩:=le.reg _ _ h;cases h2;exact h1
theorem Le.nil {H H':aT}{G G':Gh}(le:Le H G H' G'){k:Nat}(h:G.reg k=some .nil):G'.reg k=some .nil:=by obtain⟨r,h1,h2⟩:=le.reg _ _ h;cases h2;exact h1
theorem Le.env {H H':aT}{G G':Gh}(le:Le H G H' G'){k:Nat}{X:Nat->Prop}(h:G.reg k=some (.env X)):∃X',G'.reg k=some (.env X'):=by obtain⟨r,h1,X',rfl⟩:=le.reg _ _ h;exact⟨X',h1⟩
theorem Le.nst {H H':aT}{G G':Gh}(le:Le H G H' G'){k b cap:Nat}{X:Nat->Prop}(h:G.reg k=some (.nst b cap X)):∃X',G'.reg k=some (.nst b cap X'):=by obtain⟨r,h1,X',rfl⟩:=le.reg _ _ h;exact⟨X',h1⟩
theorem Le.refl (H:aT)(G:Gh):Le H G H G:=⟨fun _ h=>⟨h,rfl⟩,fv fun _ _ h=>h,fun _ _ h=>h⟩
theorem Le.trans {H₀ H₁ H₂:aT}{G₀ G₁ G₂:Gh}(h:Le H₀ G₀ H₁ G₁)(h':Le H₁ G₁ H₂ G₂):Le H₀ G₀ H₂ G₂ :=
 ⟨fun b hb=>⟨(h'.imm b (h.imm b hb).1).1,((h'.imm b (h.imm b hb).1).2).trans (h.imm b hb).2⟩,
  fun k r hk=>let ⟨r1,h1,h2⟩:=h.reg k r hk;let ⟨r2,h3,h4⟩:=h'.reg k r1 h1;⟨r2,h3,Rg.le_trans h2 h4⟩,fun i l hi=>h'.yl i l (h.yl i l hi)⟩
theorem RepS.mono {H H':aT}{G G':Gh}(le:Le H G H' G'){v:Value}{a:AV}(h:RepS H G v a):RepS H' G' v a:=by
 induction h with
 | bool b=>exact .bool b
 | int k n=>exact .int k n
 | str l=>exact .str l
 | s v h=>exact .s v h
 | ptr k p b root off hr ho=>exact .ptr k p b root off (le.blk hr) ho
 | arp k p off n b root m e o hr hs ho hle=>exact .arp k p off n b root m e o (le.blk hr) hs ho hle
 | sl k p off len b root m e o hr hs ho hle=>exact .sl k p off len b root m e o (le.blk hr) hs ho hle
 | slZ k p off b x root m e hr hs ho=>exact .slZ k p off b x root m e (le.blk hr) hs ho
 | slNil k a hr=>exact .slNil k a (le.nil hr)
 | slN k n b cap X hr hle hn=>exact let ⟨X',h'⟩:=le.nst hr;.slN k n b cap X' h' hle hn
 | ptrN k i b cap X hr hi=>exact let ⟨X',h'⟩:=le.nst hr;.ptrN k i b cap X' h' hi
 | lstE full sh a cap h=>exact .lstE full sh a cap h
 | lst full sh l b off len cap c e fz hi hb hl hc hf hsh val hv hr ih =>exact .lst full sh l b off len cap c e fz (le.imm b hi).1 ((le.imm b hi).2.trans hb) hl hc hf hsh val hv ih
 | cp sh a b off c e fz hi hb hsh val hv hr ih =>exact .cp sh a b off c e fz (le.imm b hi).1 ((le.imm b hi).2.trans hb) hsh val hv ih
 | fn v f caps vs he hn hsc val hv hr ih=>exact .fn v f caps vs he hn hsc val hv ih
 | yld k b hr=>exact .yld k b (le.blk hr)
 | mp k b hr=>exact .mp k b (le.blk hr)
def RepC (H:aT)(G:Gh)(c:Array Value)(off:Nat)(l:List AV):Prop :=
 ∀j (h:j<l.length),∃v,c[off+j]? =some v/\RepS H G v l[j]
theorem RepC.mono {H H':aT}{G G':Gh}(le:Le H G H' G'){c:Array Value}{off:Nat}{l:List AV}(h:RepC H G c off l):RepC H' G' c off l :=
 fun j hj=>let ⟨v,hv,hr⟩:=h j hj;⟨v,hv,hr.mono le⟩
structure RepL (H:aT)(G:Gh)(vs:List Value)(l:List AV):Prop where
 len:vs.length=l.length
 get:∀j (h:j<vs.length) (h':j<l.length),RepS H G vs[j] l[j]
theorem RepL.mono {H H':aT}{G G':Gh}(le:Le H G H' G'){vs:List Value}{l:List AV}(h:RepL H G vs l):RepL H' G' vs l :=
 ⟨h.len,fun j a b=>(h.get j a b).mono le⟩
theorem fi {H:aT}{G:Gh}{vs us:List Value}{l m:List AV}(h:RepL H G vs l)(h':RepL H G us m):RepL H G (vs++us) (l++m):=by
 refine⟨by simp[h.len,h'.len],fun j a b=> ?_⟩;have hl:=h.len;by_cases hj:j<vs.length
 . rw[wG hj,wG (by omega)];exact h.get j hj (by omega)
 . rw[wF (by omega),wF (by omega)];simp only[wK]at a b;have:=h'.get (j-vs.length) (by omega) (by omega);simpa[hl]using this
def dQ (a:AV)(vs:List Value):Value:=if a.isAgg then .agg vs.toArray else vs.headD undef
structure RepV (H:aT)(G:Gh)(v:Value)(a:AV):Prop where
 known:a.known=true
 wf:a.wf
 rep:∃vs,RepL H G vs a.flat/\v=dQ a vs
theorem RepV.mono {H H':aT}{G G':Gh}(le:Le H G H' G'){v:Value}{a:AV}(h:RepV H G v a):RepV H' G' v a :=
 ⟨h.known,h.wf,let ⟨vs,hl,hv⟩:=h.rep;⟨vs,hl.mono le,hv⟩⟩
def RepT (H:aT)(G:Gh)(v:Value)(a:AV):Prop :=
 match a with
 | .unk=>True
 | .tup l=>∃vs:Array Value,v= .tuple vs/\vs.size=l.length/\∀i (h:i<vs.size) (h':i<l.length),RepV H G vs[i] l[i]
 | a=>RepV H G v a
theorem RepT.mono {H H':aT}{G G':Gh}(le:Le H G H' G'){v:Value}{a:AV}(h:RepT H G v a):RepT H' G' v a:=by
 cases a with
 | unk=>trivial
 | tup l=>obtain⟨vs,hv,hs,hr⟩:=h;exact⟨vs,hv,hs,fun i a b=>(hr i a b).mono le⟩
 | _=>exact RepV.mono le h
theorem RepT.of_known {H:aT}{G:Gh}{v:Value}{a:AV}(hk:a.known=true):RepT H G v a↔RepV H G v a:=by cases a<;>simp_all[AV.known,RepT]
theorem AV.flat_scalar {a:AV}(h:a.scalar=true):a.flat=[a]:=by cases a<;>simp_all[AV.scalar,AV.flat]
theorem AV.isAgg_scalar {a:AV}(h:a.scalar=true):a.isAgg=false:=by cases a<;>simp_all[AV.scalar,AV.isAgg]
theorem AV.known_scalar {a:AV}(h:a.scalar=true):a.known=true:=by cases a<;>simp_all[AV.scalar,AV.known]
theorem AV.wf_scalar {a:AV}(h:a.scalar=true):a.wf:=by cases a<;>simp_all[AV.scalar,AV.wf]
theorem RepV.scalar {H:aT}{G:Gh}{v:Value}{a:AV}(h:a.scalar=true):RepV H G v a↔RepS H G v a:=by
 constructor
 . rintro ⟨_,_,vs,hl,hv⟩;rw[AV.flat_scalar h]at hl
   obtain⟨x,rfl⟩:∃x,vs=[x]:=by
    have:=hl.len
    match vs,this with
    | [x],_=>exact⟨x,rfl⟩
   have:=hl.get 0 (by simp) (by simp);simpa[hv,dQ,AV.isAgg_scalar h]using this
 . intro hs;refine⟨AV.known_scalar h,AV.wf_scalar h,[v],⟨by simp[AV.flat_scalar h],fun j a b=> ?_⟩,by simp[dQ,AV.isAgg_scalar h]⟩;have:j=0:=by simp at a;omega
   subst this;simpa[AV.flat_scalar h]using hs
theorem AV.flats_append (l m:List AV):AV.flats (l++m)=AV.flats l++AV.flats m:=by
 induction l with
 | nil=>rfl
 | cons a l ih=>simp[AV.flats,ih,wB]
theorem AV.flat_kids {a:AV}(h:a.isAgg=true):a.flat=AV.flats a.kids:=by cases a<;>simp_all[AV.isAgg,AV.flat,AV.kids]
theorem bj {n:Nat}:∀(l:List AV),(∀x∈l,x.flat.length=n)->(AV.flats l).length=l.length*n
 | [],_=>by simp[AV.flats]
 | a::l,h=>by simp only[AV.flats,wK,wC];rw[h a (by simp),bj l (fun x hx=>h x (by simp[hx]))];rw[wQ];omega
mutual
theorem aB :∀(s:Sh) (a:AV),aD s a=true->a.flat.length=s.size
 | .sc,a,h=>by simp only[aD]at h;simp[AV.flat_scalar h,Sh.size]
 | .st fs,a,h=>by simp only[aD,wR]at h;rw[AV.flat_kids h.1,Sh.size];exact tA fs a.kids h.2
 | .ar n e,a,h=>by simp only[aD,wR,beq_iff_eq,wE]at h;rw[AV.flat_kids h.1.1,Sh.size,bj a.kids (n:=e.size) (fun x hx=>aB e x (h.2 x hx)),h.1.2]
theorem tA :∀(fs:List Sh) (l:List AV),bh fs l=true->(AV.flats l).length=Sh.sizes fs
 | [],[],_=>by simp[AV.flats,Sh.sizes]
 | s::fs,a::l,h=>by simp only[bh,wR]at h;simp[AV.flats,Sh.sizes,aB s a h.1,tA fs l h.2]
 | [],_::_,h=>by simp[bh]at h
 | _::_,[],h=>by simp[bh]at h
end
theorem gp :∀{fs:List Sh} {l:List AV},bh fs l=true->fs.length=l.length
 | [],[],_=>rfl
 | s::fs,a::l,h=>by simp only[bh,wR]at h;simp[gp h.2]
 | [],_::_,h=>by simp[bh]at h
 | _::_,[],h=>by simp[bh]at h
theorem ew :∀{fs:List Sh} {l:List AV} {i:Nat} {s:Sh},bh fs l=true->fs[i]? =some s->∃x,l[i]? =some x/\aD s x=true
 | s::fs,a::l,0,_,h,hi=>by simp only[bh,wR]at h;simp at hi;subst hi;exact⟨a,by simp,h.1⟩
 | s::fs,a::l,i+1,_,h,hi=>by simp only[bh,wR]at h;simp at hi;obtain⟨x,hx,hs⟩:=ew h.2 hi;exact⟨x,by simpa using hx,hs⟩
 | [],_,_,_,_,hi=>by simp at hi
 | _::_,[],_,_,h,_=>by simp[bh]at h
theorem dr :∀{fs:List Sh} {l:List AV} {i:Nat} {x:AV},bh fs l=true->l[i]? =some x ->
  ∃pre post,AV.flats l=pre++x.flat++post/\pre.length=Sh.sizes (fs.take i) /\
   ∀y,AV.flats (l.set i y)=pre++y.flat++post
 | s::fs,a::l,0,x,h,hi=>by simp at hi;subst hi;exact⟨[],AV.flats l,by simp[AV.flats],by simp[Sh.sizes],fun y=>by simp[AV.flats]⟩
 | s::fs,a::l,i+1,x,h,hi=>by simp only[bh,wR]at h;simp at hi;obtain⟨pre,post,h1,h2,h3⟩:=dr h.2 hi;refine⟨a.flat++pre,post,by simp[AV.flats,h1,wB],by simp[h2,Sh.sizes,aB s a h.1],fun y=>by simp[AV.flats,h3 y,wB]⟩
 | [],[],_,_,_,hi=>by simp at hi
 | [],_::_,_,_,h,_=>by simp[bh]at h
 | _::_,[],_,_,h,_=>by simp[bh]at h
theorem ng :∀{fs:List Sh} {l:List AV} {i:Nat} {s:Sh} {y:AV},bh fs l=true->fs[i]? =some s->aD s y=true->bh fs (l.set i y)=true
 | s::fs,a::l,0,_,y,h,hi,hy=>by simp only[bh,wR]at h;simp at hi;subst hi;simp[bh,h.2,hy]
 | s::fs,a::l,i+1,_,y,h,hi,hy=>by simp only[bh,wR]at h;simp at hi;simp[bh,h.1,ng h.2 hi hy]
 | [],_,_,_,_,_,hi,_=>by simp at hi
 | _::_,[],_,_,_,h,_,_=>by simp[bh]at h
theorem cr {n:Nat}:∀{l:List AV} {i:Nat} {x:AV},(∀x∈l,x.flat.length=n)->l[i]? =some x ->
  ∃pre post,AV.flats l=pre++x.flat++post/\pre.length=i*n/\∀y,AV.flats (l.set i y)=pre++y.flat++post
 | a::l,0,x,h,hi=>by simp at hi;subst hi;exact⟨[],AV.flats l,by simp[AV.flats],by simp,fun y=>by simp[AV.flats]⟩
 | a::l,i+1,x,h,hi=>by simp at hi;obtain⟨pre,post,h1,h2,h3⟩:=cr (fun y hy=>h y (by simp[hy])) hi;refine⟨a.flat++pre,post,by simp[AV.flats,h1,wB],by simp[h2,h a (by simp),wQ];omega,fun y=>by simp[AV.flats,h3 y,wB]⟩
 | [],_,_,_,hi=>by simp at hi
theorem fJ {fs:List Sh}{l:List AV}:aD (.st fs) (.agg l)=bh fs l:=by simp[aD,AV.isAgg,AV.kids]
theorem bS {n:Nat}{e:Sh}{l:List AV}:aD (.ar n e) (.agg l)=(l.length==n&&l.all (aD e)):=by simp[aD,AV.isAgg,AV.kids]
theorem L9 {l:List AV}{i:Nat}{y:AV}(h:AV.wfp l)(hp:y.plain=true)(hy:y.wf):AV.wfp (l.set i y):=by
 rw[AV.wfp_iff]at h ⊢;intro x hx;rcases wD hx with hx|rfl
 . exact h x hx
 . exact⟨hp,hy⟩
theorem DG {l:List AV}{i:Nat}{y:AV}(h:AV.wfs l)(hy:y.wf):AV.wfs (l.set i y):=by
 rw[AV.wfs_iff]at h ⊢;intro x hx;rcases wD hx with hx|rfl
 . exact h x hx
 . exact hy
theorem BH {l:List AV}(h:AV.wfp l):AV.wfs l:=by rw[AV.wfp_iff]at h;rw[AV.wfs_iff];exact fun x hx=>(h x hx).2
theorem EU {e:Sh}{l:List AV}{i:Nat}{y:AV}(h:∀x∈l,aD e x=true)(hy:aD e y=true):∀x∈l.set i y,aD e x=true:=by
 intro x hx;rcases wD hx with hx|rfl
 . exact h x hx
 . exact hy
theorem dO {a:AV}{i:Nat}{x:AV}(h:a.wf)(hi:a.kids[i]? =some x):x.wf:=by have hm:=wH hi;cases a<;>simp_all[AV.kids,AV.wf,AV.wfp_iff,AV.wfs_iff]
theorem gY {a:AV}{i:Nat}{x:AV}(hp:a.plain=true)(h:a.wf)(hi:a.kids[i]? =some x):x.plain=true:=by have hm:=wH hi;cases a<;>simp_all[AV.kids,AV.wf,AV.wfp_iff,AV.plain]
theorem D4 {a:AV}{i:Nat}{p:List Nat}{x y y':AV}(ha:a.isAgg=true)(hx:a.kids[i]? =some x)(hs:x.setNav p y=some y') :
  ∃a',a.setNav (i::p) y=some a'/\a'.isAgg=true/\a'.kids=a.kids.set i y'/\(a.wf->y'.wf->a'.wf)/\(a.plain=true->y'.plain=true->a'.plain=true):=by
 cases a with
 | agg l =>
   simp only[AV.kids]at hx;by_cases hp:y'.plain=true
   . exact⟨.agg (l.set i y'),by simp[AV.setNav,hx,hs,hp],rfl,rfl,fun h1 h2=>L9 h1 hp h2,fun _ _=>rfl⟩
   . refine⟨.aggR (l.set i y'),by simp[AV.setNav,hx,hs,hp],rfl,rfl,fun h1 h2=> ?_,fun _ h=>absurd h hp⟩;simp only[AV.wf]at h1 ⊢;exact DG (BH h1) h2
 | aggR l =>simp only[AV.kids]at hx;exact⟨.aggR (l.set i y'),by simp[AV.setNav,hx,hs],rfl,rfl,fun h1 h2=>DG h1 h2,fun h=>by simp[AV.plain]at h⟩
 | _=>simp[AV.isAgg]at ha
theorem fj :∀(p:List Nat) (root:Sh) (a:AV) (s:Sh),aD root a=true->root.sub p=some s ->
  ∃x o pre post,a.nav p=some x/\root.off p=some o/\aD s x=true/\a.flat=pre++x.flat++post/\pre.length=o/\(a.wf->x.wf) /\
   (a.plain=true->a.wf->x.plain=true) /\
   ∀y,aD s y=true->∃a',a.setNav p y=some a'/\aD root a'=true/\a'.flat=pre++y.flat++post/\(a.wf->y.wf->a'.wf) /\
    (a.plain=true->a.wf->y.plain=true->a'.plain=true)
 | [],root,a,s,h,hs=>by
   have:root=s:=by cases root<;>simpa[Sh.sub]using hs
   subst this;refine⟨a,0,[],[],by cases a<;>rfl,by cases root<;>rfl,h,by simp,rfl,id,fun h _=>h,fun y hy=>⟨y,by cases a<;>rfl,hy,by simp,fun _ h=>h,fun _ _ h=>h⟩⟩
 | i::p,.sc,a,s,h,hs=>by simp[Sh.sub]at hs
 | i::p,.st fs,a,s,h,hs=>by
   simp only[aD,wR]at h;simp only[Sh.sub,wS]at hs;obtain⟨f,hf,hs⟩:=hs;obtain⟨z,hz,hfz⟩:=ew h.2 hf;obtain⟨x,o,pre,post,hn,ho,hx,hfl,hl,hwf,hpl,hset⟩:=fj p f z s hfz hs;obtain⟨pre',post',h1,h2,h3⟩:=dr h.2 hz;refine⟨x,Sh.sizes (fs.take i)+o,pre'++pre,post++post',?_,?_,hx,?_,by simp[h2,hl],fun hw=>hwf (dO hw hz),fun hp hw=>hpl (gY hp hw hz) (dO hw hz),fun y hy=> ?_⟩
   . cases a<;>simp_all[AV.isAgg,AV.kids,AV.nav]
   . simp[Sh.off,hf,ho]
   . rw[AV.flat_kids h.1,h1,hfl];simp[wB]
   . obtain⟨z',hz',hsz,hfz',hwz,hpz⟩:=hset y hy;obtain⟨a',ha',hag,hk,hw,hpa⟩:=D4 (y:=y) (p:=p) h.1 hz hz';refine⟨a',ha',?_,?_,fun hwa hwy=>hw hwa (hwz (dO hwa hz) hwy),fun hp hwa hy=>hpa hp (hpz (gY hp hwa hz) (dO hwa hz) hy)⟩
     . simp[aD,hag,hk,ng h.2 hf hsz]
     . rw[AV.flat_kids hag,hk,h3,hfz'];simp[wB]
 | i::p,.ar n e,a,s,h,hs=>by
   simp only[aD,wR,beq_iff_eq,wE]at h;simp only[Sh.sub]at hs;split at hs
   . rename_i hi;have hik:i<a.kids.length:=by omega
     have hz:a.kids[i]? =some a.kids[i]:=List.getElem?_eq_getElem hik;obtain⟨x,o,pre,post,hn,ho,hx,hfl,hl,hwf,hpl,hset⟩:=fj p e a.kids[i] s (h.2 _ (List.getElem_mem hik)) hs;obtain⟨pre',post',h1,h2,h3⟩:=cr (l:=a.kids) (i:=i) (x:=a.kids[i]) (fun y hy=>aB e y (h.2 y hy)) hz;refine⟨x,i*e.size+o,pre'++pre,post++post',?_,?_,hx,?_,by simp[h2,hl],fun hw=>hwf (dO hw hz),fun hp hw=>hpl (gY hp hw hz) (dO hw hz),fun y hy=> ?_⟩
     . cases a<;>simp_all[AV.isAgg,AV.kids,AV.nav]
     . simp[Sh.off,hi,ho]
     . rw[AV.flat_kids h.1.1,h1,hfl];simp[wB]
     . obtain⟨z',hz',hsz,hfz',hwz,hpz⟩:=hset y hy;obtain⟨a',ha',hag,hk,hw,hpa⟩:=D4 (y:=y) (p:=p) h.1.1 hz hz';refine⟨a',ha',?_,?_,fun hwa hwy=>hw hwa (hwz (dO hwa hz) hwy),fun hp hwa hy=>hpa hp (hpz (gY hp hwa hz) (dO hwa hz) hy)⟩
       . simp only[aD,hag,hk,Bool.true_and,wR,beq_iff_eq,List.length_set,wE];exact⟨h.1.2,EU h.2 hsz⟩
       . rw[AV.flat_kids hag,hk,h3,hfz'];simp[wB]
   . cases hs
theorem mV :∀{root:Sh} {p:List Nat} {s:Sh},root.sub p=some s->∃o,root.off p=some o
 | root,[],s,_=>⟨0,by cases root<;>rfl⟩
 | .sc,i::p,s,h=>by simp[Sh.sub]at h
 | .st fs,i::p,s,h=>by simp only[Sh.sub,wS]at h;obtain⟨f,hf,h⟩:=h;obtain⟨o,ho⟩:=mV h;exact⟨Sh.sizes (fs.take i)+o,by simp[Sh.off,hf,ho]⟩
 | .ar n e,i::p,s,h=>by
   simp only[Sh.sub]at h;split at h
   . rename_i hi;obtain⟨o,ho⟩:=mV h;exact⟨i*e.size+o,by simp[Sh.off,hi,ho]⟩
   . cases h
theorem jK :∀{root:Sh} {p q:List Nat} {s:Sh} {o o':Nat},root.sub p=some s->root.off p=some o->s.off q=some o'->root.off (p++q)=some (o+o')
 | root,[],q,s,o,o',h,ho,hq=>by
   have:root=s:=by cases root<;>simpa[Sh.sub]using h
   subst this;have:o=0:=by cases root<;>simpa[Sh.off]using ho.symm
   subst this;simpa using hq
 | .sc,i::p,q,s,o,o',h,ho,hq=>by simp[Sh.sub]at h
 | .st fs,i::p,q,s,o,o',h,ho,hq=>by simp only[Sh.sub,wS]at h;obtain⟨f,hf,h⟩:=h;simp only[Sh.off,hf,Option.bind_some,wT]at ho;obtain⟨o1,ho1,rfl⟩:=ho;simp[Sh.off,hf,jK h ho1 hq,wO]
 | .ar n e,i::p,q,s,o,o',h,ho,hq=>by
   simp only[Sh.sub]at h;split at h
   . rename_i hi;simp only[Sh.off,hi,if_true,wT]at ho;obtain⟨o1,ho1,rfl⟩:=ho;simp[Sh.off,hi,jK h ho1 hq,wO]
   . cases h
end Go.Ev
namespace Go.Ev
open Go
def free (c:Array Value)(fz:Nat×Nat):Prop:=fz.1=fz.2\/c.size<=fz.1
def freeG (sh:Sh)(c:Array Value)(fz:Nat×Nat):Prop:=fz.1=fz.2\/(sh= .sc/\c.size<=fz.1)
theorem freeG.free {sh:Sh}{c:Array Value}{fz:Nat×Nat}(h:freeG sh c fz):free c fz:=h.imp id And.right
theorem freeG.put {sh:Sh}{c c':Array Value}{fz:Nat×Nat}(h:freeG sh c fz)(hs:c'.size=c.size):freeG sh c' fz:=h.imp id fun h=>⟨h.1,by rw[hs];exact h.2⟩
structure RcOk (info:RInfo)(rc:Loop)(s:RS):Prop where
 params:rc.params=info.params
 assign:rc.assign=info.assign
 body:rc.body=info.body
 nt:info.nt<=rc.tmps.size
 st:match s with
  | .ready=>rc.state= .ready/\rc.pending=none
  | .busy=>rc.state= .busy
  | .done e=>rc.state= .done/\rc.pending=(match e with| .norm=>none| .ret=>some .ret| .exit id=>some (.exit id))
structure RepW (H:aT)(G:Gh)(info:RInfo)(rc:Loop)(vals:List AV):Prop where
 len:vals.length=info.slots.length
 get:∀j (h:j<vals.length),RepT H G (rc.tmps.getD (info.slots.getD j 0) undef) vals[j]
theorem RepW.mono {H H':aT}{G G':Gh}(le:Le H G H' G'){info:RInfo}{rc:Loop}{vals:List AV}(h:RepW H G info rc vals):RepW H' G' info rc vals :=
 ⟨h.len,fun j hj=>(h.get j hj).mono le⟩
def Hs :AV->Value
 | .int k n=>.int k n
 | _=>undef
def be :AV->Value
 | .bool b=>.bool b
 | .int k n=>.int k n
 | .str l=>.string ⟨⟨l⟩⟩
 | .agg l=>.agg (l.map Hs).toArray
 | _=>undef
def dH (e:AV×AV×Nat):MapEntry:=⟨be e.1,be e.2.1,e.2.2⟩
def GrowB (H:aT)(G:Gh)(b cap:Nat)(l:List AV):Prop:=∃c e fz,l.length<=cap/\H[b]? =some (.cells c e fz)/\c.size=cap/\freeG .sc c fz/\(∀x∈l,aD .sc x=true/\x.plain=true/\x.wf)/\RepC H G c 0 (AV.flats l)
structure NestC (H:aT)(G:Gh)(b:Nat)(X:Nat->Prop)(c:Array Value)(els:List NE)(B:Nat->Nat):Prop where
 x:∀y,X y↔∃i l,els[i]? =some (NE.own l)/\B i=y
 own:∀(i:Nat) l,els[i]? =some (NE.own l)->B i≠b/\0<l.length/\∃cp,c[i]? =some (.slice (some ⟨B i,0,none⟩) l.length cp)/\GrowB H G (B i) cp l
 inj:∀(i j:Nat) l l',els[i]? =some (NE.own l)->els[j]? =some (NE.own l')->B i=B j->i=j
 nm:∀(i k m:Nat),els[i]? =some (NE.nm k m)->∃v,c[i]? =some v/\RepS H G v (.sl k [] 0 m)
theorem GrowB.mono {H H':aT}{G G':Gh}{b cap:Nat}{l:List AV}(le:Le H G H' G')(hb:H'[b]? =H[b]?)(h:GrowB H G b cap l):GrowB H' G' b cap l:=by obtain⟨c,e,fz,h1,h2,h3,h4,h5,h6⟩:=h;exact⟨c,e,fz,h1,hb.trans h2,h3,h4,h5,h6.mono le⟩
theorem NestC.mono {H H':aT}{G G':Gh}{b:Nat}{X:Nat->Prop}{c:Array Value}{els:List NE}{B:Nat->Nat}(le:Le H G H' G')(hb:∀y,X y->H'[y]? =H[y]?)(h:NestC H G b X c els B):NestC H' G' b X c els B where
 x:=h.x
 own i l hi:=by obtain⟨h1,h2,cp,h3,h4⟩:=h.own i l hi;exact⟨h1,h2,cp,h3,h4.mono le (hb _ ((h.x _).2 ⟨i,l,hi,rfl⟩))⟩
 inj:=h.inj
 nm i k m hi:=by obtain⟨v,h1,h2⟩:=h.nm i k m hi;exact⟨v,h1,h2.mono le⟩
def ObOk (H:aT)(G:Gh)(k:Nat):OB->Prop
 | .fix sh a=>∃b c e fz,G.reg k=some (.blk b sh)/\H[b]? =some (.cells c e fz)/\c.size=sh.size/\free c fz/\aD sh a=true/\a.wf/\RepC H G c 0 a.flat
 | .grow sh els=>(els=[]/\G.reg k=some .nil)\/∃b cap c e fz,G.reg k=some (.blk b (.ar cap sh))/\els.length<=cap/\H[b]? =some (.cells c e fz) /\
    c.size=cap*sh.size/\freeG sh c fz/\(∀x∈els,aD sh x=true/\x.plain=true/\x.wf)/\RepC H G c 0 (AV.flats els)
 | .dead=>∃r,G.reg k=some r
 | .lp rid vals s=>∃b rc info,G.reg k=some (.blk b .sc)/\H[b]? =some (.loop rc)/\G.yl rid=some info/\RcOk info rc s/\RepW H G info rc vals
 | .mp es c=>∃b,G.reg k=some (.blk b .sc)/\H[b]? =some (.map (es.map dH).toArray c)/\∀e∈es,e.1.kkv=true/\e.2.1.kv=true
 | .nest els=>∃b cap X c e fz B,G.reg k=some (.nst b cap X)/\els.length<=cap/\H[b]? =some (.cells c e fz)/\c.size=cap/\freeG .sc c fz/\NestC H G b X c els B
def aN (hp:Hp)(k:Nat):Prop:=∃o,hp.get k=some o/\o≠.dead
def bG (G:Gh)(hp:Hp)(b:Nat):Prop:=∃k r,aN hp k/\G.At k b r
structure Inv (H:aT)(G:Gh)(hp:Hp):Prop where
 obs:∀k o,hp.get k=some o->ObOk H G k o
 out:∀k,hp.get k=none->G.reg k=none
 dist:∀k k' b r r',G.At k b r->G.At k' b r'->aN hp k->aN hp k'->k=k'
 imm:∀b,G.imm b->b<H.size/\¬bG G hp b
 lt:∀b,bG G hp b->b<H.size
structure Step (H:aT)(G:Gh)(hp:Hp)(H':aT)(G':Gh)(hp':Hp):Prop where
 inv:Inv H' G' hp'
 le:Le H G H' G'
 size:H.size<=H'.size
 same:∀b,b<H.size->¬bG G hp b->H'[b]? =H[b]?
 live:∀b,bG G' hp' b->bG G hp b\/H.size<=b
 immNew:∀b,G'.imm b->G.imm b\/H.size<=b\/bG G hp b
theorem Inv.noN {H:aT}{G:Gh}{hp:Hp}(inv:Inv H G hp){k:Nat}{o:OB}(h:hp.get k=some o)(ho:match o with| .nest _| .dead=>False|_=>True):∀b c X,G.reg k≠some (.nst b c X):=by
 intro b c X hr;have:=inv.obs k o h
 cases o with
 | fix sh a=>obtain⟨b',_,_,_,h,_⟩:=this;rw[h]at hr;cases hr
 | grow sh els =>
   rcases this with ⟨_,h⟩|⟨_,_,_,_,_,h,_⟩
   . rw[h]at hr;cases hr
   . rw[h]at hr;cases hr
 | dead=>exact ho
 | lp _ _ _=>obtain⟨b',_,_,h,_⟩:=this;rw[h]at hr;cases hr
 | mp _ _=>obtain⟨_,h,_⟩:=this;rw[h]at hr;cases hr
 | nest els=>exact ho
theorem Inv.isN {H:aT}{G:Gh}{hp:Hp}(inv:Inv H G hp){k b c:Nat}{X:Nat->Prop}(hr:G.reg k=some (.nst b c X)):(∃els,hp.get k=some (.nest els))\/hp.get k=some .dead:=by
 cases h:hp.get k with
 | none=>rw[inv.out k h]at hr;cases hr
 | some o =>
   cases o with
   | nest els=>exact .inl ⟨els,rfl⟩
   | dead=>exact .inr rfl
   | _=>exact absurd hr (inv.noN h trivial b c X)
theorem Inv.get_reg {H:aT}{G:Gh}{hp:Hp}(inv:Inv H G hp){k:Nat}{o:OB}(h:hp.get k=some o):∃r,G.reg k=some r:=by
 have:=inv.obs k o h
 cases o with
 | fix sh a=>obtain⟨b,_,_,_,h,_⟩:=this;exact⟨_,h⟩
 | grow sh els =>
   rcases this with ⟨_,h⟩|⟨_,_,_,_,_,h,_⟩
   . exact⟨_,h⟩
   . exact⟨_,h⟩
 | dead=>obtain⟨r,h⟩:=this;exact⟨_,h⟩
 | lp _ _ _=>obtain⟨_,_,_,h,_⟩:=this;exact⟨_,h⟩
 | mp _ _=>obtain⟨_,h,_⟩:=this;exact⟨_,h⟩
 | nest els=>obtain⟨b,cap,X,c,e,fz,B,h,_⟩:=this;exact⟨_,h⟩
theorem Step.refl {H:aT}{G:Gh}{hp:Hp}(h:Inv H G hp):Step H G hp H G hp :=
 ⟨h,.refl H G,wN _,fun _ _ _=>rfl,fun _ h=>.inl h,fun _ h=>.inl h⟩
theorem Step.trans {H₀ H₁ H₂:aT}{G₀ G₁ G₂:Gh}{p₀ p₁ p₂:Hp}(h:Step H₀ G₀ p₀ H₁ G₁ p₁)(h':Step H₁ G₁ p₁ H₂ G₂ p₂):Step H₀ G₀ p₀ H₂ G₂ p₂ where
 inv:=h'.inv
 le:=h.le.trans h'.le
 size:=wM h.size h'.size
 same b hb hl:=by
  have:¬bG G₁ p₁ b:=fun h1=>by
   rcases h.live b h1 with h2|h2
   . exact hl h2
   . omega
  rw[h'.same b (Nat.lt_of_lt_of_le hb h.size) this,h.same b hb hl]
 live b hb:=by
  rcases h'.live b hb with h1|h1
  . exact h.live b h1
  . exact .inr (wM h.size h1)
 immNew b hb:=by
  rcases h'.immNew b hb with h1|h1|h1
  . exact h.immNew b h1
  . exact .inr (.inl (wM h.size h1))
  . rcases h.live b h1 with h2|h2
    . exact .inr (.inr h2)
    . exact .inr (.inl h2)
theorem Hp.get_cons (k:Nat)(o:OB)(hp:Hp)(j:Nat):Hp.get ((k,o)::hp) j=if k=j then some o else Hp.get hp j:=rfl
theorem bm {k:Nat}{o:OB}{hp:Hp}{j:Nat}:aN ((k,o)::hp) j↔(k=j/\o≠.dead)\/(k≠j/\aN hp j):=by
 unfold aN;rw[Hp.get_cons];by_cases h:k=j
 . simp[h]
 . simp[h]
def Gh.with (G:Gh)(k:Nat)(r:Rg):Gh:={G with reg:=fun j=>if j=k then some r else G.reg j}
theorem Gh.with_at {G:Gh}{k:Nat}{q:Rg}{j b:Nat}{r:Sh}:(G.with k q).At j b r↔if j=k then q.at b r else G.At j b r:=by
 unfold Gh.At Gh.with
 by_cases h:j=k
 . simp[h]
 . simp[h]
theorem Gh.with_le {H H':aT}{G:Gh}{k:Nat}{r:Rg}(hk:G.reg k=none)(hH:∀b,G.imm b->H'[b]? =H[b]?):Le H G H' (G.with k r) :=
 ⟨fun b hb=>⟨hb,hH b hb⟩,fv fun j s hs=>by
   simp only[Gh.with];by_cases h:j=k
   . subst h;rw[hk]at hs;cases hs
   . simp[h,hs],fun _ _ h=>h⟩
theorem ObOk.mono {H H':aT}{G G':Gh}{hp:Hp}(le:Le H G H' G'){k:Nat}{o:OB}(hk:aN hp k->∀b r,G.At k b r->H'[b]? =H[b]?)
  (hreg:∀r,G.reg k=some r->G'.reg k=some r) (ho:hp.get k=some o) (h:ObOk H G k o):ObOk H' G' k o:=by
 cases o with
 | fix sh a =>obtain⟨b,c,e,fz,hr,hb,hs,hf,hsh,hw,hc⟩:=h;exact⟨b,c,e,fz,le.blk hr,(hk ⟨_,ho,by simp⟩ b sh (.of hr)).trans hb,hs,hf,hsh,hw,hc.mono le⟩
 | grow sh els =>
   rcases h with ⟨h1,h2⟩|⟨b,cap,c,e,fz,hr,hl,hb,hs,hf,hsh,hc⟩
   . exact .inl ⟨h1,le.nil h2⟩
   . exact .inr ⟨b,cap,c,e,fz,le.blk hr,hl,(hk ⟨_,ho,by simp⟩ b _ (.of hr)).trans hb,hs,hf,hsh,hc.mono le⟩
 | dead=>exact let ⟨r,hr⟩:=h;let ⟨r',h',_⟩:=le.reg _ _ hr;⟨r',h'⟩
 | lp rid vals s =>obtain⟨b,rc,info,hr,hb,hy,hrc,hv⟩:=h;exact⟨b,rc,info,le.blk hr,(hk ⟨_,ho,by simp⟩ b .sc (.of hr)).trans hb,le.yl _ _ hy,hrc,hv.mono le⟩
 | mp es c =>obtain⟨b,hr,hb,he⟩:=h;exact⟨b,le.blk hr,(hk ⟨_,ho,by simp⟩ b .sc (.of hr)).trans hb,he⟩
 | nest els =>obtain⟨b,cap,X,c,e,fz,B,hr,hl,hb,hs,hf,hc⟩:=h;have hl':aN hp k:=⟨_,ho,by simp⟩;exact⟨b,cap,X,c,e,fz,B,hreg _ hr,hl,(hk hl' b .sc ⟨_,hr,.inl rfl⟩).trans hb,hs,hf,hc.mono le fun y hy=>hk hl' y .sc ⟨_,hr,.inr hy⟩⟩
theorem kE {H:aT}{G:Gh}{hp:Hp}(inv:Inv H G hp){k:Nat}(hk:hp.get k=none)(x:Obj)(root:Sh)(ob:OB)
  (hob:Le H G (H.push x) (G.with k (.blk H.size root))->ObOk (H.push x) (G.with k (.blk H.size root)) k ob) :
  Step H G hp (H.push x) (G.with k (.blk H.size root)) ((k,ob)::hp):=by
 have hreg:=inv.out k hk;have hpush:∀b,b<H.size->(H.push x)[b]? =H[b]? :=fun b hb=>by rw[w0];simp[wP hb]
 have hle:Le H G (H.push x) (G.with k (.blk H.size root)):=Gh.with_le hreg fun b hb=>hpush b (inv.imm b hb).1
 have hlive:∀b,bG (G.with k (.blk H.size root)) ((k,ob)::hp) b->bG G hp b\/b=H.size:=by
  rintro b ⟨j,r,hl,hr⟩;rw[Gh.with_at]at hr;by_cases h:j=k
  . subst h;simp only[if_true,Rg.at]at hr;exact .inr hr.1.symm
  . simp only[h,if_false]at hr;rcases bm.1 hl with ⟨h1,_⟩|⟨_,h2⟩
    . exact absurd h1.symm h
    . exact .inl ⟨j,r,h2,hr⟩
 refine⟨⟨?_,?_,?_,?_,?_⟩,hle,by simp,fun b hb _=>hpush b hb,fun b hb=> ?_,fun b hb=>.inl hb⟩
 . intro j o hj;rw[Hp.get_cons]at hj;by_cases h:k=j
   . subst h;simp at hj;subst hj;exact hob hle
   . simp only[h,if_false]at hj;exact ObOk.mono (hp:=hp) hle (fun hl b r hr=>hpush b (inv.lt b ⟨j,r,hl,hr⟩)) (fun r hr=>by simp only[Gh.with,show ¬j=k from fun e=>h e.symm,if_false];exact hr) hj (inv.obs j o hj)
 . intro j hj;rw[Hp.get_cons]at hj;by_cases h:k=j
   . subst h;simp at hj
   . simp only[h,if_false]at hj;simp only[Gh.with,show ¬j=k from fun e=>h e.symm,if_false];exact inv.out j hj
 . intro j j' b r r' hj hj' hl hl';rw[Gh.with_at]at hj hj';by_cases h:j=k
   . by_cases h':j'=k
     . rw[h,h']
     . exfalso;simp only[h,if_true,Rg.at]at hj;simp only[h',if_false]at hj';rcases bm.1 hl' with ⟨h1,_⟩|⟨_,h2⟩
       . exact h' h1.symm
       . have:=inv.lt b ⟨j',r',h2,hj'⟩;omega
   . by_cases h':j'=k
     . exfalso;simp only[h',if_true,Rg.at]at hj';simp only[h,if_false]at hj;rcases bm.1 hl with ⟨h1,_⟩|⟨_,h2⟩
       . exact h h1.symm
       . have:=inv.lt b ⟨j,r,h2,hj⟩;omega
     . simp only[h,if_false]at hj;simp only[h',if_false]at hj';rcases bm.1 hl with ⟨h1,_⟩|⟨_,h2⟩
       . exact absurd h1.symm h
       . rcases bm.1 hl' with ⟨h1,_⟩|⟨_,h2'⟩
         . exact absurd h1.symm h'
         . exact inv.dist j j' b r r' hj hj' h2 h2'
 . intro b hb;have:=inv.imm b hb;refine⟨by simp;omega,fun hl=> ?_⟩;rcases hlive b hl with h|h
   . exact this.2 h
   . omega
 . intro b hb;rcases hlive b hb with h|h
   . have:=inv.lt b h;simp;omega
   . simp;omega
 . rcases hlive b hb with h|h
   . exact .inl h
   . exact .inr (Nat.le_of_eq h.symm)
theorem HA {H:aT}{G:Gh}{hp:Hp}(inv:Inv H G hp)(x:Obj):Step H G hp (H.push x) {imm:=fun b=>G.imm b\/b=H.size,reg:=G.reg,yl:=G.yl} hp:=by
 have hpush:∀b,b<H.size->(H.push x)[b]? =H[b]? :=fun b hb=>by rw[w0];simp[wP hb]
 have hle:Le H G (H.push x) {imm:=fun b=>G.imm b\/b=H.size,reg:=G.reg,yl:=G.yl}:=⟨fun b hb=>⟨.inl hb,hpush b (inv.imm b hb).1⟩,fv fun _ _ h=>h,fun _ _ h=>h⟩;refine⟨⟨fun j o hj=> ?_,inv.out,inv.dist,fun b hb=> ?_,fun b hb=> ?_⟩,hle,by simp,fun b hb _=>hpush b hb,fun b hb=>.inl hb,fun b hb=> ?_⟩
 . exact ObOk.mono (hp:=hp) hle (fun hl b r hr=>hpush b (inv.lt b ⟨j,r,hl,hr⟩)) (fun r hr=>hr) hj (inv.obs j o hj)
 . rcases hb with hb|rfl
   . have:=inv.imm b hb;exact⟨by simp;omega,this.2⟩
   . exact⟨by simp,fun hl=>by have:=inv.lt _ hl;omega⟩
 . have:=inv.lt b hb;simp;omega
 . rcases hb with hb|rfl
   . exact .inl hb
   . exact .inr (.inl (wN _))
theorem rI {H:aT}{G:Gh}{hp:Hp}(inv:Inv H G hp){k:Nat}(hk:hp.get k=none)(sh:Sh) :
  Step H G hp H (G.with k .nil) ((k,.grow sh [])::hp):=by
 have hreg:=inv.out k hk;have hle:Le H G H (G.with k .nil):=Gh.with_le hreg fun b _=>rfl
 have hlive:∀b,bG (G.with k .nil) ((k,.grow sh [])::hp) b->bG G hp b:=by
  rintro b ⟨j,r,hl,hr⟩;rw[Gh.with_at]at hr;by_cases h:j=k
  . subst h;simp[Rg.at]at hr
  . simp only[h,if_false]at hr;rcases bm.1 hl with ⟨h1,_⟩|⟨_,h2⟩
    . exact absurd h1.symm h
    . exact⟨j,r,h2,hr⟩
 refine⟨⟨?_,?_,?_,?_,?_⟩,hle,wN _,fun b hb _=>rfl,fun b hb=>.inl (hlive b hb),fun b hb=>.inl hb⟩
 . intro j o hj;rw[Hp.get_cons]at hj;by_cases h:k=j
   . subst h;simp at hj;subst hj;exact .inl ⟨rfl,by simp[Gh.with]⟩
   . simp only[h,if_false]at hj;exact ObOk.mono (hp:=hp) hle (fun hl b r hr=>rfl) (fun r hr=>by simp only[Gh.with,show ¬j=k from fun e=>h e.symm,if_false];exact hr) hj (inv.obs j o hj)
 . intro j hj;rw[Hp.get_cons]at hj;by_cases h:k=j
   . subst h;simp at hj
   . simp only[h,if_false]at hj;simp only[Gh.with,show ¬j=k from fun e=>h e.symm,if_false];exact inv.out j hj
 . intro j j' b r r' hj hj' hl hl';rw[Gh.with_at]at hj hj';by_cases h:j=k
   . simp[h,Rg.at]at hj
   . by_cases h':j'=k
     . simp[h',Rg.at]at hj'
     . simp only[h,if_false]at hj;simp only[h',if_false]at hj';rcases bm.1 hl with ⟨h1,_⟩|⟨_,h2⟩
       . exact absurd h1.symm h
       . rcases bm.1 hl' with ⟨h1,_⟩|⟨_,h2'⟩
         . exact absurd h1.symm h'
         . exact inv.dist j j' b r r' hj hj' h2 h2'
 . intro b hb;exact⟨(inv.imm b hb).1,fun hl=>(inv.imm b hb).2 (hlive b hl)⟩
 . exact fun b hb=>inv.lt b (hlive b hb)
theorem cR {H:aT}{G:Gh}{hp:Hp}(inv:Inv H G hp){k:Nat}{o:OB}(hk:hp.get k=some o)(H':aT)(ob:OB)
  (hsz:H'.size=H.size) (hoth:∀b,¬(∃r,G.At k b r/\aN hp k)->H'[b]? =H[b]?) (hlive:ob≠.dead->o≠.dead)
  (hob:Le H G H' G->ObOk H' G k ob):Step H G hp H' G ((k,ob)::hp):=by
 have hle:Le H G H' G:=⟨fun b hb=>⟨hb,hoth b fun⟨r,hr,hl⟩=>(inv.imm b hb).2 ⟨k,r,hl,hr⟩⟩,fv fun _ _ h=>h,fun _ _ h=>h⟩;have hlo:∀j,aN ((k,ob)::hp) j->aN hp j:=fun j hj=>by
  rcases bm.1 hj with ⟨h1,h2⟩|⟨_,h2⟩
  . subst h1;exact⟨o,hk,hlive h2⟩
  . exact h2
 have hL:∀b,bG G ((k,ob)::hp) b->bG G hp b:=fun b ⟨j,r,hl,hr⟩=>⟨j,r,hlo j hl,hr⟩
 refine⟨⟨?_,?_,?_,?_,?_⟩,hle,by omega,fun b hb hl=>hoth b fun⟨r,hr,hl'⟩=>hl ⟨k,r,hl',hr⟩,fun b hb=>.inl (hL b hb),fun b hb=>.inl hb⟩
 . intro j o' hj;rw[Hp.get_cons]at hj;by_cases h:k=j
   . subst h;simp at hj;subst hj;exact hob hle
   . simp only[h,if_false]at hj;refine ObOk.mono (hp:=hp) hle (fun hl b r hr=>hoth b fun⟨r',hr',hl'⟩=> ?_) (fun _ h=>h) hj (inv.obs j o' hj);exact h (inv.dist k j b r' r hr' hr hl' hl)
 . intro j hj;rw[Hp.get_cons]at hj;by_cases h:k=j
   . subst h;simp at hj
   . simp only[h,if_false]at hj;exact inv.out j hj
 . exact fun j j' b r r' hj hj' hl hl'=>inv.dist j j' b r r' hj hj' (hlo j hl) (hlo j' hl')
 . exact fun b hb=>⟨by have:=(inv.imm b hb).1;omega,fun hl=>(inv.imm b hb).2 (hL b hl)⟩
 . exact fun b hb=>by have:=inv.lt b (hL b hb);omega
theorem jb {H:aT}{G:Gh}{hp:Hp}(inv:Inv H G hp){k:Nat}{o:OB}(hk:hp.get k=some o):Step H G hp H G ((k,.dead)::hp) :=
 cR inv hk H .dead rfl (fun _ _=>rfl) (fun h=>absurd rfl h) fun _=>by
  have:=inv.obs k o hk
  cases o with
  | fix sh a=>obtain⟨b,c,e,fz,hr,_⟩:=this;exact⟨_,hr⟩
  | grow sh els =>
    rcases this with ⟨_,h⟩|⟨b,cap,c,e,fz,hr,_⟩
    . exact⟨_,h⟩
    . exact⟨_,hr⟩
  | dead=>exact this
  | lp _ _ _=>obtain⟨b,rc,info,hr,_⟩:=this;exact⟨_,hr⟩
  | mp _ _=>obtain⟨b,hr,_⟩:=this;exact⟨_,hr⟩
  | nest els=>obtain⟨b,cap,X,c,e,fz,B,h,_⟩:=this;exact⟨_,h⟩
section runs
variable {P :Program} {w:World}
theorem EL {b o:Nat}{c:Array Value}{e:TypeId}{fz:Nat×Nat}(h:w.heap[b]? =some (.cells c e fz)):w.cell? ⟨b,o,none⟩=c[o]? :=by simp[World.cell?,h]
theorem cY (b o i:Nat):(⟨b,o,none⟩:Addr).add i=⟨b,o+i,none⟩:=by unfold Addr.add;split<;>simp_all
theorem qf {b o:Nat}{c:Array Value}{e:TypeId}{fz:Nat×Nat}{v:Value}(h:w.heap[b]? =some (.cells c e fz))(hv:c[o]? =some v) :
  (load ⟨b,o,none⟩).run P w= .ok v w:=by
 simp[EL h,hv]
theorem gA {b o:Nat}{c:Array Value}{e:TypeId}{fz:Nat×Nat}(h:w.heap[b]? =some (.cells c e fz))(val:Nat->Value) :
  ∀(n i:Nat) (acc:Array Value),(∀j,j<n->c[o+i+j]? =some (val (i+j))) ->
   (loadCellsFrom ⟨b,o,none⟩ i n acc).run P w= .ok (acc++((wJ n).map fun j=>val (i+j)).toArray) w
 | 0,i,acc,_=>by simp[loadCellsFrom]
 | n+1,i,acc,hv=>by
   simp only[loadCellsFrom,Sem.run_bind,cY];rw[qf h (by simpa using hv 0 (by omega))];simp only[Result.andThen_ok];rw[gA h val n (i+1) _ (fun j hj=>by
    have:=hv (j+1) (by omega);rw[show o+(i+1)+j=o+i+(j+1) by omega,show i+1+j=i+(j+1) by omega];exact this)]
   congr 1
   simp only[List.range_succ_eq_map,List.map_cons,List.map_map];apply Array.ext';simp only[Array.toList_append,Array.toList_push,wB,List.singleton_append,Nat.add_zero]
   congr 2
   apply List.map_congr_left;intro j _;simp[Function.comp,show i+1+j=i+(j+1) by omega]
theorem ga {b o:Nat}{c:Array Value}{e:TypeId}{fz:Nat×Nat}(h:w.heap[b]? =some (.cells c e fz))(val:Nat->Value)(n:Nat)
  (hv:∀j,j<n->c[o+j]? =some (val j)):(loadCells ⟨b,o,none⟩ n).run P w= .ok ((wJ n).map val).toArray w:=by
 have:=gA (P:=P) (o:=o) h val n 0 #[] (by simpa using hv);simpa[loadCells]using this
def aY (c:Array Value)(o:Nat):List Value->Array Value
 | []=>c
 | v::r=>aY (c.setIfInBounds o v) (o+1) r
theorem aX (o:Nat)(vs:List Value):∀(c:Array Value),(aY c o vs).size=c.size:=by
 induction vs generalizing o with
 | nil=>intro c;rfl
 | cons v r ih=>intro c;simp[aY,ih]
theorem gM (vs:List Value):∀(o:Nat) (c:Array Value) (j:Nat),o+vs.length<=c.size ->
  (aY c o vs)[j]? =if o<=j/\j<o+vs.length then vs[j-o]? else c[j]? :=by
 induction vs with
 | nil=>intro o c j _;simp only[aY,List.length_nil];rw[if_neg (by omega)]
 | cons v r ih =>
   intro o c j hl;simp only[wC]at hl;rw[aY,ih (o+1) _ j (by simp;omega)];by_cases h1:o+1<=j/\j<o+1+r.length
   . rw[if_pos h1,if_pos (by simp only[wC];omega)];rw[show j-o=(j-(o+1))+1 by omega];simp
   . rw[if_neg h1];by_cases h2:j=o
     . subst h2;rw[if_pos (by simp only[wC];omega),wX (by omega)];simp
     . rw[if_neg (by simp only[wC];omega),wU (Ne.symm h2)]
theorem uF {H:aT}{b:Nat}{c:Array Value}{e:TypeId}{fz:Nat×Nat}(f:Obj->Obj)(h:H[b]? =some (.cells c e fz)) :
  H.modify b f=H.setIfInBounds b (f (.cells c e fz)):=by
 obtain⟨hlt,hb⟩:=wW.1 h;apply wY;intro i;by_cases hi:b=i
 . subst hi;rw[wZ];simp[hlt,hb]
 . rw[wU hi,wZ];simp[hi]
theorem zQ {H:aT}{b:Nat}(x y:Obj):(H.setIfInBounds b x).setIfInBounds b y=H.setIfInBounds b y:=by
 apply wY;intro i;by_cases hi:b=i
 . subst hi;simp[Array.getElem?_setIfInBounds]
 . rw[wU hi,wU hi,wU hi]
theorem fY {H:aT}{b:Nat}{x:Obj}(h:H[b]? =some x):H.setIfInBounds b x=H:=by
 apply wY;intro i;by_cases hi:b=i
 . subst hi;obtain⟨hlt,hb⟩:=wW.1 h;rw[wX hlt,h]
 . rw[wU hi]
theorem bp {b:Nat}{e:TypeId}{fz:Nat×Nat}:∀(vs:List Value) (o i:Nat) (c:Array Value) (w:World),w.heap[b]? =some (.cells c e fz) ->
  o+i+vs.length<=c.size->free c fz->(∀v∈vs,v.oneCell'=true) ->
  (storeCells ⟨b,o,none⟩ vs i).run P w= .ok () {w with heap:=w.heap.setIfInBounds b (.cells (aY c (o+i) vs) e fz)}
 | [],o,i,c,w,h,_,_,_=>by simp[storeCells,aY,fY h]
 | v::r,o,i,c,w,h,hl,hf,h1=>by
   simp only[wC]at hl;have hi:o+i<c.size:=by omega
   have hc:w.cell? ⟨b,o+i,none⟩=some c[o+i]:=by rw[EL h];simp[hi]
   have hfr:w.frozen? ⟨b,o+i,none⟩=false:=by obtain⟨lo,hi'⟩:=fz;simp only[World.frozen?,h,Bool.and_eq_false_iff,decide_eq_false_iff_not];rcases hf with hf|hf<;>simp only at hf<;>omega
   simp only[storeCells,Sem.run_bind,cY];rw[run_store P w _ v _ (h1 v (by simp)),hc];simp only[hfr,Bool.false_eq_true,if_false,Result.andThen_ok];have hw:(w.setCell ⟨b,o+i,none⟩ v)={w with heap:=w.heap.setIfInBounds b (.cells (c.setIfInBounds (o+i) v) e fz)}:=by simp only[World.setCell,uF _ h];rfl
   rw[hw];obtain⟨hlt,hb⟩:=wW.1 h;rw[bp (fz:=fz) (e:=e) r o (i+1) (c.setIfInBounds (o+i) v) _ (by simp[hlt]) (by simp;omega)
    (by
      rcases hf with hf|hf
      . exact .inl hf
      . exact .inr (by simpa using hf)) (fun x hx=>h1 x (by simp[hx]))]
   simp only[zQ];rfl
end runs
theorem RepS.oneCell {H:aT}{G:Gh}{v:Value}{a:AV}(h:RepS H G v a):v.oneCell'=true:=by
 cases h with
 | s v h=>revert h;cases v<;>simp[VD,Value.oneCell']
 | fn v f caps vs he hn hsc val hv hr=>subst he;unfold fnV;split<;>rfl
 | _=>rfl
end Go.Ev
