/-
  Given functions of the library: slices.Insert of one element. No condition.
-/
import Derived.Test.YtaloneiaejhopaaDoorEvGiv
import Derived.Lib.Overlaps
set_option linter.all false
open List renaming all_eq_true->wB,append_nil->wC,take_take->wD,map_toArray->wE,length_take->wF,cons_append->wG,take_append_of_le_length->wH,nil_append->wJ,map_cons->wK,take_of_length_le->wL,map_nil->wM,mem_singleton->wN
open Nat renaming le_refl->wO,lt_of_lt_of_le->wP,sub_zero->wQ,zero_mul->wR,add_zero->wS,min_self->wT
open Option renaming some.injEq->wU,ite_none_right_eq_some->wV,map_some->wW
namespace Go.Ev
open Go
set_option maxRecDepth 20000
def qiv (t it bt ut:TypeId)(ov rr:Nat):Code :=
 Code.region 0 #[{dst:=some 6,op:=Op.assign (Operand.const (Value.slice none 0 0)),type:=t,pos:= "slices.go:136",after:= #[],guard:=none}] false
def qiu (t it bt ut:TypeId)(ov rr:Nat):Code :=
 Code.region 1 #[{dst:=some 10,op:=Op.move (Operand.tmp 0),type:=t,pos:= "slices.go:137",after:= #[],guard:=none},{dst:=some 11,op:=Op.move (Operand.tmp 1),type:=it,pos:= "slices.go:137",after:= #[],guard:=none},{dst:=some 12,op:=Op.slice t (Operand.tmp 10) (some (Operand.tmp 11)) none none,type:=t,pos:= "slices.go:137",after:= #[{on:=0,ground:=Ground.data},{on:=1,ground:=Ground.data}],guard:=none}] false
def qir (t it bt ut:TypeId)(ov rr:Nat):Code :=
 Code.region 2 #[{dst:=some 13,op:=Op.move (Operand.tmp 2),type:=t,pos:= "slices.go:139",after:= #[],guard:=none},{dst:=some 14,op:=Op.call {callee:=Callee.builtin Builtin.len,args:= #[Operand.tmp 13],argTypes:= #[t]},type:=it,pos:= "slices.go:139",after:= #[{on:=0,ground:=Ground.data}],guard:=none},{dst:=some 7,op:=Op.assign (Operand.tmp 14),type:=it,pos:= "slices.go:139",after:= #[{on:=1,ground:=Ground.data},{on:=0,ground:=Ground.phase},{on:=1,ground:=Ground.phase}],guard:=none}] false
def qip (t it bt ut:TypeId)(ov rr:Nat):Code :=
 Code.region 3 #[{dst:=some 15,op:=Op.move (Operand.tmp 7),type:=it,pos:= "slices.go:140",after:= #[],guard:=none},{dst:=some 16,op:=Op.binOp BinOp.eql it (Operand.tmp 15) (Operand.const (Value.int IntKind.i64 0)) it,type:=bt,pos:= "slices.go:140",after:= #[{on:=0,ground:=Ground.data}],guard:=none}] false
def qio (t it bt ut:TypeId)(ov rr:Nat):Code :=
 Code.region 4 #[{dst:=some 17,op:=Op.move (Operand.tmp 0),type:=t,pos:= "slices.go:141",after:= #[],guard:=none},{dst:=some 6,op:=Op.assign (Operand.tmp 17),type:=t,pos:= "slices.go:141",after:= #[{on:=0,ground:=Ground.data},{on:=0,ground:=Ground.phase}],guard:=none}] false
def qin (t it bt ut:TypeId)(ov rr:Nat):Code :=
 Code.region 5 #[{dst:=some 18,op:=Op.move (Operand.tmp 0),type:=t,pos:= "slices.go:143",after:= #[],guard:=none},{dst:=some 19,op:=Op.call {callee:=Callee.builtin Builtin.len,args:= #[Operand.tmp 18],argTypes:= #[t]},type:=it,pos:= "slices.go:143",after:= #[{on:=0,ground:=Ground.data}],guard:=none},{dst:=some 8,op:=Op.assign (Operand.tmp 19),type:=it,pos:= "slices.go:143",after:= #[{on:=1,ground:=Ground.data},{on:=0,ground:=Ground.phase},{on:=1,ground:=Ground.phase}],guard:=none}] false
def qim (t it bt ut:TypeId)(ov rr:Nat):Code :=
 Code.region 6 #[{dst:=some 20,op:=Op.move (Operand.tmp 1),type:=it,pos:= "slices.go:144",after:= #[],guard:=none},{dst:=some 21,op:=Op.move (Operand.tmp 8),type:=it,pos:= "slices.go:144",after:= #[],guard:=none},{dst:=some 22,op:=Op.binOp BinOp.eql it (Operand.tmp 20) (Operand.tmp 21) it,type:=bt,pos:= "slices.go:144",after:= #[{on:=0,ground:=Ground.data},{on:=1,ground:=Ground.data}],guard:=none}] false
def qil (t it bt ut:TypeId)(ov rr:Nat):Code :=
 Code.region 7 #[{dst:=some 23,op:=Op.move (Operand.tmp 0),type:=t,pos:= "slices.go:145",after:= #[],guard:=none},{dst:=some 24,op:=Op.move (Operand.tmp 2),type:=t,pos:= "slices.go:145",after:= #[],guard:=none},{dst:=some 25,op:=Op.call {callee:=Callee.builtin Builtin.append,args:= #[Operand.tmp 23,Operand.tmp 24],argTypes:= #[t,t]},type:=t,pos:= "slices.go:145",after:= #[{on:=0,ground:=Ground.data},{on:=1,ground:=Ground.data}],guard:=none},{dst:=some 6,op:=Op.assign (Operand.tmp 25),type:=t,pos:= "slices.go:145",after:= #[{on:=2,ground:=Ground.data},{on:=2,ground:=Ground.chain},{on:=0,ground:=Ground.phase},{on:=1,ground:=Ground.phase},{on:=2,ground:=Ground.phase}],guard:=none}] false
def zys (t it bt ut:TypeId)(ov rr:Nat):List Oper :=
 [{dst:=some 26,op:=Op.move (Operand.tmp 8),type:=it,pos:= "slices.go:147",after:= #[],guard:=none},{dst:=some 27,op:=Op.move (Operand.tmp 7),type:=it,pos:= "slices.go:147",after:= #[],guard:=none},{dst:=some 28,op:=Op.binOp BinOp.add it (Operand.tmp 26) (Operand.tmp 27) it,type:=it,pos:= "slices.go:147",after:= #[{on:=0,ground:=Ground.data},{on:=1,ground:=Ground.data}],guard:=none},{dst:=some 29,op:=Op.move (Operand.tmp 0),type:=t,pos:= "slices.go:147",after:= #[],guard:=none}]
def z7r (t it bt ut:TypeId)(ov rr:Nat):Oper :=
 {dst:=some 30,op:=Op.call {callee:=Callee.builtin Builtin.cap,args:= #[Operand.tmp 29],argTypes:= #[t]},type:=it,pos:= "slices.go:147",after:= #[{on:=3,ground:=Ground.data}],guard:=none}
def zsn (t it bt ut:TypeId)(ov rr:Nat):List Oper :=
 [{dst:=some 31,op:=Op.binOp BinOp.gtr it (Operand.tmp 28) (Operand.tmp 30) it,type:=bt,pos:= "slices.go:147",after:= #[{on:=2,ground:=Ground.data},{on:=4,ground:=Ground.data}],guard:=none}]
def qik (t it bt ut:TypeId)(ov rr:Nat):Code:=Code.region 8 (zys t it bt ut ov rr++z7r t it bt ut ov rr::zsn t it bt ut ov rr).toArray false
def zyr (t it bt ut:TypeId)(ov rr:Nat):List Oper :=
 [{dst:=some 32,op:=Op.move (Operand.tmp 0),type:=t,pos:= "slices.go:152",after:= #[],guard:=none},{dst:=some 33,op:=Op.move (Operand.tmp 1),type:=it,pos:= "slices.go:152",after:= #[],guard:=none},{dst:=some 34,op:=Op.slice t (Operand.tmp 32) none (some (Operand.tmp 33)) none,type:=t,pos:= "slices.go:152",after:= #[{on:=0,ground:=Ground.data},{on:=1,ground:=Ground.data}],guard:=none},{dst:=some 35,op:=Op.move (Operand.tmp 8),type:=it,pos:= "slices.go:152",after:= #[],guard:=none},{dst:=some 36,op:=Op.move (Operand.tmp 7),type:=it,pos:= "slices.go:152",after:= #[],guard:=none},{dst:=some 37,op:=Op.binOp BinOp.add it (Operand.tmp 35) (Operand.tmp 36) it,type:=it,pos:= "slices.go:152",after:= #[{on:=3,ground:=Ground.data},{on:=4,ground:=Ground.data}],guard:=none},{dst:=some 38,op:=Op.move (Operand.tmp 1),type:=it,pos:= "slices.go:152",after:= #[],guard:=none},{dst:=some 39,op:=Op.binOp BinOp.sub it (Operand.tmp 37) (Operand.tmp 38) it,type:=it,pos:= "slices.go:152",after:= #[{on:=5,ground:=Ground.data},{on:=6,ground:=Ground.data}],guard:=none}]
def z7q (t it bt ut:TypeId)(ov rr:Nat):Oper :=
 {dst:=some 40,op:=Op.call {callee:=Callee.builtin Builtin.append,args:= #[Operand.tmp 34,Operand.tmp 39],argTypes:= #[t,it]},type:=t,pos:= "slices.go:152",after:= #[{on:=2,ground:=Ground.data},{on:=7,ground:=Ground.data}],guard:=none}
def zyq (t it bt ut:TypeId)(ov rr:Nat):List Oper :=
 [{dst:=some 9,op:=Op.assign (Operand.tmp 40),type:=t,pos:= "slices.go:152",after:= #[{on:=8,ground:=Ground.data},{on:=8,ground:=Ground.chain},{on:=0,ground:=Ground.phase},{on:=1,ground:=Ground.phase},{on:=2,ground:=Ground.phase},{on:=3,ground:=Ground.phase},{on:=4,ground:=Ground.phase},{on:=5,ground:=Ground.phase},{on:=6,ground:=Ground.phase},{on:=7,ground:=Ground.phase},{on:=8,ground:=Ground.phase}],guard:=none}]
def qij (t it bt ut:TypeId)(ov rr:Nat):Code:=Code.region 9 (zyr t it bt ut ov rr++z7q t it bt ut ov rr::zyq t it bt ut ov rr).toArray false
def qad (t it bt ut:TypeId)(ov rr:Nat):Code :=
 Code.region 10 #[{dst:=some 41,op:=Op.move (Operand.tmp 9),type:=t,pos:= "slices.go:153",after:= #[],guard:=none},{dst:=some 42,op:=Op.move (Operand.tmp 1),type:=it,pos:= "slices.go:153",after:= #[],guard:=none},{dst:=some 43,op:=Op.slice t (Operand.tmp 41) (some (Operand.tmp 42)) none none,type:=t,pos:= "slices.go:153",after:= #[{on:=0,ground:=Ground.data},{on:=1,ground:=Ground.data}],guard:=none},{dst:=some 44,op:=Op.move (Operand.tmp 2),type:=t,pos:= "slices.go:153",after:= #[],guard:=none},{dst:=some 45,op:=Op.call {callee:=Callee.builtin Builtin.copy,args:= #[Operand.tmp 43,Operand.tmp 44],argTypes:= #[t,t]},type:=it,pos:= "slices.go:153",after:= #[{on:=2,ground:=Ground.data},{on:=3,ground:=Ground.data}],guard:=none}] false
def qac (t it bt ut:TypeId)(ov rr:Nat):Code :=
 Code.region 11 #[{dst:=some 46,op:=Op.move (Operand.tmp 9),type:=t,pos:= "slices.go:154",after:= #[],guard:=none},{dst:=some 47,op:=Op.move (Operand.tmp 1),type:=it,pos:= "slices.go:154",after:= #[],guard:=none},{dst:=some 48,op:=Op.move (Operand.tmp 7),type:=it,pos:= "slices.go:154",after:= #[],guard:=none},{dst:=some 49,op:=Op.binOp BinOp.add it (Operand.tmp 47) (Operand.tmp 48) it,type:=it,pos:= "slices.go:154",after:= #[{on:=1,ground:=Ground.data},{on:=2,ground:=Ground.data}],guard:=none},{dst:=some 50,op:=Op.slice t (Operand.tmp 46) (some (Operand.tmp 49)) none none,type:=t,pos:= "slices.go:154",after:= #[{on:=0,ground:=Ground.data},{on:=3,ground:=Ground.data}],guard:=none},{dst:=some 51,op:=Op.move (Operand.tmp 0),type:=t,pos:= "slices.go:154",after:= #[],guard:=none},{dst:=some 52,op:=Op.move (Operand.tmp 1),type:=it,pos:= "slices.go:154",after:= #[],guard:=none},{dst:=some 53,op:=Op.slice t (Operand.tmp 51) (some (Operand.tmp 52)) none none,type:=t,pos:= "slices.go:154",after:= #[{on:=5,ground:=Ground.data},{on:=6,ground:=Ground.data}],guard:=none},{dst:=some 54,op:=Op.call {callee:=Callee.builtin Builtin.copy,args:= #[Operand.tmp 50,Operand.tmp 53],argTypes:= #[t,t]},type:=it,pos:= "slices.go:154",after:= #[{on:=4,ground:=Ground.data},{on:=7,ground:=Ground.data}],guard:=none}] true
def qab (t it bt ut:TypeId)(ov rr:Nat):Code :=
 Code.region 12 #[{dst:=some 55,op:=Op.move (Operand.tmp 9),type:=t,pos:= "slices.go:155",after:= #[],guard:=none},{dst:=some 6,op:=Op.assign (Operand.tmp 55),type:=t,pos:= "slices.go:155",after:= #[{on:=0,ground:=Ground.data},{on:=0,ground:=Ground.phase}],guard:=none}] false
def zod (t it bt ut:TypeId)(ov rr:Nat):List Oper :=
 [{dst:=some 56,op:=Op.move (Operand.tmp 0),type:=t,pos:= "slices.go:157",after:= #[],guard:=none},{dst:=some 57,op:=Op.move (Operand.tmp 8),type:=it,pos:= "slices.go:157",after:= #[],guard:=none},{dst:=some 58,op:=Op.move (Operand.tmp 7),type:=it,pos:= "slices.go:157",after:= #[],guard:=none},{dst:=some 59,op:=Op.binOp BinOp.add it (Operand.tmp 57) (Operand.tmp 58) it,type:=it,pos:= "slices.go:157",after:= #[{on:=1,ground:=Ground.data},{on:=2,ground:=Ground.data}],guard:=none}]
def zws (t it bt ut:TypeId)(ov rr:Nat):Oper :=
 {dst:=some 60,op:=Op.slice t (Operand.tmp 56) none (some (Operand.tmp 59)) none,type:=t,pos:= "slices.go:157",after:= #[{on:=0,ground:=Ground.data},{on:=3,ground:=Ground.data}],guard:=none}
def zob (t it bt ut:TypeId)(ov rr:Nat):List Oper :=
 [{dst:=some 0,op:=Op.assign (Operand.tmp 60),type:=t,pos:= "slices.go:157",after:= #[{on:=4,ground:=Ground.data},{on:=0,ground:=Ground.phase},{on:=1,ground:=Ground.phase},{on:=2,ground:=Ground.phase},{on:=3,ground:=Ground.phase},{on:=4,ground:=Ground.phase}],guard:=none}]
def qaa (t it bt ut:TypeId)(ov rr:Nat):Code:=Code.region 13 (zod t it bt ut ov rr++zws t it bt ut ov rr::zob t it bt ut ov rr).toArray false
def zoc (t it bt ut:TypeId)(ov rr:Nat):List Oper :=
 [{dst:=some 61,op:=Op.move (Operand.tmp 2),type:=t,pos:= "slices.go:173",after:= #[],guard:=none},{dst:=some 62,op:=Op.move (Operand.tmp 0),type:=t,pos:= "slices.go:173",after:= #[],guard:=none},{dst:=some 63,op:=Op.move (Operand.tmp 1),type:=it,pos:= "slices.go:173",after:= #[],guard:=none},{dst:=some 64,op:=Op.move (Operand.tmp 7),type:=it,pos:= "slices.go:173",after:= #[],guard:=none},{dst:=some 65,op:=Op.binOp BinOp.add it (Operand.tmp 63) (Operand.tmp 64) it,type:=it,pos:= "slices.go:173",after:= #[{on:=2,ground:=Ground.data},{on:=3,ground:=Ground.data}],guard:=none},{dst:=some 66,op:=Op.slice t (Operand.tmp 62) (some (Operand.tmp 65)) none none,type:=t,pos:= "slices.go:173",after:= #[{on:=1,ground:=Ground.data},{on:=4,ground:=Ground.data}],guard:=none}]
def zwr (t it bt ut:TypeId)(ov rr:Nat):Oper :=
 {dst:=some 67,op:=Op.call {callee:=Callee.value (Operand.func ov),args:= #[Operand.tmp 61,Operand.tmp 66],argTypes:= #[t,t]},type:=bt,pos:= "slices.go:173",after:= #[{on:=0,ground:=Ground.data},{on:=5,ground:=Ground.data}],guard:=none}
def zoa (t it bt ut:TypeId)(ov rr:Nat):List Oper :=
 [{dst:=some 68,op:=Op.unOp UnOp.not bt (Operand.tmp 67),type:=bt,pos:= "slices.go:173",after:= #[{on:=6,ground:=Ground.data}],guard:=none}]
def z99 (t it bt ut:TypeId)(ov rr:Nat):Code:=Code.region 14 (zoc t it bt ut ov rr++zwr t it bt ut ov rr::zoa t it bt ut ov rr).toArray false
def z98 (t it bt ut:TypeId)(ov rr:Nat):Code :=
 Code.region 15 #[{dst:=some 69,op:=Op.move (Operand.tmp 0),type:=t,pos:= "slices.go:178",after:= #[],guard:=none},{dst:=some 70,op:=Op.move (Operand.tmp 1),type:=it,pos:= "slices.go:178",after:= #[],guard:=none},{dst:=some 71,op:=Op.move (Operand.tmp 7),type:=it,pos:= "slices.go:178",after:= #[],guard:=none},{dst:=some 72,op:=Op.binOp BinOp.add it (Operand.tmp 70) (Operand.tmp 71) it,type:=it,pos:= "slices.go:178",after:= #[{on:=1,ground:=Ground.data},{on:=2,ground:=Ground.data}],guard:=none},{dst:=some 73,op:=Op.slice t (Operand.tmp 69) (some (Operand.tmp 72)) none none,type:=t,pos:= "slices.go:178",after:= #[{on:=0,ground:=Ground.data},{on:=3,ground:=Ground.data}],guard:=none},{dst:=some 74,op:=Op.move (Operand.tmp 0),type:=t,pos:= "slices.go:178",after:= #[],guard:=none},{dst:=some 75,op:=Op.move (Operand.tmp 1),type:=it,pos:= "slices.go:178",after:= #[],guard:=none},{dst:=some 76,op:=Op.slice t (Operand.tmp 74) (some (Operand.tmp 75)) none none,type:=t,pos:= "slices.go:178",after:= #[{on:=5,ground:=Ground.data},{on:=6,ground:=Ground.data}],guard:=none},{dst:=some 77,op:=Op.call {callee:=Callee.builtin Builtin.copy,args:= #[Operand.tmp 73,Operand.tmp 76],argTypes:= #[t,t]},type:=it,pos:= "slices.go:178",after:= #[{on:=4,ground:=Ground.data},{on:=7,ground:=Ground.data}],guard:=none}] true
def z97 (t it bt ut:TypeId)(ov rr:Nat):Code :=
 Code.region 16 #[{dst:=some 78,op:=Op.move (Operand.tmp 0),type:=t,pos:= "slices.go:186",after:= #[],guard:=none},{dst:=some 79,op:=Op.move (Operand.tmp 1),type:=it,pos:= "slices.go:186",after:= #[],guard:=none},{dst:=some 80,op:=Op.slice t (Operand.tmp 78) (some (Operand.tmp 79)) none none,type:=t,pos:= "slices.go:186",after:= #[{on:=0,ground:=Ground.data},{on:=1,ground:=Ground.data}],guard:=none},{dst:=some 81,op:=Op.move (Operand.tmp 2),type:=t,pos:= "slices.go:186",after:= #[],guard:=none},{dst:=some 82,op:=Op.call {callee:=Callee.builtin Builtin.copy,args:= #[Operand.tmp 80,Operand.tmp 81],argTypes:= #[t,t]},type:=it,pos:= "slices.go:186",after:= #[{on:=2,ground:=Ground.data},{on:=3,ground:=Ground.data}],guard:=none}] false
def z96 (t it bt ut:TypeId)(ov rr:Nat):Code :=
 Code.region 17 #[{dst:=some 83,op:=Op.move (Operand.tmp 0),type:=t,pos:= "slices.go:193",after:= #[],guard:=none},{dst:=some 6,op:=Op.assign (Operand.tmp 83),type:=t,pos:= "slices.go:193",after:= #[{on:=0,ground:=Ground.data},{on:=0,ground:=Ground.phase}],guard:=none}] false
def qit (t it bt ut:TypeId)(ov rr:Nat):Code :=
 Code.region 18 #[{dst:=some 84,op:=Op.move (Operand.tmp 0),type:=t,pos:= "slices.go:200",after:= #[],guard:=none},{dst:=some 85,op:=Op.move (Operand.tmp 8),type:=it,pos:= "slices.go:200",after:= #[],guard:=none},{dst:=some 86,op:=Op.slice t (Operand.tmp 84) (some (Operand.tmp 85)) none none,type:=t,pos:= "slices.go:200",after:= #[{on:=0,ground:=Ground.data},{on:=1,ground:=Ground.data}],guard:=none},{dst:=some 87,op:=Op.move (Operand.tmp 2),type:=t,pos:= "slices.go:200",after:= #[],guard:=none},{dst:=some 88,op:=Op.call {callee:=Callee.builtin Builtin.copy,args:= #[Operand.tmp 86,Operand.tmp 87],argTypes:= #[t,t]},type:=it,pos:= "slices.go:200",after:= #[{on:=2,ground:=Ground.data},{on:=3,ground:=Ground.data}],guard:=none}] false
def qis (t it bt ut:TypeId)(ov rr:Nat):Code :=
 Code.region 19 #[{dst:=some 89,op:=Op.move (Operand.tmp 0),type:=t,pos:= "slices.go:207",after:= #[],guard:=none},{dst:=some 90,op:=Op.move (Operand.tmp 1),type:=it,pos:= "slices.go:207",after:= #[],guard:=none},{dst:=some 91,op:=Op.slice t (Operand.tmp 89) (some (Operand.tmp 90)) none none,type:=t,pos:= "slices.go:207",after:= #[{on:=0,ground:=Ground.data},{on:=1,ground:=Ground.data}],guard:=none},{dst:=some 92,op:=Op.move (Operand.tmp 7),type:=it,pos:= "slices.go:207",after:= #[],guard:=none},{dst:=some 93,op:=Op.call {callee:=Callee.value (Operand.func rr),args:= #[Operand.tmp 91,Operand.tmp 92],argTypes:= #[t,it]},type:=ut,pos:= "slices.go:207",after:= #[{on:=2,ground:=Ground.data},{on:=3,ground:=Ground.data}],guard:=none}] false
def qiq (t it bt ut:TypeId)(ov rr:Nat):Code :=
 Code.region 20 #[{dst:=some 94,op:=Op.move (Operand.tmp 0),type:=t,pos:= "slices.go:214",after:= #[],guard:=none},{dst:=some 6,op:=Op.assign (Operand.tmp 94),type:=t,pos:= "slices.go:214",after:= #[{on:=0,ground:=Ground.data},{on:=0,ground:=Ground.phase}],guard:=none}] false
section
variable (t it bt ut:TypeId) (ov rr:Nat)
def qii :Code:=Code.seq (qip t it bt ut ov rr) (Code.cond (Operand.tmp 16) (Code.seq (qio t it bt ut ov rr) Code.ret) Code.skip)
def qih :Code:=Code.seq (qim t it bt ut ov rr) (Code.cond (Operand.tmp 22) (Code.seq (qil t it bt ut ov rr) Code.ret) Code.skip)
def zwq :List Code:=[qiv t it bt ut ov rr,qiu t it bt ut ov rr,qir t it bt ut ov rr,qii t it bt ut ov rr,qin t it bt ut ov rr,qih t it bt ut ov rr]
def zwp :Code:=Code.seq (qad t it bt ut ov rr) (Code.seq (qac t it bt ut ov rr) (Code.seq (qab t it bt ut ov rr) Code.ret))
def zwo :Code:=Code.seq (z98 t it bt ut ov rr) (Code.seq (z97 t it bt ut ov rr) (Code.seq (z96 t it bt ut ov rr) Code.ret))
def insJ :Code:=Code.seq (qit t it bt ut ov rr) (Code.seq (qis t it bt ut ov rr) (Code.seq (qiq t it bt ut ov rr) Code.ret))
def insC :Code:=seqs (zwq t it bt ut ov rr) (Code.seq (Code.seq (qik t it bt ut ov rr) (Code.cond (Operand.tmp 31) (Code.seq (qij t it bt ut ov rr) (zwp t it bt ut ov rr)) Code.skip))
 (Code.seq (qaa t it bt ut ov rr) (Code.seq (Code.seq (z99 t it bt ut ov rr) (Code.cond (Operand.tmp 68) (zwo t it bt ut ov rr) Code.skip)) (insJ t it bt ut ov rr))))
end
section
variable (sh :Sh) (z:AV) (g sz:Nat)
def inM3 :MC:=.seq (.reg (.op (some 15) (.mov (.t 7)) (.op (some 16) (.bin .eql (.t 15) (.c (.int .i64 0))) .nil))) (.cond (.t 16) (.seq (.reg (.op (some 17) (.mov (.t 0)) (.op (some 6) (.mov (.t 17)) .nil))) .ret) .skip)
def inM6 :MC:=.seq (.reg (.op (some 20) (.mov (.t 1)) (.op (some 21) (.mov (.t 8)) (.op (some 22) (.bin .eql (.t 20) (.t 21)) .nil))))
 (.cond (.t 22) (.seq (.reg (.op (some 23) (.mov (.t 0)) (.op (some 24) (.mov (.t 2)) (.op (some 25) (.append sh g (.t 23) (.t 24)) (.op (some 6) (.mov (.t 25)) .nil))))) .ret) .skip)
def zsp :List MC:=[.reg (.op (some 6) (.mov (.c (.lst true .sc []))) .nil),
 .reg (.op (some 10) (.mov (.t 0)) (.op (some 11) (.mov (.t 1)) (.op (some 12) (.slSl sz (.t 10) (some (.t 11)) none none) .nil))),
 .reg (.op (some 13) (.mov (.t 2)) (.op (some 14) (.len false (.t 13)) (.op (some 7) (.mov (.t 14)) .nil))),inM3,
 .reg (.op (some 18) (.mov (.t 0)) (.op (some 19) (.len false (.t 18)) (.op (some 8) (.mov (.t 19)) .nil))),inM6 sh g]
def inA8 :List MOp:=[.mov (.t 8),.mov (.t 7),.bin .add (.t 26) (.t 27),.mov (.t 0)]
def inB8 :List MOp:=[.bin .gtr (.t 28) (.t 30)]
def inA9 :List MOp:=[.mov (.t 0),.mov (.t 1),.slSl sz (.t 32) none (some (.t 33)) none,.mov (.t 8),.mov (.t 7),.bin .add (.t 35) (.t 36),.mov (.t 1),.bin .sub (.t 37) (.t 38)]
def inB9 :List MOp:=[.mov (.t 40)]
def qdr :MC:=.seq (.reg (.op (some 41) (.mov (.t 9)) (.op (some 42) (.mov (.t 1)) (.op (some 43) (.slSl sz (.t 41) (some (.t 42)) none none) (.op (some 44) (.mov (.t 2)) (.op (some 45) (.copy sh (.t 43) (.t 44)) .nil))))))
 (.seq (.draw [⟨(some 46),(.mov (.t 9)),none⟩,⟨(some 47),(.mov (.t 1)),none⟩,⟨(some 48),(.mov (.t 7)),none⟩,⟨(some 49),(.bin .add (.t 47) (.t 48)),none⟩,⟨(some 50),(.slSl sz (.t 46) (some (.t 49)) none none),none⟩,⟨(some 51),(.mov (.t 0)),none⟩,⟨(some 52),(.mov (.t 1)),none⟩,⟨(some 53),(.slSl sz (.t 51) (some (.t 52)) none none),none⟩,⟨(some 54),(.copy sh (.t 50) (.t 53)),none⟩] [])
 (.seq (.reg (.op (some 55) (.mov (.t 9)) (.op (some 6) (.mov (.t 55)) .nil))) .ret))
def qdt :List MOp:=[.mov (.t 0),.mov (.t 8),.mov (.t 7),.bin .add (.t 57) (.t 58)]
def qlb :List MOp:=[.mov (.t 60)]
def qds :List MOp:=[.mov (.t 2),.mov (.t 0),.mov (.t 1),.mov (.t 7),.bin .add (.t 63) (.t 64),.slSl sz (.t 62) (some (.t 65)) none none]
def qla :List MOp:=[.un .not (.t 67)]
def qdq :MC:=.seq (.draw [⟨(some 69),(.mov (.t 0)),none⟩,⟨(some 70),(.mov (.t 1)),none⟩,⟨(some 71),(.mov (.t 7)),none⟩,⟨(some 72),(.bin .add (.t 70) (.t 71)),none⟩,⟨(some 73),(.slSl sz (.t 69) (some (.t 72)) none none),none⟩,⟨(some 74),(.mov (.t 0)),none⟩,⟨(some 75),(.mov (.t 1)),none⟩,⟨(some 76),(.slSl sz (.t 74) (some (.t 75)) none none),none⟩,⟨(some 77),(.copy sh (.t 73) (.t 76)),none⟩] [])
 (.seq (.reg (.op (some 78) (.mov (.t 0)) (.op (some 79) (.mov (.t 1)) (.op (some 80) (.slSl sz (.t 78) (some (.t 79)) none none) (.op (some 81) (.mov (.t 2)) (.op (some 82) (.copy sh (.t 80) (.t 81)) .nil))))))
 (.seq (.reg (.op (some 83) (.mov (.t 0)) (.op (some 6) (.mov (.t 83)) .nil))) .ret))
end
def imN :Im:=fun _=>false
structure InsOk (P:Program)(t it bt ut e:TypeId)(ov rr:Nat)(sh:Sh)(z:AV)(g sz:Nat):Prop where
 pre:mapO (comp P ⟨[],[],[],[]⟩ 1000000) (zwq t it bt ut ov rr)=some (zsp sh g sz)
 o8:mapO (zan P imN) (zys t it bt ut ov rr)=some inA8
 b8:mapO (zan P imN) (zsn t it bt ut ov rr)=some inB8
 o9:mapO (zan P imN) (zyr t it bt ut ov rr)=some (inA9 sz)
 b9:mapO (zan P imN) (zyq t it bt ut ov rr)=some inB9
 s10:comp P ⟨[],[],[],[]⟩ 1000000 (zwp t it bt ut ov rr)=some (qdr sh sz)
 o13:mapO (zan P imN) (zod t it bt ut ov rr)=some qdt
 b13:mapO (zan P imN) (zob t it bt ut ov rr)=some qlb
 o14:mapO (zan P imN) (zoc t it bt ut ov rr)=some (qds sz)
 b14:mapO (zan P imN) (zoa t it bt ut ov rr)=some qla
 s15:comp P ⟨[],[],[],[]⟩ 1000000 (zwo t it bt ut ov rr)=some (qdq sh sz)
 ht:P.underlying t=some (.slice e)
 hit:P.underlying it=some (.int .i64)
 hz:zej P e=some (sh,z)
 hi:(P.info? e).map (fun i=>(i.bytes,i.size))=some (g,sz)
 hg:g<=1024
 hsz:sz=sh.size/\0<sz
 hsc:(match sh with| .sc=>false|_=>true)=true
 hov:∃fo,P.funcs[ov]? =some fo/\(fo.name== "runtime.NumGoroutine")=false/\fo.body.isNone=true/\Extern.findNext fo=none/\Extern.find fo=some (Extern.SlicesOverlaps.overlaps #[t,t] #[bt])
end Go.Ev
namespace Go.Ev
open Go
variable {gl :Gl} {cl:Cl} {sh:Sh} {z:AV} {g sz:Nat} {els:List AV} {x:AV} {i:Nat}
def inH (sh:Sh)(els:List AV)(x:AV):Hp:=[(100000,.grow sh els),(100001,.grow sh [x])]
def inS0 (sh:Sh)(els:List AV)(x:AV)(i:Nat):St:={fr:=frOf 0 [.sl 100000 [] 0 els.length,.int .i64 i,.sl 100001 [] 0 1],hp:=inH sh els x}
def inS1 (sh:Sh)(els:List AV)(x:AV)(i:Nat):St :=
 {fr:=[.set 0 (.sl 100000 [] 0 els.length),.set 1 (.int .i64 i),.set 2 (.sl 100001 [] 0 1),.set 7 (.int .i64 1),.set 8 (.int .i64 els.length)],hp:=inH sh els x}
theorem wI {a:Int}(h0:0<=a)(h:a<=2^40):IntKind.wrap .i64 a=a:=by simp[IntKind.wrap,IntKind.bits,IntKind.signed];omega
theorem zyo (hsz:sz=sh.size)(hi:i<els.length)(hl:els.length+1<=LIM) :
  ∃st',zs6 gl cl (zsp sh g sz) (inS0 sh els x i)=some (.norm,st')/\{fr:=zc2 st'.fr [0,1,2,7,8],hp:=st'.hp:St}=inS1 sh els x i:=by
 have h1:i<=els.length:=Nat.le_of_lt hi
 have h2:((i:Int)==(els.length:Int))=false:=by simp;omega
 subst hsz
 have h3:((1:Int)==0)=false:=rfl
 simp[zsp,inM3,inM6,inS0,inS1,inH,frOf,zs6,evC,zbz,zaa,Opd.val,Fr.get,St.upd,Fr.upd,Hp.get,Sh.sub,bnds,h1,h2,h3,zgu,zar,zc2]
theorem zyp (hsz:sz=sh.size)(hg:g<=1024)(hl:els.length+1<=LIM) :
  ∃st',zs6 gl cl (zsp sh g sz) (inS0 sh els x els.length)=some (.ret,st')/\{fr:=zc2 st'.fr [6],hp:=st'.hp:St}={fr:=[.set 6 (.sl 25 [] 0 (els.length+1))],hp:=(100000,.dead)::(25,.grow sh (els++[x]))::inH sh els x}:=by
 subst hsz
 have h3:((1:Int)==0)=false:=rfl
 simp[zsp,inM3,inM6,inS0,inS1,inH,frOf,zs6,evC,zbz,zaa,Opd.val,Fr.get,St.upd,Fr.upd,Hp.get,Sh.sub,bnds,h3,zgu,zar,zc2,za6,sub,Sh.beq_refl,hg,hl]
section
variable {t it bt ut:TypeId} {ov rr:Nat}
theorem qie (hl:els.length+1<=LIM):∃st',zbz gl cl (zjd (((zys t it bt ut ov rr).zip inA8).map fun q=>(q.1.dst,q.2))) (inS1 sh els x i)=some st' /\
  {fr:=zc2 st'.fr [0,1,2,7,8,28,29],hp:=st'.hp:St}={fr:=(inS1 sh els x i).fr++[.set 28 (.int .i64 ((els.length:Int)+1)),.set 29 (.sl 100000 [] 0 els.length)],hp:=inH sh els x}:=by
 have h1:IntKind.wrap .i64 ((els.length:Int)+1)=(els.length:Int)+1:=wI (by omega) (by simp only[LIM]at hl;omega)
 simp[zys,inA8,zjd,zbz,zaa,Opd.val,Fr.get,St.upd,Fr.upd,zgu,zar,inS1,zc2,h1]
theorem qid (hi:i<els.length)(hsz:sz=sh.size)(hl:els.length+1<=LIM):∃st',zbz gl cl (zjd (((zyr t it bt ut ov rr).zip (inA9 sz)).map fun q=>(q.1.dst,q.2))) (inS1 sh els x i)=some st' /\
  {fr:=zc2 st'.fr [0,1,2,7,34,39],hp:=st'.hp:St} =
   {fr:=[.set 0 (.sl 100000 [] 0 els.length),.set 1 (.int .i64 i),.set 2 (.sl 100001 [] 0 1),.set 7 (.int .i64 1),.set 34 (.sl 100000 [] 0 i),.set 39 (.int .i64 ((els.length+1-i:Nat):Int))],hp:=inH sh els x}:=by
 have h1:IntKind.wrap .i64 ((els.length:Int)+1)=(els.length:Int)+1:=wI (by omega) (by simp only[LIM]at hl;omega)
 have h2:IntKind.wrap .i64 ((els.length:Int)+1-i)=((els.length+1-i:Nat):Int):=by rw[wI (by omega) (by simp only[LIM]at hl;omega)];omega
 have h3:i<=els.length:=by omega
 subst hsz
 simp[zyr,inA9,zjd,zbz,zaa,Opd.val,Fr.get,St.upd,Fr.upd,zgu,zar,inS1,inH,Hp.get,bnds,zc2,h1,h2,h3]
theorem qdn (hl:els.length+1<=LIM):∃st',zbz gl cl (zjd (((zod t it bt ut ov rr).zip qdt).map fun q=>(q.1.dst,q.2))) (inS1 sh els x i)=some st' /\
  {fr:=zc2 st'.fr [1,2,7,56,59],hp:=st'.hp:St} =
   {fr:=[.set 1 (.int .i64 i),.set 2 (.sl 100001 [] 0 1),.set 7 (.int .i64 1),.set 56 (.sl 100000 [] 0 els.length),.set 59 (.int .i64 ((els.length:Int)+1))],hp:=inH sh els x}:=by
 have h1:IntKind.wrap .i64 ((els.length:Int)+1)=(els.length:Int)+1:=wI (by omega) (by simp only[LIM]at hl;omega)
 simp[zod,qdt,zjd,zbz,zaa,Opd.val,Fr.get,St.upd,Fr.upd,zgu,zar,inS1,zc2,h1]
def zso (sh:Sh)(els:List AV)(x:AV)(i:Nat):St :=
 {fr:=[.set 0 (.sl 100000 [] 0 (els.length+1)),.set 1 (.int .i64 i),.set 2 (.sl 100001 [] 0 1),.set 7 (.int .i64 1)],hp:=inH sh els x}
theorem qdm (hi:i<els.length)(hsz:sz=sh.size)(hl:els.length+1<=LIM):∃st',zbz gl cl (zjd (((zoc t it bt ut ov rr).zip (qds sz)).map fun q=>(q.1.dst,q.2))) (zso sh els x i)=some st' /\
  {fr:=zc2 st'.fr [0,1,2,7,61,66],hp:=st'.hp:St}={fr:=(zso sh els x i).fr++[.set 61 (.sl 100001 [] 0 1),.set 66 (.sl 100000 [] (i+1) (els.length-i))],hp:=inH sh els x}:=by
 have h1:IntKind.wrap .i64 ((i:Int)+1)=((i+1:Nat):Int):=by rw[wI (by omega) (by simp only[LIM]at hl;omega)];rfl
 have h3:i+1<=els.length+1:=by omega
 have h4:((i:Int)+1)<=((els.length:Int)+1):=by omega
 have h5:((i:Int)+1).toNat=i+1:=by omega
 have h6:els.length+1-(i+1)=els.length-i:=by omega
 have h7:0<=(i:Int)+1:=by omega
 subst hsz
 simp[zoc,qds,zjd,zbz,zaa,Opd.val,Fr.get,St.upd,Fr.upd,zgu,zar,zso,inH,Hp.get,bnds,zc2,h1,h3,h4,h5,h6,h7]
def insL (els:List AV)(i:Nat)(x:AV):List AV:=els.take i++x::els.drop i
theorem qif (hi:i<els.length)(hsz:sz=sh.size)(hl:els.length+1<=LIM):∃st',evC gl cl (qdq sh sz) (zso sh els x i)=some (.ret,st')/\zc2 st'.fr [6]=[.set 6 (.sl 100000 [] 0 (els.length+1))] /\
  ∀k,st'.hp.get k=Hp.get ((100000,.grow sh (insL els i x))::[(100001,.grow sh [x])]) k:=by
 have h1:IntKind.wrap .i64 ((i:Int)+1)=((i+1:Nat):Int):=by rw[wI (by omega) (by simp only[LIM]at hl;omega)];rfl
 have h4:((i:Int)+1)<=((els.length:Int)+1):=by omega
 have h5:((i:Int)+1).toNat=i+1:=by omega
 have h6:els.length+1-(i+1)=els.length-i:=by omega
 have h7:0<=(i:Int)+1:=by omega
 have h8:¬(i+(els.length+1-i)<=els.length):=by omega
 have h9:min (els.length+1-i) (els.length-i)=els.length-i:=by omega
 have h10:i+1<=els.length:=by omega
 have h11:els.length<=i+1+(els.length-i):=by omega
 have h12:i+(els.length-i)<=els.length:=by omega
 have h13:0<els.length-i:=by omega
 have h14:(i:Int)<=(els.length:Int)+1:=by omega
 have h15:i+(els.length+1-i)<=min (i+1) els.length+min (els.length-i) (els.length-i):=by omega
 have h16:min 1 (els.length+1-i)=1:=by omega
 subst hsz
 have h17:i<=els.length+1:=by omega
 have h18:¬(els.length+1<=els.length):=by omega
 have h19:i+(els.length-i)=els.length:=by omega
 have h20:i+(els.length+1-i)=els.length+1:=by omega
 have h21:min (i+1) els.length=i+1:=by omega
 have h22:els.length+1<=i+1+(els.length-i):=by omega
 simp[qdq,zu3,seqK,zm0,zu5,zu4,zii,zke,zij,zj5,zbz,zaa,Opd.val,Fr.get,St.upd,Fr.upd,zgu,zar,zso,inH,Hp.get,bnds,h1,h4,h5,h6,h7,za6,h8,zfl,h9,Sh.beq_refl,h10,h11,h12,h13,h14,Sh.sub,sub,h15,h16,h17,h18,h19,h20,h21,h22,zc2]
 intro k
 have e':List.take i (List.take (i+1) els++List.take (els.length-i) (List.drop i els))++x::List.take (els.length-i) (List.drop i els)=insL els i x:=by
  have e1:List.take (els.length-i) (List.drop i els)=List.drop i els:=wL (by simp)
  have hl2:(List.take (i+1) els).length=i+1:=by rw[wF];omega
  rw[e1,wH (by omega),wD]
  simp[insL,Nat.min_eq_left]
 rw[e']
 by_cases hk:100000=k
 . simp[hk]
 . simp[hk]
def qdp (sh:Sh)(z:AV)(els:List AV)(x:AV)(i:Nat):St :=
 {fr:=[.set 0 (.sl 100000 [] 0 els.length),.set 1 (.int .i64 i),.set 2 (.sl 100001 [] 0 1),.set 7 (.int .i64 1),.set 9 (.sl 40 [] 0 (els.length+1))],hp:=(40,.grow sh (els.take i++List.replicate (els.length+1-i) z))::inH sh els x}
theorem qig (hi:i<els.length)(hsz:sz=sh.size)(hl:els.length+1<=LIM):∃st',evC gl cl (qdr sh sz) (qdp sh z els x i)=some (.ret,st')/\zc2 st'.fr [6]=[.set 6 (.sl 40 [] 0 (els.length+1))] /\
  ∀k,st'.hp.get k=Hp.get ((40,.grow sh (insL els i x))::inH sh els x) k:=by
 have h1:IntKind.wrap .i64 ((i:Int)+1)=((i+1:Nat):Int):=by rw[wI (by omega) (by simp only[LIM]at hl;omega)];rfl
 have h2:(i:Int)<=(els.length:Int)+1:=by omega
 have h3:((i:Int)+1)<=((els.length:Int)+1):=by omega
 have h4:i<=els.length:=by omega
 have h5:((i:Int)+1).toNat=i+1:=by omega
 have h6:els.length+1-(i+1)=els.length-i:=by omega
 have h7:0<=(i:Int)+1:=by omega
 have h8:i+(els.length+1-i)=els.length+1:=by omega
 have h9:min i els.length=i:=by omega
 have h10:i+(els.length-i)=els.length:=by omega
 have h11:min 1 (els.length+1-i)=1:=by omega
 have h12:i<=els.length+1:=by omega
 have h13:i+1+(els.length-i)=els.length+1:=by omega
 have h14:els.length+1-i-1=els.length-i:=by omega
 have h15:i+(1+(els.length-i))=els.length+1:=by omega
 have h16:i+(els.length-i+1)=els.length+1:=by omega
 have h17:(List.take i els).length=i:=by rw[wF];omega
 have h18:List.take i (List.take i els++List.replicate (els.length+1-i) z)=List.take i els:=by rw[wH (by omega),wD,wT]
 subst hsz
 simp[qdr,zu3,seqK,zm0,zu5,zu4,zii,zke,zij,zj5,zbz,zaa,Opd.val,Fr.get,St.upd,Fr.upd,zgu,zar,qdp,inH,Hp.get,bnds,h1,h2,h3,h4,h5,h6,h7,h8,h9,h10,za6,Sh.beq_refl,h11,h12,Sh.sub,sub,h13,h14,h15,h16,h18,zc2]
 intro k
 have e1:∀(D:List AV),List.take (i+1) (List.take i els++x::D)=List.take i els++[x]:=fun D=>by
  rw[List.take_append,h17,wD,show i+1-i=1 by omega,Nat.min_eq_right (by omega)];simp
 have e2:List.take (els.length-i) (List.take (els.length-i) (List.drop i els))=List.drop i els:=by
  rw[wD,wT];exact wL (by simp)
 have e3:List.drop (els.length+1) (List.take i els++x::List.drop (i+1) (List.take i els++List.replicate (els.length+1-i) z))=[]:=by
  apply List.drop_of_length_le
  simp[h9];omega
 by_cases hk:40=k
 . simp[hk,e1,e2,e3,insL]
 . simp[hk]
end
end Go.Ev
namespace Go.Ev
open Go
variable {P :Program} {F:Fence} {n:Nat} {gl:Gl} {cl:Cl} {L:Prop} {H:Heap} {G:Gh}
theorem zqa {hp hp':Hp}(h:∀k,hp'.get k=hp.get k){b:Nat}:Live G hp' b↔Live G hp b:=by
 simp only[Live,za0,h]
theorem z2w {hp hp':Hp}(inv:Inv H G hp)(h:∀k,hp'.get k=hp.get k):Inv H G hp' :=
 ⟨fun k o hk=>inv.obs k o (by rw[<-h];exact hk),fun k hk=>inv.out k (by rw[<-h];exact hk),
  fun k k' b r r' h1 h2 h3 h4=>inv.dist k k' b r r' h1 h2 (by simpa only[za0,h]using h3) (by simpa only[za0,h]using h4),
  fun b hb=>⟨(inv.imm b hb).1,fun hl=>(inv.imm b hb).2 ((zqa h).1 hl)⟩,fun b hb=>inv.lt b ((zqa h).1 hb)⟩
theorem qes {a a1:Act}{w w1:World}{G1:Gh}{hp hp':Hp}{st:St}(hc:Came L gl a w G hp a1 w1 G1 st)(h:∀k,hp'.get k=st.hp.get k):Came L gl a w G hp a1 w1 G1 {fr:=st.fr,hp:=hp'} :=
 ⟨hc.kept,⟨z2w hc.move.inv h,hc.move.size,hc.move.imm,hc.move.yl,hc.move.same,fun b hb=>hc.move.live b ((zqa h).1 hb),hc.move.immNew⟩,⟨z2w hc.ok.inv h,hc.ok.fr⟩,hc.size,hc.defers,hc.hand,.nil⟩
def zqi (sh:Sh)(_:Cl)(as:List AV)(imps:Hp):Option (AV×Hp×List OB) :=
 match as,imps with
 | [.sl k [] 0 m,.int .i64 i,.sl k2 [] 0 1],[(q1,.grow sh1 els),(q2,.grow sh2 [x])] =>
   if k==100000&&k2==100001&&q1==100000&&q2==100001&&Sh.beq sh sh1&&Sh.beq sh sh2&&decide (m=els.length/\0<=i/\i<=m/\m+1<=LIM)then
    some (.sl 20000 [] 0 (m+1),[(100000,.dead),(100001,.grow sh [x])],[.grow sh (insL els i.toNat x)])
   else none
 | _,_=>none
theorem zuu {fn:Func}(hres:mapO (zei P) fn.results.toList=some [.tmp 6]){sh:Sh}{els l:List AV}{x:AV}{K m:Nat}(hK:K=25\/K=40\/K=200){a a':Act}{w w':World}{G':Gh}{st':St}
  (hc:Came True gl a w G (inH sh els x) a' w' G' st') (hfr:zc2 st'.fr [6]=[.set 6 (.sl K [] 0 m)]) (hhp:∀k,st'.hp.get k=Hp.get [(100000,.dead),(100001,.grow sh [x]),(K,.grow sh l)] k) :
  ∃v,(results fn a'.tmps).run P w'= .ok v w'/\∃v1 G1,Ending.returned v= .returned v1/\Kept w w'/\Move w.heap G (inH sh els x) w'.heap G1 ([(100000,.dead),(100001,.grow sh [x])]++zcc 0 [.grow sh l]) /\
   (inH sh els x≠[]->∀q,SHK<=q->∀r,G1.reg q=some r->∃r0,G.reg q=some r0/\r0.le r)/\RepT w'.heap G1 v1 (.sl 20000 [] 0 m):=by
 have h1:=qes (zb9 [6] hc) (hp':=[(100000,.dead),(100001,.grow sh [x]),(K,.grow sh l)]) (fun k=>(hhp k).symm)
 rw[hfr]at h1
 refine qdz hres h1 (rs:=[.sl K [] 0 m]) rfl (E:=[K]) (z:=([.sl 20000 [] 0 m],[(100000,.dead),(100001,.grow sh [x])],[.grow sh l])) ?_ rfl
 rcases hK with rfl|rfl|rfl<;>simp[zft,inH,zcq,zdp,Hp.get,zk9,zdd,AV.refss,AV.refs,ze4,AV.knowns,AV.known,SHK,rAs,rA,nm,idx,zeq,getO,rOB]
theorem z21 (t it bt ut:TypeId)(ov rr:Nat):(zwq t it bt ut ov rr).all (zc4 95)=true:=by
 simp[zwq,qii,qih,qiv,qiu,qir,qip,qio,qin,qim,qil,zc4]
theorem z20 (t it bt ut:TypeId)(ov rr:Nat):zc4 95 (zwp t it bt ut ov rr)=true:=by
 simp[zwp,qad,qac,qab,zc4]
theorem z2z (t it bt ut:TypeId)(ov rr:Nat):zc4 95 (zwo t it bt ut ov rr)=true:=by
 simp[zwo,z98,z97,z96,zc4]
theorem zs9 {l:List Oper}(h:(l.all fun o=>match o.dst with|some d=>decide (d<95)|none=>true)=true){m:Nat}(hm:95<=m):∀o∈l,∀d,o.dst=some d->d<m:=fun o ho d hd=>by
 have:=wB.1 h o ho
 rw[hd]at this
 exact wP (of_decide_eq_true this) hm
theorem qca {a:Act}{w:World}{t e it bt ut:TypeId}{ov rr m c:Nat}{b:Option Addr}(ht:P.underlying t=some (.slice e))(h:a.eval (.tmp 29)= .slice b m c) :
  (execOp a.eval (z7r t it bt ut ov rr)).run P w= .ok (.value (.int .i64 c)) w:=by
 simp only[z7r,execOp,resolve,invoke,builtin,Builtin.cap_,Sem.run_bind,Sem.run_pure,Result.andThen_ok,wE,wK,wM,h,List.getElem?_toArray,List.getElem?_cons_zero,zaj ht]
 rfl
theorem qb9 {a:Act}{w:World}{t e it bt ut:TypeId}{ov rr m c k o:Nat}{info:TypeInfo}(ht:P.underlying t=some (.slice e))(hi:P.info? e=some info)(h:a.eval (.tmp 56)= .slice (some ⟨k,o,none⟩) m c)
  (h2:a.eval (.tmp 59)= .int .i64 ((m:Int)+1)) (hle:m+1<=c) :
  (execOp a.eval (zws t it bt ut ov rr)).run P w= .ok (.value (.slice (some ⟨k,o,none⟩) (m+1) c)) w:=by
 have hb:(Instr.sliceBounds true m c none (some (.int .i64 ((m:Int)+1))) none).run P w= .ok (0,m+1,c) w:=by
  simp only[Instr.sliceBounds,Sem.run_bind,Sem.run_pure,Result.andThen_ok]
  rw[zb3 (by omega) (by omega)]
  rfl
 have hs:=zd6 (lo:=none) (hi:=some (.int .i64 ((m:Int)+1))) (mx:=none) (b:=some ⟨k,o,none⟩) ht (show(P.info? e).map (·.size)=some info.size by rw[hi];rfl) hb
 have hc:¬(c=0):=by omega
 simp only[hc,if_false,wW,wR,zcp,wS,wQ]at hs
 simp only[zws,execOp,Option.map_none,wW,h,h2,Sem.run_bind,hs,Result.andThen_ok,Sem.run_pure]
theorem z56 {a:Act}{w:World}{t e it bt ut:TypeId}{ov rr:Nat}{b1 b2:Addr}{l1 c1 l2 c2:Nat}{ca cb:Array Value}{ea eb:TypeId}{fa fb:Nat×Nat}{info:TypeInfo}(ht:P.underlying t=some (.slice e))(hi:P.info? e=some info)
  (hov:∃fo,P.funcs[ov]? =some fo/\(fo.name== "runtime.NumGoroutine")=false/\fo.body.isNone=true/\Extern.findNext fo=none/\Extern.find fo=some (Extern.SlicesOverlaps.overlaps #[t,t] #[bt]))
  (h1:a.eval (.tmp 61)= .slice (some b1) l1 c1) (h2:a.eval (.tmp 66)= .slice (some b2) l2 c2) (hne:b1.block≠b2.block) (ha:w.heap[b1.block]? =some (.cells ca ea fa)) (hb:w.heap[b2.block]? =some (.cells cb eb fb))
  (hfa:fa.1=fa.2) (hcb:cb.size≠0):(execOp a.eval (zwr t it bt ut ov rr)).run P w= .ok (.value (.bool false)) w:=by
 obtain⟨fo,hfo,hnm,hbd,hfn,hfd⟩:=hov
 have hz:∀w,(Go.sizeOf e).run P w= .ok info.size w:=fun w=>za9 (by rw[hi];rfl)
 have hfz:∀o,w.frozen? ⟨b1.block,o,none⟩=false:=fun o=>by
  simp only[World.frozen?,ha,hfa,Bool.and_eq_false_iff,decide_eq_false_iff_not];omega
 have hfz1:w.frozen? b1=false:=by
  simp only[World.frozen?,ha,hfa,Bool.and_eq_false_iff,decide_eq_false_iff_not];omega
 have hr:=Lib.run_overlaps_apart (P:=P) w t bt e ht info.size hz b1 b2 l1 c1 l2 c2 hne ea eb ca.size cb.size (by simp[World.shape?,ha]) (by simp[World.shape?,hb]) hcb hfz1 (hfz _)
 have hcf:(callFunc ov #[.slice (some b1) l1 c1,.slice (some b2) l2 c2]).run P w= .ok (.value (.bool false)) w:=by
  rw[run_callFunc_extern hfo hnm hbd hfn hfd,hr];rfl
 have hef:a.eval (Operand.func ov)= .func (.func ov) #[] #[]:=rfl
 simp only[zwr,execOp,resolve,hef,Deferred.ofValue,Sem.run_bind,Sem.run_pure,Result.andThen_ok,wE,wK,wM,h1,h2,invoke,Array.empty_append,Array.append_empty,hcf]
theorem InsOk.ne {t it bt ut e:TypeId}{ov rr:Nat}{sh:Sh}{z:AV}{g sz:Nat}(ok:InsOk P t it bt ut e ov rr sh z g sz):sh≠.sc:=by
 rintro rfl
 exact absurd ok.hsc (by simp)
theorem zi1 {a a1:Act}{w w1:World}{G1:Gh}{hp:Hp}{st:St}(hc:Came True gl a w G hp a1 w1 G1 st){q b:Nat}{s:Sh}{r:Rg}(hq:SHK<=q)(h:G1.reg q=some r)(h0:G.reg q=some (.blk b s)):r= .blk b s:=by
 obtain⟨r0,h1,h2⟩:=hc.hand trivial q hq r h
 rw[h0]at h1;cases h1
 exact h2
theorem zv5 {a a1:Act}{w w1:World}{G1:Gh}{hp:Hp}{st:St}(hc:Came True gl a w G hp a1 w1 G1 st){q b:Nat}{s:Sh}(hq:SHK<=q)(h:G1.reg q=some (.blk b s)):G.reg q=some (.blk b s):=by
 obtain⟨r0,h1,h2⟩:=hc.hand trivial q hq _ h
 cases r0 with
 | nil=>cases h2
 | blk b' s'=>cases h2;exact h1
 | env X=>obtain⟨_,h2⟩:=h2;cases h2
theorem qg5 {a:Act}{w w':World}{t it bt ut:TypeId}{ov rr:Nat}{v1 v2 r:Value}(h1:a.eval (.tmp 34)=v1)(h2:a.eval (.tmp 39)=v2)(h:(Builtin.append_ #[t,it] t #[v1,v2]).run P w= .ok r w') :
  (execOp a.eval (z7q t it bt ut ov rr)).run P w= .ok (.value r) w':=by
 simp only[z7q,execOp,resolve,invoke,builtin,Sem.run_bind,Sem.run_pure,Result.andThen_ok,wE,wK,wM,h1,h2,h]
theorem z2y {f:Nat}{fn:Func}{t it bt ut e:TypeId}{ov rr:Nat}{sh:Sh}{z:AV}{g sz:Nat}(hmix:P.follows .mixedOrders=true)(hfn:P.funcs[f]? =some fn)(hname:(fn.name== "runtime.NumGoroutine")=false)
  (hbody:fn.body=some (insC t it bt ut ov rr)) (hres:mapO (zei P) fn.results.toList=some [.tmp 6]) (hn:95<=fn.ntmps) (ok:InsOk P t it bt ut e ov rr sh z g sz):qfd P f (zqi sh):=by
 intro gl cl hcall f' as imps r os es h
 have hF:∀f,Fence.wide.fn f:=fun _=>trivial
 simp only[wV]at h
 obtain⟨rfl,h⟩:=h
 unfold zqi at h
 split at h
 case h_2=>cases h
 rename_i k m i k2 q1 sh1 els q2 sh2 x
 rw[wV]at h
 obtain⟨hc0,h⟩:=h
 cases h
 simp only[Bool.and_eq_true,beq_iff_eq,decide_eq_true_eq]at hc0
 obtain⟨⟨⟨⟨⟨⟨rfl,rfl⟩,rfl⟩,rfl⟩,hb1⟩,hb2⟩,rfl,hi0,him,hlim⟩:=hc0
 obtain rfl:=Sh.beq_eq hb1
 obtain rfl:=Sh.beq_eq hb2
 obtain⟨j,rfl⟩:∃j:Nat,i=(j:Int):=⟨i.toNat,by omega⟩
 have hj:j<=els.length:=by omega
 rw[Int.toNat_natCast]
 obtain⟨hszE,hszP⟩:=ok.hsz
 obtain⟨info,hinfo,hginfo⟩:∃info,P.info? e=some info/\(info.bytes,info.size)=(g,sz):=by
  have:=ok.hi
  rw[Option.map_eq_some_iff]at this
  exact this
 obtain⟨rfl,rfl⟩:=Prod.mk.inj hginfo
 refine⟨⟨fn,hfn,hname,by simp[hbody]⟩,fun n w vs G inv hg hlen hrep=> ?_⟩
 have S:Setting P Fence.wide n gl cl:=⟨hmix,zdq hF rfl hcall n,zcv (zdq (fun _=>trivial) rfl hcall n),hF⟩
 have hst:StOk w.heap G (inS0 sh els x j) (vs++Array.replicate (fn.ntmps-vs.size) undef):=zxb inv hlen hrep
 have hN:95<=(vs++Array.replicate (fn.ntmps-vs.size) undef).size:=by simp;omega
 refine callsIn_of_wp hfn hbody (hF _) ?_ rfl
 by_cases hjn:j=els.length
 ·
  subst hjn
  obtain⟨st1,hev,hst1⟩:=zyp (gl:=gl) (cl:=cl) (sh:=sh) (els:=els) (x:=x) hszE ok.hg hlim
  refine zty (L:=True) S _ _ ok.pre rfl (fun _=>by rfl) (by
   rw[wB];intro c hc
   exact zbv hN c (wB.1 (z21 t it bt ut ov rr) c hc)) _ w G _ st1 .ret hg hst rfl hev _ _ fun a' w' G' hc=> ?_
  obtain⟨hfr,hhp⟩:=St.mk.inj hst1
  refine⟨hc.defers,?_⟩
  refine zuu (K:=25) (l:=insL els els.length x) hres (.inl rfl) hc hfr fun k=> ?_
  rw[hhp]
  simp only[Hp.get,inH,insL]
  by_cases h1:100000=k
  . subst h1;simp
  . by_cases h2:25=k
    . subst h2;simp
    . by_cases h3:100001=k
      . subst h3;simp
      . simp[h1,h2,h3]
 . have hjl:j<els.length:=by omega
   obtain⟨st1,hev,hst1⟩:=zyo (gl:=gl) (cl:=cl) (sh:=sh) (els:=els) (x:=x) (g:=info.bytes) hszE hjl hlim
   refine zty (L:=True) S _ _ ok.pre rfl (fun _=>by rfl) (by
    rw[wB];intro c hc
    exact zbv hN c (wB.1 (z21 t it bt ut ov rr) c hc)) _ w G _ st1 .norm hg hst rfl hev _ _ fun a1 w1 G1 hc1=> ?_
   obtain⟨hfr1,hhp1⟩:=St.mk.inj hst1
   have hc2:Came True gl {tmps:=vs++Array.replicate (fn.ntmps-vs.size) undef,defers:=[]} w G (inH sh els x) a1 w1 G1 (inS1 sh els x j):=by
    have:=zb9 [0,1,2,7,8] hc1
    rw[hst1]at this;exact this
   clear hc1 hst1 hfr1 hhp1 hev
   have hsize:a1.tmps.size=(vs++Array.replicate (fn.ntmps-vs.size) undef).size:=hc2.size
   refine wpIn_seq (wpIn_seq ?_)
   obtain⟨st8,hev8,hst8⟩:=qie (gl:=gl) (cl:=cl) (sh:=sh) (els:=els) (x:=x) (i:=j) (t:=t) (it:=it) (bt:=bt) (ut:=ut) (ov:=ov) (rr:=rr) hlim
   unfold qik
   refine wpIn_region_lit (zi9 (L:=True) S.op _ _ ok.o8 (by simp[zys]) a1 w1 G1 _ st8 (zs9 (by simp[zys]) (hsize▸hN)) (fun _=>by rfl) (hg.moved hc2.move) hc2.ok hev8 _ fun a3 w3 G3 hc3=> ?_)
   have hc3:Came True gl {tmps:=vs++Array.replicate (fn.ntmps-vs.size) undef,defers:=[]} w G (inH sh els x) a3 w3 G3 {fr:=(inS1 sh els x j).fr++[.set 28 (.int .i64 ((els.length:Int)+1)),.set 29 (.sl 100000 [] 0 els.length)],hp:=inH sh els x}:=by
    have:=zb9 [0,1,2,7,8,28,29] (hc2.trans hc3)
    rw[hst8]at this;exact this
   have hs3:95<=a3.tmps.size:=by rw[hc3.size];exact hN
   have hv29:=hc3.ok.fr 29
   simp only[inS1,wG,wJ,Fr.get]at hv29
   simp only[Nat.reduceEqDiff,if_false,if_true]at hv29
   rw[zae rfl]at hv29
   rcases hc3.ok.inv.obs 100000 (.grow sh els) rfl with ⟨h0,_⟩|⟨b,cap,c,e',fz,hr,hcl,hb,hcs,hf,hsh,hrc⟩
   . subst h0;simp at hjl
   rcases zbn hv29 with ⟨_,_,_,_,_,hreg⟩|⟨b',root,mm,e2,o',xo,hr',hs2,hof,hle2,hev29,hxo⟩
   . rw[hreg]at hr;cases hr
   rw[hr']at hr
   simp only[wU,Rg.blk.injEq]at hr
   obtain⟨rfl,rfl⟩:=hr
   simp only[Sh.sub,wU,Sh.ar.injEq]at hs2
   obtain⟨rfl,rfl⟩:=hs2
   simp only[Sh.off,wU]at hof
   subst hof
   rw[wQ]at hev29
   have hx0:=hxo (by omega)
   simp only[wR,wS]at hx0
   subst hx0
   refine zvo hF rfl (fun c h=>by cases h) (qca ok.ht (by simpa[Act.eval]using hev29)) ?_
   have hc4:=zjp hc3 (d:=30) (v:=.int .i64 cap) (v':=.int .i64 cap) (by omega) (zat _ _)
   have hc4:Came True gl {tmps:=vs++Array.replicate (fn.ntmps-vs.size) undef,defers:=[]} w G (inH sh els x) (a3.put (some 30) (.int .i64 cap)) w3 G3 {fr:=(inS1 sh els x j).fr++[.set 28 (.int .i64 ((els.length:Int)+1)),.set 30 (.int .i64 cap)],hp:=inH sh els x} :=
    zb9 [0,1,2,7,8,28,30] hc4
   have e30:(z7r t it bt ut ov rr).dst=some 30:=rfl
   rw[e30]
   generalize a3.put (some 30) (.int .i64 cap)=a4 at hc4
   have hs4:95<=a4.tmps.size:=by rw[hc4.size];exact hN
   have hg4:=hg.moved hc4.move
   have hev31:zbz gl cl (zjd (((zsn t it bt ut ov rr).zip inB8).map fun q=>(q.1.dst,q.2))) {fr:=(inS1 sh els x j).fr++[.set 28 (.int .i64 ((els.length:Int)+1)),.set 30 (.int .i64 cap)],hp:=inH sh els x} =
     some {fr:=.set 31 (.bool (decide ((cap:Int)<(els.length:Int)+1)))::((inS1 sh els x j).fr++[.set 28 (.int .i64 ((els.length:Int)+1)),.set 30 (.int .i64 cap)]),hp:=inH sh els x}:=by
    simp[zsn,inB8,zjd,zbz,zaa,Opd.val,Fr.get,St.upd,Fr.upd,zgu,zar,inS1]
   rw[show zsn t it bt ut ov rr=zsn t it bt ut ov rr++[]from(wC _).symm]
   refine zi9 (L:=True) S.op _ _ ok.b8 (by simp[zsn]) a4 w3 G3 _ _ (zs9 (by simp[zsn]) hs4) (fun _=>by rfl) hg4 hc4.ok hev31 _ fun a5 w5 G5 hc5=> ?_
   have hc5:Came True gl {tmps:=vs++Array.replicate (fn.ntmps-vs.size) undef,defers:=[]} w G (inH sh els x) a5 w5 G5 {fr:=.set 31 (.bool (decide ((cap:Int)<(els.length:Int)+1)))::(inS1 sh els x j).fr,hp:=inH sh els x} :=
    zb9 [31,0,1,2,7,8] (hc4.trans hc5)
   refine wpListIn_nil ?_
   have hx5:a5.eval (Operand.tmp 31)= .bool (decide ((cap:Int)<(els.length:Int)+1)):=by
    have:=hc5.ok.fr 31
    exact zb7 this
   have hc6:Came True gl {tmps:=vs++Array.replicate (fn.ntmps-vs.size) undef,defers:=[]} w G (inH sh els x) a5 w5 G5 (inS1 sh els x j):=zb9 [0,1,2,7,8] hc5
   have hs6:95<=a5.tmps.size:=by rw[hc6.size];exact hN
   have hg6:=hg.moved hc6.move
   refine wpIn_cond hx5 ?_
   by_cases hroom:(cap:Int)<(els.length:Int)+1
   ·
    rw[if_pos (by simp[hroom])]
    have hreg0:=zv5 hc3 (wO _) hr'
    refine wpIn_seq ?_
    obtain⟨st9,hev9,hst9⟩:=qid (gl:=gl) (cl:=cl) (sh:=sh) (els:=els) (x:=x) (i:=j) (t:=t) (it:=it) (bt:=bt) (ut:=ut) (ov:=ov) (rr:=rr) hjl hszE hlim
    unfold qij
    refine wpIn_region_lit (zi9 (L:=True) S.op _ _ ok.o9 (by simp[zyr]) a5 w5 G5 _ st9 (zs9 (by simp[zyr]) hs6) (fun _=>by rfl) hg6 hc6.ok hev9 _ fun a7 w7 G7 hc7=> ?_)
    have hc7:Came True gl {tmps:=vs++Array.replicate (fn.ntmps-vs.size) undef,defers:=[]} w G (inH sh els x) a7 w7 G7
      {fr:=[.set 0 (.sl 100000 [] 0 els.length),.set 1 (.int .i64 j),.set 2 (.sl 100001 [] 0 1),.set 7 (.int .i64 1),.set 34 (.sl 100000 [] 0 j),.set 39 (.int .i64 ((els.length+1-j:Nat):Int))],hp:=inH sh els x}:=by
     have:=zb9 [0,1,2,7,34,39] (hc6.trans hc7)
     rw[hst9]at this;exact this
    have hs7:95<=a7.tmps.size:=by rw[hc7.size];exact hN
    have hv34:RepT w7.heap G7 (a7.tmps.getD 34 undef) (.sl 100000 [] 0 j):=hc7.ok.fr 34
    have hv39:RepT w7.heap G7 (a7.tmps.getD 39 undef) (.int .i64 ((els.length+1-j:Nat):Int)):=hc7.ok.fr 39
    rw[zae rfl]at hv34
    have hv39:=zas hv39
    obtain⟨b7,cap7,hev34,hcap7⟩:∃b7 cap7,a7.tmps.getD 34 undef= .slice b7 j cap7/\cap7=cap:=by
     rcases zbn hv34 with ⟨_,_,_,_,_,hreg⟩|⟨b7,root7,m7,e7,o7,x7,hr7,hs7',ho7,hle7,he7,_⟩
     . have:=zi1 hc7 (wO _) hreg hreg0;cases this
     . have:=zi1 hc7 (wO _) hr7 hreg0
       cases this
       simp only[Sh.sub,wU,Sh.ar.injEq]at hs7'
       obtain⟨rfl,rfl⟩:=hs7'
       exact⟨_,_,he7,wQ _⟩
    subst hcap7
    have htl:(els.take j).length=j:=by rw[wF];omega
    have hsrc:=zgx (P:=P) hc7.ok.inv hv34 (show za6 (inH sh els x) (.sl 100000 [] 0 j)=some (sh,els.take j) by simp[za6,inH,Hp.get,sub,hj])
    rw[hev34]at hsrc
    obtain⟨newCap,c9,hrun9,hnc,hcs9,hrep9⟩:=zgz (P:=P) (ty:=t) (n:=els.length+1-j) (l:=els.take j) (b:=b7) (cap:=cap7) ok.ht ok.hit ok.hz hinfo ok.hg (hszE▸hszP) (by omega) (shx:=sh) (by rw[htl];exact hsrc) (.inr rfl) (by omega) (by omega)
    obtain⟨hshT,zv,hzv,hshz,hzp,hzw,hrl⟩:=zbx ok.hz
    have hsh7:∀q∈els,zap sh q=true/\q.plain=true/\q.wf:=hsh
    have hgrow:=zez (sh:=sh) (e:=e) (fz:=(0,0)) (k:=40) (els:=els.take j++List.replicate (els.length+1-j) z) (c:=c9) (cap:=newCap) hc7.ok.inv rfl (by simpa using hnc) hcs9 (.inl rfl)
     (fun q hq=>by
       rcases List.mem_append.1 hq with hq|hq
       . exact hsh7 q (List.mem_of_mem_take hq)
       . rw[List.eq_of_mem_replicate hq];exact⟨hshz,hzp,hzw⟩) hrep9
    rw[htl]at hrun9 hnc
    refine zvo hF rfl (fun c h=>by cases h) (qg5 (by simpa[Act.eval]using hev34) (by simpa[Act.eval]using hv39) hrun9) ?_
    have hc8:=ztf (w2:={w7 with drawn:=w7.drawn+1,heap:=w7.heap.push (.cells c9 e)}) hc7 (d:=some 40) (us:=[(40,.grow sh (els.take j++List.replicate (els.length+1-j) z))]) (v:=.sl 40 [] 0 (j+(els.length+1-j))) (fun i hi=>by cases hi;exact wP (by decide) hs7) ⟨rfl,rfl⟩ hgrow (ziu hnc)
     (fun _ k o hk=>by simp only[wN,Prod.mk.injEq]at hk;rw[hk.1];exact .inr (by decide))
    rw[show j+(els.length+1-j)=els.length+1 by omega]at hc8
    have hc8:Came True gl {tmps:=vs++Array.replicate (fn.ntmps-vs.size) undef,defers:=[]} w G (inH sh els x) (a7.put (some 40) (.slice (some ⟨w7.heap.size,0,none⟩) (els.length+1) newCap)) {w7 with drawn:=w7.drawn+1,heap:=w7.heap.push (.cells c9 e)} _
      {fr:=[.set 0 (.sl 100000 [] 0 els.length),.set 1 (.int .i64 j),.set 2 (.sl 100001 [] 0 1),.set 7 (.int .i64 1),.set 40 (.sl 40 [] 0 (els.length+1))],hp:=(40,.grow sh (els.take j++List.replicate (els.length+1-j) z))::inH sh els x}:=zb9 [0,1,2,7,40] hc8
    have e40:(z7q t it bt ut ov rr).dst=some 40:=rfl
    rw[e40,show j+(els.length+1-j)=els.length+1 by omega]
    generalize a7.put (some 40) (.slice (some ⟨w7.heap.size,0,none⟩) (els.length+1) newCap)=a8 at hc8
    generalize ({w7 with drawn:=w7.drawn+1,heap:=w7.heap.push (.cells c9 e)}:World)=w8 at hc8
    have hs8:95<=a8.tmps.size:=by rw[hc8.size];exact hN
    rw[show zyq t it bt ut ov rr=zyq t it bt ut ov rr++[]from(wC _).symm]
    refine zi9 (L:=True) S.op _ _ ok.b9 (by simp[zyq]) a8 w8 _ _ _ (zs9 (by simp[zyq]) hs8) (fun _=>by rfl) (hg.moved hc8.move) hc8.ok (show _=some _ from rfl) _ fun a9 w9 G9 hc9=> ?_
    have hc9:Came True gl {tmps:=vs++Array.replicate (fn.ntmps-vs.size) undef,defers:=[]} w G (inH sh els x) a9 w9 G9 (qdp sh z els x j):=zb9 [0,1,2,7,9] (hc8.trans hc9)
    refine wpListIn_nil ?_
    obtain⟨st10,hev10,hfr10,hhp10⟩:=qig (gl:=gl) (cl:=cl) (sh:=sh) (z:=z) (els:=els) (x:=x) (i:=j) hjl hszE hlim
    refine ze8 (L:=True) S _ _ _ ok.s10 rfl (fun _=>by rfl) (zbv (by rw[hc9.size];exact hN) _ (z20 t it bt ut ov rr)) a9 w9 G9 _ st10 .ret (hg.moved hc9.move) hc9.ok rfl hev10 _ fun a' w' G' hc10=> ?_
    have hc10:=hc9.trans hc10
    have hk10:st10.hp.get 100000=some (.grow sh els):=by rw[hhp10];rfl
    have hc11:=zox hc10 (us:=[(100000,.dead)]) (zgv hc10.ok.inv hk10) (fun _ k o hk=>by
     simp only[wN,Prod.mk.injEq]at hk;rw[hk.1];exact .inl (by rw[hk10];simp))
    refine⟨hc11.defers,?_⟩
    refine zuu (K:=40) (l:=insL els j x) hres (.inr (.inl rfl)) hc11 hfr10 fun k=> ?_
    simp only[wG,wJ,Hp.get,hhp10,inH]
    by_cases h1:100000=k
    . simp[h1]
    . by_cases h2:40=k
      . subst h2;simp
      . simp[h1,h2]
   . rw[if_neg (by simp[hroom])]
     refine wpIn_skip ?_
     have hroom:els.length+1<=cap:=by omega
     have hreg0:=zv5 hc3 (wO _) hr'
     refine wpIn_seq ?_
     obtain⟨st13,hev13,hst13⟩:=qdn (gl:=gl) (cl:=cl) (sh:=sh) (els:=els) (x:=x) (i:=j) (t:=t) (it:=it) (bt:=bt) (ut:=ut) (ov:=ov) (rr:=rr) hlim
     unfold qaa
     refine wpIn_region_lit (zi9 (L:=True) S.op _ _ ok.o13 (by simp[zod]) a5 w5 G5 _ st13 (zs9 (by simp[zod]) hs6) (fun _=>by rfl) hg6 hc6.ok hev13 _ fun a7 w7 G7 hc7=> ?_)
     have hc7:Came True gl {tmps:=vs++Array.replicate (fn.ntmps-vs.size) undef,defers:=[]} w G (inH sh els x) a7 w7 G7
       {fr:=[.set 1 (.int .i64 j),.set 2 (.sl 100001 [] 0 1),.set 7 (.int .i64 1),.set 56 (.sl 100000 [] 0 els.length),.set 59 (.int .i64 ((els.length:Int)+1))],hp:=inH sh els x}:=by
      have:=zb9 [1,2,7,56,59] (hc6.trans hc7)
      rw[hst13]at this;exact this
     have hs7:95<=a7.tmps.size:=by rw[hc7.size];exact hN
     have hv56:RepT w7.heap G7 (a7.tmps.getD 56 undef) (.sl 100000 [] 0 els.length):=hc7.ok.fr 56
     have hv59:RepT w7.heap G7 (a7.tmps.getD 59 undef) (.int .i64 ((els.length:Int)+1)):=hc7.ok.fr 59
     rw[zae rfl]at hv56
     have hv59:=zas hv59
     obtain⟨hev56,hr7⟩:a7.tmps.getD 56 undef= .slice (some ⟨b',0,none⟩) els.length cap/\G7.reg 100000=some (.blk b' (.ar cap sh)):=by
      rcases zbn hv56 with ⟨_,_,_,_,_,hreg⟩|⟨b7,root7,m7,e7,o7,x7,hr7,hs7',ho7,hle7,he7,hx7⟩
      . have:=zi1 hc7 (wO _) hreg hreg0;cases this
      . have:=zi1 hc7 (wO _) hr7 hreg0
        cases this
        simp only[Sh.sub,wU,Sh.ar.injEq]at hs7'
        obtain⟨rfl,rfl⟩:=hs7'
        simp only[Sh.off,wU]at ho7
        subst ho7
        have hx:=hx7 (by omega)
        simp only[wR,wS]at hx
        subst hx
        exact⟨he7,hr7⟩
     refine zvo hF rfl (fun c h=>by cases h) (qb9 ok.ht hinfo (by simpa[Act.eval]using hev56) (by simpa[Act.eval]using hv59) hroom) ?_
     have hrs:RepT w7.heap G7 (.slice (some ⟨b',0,none⟩) (els.length+1) cap) (.sl 100000 [] 0 (els.length+1)):=by
      have:=RepS.sl (H:=w7.heap) (G:=G7) 100000 [] 0 (els.length+1) b' (.ar cap sh) cap sh 0 hr7 rfl rfl (by omega)
      rw[zae rfl]
      simpa using this
     have hc8:=zjp hc7 (d:=60) (wP (by decide) hs7) hrs
     have hc8:Came True gl {tmps:=vs++Array.replicate (fn.ntmps-vs.size) undef,defers:=[]} w G (inH sh els x) (a7.put (some 60) (.slice (some ⟨b',0,none⟩) (els.length+1) cap)) w7 G7
       {fr:=[.set 1 (.int .i64 j),.set 2 (.sl 100001 [] 0 1),.set 7 (.int .i64 1),.set 60 (.sl 100000 [] 0 (els.length+1))],hp:=inH sh els x}:=zb9 [1,2,7,60] hc8
     have e60:(zws t it bt ut ov rr).dst=some 60:=rfl
     rw[e60]
     generalize a7.put (some 60) (.slice (some ⟨b',0,none⟩) (els.length+1) cap)=a8 at hc8
     have hs8:95<=a8.tmps.size:=by rw[hc8.size];exact hN
     rw[show zob t it bt ut ov rr=zob t it bt ut ov rr++[]from(wC _).symm]
     refine zi9 (L:=True) S.op _ _ ok.b13 (by simp[zob]) a8 w7 _ _ _ (zs9 (by simp[zob]) hs8) (fun _=>by rfl) (hg.moved hc8.move) hc8.ok (show _=some _ from rfl) _ fun a9 w9 G9 hc9=> ?_
     have hc9:Came True gl {tmps:=vs++Array.replicate (fn.ntmps-vs.size) undef,defers:=[]} w G (inH sh els x) a9 w9 G9 (zso sh els x j):=zb9 [0,1,2,7] (hc8.trans hc9)
     refine wpListIn_nil ?_
     have hs9:95<=a9.tmps.size:=by rw[hc9.size];exact hN
     refine wpIn_seq (wpIn_seq ?_)
     obtain⟨st14,hev14,hst14⟩:=qdm (gl:=gl) (cl:=cl) (sh:=sh) (els:=els) (x:=x) (i:=j) (t:=t) (it:=it) (bt:=bt) (ut:=ut) (ov:=ov) (rr:=rr) hjl hszE hlim
     unfold z99
     refine wpIn_region_lit (zi9 (L:=True) S.op _ _ ok.o14 (by simp[zoc]) a9 w9 G9 _ st14 (zs9 (by simp[zoc]) hs9) (fun _=>by rfl) (hg.moved hc9.move) hc9.ok hev14 _ fun aa wa Ga hca=> ?_)
     have hca:Came True gl {tmps:=vs++Array.replicate (fn.ntmps-vs.size) undef,defers:=[]} w G (inH sh els x) aa wa Ga {fr:=(zso sh els x j).fr++[.set 61 (.sl 100001 [] 0 1),.set 66 (.sl 100000 [] (j+1) (els.length-j))],hp:=inH sh els x}:=by
      have:=zb9 [0,1,2,7,61,66] (hc9.trans hca)
      rw[hst14]at this;exact this
     have hsa:95<=aa.tmps.size:=by rw[hca.size];exact hN
     have hv61:RepT wa.heap Ga (aa.tmps.getD 61 undef) (.sl 100001 [] 0 1):=hca.ok.fr 61
     have hv66:RepT wa.heap Ga (aa.tmps.getD 66 undef) (.sl 100000 [] (j+1) (els.length-j)):=hca.ok.fr 66
     rw[zae rfl]at hv61 hv66
     have hsne:sh≠.sc:=ok.ne
     obtain⟨b1,c1,hev61,⟨ca,ea,fa,hba,hfa⟩,hat1⟩:∃b1 c1,aa.tmps.getD 61 undef= .slice (some b1) 1 c1/\(∃ca ea fa,wa.heap[b1.block]? =some (.cells ca ea fa)/\fa.1=fa.2)/\Ga.At 100001 b1.block (.ar c1 sh):=by
      rcases hca.ok.inv.obs 100001 (.grow sh [x]) rfl with ⟨h0,_⟩|⟨bb,cap1,c1,e1,fz1,hr1,hcl1,hb1',hcs1,hf1,hsh1,hrc1⟩
      . cases h0
      rcases zbn hv61 with ⟨_,_,_,_,_,hreg⟩|⟨b7,root7,m7,e7,o7,x7,hr7',hs7',ho7,hle7,he7,hx7⟩
      . rw[hreg]at hr1;cases hr1
      rw[hr7']at hr1
      cases hr1
      simp only[Sh.sub,wU,Sh.ar.injEq]at hs7'
      obtain⟨rfl,rfl⟩:=hs7'
      refine⟨⟨bb,x7,none⟩,cap1,by rw[he7,wQ],⟨_,_,_,hb1',?_⟩,.of hr7'⟩
      rcases hf1 with h|⟨h,_⟩
      . exact h
      . exact absurd h hsne
     obtain⟨b2,c2,hev66,⟨cb,eb,fb,hbb,hcb⟩,hat2⟩:∃b2 c2,aa.tmps.getD 66 undef= .slice (some b2) (els.length-j) c2/\(∃cb eb fb,wa.heap[b2.block]? =some (.cells cb eb fb)/\cb.size≠0)/\Ga.At 100000 b2.block (.ar cap sh):=by
      rcases hca.ok.inv.obs 100000 (.grow sh els) rfl with ⟨h0,_⟩|⟨bb,cap1,c1,e1,fz1,hr1,hcl1,hb1',hcs1,hf1,hsh1,hrc1⟩
      . subst h0;simp at hjl
      have:=zi1 hca (wO _) hr1 hreg0
      cases this
      rcases zbn hv66 with ⟨_,_,_,_,_,hreg⟩|⟨b7,root7,m7,e7,o7,x7,hr7',hs7',ho7,hle7,he7,hx7⟩
      . rw[hreg]at hr1;cases hr1
      rw[hr7']at hr1
      cases hr1
      refine⟨⟨_,x7,none⟩,m7-(j+1),he7,⟨_,_,_,hb1',?_⟩,.of hr7'⟩
      rw[hcs1]
      exact Nat.mul_ne_zero (by omega) (by omega)
     have hne:b1.block≠b2.block:=fun e=>by
      rw[<-e]at hat2
      have:=hca.ok.inv.dist 100001 100000 b1.block _ _ hat1 hat2 ⟨_,rfl,by simp⟩ ⟨_,rfl,by simp⟩
      cases this
     refine zvo hF rfl (fun c h=>by cases h) (z56 ok.ht hinfo ok.hov (by simpa[Act.eval]using hev61) (by simpa[Act.eval]using hev66) hne hba hbb hfa hcb) ?_
     have hcb:=zjp hca (d:=67) (wP (by decide) hsa) (zb6 false)
     have e67:(zwr t it bt ut ov rr).dst=some 67:=rfl
     rw[e67]
     generalize aa.put (some 67) (.bool false)=ab at hcb
     have hsb:95<=ab.tmps.size:=by rw[hcb.size];exact hN
     rw[show zoa t it bt ut ov rr=zoa t it bt ut ov rr++[]from(wC _).symm]
     refine zi9 (L:=True) S.op _ _ ok.b14 (by simp[zoa]) ab wa _ _ _ (zs9 (by simp[zoa]) hsb) (fun _=>by rfl) (hg.moved hcb.move) hcb.ok (show _=some _ from rfl) _ fun ac wc Gc hcc=> ?_
     have hcc:=hcb.trans hcc
     refine wpListIn_nil ?_
     have hxc:ac.eval (Operand.tmp 68)= .bool true:=zb7 (hcc.ok.fr 68)
     have hcd:Came True gl {tmps:=vs++Array.replicate (fn.ntmps-vs.size) undef,defers:=[]} w G (inH sh els x) ac wc Gc (zso sh els x j):=zb9 [0,1,2,7] hcc
     refine wpIn_cond hxc ?_
     rw[if_pos rfl]
     obtain⟨st15,hev15,hfr15,hhp15⟩:=qif (gl:=gl) (cl:=cl) (sh:=sh) (els:=els) (x:=x) (i:=j) hjl hszE hlim
     refine ze8 (L:=True) S _ _ _ ok.s15 rfl (fun _=>by rfl) (zbv (by rw[hcd.size];exact hN) _ (z2z t it bt ut ov rr)) ac wc Gc _ st15 .ret (hg.moved hcd.move) hcd.ok rfl hev15 _ fun a' w' G' hce=> ?_
     have hce:=hcd.trans hce
     have hk15:st15.hp.get 100000=some (.grow sh (insL els j x)):=(hhp15 _).trans rfl
     have hk200:st15.hp.get 200=none:=(hhp15 _).trans rfl
     have hfr6:st15.fr.get 6= .sl 100000 [] 0 (els.length+1):=by
      have:zc2 st15.fr [6]=[.set 6 (st15.fr.get 6)]:=rfl
      rw[this]at hfr15
      simpa using hfr15
     have hv6:=hce.ok.fr 6
     rw[hfr6,zae rfl]at hv6
     rcases hce.ok.inv.obs _ _ hk15 with ⟨h0,_⟩|⟨bl,cap1,c1,e1,fz1,hr1,hcl1,hb1',hcs1,hf1,hsh1,hrc1⟩
     . simp[insL]at h0
     have hmv:=zrh hce.ok.inv (k:=200) hk15 (by simp) hk200 hr1 w'.heap (.grow sh (insL els j x)) rfl (fun _ _=>rfl) fun le=>.inr ⟨bl,cap1,c1,e1,fz1,by simp[Gh.with],hcl1,hb1',hcs1,hf1,hsh1,hrc1.mono le⟩
     have hcf:=zox hce (us:=[(100000,.dead),(200,.grow sh (insL els j x))]) hmv (fun _ k o hk=>by
      simp only[List.mem_cons,List.not_mem_nil,or_false,Prod.mk.injEq]at hk
      rcases hk with ⟨rfl,_⟩|⟨rfl,_⟩
      . exact .inl (by rw[hk15];simp)
      . exact .inr (by decide))
     have hcg:=z47 hcf (fr:=[.set 6 (.sl 200 [] 0 (els.length+1))]) fun i=>by
      simp only[Fr.get]
      by_cases h6:6=i
      . subst h6
        rw[if_pos rfl,zae rfl]
        rcases zbn hv6 with ⟨_,_,_,_,_,hreg⟩|⟨b7,root7,m7,e7,o7,x7,hr7',hs7',ho7,hle7,he7,hx7⟩
        . rw[hreg]at hr1;cases hr1
        rw[hr7']at hr1
        cases hr1
        simp only[Sh.sub,wU,Sh.ar.injEq]at hs7'
        obtain⟨rfl,rfl⟩:=hs7'
        simp only[Sh.off,wU]at ho7
        subst ho7
        have hx:=hx7 (by omega)
        subst hx
        rw[he7]
        exact .sl 200 [] 0 (els.length+1) bl (.ar cap1 sh) cap1 sh 0 (by simp[Gh.with]) rfl rfl (by omega)
      . rw[if_neg h6];trivial
     refine⟨hcg.defers,?_⟩
     refine zuu (K:=200) (l:=insL els j x) hres (.inr (.inr rfl)) hcg rfl fun k=> ?_
     simp only[wG,wJ,Hp.get,hhp15]
     by_cases h1:100000=k
     . simp[h1]
     . by_cases h2:200=k
       . subst h2;simp
       . simp[h1,h2]
end Go.Ev
