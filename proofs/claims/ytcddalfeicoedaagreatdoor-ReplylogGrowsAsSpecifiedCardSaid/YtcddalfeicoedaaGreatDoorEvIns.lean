/-
  Given functions of the library: slices.Insert of one element. No condition.
-/
import Derived.Test.YtcddalfeicoedaaGreatDoorEvGiv
import Derived.Lib.Overlaps
set_option linter.all false
namespace Go.Ev
open Go
set_option maxRecDepth 20000
def qkz (t it bt ut:TypeId)(ov rr:Nat):Code :=
 Code.region 0 #[{dst:=some 6,op:=Op.assign (Operand.const (Value.slice none 0 0)),type:=t,pos:= "slices.go:136",after:= #[],guard:=none}] false
def qky (t it bt ut:TypeId)(ov rr:Nat):Code :=
 Code.region 1 #[{dst:=some 10,op:=Op.move (Operand.tmp 0),type:=t,pos:= "slices.go:137",after:= #[],guard:=none},{dst:=some 11,op:=Op.move (Operand.tmp 1),type:=it,pos:= "slices.go:137",after:= #[],guard:=none},{dst:=some 12,op:=Op.slice t (Operand.tmp 10) (some (Operand.tmp 11)) none none,type:=t,pos:= "slices.go:137",after:= #[{on:=0,ground:=Ground.data},{on:=1,ground:=Ground.data}],guard:=none}] false
def qkx (t it bt ut:TypeId)(ov rr:Nat):Code :=
 Code.region 2 #[{dst:=some 13,op:=Op.move (Operand.tmp 2),type:=t,pos:= "slices.go:139",after:= #[],guard:=none},{dst:=some 14,op:=Op.call {callee:=Callee.builtin Builtin.len,args:= #[Operand.tmp 13],argTypes:= #[t]},type:=it,pos:= "slices.go:139",after:= #[{on:=0,ground:=Ground.data}],guard:=none},{dst:=some 7,op:=Op.assign (Operand.tmp 14),type:=it,pos:= "slices.go:139",after:= #[{on:=1,ground:=Ground.data},{on:=0,ground:=Ground.phase},{on:=1,ground:=Ground.phase}],guard:=none}] false
def qkw (t it bt ut:TypeId)(ov rr:Nat):Code :=
 Code.region 3 #[{dst:=some 15,op:=Op.move (Operand.tmp 7),type:=it,pos:= "slices.go:140",after:= #[],guard:=none},{dst:=some 16,op:=Op.binOp BinOp.eql it (Operand.tmp 15) (Operand.const (Value.int IntKind.i64 0)) it,type:=bt,pos:= "slices.go:140",after:= #[{on:=0,ground:=Ground.data}],guard:=none}] false
def qkv (t it bt ut:TypeId)(ov rr:Nat):Code :=
 Code.region 4 #[{dst:=some 17,op:=Op.move (Operand.tmp 0),type:=t,pos:= "slices.go:141",after:= #[],guard:=none},{dst:=some 6,op:=Op.assign (Operand.tmp 17),type:=t,pos:= "slices.go:141",after:= #[{on:=0,ground:=Ground.data},{on:=0,ground:=Ground.phase}],guard:=none}] false
def qku (t it bt ut:TypeId)(ov rr:Nat):Code :=
 Code.region 5 #[{dst:=some 18,op:=Op.move (Operand.tmp 0),type:=t,pos:= "slices.go:143",after:= #[],guard:=none},{dst:=some 19,op:=Op.call {callee:=Callee.builtin Builtin.len,args:= #[Operand.tmp 18],argTypes:= #[t]},type:=it,pos:= "slices.go:143",after:= #[{on:=0,ground:=Ground.data}],guard:=none},{dst:=some 8,op:=Op.assign (Operand.tmp 19),type:=it,pos:= "slices.go:143",after:= #[{on:=1,ground:=Ground.data},{on:=0,ground:=Ground.phase},{on:=1,ground:=Ground.phase}],guard:=none}] false
def qkt (t it bt ut:TypeId)(ov rr:Nat):Code :=
 Code.region 6 #[{dst:=some 20,op:=Op.move (Operand.tmp 1),type:=it,pos:= "slices.go:144",after:= #[],guard:=none},{dst:=some 21,op:=Op.move (Operand.tmp 8),type:=it,pos:= "slices.go:144",after:= #[],guard:=none},{dst:=some 22,op:=Op.binOp BinOp.eql it (Operand.tmp 20) (Operand.tmp 21) it,type:=bt,pos:= "slices.go:144",after:= #[{on:=0,ground:=Ground.data},{on:=1,ground:=Ground.data}],guard:=none}] false
def qks (t it bt ut:TypeId)(ov rr:Nat):Code :=
 Code.region 7 #[{dst:=some 23,op:=Op.move (Operand.tmp 0),type:=t,pos:= "slices.go:145",after:= #[],guard:=none},{dst:=some 24,op:=Op.move (Operand.tmp 2),type:=t,pos:= "slices.go:145",after:= #[],guard:=none},{dst:=some 25,op:=Op.call {callee:=Callee.builtin Builtin.append,args:= #[Operand.tmp 23,Operand.tmp 24],argTypes:= #[t,t]},type:=t,pos:= "slices.go:145",after:= #[{on:=0,ground:=Ground.data},{on:=1,ground:=Ground.data}],guard:=none},{dst:=some 6,op:=Op.assign (Operand.tmp 25),type:=t,pos:= "slices.go:145",after:= #[{on:=2,ground:=Ground.data},{on:=2,ground:=Ground.chain},{on:=0,ground:=Ground.phase},{on:=1,ground:=Ground.phase},{on:=2,ground:=Ground.phase}],guard:=none}] false
def qk3 (t it bt ut:TypeId)(ov rr:Nat):List Oper :=
 [{dst:=some 26,op:=Op.move (Operand.tmp 8),type:=it,pos:= "slices.go:147",after:= #[],guard:=none},{dst:=some 27,op:=Op.move (Operand.tmp 7),type:=it,pos:= "slices.go:147",after:= #[],guard:=none},{dst:=some 28,op:=Op.binOp BinOp.add it (Operand.tmp 26) (Operand.tmp 27) it,type:=it,pos:= "slices.go:147",after:= #[{on:=0,ground:=Ground.data},{on:=1,ground:=Ground.data}],guard:=none},{dst:=some 29,op:=Op.move (Operand.tmp 0),type:=t,pos:= "slices.go:147",after:= #[],guard:=none}]
def qk1 (t it bt ut:TypeId)(ov rr:Nat):List Oper :=
 [{dst:=some 31,op:=Op.binOp BinOp.gtr it (Operand.tmp 28) (Operand.tmp 30) it,type:=bt,pos:= "slices.go:147",after:= #[{on:=2,ground:=Ground.data},{on:=4,ground:=Ground.data}],guard:=none}]
def qk2 (t it bt ut:TypeId)(ov rr:Nat):List Oper :=
 [{dst:=some 32,op:=Op.move (Operand.tmp 0),type:=t,pos:= "slices.go:152",after:= #[],guard:=none},{dst:=some 33,op:=Op.move (Operand.tmp 1),type:=it,pos:= "slices.go:152",after:= #[],guard:=none},{dst:=some 34,op:=Op.slice t (Operand.tmp 32) none (some (Operand.tmp 33)) none,type:=t,pos:= "slices.go:152",after:= #[{on:=0,ground:=Ground.data},{on:=1,ground:=Ground.data}],guard:=none},{dst:=some 35,op:=Op.move (Operand.tmp 8),type:=it,pos:= "slices.go:152",after:= #[],guard:=none},{dst:=some 36,op:=Op.move (Operand.tmp 7),type:=it,pos:= "slices.go:152",after:= #[],guard:=none},{dst:=some 37,op:=Op.binOp BinOp.add it (Operand.tmp 35) (Operand.tmp 36) it,type:=it,pos:= "slices.go:152",after:= #[{on:=3,ground:=Ground.data},{on:=4,ground:=Ground.data}],guard:=none},{dst:=some 38,op:=Op.move (Operand.tmp 1),type:=it,pos:= "slices.go:152",after:= #[],guard:=none},{dst:=some 39,op:=Op.binOp BinOp.sub it (Operand.tmp 37) (Operand.tmp 38) it,type:=it,pos:= "slices.go:152",after:= #[{on:=5,ground:=Ground.data},{on:=6,ground:=Ground.data}],guard:=none}]
def qk0 (t it bt ut:TypeId)(ov rr:Nat):List Oper :=
 [{dst:=some 9,op:=Op.assign (Operand.tmp 40),type:=t,pos:= "slices.go:152",after:= #[{on:=8,ground:=Ground.data},{on:=8,ground:=Ground.chain},{on:=0,ground:=Ground.phase},{on:=1,ground:=Ground.phase},{on:=2,ground:=Ground.phase},{on:=3,ground:=Ground.phase},{on:=4,ground:=Ground.phase},{on:=5,ground:=Ground.phase},{on:=6,ground:=Ground.phase},{on:=7,ground:=Ground.phase},{on:=8,ground:=Ground.phase}],guard:=none}]
def qfk (t it bt ut:TypeId)(ov rr:Nat):Code :=
 Code.region 10 #[{dst:=some 41,op:=Op.move (Operand.tmp 9),type:=t,pos:= "slices.go:153",after:= #[],guard:=none},{dst:=some 42,op:=Op.move (Operand.tmp 1),type:=it,pos:= "slices.go:153",after:= #[],guard:=none},{dst:=some 43,op:=Op.slice t (Operand.tmp 41) (some (Operand.tmp 42)) none none,type:=t,pos:= "slices.go:153",after:= #[{on:=0,ground:=Ground.data},{on:=1,ground:=Ground.data}],guard:=none},{dst:=some 44,op:=Op.move (Operand.tmp 2),type:=t,pos:= "slices.go:153",after:= #[],guard:=none},{dst:=some 45,op:=Op.call {callee:=Callee.builtin Builtin.copy,args:= #[Operand.tmp 43,Operand.tmp 44],argTypes:= #[t,t]},type:=it,pos:= "slices.go:153",after:= #[{on:=2,ground:=Ground.data},{on:=3,ground:=Ground.data}],guard:=none}] false
def qfj (t it bt ut:TypeId)(ov rr:Nat):Code :=
 Code.region 11 #[{dst:=some 46,op:=Op.move (Operand.tmp 9),type:=t,pos:= "slices.go:154",after:= #[],guard:=none},{dst:=some 47,op:=Op.move (Operand.tmp 1),type:=it,pos:= "slices.go:154",after:= #[],guard:=none},{dst:=some 48,op:=Op.move (Operand.tmp 7),type:=it,pos:= "slices.go:154",after:= #[],guard:=none},{dst:=some 49,op:=Op.binOp BinOp.add it (Operand.tmp 47) (Operand.tmp 48) it,type:=it,pos:= "slices.go:154",after:= #[{on:=1,ground:=Ground.data},{on:=2,ground:=Ground.data}],guard:=none},{dst:=some 50,op:=Op.slice t (Operand.tmp 46) (some (Operand.tmp 49)) none none,type:=t,pos:= "slices.go:154",after:= #[{on:=0,ground:=Ground.data},{on:=3,ground:=Ground.data}],guard:=none},{dst:=some 51,op:=Op.move (Operand.tmp 0),type:=t,pos:= "slices.go:154",after:= #[],guard:=none},{dst:=some 52,op:=Op.move (Operand.tmp 1),type:=it,pos:= "slices.go:154",after:= #[],guard:=none},{dst:=some 53,op:=Op.slice t (Operand.tmp 51) (some (Operand.tmp 52)) none none,type:=t,pos:= "slices.go:154",after:= #[{on:=5,ground:=Ground.data},{on:=6,ground:=Ground.data}],guard:=none},{dst:=some 54,op:=Op.call {callee:=Callee.builtin Builtin.copy,args:= #[Operand.tmp 50,Operand.tmp 53],argTypes:= #[t,t]},type:=it,pos:= "slices.go:154",after:= #[{on:=4,ground:=Ground.data},{on:=7,ground:=Ground.data}],guard:=none}] true
def qfi (t it bt ut:TypeId)(ov rr:Nat):Code :=
 Code.region 12 #[{dst:=some 55,op:=Op.move (Operand.tmp 9),type:=t,pos:= "slices.go:155",after:= #[],guard:=none},{dst:=some 6,op:=Op.assign (Operand.tmp 55),type:=t,pos:= "slices.go:155",after:= #[{on:=0,ground:=Ground.data},{on:=0,ground:=Ground.phase}],guard:=none}] false
def qfp (t it bt ut:TypeId)(ov rr:Nat):List Oper :=
 [{dst:=some 56,op:=Op.move (Operand.tmp 0),type:=t,pos:= "slices.go:157",after:= #[],guard:=none},{dst:=some 57,op:=Op.move (Operand.tmp 8),type:=it,pos:= "slices.go:157",after:= #[],guard:=none},{dst:=some 58,op:=Op.move (Operand.tmp 7),type:=it,pos:= "slices.go:157",after:= #[],guard:=none},{dst:=some 59,op:=Op.binOp BinOp.add it (Operand.tmp 57) (Operand.tmp 58) it,type:=it,pos:= "slices.go:157",after:= #[{on:=1,ground:=Ground.data},{on:=2,ground:=Ground.data}],guard:=none}]
def qfn (t it bt ut:TypeId)(ov rr:Nat):List Oper :=
 [{dst:=some 0,op:=Op.assign (Operand.tmp 60),type:=t,pos:= "slices.go:157",after:= #[{on:=4,ground:=Ground.data},{on:=0,ground:=Ground.phase},{on:=1,ground:=Ground.phase},{on:=2,ground:=Ground.phase},{on:=3,ground:=Ground.phase},{on:=4,ground:=Ground.phase}],guard:=none}]
def qfo (t it bt ut:TypeId)(ov rr:Nat):List Oper :=
 [{dst:=some 61,op:=Op.move (Operand.tmp 2),type:=t,pos:= "slices.go:173",after:= #[],guard:=none},{dst:=some 62,op:=Op.move (Operand.tmp 0),type:=t,pos:= "slices.go:173",after:= #[],guard:=none},{dst:=some 63,op:=Op.move (Operand.tmp 1),type:=it,pos:= "slices.go:173",after:= #[],guard:=none},{dst:=some 64,op:=Op.move (Operand.tmp 7),type:=it,pos:= "slices.go:173",after:= #[],guard:=none},{dst:=some 65,op:=Op.binOp BinOp.add it (Operand.tmp 63) (Operand.tmp 64) it,type:=it,pos:= "slices.go:173",after:= #[{on:=2,ground:=Ground.data},{on:=3,ground:=Ground.data}],guard:=none},{dst:=some 66,op:=Op.slice t (Operand.tmp 62) (some (Operand.tmp 65)) none none,type:=t,pos:= "slices.go:173",after:= #[{on:=1,ground:=Ground.data},{on:=4,ground:=Ground.data}],guard:=none}]
def qfm (t it bt ut:TypeId)(ov rr:Nat):List Oper :=
 [{dst:=some 68,op:=Op.unOp UnOp.not bt (Operand.tmp 67),type:=bt,pos:= "slices.go:173",after:= #[{on:=6,ground:=Ground.data}],guard:=none}]
def qfh (t it bt ut:TypeId)(ov rr:Nat):Code :=
 Code.region 15 #[{dst:=some 69,op:=Op.move (Operand.tmp 0),type:=t,pos:= "slices.go:178",after:= #[],guard:=none},{dst:=some 70,op:=Op.move (Operand.tmp 1),type:=it,pos:= "slices.go:178",after:= #[],guard:=none},{dst:=some 71,op:=Op.move (Operand.tmp 7),type:=it,pos:= "slices.go:178",after:= #[],guard:=none},{dst:=some 72,op:=Op.binOp BinOp.add it (Operand.tmp 70) (Operand.tmp 71) it,type:=it,pos:= "slices.go:178",after:= #[{on:=1,ground:=Ground.data},{on:=2,ground:=Ground.data}],guard:=none},{dst:=some 73,op:=Op.slice t (Operand.tmp 69) (some (Operand.tmp 72)) none none,type:=t,pos:= "slices.go:178",after:= #[{on:=0,ground:=Ground.data},{on:=3,ground:=Ground.data}],guard:=none},{dst:=some 74,op:=Op.move (Operand.tmp 0),type:=t,pos:= "slices.go:178",after:= #[],guard:=none},{dst:=some 75,op:=Op.move (Operand.tmp 1),type:=it,pos:= "slices.go:178",after:= #[],guard:=none},{dst:=some 76,op:=Op.slice t (Operand.tmp 74) (some (Operand.tmp 75)) none none,type:=t,pos:= "slices.go:178",after:= #[{on:=5,ground:=Ground.data},{on:=6,ground:=Ground.data}],guard:=none},{dst:=some 77,op:=Op.call {callee:=Callee.builtin Builtin.copy,args:= #[Operand.tmp 73,Operand.tmp 76],argTypes:= #[t,t]},type:=it,pos:= "slices.go:178",after:= #[{on:=4,ground:=Ground.data},{on:=7,ground:=Ground.data}],guard:=none}] true
def qfg (t it bt ut:TypeId)(ov rr:Nat):Code :=
 Code.region 16 #[{dst:=some 78,op:=Op.move (Operand.tmp 0),type:=t,pos:= "slices.go:186",after:= #[],guard:=none},{dst:=some 79,op:=Op.move (Operand.tmp 1),type:=it,pos:= "slices.go:186",after:= #[],guard:=none},{dst:=some 80,op:=Op.slice t (Operand.tmp 78) (some (Operand.tmp 79)) none none,type:=t,pos:= "slices.go:186",after:= #[{on:=0,ground:=Ground.data},{on:=1,ground:=Ground.data}],guard:=none},{dst:=some 81,op:=Op.move (Operand.tmp 2),type:=t,pos:= "slices.go:186",after:= #[],guard:=none},{dst:=some 82,op:=Op.call {callee:=Callee.builtin Builtin.copy,args:= #[Operand.tmp 80,Operand.tmp 81],argTypes:= #[t,t]},type:=it,pos:= "slices.go:186",after:= #[{on:=2,ground:=Ground.data},{on:=3,ground:=Ground.data}],guard:=none}] false
def qff (t it bt ut:TypeId)(ov rr:Nat):Code :=
 Code.region 17 #[{dst:=some 83,op:=Op.move (Operand.tmp 0),type:=t,pos:= "slices.go:193",after:= #[],guard:=none},{dst:=some 6,op:=Op.assign (Operand.tmp 83),type:=t,pos:= "slices.go:193",after:= #[{on:=0,ground:=Ground.data},{on:=0,ground:=Ground.phase}],guard:=none}] false
section
variable (t it bt ut:TypeId) (ov rr:Nat)
def qkr :Code:=Code.seq (qkw t it bt ut ov rr) (Code.cond (Operand.tmp 16) (Code.seq (qkv t it bt ut ov rr) Code.ret) Code.skip)
def qkq :Code:=Code.seq (qkt t it bt ut ov rr) (Code.cond (Operand.tmp 22) (Code.seq (qks t it bt ut ov rr) Code.ret) Code.skip)
def qfl :List Code:=[qkz t it bt ut ov rr,qky t it bt ut ov rr,qkx t it bt ut ov rr,qkr t it bt ut ov rr,qku t it bt ut ov rr,qkq t it bt ut ov rr]
def qfe :Code:=Code.seq (qfk t it bt ut ov rr) (Code.seq (qfj t it bt ut ov rr) (Code.seq (qfi t it bt ut ov rr) Code.ret))
def qfd :Code:=Code.seq (qfh t it bt ut ov rr) (Code.seq (qfg t it bt ut ov rr) (Code.seq (qff t it bt ut ov rr) Code.ret))
end
section
variable (sh :Sh) (z:AV) (g sz:Nat)
def inM3 :MC:=.seq (.reg (.op (some 15) (.mov (.t 7)) (.op (some 16) (.bin .eql (.t 15) (.c (.int .i64 0))) .nil))) (.cond (.t 16) (.seq (.reg (.op (some 17) (.mov (.t 0)) (.op (some 6) (.mov (.t 17)) .nil))) .ret) .skip)
def inM6 :MC:=.seq (.reg (.op (some 20) (.mov (.t 1)) (.op (some 21) (.mov (.t 8)) (.op (some 22) (.bin .eql (.t 20) (.t 21)) .nil))))
 (.cond (.t 22) (.seq (.reg (.op (some 23) (.mov (.t 0)) (.op (some 24) (.mov (.t 2)) (.op (some 25) (.append sh g (.t 23) (.t 24)) (.op (some 6) (.mov (.t 25)) .nil))))) .ret) .skip)
def qfq :List MC:=[.reg (.op (some 6) (.mov (.c (.lst true .sc []))) .nil),
 .reg (.op (some 10) (.mov (.t 0)) (.op (some 11) (.mov (.t 1)) (.op (some 12) (.slSl sz (.t 10) (some (.t 11)) none none) .nil))),
 .reg (.op (some 13) (.mov (.t 2)) (.op (some 14) (.len false (.t 13)) (.op (some 7) (.mov (.t 14)) .nil))),inM3,
 .reg (.op (some 18) (.mov (.t 0)) (.op (some 19) (.len false (.t 18)) (.op (some 8) (.mov (.t 19)) .nil))),inM6 sh g]
def inA8 :List MOp:=[.mov (.t 8),.mov (.t 7),.bin .add (.t 26) (.t 27),.mov (.t 0)]
def inB8 :List MOp:=[.bin .gtr (.t 28) (.t 30)]
def inA9 :List MOp:=[.mov (.t 0),.mov (.t 1),.slSl sz (.t 32) none (some (.t 33)) none,.mov (.t 8),.mov (.t 7),.bin .add (.t 35) (.t 36),.mov (.t 1),.bin .sub (.t 37) (.t 38)]
def inB9 :List MOp:=[.mov (.t 40)]
def qk6 :MC:=.seq (.reg (.op (some 41) (.mov (.t 9)) (.op (some 42) (.mov (.t 1)) (.op (some 43) (.slSl sz (.t 41) (some (.t 42)) none none) (.op (some 44) (.mov (.t 2)) (.op (some 45) (.copy sh (.t 43) (.t 44)) .nil))))))
 (.seq (.draw [⟨(some 46),(.mov (.t 9)),none⟩,⟨(some 47),(.mov (.t 1)),none⟩,⟨(some 48),(.mov (.t 7)),none⟩,⟨(some 49),(.bin .add (.t 47) (.t 48)),none⟩,⟨(some 50),(.slSl sz (.t 46) (some (.t 49)) none none),none⟩,⟨(some 51),(.mov (.t 0)),none⟩,⟨(some 52),(.mov (.t 1)),none⟩,⟨(some 53),(.slSl sz (.t 51) (some (.t 52)) none none),none⟩,⟨(some 54),(.copy sh (.t 50) (.t 53)),none⟩] [])
 (.seq (.reg (.op (some 55) (.mov (.t 9)) (.op (some 6) (.mov (.t 55)) .nil))) .ret))
def qla :List MOp:=[.mov (.t 0),.mov (.t 8),.mov (.t 7),.bin .add (.t 57) (.t 58)]
def qk8 :List MOp:=[.mov (.t 60)]
def qk9 :List MOp:=[.mov (.t 2),.mov (.t 0),.mov (.t 1),.mov (.t 7),.bin .add (.t 63) (.t 64),.slSl sz (.t 62) (some (.t 65)) none none]
def qk7 :List MOp:=[.un .not (.t 67)]
def qk5 :MC:=.seq (.draw [⟨(some 69),(.mov (.t 0)),none⟩,⟨(some 70),(.mov (.t 1)),none⟩,⟨(some 71),(.mov (.t 7)),none⟩,⟨(some 72),(.bin .add (.t 70) (.t 71)),none⟩,⟨(some 73),(.slSl sz (.t 69) (some (.t 72)) none none),none⟩,⟨(some 74),(.mov (.t 0)),none⟩,⟨(some 75),(.mov (.t 1)),none⟩,⟨(some 76),(.slSl sz (.t 74) (some (.t 75)) none none),none⟩,⟨(some 77),(.copy sh (.t 73) (.t 76)),none⟩] [])
 (.seq (.reg (.op (some 78) (.mov (.t 0)) (.op (some 79) (.mov (.t 1)) (.op (some 80) (.slSl sz (.t 78) (some (.t 79)) none none) (.op (some 81) (.mov (.t 2)) (.op (some 82) (.copy sh (.t 80) (.t 81)) .nil))))))
 (.seq (.reg (.op (some 83) (.mov (.t 0)) (.op (some 6) (.mov (.t 83)) .nil))) .ret))
end
def imN :Im:=fun _=>false
structure InsOk (P:Program)(t it bt ut e:TypeId)(ov rr:Nat)(sh:Sh)(z:AV)(g sz:Nat):Prop where
 pre:mapO (comp P ⟨[],[],[],[]⟩ 1000000) (qfl t it bt ut ov rr)=some (qfq sh g sz)
 o8:mapO (zat P imN) (qk3 t it bt ut ov rr)=some inA8
 b8:mapO (zat P imN) (qk1 t it bt ut ov rr)=some inB8
 o9:mapO (zat P imN) (qk2 t it bt ut ov rr)=some (inA9 sz)
 b9:mapO (zat P imN) (qk0 t it bt ut ov rr)=some inB9
 s10:comp P ⟨[],[],[],[]⟩ 1000000 (qfe t it bt ut ov rr)=some (qk6 sh sz)
 o13:mapO (zat P imN) (qfp t it bt ut ov rr)=some qla
 b13:mapO (zat P imN) (qfn t it bt ut ov rr)=some qk8
 o14:mapO (zat P imN) (qfo t it bt ut ov rr)=some (qk9 sz)
 b14:mapO (zat P imN) (qfm t it bt ut ov rr)=some qk7
 s15:comp P ⟨[],[],[],[]⟩ 1000000 (qfd t it bt ut ov rr)=some (qk5 sh sz)
 ht:P.underlying t=some (.slice e)
 hit:P.underlying it=some (.int .i64)
 hz:zec P e=some (sh,z)
 hi:(P.info? e).map (fun i=>(i.bytes,i.size))=some (g,sz)
 hg:g<=1024
 hsz:sz=sh.size/\0<sz
 hsc:(match sh with| .sc=>false|_=>true)=true
 hov:∃fo,P.funcs[ov]? =some fo/\(fo.name== "runtime.NumGoroutine")=false/\fo.body.isNone=true/\Extern.findNext fo=none/\Extern.find fo=some (Extern.SlicesOverlaps.overlaps #[t,t] #[bt])
end Go.Ev
namespace Go.Ev
open Go
variable {gl :Gl} {cl:Cl} {sh:Sh} {z:AV} {g sz:Nat} {els:List AV} {x:AV} {i:Nat}
section
variable {t it bt ut:TypeId} {ov rr:Nat}
end
end Go.Ev
namespace Go.Ev
open Go
variable {P :Program} {F:Fence} {n:Nat} {gl:Gl} {cl:Cl} {L:Prop} {H:Heap} {G:Gh}
theorem InsOk.ne {t it bt ut e:TypeId}{ov rr:Nat}{sh:Sh}{z:AV}{g sz:Nat}(ok:InsOk P t it bt ut e ov rr sh z g sz):sh≠.sc:=by
 rintro rfl
 exact absurd ok.hsc (by simp)
end Go.Ev
