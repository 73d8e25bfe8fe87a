/-
  The code of the functions that this chapter reaches, as the evaluator has it. No condition.
-/
import Derived.Test.YtaloneiaejhopaaGreatDoorChecked
import Derived.Test.YtaloneiaejhopaaGreatDoorEvTop
import Derived.Test.YtaloneiaejhopaaGreatDoorEvIns
import Derived.Test.YtaloneiaejhopaaGreatDoorEvY
set_option linter.all false
open Nat renaming reduceEqDiff->wB,exists_eq_add_of_le'->wC
namespace Go.Proofs.S51
open Go Go.Ev Go.Proofs
set_option maxRecDepth 100000
noncomputable abbrev cf (fn:Func) (an:Ann) (pr:List (Nat×List (Nat×Nat)):=[]):MC:=cq Tryz.prog an pr 1000000 (fn.body.getD .skip)
def wc (fn:Func)(an:Ann)(pr:List (Nat×List (Nat×Nat)):=[]){m:MC}(h:cf fn an pr=m:=by conv=>lhs;cbv):MC:=m
attribute [go_sem] wc
open Tryz
abbrev a0 :Ann:=⟨[],[],[],[]⟩
set_option maxHeartbeats 20000000
abbrev Zq1 :AV:=.agg [(.int .i64 0),(.int .i64 0),(.int .i64 0),(.int .i64 0)]
abbrev Yq2 :Sh:=.st [.sc,.sc,.sc,.sc]
abbrev Yq3 :Sh:=.st [.sc,.sc,.sc,.sc,.sc,(.st [.sc,.sc]),.sc,(.ar 16 .sc)]
abbrev Yq5 :Sh:=.st [.sc,.sc,.sc,.sc,.sc]
abbrev Yq8 :Sh:=.st [.sc,.sc,.sc]
abbrev Xo :AV:=.agg [(.int .i64 0),(.int .i64 0),(.int .i64 0),(.int .i64 0),(.bool false)]
abbrev Xp :Sh:=.st [.sc,.sc,(.st [.sc,.sc])]
abbrev K34 :List Kp:=[.slot 4,.slot 5,.slot 15,.slot 16,.slot 17,.key 4,.key 5]
abbrev K54 :List Kp:=[.slot 3,.own 4 5004 .sc]
abbrev K47 :List Kp:=[.slot 2,.slot 4,.slot 5,.slot 6,.slot 7,.slot 21,.slot 22,.key 2,.key 4,.key 5,.key 6,.key 7]
abbrev O2 :List Kp:=[.slot 2,.slot 4,.slot 6,.slot 7,.slot 94,.key 2,.key 4,.key 6,.key 7]
abbrev K32 :List Kp:=[.slot 1,.slot 2,.slot 4,.key 2,.key 4]
abbrev K33 :List Kp:=[.slot 1,.slot 2,.slot 3,.own 4 5004 .sc,.key 1,.key 2]
abbrev LV :List Kp:=[.slot 1,.slot 2,.slot 3,.own 4 5004 .sc,.slot 23,.key 1,.key 2]
abbrev LU :List Kp:=[.slot 1,.slot 2,.slot 6,.slot 40,.key 1,.key 2,.key 6]
abbrev K48 :List Kp:=[.slot 5,.slot 19,.slot 20,.slot 21,.key 12,.key 15,.key 17,.fam 12 7000]
abbrev K68 :List Kp:=[.slot 0,.slot 6,.mv 100000 [0] 8000,.mv 100000 [1] 8001]
abbrev Xx :List Kp:=[.slot 0,.slot 4,.slot 5,.slot 6,.slot 7,.slot 8,.slot 57,.slot 58,.slot 59,.key 57]
abbrev K69 :List Kp:=[.slot 0,.slot 4,.slot 5,.slot 6,.slot 7]
abbrev K77 :List Kp:=[.slot 1,.slot 2,.slot 7,.slot 9,.slot 10,.slot 27,.slot 28,.slot 29,.key 7,.key 25]
abbrev Xw :List Kp:=[.slot 1,.slot 2,.slot 7,.slot 10,.slot 70,.slot 71,.slot 72,.key 7,.key 25]
abbrev K79 :List Kp:=[.slot 1,.slot 2,.slot 4,.slot 7,.slot 9,.slot 18,.slot 19,.slot 20,.key 4,.key 7,.key 16]
abbrev Xv :List Kp:=[.slot 7,.slot 9,.slot 63,.slot 64,.slot 65,.key 7,.key 16]
abbrev K87 :List Kp:=[.slot 0,.slot 1,.slot 4,.slot 12,.slot 13,.slot 14,.key 11]
abbrev Xu :List Kp:=[.slot 0,.slot 4,.slot 23,.slot 24,.slot 25,.key 11]
abbrev K42 :List Kp:=[.slot 1,.slot 2,.slot 7,.slot 8,.slot 9,.key 2]
abbrev K24 :List Kp:=[.slot 1,.slot 3,.slot 24,.slot 25,.key 1]
abbrev K55 :List Kp:=[.slot 0,.slot 2,.slot 4,.slot 8,.slot 9,.slot 10,.key 4]
abbrev K49 :List Kp:=[.slot 2,.slot 5,.slot 6,.key 2,.key 5,.key 6,.key 17,.key 22,.mv 22 [0] 6220,.mv 22 [1] 6221]
abbrev K90 :List Kp:=[.slot 0,.slot 1,.slot 2,.slot 14,.slot 15,.slot 16,.mv 100008 [0] 8080,.mv 100008 [1] 8081]
abbrev K50 :List Kp:=[.slot 6,.slot 7,.slot 22,.slot 23,.slot 24,.key 6,.key 7,.mv 7 [4] 6074]
abbrev XD :List Kp:=[.slot 1,.slot 5,.slot 12,.slot 13,.slot 14,.key 10]
abbrev Xt :List Kp:=[.slot 1,.slot 2,.slot 3,.slot 4,.slot 26,.slot 27,.slot 28,.key 4]
abbrev Xs :List Kp:=[.slot 1,.slot 2,.slot 48,.slot 49,.slot 50]
abbrev K92 :List Kp:=[.slot 0,.slot 1,.slot 7,.slot 8]
abbrev K95 :List Kp:=[.slot 0,.slot 1,.slot 5,.slot 16,.slot 17,.slot 18]
abbrev Xr :List Kp:=[.slot 0,.slot 5,.slot 29,.slot 30,.slot 31]
abbrev O0 :List Kp:=[.slot 1,.slot 2,.slot 3,.slot 4,.slot 12,.slot 13,.slot 37,.slot 38,.slot 39,.key 4,.key 12,.key 32,.key 35,.fam 35 7000]
abbrev K64 :List Kp:=[.slot 0,.slot 1,.slot 5,.slot 6]
abbrev O1 :List Kp:=[.slot 1,.slot 2,.slot 4,.slot 12,.slot 13,.slot 16,.slot 17,.slot 18,.own 19 5019 .sc,.slot 20,.key 4,.key 12,.key 32,.key 5017,.key 20,.nst 5016 5016]
abbrev DD :List Kp:=[.slot 1,.slot 2,.slot 4,.slot 12,.slot 13,.slot 16,.own 17 5017 .sc,.slot 18,.key 4,.key 12,.key 32,.nst 109 5016]
abbrev K62 :List Kp:=[.slot 0,.slot 1,.slot 3,.slot 5,.slot 7,.slot 21,.slot 22,.slot 23,.key 5,.nst 17 17,.nst 1017 1017]
abbrev K18 :List Kp:=[.slot 1,.slot 2,.slot 3,.slot 8,.slot 11,.slot 12,.key 8,.key 33,.key 34,.key 1034]
abbrev XB :List Kp:=[.slot 1,.slot 2,.slot 3,.slot 8,.slot 11,.slot 12,.slot 13,.slot 54,.slot 55,.key 8,.key 33,.key 34,.key 1034,.key 40]
abbrev UA :List Kp:=[.slot 1,.slot 2,.slot 3,.slot 8,.slot 11,.slot 12,.slot 15,.key 8,.key 33,.key 34,.key 1034]
abbrev K7p :List Kp:=[.slot 2,.slot 3,.slot 4,.own 8 5008 Xp,.slot 21,.slot 22,.slot 23,.key 3,.key 4]
abbrev K7q :List Kp:=[.slot 2,.slot 3,.slot 4,.own 8 5008 Xp,.slot 10,.slot 11,.slot 21,.slot 22,.slot 23,.slot 45,.slot 46,.slot 47,.key 3,.key 4,.key 10,.key 11,.key 45]
abbrev K12 :List Kp:=[.slot 0,.slot 1,.slot 2,.slot 3,.slot 13,.slot 14]
abbrev K14 :List Kp:=[.slot 1,.slot 2,.slot 6,.slot 7,.slot 15,.slot 16,.slot 17,.key 2,.key 14]
abbrev K3o :List Kp:=[.slot 2,.slot 5,.slot 7,.slot 8,.slot 10,.own 11 5011 Yq3,.slot 54,.slot 55,.slot 56,.key 2,.key 5,.key 52,.key 44]
abbrev K3i :List Kp:=[.slot 2,.slot 5,.slot 7,.slot 8,.slot 10,.own 11 5011 Yq3,.slot 12,.slot 13,.slot 14,.slot 54,.slot 55,.slot 56,.key 2,.key 5,.key 13,.key 52,.key 44]
abbrev Uz :List Kp:=[.slot 2,.slot 7,.slot 8,.slot 10,.slot 11,.slot 178,.slot 179,.slot 180,.key 2,.key 52,.key 44,.key 5011]
abbrev K36 :List Kp:=[.slot 2,.slot 7,.slot 11,.slot 198,.slot 199,.slot 200,.key 2,.key 44,.key 5011]
abbrev K17 :List Kp:=[.slot 1,.slot 3,.slot 20,.slot 21,.slot 22,.key 1,.key 18]
abbrev XC :List Kp:=[.slot 1,.slot 37,.slot 38,.slot 39,.key 1]
abbrev K52 :List Kp:=[.slot 1,.own 5 5005 .sc,.slot 9,.slot 10,.slot 11]
abbrev K19 :List Kp:=[.slot 1,.slot 2,.slot 3,.slot 19,.slot 20,.slot 21,.key 1,.key 2,.key 3,.mv 3 [1] 6031]
abbrev XA :List Kp:=[.slot 1,.slot 2,.slot 3,.slot 42,.slot 43,.slot 44,.key 1,.key 2,.key 3,.key 42,.mv 3 [1] 6031]
abbrev Xz :List Kp:=[.slot 1,.slot 2,.slot 3,.slot 65,.slot 66,.slot 67,.key 1,.key 2,.key 3,.key 65,.mv 3 [1] 6031]
abbrev Xy :List Kp:=[.slot 2,.slot 3,.slot 88,.slot 89,.slot 90,.key 2,.key 3,.mv 3 [1] 6031]
abbrev K20 :List Kp:=[.slot 1,.slot 3,.slot 7,.slot 8,.slot 9,.key 1,.key 7]
abbrev K7 :List Kp:=[.slot 2,.own 5 5005 Yq8,.slot 6,.slot 7,.slot 26,.slot 27,.slot 28,.key 2,.key 14]
abbrev a3 :Ann:=⟨[(0,K3o),(2,K3i),(4,Uz),(6,K36)],[],[44,173],[]⟩
noncomputable def m3:=wc f3 a3
noncomputable def fd3:Ev.Fd:=⟨m3,[.tmp 4],[],none⟩
abbrev a4 :Ann:=⟨[(0,[.slot 14,.slot 15,.slot 16])],[],[],[]⟩
noncomputable def m4:=wc f4 a4
noncomputable def fd4:Ev.Fd:=⟨m4,[.tmp 2],[],none⟩
abbrev a5 :Ann:=⟨[],[],[12,15],[]⟩
noncomputable def m5:=wc f5 a5
noncomputable def fd5:Ev.Fd:=⟨m5,[.tmp 0],[],none⟩
abbrev a7 :Ann:=⟨[(0,K7p),(2,K7q)],[],[],[]⟩
noncomputable def m7:=wc f7 a7
noncomputable def fd7:Ev.Fd:=⟨m7,[.tmp 6,.tmp 7],[.gen],none⟩
abbrev a8 :Ann:=⟨[],[],[],[(1,⟨80,[7,8,9],29000,30000⟩)]⟩
noncomputable def m8:=wc f8 a8
noncomputable def fd8:Ev.Fd:=⟨m8,[.cell 8 false 1,.cell 9 false 1],[],none⟩
noncomputable def rl8:List (Nat×RInfo):=dv ⟨[],[],[],[(1,⟨80,[7,8,9],29000,30000⟩)]⟩ 47 1000000 (Tryz.f8.body.getD .skip)
def Nx :MC:=(.seq (.reg (.o 10 (.m 38) .nil)) (.reg (.o 11 (.m 39) .nil)))
def Nw :MC:=(.block 2 (.seq (.seq (.reg (.o 40 (.l 7) (.o 41 (.m 10) (.o 42 (.b .lss 40 41) .nil)))) (.cond (.t 42) (.seq (.reg (.o 43 (.m 11) (.u (.S 1 8 43) (.u (.store 1 (.t 9) (.i 0)) .nil)))) .ret) .skip)) (.reg (.o 44 (.l 7) (.o 45 (.m 10) (.o 46 (.b .sub 44 45) (.u (.S 1 7 46) .nil)))))))
def A5 :Ev.Fd:=⟨.skip,[],[],some (lz [38,39] [7,8,9] Nx Nw)⟩
abbrev a12 :Ann:=⟨[(0,K12)],[],[],[]⟩
noncomputable def m12:=wc f12 a12
noncomputable def TK:Ev.Fd:=⟨m12,[.tmp 8],[.gen],none⟩
noncomputable def m10:=wc f10 a0
noncomputable def TM:Ev.Fd:=⟨m10,[.cell 2 true 5],[],none⟩
noncomputable def m9:=wc f9 a0
noncomputable def fd9:Ev.Fd:=⟨m9,[.cell 14 true 24,.tmp 15],[],none⟩
noncomputable def m11:=wc f11 a0
noncomputable def TL:Ev.Fd:=⟨m11,[.tmp 4],[],none⟩
noncomputable def m13:=wc f13 a0
noncomputable def TJ:Ev.Fd:=⟨m13,[.tmp 4],[],none⟩
abbrev a14 :Ann:=⟨[(0,K14)],[],[],[]⟩
noncomputable def m14:=wc f14 a14
noncomputable def TI:Ev.Fd:=⟨m14,[.tmp 4,.tmp 5],[],none⟩
noncomputable def m6:=wc f6 a0
noncomputable def fd6:Ev.Fd:=⟨m6,[.cell 2 true 5,.tmp 3],[],none⟩
abbrev a16 :Ann:=⟨[(0,[.slot 1,.slot 3,.slot 4,.key 1])],[],[],[]⟩
noncomputable def m16:=wc f16 a16
noncomputable def TH:Ev.Fd:=⟨m16,[.tmp 2],[],none⟩
noncomputable def m15:=wc f15 a0
noncomputable def Gy:Ev.Fd:=⟨m15,[.tmp 2],[],none⟩
noncomputable def m17:=wc f17 a0
noncomputable def Od:Ev.Fd:=⟨m17,[.cell 4 true 3,.tmp 5],[],none⟩
noncomputable def m19:=wc f19 a0
noncomputable def TG:Ev.Fd:=⟨m19,[.tmp 6],[],none⟩
noncomputable def m18:=wc f18 a0
noncomputable def Oc:Ev.Fd:=⟨m18,[.cell 8 true 3,.tmp 9],[],none⟩
abbrev a24 :Ann:=⟨[(0,K7)],[],[],[]⟩
noncomputable def m24:=wc f24 a24 [(33,[(6,14),(7,14),(8,14),(9,14),(10,14),(11,14)])]
noncomputable def TD:Ev.Fd:=⟨m24,[.tmp 4],[.own Yq8],none⟩
noncomputable def m25:=wc f25 a0
noncomputable def TC:Ev.Fd:=⟨m25,[.cell 2 true 2,.tmp 3],[],none⟩
noncomputable def m26:=wc f26 a0
noncomputable def TB:Ev.Fd:=⟨m26,[.cell 6 true 2,.tmp 7],[],none⟩
noncomputable def m27:=wc f27 a0
noncomputable def TA:Ev.Fd:=⟨m27,[.tmp 6],[],none⟩
noncomputable def m41:=wc f41 a0
noncomputable def Tn:Ev.Fd:=⟨m41,[.cell 4 true 2,.tmp 5],[],none⟩
noncomputable def m28:=wc f28 a0
noncomputable def Tz:Ev.Fd:=⟨m28,[.cell 4 true 3,.tmp 5],[],none⟩
def Ob :Ev.Fd:=⟨.skip,[],[],some fun _=>iY .sc⟩
abbrev a35 :Ann:=⟨[],[],[16],[]⟩
noncomputable def m35:=wc f35 a35
noncomputable def Tu:Ev.Fd:=⟨m35,[.cell 6 true 16],[],none⟩
noncomputable def m36:=wc f36 a0
noncomputable def Tt:Ev.Fd:=⟨m36,[.tmp 2],[.own .sc],none⟩
noncomputable def m33:=wc f33 a0
noncomputable def Tv:Ev.Fd:=⟨m33,[.tmp 6],[],none⟩
noncomputable def m32:=wc f32 a0
noncomputable def Tw:Ev.Fd:=⟨m32,[.tmp 4],[],none⟩
noncomputable def m29:=wc f29 a0
noncomputable def Ty:Ev.Fd:=⟨m29,[.tmp 2],[],none⟩
noncomputable def m30:=wc f30 a0
noncomputable def Ku:Ev.Fd:=⟨m30,[.tmp 2],[],none⟩
noncomputable def m31:=wc f31 a0
noncomputable def Tx:Ev.Fd:=⟨m31,[.tmp 2],[],none⟩
abbrev a22 :Ann:=⟨[(0,K19),(2,XA),(4,Xz),(6,Xy)],[],[],[]⟩
noncomputable def m22:=wc f22 a22
noncomputable def Kv:Ev.Fd:=⟨m22,[.cell 2 true 2],[],none⟩
noncomputable def m37:=wc f37 a0
noncomputable def Ts:Ev.Fd:=⟨m37,[.tmp 3],[],none⟩
abbrev a42 :Ann:=⟨[(0,[.slot 1,.slot 3,.slot 7,.slot 8,.slot 9,.key 1])],[],[],[]⟩
noncomputable def m42:=wc f42 a42
noncomputable def Kt:Ev.Fd:=⟨m42,[.tmp 2],[],none⟩
noncomputable def m43:=wc f43 a0
noncomputable def Ks:Ev.Fd:=⟨m43,[.cell 4 true 4,.tmp 5],[],none⟩
abbrev a23 :Ann:=⟨[(0,K20)],[],[],[]⟩
noncomputable def m23:=wc f23 a23
noncomputable def TE:Ev.Fd:=⟨m23,[.tmp 2],[],none⟩
abbrev a20 :Ann:=⟨[(0,K17),(2,XC)],[],[],[]⟩
noncomputable def m20:=wc f20 a20
noncomputable def TF:Ev.Fd:=⟨m20,[.tmp 2],[],none⟩
abbrev a21 :Ann:=⟨[(0,K18),(2,XB),(4,UA)],[],[34,40,49,90,96],[]⟩
noncomputable def m21:=wc f21 a21
noncomputable def Kw:Ev.Fd:=⟨m21,[.cell 8 true 5,.tmp 9],[],none⟩
abbrev a44 :Ann:=⟨[(0,[.slot 1,.slot 3,.key 1]),(2,[.slot 1,.slot 3,.slot 5,.key 1]),(4,[.slot 1,.slot 6,.key 1])],[],[],[]⟩
noncomputable def m44:=wc f44 a44
noncomputable def Kr:Ev.Fd:=⟨m44,[.tmp 2],[],none⟩
abbrev a45 :Ann:=⟨[(0,K24)],[],[],[]⟩
noncomputable def m45:=wc f45 a45
noncomputable def C2:Ev.Fd:=⟨m45,[.tmp 2],[],none⟩
noncomputable def m50:=wc f50 a0
noncomputable def Tj:Ev.Fd:=⟨m50,[.tmp 4],[],none⟩
noncomputable def m49:=wc f49 a0
noncomputable def Oa:Ev.Fd:=⟨m49,[.cell 6 true 4,.tmp 7],[],none⟩
noncomputable def m46:=wc f46 a0
noncomputable def Tm:Ev.Fd:=⟨m46,[.tmp 2],[],none⟩
noncomputable def m47:=wc f47 a0
noncomputable def Tl:Ev.Fd:=⟨m47,[.tmp 2],[],none⟩
noncomputable def m48:=wc f48 a0
noncomputable def Tk:Ev.Fd:=⟨m48,[.tmp 6],[],none⟩
abbrev a51 :Ann:=⟨[(0,[.slot 1,.slot 5,.slot 12,.slot 13,.slot 14])],[],[],[]⟩
noncomputable def m51:=wc f51 a51
noncomputable def Ti:Ev.Fd:=⟨m51,[.tmp 4],[],none⟩
abbrev a52 :Ann:=⟨[],[],[29],[]⟩
noncomputable def m52:=wc f52 a52
noncomputable def N9:Ev.Fd:=⟨m52,[.tmp 6],[.own Yq2],none⟩
noncomputable def m61:=wc f61 a0
noncomputable def Km:Ev.Fd:=⟨m61,[.cell 4 true 2],[],none⟩
abbrev a62 :Ann:=⟨[(0,K62)],[],[17,47,48,27],[]⟩
noncomputable def m62:=wc f62 a62 [(40,[(3,7),(4,7)])]
noncomputable def Kl:Ev.Fd:=⟨m62,[],[.gen],none⟩
abbrev a67 :Ann:=⟨[(0,K34)],[],[],[]⟩
noncomputable def m67:=wc f67 a67
noncomputable def Ta:Ev.Fd:=⟨m67,[.cell 4 true 16],[],none⟩
abbrev a68 :Ann:=⟨[(0,[.slot 0,.slot 3,.slot 9,.slot 10,.slot 11]),(2,[.slot 6,.slot 25,.slot 26,.slot 27,.key 24])],[],[24],[]⟩
noncomputable def m68:=wc f68 a68
noncomputable def S9:Ev.Fd:=⟨m68,[.tmp 2],[.gen],none⟩
noncomputable def m69:=wc f69 a0
noncomputable def S8:Ev.Fd:=⟨m69,[.tmp 2],[.own .sc],none⟩
noncomputable def m66:=wc f66 a0
noncomputable def N7:Ev.Fd:=⟨m66,[.tmp 10],[],none⟩
abbrev a60 :Ann:=⟨[(0,K52)],[],[],[]⟩
noncomputable def m60:=wc f60 a60
noncomputable def Td:Ev.Fd:=⟨m60,[.tmp 4],[.own .sc],none⟩
abbrev a38 :Ann:=⟨[(0,K42)],[],[],[]⟩
noncomputable def m38:=wc f38 a38
noncomputable def Tq:Ev.Fd:=⟨m38,[.tmp 4],[],none⟩
abbrev a39 :Ann:=⟨[],[],[10],[(0,⟨390,[5],29000,30000⟩)]⟩
noncomputable def m39:=wc f39 a39
noncomputable def Tp:Ev.Fd:=⟨m39,[.tmp 4],[],none⟩
noncomputable def UQ:List (Nat×RInfo):=dv ⟨[],[],[],[(0,⟨390,[5],29000,30000⟩)]⟩ 18 1000000 (Tryz.f39.body.getD .skip)
def I6 :MC:=(.reg (.o 7 (.alloc Yq2 Zq1) (.u (.S 4 7 12) .nil)))
def I4 :MC:=(.block 1 (.reg (.o 13 (.l 5) (.o 14 (.a 2 2 7) (.o 15 (.l 14) (.o 16 (.b .add 13 15) (.u (.S 1 5 16) .nil)))))))
def yK :Ev.Fd:=⟨.skip,[],[],some (lz [11,12] [5] I6 I4)⟩
noncomputable def m40:=wc f40 a0
noncomputable def To:Ev.Fd:=⟨m40,[.tmp 4],[],none⟩
noncomputable def m73:=wc f73 a0
noncomputable def S3:Ev.Fd:=⟨m73,[.tmp 4],[],none⟩
noncomputable def m72:=wc f72 a0
noncomputable def Kj:Ev.Fd:=⟨m72,[.cell 6 true 4,.tmp 7],[],none⟩
noncomputable def m53:=wc f53 a0
noncomputable def Kq:Ev.Fd:=⟨m53,[.tmp 2],[],none⟩
abbrev a54 :Ann:=⟨[(0,[.slot 3,.slot 20,.slot 21,.slot 22,.key 1])],[],[],[]⟩
noncomputable def m54:=wc f54 a54
noncomputable def Th:Ev.Fd:=⟨m54,[.tmp 2],[],none⟩
abbrev a56 :Ann:=⟨[(0,K48)],[(0,[.slot 5,.slot 19,.slot 20,.slot 21,.key 12,.key 15,.key 17,.fam 12 7000,.frz 17 [2]])],[12],[]⟩
noncomputable def m56:=wc f56 a56 [(26,[(2,16),(3,16),(4,16),(5,16)]),(44,[(2,16),(3,16),(4,16),(5,16)])]
noncomputable def N8:Ev.Fd:=⟨m56,[.tmp 4],[.gen],none⟩
abbrev a58 :Ann:=⟨[(0,K50)],[],[],[]⟩
noncomputable def m58:=wc f58 a58
noncomputable def Ko:Ev.Fd:=⟨m58,[.cell 6 true 5],[.gen],none⟩
abbrev a59 :Ann:=⟨[],[],[21],[]⟩
noncomputable def m59:=wc f59 a59
noncomputable def Te:Ev.Fd:=⟨m59,[.tmp 8],[.gen],none⟩
abbrev a57 :Ann:=⟨[(0,K49)],[],[25,34,45],[(2,⟨570,[2,5,6,7,8],29000,30000⟩)]⟩
noncomputable def m57:=wc f57 a57
noncomputable def Tf:Ev.Fd:=⟨m57,[.tmp 4],[.gen],none⟩
noncomputable def UP:List (Nat×RInfo):=dv ⟨[],[],[],[(2,⟨570,[2,5,6,7,8],29000,30000⟩)]⟩ 71 1000000 (Tryz.f57.body.getD .skip)
def Aw :MC:=(.reg (.o 9 (.alloc Yq5 Xo) (.u (.S 5 9 46) .nil)))
def Av :MC:=(.block 3 (.seq (.draw [(.o 47 (.l 7)),(.o 48 (.l 2)),(.o 49 (.l 8)),(.o 50 (.L 5 9)),(.o 51 (.call 86 [(.t 48),(.t 49),(.t 50)] .lend)),(.o 52 (.b .add 47 51)),(.o 10 (.m 52))] []) (.seq (.reg (.o 53 (.m 10) (.o 54 (.l 5) (.o 55 (.a 1 1 9) (.o 56 (.l 55) (.o 57 (.I 1 54 56) (.o 58 (.l 57) (.o 59 (.b .lss 53 58) .nil)))))))) (.cond (.t 59) (.seq (.reg (.o 60 (.l 5) (.o 61 (.a 1 1 9) (.o 62 (.l 61) (.o 63 (.m 10) (.o 64 (.I 1 60 62) (.u (.S 1 64 63) .nil))))))) (.reg (.o 65 (.l 6) (.o 66 (.m 10) (.o 67 (.a 1 1 9) (.o 68 (.l 67) (.o 69 (.call 83 [(.t 65),(.t 66),(.t 68)] .imp) .nil))))))) .skip))))
def lu :Ev.Fd:=⟨.skip,[],[],some (lz [46] [2,5,6,7,8] Aw Av)⟩
noncomputable def m55:=wc f55 a0
noncomputable def Tg:Ev.Fd:=⟨m55,[.tmp 8],[],none⟩
noncomputable def m75:=wc f75 a0
noncomputable def oG:Ev.Fd:=⟨m75,[.tmp 4],[],none⟩
noncomputable def m74:=wc f74 a0
noncomputable def oH:Ev.Fd:=⟨m74,[.tmp 2],[],none⟩
noncomputable def m78:=wc f78 a0
noncomputable def Kh:Ev.Fd:=⟨m78,[.tmp 4],[],none⟩
abbrev a77 :Ann:=⟨[(0,[.slot 3,.slot 6,.slot 7,.slot 8])],[],[],[]⟩
noncomputable def m77:=wc f77 a77
noncomputable def Ki:Ev.Fd:=⟨m77,[.tmp 2],[],none⟩
abbrev a76 :Ann:=⟨[(0,K55)],[],[],[]⟩
noncomputable def m76:=wc f76 a76
noncomputable def S2:Ev.Fd:=⟨m76,[.tmp 6,.tmp 7],[],none⟩
def S0 :Ev.Fd:=⟨.skip,[],[],some fun _=>l6 Yq2⟩
def S1 :Ev.Fd:=⟨.skip,[],[],some fun _=>iY Yq2⟩
abbrev a89 :Ann:=⟨[],[],[29],[]⟩
noncomputable def m89:=wc f89 a89
noncomputable def Kg:Ev.Fd:=⟨m89,[.tmp 6],[.own Yq2],none⟩
abbrev a63 :Ann:=⟨[(0,O0),(2,DD),(4,O1)],[(0,[.slot 1,.slot 2,.slot 3,.slot 4,.slot 12,.slot 13,.slot 37,.slot 38,.slot 39,.key 4,.key 12,.key 32,.key 35,.fam 35 7000,.frs 13]),(5,[.slot 1,.slot 2,.slot 4,.slot 12,.slot 13,.slot 16,.slot 17,.slot 18,.own 19 5019 .sc,.slot 20,.key 4,.key 12,.key 32,.key 5017,.nst 5016 5016,.nst 20 5020])],[104,113,35,109],[]⟩
noncomputable def m63:=wc f63 a63 [(44,[(1,10),(2,10)]),(106,[(3,5)])]
noncomputable def Tc:Ev.Fd:=⟨m63,[.tmp 8,.tmp 9,.tmp 10],[.gen],none⟩
noncomputable def m65:=wc f65 a0
noncomputable def Tb:Ev.Fd:=⟨m65,[.tmp 3],[],none⟩
abbrev a64 :Ann:=⟨[(0,K64)],[],[],[]⟩
noncomputable def m64:=wc f64 a64
noncomputable def Kk:Ev.Fd:=⟨m64,[.tmp 4],[.gen],none⟩
noncomputable def m99:=wc f99 a0
noncomputable def SJ:Ev.Fd:=⟨m99,[.cell 0 true 73],[],none⟩
abbrev Xn :Ann:=⟨[(0,K32)],[],[],[]⟩
noncomputable def R3:=wc f100 Xn
noncomputable def KR:Ev.Fd:=⟨R3,[.cell 4 true 73],[],none⟩
abbrev Xm :Ann:=⟨[(0,K33),(2,LV),(4,LU)],[],[],[]⟩
noncomputable def I7:=wc f102 Xm
noncomputable def KP:Ev.Fd:=⟨I7,[.cell 2 true 32],[],none⟩
noncomputable def Vj:=wc f101 a0
noncomputable def KQ:Ev.Fd:=⟨Vj,[.tmp 2],[.own .sc],none⟩
noncomputable def Vi:=wc f103 a0
noncomputable def KO:Ev.Fd:=⟨Vi,[.tmp 4],[.gen],none⟩
abbrev Xl :Ann:=⟨[(0,[.slot 1,.own 5 5005 .sc,.slot 11,.slot 12,.slot 13])],[],[],[]⟩
noncomputable def R2:=wc f104 Xl
noncomputable def KN:Ev.Fd:=⟨R2,[.tmp 4],[.own .sc],none⟩
abbrev Xk :Ann:=⟨[(0,K54)],[],[],[]⟩
noncomputable def R1:=wc f105 Xk
noncomputable def KM:Ev.Fd:=⟨R1,[.tmp 2],[.own .sc],none⟩
abbrev a96 :Ann:=⟨[(0,K77),(2,Xw)],[],[],[]⟩
noncomputable def m96:=wc f96 a96
noncomputable def SM:Ev.Fd:=⟨m96,[.tmp 8],[],none⟩
abbrev a97 :Ann:=⟨[(0,[.slot 5,.slot 30,.slot 31,.slot 32,.key 5])],[],[],[]⟩
noncomputable def m97:=wc f97 a97
noncomputable def SL:Ev.Fd:=⟨m97,[.tmp 6],[],none⟩
abbrev a98 :Ann:=⟨[(0,K79),(2,Xv)],[],[],[]⟩
noncomputable def m98:=wc f98 a98
noncomputable def SK:Ev.Fd:=⟨m98,[.tmp 8],[],none⟩
noncomputable def m70:=wc f70 a0
noncomputable def S6:Ev.Fd:=⟨m70,[.tmp 4],[.gen],none⟩
abbrev a71 :Ann:=⟨[(0,K92)],[],[],[]⟩
noncomputable def m71:=wc f71 a71
noncomputable def S5:Ev.Fd:=⟨m71,[.tmp 4],[],none⟩
abbrev Xi :Ann:=⟨[(0,K55)],[],[],[]⟩
noncomputable def R0:=wc f107 Xi
noncomputable def A6:Ev.Fd:=⟨R0,[.tmp 6,.tmp 7],[],none⟩
noncomputable def m81:=wc f81 a0
noncomputable def SZ:Ev.Fd:=⟨m81,[.tmp 3],[],none⟩
abbrev a87 :Ann:=⟨[(0,[.slot 0,.slot 3,.slot 10,.slot 11,.slot 12])],[],[],[]⟩
noncomputable def m87:=wc f87 a87
noncomputable def SU:Ev.Fd:=⟨m87,[.tmp 2],[],none⟩
abbrev a88 :Ann:=⟨[],[],[25],[(0,⟨880,[3,4,5,6,7,9],29000,30000⟩)]⟩
noncomputable def m88:=wc f88 a88
noncomputable def CZ:Ev.Fd:=⟨m88,[.tmp 8],[.gen],none⟩
noncomputable def UO:List (Nat×RInfo):=dv ⟨[],[],[],[(0,⟨880,[3,4,5,6,7,9],29000,30000⟩)]⟩ 80 1000000 (Tryz.f88.body.getD .skip)
def sX :MC:=(.reg (.o 10 (.alloc Yq5 Xo) (.u (.S 5 10 26) .nil)))
def sS :MC:=(.block 1 (.seq (.seq (.reg (.o 27 (.l 9) (.o 28 (.l 7) (.o 29 (.b .eql 27 28) .nil)))) (.cond (.t 29) (.exit 0) .skip)) (.seq (.seq (.reg (.o 30 (.l 3) (.o 31 (.a 1 1 10) (.o 32 (.l 31) (.o 33 (.I 1 30 32) (.o 34 (.l 33) (.o 35 (.m 34) (.ite 35 false (.o 36 (.l 4) (.o 37 (.l 6) (.o 38 (.L 5 10) (.o 39 (.call 86 [(.t 36),(.t 37),(.t 38)] .lend) (.o 40 (.bin .neq (.t 39) (.i 0)) .nil))))) 36 41 41 (.c (.bool true)) (.t 40) .nil)))))))) (.cond (.t 41) (.exit 1) .skip)) (.seq (.reg (.o 42 (.l 5) (.o 43 (.a 1 1 10) (.o 44 (.l 43) (.o 45 (.a 2 2 10) (.o 46 (.l 45) (.o 47 (.l 7) (.o 48 (.l 9) (.o 49 (.b .sub 47 48) (.o 50 (.mini [(.t 46),(.t 49)]) (.o 51 (.callv (.t 42) [(.t 44),(.t 50)] .imp) (.o 11 (.m 51) .nil)))))))))))) (.seq (.seq (.reg (.o 52 (.a 4 4 10) (.o 53 (.l 52) .nil))) (.cond (.t 53) (.reg (.o 54 (.m 11) (.o 55 (.un .neg (.t 54)) (.o 11 (.m 55) .nil)))) .skip)) (.seq (.draw [(.o 56 (.l 4)),(.o 57 (.nilck (.t 56))),(.o 58 (.a 1 2 57)),(.o 59 (.l 58)),(.o 60 (.a 0 0 10)),(.o 61 (.l 60)),(.o 62 (.I 1 59 61)),(.o 63 (.l 62)),(.o 64 (.m 11)),(.o 65 (.b .add 63 64)),(.o 66 (.I 1 59 61)),(.u (.S 1 66 65))] []) (.reg (.o 67 (.l 9) (.o 68 (.m 11) (.o 69 (.m 11) (.o 70 (.un .neg (.t 69)) (.o 71 (.maxi [(.t 68),(.t 70)]) (.o 72 (.b .add 67 71) (.u (.S 1 9 72) .nil))))))))))))))
def iX :Ev.Fd:=⟨.skip,[],[],some (lz [26] [3,4,5,6,7,9] sX sS)⟩
abbrev a83 :Ann:=⟨[(0,K68)],[],[62],[]⟩
noncomputable def m83:=wc f83 a83 [(7,[(8,11),(8,12)])]
noncomputable def C1:Ev.Fd:=⟨m83,[],[.gen],none⟩
noncomputable def m86:=wc f86 a0
noncomputable def SV:Ev.Fd:=⟨m86,[.tmp 6],[],none⟩
abbrev a82 :Ann:=⟨[(0,[.slot 7,.slot 8,.key 30])],[],[],[]⟩
noncomputable def m82:=wc f82 a82
noncomputable def SY:Ev.Fd:=⟨m82,[.tmp 4],[.own .sc],none⟩
noncomputable def m85:=wc f85 a0
noncomputable def SW:Ev.Fd:=⟨m85,[.tmp 4],[.gen],none⟩
abbrev a84 :Ann:=⟨[(0,K69),(2,Xx)],[],[31,93],[]⟩
noncomputable def m84:=wc f84 a84 [(32,[(13,16)])]
noncomputable def SX:Ev.Fd:=⟨m84,[.tmp 2,.tmp 3],[.gen],none⟩
noncomputable def Vh:=wc f108 a0
noncomputable def KK:Ev.Fd:=⟨Vh,[.tmp 2],[],none⟩
def KH :Ev.Fd:=⟨.skip,[],[],some fun _=>l6 Yq2⟩
def Ez :Ev.Fd:=⟨.skip,[],[],some fun _=>iY Yq2⟩
abbrev a90 :Ann:=⟨[(0,Xt),(2,Xs)],[],[],[]⟩
noncomputable def m90:=wc f90 a90
noncomputable def SS:Ev.Fd:=⟨m90,[.tmp 8],[],none⟩
noncomputable def m91:=wc f91 a0
noncomputable def SQ:Ev.Fd:=⟨m91,[.tmp 6],[],none⟩
noncomputable def m93:=wc f93 a0
noncomputable def SP:Ev.Fd:=⟨m93,[.tmp 3],[],none⟩
abbrev a92 :Ann:=⟨[(0,K92)],[],[],[]⟩
noncomputable def m92:=wc f92 a92
noncomputable def Kf:Ev.Fd:=⟨m92,[.tmp 4],[],none⟩
abbrev a95 :Ann:=⟨[(0,K95),(2,Xr)],[],[],[]⟩
noncomputable def m95:=wc f95 a95
noncomputable def SN:Ev.Fd:=⟨m95,[.tmp 4],[.gen],none⟩
noncomputable def m94:=wc f94 a0
noncomputable def SO:Ev.Fd:=⟨m94,[.tmp 4],[],none⟩
abbrev Xf :Ann:=⟨[(0,K47),(2,O2)],[],[],[]⟩
noncomputable def Nz:=wc f120 Xf [(15,[(3,8),(4,8),(5,8)])]
noncomputable def KC:Ev.Fd:=⟨Nz,[.cell 4 true 8],[],none⟩
noncomputable def Vd:=wc f118 a0
noncomputable def KE:Ev.Fd:=⟨Vd,[.tmp 4],[],none⟩
noncomputable def Vc:=wc f119 a0
noncomputable def KD:Ev.Fd:=⟨Vc,[.tmp 2],[],none⟩
abbrev Xj :Ann:=⟨[(0,K87),(2,Xu)],[],[47],[]⟩
noncomputable def NA:=wc f106 Xj
noncomputable def KL:Ev.Fd:=⟨NA,[],[.gen],none⟩
noncomputable def Vf:=wc f112 a0
noncomputable def KI:Ev.Fd:=⟨Vf,[],[.gen],none⟩
noncomputable def Vg:=wc f111 a0
noncomputable def KJ:Ev.Fd:=⟨Vg,[.tmp 4,.tmp 5],[],none⟩
abbrev Xh :Ann:=⟨[(0,K90)],[],[68],[]⟩
noncomputable def Ci:=wc f113 Xh
noncomputable def lv:Ev.Fd:=⟨Ci,[],[.gen],none⟩
noncomputable def Ve:=wc f116 a0
noncomputable def KG:Ev.Fd:=⟨Ve,[.tmp 6],[],none⟩
abbrev Xg :Ann:=⟨[(0,XD)],[],[],[]⟩
noncomputable def RZ:=wc f117 Xg
noncomputable def KF:Ev.Fd:=⟨RZ,[.tmp 4],[],none⟩
abbrev Xe :Ann:=⟨[(0,[.slot 0,.slot 2,.slot 3,.slot 11,.key 2,.key 3]),(2,[.slot 0,.slot 2,.slot 3,.slot 4,.slot 11,.slot 22,.slot 23,.slot 24,.key 2,.key 3])],[],[],[]⟩
noncomputable def Ny:=wc f126 Xe
noncomputable def KA:Ev.Fd:=⟨Ny,[.cell 2 true 64],[],none⟩
noncomputable def Va:=wc f127 a0
noncomputable def Kz:Ev.Fd:=⟨Va,[.tmp 8],[],none⟩
noncomputable def XW:=wc f122 a0
noncomputable def VU:Ev.Fd:=⟨XW,[.tmp 4,.tmp 5],[],none⟩
noncomputable def Vb:=wc f123 a0
noncomputable def KB:Ev.Fd:=⟨Vb,[.tmp 4,.tmp 5],[],none⟩
noncomputable def U9:=wc f130 a0
noncomputable def Kx:Ev.Fd:=⟨U9,[.tmp 4],[],none⟩
noncomputable def ri:Nat->Option RInfo:=fun r=>match r with
 | 80=>(rl8[0]?).map (·.2)
 | 390=>(UQ[0]?).map (·.2)
 | 570=>(UP[0]?).map (·.2)
 | 880=>(UO[0]?).map (·.2)
 | _=>none
def kList :List (BitVec 32):=[0x428a2f98#32,0x71374491#32,0xb5c0fbcf#32,0xe9b5dba5#32,0x3956c25b#32,0x59f111f1#32,0x923f82a4#32,0xab1c5ed5#32,
 0xd807aa98#32,0x12835b01#32,0x243185be#32,0x550c7dc3#32,0x72be5d74#32,0x80deb1fe#32,0x9bdc06a7#32,0xc19bf174#32,
 0xe49b69c1#32,0xefbe4786#32,0x0fc19dc6#32,0x240ca1cc#32,0x2de92c6f#32,0x4a7484aa#32,0x5cb0a9dc#32,0x76f988da#32,
 0x983e5152#32,0xa831c66d#32,0xb00327c8#32,0xbf597fc7#32,0xc6e00bf3#32,0xd5a79147#32,0x06ca6351#32,0x14292967#32,
 0x27b70a85#32,0x2e1b2138#32,0x4d2c6dfc#32,0x53380d13#32,0x650a7354#32,0x766a0abb#32,0x81c2c92e#32,0x92722c85#32,
 0xa2bfe8a1#32,0xa81a664b#32,0xc24b8b70#32,0xc76c51a3#32,0xd192e819#32,0xd6990624#32,0xf40e3585#32,0x106aa070#32,
 0x19a4c116#32,0x1e376c08#32,0x2748774c#32,0x34b0bcb5#32,0x391c0cb3#32,0x4ed8aa4a#32,0x5b9cca4f#32,0x682e6ff3#32,
 0x748f82ee#32,0x78a5636f#32,0x84c87814#32,0x8cc70208#32,0x90befffa#32,0xa4506ceb#32,0xbef9a3f7#32,0xc67178f2#32]
def kA :List AV:=kList.map fun x=>.int .u32 (x.toNat:Int)
def glT :Nat->Option (Sh×AV):=fun g=>match g with
 | 0=>some (.ar 64 .sc,.agg kA)
 | _=>none
noncomputable def glS:Gl:=⟨glT,ri⟩
theorem U1 :FnOk Tryz.prog glS 1000080 A5:=.round 80 [38,39] [7,8,9] Nx Nw rfl rfl ⟨⟨((rl8[0]?).map (·.2)).getD default,⟨[],[],[],[]⟩,1000000,1000000,by kernel_rfl,by kernel_rfl,by kernel_rfl,by kernel_rfl,by kernel_rfl,by kernel_rfl,by kernel_rfl,by kernel_rfl⟩⟩
theorem XV :FnOk Tryz.prog glS 34 Ob:=.given _ rfl (by decide) (uh (fn:=Tryz.f34) (t:=28) (b:=4) (e:=3) (z:=(.int .i64 0)) (g:=8) (by kernel_rfl) Tryz.func34 (by kernel_rfl) (by kernel_rfl) (by kernel_rfl) (by decide) (by kernel_rfl) (by kernel_rfl) (by kernel_rfl) (by kernel_rfl) (by decide))
theorem RO :FnOk Tryz.prog glS 1000390 yK:=.round 390 [11,12] [5] I6 I4 rfl rfl ⟨⟨((UQ[0]?).map (·.2)).getD default,⟨[],[],[],[]⟩,1000000,1000000,by kernel_rfl,by kernel_rfl,by kernel_rfl,by kernel_rfl,by kernel_rfl,by kernel_rfl,by kernel_rfl,by kernel_rfl⟩⟩
theorem RM :FnOk Tryz.prog glS 1000570 lu:=.round 570 [46] [2,5,6,7,8] Aw Av rfl rfl ⟨⟨((UP[0]?).map (·.2)).getD default,⟨[],[],[69],[]⟩,1000000,1000000,by kernel_rfl,by kernel_rfl,by kernel_rfl,by kernel_rfl,by kernel_rfl,by kernel_rfl,by kernel_rfl,by kernel_rfl⟩⟩
theorem XT :FnOk Tryz.prog glS 80 S0:=.given _ rfl (by decide) (vT (fn:=Tryz.f80) (t:=67) (it:=3) (bt:=4) (ut:=0) (e:=115) (ov:=109) (rr:=110) (sh:=Yq2) (z:=Zq1) (g:=32) (sz:=4) (by kernel_rfl) Tryz.func80 (by kernel_rfl) (by kernel_rfl) (by kernel_rfl) (by decide) ⟨by kernel_rfl,by kernel_rfl,by kernel_rfl,by kernel_rfl,by kernel_rfl,by kernel_rfl,by kernel_rfl,by kernel_rfl,by kernel_rfl,by kernel_rfl,by kernel_rfl,by kernel_rfl,by kernel_rfl,by kernel_rfl,by kernel_rfl,by decide,by decide,rfl,⟨Tryz.f109,Tryz.func109,by kernel_rfl,by kernel_rfl,by kernel_rfl,by kernel_rfl⟩⟩)
theorem XU :FnOk Tryz.prog glS 79 S1:=.given _ rfl (by decide) (uh (fn:=Tryz.f79) (t:=67) (b:=4) (e:=115) (z:=Zq1) (g:=32) (by kernel_rfl) Tryz.func79 (by kernel_rfl) (by kernel_rfl) (by kernel_rfl) (by decide) (by kernel_rfl) (by kernel_rfl) (by kernel_rfl) (by kernel_rfl) (by decide))
theorem RK :FnOk Tryz.prog glS 1000880 iX:=.round 880 [26] [3,4,5,6,7,9] sX sS rfl rfl ⟨⟨((UO[0]?).map (·.2)).getD default,⟨[],[],[51],[]⟩,1000000,1000000,by kernel_rfl,by kernel_rfl,by kernel_rfl,by kernel_rfl,by kernel_rfl,by kernel_rfl,by kernel_rfl,by kernel_rfl⟩⟩
theorem U2 :FnOk Tryz.prog glS 115 KH:=.given _ rfl (by decide) (vT (fn:=Tryz.f115) (t:=55) (it:=3) (bt:=4) (ut:=0) (e:=107) (ov:=124) (rr:=125) (sh:=Yq2) (z:=Zq1) (g:=32) (sz:=4) (by kernel_rfl) Tryz.func115 (by kernel_rfl) (by kernel_rfl) (by kernel_rfl) (by decide) ⟨by kernel_rfl,by kernel_rfl,by kernel_rfl,by kernel_rfl,by kernel_rfl,by kernel_rfl,by kernel_rfl,by kernel_rfl,by kernel_rfl,by kernel_rfl,by kernel_rfl,by kernel_rfl,by kernel_rfl,by kernel_rfl,by kernel_rfl,by decide,by decide,rfl,⟨Tryz.f124,Tryz.func124,by kernel_rfl,by kernel_rfl,by kernel_rfl,by kernel_rfl⟩⟩)
theorem U3 :FnOk Tryz.prog glS 114 Ez:=.given _ rfl (by decide) (uh (fn:=Tryz.f114) (t:=55) (b:=4) (e:=107) (z:=Zq1) (g:=32) (by kernel_rfl) Tryz.func114 (by kernel_rfl) (by kernel_rfl) (by kernel_rfl) (by decide) (by kernel_rfl) (by kernel_rfl) (by kernel_rfl) (by kernel_rfl) (by decide))
noncomputable def tab:Nat->Option Ev.Fd:=fun f=>match f with
 | 3=>some fd3
 | 4=>some fd4
 | 5=>some fd5
 | 6=>some fd6
 | 7=>some fd7
 | 8=>some fd8
 | 9=>some fd9
 | 10=>some TM
 | 11=>some TL
 | 12=>some TK
 | 13=>some TJ
 | 14=>some TI
 | 15=>some Gy
 | 16=>some TH
 | 17=>some Od
 | 18=>some Oc
 | 19=>some TG
 | 20=>some TF
 | 21=>some Kw
 | 22=>some Kv
 | 23=>some TE
 | 24=>some TD
 | 25=>some TC
 | 26=>some TB
 | 27=>some TA
 | 28=>some Tz
 | 29=>some Ty
 | 30=>some Ku
 | 31=>some Tx
 | 32=>some Tw
 | 33=>some Tv
 | 34=>some Ob
 | 35=>some Tu
 | 36=>some Tt
 | 37=>some Ts
 | 38=>some Tq
 | 39=>some Tp
 | 40=>some To
 | 41=>some Tn
 | 42=>some Kt
 | 43=>some Ks
 | 44=>some Kr
 | 45=>some C2
 | 46=>some Tm
 | 47=>some Tl
 | 48=>some Tk
 | 49=>some Oa
 | 50=>some Tj
 | 51=>some Ti
 | 52=>some N9
 | 53=>some Kq
 | 54=>some Th
 | 55=>some Tg
 | 56=>some N8
 | 57=>some Tf
 | 58=>some Ko
 | 59=>some Te
 | 60=>some Td
 | 61=>some Km
 | 62=>some Kl
 | 63=>some Tc
 | 64=>some Kk
 | 65=>some Tb
 | 66=>some N7
 | 67=>some Ta
 | 68=>some S9
 | 69=>some S8
 | 70=>some S6
 | 71=>some S5
 | 72=>some Kj
 | 73=>some S3
 | 74=>some oH
 | 75=>some oG
 | 76=>some S2
 | 77=>some Ki
 | 78=>some Kh
 | 79=>some S1
 | 80=>some S0
 | 81=>some SZ
 | 82=>some SY
 | 83=>some C1
 | 84=>some SX
 | 85=>some SW
 | 86=>some SV
 | 87=>some SU
 | 88=>some CZ
 | 89=>some Kg
 | 90=>some SS
 | 91=>some SQ
 | 92=>some Kf
 | 93=>some SP
 | 94=>some SO
 | 95=>some SN
 | 96=>some SM
 | 97=>some SL
 | 98=>some SK
 | 99=>some SJ
 | 100=>some KR
 | 101=>some KQ
 | 102=>some KP
 | 103=>some KO
 | 104=>some KN
 | 105=>some KM
 | 106=>some KL
 | 107=>some A6
 | 108=>some KK
 | 111=>some KJ
 | 112=>some KI
 | 113=>some lv
 | 114=>some Ez
 | 115=>some KH
 | 116=>some KG
 | 117=>some KF
 | 118=>some KE
 | 119=>some KD
 | 120=>some KC
 | 122=>some VU
 | 123=>some KB
 | 126=>some KA
 | 127=>some Kz
 | 130=>some Kx
 | 1000080=>some A5
 | 1000390=>some yK
 | 1000570=>some lu
 | 1000880=>some iX
 | _=>none
theorem tab_ok :∀f fd,tab f=some fd->FnOk Tryz.prog glS f fd:=by
 intro f fd h;unfold tab at h;split at h
 . cases h;exact okc a3 func3
 . cases h;exact okc a4 func4
 . cases h;exact okc a5 func5
 . cases h;exact okc a0 func6
 . cases h;exact okc a7 func7
 . cases h;exact okc a8 func8
 . cases h;exact okc a0 func9
 . cases h;exact okc a0 func10
 . cases h;exact okc a0 func11
 . cases h;exact okc a12 func12
 . cases h;exact okc a0 func13
 . cases h;exact okc a14 func14
 . cases h;exact okc a0 func15
 . cases h;exact okc a16 func16
 . cases h;exact okc a0 func17
 . cases h;exact okc a0 func18
 . cases h;exact okc a0 func19
 . cases h;exact okc a20 func20
 . cases h;exact okc a21 func21
 . cases h;exact okc a22 func22
 . cases h;exact okc a23 func23
 . cases h;exact okc a24 func24
 . cases h;exact okc a0 func25
 . cases h;exact okc a0 func26
 . cases h;exact okc a0 func27
 . cases h;exact okc a0 func28
 . cases h;exact okc a0 func29
 . cases h;exact okc a0 func30
 . cases h;exact okc a0 func31
 . cases h;exact okc a0 func32
 . cases h;exact okc a0 func33
 . cases h;exact XV
 . cases h;exact okc a35 func35
 . cases h;exact okc a0 func36
 . cases h;exact okc a0 func37
 . cases h;exact okc a38 func38
 . cases h;exact okc a39 func39
 . cases h;exact okc a0 func40
 . cases h;exact okc a0 func41
 . cases h;exact okc a42 func42
 . cases h;exact okc a0 func43
 . cases h;exact okc a44 func44
 . cases h;exact okc a45 func45
 . cases h;exact okc a0 func46
 . cases h;exact okc a0 func47
 . cases h;exact okc a0 func48
 . cases h;exact okc a0 func49
 . cases h;exact okc a0 func50
 . cases h;exact okc a51 func51
 . cases h;exact okc a52 func52
 . cases h;exact okc a0 func53
 . cases h;exact okc a54 func54
 . cases h;exact okc a0 func55
 . cases h;exact okc a56 func56
 . cases h;exact okc a57 func57
 . cases h;exact okc a58 func58
 . cases h;exact okc a59 func59
 . cases h;exact okc a60 func60
 . cases h;exact okc a0 func61
 . cases h;exact okc a62 func62
 . cases h;exact okc a63 func63
 . cases h;exact okc a64 func64
 . cases h;exact okc a0 func65
 . cases h;exact okc a0 func66
 . cases h;exact okc a67 func67
 . cases h;exact okc a68 func68
 . cases h;exact okc a0 func69
 . cases h;exact okc a0 func70
 . cases h;exact okc a71 func71
 . cases h;exact okc a0 func72
 . cases h;exact okc a0 func73
 . cases h;exact okc a0 func74
 . cases h;exact okc a0 func75
 . cases h;exact okc a76 func76
 . cases h;exact okc a77 func77
 . cases h;exact okc a0 func78
 . cases h;exact XU
 . cases h;exact XT
 . cases h;exact okc a0 func81
 . cases h;exact okc a82 func82
 . cases h;exact okc a83 func83
 . cases h;exact okc a84 func84
 . cases h;exact okc a0 func85
 . cases h;exact okc a0 func86
 . cases h;exact okc a87 func87
 . cases h;exact okc a88 func88
 . cases h;exact okc a89 func89
 . cases h;exact okc a90 func90
 . cases h;exact okc a0 func91
 . cases h;exact okc a92 func92
 . cases h;exact okc a0 func93
 . cases h;exact okc a0 func94
 . cases h;exact okc a95 func95
 . cases h;exact okc a96 func96
 . cases h;exact okc a97 func97
 . cases h;exact okc a98 func98
 . cases h;exact okc a0 func99
 . cases h;exact okc Xn func100
 . cases h;exact okc a0 func101
 . cases h;exact okc Xm func102
 . cases h;exact okc a0 func103
 . cases h;exact okc Xl func104
 . cases h;exact okc Xk func105
 . cases h;exact okc Xj func106
 . cases h;exact okc Xi func107
 . cases h;exact okc a0 func108
 . cases h;exact okc a0 func111
 . cases h;exact okc a0 func112
 . cases h;exact okc Xh func113
 . cases h;exact U3
 . cases h;exact U2
 . cases h;exact okc a0 func116
 . cases h;exact okc Xg func117
 . cases h;exact okc a0 func118
 . cases h;exact okc a0 func119
 . cases h;exact okc Xf func120
 . cases h;exact okc a0 func122
 . cases h;exact okc a0 func123
 . cases h;exact okc Xe func126
 . cases h;exact okc a0 func127
 . cases h;exact okc a0 func130
 . cases h;exact U1
 . cases h;exact RO
 . cases h;exact RM
 . cases h;exact RK
 . cases h
end Go.Proofs.S51
namespace Go.Proofs.S51.C
open Go Go.Ev Go.Proofs
variable {gl :Gl} {n:Nat}
abbrev i64 (n:Int):AV:=.int .i64 n
structure Q4 where
 w:Int
 g:Int
 d:Int
 b:Int
def Q4.av (x:Q4):AV:=.agg [i64 x.w,i64 x.g,i64 x.d,i64 x.b]
def rows (l:List Q4):List AV:=l.map Q4.av
abbrev sR :Sh:=.st [.sc,.sc,.sc,.sc]
theorem aI (l:List Q4):(rows l).length=l.length:=by simp[rows]
theorem HP {l:List Q4}{i:Nat}(h:i<l.length):(rows l)[i]? =some (.agg [i64 l[i].w,i64 l[i].g,i64 l[i].d,i64 l[i].b]):=by rw[rows,List.getElem?_map,List.getElem?_eq_getElem h];rfl
def bank (c l:Int)(f:Bool)(sh:Sh)(r:List Q4):AV:=.agg [i64 c,i64 l,.lst f sh (rows r)]
def Shp (r:List Q4)(sh:Sh):Prop:=r=[]\/sh=sR
theorem Shp.eq {r:List Q4}{sh:Sh}(h:Shp r sh){i:Nat}(hi:i<r.length):sh=sR:=h.resolve_left (by rintro rfl;simp at hi)
theorem within_at (h:1<=n)(a lo hi:Int):call gl tab n 48 [i64 a,i64 lo,i64 hi] []=some (.bool (decide (lo<=a)&&decide (a<=hi)),[],[]):=by obtain⟨d,rfl⟩:=wC h;rw[au (fd:=Tk) rfl];simp(disch:=apply zq;omega) only[go_sem,simprocAttr,↓wB,xx,Tk,m48]
theorem isWindow_at (h:2<=n)(a:Int):call gl tab n 46 [i64 a] []=some (.bool (decide (0<=a)&&decide (a<=1099511627776)),[],[]):=by obtain⟨d,rfl⟩:=wC h;have c:=@within_at gl (d+1) (by omega);rw[au (fd:=Tm) rfl];simp(disch:=apply zq;omega) only[go_sem,simprocAttr,↓wB,xx,Tm,m46,c]
theorem pG (h:2<=n)(a:Int):call gl tab n 47 [i64 a] []=some (.bool (decide (1<=a)&&decide (a<=1073741824)),[],[]):=by obtain⟨d,rfl⟩:=wC h;have c:=@within_at gl (d+1) (by omega);rw[au (fd:=Tl) rfl];simp(disch:=apply zq;omega) only[go_sem,simprocAttr,↓wB,xx,Tl,m47,c]
def cmpI (a b:Int):Int:=if a<b then -1 else if b<a then 1 else 0
theorem cmp_at (h:2<=n)(a b:Int):call gl tab n 78 [i64 a,i64 b] []=some (i64 (cmpI a b),[],[]):=by
 obtain⟨d,rfl⟩:=wC h;have c:∀a,call gl tab (d+1) 108 [i64 a] []=some (.bool false,[],[]):=fun a=>by rw[au (fd:=KK) rfl];simp(disch:=apply zq;omega) only[go_sem,simprocAttr,↓wB,xx,KK,Vh]
 rw[au (fd:=Kh) rfl];by_cases h1:a<b
 . simp(disch:=apply zq;omega) only[go_sem,simprocAttr,↓wB,xx,Kh,m78,c,cmpI,h1]
 . by_cases h2:b<a
   . simp(disch:=apply zq;omega) only[go_sem,simprocAttr,↓wB,xx,Kh,m78,c,cmpI,h1,h2]
   . simp(disch:=apply zq;omega) only[go_sem,simprocAttr,↓wB,xx,Kh,m78,c,cmpI,h1,h2]
def S69 (a b:Int)(i:Nat):St:=⟨[.set 8 (i64 i),.set 7 (i64 2),.set 6 (.lst false .sc [i64 a,i64 b]),.set 3 (i64 0)],[]⟩
theorem U0 (h:1<=n)(a b:Int):call gl tab n 77 [.lst false .sc [i64 a,i64 b]] []=some (i64 (if a=0 then b else a),[],[]):=by
 obtain⟨d,rfl⟩:=wC h;rw[au (fd:=Ki) rfl];by_cases h1:a=0
 . subst h1;by_cases h2:b=0
   . subst h2;simp only[Ki,m77,go_sem,simprocAttr,↓wB];rw[aE (S69 0 0) 2 (by unfold LF;omega)]
     . simp(disch:=apply zq;omega) only[go_sem,simprocAttr,↓wB,xx,S69]
     . simp(disch:=apply zq;omega) only[go_sem,simprocAttr,↓wB,xx,S69]
     . intro i hi
       match i,hi with
       | 0,_=>simp(disch:=apply zq;omega) only[go_sem,simprocAttr,↓wB,xx,S69]
       | 1,_=>simp(disch:=apply zq;omega) only[go_sem,simprocAttr,↓wB,xx,S69]
     . simp(disch:=apply zq;omega) only[go_sem,simprocAttr,↓wB,xx,S69]
   . simp only[Ki,m77,go_sem,simprocAttr,↓wB];have h3:(b != 0)=true:=by simpa using h2
     rw[aE (S69 0 b) 1 (by unfold LF;omega)]
     . simp(disch:=apply zq;omega) only[go_sem,simprocAttr,↓wB,xx,S69,h3]
     . simp(disch:=apply zq;omega) only[go_sem,simprocAttr,↓wB,xx,S69]
     . intro i hi
       match i,hi with
       | 0,_=>simp(disch:=apply zq;omega) only[go_sem,simprocAttr,↓wB,xx,S69]
     . simp(disch:=apply zq;omega) only[go_sem,simprocAttr,↓wB,xx,S69,h3]
 . simp only[Ki,m77,go_sem,simprocAttr,↓wB];have h3:(a != 0)=true:=by simpa using h1
   rw[aE (S69 a b) 0 (by unfold LF;omega)]
   . simp(disch:=apply zq;omega) only[go_sem,simprocAttr,↓wB,xx,S69,h3,h1]
   . simp(disch:=apply zq;omega) only[go_sem,simprocAttr,↓wB,xx,S69]
   . intro i hi;omega
   . simp(disch:=apply zq;omega) only[go_sem,simprocAttr,↓wB,xx,S69,h3]
def Q4.cmp (x y:Q4):Int:=if cmpI x.w y.w=0 then cmpI x.g y.g else cmpI x.w y.w
theorem jr (h:3<=n)(x y:Q4):call gl tab n 50 [x.av,y.av] []=some (i64 (x.cmp y),[],[]):=by obtain⟨d,rfl⟩:=wC h;have c:=@cmp_at gl (d+2) (by omega);have c2:=@U0 gl (d+2) (by omega);rw[au (fd:=Tj) rfl];simp(disch:=apply zq;omega) only[go_sem,simprocAttr,↓wB,xx,Tj,m50,Q4.av,c,c2,Q4.cmp]
def Q0 :Q4:=⟨0,0,0,0⟩
def at' (l:List Q4)(i:Nat):Q4:=l.getD i Q0
theorem nz {l:List Q4}{i:Nat}(h:i<l.length):l[i]=at' l i:=by simp[at',h]
theorem gi {l:List Q4}{i:Nat}(h:i<l.length):(rows l)[i]? =some (.agg [i64 (at' l i).w,i64 (at' l i).g,i64 (at' l i).d,i64 (at' l i).b]):=by rw[HP h,nz h]
def fU (l:List Q4):Nat->Int
 | 0=>0
 | i+1=>(if 0<i/\(at' l (i-1)).w<(at' l i).w then 0 else fU l i)+((at' l i).d-(at' l i).b)
structure RowOk (cap:Int)(l:List Q4)(i:Nat):Prop where
 w:0<=(at' l i).w/\(at' l i).w<=1099511627776
 g:1<=(at' l i).g/\(at' l i).g<=1073741824
 d:0<=(at' l i).d/\(at' l i).d<=1099511627776
 b:0<=(at' l i).b/\(at' l i).b<=(at' l i).d
 o:0<i->(at' l (i-1)).cmp (at' l i)<0
 s:fU l (i+1)<=cap
structure VB (cap len:Int)(l:List Q4):Prop where
 c:0<=cap/\cap<=1073741824
 n:1<=len/\len<=3600000
 r:l.length<=10000
 ok:∀i,i<l.length->RowOk cap l i
theorem xE {cap:Int}{l:List Q4}(hc:0<=cap):∀i,(∀j,j<i->RowOk cap l j)->0<=fU l i/\fU l i<=cap
 | 0,_=>⟨Int.le_refl _,hc⟩
 | i+1,h=>by
   have h1:=xE hc i fun j hj=>h j (by omega)
   have h2:=h i (by omega);refine⟨?_,h2.s⟩;have:=h2.b;rw[fU];split<;>omega
def S17 (cap len:Int)(f:Bool)(sh:Sh)(l:List Q4)(i:Nat):St :=
 ⟨[.set 25 (i64 i),.set 24 (i64 l.length),.set 3 (i64 (fU l i)),.set 1 (.ptr 1 [])],[(1,.fix (.st [.sc,.sc,.sc]) (bank cap len f sh l))]⟩
noncomputable def L17:MC:=wq 0 m45
theorem Jd (h:4<=n){cap len:Int}{f:Bool}{sh:Sh}{l:List Q4}(hs:Shp l sh)(hc:0<=cap/\cap<=1073741824)(hl:l.length<=10000){i:Nat}(hi:i<l.length)(hj:∀j,j<i->RowOk cap l j)(hp:RowOk cap l i) :
  aK [.slot 1,.slot 3,.slot 24,.slot 25,.key 1] (evC gl (call gl tab n) L17 (S17 cap len f sh l i))=some (S17 cap len f sh l (i+1)):=by
 have c45:=@within_at gl n (by omega);have c43:=@isWindow_at gl n (by omega);have c44:=@pG gl n (by omega);have c47:=@jr gl n (by omega);have hb:=xE hc.1 i hj;obtain⟨⟨h1,h2⟩,⟨h3,h4⟩,⟨h5,h6⟩,⟨h7,h8⟩,h9,h10⟩:=hp;have hx:=gi hi;obtain rfl:=hs.eq hi;by_cases h0:0<i
 . have hx':=gi (show i-1<l.length by omega);have h9:=h9 h0;simp only[Q4.av]at c47;by_cases hw:(at' l (i-1)).w<(at' l i).w
   . have hsum:fU l (i+1)=0+((at' l i).d-(at' l i).b):=by rw[fU,if_pos ⟨h0,hw⟩]
     simp(disch:=apply zq;omega) only[go_sem,simprocAttr,↓wB,xx,L17,S17,bank,hx,hx',aI,c45,c43,c44,c47,hsum,h0,hw]
   . have hsum:fU l (i+1)=fU l i+((at' l i).d-(at' l i).b):=by rw[fU,if_neg fun h=>hw h.2]
     simp(disch:=apply zq;omega) only[go_sem,simprocAttr,↓wB,xx,L17,S17,bank,hx,hx',aI,c45,c43,c44,c47,hsum,h0,hw]
 . have hsum:fU l (i+1)=fU l i+((at' l i).d-(at' l i).b):=by rw[fU,if_neg fun h=>h0 h.1]
   simp(disch:=apply zq;omega) only[go_sem,simprocAttr,↓wB,xx,L17,S17,bank,hx,aI,c45,c43,c44,c47,hsum,h0]
theorem Je (h:4<=n){cap len:Int}{f:Bool}{sh:Sh}{l:List Q4}(hs:Shp l sh)(hc:0<=cap/\cap<=1073741824)(hl:l.length<=10000){i:Nat}(hi:i<l.length)(hj:∀j,j<i->RowOk cap l j)(hp:¬RowOk cap l i) :
  sC 2 (evC gl (call gl tab n) L17 (S17 cap len f sh l i))=some (.ret,.bool false):=by
 have c45:=@within_at gl n (by omega);have c43:=@isWindow_at gl n (by omega);have c44:=@pG gl n (by omega);have c47:=@jr gl n (by omega);have hb:=xE hc.1 i hj;have hx:=gi hi;obtain rfl:=hs.eq hi;cases hA:(decide (0<=(at' l i).w)&&decide ((at' l i).w<=1099511627776))
 . simp(disch:=apply zq;omega) only[go_sem,simprocAttr,↓wB,xx,L17,S17,bank,hx,aI,c43,c44,c45,hA]
 cases hB:(decide (1<=(at' l i).g)&&decide ((at' l i).g<=1073741824))
 . simp(disch:=apply zq;omega) only[go_sem,simprocAttr,↓wB,xx,L17,S17,bank,hx,aI,c43,c44,c45,hA,hB]
 cases hC:(decide (0<=(at' l i).d)&&decide ((at' l i).d<=1099511627776))
 . simp(disch:=apply zq;omega) only[go_sem,simprocAttr,↓wB,xx,L17,S17,bank,hx,aI,c43,c44,c45,hA,hB,hC]
 cases hD:(decide (0<=(at' l i).b)&&decide ((at' l i).b<=(at' l i).d))
 . simp(disch:=apply zq;omega) only[go_sem,simprocAttr,↓wB,xx,L17,S17,bank,hx,aI,c43,c44,c45,hA,hB,hC,hD]
 simp only[Bool.and_eq_true,decide_eq_true_eq]at hA hB hC hD;obtain⟨h1,h2⟩:=hA;obtain⟨h3,h4⟩:=hB;obtain⟨h5,h6⟩:=hC;obtain⟨h7,h8⟩:=hD;by_cases h0:0<i
 . have hx':=gi (show i-1<l.length by omega);simp only[Q4.av]at c47;by_cases hE:0<=(at' l (i-1)).cmp (at' l i)
   . simp(disch:=apply zq;omega) only[go_sem,simprocAttr,↓wB,xx,L17,S17,bank,hx,hx',aI,c45,c43,c44,c47,h0]
   by_cases hw:(at' l (i-1)).w<(at' l i).w
   . have hsum:fU l (i+1)=0+((at' l i).d-(at' l i).b):=by rw[fU,if_pos ⟨h0,hw⟩]
     have hF:cap<0+((at' l i).d-(at' l i).b):=by rw[<-hsum];exact Int.not_le.1 fun h=>hp ⟨⟨h1,h2⟩,⟨h3,h4⟩,⟨h5,h6⟩,⟨h7,h8⟩,fun _=>by omega,h⟩
     simp(disch:=apply zq;omega) only[go_sem,simprocAttr,↓wB,xx,L17,S17,bank,hx,hx',aI,c45,c43,c44,c47,h0,hw]
   . have hsum:fU l (i+1)=fU l i+((at' l i).d-(at' l i).b):=by rw[fU,if_neg fun h=>hw h.2]
     have hF:cap<fU l i+((at' l i).d-(at' l i).b):=by rw[<-hsum];exact Int.not_le.1 fun h=>hp ⟨⟨h1,h2⟩,⟨h3,h4⟩,⟨h5,h6⟩,⟨h7,h8⟩,fun _=>by omega,h⟩
     simp(disch:=apply zq;omega) only[go_sem,simprocAttr,↓wB,xx,L17,S17,bank,hx,hx',aI,c45,c43,c44,c47,h0,hw]
 . have hsum:fU l (i+1)=fU l i+((at' l i).d-(at' l i).b):=by rw[fU,if_neg fun h=>h0 h.1]
   have hF:cap<fU l i+((at' l i).d-(at' l i).b):=by rw[<-hsum];exact Int.not_le.1 fun h=>hp ⟨⟨h1,h2⟩,⟨h3,h4⟩,⟨h5,h6⟩,⟨h7,h8⟩,fun h=>absurd h h0,h⟩
   simp(disch:=apply zq;omega) only[go_sem,simprocAttr,↓wB,xx,L17,S17,bank,hx,aI,c45,c43,c44,c47,h0]
theorem pd (h:5<=n)(cap len:Int)(f:Bool){sh:Sh}{l:List Q4}(hs:Shp l sh)(hl:l.length<2^60):∃b:Bool,(b=true↔VB cap len l)/\call gl tab n 45 [bank cap len f sh l] []=some (.bool b,[],[]):=by
 obtain⟨d,rfl⟩:=wC h;have c45:=@within_at gl (d+4) (by omega);have lt:=@Jd gl (d+4) (by omega) cap len f sh l hs;have lf:=@Je gl (d+4) (by omega) cap len f sh l hs;rw[au (fd:=C2) rfl];cases hA:(decide (0<=cap)&&decide (cap<=1073741824))
 . refine⟨false,⟨(fun h=>by cases h),fun h=> ?_⟩,?_⟩
   . have:=h.c;simp[this]at hA
   . simp(disch:=apply zq;omega) only[go_sem,simprocAttr,↓wB,xx,C2,m45,bank,c45,hA]
 cases hB:(decide (1<=len)&&decide (len<=3600000))
 . refine⟨false,⟨(fun h=>by cases h),fun h=> ?_⟩,?_⟩
   . have:=h.n;simp[this]at hB
   . simp(disch:=apply zq;omega) only[go_sem,simprocAttr,↓wB,xx,C2,m45,bank,c45,hA,hB]
 by_cases hC:10000<l.length
 . refine⟨false,⟨(fun h=>by cases h),fun h=> ?_⟩,?_⟩
   . have:=h.r;omega
   . simp(disch:=apply zq;omega) only[go_sem,simprocAttr,↓wB,xx,C2,m45,bank,c45,hA,hB,aI]
 simp only[Bool.and_eq_true,decide_eq_true_eq]at hA hB;have hL:l.length<=10000:=by omega
 obtain⟨k,hk,hbef,hat,hit⟩:=pE (f:=evC gl (call gl tab (d+4)) L17) (ks:=[.slot 1,.slot 3,.slot 24,.slot 25,.key 1]) (S17 cap len f sh l) l.length (RowOk cap l) (by unfold LF;omega)
  (fun i hi hj hp=>lt hA hL hi hj hp) (fun i hi hj hp=>Fo (lf hA hL hi hj hp)) (fun hj=>by
    have hb:=xE hA.1 l.length hj;simp(disch:=apply zq;omega) only[go_sem,simprocAttr,↓wB,xx,L17,S17,bank,aI])
 simp only[L17,wq]at hit;by_cases hkl:k<l.length
 . obtain⟨st,hst,hg⟩:=ji (lf hA hL hkl hbef (hat hkl));simp only[L17,wq]at hst;refine⟨false,⟨(fun h=>by cases h),fun h=>absurd (h.ok k hkl) (hat hkl)⟩,?_⟩;simp(disch:=apply zq;omega) only[go_sem,simprocAttr,↓wB,xx,C2,m45,bank,c45,aI];rw[hit _ (by simp(disch:=apply zq;omega) only[go_sem,simprocAttr,↓wB,xx,S17,bank];rfl),hst];simp(disch:=apply zq;omega) only[go_sem,simprocAttr,↓wB,xx,hg]
 . obtain rfl:k=l.length:=by omega
   refine⟨true,⟨fun _=>⟨hA,hB,hL,hbef⟩,fun _=>rfl⟩,?_⟩;simp(disch:=apply zq;omega) only[go_sem,simprocAttr,↓wB,xx,C2,m45,bank,c45,aI];rw[hit _ (by simp(disch:=apply zq;omega) only[go_sem,simprocAttr,↓wB,xx,S17,bank];rfl)];simp(disch:=apply zq;omega) only[go_sem,simprocAttr,↓wB,xx,S17,bank,aI]
def S18 (cap len:Int)(f:Bool)(sh:Sh)(l:List Q4)(i:Nat):St :=
 ⟨[.set 4 (i64 i),.set 3 (i64 (fU l i)),.set 1 (.ptr 1 [])],[(1,.fix (.st [.sc,.sc,.sc]) (bank cap len f sh l))]⟩
end Go.Proofs.S51.C
