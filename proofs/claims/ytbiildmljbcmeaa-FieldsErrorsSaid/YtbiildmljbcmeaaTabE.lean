/- The tables of this translation for the evaluator: written by gen2.py. No conditions. -/
import Derived.Test.YtbiildmljbcmeaaB2
import Derived.Test.YtbiildmljbcmeaaTg
set_option linter.unusedVariables false
set_option maxRecDepth 100000
namespace TabE
open Go Ab
abbrev o (d:Nat) (x:Op) (t:TypeId):Oper:=⟨some d,x,t, "",#[],none⟩
abbrev m (d i:Nat) (t:TypeId):Oper:=⟨some d,.move (.tmp i),t, "",#[],none⟩
abbrev ci (z:Int):Operand:=.const (.int .i64 z)
abbrev ld (d i t:Nat):Oper:=⟨some d,.load t (.tmp i),t, "",#[],none⟩
abbrev fa (d t i f:Nat):Oper:=⟨some d,.fieldAddr t (.tmp i) f,0, "",#[],none⟩
abbrev cl (d f:Nat) (a:Array Operand) (s:Array TypeId) (t:TypeId):Oper:=⟨some d,.call { callee:=.value (.func f),args:=a,argTypes:=s },t, "",#[],none⟩
abbrev gd (d:Nat) (x:Op) (t:TypeId) (g:Nat) (b:Bool):Oper:=⟨some d,x,t, "",#[],some (g,b)⟩
abbrev nd (x:Op):Oper:=⟨none,x,0, "",#[],none⟩
def opnT:FuncId → Option (List Bool × Bool)
  | 65 => some ([false,true,false],true)
  | 70 => some ([true,false],false)
  | 72 => some ([true,true,true,true],true)
  | 73 => some ([true,false,false,false],true)
  | 76 => some ([false],false)
  | 100 => some ([false,true],true)
  | 101 => some ([false,false,true,true],true)
  | 105 => some ([false,false,true],true)
  | 113 => some ([false,false,true,true],true)
  | 114 => some ([true,true],true)
  | _ => none
def opn16:FuncId → Option (List Bool × Bool)
  | 52 => some ([false],false)
  | i => opnT i
def opn52:FuncId → Option (List Bool × Bool)
  | 67 => some ([false,false],false)
  | i => opnT i
def opn62:FuncId → Option (List Bool × Bool)
  | 86 => some ([false],false)
  | i => opnT i
def opn86:FuncId → Option (List Bool × Bool)
  | 97 => some ([true],false)
  | 109 => some ([false],false)
  | i => opnT i
def c8:Code :=
  (.seq (.region 0 #[o 2 (.box 40 (.tmp 0)) 0,o 3 (.box 40 (.tmp 1)) 0,o 4 (.assign (.const (.bool false))) 4] false)
 (.seq (.region 1 #[ld 10 2 40,cl 11 22 #[.tmp 10] #[40] 30,ld 12 3 40,cl 13 22 #[.tmp 12] #[40] 30,o 5 (.alloc 30) 0,o 6 (.alloc 30) 0,nd (.store 30 (.tmp 5) (.tmp 11)),nd (.store 30 (.tmp 6) (.tmp 13))] true)
 (.seq (.region 2 #[ld 14 5 30,cl 15 35 #[.tmp 14] #[30] 22,o 16 (.convert 22 9 (.tmp 15)) 9,ld 17 6 30,cl 18 35 #[.tmp 17] #[30] 22,o 19 (.convert 22 9 (.tmp 18)) 9,o 7 (.assign (.tmp 16)) 9,o 8 (.assign (.tmp 19)) 9] true)
 (.seq (.region 3 #[o 9 (.assign (ci 0)) 3] false)
 (.seq (.seq (.region 4 #[m 20 7 9,m 21 8 9,o 22 (.binOp .lss 9 (.tmp 20) (.tmp 21) 9) 4] false)
 (.cond (.tmp 22)
 (.region 5 #[o 9 (.assign (ci (-1))) 3] false)
 .skip))
 (.seq (.seq (.region 6 #[m 23 7 9,m 24 8 9,o 25 (.binOp .gtr 9 (.tmp 23) (.tmp 24) 9) 4] false)
 (.cond (.tmp 25)
 (.region 7 #[o 9 (.assign (ci 1)) 3] false)
 .skip))
 (.seq (.region 8 #[ld 26 5 30,ld 27 6 30,cl 28 37 #[.tmp 26,.tmp 27] #[30,30] 3,m 29 9 3,o 30 (.binOp .eql 3 (.tmp 28) (.tmp 29) 3) 4,m 31 30 4,gd 32 (.load 30 (.tmp 6)) 30 31 true,gd 33 (.load 30 (.tmp 5)) 30 31 true,gd 34 (.call { callee:=.value (.func 37),args:=#[.tmp 32,.tmp 33],argTypes:=#[30,30] }) 3 31 true,gd 35 (.move (.tmp 9)) 3 31 true,gd 36 (.unOp .neg 3 (.tmp 35)) 3 31 true,gd 37 (.binOp .eql 3 (.tmp 34) (.tmp 36) 3) 4 31 true,o 38 (.pick (.tmp 31) (.tmp 37) (.const (.bool false))) 4,m 39 38 4,gd 40 (.load 30 (.tmp 5)) 30 39 true,gd 41 (.load 30 (.tmp 6)) 30 39 true,gd 42 (.call { callee:=.value (.func 36),args:=#[.tmp 40,.tmp 41],argTypes:=#[30,30] }) 4 39 true,gd 43 (.move (.tmp 9)) 3 39 true,gd 44 (.binOp .eql 3 (.tmp 43) (ci 0) 3) 4 39 true,gd 45 (.binOp .eql 4 (.tmp 42) (.tmp 44) 4) 4 39 true,o 46 (.pick (.tmp 39) (.tmp 45) (.const (.bool false))) 4,m 47 46 4,gd 48 (.load 30 (.tmp 5)) 30 47 true,gd 49 (.load 30 (.tmp 5)) 30 47 true,gd 50 (.call { callee:=.value (.func 37),args:=#[.tmp 48,.tmp 49],argTypes:=#[30,30] }) 3 47 true,gd 51 (.binOp .eql 3 (.tmp 50) (ci 0) 3) 4 47 true,o 52 (.pick (.tmp 47) (.tmp 51) (.const (.bool false))) 4,m 53 52 4,gd 54 (.call { callee:=.value (.func 18),args:=#[],argTypes:=#[] }) 4 53 true,o 55 (.pick (.tmp 53) (.tmp 54) (.const (.bool false))) 4,o 4 (.assign (.tmp 55)) 4] false)
 .ret)))))))
def kp8:Nat → Option (List Nat)
  | 0 => some [2,3]
  | 1 => some [5,6]
  | 2 => some [5,6,7,8]
  | 3 => some [5,6,7,8,9]
  | 4 => some [5,6,7,8,9,22]
  | 5 => some [5,6,7,8,9]
  | 6 => some [5,6,9,25]
  | 7 => some [5,6,9]
  | 8 => some [4]
  | _ => none
def fn8:AFn:={ ntmps:=56,results:=[.tmp 4],body:=c8,keep:=kp8,head:=fun  | _ => none,opn:=fun _ => none,dyn:=fun _ => [] }
def c9:Code :=
  (.seq (.region 0 #[o 1 (.box 30 (.tmp 0)) 0,o 2 (.assign (.const (.bool false))) 4] false)
 (.seq (.seq (.region 1 #[ld 10 1 30,cl 11 38 #[.tmp 10] #[30] 3,o 12 (.binOp .eql 3 (.tmp 11) (ci 0) 3) 4] false)
 (.cond (.tmp 12)
 (.seq (.region 2 #[cl 13 18 #[] #[] 4,o 2 (.assign (.tmp 13)) 4] false)
 .ret)
 .skip))
 (.seq (.region 3 #[ld 15 1 30,cl 16 39 #[.tmp 15,.const (.int .i64 1),.const (.int .i64 0)] #[30,3,3] 62,m 14 16 62,o 17 (.extract (.tmp 14) 0) 3,o 18 (.extract (.tmp 14) 1) 3,o 3 (.assign (.tmp 17)) 3,o 4 (.assign (.tmp 18)) 3] false)
 (.seq (.region 4 #[ld 20 1 30,cl 21 21 #[.tmp 20] #[30] 35,m 19 21 35,o 22 (.extract (.tmp 19) 0) 22,o 23 (.extract (.tmp 19) 1) 34,o 5 (.assign (.tmp 22)) 22,o 6 (.assign (.tmp 23)) 34] false)
 (.seq (.seq (.region 5 #[ld 24 1 30,cl 25 32 #[.tmp 24] #[30] 34,m 26 3 3,o 27 (.binOp .neq 3 (.tmp 25) (.tmp 26) 3) 4,m 28 27 4,gd 29 (.move (.tmp 6)) 34 28 false,gd 30 (.move (.tmp 3)) 3 28 false,gd 31 (.binOp .neq 3 (.tmp 29) (.tmp 30) 3) 4 28 false,o 32 (.pick (.tmp 28) (.const (.bool true)) (.tmp 31)) 4,m 33 32 4,gd 34 (.load 30 (.tmp 1)) 30 33 false,gd 35 (.call { callee:=.value (.func 29),args:=#[.tmp 34],argTypes:=#[30] }) 3 33 false,gd 36 (.move (.tmp 4)) 3 33 false,gd 37 (.binOp .neq 3 (.tmp 35) (.tmp 36) 3) 4 33 false,o 38 (.pick (.tmp 33) (.const (.bool true)) (.tmp 37)) 4,m 39 38 4,gd 40 (.load 30 (.tmp 1)) 30 39 false,gd 41 (.load 30 (.tmp 1)) 30 39 false,gd 42 (.call { callee:=.value (.func 36),args:=#[.tmp 40,.tmp 41],argTypes:=#[30,30] }) 4 39 false,gd 43 (.move (.tmp 3)) 3 39 false,gd 44 (.binOp .eql 3 (.tmp 43) (ci 0) 3) 4 39 false,gd 45 (.binOp .neq 4 (.tmp 42) (.tmp 44) 4) 4 39 false,o 46 (.pick (.tmp 39) (.const (.bool true)) (.tmp 45)) 4] false)
 (.cond (.tmp 46)
 (.seq (.region 6 #[o 2 (.assign (.const (.bool false))) 4] false)
 .ret)
 .skip))
 (.seq (.seq (.region 7 #[m 47 3 3,o 48 (.binOp .eql 3 (.tmp 47) (ci 0) 3) 4] false)
 (.cond (.tmp 48)
 (.seq (.region 8 #[ld 49 1 30,cl 50 35 #[.tmp 49] #[30] 22,o 7 (.assign (.tmp 50)) 22] false)
 (.seq (.region 9 #[m 51 5 22,o 52 (.convert 22 9 (.tmp 51)) 9,m 53 7 22,o 54 (.convert 22 9 (.tmp 53)) 9,o 55 (.binOp .eql 9 (.tmp 52) (.tmp 54) 9) 4,m 56 55 4,gd 57 (.move (.tmp 5)) 22 56 true,gd 58 (.call { callee:=.builtin .cap,args:=#[.tmp 57],argTypes:=#[22] }) 3 56 true,gd 59 (.move (.tmp 5)) 22 56 true,gd 60 (.call { callee:=.builtin .len,args:=#[.tmp 59],argTypes:=#[22] }) 3 56 true,gd 61 (.binOp .eql 3 (.tmp 58) (.tmp 60) 3) 4 56 true,o 62 (.pick (.tmp 56) (.tmp 61) (.const (.bool false))) 4,m 63 62 4,gd 64 (.load 30 (.tmp 1)) 30 63 true,gd 65 (.call { callee:=.value (.func 28),args:=#[.tmp 64],argTypes:=#[30] }) 3 63 true,gd 66 (.move (.tmp 7)) 22 63 true,gd 67 (.call { callee:=.builtin .len,args:=#[.tmp 66],argTypes:=#[22] }) 3 63 true,gd 68 (.binOp .eql 3 (.tmp 65) (.tmp 67) 3) 4 63 true,o 69 (.pick (.tmp 63) (.tmp 68) (.const (.bool false))) 4,m 70 69 4,gd 71 (.load 30 (.tmp 1)) 30 70 true,gd 72 (.call { callee:=.value (.func 30),args:=#[.tmp 71],argTypes:=#[30] }) 3 70 true,gd 73 (.load 30 (.tmp 1)) 30 70 true,gd 74 (.call { callee:=.value (.func 40),args:=#[.tmp 73],argTypes:=#[30] }) 3 70 true,gd 75 (.binOp .eql 3 (.tmp 72) (.tmp 74) 3) 4 70 true,o 76 (.pick (.tmp 70) (.tmp 75) (.const (.bool false))) 4,m 77 76 4,gd 78 (.call { callee:=.value (.func 18),args:=#[],argTypes:=#[] }) 4 77 true,o 79 (.pick (.tmp 77) (.tmp 78) (.const (.bool false))) 4,o 2 (.assign (.tmp 79)) 4] true)
 .ret))
 .skip))
 (.seq (.region 10 #[ld 81 1 30,cl 82 25 #[.tmp 81,.const (.slice none 0 0)] #[30,47] 48,m 80 82 48,o 83 (.extract (.tmp 80) 0) 30,o 84 (.extract (.tmp 80) 1) 34,o 8 (.alloc 30) 0,nd (.store 30 (.tmp 8) (.tmp 83)),o 9 (.assign (.tmp 84)) 34] false)
 (.seq (.region 11 #[m 85 5 22,o 86 (.call { callee:=.builtin .len,args:=#[.tmp 85],argTypes:=#[22] }) 3,o 87 (.binOp .eql 3 (.tmp 86) (ci 0) 3) 4,m 88 87 4,gd 89 (.load 30 (.tmp 1)) 30 88 true,gd 90 (.call { callee:=.value (.func 28),args:=#[.tmp 89],argTypes:=#[30] }) 3 88 true,gd 91 (.binOp .eql 3 (.tmp 90) (ci 0) 3) 4 88 true,o 92 (.pick (.tmp 88) (.tmp 91) (.const (.bool false))) 4,m 93 92 4,gd 94 (.load 30 (.tmp 1)) 30 93 true,gd 95 (.call { callee:=.value (.func 30),args:=#[.tmp 94],argTypes:=#[30] }) 3 93 true,gd 96 (.binOp .eql 3 (.tmp 95) (ci 0) 3) 4 93 true,o 97 (.pick (.tmp 93) (.tmp 96) (.const (.bool false))) 4,m 98 97 4,gd 99 (.move (.tmp 9)) 34 98 true,gd 100 (.move (.tmp 3)) 3 98 true,gd 101 (.binOp .eql 3 (.tmp 99) (.tmp 100) 3) 4 98 true,o 102 (.pick (.tmp 98) (.tmp 101) (.const (.bool false))) 4,m 103 102 4,gd 104 (.load 30 (.tmp 8)) 30 103 true,gd 105 (.build 30 #[]) 30 103 true,gd 106 (.call { callee:=.value (.func 24),args:=#[.tmp 104,.tmp 105],argTypes:=#[30,30] }) 4 103 true,o 107 (.pick (.tmp 103) (.tmp 106) (.const (.bool false))) 4,m 108 107 4,gd 109 (.load 30 (.tmp 1)) 30 108 true,gd 110 (.call { callee:=.value (.func 41),args:=#[],argTypes:=#[] }) 30 108 true,gd 111 (.call { callee:=.value (.func 37),args:=#[.tmp 109,.tmp 110],argTypes:=#[30,30] }) 3 108 true,gd 112 (.binOp .eql 3 (.tmp 111) (ci (-1)) 3) 4 108 true,o 113 (.pick (.tmp 108) (.tmp 112) (.const (.bool false))) 4,m 114 113 4,gd 115 (.load 30 (.tmp 1)) 30 114 true,gd 116 (.load 30 (.tmp 1)) 30 114 true,gd 117 (.call { callee:=.value (.func 37),args:=#[.tmp 115,.tmp 116],argTypes:=#[30,30] }) 3 114 true,gd 118 (.binOp .eql 3 (.tmp 117) (ci 0) 3) 4 114 true,o 119 (.pick (.tmp 114) (.tmp 118) (.const (.bool false))) 4,m 120 119 4,gd 121 (.call { callee:=.value (.func 18),args:=#[],argTypes:=#[] }) 4 120 true,o 122 (.pick (.tmp 120) (.tmp 121) (.const (.bool false))) 4,o 2 (.assign (.tmp 122)) 4] true)
 .ret))))))))
def kp9:Nat → Option (List Nat)
  | 0 => some [1]
  | 1 => some [1,12]
  | 2 => some [2]
  | 3 => some [1,3,4]
  | 4 => some [1,3,4,5,6]
  | 5 => some [1,3,5,46]
  | 6 => some [2]
  | 7 => some [1,3,5,48]
  | 8 => some [1,5,7]
  | 9 => some [2]
  | 10 => some [1,3,5,8,9]
  | 11 => some [2]
  | _ => none
def fn9:AFn:={ ntmps:=123,results:=[.tmp 2],body:=c9,keep:=kp9,head:=fun  | _ => none,opn:=fun _ => none,dyn:=fun _ => [] }
def c16:Code :=
  (.seq (.region 0 #[o 3 (.box 30 (.tmp 0)) 0,o 5 (.box 82 (.tmp 2)) 0,o 6 (.assign (.const (.bool false))) 4] false)
 (.seq (.region 1 #[o 7 (.alloc 3) 0,nd (.store 3 (.tmp 7) (ci 60))] false)
 (.seq (.seq (.region 2 #[ld 26 3 30,cl 27 65 #[.tmp 26,.tmp 7,.const (.int .i64 0)] #[30,97,3] 3,o 28 (.binOp .eql 3 (.tmp 27) (ci 0) 3) 4,m 29 28 4,gd 30 (.move (.tmp 1)) 47 29 false,gd 31 (.call { callee:=.builtin .len,args:=#[.tmp 30],argTypes:=#[47] }) 3 29 false,gd 32 (.binOp .gtr 3 (.tmp 31) (ci 30) 3) 4 29 false,o 33 (.pick (.tmp 29) (.const (.bool true)) (.tmp 32)) 4] false)
 (.cond (.tmp 33)
 (.seq (.region 3 #[cl 34 50 #[] #[] 4,o 6 (.assign (.tmp 34)) 4] false)
 .ret)
 .skip))
 (.seq (.region 4 #[ld 35 3 30,cl 36 66 #[.tmp 35] #[30] 30,o 8 (.alloc 30) 0,nd (.store 30 (.tmp 8) (.tmp 36))] false)
 (.seq (.region 5 #[o 37 (.build 71 #[]) 71,o 9 (.alloc 71) 0,nd (.store 71 (.tmp 9) (.tmp 37))] false)
 (.seq (.seq (.region 6 #[o 10 (.assign (ci 0)) 3] false)
 (.block 0 (.loop (.seq (.seq (.region 7 #[m 38 10 3,fa 39 30 3 2,ld 40 39 28,o 41 (.call { callee:=.builtin .len,args:=#[.tmp 40],argTypes:=#[28] }) 3,o 42 (.binOp .lss 3 (.tmp 38) (.tmp 41) 3) 4,m 43 42 4,gd 44 (.fieldAddr 71 (.tmp 9) 1) 0 43 true,gd 45 (.load 34 (.tmp 44)) 34 43 true,gd 46 (.binOp .eql 34 (.tmp 45) (ci 0) 34) 4 43 true,o 47 (.pick (.tmp 43) (.tmp 46) (.const (.bool false))) 4] false)
 (.cond (.tmp 47)
 .skip
 (.exit 0)))
 (.seq (.block 1 (.seq (.region 9 #[fa 50 30 3 2,ld 51 50 28,m 52 10 3,o 53 (.indexAddr 28 (.tmp 51) (.tmp 52)) 0,ld 54 53 30,cl 55 32 #[.tmp 54] #[30] 34,o 11 (.assign (.tmp 55)) 34] false)
 (.seq (.region 10 #[m 56 11 34,o 57 (.binOp .neq 34 (.tmp 56) (ci 0) 34) 4] false)
 (.cond (.tmp 57)
 (.region 11 #[m 58 11 34,m 59 10 3,cl 60 67 #[.tmp 58,.tmp 59] #[34,3] 71,nd (.store 71 (.tmp 9) (.tmp 60))] false)
 (.seq (.region 12 #[m 61 10 3,o 62 (.binOp .gtr 3 (.tmp 61) (ci 0) 3) 4] false)
 (.cond (.tmp 62)
 (.seq (.region 13 #[fa 63 30 3 2,ld 64 63 28,m 65 10 3,o 66 (.binOp .sub 3 (.tmp 65) (ci 1) 3) 3,m 67 10 3,o 68 (.binOp .add 3 (.tmp 67) (ci 1) 3) 3,o 69 (.slice 28 (.tmp 64) (some (.tmp 66)) (some (.tmp 68)) none) 28,o 70 (.build 30 #[(2,.tmp 69)]) 30,cl 71 52 #[.tmp 70] #[30] 71,nd (.store 71 (.tmp 9) (.tmp 71))] false)
 (.seq (.region 14 #[fa 72 71 9 1,ld 73 72 34,o 74 (.binOp .neq 34 (.tmp 73) (ci 0) 34) 4] false)
 (.cond (.tmp 74)
 (.region 15 #[fa 75 71 9 0,ld 76 75 47,m 77 10 3,o 78 (.indexAddr 47 (.tmp 76) (ci 0)) 0,nd (.store 3 (.tmp 78) (.tmp 77))] false)
 .skip)))
 .skip))))))
 (.region 8 #[m 48 10 3,o 49 (.binOp .add 3 (.tmp 48) (ci 1) 3) 3,o 10 (.assign (.tmp 49)) 3] false))))))
 (.seq (.seq (.region 16 #[ld 79 3 30,cl 80 51 #[.tmp 79] #[30] 71,ld 81 9 71,cl 82 48 #[.tmp 80,.tmp 81] #[71,71] 3,o 83 (.binOp .eql 3 (.tmp 82) (ci 0) 3) 4] true)
 (.cond (.tmp 83)
 (.seq (.region 17 #[o 6 (.assign (.const (.bool false))) 4] false)
 .ret)
 .skip))
 (.seq (.region 18 #[ld 85 3 30,cl 86 21 #[.tmp 85] #[30] 35,m 84 86 35,o 87 (.extract (.tmp 84) 0) 22,o 88 (.extract (.tmp 84) 1) 34,o 12 (.assign (.tmp 87)) 22,o 13 (.assign (.tmp 88)) 34] false)
 (.seq (.region 19 #[ld 90 3 30,m 91 1 47,cl 92 63 #[.tmp 90,.tmp 91] #[30,47] 84,m 89 92 84,o 93 (.extract (.tmp 89) 0) 3,o 94 (.extract (.tmp 89) 1) 34,o 14 (.assign (.tmp 93)) 3,o 15 (.assign (.tmp 94)) 34] false)
 (.seq (.region 20 #[ld 96 3 30,m 97 1 47,cl 98 62 #[.tmp 96,.tmp 97] #[30,47] 48,m 95 98 48,o 99 (.extract (.tmp 95) 0) 30,o 100 (.extract (.tmp 95) 1) 34,o 16 (.alloc 30) 0,nd (.store 30 (.tmp 16) (.tmp 99)),o 17 (.assign (.tmp 100)) 34] false)
 (.seq (.region 21 #[ld 102 3 30,m 103 1 47,cl 104 61 #[.tmp 102,.tmp 103] #[30,47] 91,m 101 104 91,o 105 (.extract (.tmp 101) 0) 30,o 106 (.extract (.tmp 101) 1) 4,o 18 (.alloc 30) 0,nd (.store 30 (.tmp 18) (.tmp 105)),o 19 (.assign (.tmp 106)) 4] false)
 (.seq (.seq (.region 22 #[m 107 19 4,m 108 17 34,o 109 (.binOp .eql 34 (.tmp 108) (ci 0) 34) 4,o 110 (.binOp .neq 4 (.tmp 107) (.tmp 109) 4) 4,m 111 110 4,gd 112 (.move (.tmp 19)) 4 111 false,gd 113 (.move (.tmp 112)) 4 111 false,gd 114 (.load 30 (.tmp 16)) 30 113 true,gd 115 (.load 30 (.tmp 18)) 30 113 true,gd 116 (.call { callee:=.value (.func 49),args:=#[.tmp 114,.tmp 115],argTypes:=#[30,30] }) 3 113 true,gd 117 (.binOp .eql 3 (.tmp 116) (ci 0) 3) 4 113 true,gd 118 (.pick (.tmp 113) (.tmp 117) (.const (.bool false))) 4 111 false,o 119 (.pick (.tmp 111) (.const (.bool true)) (.tmp 118)) 4,m 120 119 4,gd 121 (.move (.tmp 19)) 4 120 false,gd 122 (.unOp .not 4 (.tmp 121)) 4 120 false,gd 123 (.move (.tmp 122)) 4 120 false,gd 124 (.move (.tmp 17)) 34 123 true,gd 125 (.binOp .neq 34 (.tmp 124) (ci 19) 34) 4 123 true,gd 126 (.pick (.tmp 123) (.tmp 125) (.const (.bool false))) 4 120 false,o 127 (.pick (.tmp 120) (.const (.bool true)) (.tmp 126)) 4] false)
 (.cond (.tmp 127)
 (.seq (.region 23 #[o 6 (.assign (.const (.bool false))) 4] false)
 .ret)
 .skip))
 (.seq (.seq (.region 24 #[m 128 13 34,o 129 (.binOp .neq 34 (.tmp 128) (ci 0) 34) 4,m 130 129 4,gd 131 (.move (.tmp 15)) 34 130 true,gd 132 (.move (.tmp 13)) 34 130 true,gd 133 (.binOp .neq 34 (.tmp 131) (.tmp 132) 34) 4 130 true,gd 134 (.move (.tmp 133)) 4 130 true,gd 135 (.move (.tmp 14)) 3 134 false,gd 136 (.binOp .neq 3 (.tmp 135) (ci 0) 3) 4 134 false,gd 137 (.pick (.tmp 134) (.const (.bool true)) (.tmp 136)) 4 130 true,o 138 (.pick (.tmp 130) (.tmp 137) (.const (.bool false))) 4,m 139 138 4,gd 140 (.move (.tmp 13)) 34 139 false,gd 141 (.binOp .eql 34 (.tmp 140) (ci 0) 34) 4 139 false,gd 142 (.move (.tmp 141)) 4 139 false,gd 143 (.move (.tmp 15)) 34 142 true,gd 144 (.binOp .eql 34 (.tmp 143) (ci 0) 34) 4 142 true,gd 145 (.move (.tmp 19)) 4 142 true,gd 146 (.binOp .neq 4 (.tmp 144) (.tmp 145) 4) 4 142 true,gd 147 (.pick (.tmp 142) (.tmp 146) (.const (.bool false))) 4 139 false,o 148 (.pick (.tmp 139) (.const (.bool true)) (.tmp 147)) 4] false)
 (.cond (.tmp 148)
 (.seq (.region 25 #[o 6 (.assign (.const (.bool false))) 4] false)
 .ret)
 .skip))
 (.seq (.seq (.region 26 #[m 149 13 34,o 150 (.binOp .eql 34 (.tmp 149) (ci 0) 34) 4,m 151 150 4,gd 152 (.move (.tmp 15)) 34 151 true,gd 153 (.binOp .eql 34 (.tmp 152) (ci 0) 34) 4 151 true,o 154 (.pick (.tmp 151) (.tmp 153) (.const (.bool false))) 4,m 155 154 4,gd 156 (.move (.tmp 14)) 3 155 true,gd 157 (.load 30 (.tmp 3)) 30 155 true,gd 158 (.move (.tmp 1)) 47 155 true,gd 159 (.call { callee:=.value (.func 64),args:=#[.tmp 157,.tmp 158],argTypes:=#[30,47] }) 3 155 true,gd 160 (.binOp .neq 3 (.tmp 156) (.tmp 159) 3) 4 155 true,o 161 (.pick (.tmp 155) (.tmp 160) (.const (.bool false))) 4] false)
 (.cond (.tmp 161)
 (.seq (.region 27 #[o 6 (.assign (.const (.bool false))) 4] false)
 .ret)
 .skip))
 (.seq (.region 28 #[o 162 (.build 78 #[(1,.const (.bool true)),(2,.const (.bool true))]) 78,cl 163 44 #[.const (.int .u8 6)] #[5] 27,o 164 (.build 78 #[(0,.tmp 163)]) 78,o 165 (.build 78 #[(1,.const (.bool true))]) 78,o 166 (.buildSlice 67 3 #[(0,.tmp 162),(1,.tmp 164),(2,.tmp 165)]) 67,o 20 (.assign (.tmp 166)) 67] false)
 (.seq (.region 29 #[ld 168 3 30,fa 169 30 3 0,ld 170 169 27,m 171 20 67,cl 172 45 #[.tmp 168,.tmp 170,.tmp 171] #[30,27,67] 72,m 167 172 72,o 173 (.extract (.tmp 167) 0) 47,o 174 (.extract (.tmp 167) 1) 71,o 22 (.alloc 71) 0,o 21 (.assign (.tmp 173)) 47,nd (.store 71 (.tmp 22) (.tmp 174))] false)
 (.seq (.region 30 #[ld 176 3 30,fa 177 30 3 0,ld 178 177 27,m 179 20 67,cl 180 46 #[.tmp 176,.tmp 178,.tmp 179] #[30,27,67] 72,m 175 180 72,o 181 (.extract (.tmp 175) 0) 47,o 182 (.extract (.tmp 175) 1) 71,o 24 (.alloc 71) 0,o 23 (.assign (.tmp 181)) 47,nd (.store 71 (.tmp 24) (.tmp 182))] false)
 (.seq (.region 31 #[ld 183 3 30,fa 184 30 3 0,ld 185 184 27,o 186 (.indexAddr 82 (.tmp 5) (ci 0)) 0,ld 187 186 3,o 188 (.indexAddr 82 (.tmp 5) (ci 1)) 0,ld 189 188 3,cl 190 56 #[.tmp 183,.tmp 185,.tmp 187,.tmp 189] #[30,27,3,3] 71,o 25 (.alloc 71) 0,nd (.store 71 (.tmp 25) (.tmp 190))] false)
 (.seq (.region 32 #[m 191 21 47,m 192 23 47,cl 193 47 #[.tmp 191,.tmp 192] #[47,47] 3,o 194 (.binOp .eql 3 (.tmp 193) (ci 1) 3) 4,m 195 194 4,gd 196 (.load 71 (.tmp 22)) 71 195 true,gd 197 (.load 71 (.tmp 24)) 71 195 true,gd 198 (.call { callee:=.value (.func 48),args:=#[.tmp 196,.tmp 197],argTypes:=#[71,71] }) 3 195 true,gd 199 (.binOp .eql 3 (.tmp 198) (ci 1) 3) 4 195 true,o 200 (.pick (.tmp 195) (.tmp 199) (.const (.bool false))) 4,m 201 200 4,gd 202 (.load 71 (.tmp 25)) 71 201 true,gd 203 (.load 30 (.tmp 3)) 30 201 true,gd 204 (.fieldAddr 30 (.tmp 3) 0) 0 201 true,gd 205 (.load 27 (.tmp 204)) 27 201 true,gd 206 (.indexAddr 82 (.tmp 5) (ci 0)) 0 201 true,gd 207 (.load 3 (.tmp 206)) 3 201 true,gd 208 (.indexAddr 82 (.tmp 5) (ci 1)) 0 201 true,gd 209 (.load 3 (.tmp 208)) 3 201 true,gd 210 (.call { callee:=.value (.func 57),args:=#[.tmp 203,.tmp 205,.tmp 207,.tmp 209],argTypes:=#[30,27,3,3] }) 71 201 true,gd 211 (.call { callee:=.value (.func 48),args:=#[.tmp 202,.tmp 210],argTypes:=#[71,71] }) 3 201 true,gd 212 (.binOp .eql 3 (.tmp 211) (ci 1) 3) 4 201 true,o 213 (.pick (.tmp 201) (.tmp 212) (.const (.bool false))) 4,m 214 213 4,gd 215 (.load 30 (.tmp 3)) 30 214 true,gd 216 (.fieldAddr 30 (.tmp 3) 0) 0 214 true,gd 217 (.fieldAddr 27 (.tmp 216) 2) 0 214 true,gd 218 (.load 25 (.tmp 217)) 25 214 true,gd 219 (.call { callee:=.value (.func 58),args:=#[.tmp 215,.tmp 218],argTypes:=#[30,25] }) 71 214 true,gd 220 (.load 30 (.tmp 3)) 30 214 true,gd 221 (.fieldAddr 30 (.tmp 3) 0) 0 214 true,gd 222 (.fieldAddr 27 (.tmp 221) 2) 0 214 true,gd 223 (.load 25 (.tmp 222)) 25 214 true,gd 224 (.call { callee:=.value (.func 59),args:=#[.tmp 220,.tmp 223],argTypes:=#[30,25] }) 71 214 true,gd 225 (.call { callee:=.value (.func 48),args:=#[.tmp 219,.tmp 224],argTypes:=#[71,71] }) 3 214 true,gd 226 (.binOp .eql 3 (.tmp 225) (ci 1) 3) 4 214 true,o 227 (.pick (.tmp 214) (.tmp 226) (.const (.bool false))) 4,m 228 227 4,gd 229 (.load 30 (.tmp 3)) 30 228 true,gd 230 (.load 30 (.tmp 8)) 30 228 true,gd 231 (.call { callee:=.value (.func 49),args:=#[.tmp 229,.tmp 230],argTypes:=#[30,30] }) 3 228 true,gd 232 (.binOp .eql 3 (.tmp 231) (ci 1) 3) 4 228 true,o 233 (.pick (.tmp 228) (.tmp 232) (.const (.bool false))) 4,m 234 233 4,gd 235 (.call { callee:=.value (.func 50),args:=#[],argTypes:=#[] }) 4 234 true,o 236 (.pick (.tmp 234) (.tmp 235) (.const (.bool false))) 4,o 6 (.assign (.tmp 236)) 4] true)
 .ret)))))))))))))))))))
def kp16:Nat → Option (List Nat)
  | 0 => some [1,3,5]
  | 1 => some [1,3,5,7]
  | 2 => some [1,3,5,33]
  | 3 => some [6]
  | 4 => some [1,3,5,8]
  | 5 => some [1,3,5,8,9]
  | 6 => some [1,3,5,8,9,10]
  | 7 => some [1,3,5,8,9,10,47]
  | 8 => some [1,3,5,8,9,10]
  | 9 => some [1,3,5,8,9,10,11]
  | 10 => some [1,3,5,8,9,10,11,57]
  | 11 => some [1,3,5,8,9,10]
  | 12 => some [1,3,5,8,9,10,62]
  | 13 => some [1,3,5,8,9,10]
  | 14 => some [1,3,5,8,9,10,74]
  | 15 => some [1,3,5,8,9,10]
  | 16 => some [1,3,5,8,83]
  | 17 => some [6]
  | 18 => some [1,3,5,8,13]
  | 19 => some [1,3,5,8,13,14,15]
  | 20 => some [1,3,5,8,13,14,15,16,17]
  | 21 => some [1,3,5,8,13,14,15,16,17,18,19]
  | 22 => some [1,3,5,8,13,14,15,19,127]
  | 23 => some [6]
  | 24 => some [1,3,5,8,13,14,15,148]
  | 25 => some [6]
  | 26 => some [3,5,8,161]
  | 27 => some [6]
  | 28 => some [3,5,8,20]
  | 29 => some [3,5,8,20,21,22]
  | 30 => some [3,5,8,21,22,23,24]
  | 31 => some [3,5,8,21,22,23,24,25]
  | 32 => some [6]
  | _ => none
def fn16:AFn:={ ntmps:=237,results:=[.tmp 6],body:=c16,keep:=kp16,head:=fun | 7 => some [1,3,5,8,9,10] | _ => none,opn:=opn16,dyn:=fun _ => [] }
def c18:Code :=
  (.seq (.region 0 #[o 0 (.assign (.const (.bool false))) 4] false)
 (.seq (.region 1 #[cl 12 41 #[] #[] 30,o 1 (.alloc 30) 0,nd (.store 30 (.tmp 1) (.tmp 12))] false)
 (.seq (.region 2 #[o 13 (.build 30 #[]) 30,o 2 (.alloc 30) 0,nd (.store 30 (.tmp 2) (.tmp 13))] false)
 (.seq (.region 3 #[fa 14 30 1 2,ld 15 14 28,o 16 (.indexAddr 28 (.tmp 15) (ci 1)) 0,ld 17 16 30,o 3 (.alloc 30) 0,nd (.store 30 (.tmp 3) (.tmp 17))] false)
 (.seq (.seq (.region 4 #[⟨some 18,.buildSlice 22 7 #[(0,.const (.int .u8 48)),(1,.const (.int .u8 5)),(2,.const (.int .u8 2)),(3,.const (.int .u8 1)),(4,.const (.int .u8 7)),(5,.const (.int .u8 5)),(6,.const (.int .u8 0))],22, "",fz,none⟩,ld 19 1 30,cl 20 20 #[.tmp 18,.tmp 19,.const (.int .i64 0),.const (.int .i64 0)] #[22,30,3,3] 4,o 21 (.unOp .not 4 (.tmp 20)) 4,m 22 21 4,gd 23 (.load 30 (.tmp 1)) 30 22 false,gd 24 (.call { callee:=.value (.func 29),args:=#[.tmp 23],argTypes:=#[30] }) 3 22 false,gd 25 (.binOp .neq 3 (.tmp 24) (ci 3) 3) 4 22 false,o 26 (.pick (.tmp 22) (.const (.bool true)) (.tmp 25)) 4,m 27 26 4,gd 28 (.load 30 (.tmp 1)) 30 27 false,gd 29 (.call { callee:=.value (.func 30),args:=#[.tmp 28],argTypes:=#[30] }) 3 27 false,gd 30 (.binOp .neq 3 (.tmp 29) (ci 2) 3) 4 27 false,o 31 (.pick (.tmp 27) (.const (.bool true)) (.tmp 30)) 4] false)
 (.cond (.tmp 31)
 (.seq (.region 5 #[o 0 (.assign (.const (.bool false))) 4] false)
 .ret)
 .skip))
 (.seq (.region 6 #[ld 33 1 30,⟨some 34,.buildSlice 47 1 #[(0,.const (.int .i64 1))],47, "",fz,none⟩,cl 35 25 #[.tmp 33,.tmp 34] #[30,47] 48,m 32 35 48,o 36 (.extract (.tmp 32) 0) 30,o 37 (.extract (.tmp 32) 1) 34,o 4 (.alloc 30) 0,nd (.store 30 (.tmp 4) (.tmp 36)),o 5 (.assign (.tmp 37)) 34] false)
 (.seq (.region 7 #[ld 39 1 30,⟨some 40,.buildSlice 47 1 #[(0,.const (.int .i64 2))],47, "",fz,none⟩,cl 41 25 #[.tmp 39,.tmp 40] #[30,47] 48,m 38 41 48,o 42 (.extract (.tmp 38) 0) 30,o 43 (.extract (.tmp 38) 1) 34,o 6 (.alloc 30) 0,nd (.store 30 (.tmp 6) (.tmp 42)),o 7 (.assign (.tmp 43)) 34] false)
 (.seq (.region 8 #[⟨some 45,.buildSlice 22 4 #[(0,.const (.int .u8 5)),(1,.const (.int .u8 0)),(2,.const (.int .u8 5)),(3,.const (.int .u8 0))],22, "",fz,none⟩,cl 46 23 #[.tmp 45] #[22] 43,m 44 46 43,o 47 (.extract (.tmp 44) 0) 30,o 48 (.extract (.tmp 44) 1) 3,o 49 (.extract (.tmp 44) 2) 3,o 50 (.extract (.tmp 44) 3) 34,o 8 (.alloc 30) 0,nd (.store 30 (.tmp 8) (.tmp 47)),o 9 (.assign (.tmp 48)) 3,o 10 (.assign (.tmp 49)) 3,o 11 (.assign (.tmp 50)) 34] false)
 (.seq (.seq (.region 9 #[m 51 5 34,o 52 (.binOp .neq 34 (.tmp 51) (ci 0) 34) 4,m 53 52 4,gd 54 (.load 30 (.tmp 4)) 30 53 false,gd 55 (.load 30 (.tmp 3)) 30 53 false,gd 56 (.call { callee:=.value (.func 24),args:=#[.tmp 54,.tmp 55],argTypes:=#[30,30] }) 4 53 false,gd 57 (.unOp .not 4 (.tmp 56)) 4 53 false,o 58 (.pick (.tmp 53) (.const (.bool true)) (.tmp 57)) 4,m 59 58 4,gd 60 (.move (.tmp 7)) 34 59 false,gd 61 (.binOp .neq 34 (.tmp 60) (ci 19) 34) 4 59 false,o 62 (.pick (.tmp 59) (.const (.bool true)) (.tmp 61)) 4,m 63 62 4,gd 64 (.move (.tmp 9)) 3 63 false,gd 65 (.binOp .neq 3 (.tmp 64) (ci 2) 3) 4 63 false,o 66 (.pick (.tmp 63) (.const (.bool true)) (.tmp 65)) 4,m 67 66 4,gd 68 (.move (.tmp 11)) 34 67 false,gd 69 (.binOp .neq 34 (.tmp 68) (ci 0) 34) 4 67 false,o 70 (.pick (.tmp 67) (.const (.bool true)) (.tmp 69)) 4,m 71 70 4,⟨some 72,.buildSlice 22 4 #[(0,.const (.int .u8 5)),(1,.const (.int .u8 0)),(2,.const (.int .u8 5)),(3,.const (.int .u8 0))],22, "",fz,some (71,false)⟩,gd 73 (.load 30 (.tmp 2)) 30 71 false,gd 74 (.call { callee:=.value (.func 20),args:=#[.tmp 72,.tmp 73,.const (.int .i64 2),.const (.int .i64 8)],argTypes:=#[22,30,3,3] }) 4 71 false,gd 75 (.unOp .not 4 (.tmp 74)) 4 71 false,o 76 (.pick (.tmp 71) (.const (.bool true)) (.tmp 75)) 4] false)
 (.cond (.tmp 76)
 (.seq (.region 10 #[o 0 (.assign (.const (.bool false))) 4] false)
 .ret)
 .skip))
 (.seq (.seq (.region 11 #[⟨some 77,.buildSlice 22 5 #[(0,.const (.int .u8 48)),(1,.const (.int .u8 5)),(2,.const (.int .u8 2)),(3,.const (.int .u8 1)),(4,.const (.int .u8 7))],22, "",fz,none⟩,ld 78 2 30,cl 79 20 #[.tmp 77,.tmp 78,.const (.int .i64 5),.const (.int .i64 7)] #[22,30,3,3] 4,o 80 (.unOp .not 4 (.tmp 79)) 4,m 81 80 4,⟨some 82,.buildSlice 22 5 #[(0,.const (.int .u8 48)),(1,.const (.int .u8 3)),(2,.const (.int .u8 2)),(3,.const (.int .u8 2)),(4,.const (.int .u8 7))],22, "",fz,some (81,false)⟩,gd 83 (.load 30 (.tmp 2)) 30 81 false,gd 84 (.call { callee:=.value (.func 20),args:=#[.tmp 82,.tmp 83,.const (.int .i64 5),.const (.int .i64 7)],argTypes:=#[22,30,3,3] }) 4 81 false,gd 85 (.unOp .not 4 (.tmp 84)) 4 81 false,o 86 (.pick (.tmp 81) (.const (.bool true)) (.tmp 85)) 4,m 87 86 4,⟨some 88,.buildSlice 22 4 #[(0,.const (.int .u8 48)),(1,.const (.int .u8 128)),(2,.const (.int .u8 0)),(3,.const (.int .u8 0))],22, "",fz,some (87,false)⟩,gd 89 (.load 30 (.tmp 2)) 30 87 false,gd 90 (.call { callee:=.value (.func 20),args:=#[.tmp 88,.tmp 89,.const (.int .i64 1),.const (.int .i64 10)],argTypes:=#[22,30,3,3] }) 4 87 false,gd 91 (.unOp .not 4 (.tmp 90)) 4 87 false,o 92 (.pick (.tmp 87) (.const (.bool true)) (.tmp 91)) 4,m 93 92 4,⟨some 94,.buildSlice 22 4 #[(0,.const (.int .u8 48)),(1,.const (.int .u8 2)),(2,.const (.int .u8 0)),(3,.const (.int .u8 0))],22, "",fz,some (93,false)⟩,gd 95 (.load 30 (.tmp 2)) 30 93 false,gd 96 (.call { callee:=.value (.func 20),args:=#[.tmp 94,.tmp 95,.const (.int .i64 2),.const (.int .i64 9)],argTypes:=#[22,30,3,3] }) 4 93 false,gd 97 (.unOp .not 4 (.tmp 96)) 4 93 false,o 98 (.pick (.tmp 93) (.const (.bool true)) (.tmp 97)) 4,m 99 98 4,⟨some 100,.buildSlice 22 3 #[(0,.const (.int .u8 48)),(1,.const (.int .u8 1)),(2,.const (.int .u8 5))],22, "",fz,some (99,false)⟩,gd 101 (.load 30 (.tmp 2)) 30 99 false,gd 102 (.call { callee:=.value (.func 20),args:=#[.tmp 100,.tmp 101,.const (.int .i64 3),.const (.int .i64 7)],argTypes:=#[22,30,3,3] }) 4 99 false,gd 103 (.unOp .not 4 (.tmp 102)) 4 99 false,o 104 (.pick (.tmp 99) (.const (.bool true)) (.tmp 103)) 4,m 105 104 4,gd 106 (.load 30 (.tmp 2)) 30 105 false,gd 107 (.call { callee:=.value (.func 20),args:=#[.const (.slice none 0 0),.tmp 106,.const (.int .i64 0),.const (.int .i64 7)],argTypes:=#[22,30,3,3] }) 4 105 false,gd 108 (.unOp .not 4 (.tmp 107)) 4 105 false,o 109 (.pick (.tmp 105) (.const (.bool true)) (.tmp 108)) 4] false)
 (.cond (.tmp 109)
 (.seq (.region 12 #[o 0 (.assign (.const (.bool false))) 4] false)
 .ret)
 .skip))
 (.seq (.region 13 #[o 110 (.build 27 #[(2,.const (.int .u32 4))]) 27,ld 111 3 30,o 112 (.buildSlice 28 1 #[(0,.tmp 111)]) 28,o 113 (.build 30 #[(0,.tmp 110),(2,.tmp 112)]) 30,cl 114 32 #[.tmp 113] #[30] 34,o 115 (.binOp .eql 34 (.tmp 114) (ci 1) 34) 4,m 116 115 4,gd 117 (.load 30 (.tmp 3)) 30 116 true,gd 118 (.load 30 (.tmp 1)) 30 116 true,gd 119 (.call { callee:=.value (.func 37),args:=#[.tmp 117,.tmp 118],argTypes:=#[30,30] }) 3 116 true,gd 120 (.binOp .eql 3 (.tmp 119) (ci (-1)) 3) 4 116 true,o 121 (.pick (.tmp 116) (.tmp 120) (.const (.bool false))) 4,o 0 (.assign (.tmp 121)) 4] false)
 .ret)))))))))))
def kp18:Nat → Option (List Nat)
  | 0 => some []
  | 1 => some [1]
  | 2 => some [1,2]
  | 3 => some [1,2,3]
  | 4 => some [1,2,3,31]
  | 5 => some [0]
  | 6 => some [1,2,3,4,5]
  | 7 => some [1,2,3,4,5,7]
  | 8 => some [1,2,3,4,5,7,9,11]
  | 9 => some [1,2,3,76]
  | 10 => some [0]
  | 11 => some [1,3,109]
  | 12 => some [0]
  | 13 => some [0]
  | _ => none
def fn18:AFn:={ ntmps:=122,results:=[.tmp 0],body:=c18,keep:=kp18,head:=fun  | _ => none,opn:=fun _ => none,dyn:=fun _ => [] }
def c20:Code :=
  (.seq (.region 0 #[o 5 (.box 30 (.tmp 1)) 0,o 8 (.assign (.const (.bool false))) 4] false)
 (.seq (.region 1 #[m 13 0 22,cl 14 34 #[.tmp 13] #[22] 56,m 12 14 56,o 15 (.extract (.tmp 12) 0) 30,o 16 (.extract (.tmp 12) 1) 3,o 17 (.extract (.tmp 12) 2) 34,o 9 (.alloc 30) 0,nd (.store 30 (.tmp 9) (.tmp 15)),o 10 (.assign (.tmp 16)) 3,o 11 (.assign (.tmp 17)) 34] false)
 (.seq (.region 2 #[ld 18 9 30,cl 19 26 #[.tmp 18,.const (.int .i64 9000)] #[30,3] 3,o 20 (.binOp .leq 3 (.tmp 19) (ci 9000) 3) 4,m 21 20 4,gd 22 (.load 30 (.tmp 9)) 30 21 true,gd 23 (.load 30 (.tmp 5)) 30 21 true,gd 24 (.call { callee:=.value (.func 24),args:=#[.tmp 22,.tmp 23],argTypes:=#[30,30] }) 4 21 true,o 25 (.pick (.tmp 21) (.tmp 24) (.const (.bool false))) 4,m 26 25 4,gd 27 (.load 30 (.tmp 9)) 30 26 true,gd 28 (.call { callee:=.value (.func 27),args:=#[.tmp 27],argTypes:=#[30] }) 4 26 true,o 29 (.pick (.tmp 26) (.tmp 28) (.const (.bool false))) 4,m 30 29 4,gd 31 (.move (.tmp 10)) 3 30 true,gd 32 (.move (.tmp 2)) 3 30 true,gd 33 (.binOp .eql 3 (.tmp 31) (.tmp 32) 3) 4 30 true,o 34 (.pick (.tmp 30) (.tmp 33) (.const (.bool false))) 4,m 35 34 4,gd 36 (.move (.tmp 11)) 34 35 true,gd 37 (.move (.tmp 3)) 3 35 true,gd 38 (.binOp .eql 3 (.tmp 36) (.tmp 37) 3) 4 35 true,o 39 (.pick (.tmp 35) (.tmp 38) (.const (.bool false))) 4,o 8 (.assign (.tmp 39)) 4] false)
 .ret)))
def kp20:Nat → Option (List Nat)
  | 0 => some [0,2,3,5]
  | 1 => some [2,3,5,9,10,11]
  | 2 => some [8]
  | _ => none
def fn20:AFn:={ ntmps:=40,results:=[.tmp 8],body:=c20,keep:=kp20,head:=fun  | _ => none,opn:=fun _ => none,dyn:=fun _ => [] }
def c21:Code :=
  (.seq (.region 0 #[o 1 (.box 30 (.tmp 0)) 0,o 2 (.assign (.const (.slice none 0 0))) 22,o 3 (.assign (ci 0)) 34] false)
 (.seq (.seq (.region 1 #[ld 6 1 30,cl 7 32 #[.tmp 6] #[30] 34,o 4 (.assign (.tmp 7)) 34] false)
 (.seq (.region 2 #[m 8 4 34,o 9 (.binOp .neq 34 (.tmp 8) (ci 0) 34) 4] false)
 (.cond (.tmp 9)
 (.seq (.region 3 #[m 10 4 34,o 2 (.assign (.const (.slice none 0 0))) 22,o 3 (.assign (.tmp 10)) 34] false)
 .ret)
 .skip)))
 (.seq (.region 4 #[ld 11 1 30,cl 12 69 #[.tmp 11] #[30] 3,o 5 (.assign (.tmp 12)) 3] false)
 (.seq (.seq (.region 5 #[m 13 5 3,o 14 (.binOp .gtr 3 (.tmp 13) (ci 1048576) 3) 4] false)
 (.cond (.tmp 14)
 (.seq (.region 6 #[o 2 (.assign (.const (.slice none 0 0))) 22,o 3 (.assign (ci 3)) 34] false)
 .ret)
 .skip))
 (.seq (.region 7 #[m 15 5 3,o 16 (.makeSlice 22 (ci 0) (.tmp 15)) 22,ld 17 1 30,cl 18 70 #[.tmp 16,.tmp 17] #[22,30] 22,o 2 (.assign (.tmp 18)) 22,o 3 (.assign (ci 0)) 34] true)
 .ret)))))
def kp21:Nat → Option (List Nat)
  | 0 => some [1]
  | 1 => some [1,4]
  | 2 => some [1,4,9]
  | 3 => some [2,3]
  | 4 => some [1,5]
  | 5 => some [1,5,14]
  | 6 => some [2,3]
  | 7 => some [2,3]
  | _ => none
def fn21:AFn:={ ntmps:=19,results:=[.tmp 2,.tmp 3],body:=c21,keep:=kp21,head:=fun  | _ => none,opn:=opnT,dyn:=fun | 7 => [(3,3)] | _ => [] }
def c22:Code :=
  (.seq (.region 0 #[o 1 (.box 40 (.tmp 0)) 0,o 2 (.alloc 30) 0] false)
 (.seq (.region 1 #[o 3 (.assign (.const (.slice none 0 0))) 28] false)
 (.seq (.seq (.region 2 #[o 4 (.assign (ci 0)) 3] false)
 (.block 0 (.loop (.seq (.seq (.region 3 #[m 9 4 3,fa 10 40 1 0,ld 11 10 38,o 12 (.call { callee:=.builtin .len,args:=#[.tmp 11],argTypes:=#[38] }) 3,o 13 (.binOp .lss 3 (.tmp 9) (.tmp 12) 3) 4,m 14 13 4,gd 15 (.move (.tmp 4)) 3 14 true,gd 16 (.binOp .lss 3 (.tmp 15) (ci 39) 3) 4 14 true,o 17 (.pick (.tmp 14) (.tmp 16) (.const (.bool false))) 4] false)
 (.cond (.tmp 17)
 .skip
 (.exit 0)))
 (.seq (.block 1 (.seq (.region 5 #[fa 20 40 1 0,ld 21 20 38,m 22 4 3,o 23 (.indexAddr 38 (.tmp 21) (.tmp 22)) 0,ld 24 23 107,o 5 (.alloc 107) 0,nd (.store 107 (.tmp 5) (.tmp 24))] false)
 (.seq (.seq (.region 6 #[fa 25 107 5 0,ld 26 25 5,o 27 (.binOp .rem 5 (.tmp 26) (.const (.int .u8 3)) 5) 5,o 28 (.binOp .eql 5 (.tmp 27) (.const (.int .u8 0)) 5) 4] false)
 (.cond (.tmp 28)
 (.seq (.region 7 #[fa 29 107 5 2,fa 30 105 29 1,nd (.store 5 (.tmp 30) (.const (.int .u8 0)))] false)
 (.seq (.region 8 #[fa 31 107 5 2,ld 32 31 105,cl 33 71 #[.tmp 32] #[105] 27,o 34 (.build 30 #[(0,.tmp 33)]) 30,o 6 (.alloc 30) 0,nd (.store 30 (.tmp 6) (.tmp 34))] false)
 (.seq (.region 9 #[fa 35 30 6 1,ld 36 35 22,fa 37 107 5 3,ld 38 37 22,fa 39 107 5 3,ld 40 39 22,o 41 (.call { callee:=.builtin .len,args:=#[.tmp 40],argTypes:=#[22] }) 3,o 42 (.call { callee:=.builtin .min,args:=#[.const (.int .i64 20),.tmp 41],argTypes:=#[3,3] }) 3,o 43 (.slice 22 (.tmp 38) none (some (.tmp 42)) none) 22,⟨some 44,.call { callee:=.builtin .append,args:=#[.tmp 36,.tmp 43],argTypes:=#[22,22] },22, "",fz,none⟩,fa 45 30 6 1,nd (.store 22 (.tmp 45) (.tmp 44))] true)
 (.seq (.region 10 #[m 46 3 28,ld 47 6 30,o 48 (.buildSlice 28 1 #[(0,.tmp 47)]) 28,o 49 (.call { callee:=.builtin .append,args:=#[.tmp 46,.tmp 48],argTypes:=#[28,28] }) 28,o 3 (.assign (.tmp 49)) 28] false)
 (.exit 1)))))
 .skip))
 (.seq (.region 11 #[fa 50 107 5 2,fa 51 105 50 1,nd (.store 5 (.tmp 51) (.const (.int .u8 1)))] false)
 (.seq (.region 12 #[fa 52 107 5 1,ld 53 52 5,o 54 (.binOp .rem 5 (.tmp 53) (.const (.int .u8 5)) 5) 5,o 55 (.convert 5 3 (.tmp 54)) 3,m 56 3 28,o 57 (.call { callee:=.builtin .len,args:=#[.tmp 56],argTypes:=#[28] }) 3,o 58 (.call { callee:=.builtin .min,args:=#[.tmp 55,.tmp 57],argTypes:=#[3,3] }) 3,o 7 (.assign (.tmp 58)) 3] false)
 (.seq (.seq (.region 13 #[fa 59 107 5 0,ld 60 59 5,o 61 (.binOp .rem 5 (.tmp 60) (.const (.int .u8 3)) 5) 5,o 62 (.binOp .eql 5 (.tmp 61) (.const (.int .u8 2)) 5) 4] false)
 (.cond (.tmp 62)
 (.region 14 #[m 63 3 28,o 64 (.call { callee:=.builtin .len,args:=#[.tmp 63],argTypes:=#[28] }) 3,o 7 (.assign (.tmp 64)) 3] false)
 .skip))
 (.seq (.region 15 #[fa 65 107 5 2,ld 66 65 105,cl 67 71 #[.tmp 66] #[105] 27,o 68 (.build 30 #[(0,.tmp 67)]) 30,o 8 (.alloc 30) 0,nd (.store 30 (.tmp 8) (.tmp 68))] false)
 (.seq (.region 16 #[fa 69 30 8 2,ld 70 69 28,m 71 3 28,m 72 3 28,o 73 (.call { callee:=.builtin .len,args:=#[.tmp 72],argTypes:=#[28] }) 3,m 74 7 3,o 75 (.binOp .sub 3 (.tmp 73) (.tmp 74) 3) 3,o 76 (.slice 28 (.tmp 71) (some (.tmp 75)) none none) 28,⟨some 77,.call { callee:=.builtin .append,args:=#[.tmp 70,.tmp 76],argTypes:=#[28,28] },28, "",fz,none⟩,fa 78 30 8 2,nd (.store 28 (.tmp 78) (.tmp 77))] true)
 (.seq (.region 17 #[ld 79 8 30,cl 80 40 #[.tmp 79] #[30] 3,o 81 (.binOp .lss 3 (.tmp 80) (ci 15) 3) 4] false)
 (.cond (.tmp 81)
 (.region 18 #[o 82 (.buildSlice 28 0 #[]) 28,m 83 3 28,m 84 3 28,o 85 (.call { callee:=.builtin .len,args:=#[.tmp 84],argTypes:=#[28] }) 3,m 86 7 3,o 87 (.binOp .sub 3 (.tmp 85) (.tmp 86) 3) 3,o 88 (.slice 28 (.tmp 83) none (some (.tmp 87)) none) 28,o 89 (.call { callee:=.builtin .append,args:=#[.tmp 82,.tmp 88],argTypes:=#[28,28] }) 28,ld 90 8 30,o 91 (.buildSlice 28 1 #[(0,.tmp 90)]) 28,o 92 (.call { callee:=.builtin .append,args:=#[.tmp 89,.tmp 91],argTypes:=#[28,28] }) 28,o 3 (.assign (.tmp 92)) 28] true)
 .skip))))))))))
 (.region 4 #[m 18 4 3,o 19 (.binOp .add 3 (.tmp 18) (ci 1) 3) 3,o 4 (.assign (.tmp 19)) 3] false))))))
 (.seq (.seq (.region 19 #[m 93 3 28,o 94 (.call { callee:=.builtin .len,args:=#[.tmp 93],argTypes:=#[28] }) 3,o 95 (.binOp .eql 3 (.tmp 94) (ci 1) 3) 4] false)
 (.cond (.tmp 95)
 (.seq (.region 20 #[m 96 3 28,o 97 (.indexAddr 28 (.tmp 96) (ci 0)) 0,ld 98 97 30,nd (.store 30 (.tmp 2) (.tmp 98))] false)
 .ret)
 .skip))
 (.seq (.region 21 #[o 99 (.build 27 #[(1,.const (.bool true)),(2,.const (.int .u32 16))]) 27,m 100 3 28,o 101 (.build 30 #[(0,.tmp 99),(2,.tmp 100)]) 30,nd (.store 30 (.tmp 2) (.tmp 101))] false)
 .ret)))))
def kp22:Nat → Option (List Nat)
  | 0 => some [1,2]
  | 1 => some [1,2,3]
  | 2 => some [1,2,3,4]
  | 3 => some [1,2,3,4,17]
  | 4 => some [1,2,3,4]
  | 5 => some [1,2,3,4,5]
  | 6 => some [1,2,3,4,5,28]
  | 7 => some [1,2,3,4,5]
  | 8 => some [1,2,3,4,5,6]
  | 9 => some [1,2,3,4,6]
  | 10 => some [1,2,3,4]
  | 11 => some [1,2,3,4,5]
  | 12 => some [1,2,3,4,5,7]
  | 13 => some [1,2,3,4,5,7,62]
  | 14 => some [1,2,3,4,5,7]
  | 15 => some [1,2,3,4,7,8]
  | 16 => some [1,2,3,4,7,8]
  | 17 => some [1,2,3,4,7,8,81]
  | 18 => some [1,2,3,4]
  | 19 => some [2,3,95]
  | 20 => some [2]
  | 21 => some [2]
  | _ => none
def fn22:AFn:={ ntmps:=102,results:=[.cell 2 30],body:=c22,keep:=kp22,head:=fun | 3 => some [1,2,3,4] | _ => none,opn:=fun _ => none,dyn:=fun | 18 => [(7,8)] | _ => [] }
def d23_0:Code :=
  (.region 0 #[o 2 (.alloc 30) 0,o 3 (.alloc 3) 0,o 4 (.alloc 3) 0,o 5 (.alloc 34) 0] false)
def d23_1:Code :=
  (.region 1 #[m 7 0 22,o 8 (.call { callee:=.builtin .len,args:=#[.tmp 7],argTypes:=#[22] }) 3,o 9 (.binOp .gtr 3 (.tmp 8) (ci 1048576) 3) 4] false)
def d23_2:Code :=
  (.cond (.tmp 9)
 (.seq (.region 2 #[o 10 (.build 30 #[]) 30,nd (.store 30 (.tmp 2) (.tmp 10)),nd (.store 3 (.tmp 3) (ci 0)),nd (.store 3 (.tmp 4) (ci 0)),nd (.store 34 (.tmp 5) (ci 3))] false)
 .ret)
 .skip)
def d23_4:Code :=
  (.region 4 #[m 12 0 22,o 13 (.build 113 #[(0,.tmp 12)]) 113,o 6 (.alloc 113) 0,nd (.store 113 (.tmp 6) (.tmp 13))] false)
def d23_5:Code :=
  (.region 5 #[m 15 0 22,o 16 (.call { callee:=.builtin .len,args:=#[.tmp 15],argTypes:=#[22] }) 3,cl 17 73 #[.tmp 6,.const (.int .i64 0),.tmp 16,.const (.int .i64 1)] #[113,3,3,3] 114,m 14 17 114,o 18 (.extract (.tmp 14) 0) 30,o 19 (.extract (.tmp 14) 1) 3,nd (.store 30 (.tmp 2) (.tmp 18)),nd (.store 3 (.tmp 3) (.tmp 19))] false)
def d23_6:Code :=
  (.region 6 #[ld 20 2 30,ld 21 3 3,nd (.store 30 (.tmp 2) (.tmp 20)),nd (.store 3 (.tmp 3) (.tmp 21)),nd (.store 3 (.tmp 4) (ci 0)),nd (.store 34 (.tmp 5) (ci 0))] true)
def d23_7:Code :=
  .ret
def e23_0:Code :=
  (.region 1 #[m 8 4 20,o 9 (.binOp .neq 20 (.tmp 8) (.const .nilIface) 20) 4] false)
def e23_1:Code :=
  (.cond (.tmp 9)
 (.seq (.region 2 #[m 11 4 20,o 12 (.typeAssert (.tmp 11) 20 110 true) 111,m 10 12 111,o 13 (.extract (.tmp 10) 0) 110,o 14 (.extract (.tmp 10) 1) 4,o 5 (.alloc 110) 0,nd (.store 110 (.tmp 5) (.tmp 13)),o 6 (.assign (.tmp 14)) 4] false)
 (.seq (.seq (.region 3 #[m 15 6 4,o 16 (.unOp .not 4 (.tmp 15)) 4] false)
 (.cond (.tmp 16)
 (.region 4 #[m 17 4 20,nd (.panic (.tmp 17))] false)
 .skip))
 (.region 5 #[o 18 (.build 30 #[]) 30,fa 19 110 5 0,ld 20 19 3,fa 21 110 5 1,ld 22 21 34,nd (.store 30 (.tmp 0) (.tmp 18)),nd (.store 3 (.tmp 1) (ci 0)),nd (.store 3 (.tmp 2) (.tmp 20)),nd (.store 34 (.tmp 3) (.tmp 22))] true)))
 .skip)
def fn23:AFn:={ ntmps:=22,results:=[.cell 2 30,.cell 3 3,.cell 4 3,.cell 5 34],body:=.refuse "",keep:=fun | 0 => some [0,2,3,4,5] | 1 => some [0,2,3,4,5,9] | 2 => some [2,3,4,5] | 3 => some [0,2,3,4,5] | 4 => some [0,2,3,4,5,6] | 5 => some [2,3,4,5] | 6 => some [2,3,4,5] | _ => none,head:=fun  | _ => none,opn:=opnT,dyn:=fun | 6 => [(1,2)] | _ => [] }
def gfn23:AFn:={ ntmps:=23,results:=[],body:=.refuse "",keep:=fun | 0 => some [0,1,2,3,4] | 1 => some [0,1,2,3,4,9] | 2 => some [0,1,2,3,4,5,6] | 3 => some [0,1,2,3,4,5,16] | 4 => some [0,1,2,3,5] | 5 => some [] | _ => none,head:=fun  | _ => none,opn:=opnT,dyn:=fun | 5 => [(2,5),(4,5),(2,6),(4,6),(4,7)] | _ => [] }
def grd23:Grd:={ pre:=[d23_0,d23_1,d23_2],t:=11,caps:=[2,3,4,5],post:=[d23_4,d23_5,d23_6,d23_7],g:=72,rs:=[4,7],gfn:=gfn23,gpost:=[e23_0,e23_1] }
def c24:Code :=
  (.seq (.region 0 #[o 2 (.box 30 (.tmp 0)) 0,o 3 (.box 30 (.tmp 1)) 0,o 4 (.assign (.const (.bool false))) 4] false)
 (.seq (.seq (.region 1 #[fa 6 30 2 0,ld 7 6 27,fa 8 30 3 0,ld 9 8 27,o 10 (.binOp .neq 27 (.tmp 7) (.tmp 9) 27) 4,m 11 10 4,gd 12 (.fieldAddr 30 (.tmp 2) 1) 0 11 false,gd 13 (.load 22 (.tmp 12)) 22 11 false,gd 14 (.convert 22 9 (.tmp 13)) 9 11 false,gd 15 (.fieldAddr 30 (.tmp 3) 1) 0 11 false,gd 16 (.load 22 (.tmp 15)) 22 11 false,gd 17 (.convert 22 9 (.tmp 16)) 9 11 false,gd 18 (.binOp .neq 9 (.tmp 14) (.tmp 17) 9) 4 11 false,o 19 (.pick (.tmp 11) (.const (.bool true)) (.tmp 18)) 4,m 20 19 4,gd 21 (.fieldAddr 30 (.tmp 2) 2) 0 20 false,gd 22 (.load 28 (.tmp 21)) 28 20 false,gd 23 (.call { callee:=.builtin .len,args:=#[.tmp 22],argTypes:=#[28] }) 3 20 false,gd 24 (.fieldAddr 30 (.tmp 3) 2) 0 20 false,gd 25 (.load 28 (.tmp 24)) 28 20 false,gd 26 (.call { callee:=.builtin .len,args:=#[.tmp 25],argTypes:=#[28] }) 3 20 false,gd 27 (.binOp .neq 3 (.tmp 23) (.tmp 26) 3) 4 20 false,o 28 (.pick (.tmp 20) (.const (.bool true)) (.tmp 27)) 4] false)
 (.cond (.tmp 28)
 (.seq (.region 2 #[o 4 (.assign (.const (.bool false))) 4] false)
 .ret)
 .skip))
 (.seq (.seq (.region 3 #[o 5 (.assign (ci 0)) 3] false)
 (.block 0 (.loop (.seq (.seq (.region 4 #[m 29 5 3,fa 30 30 2 2,ld 31 30 28,o 32 (.call { callee:=.builtin .len,args:=#[.tmp 31],argTypes:=#[28] }) 3,o 33 (.binOp .lss 3 (.tmp 29) (.tmp 32) 3) 4] false)
 (.cond (.tmp 33)
 .skip
 (.exit 0)))
 (.seq (.block 1 (.seq (.region 6 #[fa 36 30 2 2,ld 37 36 28,m 38 5 3,o 39 (.indexAddr 28 (.tmp 37) (.tmp 38)) 0,ld 40 39 30,fa 41 30 3 2,ld 42 41 28,m 43 5 3,o 44 (.indexAddr 28 (.tmp 42) (.tmp 43)) 0,ld 45 44 30,cl 46 24 #[.tmp 40,.tmp 45] #[30,30] 4,o 47 (.unOp .not 4 (.tmp 46)) 4] true)
 (.cond (.tmp 47)
 (.seq (.region 7 #[o 4 (.assign (.const (.bool false))) 4] false)
 .ret)
 .skip)))
 (.region 5 #[m 34 5 3,o 35 (.binOp .add 3 (.tmp 34) (ci 1) 3) 3,o 5 (.assign (.tmp 35)) 3] false))))))
 (.seq (.region 8 #[o 4 (.assign (.const (.bool true))) 4] false)
 .ret))))
def kp24:Nat → Option (List Nat)
  | 0 => some [2,3]
  | 1 => some [2,3,28]
  | 2 => some [4]
  | 3 => some [2,3,5]
  | 4 => some [2,3,5,33]
  | 5 => some [2,3,5]
  | 6 => some [2,3,5,47]
  | 7 => some [4]
  | 8 => some [4]
  | _ => none
def fn24:AFn:={ ntmps:=48,results:=[.tmp 4],body:=c24,keep:=kp24,head:=fun | 4 => some [2,3,5] | _ => none,opn:=fun _ => none,dyn:=fun _ => [] }
def c25:Code :=
  (.seq (.region 0 #[o 2 (.box 30 (.tmp 0)) 0,o 4 (.alloc 30) 0,o 5 (.assign (ci 0)) 34] false)
 (.seq (.seq (.region 1 #[ld 9 2 30,cl 10 32 #[.tmp 9] #[30] 34,o 6 (.assign (.tmp 10)) 34] false)
 (.seq (.region 2 #[m 11 6 34,o 12 (.binOp .neq 34 (.tmp 11) (ci 0) 34) 4] false)
 (.cond (.tmp 12)
 (.seq (.region 3 #[o 13 (.build 30 #[]) 30,m 14 6 34,nd (.store 30 (.tmp 4) (.tmp 13)),o 5 (.assign (.tmp 14)) 34] false)
 .ret)
 .skip)))
 (.seq (.seq (.region 4 #[m 15 1 47,o 16 (.call { callee:=.builtin .len,args:=#[.tmp 15],argTypes:=#[47] }) 3,o 17 (.move (ci 0)) 3] false)
 (.block 0 (.loop (.seq (.region 5 #[o 18 (.binOp .lss 3 (.tmp 17) (.tmp 16) 3) 0] false)
 (.seq (.cond (.tmp 18)
 .skip
 (.exit 0))
 (.seq (.block 1 (.seq (.region 6 #[o 19 (.indexAddr 47 (.tmp 15) (.tmp 17)) 0,ld 20 19 3,o 8 (.assign (.tmp 20)) 3] false)
 (.seq (.seq (.region 7 #[m 21 8 3,o 22 (.binOp .lss 3 (.tmp 21) (ci 0) 3) 4,m 23 22 4,gd 24 (.move (.tmp 8)) 3 23 false,gd 25 (.fieldAddr 30 (.tmp 2) 2) 0 23 false,gd 26 (.load 28 (.tmp 25)) 28 23 false,gd 27 (.call { callee:=.builtin .len,args:=#[.tmp 26],argTypes:=#[28] }) 3 23 false,gd 28 (.binOp .geq 3 (.tmp 24) (.tmp 27) 3) 4 23 false,o 29 (.pick (.tmp 23) (.const (.bool true)) (.tmp 28)) 4] false)
 (.cond (.tmp 29)
 (.seq (.region 8 #[o 30 (.build 30 #[]) 30,nd (.store 30 (.tmp 4) (.tmp 30)),o 5 (.assign (ci 19)) 34] false)
 .ret)
 .skip))
 (.region 9 #[fa 31 30 2 2,ld 32 31 28,m 33 8 3,o 34 (.indexAddr 28 (.tmp 32) (.tmp 33)) 0,ld 35 34 30,nd (.store 30 (.tmp 2) (.tmp 35))] false))))
 (.region 10 #[o 36 (.binOp .add 3 (.tmp 17) (ci 1) 3) 3,m 17 36 3] false)))))))
 (.seq (.region 11 #[ld 37 2 30,cl 38 74 #[.tmp 37] #[30] 30,nd (.store 30 (.tmp 4) (.tmp 38)),o 5 (.assign (ci 0)) 34] false)
 .ret))))
def kp25:Nat → Option (List Nat)
  | 0 => some [1,2,4]
  | 1 => some [1,2,4,6]
  | 2 => some [1,2,4,6,12]
  | 3 => some [4,5]
  | 4 => some [2,4,15,16,17]
  | 5 => some [2,4,15,16,17,18]
  | 6 => some [2,4,8,15,16,17]
  | 7 => some [2,4,8,15,16,17,29]
  | 8 => some [4,5]
  | 9 => some [2,4,15,16,17]
  | 10 => some [2,4,15,16,17]
  | 11 => some [4,5]
  | _ => none
def fn25:AFn:={ ntmps:=39,results:=[.cell 4 30,.tmp 5],body:=c25,keep:=kp25,head:=fun | 5 => some [2,4,15,16,17] | _ => none,opn:=fun _ => none,dyn:=fun _ => [] }
def c26:Code :=
  (.seq (.region 0 #[o 2 (.box 30 (.tmp 0)) 0,o 4 (.assign (ci 0)) 3] false)
 (.seq (.seq (.region 1 #[m 7 1 3,o 8 (.binOp .leq 3 (.tmp 7) (ci 0) 3) 4] false)
 (.cond (.tmp 8)
 (.seq (.region 2 #[o 4 (.assign (ci 1)) 3] false)
 .ret)
 .skip))
 (.seq (.region 3 #[o 5 (.assign (ci 1)) 3] false)
 (.seq (.seq (.region 4 #[o 6 (.assign (ci 0)) 3] false)
 (.block 0 (.loop (.seq (.seq (.region 5 #[m 9 6 3,fa 10 30 2 2,ld 11 10 28,o 12 (.call { callee:=.builtin .len,args:=#[.tmp 11],argTypes:=#[28] }) 3,o 13 (.binOp .lss 3 (.tmp 9) (.tmp 12) 3) 4,m 14 13 4,gd 15 (.move (.tmp 5)) 3 14 true,gd 16 (.move (.tmp 1)) 3 14 true,gd 17 (.binOp .leq 3 (.tmp 15) (.tmp 16) 3) 4 14 true,o 18 (.pick (.tmp 14) (.tmp 17) (.const (.bool false))) 4] false)
 (.cond (.tmp 18)
 .skip
 (.exit 0)))
 (.seq (.block 1 (.region 7 #[m 21 5 3,fa 22 30 2 2,ld 23 22 28,m 24 6 3,o 25 (.indexAddr 28 (.tmp 23) (.tmp 24)) 0,ld 26 25 30,m 27 1 3,m 28 5 3,o 29 (.binOp .sub 3 (.tmp 27) (.tmp 28) 3) 3,cl 30 26 #[.tmp 26,.tmp 29] #[30,3] 3,o 31 (.binOp .add 3 (.tmp 21) (.tmp 30) 3) 3,o 5 (.assign (.tmp 31)) 3] false))
 (.region 6 #[m 19 6 3,o 20 (.binOp .add 3 (.tmp 19) (ci 1) 3) 3,o 6 (.assign (.tmp 20)) 3] false))))))
 (.seq (.region 8 #[m 32 5 3,o 4 (.assign (.tmp 32)) 3] false)
 .ret)))))
def kp26:Nat → Option (List Nat)
  | 0 => some [1,2]
  | 1 => some [1,2,8]
  | 2 => some [4]
  | 3 => some [1,2,5]
  | 4 => some [1,2,5,6]
  | 5 => some [1,2,5,6,18]
  | 6 => some [1,2,5,6]
  | 7 => some [1,2,5,6]
  | 8 => some [4]
  | _ => none
def fn26:AFn:={ ntmps:=33,results:=[.tmp 4],body:=c26,keep:=kp26,head:=fun | 5 => some [1,2,5,6] | _ => none,opn:=fun _ => none,dyn:=fun _ => [] }
def c27:Code :=
  (.seq (.region 0 #[o 1 (.box 30 (.tmp 0)) 0,o 2 (.assign (.const (.bool false))) 4] false)
 (.seq (.seq (.region 1 #[fa 4 30 1 1,ld 5 4 22,o 6 (.call { callee:=.builtin .cap,args:=#[.tmp 5],argTypes:=#[22] }) 3,fa 7 30 1 1,ld 8 7 22,o 9 (.call { callee:=.builtin .len,args:=#[.tmp 8],argTypes:=#[22] }) 3,o 10 (.binOp .neq 3 (.tmp 6) (.tmp 9) 3) 4,m 11 10 4,gd 12 (.fieldAddr 30 (.tmp 1) 2) 0 11 false,gd 13 (.load 28 (.tmp 12)) 28 11 false,gd 14 (.call { callee:=.builtin .cap,args:=#[.tmp 13],argTypes:=#[28] }) 3 11 false,gd 15 (.fieldAddr 30 (.tmp 1) 2) 0 11 false,gd 16 (.load 28 (.tmp 15)) 28 11 false,gd 17 (.call { callee:=.builtin .len,args:=#[.tmp 16],argTypes:=#[28] }) 3 11 false,gd 18 (.binOp .neq 3 (.tmp 14) (.tmp 17) 3) 4 11 false,o 19 (.pick (.tmp 11) (.const (.bool true)) (.tmp 18)) 4] false)
 (.cond (.tmp 19)
 (.seq (.region 2 #[o 2 (.assign (.const (.bool false))) 4] false)
 .ret)
 .skip))
 (.seq (.seq (.region 3 #[o 3 (.assign (ci 0)) 3] false)
 (.block 0 (.loop (.seq (.seq (.region 4 #[m 20 3 3,fa 21 30 1 2,ld 22 21 28,o 23 (.call { callee:=.builtin .len,args:=#[.tmp 22],argTypes:=#[28] }) 3,o 24 (.binOp .lss 3 (.tmp 20) (.tmp 23) 3) 4] false)
 (.cond (.tmp 24)
 .skip
 (.exit 0)))
 (.seq (.block 1 (.seq (.region 6 #[fa 27 30 1 2,ld 28 27 28,m 29 3 3,o 30 (.indexAddr 28 (.tmp 28) (.tmp 29)) 0,ld 31 30 30,cl 32 27 #[.tmp 31] #[30] 4,o 33 (.unOp .not 4 (.tmp 32)) 4] false)
 (.cond (.tmp 33)
 (.seq (.region 7 #[o 2 (.assign (.const (.bool false))) 4] false)
 .ret)
 .skip)))
 (.region 5 #[m 25 3 3,o 26 (.binOp .add 3 (.tmp 25) (ci 1) 3) 3,o 3 (.assign (.tmp 26)) 3] false))))))
 (.seq (.region 8 #[o 2 (.assign (.const (.bool true))) 4] false)
 .ret))))
def kp27:Nat → Option (List Nat)
  | 0 => some [1]
  | 1 => some [1,19]
  | 2 => some [2]
  | 3 => some [1,3]
  | 4 => some [1,3,24]
  | 5 => some [1,3]
  | 6 => some [1,3,33]
  | 7 => some [2]
  | 8 => some [2]
  | _ => none
def fn27:AFn:={ ntmps:=34,results:=[.tmp 2],body:=c27,keep:=kp27,head:=fun | 4 => some [1,3] | _ => none,opn:=fun _ => none,dyn:=fun _ => [] }
def c28:Code :=
  (.seq (.region 0 #[o 1 (.box 30 (.tmp 0)) 0,o 2 (.assign (ci 0)) 3] false)
 (.seq (.seq (.region 1 #[ld 4 1 30,cl 5 32 #[.tmp 4] #[30] 34,o 6 (.binOp .neq 34 (.tmp 5) (ci 0) 34) 4] false)
 (.cond (.tmp 6)
 (.seq (.region 2 #[o 2 (.assign (ci 0)) 3] false)
 .ret)
 .skip))
 (.seq (.region 3 #[ld 7 1 30,cl 8 69 #[.tmp 7] #[30] 3,o 3 (.assign (.tmp 8)) 3] false)
 (.seq (.seq (.region 4 #[m 9 3 3,o 10 (.binOp .gtr 3 (.tmp 9) (ci 1048576) 3) 4] false)
 (.cond (.tmp 10)
 (.seq (.region 5 #[o 2 (.assign (ci 0)) 3] false)
 .ret)
 .skip))
 (.seq (.region 6 #[m 11 3 3,o 2 (.assign (.tmp 11)) 3] false)
 .ret)))))
def kp28:Nat → Option (List Nat)
  | 0 => some [1]
  | 1 => some [1,6]
  | 2 => some [2]
  | 3 => some [3]
  | 4 => some [3,10]
  | 5 => some [2]
  | 6 => some [2]
  | _ => none
def fn28:AFn:={ ntmps:=12,results:=[.tmp 2],body:=c28,keep:=kp28,head:=fun  | _ => none,opn:=fun _ => none,dyn:=fun _ => [] }
def c29:Code :=
  (.seq (.region 0 #[o 1 (.box 30 (.tmp 0)) 0,o 2 (.assign (ci 0)) 3] false)
 (.seq (.region 1 #[ld 7 1 30,cl 8 75 #[.tmp 7] #[30] 116,m 6 8 116,o 9 (.extract (.tmp 6) 0) 34,o 10 (.extract (.tmp 6) 1) 3,o 11 (.extract (.tmp 6) 2) 3,o 3 (.assign (.tmp 9)) 34,o 4 (.assign (.tmp 10)) 3,o 5 (.assign (.tmp 11)) 3] false)
 (.seq (.region 2 #[m 12 4 3,o 2 (.assign (.tmp 12)) 3] false)
 .ret)))
def kp29:Nat → Option (List Nat)
  | 0 => some [1]
  | 1 => some [4]
  | 2 => some [2]
  | _ => none
def fn29:AFn:={ ntmps:=13,results:=[.tmp 2],body:=c29,keep:=kp29,head:=fun  | _ => none,opn:=fun _ => none,dyn:=fun _ => [] }
def c30:Code :=
  (.seq (.region 0 #[o 1 (.box 30 (.tmp 0)) 0,o 2 (.assign (ci 0)) 3] false)
 (.seq (.region 1 #[ld 7 1 30,cl 8 75 #[.tmp 7] #[30] 116,m 6 8 116,o 9 (.extract (.tmp 6) 0) 34,o 10 (.extract (.tmp 6) 1) 3,o 11 (.extract (.tmp 6) 2) 3,o 3 (.assign (.tmp 9)) 34,o 4 (.assign (.tmp 10)) 3,o 5 (.assign (.tmp 11)) 3] false)
 (.seq (.region 2 #[m 12 5 3,o 2 (.assign (.tmp 12)) 3] false)
 .ret)))
def kp30:Nat → Option (List Nat)
  | 0 => some [1]
  | 1 => some [5]
  | 2 => some [2]
  | _ => none
def fn30:AFn:={ ntmps:=13,results:=[.tmp 2],body:=c30,keep:=kp30,head:=fun  | _ => none,opn:=fun _ => none,dyn:=fun _ => [] }
def c32:Code :=
  (.seq (.region 0 #[o 1 (.box 30 (.tmp 0)) 0,o 2 (.assign (ci 0)) 34] false)
 (.seq (.region 1 #[ld 7 1 30,cl 8 75 #[.tmp 7] #[30] 116,m 6 8 116,o 9 (.extract (.tmp 6) 0) 34,o 10 (.extract (.tmp 6) 1) 3,o 11 (.extract (.tmp 6) 2) 3,o 3 (.assign (.tmp 9)) 34,o 4 (.assign (.tmp 10)) 3,o 5 (.assign (.tmp 11)) 3] false)
 (.seq (.region 2 #[m 12 3 34,o 2 (.assign (.tmp 12)) 34] false)
 .ret)))
def kp32:Nat → Option (List Nat)
  | 0 => some [1]
  | 1 => some [3]
  | 2 => some [2]
  | _ => none
def fn32:AFn:={ ntmps:=13,results:=[.tmp 2],body:=c32,keep:=kp32,head:=fun  | _ => none,opn:=fun _ => none,dyn:=fun _ => [] }
def c34:Code :=
  (.seq (.region 0 #[o 2 (.alloc 30) 0,o 3 (.assign (ci 0)) 3,o 4 (.assign (ci 0)) 34] false)
 (.seq (.region 1 #[m 7 0 22,cl 8 23 #[.tmp 7] #[22] 43,m 6 8 43,o 9 (.extract (.tmp 6) 0) 30,o 10 (.extract (.tmp 6) 1) 3,o 11 (.extract (.tmp 6) 2) 3,o 12 (.extract (.tmp 6) 3) 34,nd (.store 30 (.tmp 2) (.tmp 9)),o 5 (.assign (.tmp 10)) 3,o 3 (.assign (.tmp 11)) 3,o 4 (.assign (.tmp 12)) 34] false)
 (.seq (.block 0 (.seq (.region 2 #[m 14 4 34,o 15 (.binOp .neq 34 (.tmp 14) (ci 0) 34) 4,o 13 (.assign (.tmp 15)) 4] false)
 (.cond (.tmp 13)
 (.seq (.region 3 #[o 16 (.build 30 #[]) 30,m 17 3 3,m 18 4 34,nd (.store 30 (.tmp 2) (.tmp 16)),o 3 (.assign (.tmp 17)) 3,o 4 (.assign (.tmp 18)) 34] false)
 .ret)
 (.seq (.region 4 #[m 20 5 3,m 21 0 22,o 22 (.call { callee:=.builtin .len,args:=#[.tmp 21],argTypes:=#[22] }) 3,o 23 (.binOp .lss 3 (.tmp 20) (.tmp 22) 3) 4,o 19 (.assign (.tmp 23)) 4] false)
 (.cond (.tmp 19)
 (.seq (.region 5 #[o 24 (.build 30 #[]) 30,m 25 5 3,nd (.store 30 (.tmp 2) (.tmp 24)),o 3 (.assign (.tmp 25)) 3,o 4 (.assign (ci 8)) 34] false)
 .ret)
 .skip)))))
 (.seq (.region 6 #[ld 26 2 30,nd (.store 30 (.tmp 2) (.tmp 26)),o 3 (.assign (ci 0)) 3,o 4 (.assign (ci 0)) 34] false)
 .ret))))
def kp34:Nat → Option (List Nat)
  | 0 => some [0,2]
  | 1 => some [0,2,3,4,5]
  | 2 => some [0,2,3,4,5,13]
  | 3 => some [2,3,4]
  | 4 => some [2,5,19]
  | 5 => some [2,3,4]
  | 6 => some [2,3,4]
  | _ => none
def fn34:AFn:={ ntmps:=27,results:=[.cell 2 30,.tmp 3,.tmp 4],body:=c34,keep:=kp34,head:=fun  | _ => none,opn:=fun _ => none,dyn:=fun _ => [] }
def c35:Code :=
  (.seq (.region 0 #[o 1 (.box 30 (.tmp 0)) 0,o 2 (.assign (.const (.slice none 0 0))) 22] false)
 (.seq (.region 1 #[o 5 (.buildSlice 22 0 #[]) 22,fa 6 30 1 1,ld 7 6 22,o 8 (.call { callee:=.builtin .append,args:=#[.tmp 5,.tmp 7],argTypes:=#[22,22] }) 22,o 3 (.assign (.tmp 8)) 22] false)
 (.seq (.seq (.region 2 #[o 4 (.assign (ci 0)) 3] false)
 (.block 0 (.loop (.seq (.seq (.region 3 #[m 9 4 3,fa 10 30 1 2,ld 11 10 28,o 12 (.call { callee:=.builtin .len,args:=#[.tmp 11],argTypes:=#[28] }) 3,o 13 (.binOp .lss 3 (.tmp 9) (.tmp 12) 3) 4] false)
 (.cond (.tmp 13)
 .skip
 (.exit 0)))
 (.seq (.block 1 (.region 5 #[m 16 3 22,fa 17 30 1 2,ld 18 17 28,m 19 4 3,o 20 (.indexAddr 28 (.tmp 18) (.tmp 19)) 0,ld 21 20 30,cl 22 35 #[.tmp 21] #[30] 22,o 23 (.call { callee:=.builtin .append,args:=#[.tmp 16,.tmp 22],argTypes:=#[22,22] }) 22,o 3 (.assign (.tmp 23)) 22] false))
 (.region 4 #[m 14 4 3,o 15 (.binOp .add 3 (.tmp 14) (ci 1) 3) 3,o 4 (.assign (.tmp 15)) 3] false))))))
 (.seq (.region 6 #[fa 24 30 1 0,ld 25 24 27,cl 26 76 #[.tmp 25] #[27] 22,m 27 3 22,o 28 (.call { callee:=.builtin .len,args:=#[.tmp 27],argTypes:=#[22] }) 3,cl 29 77 #[.tmp 28] #[3] 22,o 30 (.call { callee:=.builtin .append,args:=#[.tmp 26,.tmp 29],argTypes:=#[22,22] }) 22,m 31 3 22,o 32 (.call { callee:=.builtin .append,args:=#[.tmp 30,.tmp 31],argTypes:=#[22,22] }) 22,o 2 (.assign (.tmp 32)) 22] false)
 .ret))))
def kp35:Nat → Option (List Nat)
  | 0 => some [1]
  | 1 => some [1,3]
  | 2 => some [1,3,4]
  | 3 => some [1,3,4,13]
  | 4 => some [1,3,4]
  | 5 => some [1,3,4]
  | 6 => some [2]
  | _ => none
def fn35:AFn:={ ntmps:=33,results:=[.tmp 2],body:=c35,keep:=kp35,head:=fun | 3 => some [1,3,4] | _ => none,opn:=opnT,dyn:=fun _ => [] }
def c36:Code :=
  (.seq (.region 0 #[o 2 (.box 30 (.tmp 0)) 0,o 3 (.box 30 (.tmp 1)) 0,o 4 (.assign (.const (.bool false))) 4] false)
 (.seq (.region 1 #[ld 5 2 30,cl 6 32 #[.tmp 5] #[30] 34,o 7 (.binOp .eql 34 (.tmp 6) (ci 0) 34) 4,m 8 7 4,gd 9 (.load 30 (.tmp 3)) 30 8 true,gd 10 (.call { callee:=.value (.func 32),args:=#[.tmp 9],argTypes:=#[30] }) 34 8 true,gd 11 (.binOp .eql 34 (.tmp 10) (ci 0) 34) 4 8 true,o 12 (.pick (.tmp 8) (.tmp 11) (.const (.bool false))) 4,m 13 12 4,gd 14 (.load 30 (.tmp 2)) 30 13 true,gd 15 (.load 30 (.tmp 3)) 30 13 true,gd 16 (.call { callee:=.value (.func 78),args:=#[.tmp 14,.tmp 15],argTypes:=#[30,30] }) 4 13 true,o 17 (.pick (.tmp 13) (.tmp 16) (.const (.bool false))) 4,o 4 (.assign (.tmp 17)) 4] false)
 .ret))
def kp36:Nat → Option (List Nat)
  | 0 => some [2,3]
  | 1 => some [4]
  | _ => none
def fn36:AFn:={ ntmps:=18,results:=[.tmp 4],body:=c36,keep:=kp36,head:=fun  | _ => none,opn:=fun _ => none,dyn:=fun _ => [] }
def c37:Code :=
  (.seq (.region 0 #[o 2 (.box 30 (.tmp 0)) 0,o 3 (.box 30 (.tmp 1)) 0,o 4 (.assign (ci 0)) 3] false)
 (.seq (.region 1 #[ld 10 2 30,cl 11 21 #[.tmp 10] #[30] 35,m 9 11 35,o 12 (.extract (.tmp 9) 0) 22,o 13 (.extract (.tmp 9) 1) 34,o 5 (.assign (.tmp 12)) 22,o 6 (.assign (.tmp 13)) 34] false)
 (.seq (.region 2 #[ld 15 3 30,cl 16 21 #[.tmp 15] #[30] 35,m 14 16 35,o 17 (.extract (.tmp 14) 0) 22,o 18 (.extract (.tmp 14) 1) 34,o 7 (.assign (.tmp 17)) 22,o 8 (.assign (.tmp 18)) 34] false)
 (.seq (.region 3 #[m 19 5 22,m 20 7 22,cl 21 79 #[.tmp 19,.tmp 20] #[22,22] 3,o 4 (.assign (.tmp 21)) 3] false)
 .ret))))
def kp37:Nat → Option (List Nat)
  | 0 => some [2,3]
  | 1 => some [3,5]
  | 2 => some [5,7]
  | 3 => some [4]
  | _ => none
def fn37:AFn:={ ntmps:=22,results:=[.tmp 4],body:=c37,keep:=kp37,head:=fun  | _ => none,opn:=fun _ => none,dyn:=fun _ => [] }
def c38:Code :=
  (.seq (.region 0 #[o 1 (.box 30 (.tmp 0)) 0,o 2 (.assign (ci 0)) 3] false)
 (.seq (.seq (.region 1 #[ld 4 1 30,cl 5 26 #[.tmp 4,.const (.int .i64 60)] #[30,3] 3,o 6 (.binOp .gtr 3 (.tmp 5) (ci 60) 3) 4] false)
 (.cond (.tmp 6)
 (.seq (.region 2 #[o 2 (.assign (ci 0)) 3] false)
 .ret)
 .skip))
 (.seq (.seq (.region 3 #[fa 7 30 1 1,ld 8 7 22,o 9 (.call { callee:=.builtin .len,args:=#[.tmp 8],argTypes:=#[22] }) 3,o 10 (.binOp .gtr 3 (.tmp 9) (ci 200) 3) 4] false)
 (.cond (.tmp 10)
 (.seq (.region 4 #[o 2 (.assign (ci 0)) 3] false)
 .ret)
 .skip))
 (.seq (.seq (.region 5 #[o 3 (.assign (ci 0)) 3] false)
 (.block 0 (.loop (.seq (.seq (.region 6 #[m 11 3 3,fa 12 30 1 2,ld 13 12 28,o 14 (.call { callee:=.builtin .len,args:=#[.tmp 13],argTypes:=#[28] }) 3,o 15 (.binOp .lss 3 (.tmp 11) (.tmp 14) 3) 4] false)
 (.cond (.tmp 15)
 .skip
 (.exit 0)))
 (.seq (.block 1 (.seq (.region 8 #[fa 18 30 1 2,ld 19 18 28,m 20 3 3,o 21 (.indexAddr 28 (.tmp 19) (.tmp 20)) 0,ld 22 21 30,cl 23 38 #[.tmp 22] #[30] 3,o 24 (.binOp .eql 3 (.tmp 23) (ci 0) 3) 4] false)
 (.cond (.tmp 24)
 (.seq (.region 9 #[o 2 (.assign (ci 0)) 3] false)
 .ret)
 .skip)))
 (.region 7 #[m 16 3 3,o 17 (.binOp .add 3 (.tmp 16) (ci 1) 3) 3,o 3 (.assign (.tmp 17)) 3] false))))))
 (.seq (.region 10 #[o 2 (.assign (ci 1)) 3] false)
 .ret)))))
def kp38:Nat → Option (List Nat)
  | 0 => some [1]
  | 1 => some [1,6]
  | 2 => some [2]
  | 3 => some [1,10]
  | 4 => some [2]
  | 5 => some [1,3]
  | 6 => some [1,3,15]
  | 7 => some [1,3]
  | 8 => some [1,3,24]
  | 9 => some [2]
  | 10 => some [2]
  | _ => none
def fn38:AFn:={ ntmps:=25,results:=[.tmp 2],body:=c38,keep:=kp38,head:=fun | 6 => some [1,3] | _ => none,opn:=fun _ => none,dyn:=fun _ => [] }
def c39:Code :=
  (.seq (.region 0 #[o 3 (.box 30 (.tmp 0)) 0,o 6 (.assign (ci 0)) 3,o 7 (.assign (ci 0)) 3] false)
 (.seq (.seq (.region 1 #[fa 13 30 3 0,ld 14 13 27,cl 15 80 #[.tmp 14] #[27] 3,o 8 (.assign (.tmp 15)) 3] false)
 (.seq (.region 2 #[m 16 8 3,o 17 (.binOp .neq 3 (.tmp 16) (ci 0) 3) 4] false)
 (.cond (.tmp 17)
 (.seq (.region 3 #[m 18 8 3,o 6 (.assign (.tmp 18)) 3,o 7 (.assign (ci 0)) 3] false)
 .ret)
 .skip)))
 (.seq (.seq (.region 4 #[fa 19 30 3 0,fa 20 27 19 1,ld 21 20 4,m 22 21 4,gd 23 (.fieldAddr 30 (.tmp 3) 1) 0 22 true,gd 24 (.load 22 (.tmp 23)) 22 22 true,gd 25 (.call { callee:=.builtin .len,args:=#[.tmp 24],argTypes:=#[22] }) 3 22 true,gd 26 (.binOp .gtr 3 (.tmp 25) (ci 0) 3) 4 22 true,o 27 (.pick (.tmp 22) (.tmp 26) (.const (.bool false))) 4,m 28 27 4,gd 29 (.fieldAddr 30 (.tmp 3) 0) 0 28 false,gd 30 (.fieldAddr 27 (.tmp 29) 1) 0 28 false,gd 31 (.load 4 (.tmp 30)) 4 28 false,gd 32 (.unOp .not 4 (.tmp 31)) 4 28 false,gd 33 (.move (.tmp 32)) 4 28 false,gd 34 (.fieldAddr 30 (.tmp 3) 2) 0 33 true,gd 35 (.load 28 (.tmp 34)) 28 33 true,gd 36 (.call { callee:=.builtin .len,args:=#[.tmp 35],argTypes:=#[28] }) 3 33 true,gd 37 (.binOp .gtr 3 (.tmp 36) (ci 0) 3) 4 33 true,gd 38 (.pick (.tmp 33) (.tmp 37) (.const (.bool false))) 4 28 false,o 39 (.pick (.tmp 28) (.const (.bool true)) (.tmp 38)) 4] false)
 (.cond (.tmp 39)
 (.seq (.region 5 #[o 6 (.assign (ci 1)) 3,o 7 (.assign (ci 0)) 3] false)
 .ret)
 .skip))
 (.seq (.seq (.region 6 #[m 40 1 3,o 41 (.binOp .gtr 3 (.tmp 40) (ci 16) 3) 4] false)
 (.cond (.tmp 41)
 (.seq (.region 7 #[o 6 (.assign (ci 12)) 3,o 7 (.assign (ci 0)) 3] false)
 .ret)
 .skip))
 (.seq (.seq (.region 8 #[m 42 2 3,o 43 (.binOp .geq 3 (.tmp 42) (ci 8192) 3) 4] false)
 (.cond (.tmp 43)
 (.seq (.region 9 #[o 6 (.assign (ci 3)) 3,o 7 (.assign (ci 0)) 3] false)
 .ret)
 .skip))
 (.seq (.region 10 #[m 44 2 3,o 45 (.binOp .add 3 (.tmp 44) (ci 1) 3) 3,o 9 (.assign (.tmp 45)) 3] false)
 (.seq (.seq (.region 11 #[o 10 (.assign (ci 0)) 3] false)
 (.block 0 (.loop (.seq (.seq (.region 12 #[m 46 10 3,fa 47 30 3 2,ld 48 47 28,o 49 (.call { callee:=.builtin .len,args:=#[.tmp 48],argTypes:=#[28] }) 3,o 50 (.binOp .lss 3 (.tmp 46) (.tmp 49) 3) 4] false)
 (.cond (.tmp 50)
 .skip
 (.exit 0)))
 (.seq (.block 1 (.seq (.region 14 #[fa 54 30 3 2,ld 55 54 28,m 56 10 3,o 57 (.indexAddr 28 (.tmp 55) (.tmp 56)) 0,ld 58 57 30,m 59 1 3,o 60 (.binOp .add 3 (.tmp 59) (ci 1) 3) 3,m 61 9 3,cl 62 39 #[.tmp 58,.tmp 60,.tmp 61] #[30,3,3] 62,m 53 62 62,o 63 (.extract (.tmp 53) 0) 3,o 64 (.extract (.tmp 53) 1) 3,o 11 (.assign (.tmp 63)) 3,o 12 (.assign (.tmp 64)) 3] false)
 (.seq (.seq (.region 15 #[m 65 11 3,o 66 (.binOp .neq 3 (.tmp 65) (ci 0) 3) 4] false)
 (.cond (.tmp 66)
 (.seq (.region 16 #[m 67 11 3,o 6 (.assign (.tmp 67)) 3,o 7 (.assign (ci 0)) 3] false)
 .ret)
 .skip))
 (.region 17 #[m 68 12 3,o 9 (.assign (.tmp 68)) 3] false))))
 (.region 13 #[m 51 10 3,o 52 (.binOp .add 3 (.tmp 51) (ci 1) 3) 3,o 10 (.assign (.tmp 52)) 3] false))))))
 (.seq (.region 18 #[m 69 9 3,o 6 (.assign (ci 0)) 3,o 7 (.assign (.tmp 69)) 3] false)
 .ret))))))))
def kp39:Nat → Option (List Nat)
  | 0 => some [1,2,3]
  | 1 => some [1,2,3,8]
  | 2 => some [1,2,3,8,17]
  | 3 => some [6,7]
  | 4 => some [1,2,3,39]
  | 5 => some [6,7]
  | 6 => some [1,2,3,41]
  | 7 => some [6,7]
  | 8 => some [1,2,3,43]
  | 9 => some [6,7]
  | 10 => some [1,3,9]
  | 11 => some [1,3,9,10]
  | 12 => some [1,3,9,10,50]
  | 13 => some [1,3,9,10]
  | 14 => some [1,3,10,11,12]
  | 15 => some [1,3,10,11,12,66]
  | 16 => some [6,7]
  | 17 => some [1,3,9,10]
  | 18 => some [6,7]
  | _ => none
def fn39:AFn:={ ntmps:=70,results:=[.tmp 6,.tmp 7],body:=c39,keep:=kp39,head:=fun | 12 => some [1,3,9,10] | _ => none,opn:=fun _ => none,dyn:=fun _ => [] }
def c40:Code :=
  (.seq (.region 0 #[o 1 (.box 30 (.tmp 0)) 0,o 2 (.assign (ci 0)) 3] false)
 (.seq (.region 1 #[o 3 (.assign (ci 0)) 3] false)
 (.seq (.seq (.region 2 #[o 4 (.assign (ci 0)) 3] false)
 (.block 0 (.loop (.seq (.seq (.region 3 #[m 5 4 3,fa 6 30 1 2,ld 7 6 28,o 8 (.call { callee:=.builtin .len,args:=#[.tmp 7],argTypes:=#[28] }) 3,o 9 (.binOp .lss 3 (.tmp 5) (.tmp 8) 3) 4] false)
 (.cond (.tmp 9)
 .skip
 (.exit 0)))
 (.seq (.block 1 (.region 5 #[m 12 3 3,fa 13 30 1 2,ld 14 13 28,m 15 4 3,o 16 (.indexAddr 28 (.tmp 14) (.tmp 15)) 0,ld 17 16 30,cl 18 40 #[.tmp 17] #[30] 3,o 19 (.call { callee:=.builtin .max,args:=#[.tmp 12,.tmp 18],argTypes:=#[3,3] }) 3,o 3 (.assign (.tmp 19)) 3] false))
 (.region 4 #[m 10 4 3,o 11 (.binOp .add 3 (.tmp 10) (ci 1) 3) 3,o 4 (.assign (.tmp 11)) 3] false))))))
 (.seq (.region 6 #[m 20 3 3,o 21 (.binOp .add 3 (.tmp 20) (ci 1) 3) 3,o 2 (.assign (.tmp 21)) 3] false)
 .ret))))
def kp40:Nat → Option (List Nat)
  | 0 => some [1]
  | 1 => some [1,3]
  | 2 => some [1,3,4]
  | 3 => some [1,3,4,9]
  | 4 => some [1,3,4]
  | 5 => some [1,3,4]
  | 6 => some [2]
  | _ => none
def fn40:AFn:={ ntmps:=22,results:=[.tmp 2],body:=c40,keep:=kp40,head:=fun | 3 => some [1,3,4] | _ => none,opn:=fun _ => none,dyn:=fun _ => [] }
def c41:Code :=
  (.seq (.region 0 #[o 0 (.alloc 30) 0] false)
 (.seq (.region 1 #[o 1 (.build 27 #[(1,.const (.bool true)),(2,.const (.int .u32 16))]) 27,o 2 (.build 27 #[(2,.const (.int .u32 2))]) 27,o 3 (.buildSlice 22 1 #[(0,.const (.int .u8 7))]) 22,o 4 (.build 30 #[(0,.tmp 2),(1,.tmp 3)]) 30,o 5 (.build 27 #[(2,.const (.int .u32 5))]) 27,o 6 (.build 30 #[(0,.tmp 5)]) 30,o 7 (.buildSlice 28 2 #[(0,.tmp 4),(1,.tmp 6)]) 28,o 8 (.build 30 #[(0,.tmp 1),(2,.tmp 7)]) 30,nd (.store 30 (.tmp 0) (.tmp 8))] false)
 .ret))
def kp41:Nat → Option (List Nat)
  | 0 => some [0]
  | 1 => some [0]
  | _ => none
def fn41:AFn:={ ntmps:=9,results:=[.cell 0 30],body:=c41,keep:=kp41,head:=fun  | _ => none,opn:=fun _ => none,dyn:=fun _ => [] }
def c43:Code :=
  (.seq (.region 0 #[o 2 (.assign (.const (.slice none 0 0))) 67] false)
 (.seq (.region 1 #[o 3 (.assign (.const (.slice none 0 0))) 67] false)
 (.seq (.seq (.region 2 #[o 4 (.assign (ci 0)) 3] false)
 (.block 0 (.loop (.seq (.seq (.region 3 #[m 5 4 3,m 6 0 66,o 7 (.call { callee:=.builtin .len,args:=#[.tmp 6],argTypes:=#[66] }) 3,o 8 (.binOp .lss 3 (.tmp 5) (.tmp 7) 3) 4,m 9 8 4,gd 10 (.move (.tmp 4)) 3 9 true,gd 11 (.binOp .lss 3 (.tmp 10) (ci 20) 3) 4 9 true,o 12 (.pick (.tmp 9) (.tmp 11) (.const (.bool false))) 4] false)
 (.cond (.tmp 12)
 .skip
 (.exit 0)))
 (.seq (.block 1 (.region 5 #[m 15 3 67,m 16 0 66,m 17 4 3,o 18 (.indexAddr 66 (.tmp 16) (.tmp 17)) 0,fa 19 125 18 0,ld 20 19 5,cl 21 44 #[.tmp 20] #[5] 27,m 22 0 66,m 23 4 3,o 24 (.indexAddr 66 (.tmp 22) (.tmp 23)) 0,fa 25 125 24 1,ld 26 25 5,o 27 (.binOp .rem 5 (.tmp 26) (.const (.int .u8 4)) 5) 5,o 28 (.binOp .eql 5 (.tmp 27) (.const (.int .u8 3)) 5) 4,m 29 0 66,m 30 4 3,o 31 (.indexAddr 66 (.tmp 29) (.tmp 30)) 0,fa 32 125 31 1,ld 33 32 5,o 34 (.binOp .quo 5 (.tmp 33) (.const (.int .u8 4)) 5) 5,o 35 (.binOp .rem 5 (.tmp 34) (.const (.int .u8 2)) 5) 5,o 36 (.binOp .eql 5 (.tmp 35) (.const (.int .u8 1)) 5) 4,o 37 (.build 78 #[(0,.tmp 21),(1,.tmp 28),(2,.tmp 36)]) 78,o 38 (.buildSlice 67 1 #[(0,.tmp 37)]) 67,o 39 (.call { callee:=.builtin .append,args:=#[.tmp 15,.tmp 38],argTypes:=#[67,67] }) 67,o 3 (.assign (.tmp 39)) 67] true))
 (.region 4 #[m 13 4 3,o 14 (.binOp .add 3 (.tmp 13) (ci 1) 3) 3,o 4 (.assign (.tmp 14)) 3] false))))))
 (.seq (.region 6 #[m 40 3 67,o 2 (.assign (.tmp 40)) 67] false)
 .ret))))
def kp43:Nat → Option (List Nat)
  | 0 => some [0]
  | 1 => some [0,3]
  | 2 => some [0,3,4]
  | 3 => some [0,3,4,12]
  | 4 => some [0,3,4]
  | 5 => some [0,3,4]
  | 6 => some [2]
  | _ => none
def fn43:AFn:={ ntmps:=41,results:=[.tmp 2],body:=c43,keep:=kp43,head:=fun | 3 => some [0,3,4] | _ => none,opn:=fun _ => none,dyn:=fun _ => [] }
def c44:Code :=
  (.seq (.region 0 #[o 2 (.alloc 27) 0] false)
 (.seq (.seq (.region 1 #[m 3 0 5,o 4 (.binOp .rem 5 (.tmp 3) (.const (.int .u8 8)) 5) 5] false)
 (.block 0 (.seq (.region 2 #[o 6 (.binOp .eql 5 (.tmp 4) (.const (.int .u8 0)) 5) 4,o 5 (.assign (.tmp 6)) 4] false)
 (.cond (.tmp 5)
 (.seq (.region 3 #[o 7 (.build 27 #[(1,.const (.bool true)),(2,.const (.int .u32 16))]) 27,nd (.store 27 (.tmp 2) (.tmp 7))] false)
 .ret)
 (.seq (.region 4 #[o 9 (.binOp .eql 5 (.tmp 4) (.const (.int .u8 1)) 5) 4,o 8 (.assign (.tmp 9)) 4] false)
 (.cond (.tmp 8)
 (.seq (.region 5 #[o 10 (.build 27 #[(1,.const (.bool true)),(2,.const (.int .u32 17))]) 27,nd (.store 27 (.tmp 2) (.tmp 10))] false)
 .ret)
 (.seq (.region 6 #[o 12 (.binOp .eql 5 (.tmp 4) (.const (.int .u8 2)) 5) 4,o 11 (.assign (.tmp 12)) 4] false)
 (.cond (.tmp 11)
 (.seq (.region 7 #[m 13 0 5,o 14 (.binOp .quo 5 (.tmp 13) (.const (.int .u8 8)) 5) 5,o 15 (.binOp .rem 5 (.tmp 14) (.const (.int .u8 4)) 5) 5,o 16 (.convert 5 25 (.tmp 15)) 25,o 17 (.binOp .mul 25 (.tmp 16) (.const (.int .u32 12)) 25) 25,o 18 (.build 27 #[(0,.const (.int .u8 2)),(1,.const (.bool true)),(2,.tmp 17)]) 27,nd (.store 27 (.tmp 2) (.tmp 18))] false)
 .ret)
 (.seq (.region 8 #[o 20 (.binOp .eql 5 (.tmp 4) (.const (.int .u8 3)) 5) 4,o 19 (.assign (.tmp 20)) 4] false)
 (.cond (.tmp 19)
 (.seq (.region 9 #[m 21 0 5,o 22 (.binOp .quo 5 (.tmp 21) (.const (.int .u8 8)) 5) 5,o 23 (.binOp .rem 5 (.tmp 22) (.const (.int .u8 4)) 5) 5,o 24 (.convert 5 25 (.tmp 23)) 25,o 25 (.build 27 #[(0,.const (.int .u8 2)),(2,.tmp 24)]) 27,nd (.store 27 (.tmp 2) (.tmp 25))] false)
 .ret)
 (.seq (.region 10 #[o 27 (.binOp .eql 5 (.tmp 4) (.const (.int .u8 4)) 5) 4,o 26 (.assign (.tmp 27)) 4] false)
 (.cond (.tmp 26)
 (.seq (.region 11 #[o 28 (.build 27 #[(2,.const (.int .u32 1))]) 27,nd (.store 27 (.tmp 2) (.tmp 28))] false)
 .ret)
 (.seq (.region 12 #[o 30 (.binOp .eql 5 (.tmp 4) (.const (.int .u8 5)) 5) 4,o 29 (.assign (.tmp 30)) 4] false)
 (.cond (.tmp 29)
 (.seq (.region 13 #[o 31 (.build 27 #[(2,.const (.int .u32 4))]) 27,nd (.store 27 (.tmp 2) (.tmp 31))] false)
 .ret)
 .skip))))))))))))))
 (.seq (.region 14 #[o 32 (.build 27 #[(2,.const (.int .u32 2))]) 27,nd (.store 27 (.tmp 2) (.tmp 32))] false)
 .ret)))
def kp44:Nat → Option (List Nat)
  | 0 => some [0,2]
  | 1 => some [0,2,4]
  | 2 => some [0,2,4,5]
  | 3 => some [2]
  | 4 => some [0,2,4,8]
  | 5 => some [2]
  | 6 => some [0,2,4,11]
  | 7 => some [2]
  | 8 => some [0,2,4,19]
  | 9 => some [2]
  | 10 => some [2,4,26]
  | 11 => some [2]
  | 12 => some [2,29]
  | 13 => some [2]
  | 14 => some [2]
  | _ => none
def fn44:AFn:={ ntmps:=33,results:=[.cell 2 27],body:=c44,keep:=kp44,head:=fun  | _ => none,opn:=fun _ => none,dyn:=fun _ => [] }
def c45:Code :=
  (.seq (.region 0 #[o 3 (.box 30 (.tmp 0)) 0,o 4 (.box 27 (.tmp 1)) 0,o 6 (.assign (.const (.slice none 0 0))) 47,o 7 (.alloc 71) 0] false)
 (.seq (.block 0 (.seq (.region 1 #[m 14 2 67,o 15 (.call { callee:=.builtin .len,args:=#[.tmp 14],argTypes:=#[67] }) 3,o 16 (.binOp .gtr 3 (.tmp 15) (ci 256) 3) 4,o 13 (.assign (.tmp 16)) 4] false)
 (.cond (.tmp 13)
 (.seq (.region 2 #[cl 17 82 #[.const (.int .i64 3),.const (.slice none 0 0)] #[34,47] 71,o 6 (.assign (.const (.slice none 0 0))) 47,nd (.store 71 (.tmp 7) (.tmp 17))] false)
 .ret)
 (.seq (.region 3 #[fa 19 30 3 0,ld 20 19 27,ld 21 4 27,o 22 (.binOp .neq 27 (.tmp 20) (.tmp 21) 27) 4,o 18 (.assign (.tmp 22)) 4] false)
 (.cond (.tmp 18)
 (.seq (.region 4 #[cl 23 82 #[.const (.int .i64 9),.const (.slice none 0 0)] #[34,47] 71,o 6 (.assign (.const (.slice none 0 0))) 47,nd (.store 71 (.tmp 7) (.tmp 23))] false)
 .ret)
 .skip)))))
 (.seq (.region 5 #[o 8 (.assign (ci 0)) 3] false)
 (.seq (.region 6 #[m 24 2 67,o 25 (.call { callee:=.builtin .len,args:=#[.tmp 24],argTypes:=#[67] }) 3,o 26 (.makeSlice 47 (ci 0) (.tmp 25)) 47,o 9 (.assign (.tmp 26)) 47] false)
 (.seq (.seq (.region 7 #[m 27 2 67,o 28 (.call { callee:=.builtin .len,args:=#[.tmp 27],argTypes:=#[67] }) 3,o 29 (.move (ci 0)) 3] false)
 (.block 1 (.loop (.seq (.region 8 #[o 30 (.binOp .lss 3 (.tmp 29) (.tmp 28) 3) 0] false)
 (.seq (.cond (.tmp 30)
 .skip
 (.exit 1))
 (.seq (.block 2 (.seq (.region 9 #[o 31 (.indexAddr 67 (.tmp 27) (.tmp 29)) 0,ld 32 31 78,o 11 (.alloc 78) 0,nd (.store 78 (.tmp 11) (.tmp 32))] false)
 (.seq (.region 10 #[ld 33 11 78,o 34 (.makeFunc (.func 83) #[.tmp 33] #[]) 51,o 12 (.assign (.tmp 34)) 51] false)
 (.block 3 (.seq (.region 12 #[m 39 8 3,fa 40 30 3 2,ld 41 40 28,o 42 (.call { callee:=.builtin .len,args:=#[.tmp 41],argTypes:=#[28] }) 3,o 43 (.binOp .lss 3 (.tmp 39) (.tmp 42) 3) 4,m 44 43 4,gd 45 (.move (.tmp 12)) 51 44 true,gd 46 (.fieldAddr 30 (.tmp 3) 2) 0 44 true,gd 47 (.load 28 (.tmp 46)) 28 44 true,gd 48 (.move (.tmp 8)) 3 44 true,gd 49 (.indexAddr 28 (.tmp 47) (.tmp 48)) 0 44 true,gd 50 (.load 30 (.tmp 49)) 30 44 true,gd 51 (.call { callee:=.value (.tmp 45),args:=#[.tmp 50],argTypes:=#[30] }) 4 44 true,o 52 (.pick (.tmp 44) (.tmp 51) (.const (.bool false))) 4,o 38 (.assign (.tmp 52)) 4] false)
 (.cond (.tmp 38)
 (.seq (.region 13 #[m 53 9 47,m 54 8 3,o 55 (.buildSlice 47 1 #[(0,.tmp 54)]) 47,o 56 (.call { callee:=.builtin .append,args:=#[.tmp 53,.tmp 55],argTypes:=#[47,47] }) 47,o 9 (.assign (.tmp 56)) 47] false)
 (.region 14 #[m 57 8 3,o 58 (.binOp .add 3 (.tmp 57) (ci 1) 3) 3,o 8 (.assign (.tmp 58)) 3] false))
 (.seq (.region 15 #[fa 60 78 11 2,ld 61 60 4,o 59 (.assign (.tmp 61)) 4] false)
 (.cond (.tmp 59)
 (.region 16 #[m 62 9 47,o 63 (.buildSlice 47 1 #[(0,.const (.int .i64 (-1)))]) 47,o 64 (.call { callee:=.builtin .append,args:=#[.tmp 62,.tmp 63],argTypes:=#[47,47] }) 47,o 9 (.assign (.tmp 64)) 47] false)
 (.seq (.region 17 #[m 66 8 3,fa 67 30 3 2,ld 68 67 28,o 69 (.call { callee:=.builtin .len,args:=#[.tmp 68],argTypes:=#[28] }) 3,o 70 (.binOp .eql 3 (.tmp 66) (.tmp 69) 3) 4,o 65 (.assign (.tmp 70)) 4] false)
 (.cond (.tmp 65)
 (.seq (.region 18 #[cl 71 82 #[.const (.int .i64 7),.const (.slice none 0 0)] #[34,47] 71,o 6 (.assign (.const (.slice none 0 0))) 47,nd (.store 71 (.tmp 7) (.tmp 71))] false)
 .ret)
 (.seq (.region 11 #[m 35 8 3,⟨some 36,.buildSlice 47 1 #[(0,.tmp 35)],47, "",fz,none⟩,cl 37 82 #[.const (.int .i64 9),.tmp 36] #[34,47] 71,o 6 (.assign (.const (.slice none 0 0))) 47,nd (.store 71 (.tmp 7) (.tmp 37))] false)
 .ret)))))))))))
 (.region 19 #[o 72 (.binOp .add 3 (.tmp 29) (ci 1) 3) 3,m 29 72 3] false)))))))
 (.seq (.seq (.region 20 #[m 73 8 3,fa 74 30 3 2,ld 75 74 28,o 76 (.call { callee:=.builtin .len,args:=#[.tmp 75],argTypes:=#[28] }) 3,o 77 (.binOp .lss 3 (.tmp 73) (.tmp 76) 3) 4] false)
 (.cond (.tmp 77)
 (.seq (.region 21 #[m 78 8 3,⟨some 79,.buildSlice 47 1 #[(0,.tmp 78)],47, "",fz,none⟩,cl 80 82 #[.const (.int .i64 8),.tmp 79] #[34,47] 71,o 6 (.assign (.const (.slice none 0 0))) 47,nd (.store 71 (.tmp 7) (.tmp 80))] false)
 .ret)
 .skip))
 (.seq (.region 22 #[m 81 9 47,o 82 (.build 71 #[]) 71,o 6 (.assign (.tmp 81)) 47,nd (.store 71 (.tmp 7) (.tmp 82))] false)
 .ret)))))))
def kp45:Nat → Option (List Nat)
  | 0 => some [2,3,4,7]
  | 1 => some [2,3,4,7,13]
  | 2 => some [6,7]
  | 3 => some [2,3,7,18]
  | 4 => some [6,7]
  | 5 => some [2,3,7,8]
  | 6 => some [2,3,7,8,9]
  | 7 => some [3,7,8,9,27,28,29]
  | 8 => some [3,7,8,9,27,28,29,30]
  | 9 => some [3,7,8,9,11,27,28,29]
  | 10 => some [3,7,8,9,11,12,27,28,29]
  | 11 => some [6,7]
  | 12 => some [3,7,8,9,11,27,28,29,38]
  | 13 => some [3,7,8,9,27,28,29]
  | 14 => some [3,7,8,9,27,28,29]
  | 15 => some [3,7,8,9,27,28,29,59]
  | 16 => some [3,7,8,9,27,28,29]
  | 17 => some [7,8,65]
  | 18 => some [6,7]
  | 19 => some [3,7,8,9,27,28,29]
  | 20 => some [7,8,9,77]
  | 21 => some [6,7]
  | 22 => some [6,7]
  | _ => none
def fn45:AFn:={ ntmps:=83,results:=[.tmp 6,.cell 7 71],body:=c45,keep:=kp45,head:=fun | 8 => some [3,7,8,9,27,28,29] | _ => none,opn:=opnT,dyn:=fun _ => [] }
def c46:Code :=
  (.seq (.region 0 #[o 3 (.box 30 (.tmp 0)) 0,o 4 (.box 27 (.tmp 1)) 0,o 6 (.assign (.const (.slice none 0 0))) 47,o 7 (.alloc 71) 0] false)
 (.seq (.seq (.region 1 #[m 11 2 67,o 12 (.call { callee:=.builtin .len,args:=#[.tmp 11],argTypes:=#[67] }) 3,o 13 (.binOp .gtr 3 (.tmp 12) (ci 256) 3) 4] false)
 (.cond (.tmp 13)
 (.seq (.region 2 #[cl 14 67 #[.const (.int .i64 3),.const (.int .i64 (-1))] #[34,3] 71,o 6 (.assign (.const (.slice none 0 0))) 47,nd (.store 71 (.tmp 7) (.tmp 14))] false)
 .ret)
 .skip))
 (.seq (.seq (.region 3 #[fa 15 30 3 0,ld 16 15 27,ld 17 4 27,o 18 (.binOp .neq 27 (.tmp 16) (.tmp 17) 27) 4] false)
 (.cond (.tmp 18)
 (.seq (.region 4 #[cl 19 67 #[.const (.int .i64 9),.const (.int .i64 (-1))] #[34,3] 71,o 6 (.assign (.const (.slice none 0 0))) 47,nd (.store 71 (.tmp 7) (.tmp 19))] false)
 .ret)
 .skip))
 (.seq (.region 5 #[o 8 (.assign (.const (.slice none 0 0))) 47] false)
 (.seq (.region 6 #[o 9 (.assign (ci 0)) 3] false)
 (.seq (.seq (.region 7 #[o 10 (.assign (ci 0)) 3] false)
 (.block 0 (.loop (.seq (.seq (.region 8 #[m 20 10 3,m 21 2 67,o 22 (.call { callee:=.builtin .len,args:=#[.tmp 21],argTypes:=#[67] }) 3,o 23 (.binOp .lss 3 (.tmp 20) (.tmp 22) 3) 4] false)
 (.cond (.tmp 23)
 .skip
 (.exit 0)))
 (.seq (.block 1 (.seq (.seq (.region 10 #[m 26 9 3,fa 27 30 3 2,ld 28 27 28,o 29 (.call { callee:=.builtin .len,args:=#[.tmp 28],argTypes:=#[28] }) 3,o 30 (.binOp .lss 3 (.tmp 26) (.tmp 29) 3) 4,m 31 30 4,gd 32 (.move (.tmp 2)) 67 31 true,gd 33 (.move (.tmp 10)) 3 31 true,gd 34 (.indexAddr 67 (.tmp 32) (.tmp 33)) 0 31 true,gd 35 (.fieldAddr 78 (.tmp 34) 1) 0 31 true,gd 36 (.load 4 (.tmp 35)) 4 31 true,gd 37 (.move (.tmp 36)) 4 31 true,gd 38 (.move (.tmp 2)) 67 37 false,gd 39 (.move (.tmp 10)) 3 37 false,gd 40 (.indexAddr 67 (.tmp 38) (.tmp 39)) 0 37 false,gd 41 (.fieldAddr 78 (.tmp 40) 0) 0 37 false,gd 42 (.load 27 (.tmp 41)) 27 37 false,gd 43 (.fieldAddr 30 (.tmp 3) 2) 0 37 false,gd 44 (.load 28 (.tmp 43)) 28 37 false,gd 45 (.move (.tmp 9)) 3 37 false,gd 46 (.indexAddr 28 (.tmp 44) (.tmp 45)) 0 37 false,gd 47 (.fieldAddr 30 (.tmp 46) 0) 0 37 false,gd 48 (.load 27 (.tmp 47)) 27 37 false,gd 49 (.binOp .eql 27 (.tmp 42) (.tmp 48) 27) 4 37 false,gd 50 (.pick (.tmp 37) (.const (.bool true)) (.tmp 49)) 4 31 true,o 51 (.pick (.tmp 31) (.tmp 50) (.const (.bool false))) 4] true)
 (.cond (.tmp 51)
 (.seq (.region 11 #[m 52 8 47,m 53 9 3,o 54 (.buildSlice 47 1 #[(0,.tmp 53)]) 47,o 55 (.call { callee:=.builtin .append,args:=#[.tmp 52,.tmp 54],argTypes:=#[47,47] }) 47,o 8 (.assign (.tmp 55)) 47] false)
 (.seq (.region 12 #[m 56 9 3,o 57 (.binOp .add 3 (.tmp 56) (ci 1) 3) 3,o 9 (.assign (.tmp 57)) 3] false)
 (.exit 1)))
 .skip))
 (.seq (.seq (.region 13 #[m 58 2 67,m 59 10 3,o 60 (.indexAddr 67 (.tmp 58) (.tmp 59)) 0,fa 61 78 60 2,ld 62 61 4] false)
 (.cond (.tmp 62)
 (.seq (.region 14 #[m 63 8 47,o 64 (.buildSlice 47 1 #[(0,.const (.int .i64 (-1)))]) 47,o 65 (.call { callee:=.builtin .append,args:=#[.tmp 63,.tmp 64],argTypes:=#[47,47] }) 47,o 8 (.assign (.tmp 65)) 47] false)
 (.exit 1))
 .skip))
 (.seq (.seq (.region 15 #[m 66 9 3,fa 67 30 3 2,ld 68 67 28,o 69 (.call { callee:=.builtin .len,args:=#[.tmp 68],argTypes:=#[28] }) 3,o 70 (.binOp .eql 3 (.tmp 66) (.tmp 69) 3) 4] false)
 (.cond (.tmp 70)
 (.seq (.region 16 #[cl 71 67 #[.const (.int .i64 7),.const (.int .i64 (-1))] #[34,3] 71,o 6 (.assign (.const (.slice none 0 0))) 47,nd (.store 71 (.tmp 7) (.tmp 71))] false)
 .ret)
 .skip))
 (.seq (.region 17 #[m 72 9 3,cl 73 67 #[.const (.int .i64 9),.tmp 72] #[34,3] 71,o 6 (.assign (.const (.slice none 0 0))) 47,nd (.store 71 (.tmp 7) (.tmp 73))] false)
 .ret)))))
 (.region 9 #[m 24 10 3,o 25 (.binOp .add 3 (.tmp 24) (ci 1) 3) 3,o 10 (.assign (.tmp 25)) 3] false))))))
 (.seq (.seq (.region 18 #[m 74 9 3,fa 75 30 3 2,ld 76 75 28,o 77 (.call { callee:=.builtin .len,args:=#[.tmp 76],argTypes:=#[28] }) 3,o 78 (.binOp .lss 3 (.tmp 74) (.tmp 77) 3) 4] false)
 (.cond (.tmp 78)
 (.seq (.region 19 #[m 79 9 3,cl 80 67 #[.const (.int .i64 8),.tmp 79] #[34,3] 71,o 6 (.assign (.const (.slice none 0 0))) 47,nd (.store 71 (.tmp 7) (.tmp 80))] false)
 .ret)
 .skip))
 (.seq (.region 20 #[m 81 8 47,o 82 (.build 71 #[]) 71,o 6 (.assign (.tmp 81)) 47,nd (.store 71 (.tmp 7) (.tmp 82))] false)
 .ret))))))))
def kp46:Nat → Option (List Nat)
  | 0 => some [2,3,4,7]
  | 1 => some [2,3,4,7,13]
  | 2 => some [6,7]
  | 3 => some [2,3,7,18]
  | 4 => some [6,7]
  | 5 => some [2,3,7,8]
  | 6 => some [2,3,7,8,9]
  | 7 => some [2,3,7,8,9,10]
  | 8 => some [2,3,7,8,9,10,23]
  | 9 => some [2,3,7,8,9,10]
  | 10 => some [2,3,7,8,9,10,51]
  | 11 => some [2,3,7,8,9,10]
  | 12 => some [2,3,7,8,9,10]
  | 13 => some [2,3,7,8,9,10,62]
  | 14 => some [2,3,7,8,9,10]
  | 15 => some [7,9,70]
  | 16 => some [6,7]
  | 17 => some [6,7]
  | 18 => some [7,8,9,78]
  | 19 => some [6,7]
  | 20 => some [6,7]
  | _ => none
def fn46:AFn:={ ntmps:=83,results:=[.tmp 6,.cell 7 71],body:=c46,keep:=kp46,head:=fun | 8 => some [2,3,7,8,9,10] | _ => none,opn:=fun _ => none,dyn:=fun _ => [] }
def c47:Code :=
  (.seq (.region 0 #[o 4 (.assign (ci 0)) 3] false)
 (.seq (.seq (.region 1 #[m 6 0 47,o 7 (.call { callee:=.builtin .len,args:=#[.tmp 6],argTypes:=#[47] }) 3,m 8 1 47,o 9 (.call { callee:=.builtin .len,args:=#[.tmp 8],argTypes:=#[47] }) 3,o 10 (.binOp .neq 3 (.tmp 7) (.tmp 9) 3) 4] false)
 (.cond (.tmp 10)
 (.seq (.region 2 #[o 4 (.assign (ci 0)) 3] false)
 .ret)
 .skip))
 (.seq (.seq (.region 3 #[o 5 (.assign (ci 0)) 3] false)
 (.block 0 (.loop (.seq (.seq (.region 4 #[m 11 5 3,m 12 0 47,o 13 (.call { callee:=.builtin .len,args:=#[.tmp 12],argTypes:=#[47] }) 3,o 14 (.binOp .lss 3 (.tmp 11) (.tmp 13) 3) 4] false)
 (.cond (.tmp 14)
 .skip
 (.exit 0)))
 (.seq (.block 1 (.seq (.region 6 #[m 17 0 47,m 18 5 3,o 19 (.indexAddr 47 (.tmp 17) (.tmp 18)) 0,ld 20 19 3,m 21 1 47,m 22 5 3,o 23 (.indexAddr 47 (.tmp 21) (.tmp 22)) 0,ld 24 23 3,o 25 (.binOp .neq 3 (.tmp 20) (.tmp 24) 3) 4] true)
 (.cond (.tmp 25)
 (.seq (.region 7 #[o 4 (.assign (ci 0)) 3] false)
 .ret)
 .skip)))
 (.region 5 #[m 15 5 3,o 16 (.binOp .add 3 (.tmp 15) (ci 1) 3) 3,o 5 (.assign (.tmp 16)) 3] false))))))
 (.seq (.region 8 #[o 4 (.assign (ci 1)) 3] false)
 .ret))))
def kp47:Nat → Option (List Nat)
  | 0 => some [0,1]
  | 1 => some [0,1,10]
  | 2 => some [4]
  | 3 => some [0,1,5]
  | 4 => some [0,1,5,14]
  | 5 => some [0,1,5]
  | 6 => some [0,1,5,25]
  | 7 => some [4]
  | 8 => some [4]
  | _ => none
def fn47:AFn:={ ntmps:=26,results:=[.tmp 4],body:=c47,keep:=kp47,head:=fun | 4 => some [0,1,5] | _ => none,opn:=fun _ => none,dyn:=fun _ => [] }
def c48:Code :=
  (.seq (.region 0 #[o 2 (.box 71 (.tmp 0)) 0,o 3 (.box 71 (.tmp 1)) 0,o 4 (.assign (ci 0)) 3] false)
 (.seq (.seq (.region 1 #[fa 6 71 2 1,ld 7 6 34,fa 8 71 3 1,ld 9 8 34,o 10 (.binOp .neq 34 (.tmp 7) (.tmp 9) 34) 4,m 11 10 4,gd 12 (.fieldAddr 71 (.tmp 2) 0) 0 11 false,gd 13 (.load 47 (.tmp 12)) 47 11 false,gd 14 (.call { callee:=.builtin .len,args:=#[.tmp 13],argTypes:=#[47] }) 3 11 false,gd 15 (.fieldAddr 71 (.tmp 3) 0) 0 11 false,gd 16 (.load 47 (.tmp 15)) 47 11 false,gd 17 (.call { callee:=.builtin .len,args:=#[.tmp 16],argTypes:=#[47] }) 3 11 false,gd 18 (.binOp .neq 3 (.tmp 14) (.tmp 17) 3) 4 11 false,o 19 (.pick (.tmp 11) (.const (.bool true)) (.tmp 18)) 4,m 20 19 4,gd 21 (.fieldAddr 71 (.tmp 2) 0) 0 20 false,gd 22 (.load 47 (.tmp 21)) 47 20 false,gd 23 (.call { callee:=.builtin .cap,args:=#[.tmp 22],argTypes:=#[47] }) 3 20 false,gd 24 (.fieldAddr 71 (.tmp 2) 0) 0 20 false,gd 25 (.load 47 (.tmp 24)) 47 20 false,gd 26 (.call { callee:=.builtin .len,args:=#[.tmp 25],argTypes:=#[47] }) 3 20 false,gd 27 (.binOp .neq 3 (.tmp 23) (.tmp 26) 3) 4 20 false,o 28 (.pick (.tmp 20) (.const (.bool true)) (.tmp 27)) 4] false)
 (.cond (.tmp 28)
 (.seq (.region 2 #[o 4 (.assign (ci 0)) 3] false)
 .ret)
 .skip))
 (.seq (.seq (.region 3 #[o 5 (.assign (ci 0)) 3] false)
 (.block 0 (.loop (.seq (.seq (.region 4 #[m 29 5 3,fa 30 71 2 0,ld 31 30 47,o 32 (.call { callee:=.builtin .len,args:=#[.tmp 31],argTypes:=#[47] }) 3,o 33 (.binOp .lss 3 (.tmp 29) (.tmp 32) 3) 4] false)
 (.cond (.tmp 33)
 .skip
 (.exit 0)))
 (.seq (.block 1 (.seq (.region 6 #[fa 36 71 2 0,ld 37 36 47,m 38 5 3,o 39 (.indexAddr 47 (.tmp 37) (.tmp 38)) 0,ld 40 39 3,fa 41 71 3 0,ld 42 41 47,m 43 5 3,o 44 (.indexAddr 47 (.tmp 42) (.tmp 43)) 0,ld 45 44 3,o 46 (.binOp .neq 3 (.tmp 40) (.tmp 45) 3) 4] true)
 (.cond (.tmp 46)
 (.seq (.region 7 #[o 4 (.assign (ci 0)) 3] false)
 .ret)
 .skip)))
 (.region 5 #[m 34 5 3,o 35 (.binOp .add 3 (.tmp 34) (ci 1) 3) 3,o 5 (.assign (.tmp 35)) 3] false))))))
 (.seq (.region 8 #[o 4 (.assign (ci 1)) 3] false)
 .ret))))
def kp48:Nat → Option (List Nat)
  | 0 => some [2,3]
  | 1 => some [2,3,28]
  | 2 => some [4]
  | 3 => some [2,3,5]
  | 4 => some [2,3,5,33]
  | 5 => some [2,3,5]
  | 6 => some [2,3,5,46]
  | 7 => some [4]
  | 8 => some [4]
  | _ => none
def fn48:AFn:={ ntmps:=47,results:=[.tmp 4],body:=c48,keep:=kp48,head:=fun | 4 => some [2,3,5] | _ => none,opn:=fun _ => none,dyn:=fun _ => [] }
def c49:Code :=
  (.seq (.region 0 #[o 2 (.box 30 (.tmp 0)) 0,o 3 (.box 30 (.tmp 1)) 0,o 4 (.assign (ci 0)) 3] false)
 (.seq (.seq (.region 1 #[fa 6 30 2 0,ld 7 6 27,fa 8 30 3 0,ld 9 8 27,o 10 (.binOp .neq 27 (.tmp 7) (.tmp 9) 27) 4,m 11 10 4,gd 12 (.fieldAddr 30 (.tmp 2) 1) 0 11 false,gd 13 (.load 22 (.tmp 12)) 22 11 false,gd 14 (.convert 22 9 (.tmp 13)) 9 11 false,gd 15 (.fieldAddr 30 (.tmp 3) 1) 0 11 false,gd 16 (.load 22 (.tmp 15)) 22 11 false,gd 17 (.convert 22 9 (.tmp 16)) 9 11 false,gd 18 (.binOp .neq 9 (.tmp 14) (.tmp 17) 9) 4 11 false,o 19 (.pick (.tmp 11) (.const (.bool true)) (.tmp 18)) 4,m 20 19 4,gd 21 (.fieldAddr 30 (.tmp 2) 2) 0 20 false,gd 22 (.load 28 (.tmp 21)) 28 20 false,gd 23 (.call { callee:=.builtin .len,args:=#[.tmp 22],argTypes:=#[28] }) 3 20 false,gd 24 (.fieldAddr 30 (.tmp 3) 2) 0 20 false,gd 25 (.load 28 (.tmp 24)) 28 20 false,gd 26 (.call { callee:=.builtin .len,args:=#[.tmp 25],argTypes:=#[28] }) 3 20 false,gd 27 (.binOp .neq 3 (.tmp 23) (.tmp 26) 3) 4 20 false,o 28 (.pick (.tmp 20) (.const (.bool true)) (.tmp 27)) 4] false)
 (.cond (.tmp 28)
 (.seq (.region 2 #[o 4 (.assign (ci 0)) 3] false)
 .ret)
 .skip))
 (.seq (.seq (.region 3 #[o 5 (.assign (ci 0)) 3] false)
 (.block 0 (.loop (.seq (.seq (.region 4 #[m 29 5 3,fa 30 30 2 2,ld 31 30 28,o 32 (.call { callee:=.builtin .len,args:=#[.tmp 31],argTypes:=#[28] }) 3,o 33 (.binOp .lss 3 (.tmp 29) (.tmp 32) 3) 4] false)
 (.cond (.tmp 33)
 .skip
 (.exit 0)))
 (.seq (.block 1 (.seq (.region 6 #[fa 36 30 2 2,ld 37 36 28,m 38 5 3,o 39 (.indexAddr 28 (.tmp 37) (.tmp 38)) 0,ld 40 39 30,fa 41 30 3 2,ld 42 41 28,m 43 5 3,o 44 (.indexAddr 28 (.tmp 42) (.tmp 43)) 0,ld 45 44 30,cl 46 49 #[.tmp 40,.tmp 45] #[30,30] 3,o 47 (.binOp .eql 3 (.tmp 46) (ci 0) 3) 4] true)
 (.cond (.tmp 47)
 (.seq (.region 7 #[o 4 (.assign (ci 0)) 3] false)
 .ret)
 .skip)))
 (.region 5 #[m 34 5 3,o 35 (.binOp .add 3 (.tmp 34) (ci 1) 3) 3,o 5 (.assign (.tmp 35)) 3] false))))))
 (.seq (.region 8 #[o 4 (.assign (ci 1)) 3] false)
 .ret))))
def kp49:Nat → Option (List Nat)
  | 0 => some [2,3]
  | 1 => some [2,3,28]
  | 2 => some [4]
  | 3 => some [2,3,5]
  | 4 => some [2,3,5,33]
  | 5 => some [2,3,5]
  | 6 => some [2,3,5,47]
  | 7 => some [4]
  | 8 => some [4]
  | _ => none
def fn49:AFn:={ ntmps:=48,results:=[.tmp 4],body:=c49,keep:=kp49,head:=fun | 4 => some [2,3,5] | _ => none,opn:=fun _ => none,dyn:=fun _ => [] }
def c50:Code :=
  (.seq (.region 0 #[o 0 (.assign (.const (.bool false))) 4] false)
 (.seq (.region 1 #[cl 26 55 #[] #[] 30,o 1 (.alloc 30) 0,nd (.store 30 (.tmp 1) (.tmp 26))] false)
 (.seq (.region 2 #[cl 27 44 #[.const (.int .u8 0)] #[5] 27,cl 28 44 #[.const (.int .u8 4)] #[5] 27,cl 29 44 #[.const (.int .u8 6)] #[5] 27,o 2 (.alloc 27) 0,o 3 (.alloc 27) 0,o 4 (.alloc 27) 0,nd (.store 27 (.tmp 2) (.tmp 27)),nd (.store 27 (.tmp 3) (.tmp 28)),nd (.store 27 (.tmp 4) (.tmp 29))] false)
 (.seq (.region 3 #[ld 31 1 30,ld 32 2 27,ld 33 4 27,o 34 (.build 78 #[(0,.tmp 33)]) 78,ld 35 3 27,o 36 (.build 78 #[(0,.tmp 35)]) 78,⟨some 37,.buildSlice 67 2 #[(0,.tmp 34),(1,.tmp 36)],67, "",fz,none⟩,cl 38 45 #[.tmp 31,.tmp 32,.tmp 37] #[30,27,67] 72,m 30 38 72,o 39 (.extract (.tmp 30) 0) 47,o 40 (.extract (.tmp 30) 1) 71,o 6 (.alloc 71) 0,o 5 (.assign (.tmp 39)) 47,nd (.store 71 (.tmp 6) (.tmp 40))] false)
 (.seq (.region 4 #[ld 42 1 30,ld 43 2 27,ld 44 4 27,o 45 (.build 78 #[(0,.tmp 44)]) 78,ld 46 4 27,o 47 (.build 78 #[(0,.tmp 46),(2,.const (.bool true))]) 78,ld 48 3 27,o 49 (.build 78 #[(0,.tmp 48)]) 78,o 50 (.build 78 #[(1,.const (.bool true)),(2,.const (.bool true))]) 78,⟨some 51,.buildSlice 67 4 #[(0,.tmp 45),(1,.tmp 47),(2,.tmp 49),(3,.tmp 50)],67, "",fz,none⟩,cl 52 45 #[.tmp 42,.tmp 43,.tmp 51] #[30,27,67] 72,m 41 52 72,o 53 (.extract (.tmp 41) 0) 47,o 54 (.extract (.tmp 41) 1) 71,o 8 (.alloc 71) 0,o 7 (.assign (.tmp 53)) 47,nd (.store 71 (.tmp 8) (.tmp 54))] false)
 (.seq (.seq (.region 5 #[m 55 5 47,⟨some 56,.buildSlice 47 2 #[(0,.const (.int .i64 0)),(1,.const (.int .i64 1))],47, "",fz,none⟩,cl 57 47 #[.tmp 55,.tmp 56] #[47,47] 3,m 58 7 47,⟨some 59,.buildSlice 47 4 #[(0,.const (.int .i64 0)),(1,.const (.int .i64 (-1))),(2,.const (.int .i64 1)),(3,.const (.int .i64 (-1)))],47, "",fz,none⟩,cl 60 47 #[.tmp 58,.tmp 59] #[47,47] 3,o 61 (.binOp .mul 3 (.tmp 57) (.tmp 60) 3) 3,ld 62 6 71,o 63 (.build 71 #[]) 71,cl 64 48 #[.tmp 62,.tmp 63] #[71,71] 3,o 65 (.binOp .mul 3 (.tmp 61) (.tmp 64) 3) 3,ld 66 8 71,o 67 (.build 71 #[]) 71,cl 68 48 #[.tmp 66,.tmp 67] #[71,71] 3,o 69 (.binOp .mul 3 (.tmp 65) (.tmp 68) 3) 3,o 70 (.binOp .eql 3 (.tmp 69) (ci 0) 3) 4] true)
 (.cond (.tmp 70)
 (.seq (.region 6 #[o 0 (.assign (.const (.bool false))) 4] false)
 .ret)
 .skip))
 (.seq (.region 7 #[ld 72 1 30,ld 73 2 27,ld 74 3 27,o 75 (.build 78 #[(0,.tmp 74)]) 78,ld 76 4 27,o 77 (.build 78 #[(0,.tmp 76)]) 78,⟨some 78,.buildSlice 67 2 #[(0,.tmp 75),(1,.tmp 77)],67, "",fz,none⟩,cl 79 45 #[.tmp 72,.tmp 73,.tmp 78] #[30,27,67] 72,m 71 79 72,o 80 (.extract (.tmp 71) 0) 47,o 81 (.extract (.tmp 71) 1) 71,o 10 (.alloc 71) 0,o 9 (.assign (.tmp 80)) 47,nd (.store 71 (.tmp 10) (.tmp 81))] false)
 (.seq (.region 8 #[ld 83 1 30,ld 84 2 27,ld 85 4 27,o 86 (.build 78 #[(0,.tmp 85)]) 78,⟨some 87,.buildSlice 67 1 #[(0,.tmp 86)],67, "",fz,none⟩,cl 88 45 #[.tmp 83,.tmp 84,.tmp 87] #[30,27,67] 72,m 82 88 72,o 89 (.extract (.tmp 82) 0) 47,o 90 (.extract (.tmp 82) 1) 71,o 12 (.alloc 71) 0,o 11 (.assign (.tmp 89)) 47,nd (.store 71 (.tmp 12) (.tmp 90))] false)
 (.seq (.region 9 #[ld 92 1 30,ld 93 2 27,ld 94 4 27,o 95 (.build 78 #[(0,.tmp 94)]) 78,ld 96 3 27,o 97 (.build 78 #[(0,.tmp 96)]) 78,ld 98 4 27,o 99 (.build 78 #[(0,.tmp 98)]) 78,⟨some 100,.buildSlice 67 3 #[(0,.tmp 95),(1,.tmp 97),(2,.tmp 99)],67, "",fz,none⟩,cl 101 45 #[.tmp 92,.tmp 93,.tmp 100] #[30,27,67] 72,m 91 101 72,o 102 (.extract (.tmp 91) 0) 47,o 103 (.extract (.tmp 91) 1) 71,o 14 (.alloc 71) 0,o 13 (.assign (.tmp 102)) 47,nd (.store 71 (.tmp 14) (.tmp 103))] false)
 (.seq (.region 10 #[ld 105 1 30,ld 106 4 27,cl 107 45 #[.tmp 105,.tmp 106,.const (.slice none 0 0)] #[30,27,67] 72,m 104 107 72,o 108 (.extract (.tmp 104) 0) 47,o 109 (.extract (.tmp 104) 1) 71,o 16 (.alloc 71) 0,o 15 (.assign (.tmp 108)) 47,nd (.store 71 (.tmp 16) (.tmp 109))] false)
 (.seq (.seq (.region 11 #[ld 110 10 71,cl 111 67 #[.const (.int .i64 9),.const (.int .i64 0)] #[34,3] 71,cl 112 48 #[.tmp 110,.tmp 111] #[71,71] 3,ld 113 12 71,cl 114 67 #[.const (.int .i64 8),.const (.int .i64 1)] #[34,3] 71,cl 115 48 #[.tmp 113,.tmp 114] #[71,71] 3,o 116 (.binOp .mul 3 (.tmp 112) (.tmp 115) 3) 3,ld 117 14 71,cl 118 67 #[.const (.int .i64 7),.const (.int .i64 (-1))] #[34,3] 71,cl 119 48 #[.tmp 117,.tmp 118] #[71,71] 3,o 120 (.binOp .mul 3 (.tmp 116) (.tmp 119) 3) 3,ld 121 16 71,cl 122 67 #[.const (.int .i64 9),.const (.int .i64 (-1))] #[34,3] 71,cl 123 48 #[.tmp 121,.tmp 122] #[71,71] 3,o 124 (.binOp .mul 3 (.tmp 120) (.tmp 123) 3) 3,o 125 (.binOp .eql 3 (.tmp 124) (ci 0) 3) 4] true)
 (.cond (.tmp 125)
 (.seq (.region 12 #[o 0 (.assign (.const (.bool false))) 4] false)
 .ret)
 .skip))
 (.seq (.seq (.region 13 #[ld 126 1 30,ld 127 2 27,cl 128 56 #[.tmp 126,.tmp 127,.const (.int .i64 1),.const (.int .i64 1)] #[30,27,3,3] 71,cl 129 67 #[.const (.int .i64 3),.const (.int .i64 1)] #[34,3] 71,cl 130 48 #[.tmp 128,.tmp 129] #[71,71] 3,ld 131 1 30,ld 132 2 27,cl 133 56 #[.tmp 131,.tmp 132,.const (.int .i64 3),.const (.int .i64 4)] #[30,27,3,3] 71,cl 134 67 #[.const (.int .i64 7),.const (.int .i64 (-1))] #[34,3] 71,cl 135 48 #[.tmp 133,.tmp 134] #[71,71] 3,o 136 (.binOp .mul 3 (.tmp 130) (.tmp 135) 3) 3,ld 137 1 30,cl 138 51 #[.tmp 137] #[30] 71,cl 139 67 #[.const (.int .i64 13),.const (.int .i64 1)] #[34,3] 71,cl 140 48 #[.tmp 138,.tmp 139] #[71,71] 3,o 141 (.binOp .mul 3 (.tmp 136) (.tmp 140) 3) 3,o 142 (.binOp .eql 3 (.tmp 141) (ci 0) 3) 4] true)
 (.cond (.tmp 142)
 (.seq (.region 14 #[o 0 (.assign (.const (.bool false))) 4] false)
 .ret)
 .skip))
 (.seq (.region 15 #[ld 144 1 30,⟨some 145,.buildSlice 47 1 #[(0,.const (.int .i64 1))],47, "",fz,none⟩,cl 146 63 #[.tmp 144,.tmp 145] #[30,47] 84,m 143 146 84,o 147 (.extract (.tmp 143) 0) 3,o 148 (.extract (.tmp 143) 1) 34,o 17 (.assign (.tmp 147)) 3,o 18 (.assign (.tmp 148)) 34] false)
 (.seq (.region 16 #[ld 150 1 30,⟨some 151,.buildSlice 47 1 #[(0,.const (.int .i64 2))],47, "",fz,none⟩,cl 152 63 #[.tmp 150,.tmp 151] #[30,47] 84,m 149 152 84,o 153 (.extract (.tmp 149) 0) 3,o 154 (.extract (.tmp 149) 1) 34,o 19 (.assign (.tmp 153)) 3,o 20 (.assign (.tmp 154)) 34] false)
 (.seq (.region 17 #[ld 156 1 30,cl 157 63 #[.tmp 156,.const (.slice none 0 0)] #[30,47] 84,m 155 157 84,o 158 (.extract (.tmp 155) 0) 3,o 159 (.extract (.tmp 155) 1) 34,o 21 (.assign (.tmp 158)) 3,o 22 (.assign (.tmp 159)) 34] false)
 (.seq (.region 18 #[ld 161 1 30,cl 162 67 #[.const (.int .i64 8),.const (.int .i64 1)] #[34,3] 71,cl 163 54 #[.tmp 161,.tmp 162] #[30,71] 84,m 160 163 84,o 164 (.extract (.tmp 160) 0) 3,o 165 (.extract (.tmp 160) 1) 34,o 23 (.assign (.tmp 164)) 3,o 24 (.assign (.tmp 165)) 34] true)
 (.seq (.region 19 #[cl 166 67 #[.const (.int .i64 9),.const (.int .i64 1)] #[34,3] 71,cl 167 53 #[.const (.int .i64 3),.tmp 166] #[3,71] 71,o 25 (.alloc 71) 0,nd (.store 71 (.tmp 25) (.tmp 167))] false)
 (.seq (.region 20 #[m 168 17 3,o 169 (.binOp .eql 3 (.tmp 168) (ci 5) 3) 4,m 170 169 4,gd 171 (.move (.tmp 18)) 34 170 true,gd 172 (.binOp .eql 34 (.tmp 171) (ci 0) 34) 4 170 true,o 173 (.pick (.tmp 170) (.tmp 172) (.const (.bool false))) 4,m 174 173 4,gd 175 (.move (.tmp 20)) 34 174 true,gd 176 (.binOp .eql 34 (.tmp 175) (ci 19) 34) 4 174 true,o 177 (.pick (.tmp 174) (.tmp 176) (.const (.bool false))) 4,m 178 177 4,gd 179 (.move (.tmp 21)) 3 178 true,gd 180 (.binOp .eql 3 (.tmp 179) (ci 0) 3) 4 178 true,o 181 (.pick (.tmp 178) (.tmp 180) (.const (.bool false))) 4,m 182 181 4,gd 183 (.move (.tmp 22)) 34 182 true,gd 184 (.binOp .eql 34 (.tmp 183) (ci 0) 34) 4 182 true,o 185 (.pick (.tmp 182) (.tmp 184) (.const (.bool false))) 4,m 186 185 4,gd 187 (.move (.tmp 23)) 3 186 true,gd 188 (.binOp .eql 3 (.tmp 187) (ci 5) 3) 4 186 true,o 189 (.pick (.tmp 186) (.tmp 188) (.const (.bool false))) 4,m 190 189 4,gd 191 (.move (.tmp 24)) 34 190 true,gd 192 (.binOp .eql 34 (.tmp 191) (ci 8) 34) 4 190 true,o 193 (.pick (.tmp 190) (.tmp 192) (.const (.bool false))) 4,m 194 193 4,gd 195 (.load 71 (.tmp 25)) 71 194 true,gd 196 (.buildSlice 47 2 #[(0,.const (.int .i64 3)),(1,.const (.int .i64 1))]) 47 194 true,gd 197 (.build 71 #[(0,.tmp 196),(1,.const (.int .i64 9))]) 71 194 true,gd 198 (.call { callee:=.value (.func 48),args:=#[.tmp 195,.tmp 197],argTypes:=#[71,71] }) 3 194 true,gd 199 (.binOp .eql 3 (.tmp 198) (ci 1) 3) 4 194 true,o 200 (.pick (.tmp 194) (.tmp 199) (.const (.bool false))) 4,o 0 (.assign (.tmp 200)) 4] false)
 .ret))))))))))))))))))
def kp50:Nat → Option (List Nat)
  | 0 => some []
  | 1 => some [1]
  | 2 => some [1,2,3,4]
  | 3 => some [1,2,3,4,5,6]
  | 4 => some [1,2,3,4,5,6,7,8]
  | 5 => some [1,2,3,4,70]
  | 6 => some [0]
  | 7 => some [1,2,3,4,10]
  | 8 => some [1,2,3,4,10,12]
  | 9 => some [1,2,4,10,12,14]
  | 10 => some [1,2,10,12,14,16]
  | 11 => some [1,2,125]
  | 12 => some [0]
  | 13 => some [1,142]
  | 14 => some [0]
  | 15 => some [1,17,18]
  | 16 => some [1,17,18,20]
  | 17 => some [1,17,18,20,21,22]
  | 18 => some [17,18,20,21,22,23,24]
  | 19 => some [17,18,20,21,22,23,24,25]
  | 20 => some [0]
  | _ => none
def fn50:AFn:={ ntmps:=201,results:=[.tmp 0],body:=c50,keep:=kp50,head:=fun  | _ => none,opn:=fun _ => none,dyn:=fun _ => [] }
def c51:Code :=
  (.seq (.region 0 #[o 1 (.box 30 (.tmp 0)) 0,o 2 (.alloc 71) 0] false)
 (.seq (.seq (.region 1 #[fa 7 30 1 2,ld 8 7 28,o 9 (.call { callee:=.builtin .len,args:=#[.tmp 8],argTypes:=#[28] }) 3,o 10 (.move (ci 0)) 3] false)
 (.block 0 (.loop (.seq (.region 2 #[o 11 (.binOp .lss 3 (.tmp 10) (.tmp 9) 3) 0] false)
 (.seq (.cond (.tmp 11)
 .skip
 (.exit 0))
 (.seq (.block 1 (.seq (.region 3 #[m 12 10 3,o 13 (.indexAddr 28 (.tmp 8) (.tmp 10)) 0,ld 14 13 30,o 4 (.alloc 30) 0,o 3 (.assign (.tmp 12)) 3,nd (.store 30 (.tmp 4) (.tmp 14))] false)
 (.seq (.seq (.region 4 #[ld 15 4 30,cl 16 32 #[.tmp 15] #[30] 34,o 5 (.assign (.tmp 16)) 34] false)
 (.seq (.region 5 #[m 17 5 34,o 18 (.binOp .neq 34 (.tmp 17) (ci 0) 34) 4] false)
 (.cond (.tmp 18)
 (.seq (.region 6 #[m 19 5 34,m 20 3 3,⟨some 21,.buildSlice 47 1 #[(0,.tmp 20)],47, "",fz,none⟩,cl 22 82 #[.tmp 19,.tmp 21] #[34,47] 71,nd (.store 71 (.tmp 2) (.tmp 22))] false)
 .ret)
 .skip)))
 (.seq (.seq (.region 7 #[m 23 3 3,o 24 (.binOp .eql 3 (.tmp 23) (ci 0) 3) 4] false)
 (.cond (.tmp 24)
 (.exit 1)
 .skip))
 (.seq (.region 8 #[fa 25 30 1 2,ld 26 25 28,m 27 3 3,o 28 (.binOp .sub 3 (.tmp 27) (ci 1) 3) 3,o 29 (.indexAddr 28 (.tmp 26) (.tmp 28)) 0,ld 30 29 30,ld 31 4 30,cl 32 37 #[.tmp 30,.tmp 31] #[30,30] 3,o 6 (.assign (.tmp 32)) 3] true)
 (.block 2 (.seq (.region 9 #[m 34 6 3,o 35 (.binOp .gtr 3 (.tmp 34) (ci 0) 3) 4,o 33 (.assign (.tmp 35)) 4] false)
 (.cond (.tmp 33)
 (.seq (.region 10 #[m 36 3 3,⟨some 37,.buildSlice 47 1 #[(0,.tmp 36)],47, "",fz,none⟩,cl 38 82 #[.const (.int .i64 13),.tmp 37] #[34,47] 71,nd (.store 71 (.tmp 2) (.tmp 38))] false)
 .ret)
 (.seq (.region 11 #[m 40 6 3,o 41 (.binOp .eql 3 (.tmp 40) (ci 0) 3) 4,o 39 (.assign (.tmp 41)) 4] false)
 (.cond (.tmp 39)
 (.seq (.region 12 #[m 42 3 3,⟨some 43,.buildSlice 47 1 #[(0,.tmp 42)],47, "",fz,none⟩,cl 44 82 #[.const (.int .i64 14),.tmp 43] #[34,47] 71,nd (.store 71 (.tmp 2) (.tmp 44))] false)
 .ret)
 .skip))))))))))
 (.region 13 #[o 45 (.binOp .add 3 (.tmp 10) (ci 1) 3) 3,m 10 45 3] false)))))))
 (.seq (.region 14 #[o 46 (.build 71 #[]) 71,nd (.store 71 (.tmp 2) (.tmp 46))] false)
 .ret)))
def kp51:Nat → Option (List Nat)
  | 0 => some [1,2]
  | 1 => some [1,2,8,9,10]
  | 2 => some [1,2,8,9,10,11]
  | 3 => some [1,2,3,4,8,9,10]
  | 4 => some [1,2,3,4,5,8,9,10]
  | 5 => some [1,2,3,4,5,8,9,10,18]
  | 6 => some [2]
  | 7 => some [1,2,3,4,8,9,10,24]
  | 8 => some [1,2,3,6,8,9,10]
  | 9 => some [1,2,3,6,8,9,10,33]
  | 10 => some [2]
  | 11 => some [1,2,3,8,9,10,39]
  | 12 => some [2]
  | 13 => some [1,2,8,9,10]
  | 14 => some [2]
  | _ => none
def fn51:AFn:={ ntmps:=47,results:=[.cell 2 71],body:=c51,keep:=kp51,head:=fun | 2 => some [1,2,8,9,10] | _ => none,opn:=fun _ => none,dyn:=fun _ => [] }
def c52:Code :=
  (.seq (.region 0 #[o 1 (.box 30 (.tmp 0)) 0,o 2 (.alloc 71) 0] false)
 (.seq (.seq (.region 1 #[o 3 (.assign (ci 1)) 3] false)
 (.block 0 (.loop (.seq (.seq (.region 2 #[m 6 3 3,fa 7 30 1 2,ld 8 7 28,o 9 (.call { callee:=.builtin .len,args:=#[.tmp 8],argTypes:=#[28] }) 3,o 10 (.binOp .lss 3 (.tmp 6) (.tmp 9) 3) 4] false)
 (.cond (.tmp 10)
 .skip
 (.exit 0)))
 (.seq (.block 1 (.seq (.region 4 #[fa 13 30 1 2,ld 14 13 28,m 15 3 3,o 16 (.binOp .sub 3 (.tmp 15) (ci 1) 3) 3,o 17 (.indexAddr 28 (.tmp 14) (.tmp 16)) 0,ld 18 17 30,cl 19 84 #[.tmp 18] #[30] 22,o 20 (.convert 22 9 (.tmp 19)) 9,o 4 (.assign (.tmp 20)) 9] false)
 (.seq (.region 5 #[fa 21 30 1 2,ld 22 21 28,m 23 3 3,o 24 (.indexAddr 28 (.tmp 22) (.tmp 23)) 0,ld 25 24 30,cl 26 84 #[.tmp 25] #[30] 22,o 27 (.convert 22 9 (.tmp 26)) 9,o 5 (.assign (.tmp 27)) 9] false)
 (.seq (.seq (.region 6 #[m 28 4 9,m 29 5 9,o 30 (.binOp .gtr 9 (.tmp 28) (.tmp 29) 9) 4] false)
 (.cond (.tmp 30)
 (.seq (.region 7 #[m 31 3 3,cl 32 67 #[.const (.int .i64 13),.tmp 31] #[34,3] 71,nd (.store 71 (.tmp 2) (.tmp 32))] false)
 .ret)
 .skip))
 (.seq (.region 8 #[m 33 4 9,m 34 5 9,o 35 (.binOp .eql 9 (.tmp 33) (.tmp 34) 9) 4] false)
 (.cond (.tmp 35)
 (.seq (.region 9 #[m 36 3 3,cl 37 67 #[.const (.int .i64 14),.tmp 36] #[34,3] 71,nd (.store 71 (.tmp 2) (.tmp 37))] false)
 .ret)
 .skip))))))
 (.region 3 #[m 11 3 3,o 12 (.binOp .add 3 (.tmp 11) (ci 1) 3) 3,o 3 (.assign (.tmp 12)) 3] false))))))
 (.seq (.region 10 #[o 38 (.build 71 #[]) 71,nd (.store 71 (.tmp 2) (.tmp 38))] false)
 .ret)))
def kp52:Nat → Option (List Nat)
  | 0 => some [1,2]
  | 1 => some [1,2,3]
  | 2 => some [1,2,3,10]
  | 3 => some [1,2,3]
  | 4 => some [1,2,3,4]
  | 5 => some [1,2,3,4,5]
  | 6 => some [1,2,3,4,5,30]
  | 7 => some [2]
  | 8 => some [1,2,3,35]
  | 9 => some [2]
  | 10 => some [2]
  | _ => none
def fn52:AFn:={ ntmps:=39,results:=[.cell 2 71],body:=c52,keep:=kp52,head:=fun | 2 => some [1,2,3] | _ => none,opn:=opn52,dyn:=fun _ => [] }
def c53:Code :=
  (.seq (.region 0 #[o 3 (.box 71 (.tmp 1)) 0,o 4 (.alloc 71) 0] false)
 (.seq (.seq (.region 1 #[fa 6 71 3 1,ld 7 6 34,o 8 (.binOp .eql 34 (.tmp 7) (ci 0) 34) 4] false)
 (.cond (.tmp 8)
 (.seq (.region 2 #[o 9 (.build 71 #[]) 71,nd (.store 71 (.tmp 4) (.tmp 9))] false)
 .ret)
 .skip))
 (.seq (.region 3 #[fa 10 71 3 0,ld 11 10 47,o 12 (.call { callee:=.builtin .len,args:=#[.tmp 11],argTypes:=#[47] }) 3,o 13 (.binOp .add 3 (ci 1) (.tmp 12) 3) 3,o 14 (.makeSlice 47 (.tmp 13) (.tmp 13)) 47,o 5 (.assign (.tmp 14)) 47] false)
 (.seq (.region 4 #[m 15 5 47,m 16 0 3,o 17 (.indexAddr 47 (.tmp 15) (ci 0)) 0,nd (.store 3 (.tmp 17) (.tmp 16))] false)
 (.seq (.region 5 #[m 18 5 47,o 19 (.slice 47 (.tmp 18) (some (ci 1)) none none) 47,fa 20 71 3 0,ld 21 20 47,o 22 (.call { callee:=.builtin .copy,args:=#[.tmp 19,.tmp 21],argTypes:=#[47,47] }) 3] true)
 (.seq (.region 6 #[m 23 5 47,fa 24 71 3 1,ld 25 24 34,o 26 (.build 71 #[(0,.tmp 23),(1,.tmp 25)]) 71,nd (.store 71 (.tmp 4) (.tmp 26))] false)
 .ret))))))
def kp53:Nat → Option (List Nat)
  | 0 => some [0,3,4]
  | 1 => some [0,3,4,8]
  | 2 => some [4]
  | 3 => some [0,3,4,5]
  | 4 => some [3,4,5]
  | 5 => some [3,4,5]
  | 6 => some [4]
  | _ => none
def fn53:AFn:={ ntmps:=27,results:=[.cell 4 71],body:=c53,keep:=kp53,head:=fun  | _ => none,opn:=fun _ => none,dyn:=fun _ => [] }
def c54:Code :=
  (.seq (.region 0 #[o 2 (.box 30 (.tmp 0)) 0,o 3 (.box 71 (.tmp 1)) 0,o 4 (.assign (ci 0)) 3,o 5 (.assign (ci 0)) 34] false)
 (.seq (.seq (.region 1 #[fa 8 71 3 1,ld 9 8 34,o 10 (.binOp .eql 34 (.tmp 9) (ci 0) 34) 4] false)
 (.cond (.tmp 10)
 (.seq (.region 2 #[o 4 (.assign (ci 0)) 3,o 5 (.assign (ci 0)) 34] false)
 .ret)
 .skip))
 (.seq (.region 3 #[ld 12 2 30,fa 13 71 3 0,ld 14 13 47,cl 15 63 #[.tmp 12,.tmp 14] #[30,47] 84,m 11 15 84,o 16 (.extract (.tmp 11) 0) 3,o 17 (.extract (.tmp 11) 1) 34,o 6 (.assign (.tmp 16)) 3,o 7 (.assign (.tmp 17)) 34] false)
 (.seq (.region 4 #[m 18 6 3,fa 19 71 3 1,ld 20 19 34,o 4 (.assign (.tmp 18)) 3,o 5 (.assign (.tmp 20)) 34] true)
 .ret))))
def kp54:Nat → Option (List Nat)
  | 0 => some [2,3]
  | 1 => some [2,3,10]
  | 2 => some [4,5]
  | 3 => some [3,6]
  | 4 => some [4,5]
  | _ => none
def fn54:AFn:={ ntmps:=21,results:=[.tmp 4,.tmp 5],body:=c54,keep:=kp54,head:=fun  | _ => none,opn:=fun _ => none,dyn:=fun _ => [] }
def c55:Code :=
  (.seq (.region 0 #[o 0 (.alloc 30) 0] false)
 (.seq (.region 1 #[cl 1 44 #[.const (.int .u8 0)] #[5] 27,cl 2 44 #[.const (.int .u8 6)] #[5] 27,o 3 (.buildSlice 22 1 #[(0,.const (.int .u8 5))]) 22,o 4 (.build 30 #[(0,.tmp 2),(1,.tmp 3)]) 30,cl 5 44 #[.const (.int .u8 4)] #[5] 27,o 6 (.buildSlice 22 1 #[(0,.const (.int .u8 255))]) 22,o 7 (.build 30 #[(0,.tmp 5),(1,.tmp 6)]) 30,o 8 (.buildSlice 28 2 #[(0,.tmp 4),(1,.tmp 7)]) 28,o 9 (.build 30 #[(0,.tmp 1),(2,.tmp 8)]) 30,nd (.store 30 (.tmp 0) (.tmp 9))] false)
 .ret))
def kp55:Nat → Option (List Nat)
  | 0 => some [0]
  | 1 => some [0]
  | _ => none
def fn55:AFn:={ ntmps:=10,results:=[.cell 0 30],body:=c55,keep:=kp55,head:=fun  | _ => none,opn:=fun _ => none,dyn:=fun _ => [] }
def c56:Code :=
  (.seq (.region 0 #[o 4 (.box 30 (.tmp 0)) 0,o 5 (.box 27 (.tmp 1)) 0,o 8 (.alloc 71) 0] false)
 (.seq (.seq (.region 1 #[fa 10 30 4 2,ld 11 10 28,o 12 (.call { callee:=.builtin .len,args:=#[.tmp 11],argTypes:=#[28] }) 3,o 9 (.assign (.tmp 12)) 3] false)
 (.block 0 (.seq (.region 2 #[m 14 2 3,o 15 (.binOp .lss 3 (.tmp 14) (ci 0) 3) 4,m 16 15 4,gd 17 (.move (.tmp 3)) 3 16 false,gd 18 (.move (.tmp 2)) 3 16 false,gd 19 (.binOp .lss 3 (.tmp 17) (.tmp 18) 3) 4 16 false,o 20 (.pick (.tmp 16) (.const (.bool true)) (.tmp 19)) 4,o 13 (.assign (.tmp 20)) 4] false)
 (.cond (.tmp 13)
 (.seq (.region 3 #[cl 21 82 #[.const (.int .i64 1),.const (.slice none 0 0)] #[34,47] 71,nd (.store 71 (.tmp 8) (.tmp 21))] false)
 .ret)
 (.seq (.region 4 #[fa 23 30 4 0,ld 24 23 27,ld 25 5 27,o 26 (.binOp .neq 27 (.tmp 24) (.tmp 25) 27) 4,o 22 (.assign (.tmp 26)) 4] false)
 (.cond (.tmp 22)
 (.seq (.region 5 #[cl 27 82 #[.const (.int .i64 9),.const (.slice none 0 0)] #[34,47] 71,nd (.store 71 (.tmp 8) (.tmp 27))] false)
 .ret)
 (.seq (.region 6 #[m 29 9 3,m 30 2 3,o 31 (.binOp .lss 3 (.tmp 29) (.tmp 30) 3) 4,m 32 31 4,gd 33 (.move (.tmp 9)) 3 32 true,gd 34 (.binOp .eql 3 (.tmp 33) (ci 0) 3) 4 32 true,o 35 (.pick (.tmp 32) (.tmp 34) (.const (.bool false))) 4,o 28 (.assign (.tmp 35)) 4] false)
 (.cond (.tmp 28)
 (.seq (.region 7 #[cl 36 82 #[.const (.int .i64 17),.const (.slice none 0 0)] #[34,47] 71,nd (.store 71 (.tmp 8) (.tmp 36))] false)
 .ret)
 (.seq (.region 8 #[m 38 9 3,m 39 2 3,o 40 (.binOp .lss 3 (.tmp 38) (.tmp 39) 3) 4,o 37 (.assign (.tmp 40)) 4] false)
 (.cond (.tmp 37)
 (.seq (.region 9 #[cl 41 82 #[.const (.int .i64 7),.const (.slice none 0 0)] #[34,47] 71,nd (.store 71 (.tmp 8) (.tmp 41))] false)
 .ret)
 (.seq (.region 10 #[m 43 9 3,m 44 3 3,o 45 (.binOp .gtr 3 (.tmp 43) (.tmp 44) 3) 4,o 42 (.assign (.tmp 45)) 4] false)
 (.cond (.tmp 42)
 (.seq (.region 11 #[m 46 3 3,⟨some 47,.buildSlice 47 1 #[(0,.tmp 46)],47, "",fz,none⟩,cl 48 82 #[.const (.int .i64 3),.tmp 47] #[34,47] 71,nd (.store 71 (.tmp 8) (.tmp 48))] false)
 .ret)
 .skip))))))))))))
 (.seq (.region 12 #[o 49 (.build 71 #[]) 71,nd (.store 71 (.tmp 8) (.tmp 49))] false)
 .ret)))
def kp56:Nat → Option (List Nat)
  | 0 => some [2,3,4,5,8]
  | 1 => some [2,3,4,5,8,9]
  | 2 => some [2,3,4,5,8,9,13]
  | 3 => some [8]
  | 4 => some [2,3,8,9,22]
  | 5 => some [8]
  | 6 => some [2,3,8,9,28]
  | 7 => some [8]
  | 8 => some [3,8,9,37]
  | 9 => some [8]
  | 10 => some [3,8,42]
  | 11 => some [8]
  | 12 => some [8]
  | _ => none
def fn56:AFn:={ ntmps:=50,results:=[.cell 8 71],body:=c56,keep:=kp56,head:=fun  | _ => none,opn:=fun _ => none,dyn:=fun _ => [] }
def c57:Code :=
  (.seq (.region 0 #[o 4 (.box 30 (.tmp 0)) 0,o 5 (.box 27 (.tmp 1)) 0,o 8 (.alloc 71) 0] false)
 (.seq (.seq (.region 1 #[m 9 2 3,o 10 (.binOp .lss 3 (.tmp 9) (ci 0) 3) 4,m 11 10 4,gd 12 (.move (.tmp 3)) 3 11 false,gd 13 (.move (.tmp 2)) 3 11 false,gd 14 (.binOp .lss 3 (.tmp 12) (.tmp 13) 3) 4 11 false,o 15 (.pick (.tmp 11) (.const (.bool true)) (.tmp 14)) 4] false)
 (.cond (.tmp 15)
 (.seq (.region 2 #[cl 16 67 #[.const (.int .i64 1),.const (.int .i64 (-1))] #[34,3] 71,nd (.store 71 (.tmp 8) (.tmp 16))] false)
 .ret)
 .skip))
 (.seq (.seq (.region 3 #[fa 17 30 4 0,ld 18 17 27,ld 19 5 27,o 20 (.binOp .neq 27 (.tmp 18) (.tmp 19) 27) 4] false)
 (.cond (.tmp 20)
 (.seq (.region 4 #[cl 21 67 #[.const (.int .i64 9),.const (.int .i64 (-1))] #[34,3] 71,nd (.store 71 (.tmp 8) (.tmp 21))] false)
 .ret)
 .skip))
 (.seq (.seq (.region 5 #[fa 22 30 4 2,ld 23 22 28,o 24 (.call { callee:=.builtin .len,args:=#[.tmp 23],argTypes:=#[28] }) 3,m 25 2 3,o 26 (.binOp .lss 3 (.tmp 24) (.tmp 25) 3) 4] false)
 (.cond (.tmp 26)
 (.seq (.seq (.region 6 #[fa 27 30 4 2,ld 28 27 28,o 29 (.call { callee:=.builtin .len,args:=#[.tmp 28],argTypes:=#[28] }) 3,o 30 (.binOp .eql 3 (.tmp 29) (ci 0) 3) 4] false)
 (.cond (.tmp 30)
 (.seq (.region 7 #[cl 31 67 #[.const (.int .i64 17),.const (.int .i64 (-1))] #[34,3] 71,nd (.store 71 (.tmp 8) (.tmp 31))] false)
 .ret)
 .skip))
 (.seq (.region 8 #[cl 32 67 #[.const (.int .i64 7),.const (.int .i64 (-1))] #[34,3] 71,nd (.store 71 (.tmp 8) (.tmp 32))] false)
 .ret))
 .skip))
 (.seq (.seq (.region 9 #[fa 33 30 4 2,ld 34 33 28,o 35 (.call { callee:=.builtin .len,args:=#[.tmp 34],argTypes:=#[28] }) 3,m 36 3 3,o 37 (.binOp .gtr 3 (.tmp 35) (.tmp 36) 3) 4] false)
 (.cond (.tmp 37)
 (.seq (.region 10 #[m 38 3 3,cl 39 67 #[.const (.int .i64 3),.tmp 38] #[34,3] 71,nd (.store 71 (.tmp 8) (.tmp 39))] false)
 .ret)
 .skip))
 (.seq (.region 11 #[o 40 (.build 71 #[]) 71,nd (.store 71 (.tmp 8) (.tmp 40))] false)
 .ret))))))
def kp57:Nat → Option (List Nat)
  | 0 => some [2,3,4,5,8]
  | 1 => some [2,3,4,5,8,15]
  | 2 => some [8]
  | 3 => some [2,3,4,8,20]
  | 4 => some [8]
  | 5 => some [3,4,8,26]
  | 6 => some [8,30]
  | 7 => some [8]
  | 8 => some [8]
  | 9 => some [3,8,37]
  | 10 => some [8]
  | 11 => some [8]
  | _ => none
def fn57:AFn:={ ntmps:=41,results:=[.cell 8 71],body:=c57,keep:=kp57,head:=fun  | _ => none,opn:=fun _ => none,dyn:=fun _ => [] }
def c58:Code :=
  (.seq (.region 0 #[o 2 (.box 30 (.tmp 0)) 0,o 4 (.alloc 71) 0] false)
 (.seq (.block 0 (.seq (.region 1 #[fa 6 30 2 0,ld 7 6 27,m 8 1 25,o 9 (.build 27 #[(0,.const (.int .u8 2)),(1,.const (.bool true)),(2,.tmp 8)]) 27,o 10 (.binOp .neq 27 (.tmp 7) (.tmp 9) 27) 4,o 5 (.assign (.tmp 10)) 4] false)
 (.cond (.tmp 5)
 (.seq (.region 2 #[cl 11 82 #[.const (.int .i64 9),.const (.slice none 0 0)] #[34,47] 71,nd (.store 71 (.tmp 4) (.tmp 11))] false)
 .ret)
 (.seq (.region 3 #[fa 13 30 2 2,ld 14 13 28,o 15 (.call { callee:=.builtin .len,args:=#[.tmp 14],argTypes:=#[28] }) 3,o 16 (.binOp .eql 3 (.tmp 15) (ci 0) 3) 4,o 12 (.assign (.tmp 16)) 4] false)
 (.cond (.tmp 12)
 (.seq (.region 4 #[cl 17 82 #[.const (.int .i64 7),.const (.slice none 0 0)] #[34,47] 71,nd (.store 71 (.tmp 4) (.tmp 17))] false)
 .ret)
 (.seq (.region 5 #[fa 19 30 2 2,ld 20 19 28,o 21 (.call { callee:=.builtin .len,args:=#[.tmp 20],argTypes:=#[28] }) 3,o 22 (.binOp .gtr 3 (.tmp 21) (ci 1) 3) 4,o 18 (.assign (.tmp 22)) 4] false)
 (.cond (.tmp 18)
 (.seq (.region 6 #[⟨some 23,.buildSlice 47 1 #[(0,.const (.int .i64 1))],47, "",fz,none⟩,cl 24 82 #[.const (.int .i64 8),.tmp 23] #[34,47] 71,nd (.store 71 (.tmp 4) (.tmp 24))] false)
 .ret)
 .skip)))))))
 (.seq (.region 7 #[o 25 (.build 71 #[]) 71,nd (.store 71 (.tmp 4) (.tmp 25))] false)
 .ret)))
def kp58:Nat → Option (List Nat)
  | 0 => some [1,2,4]
  | 1 => some [2,4,5]
  | 2 => some [4]
  | 3 => some [2,4,12]
  | 4 => some [4]
  | 5 => some [4,18]
  | 6 => some [4]
  | 7 => some [4]
  | _ => none
def fn58:AFn:={ ntmps:=26,results:=[.cell 4 71],body:=c58,keep:=kp58,head:=fun  | _ => none,opn:=fun _ => none,dyn:=fun _ => [] }
def c59:Code :=
  (.seq (.region 0 #[o 2 (.box 30 (.tmp 0)) 0,o 4 (.alloc 71) 0] false)
 (.seq (.seq (.region 1 #[fa 5 30 2 0,fa 6 27 5 0,ld 7 6 24,o 8 (.binOp .neq 24 (.tmp 7) (.const (.int .u8 2)) 24) 4,m 9 8 4,gd 10 (.fieldAddr 30 (.tmp 2) 0) 0 9 false,gd 11 (.fieldAddr 27 (.tmp 10) 1) 0 9 false,gd 12 (.load 4 (.tmp 11)) 4 9 false,gd 13 (.unOp .not 4 (.tmp 12)) 4 9 false,o 14 (.pick (.tmp 9) (.const (.bool true)) (.tmp 13)) 4,m 15 14 4,gd 16 (.fieldAddr 30 (.tmp 2) 0) 0 15 false,gd 17 (.fieldAddr 27 (.tmp 16) 2) 0 15 false,gd 18 (.load 25 (.tmp 17)) 25 15 false,gd 19 (.move (.tmp 1)) 25 15 false,gd 20 (.binOp .neq 25 (.tmp 18) (.tmp 19) 25) 4 15 false,o 21 (.pick (.tmp 15) (.const (.bool true)) (.tmp 20)) 4] false)
 (.cond (.tmp 21)
 (.seq (.region 2 #[cl 22 67 #[.const (.int .i64 9),.const (.int .i64 (-1))] #[34,3] 71,nd (.store 71 (.tmp 4) (.tmp 22))] false)
 .ret)
 .skip))
 (.seq (.seq (.region 3 #[fa 23 30 2 2,ld 24 23 28,o 25 (.call { callee:=.builtin .len,args:=#[.tmp 24],argTypes:=#[28] }) 3,o 26 (.binOp .eql 3 (.tmp 25) (ci 0) 3) 4] false)
 (.cond (.tmp 26)
 (.seq (.region 4 #[cl 27 67 #[.const (.int .i64 7),.const (.int .i64 (-1))] #[34,3] 71,nd (.store 71 (.tmp 4) (.tmp 27))] false)
 .ret)
 .skip))
 (.seq (.seq (.region 5 #[fa 28 30 2 2,ld 29 28 28,o 30 (.call { callee:=.builtin .len,args:=#[.tmp 29],argTypes:=#[28] }) 3,o 31 (.binOp .gtr 3 (.tmp 30) (ci 1) 3) 4] false)
 (.cond (.tmp 31)
 (.seq (.region 6 #[cl 32 67 #[.const (.int .i64 8),.const (.int .i64 1)] #[34,3] 71,nd (.store 71 (.tmp 4) (.tmp 32))] false)
 .ret)
 .skip))
 (.seq (.region 7 #[o 33 (.build 71 #[]) 71,nd (.store 71 (.tmp 4) (.tmp 33))] false)
 .ret)))))
def kp59:Nat → Option (List Nat)
  | 0 => some [1,2,4]
  | 1 => some [2,4,21]
  | 2 => some [4]
  | 3 => some [2,4,26]
  | 4 => some [4]
  | 5 => some [4,31]
  | 6 => some [4]
  | 7 => some [4]
  | _ => none
def fn59:AFn:={ ntmps:=34,results:=[.cell 4 71],body:=c59,keep:=kp59,head:=fun  | _ => none,opn:=fun _ => none,dyn:=fun _ => [] }
def c61:Code :=
  (.seq (.region 0 #[o 2 (.box 30 (.tmp 0)) 0,o 4 (.alloc 30) 0,o 5 (.assign (.const (.bool false))) 4] false)
 (.seq (.seq (.region 1 #[o 6 (.assign (ci 0)) 3] false)
 (.block 0 (.loop (.seq (.seq (.region 2 #[m 7 6 3,m 8 1 47,o 9 (.call { callee:=.builtin .len,args:=#[.tmp 8],argTypes:=#[47] }) 3,o 10 (.binOp .lss 3 (.tmp 7) (.tmp 9) 3) 4] false)
 (.cond (.tmp 10)
 .skip
 (.exit 0)))
 (.seq (.block 1 (.seq (.seq (.region 4 #[m 13 1 47,m 14 6 3,o 15 (.indexAddr 47 (.tmp 13) (.tmp 14)) 0,ld 16 15 3,o 17 (.binOp .lss 3 (.tmp 16) (ci 0) 3) 4,m 18 17 4,gd 19 (.move (.tmp 1)) 47 18 false,gd 20 (.move (.tmp 6)) 3 18 false,gd 21 (.indexAddr 47 (.tmp 19) (.tmp 20)) 0 18 false,gd 22 (.load 3 (.tmp 21)) 3 18 false,gd 23 (.fieldAddr 30 (.tmp 2) 2) 0 18 false,gd 24 (.load 28 (.tmp 23)) 28 18 false,gd 25 (.call { callee:=.builtin .len,args:=#[.tmp 24],argTypes:=#[28] }) 3 18 false,gd 26 (.binOp .geq 3 (.tmp 22) (.tmp 25) 3) 4 18 false,o 27 (.pick (.tmp 18) (.const (.bool true)) (.tmp 26)) 4] true)
 (.cond (.tmp 27)
 (.seq (.region 5 #[o 28 (.build 30 #[]) 30,nd (.store 30 (.tmp 4) (.tmp 28)),o 5 (.assign (.const (.bool false))) 4] false)
 .ret)
 .skip))
 (.region 6 #[fa 29 30 2 2,ld 30 29 28,m 31 1 47,m 32 6 3,o 33 (.indexAddr 47 (.tmp 31) (.tmp 32)) 0,ld 34 33 3,o 35 (.indexAddr 28 (.tmp 30) (.tmp 34)) 0,ld 36 35 30,nd (.store 30 (.tmp 2) (.tmp 36))] true)))
 (.region 3 #[m 11 6 3,o 12 (.binOp .add 3 (.tmp 11) (ci 1) 3) 3,o 6 (.assign (.tmp 12)) 3] false))))))
 (.seq (.region 7 #[ld 37 2 30,nd (.store 30 (.tmp 4) (.tmp 37)),o 5 (.assign (.const (.bool true))) 4] false)
 .ret)))
def kp61:Nat → Option (List Nat)
  | 0 => some [1,2,4]
  | 1 => some [1,2,4,6]
  | 2 => some [1,2,4,6,10]
  | 3 => some [1,2,4,6]
  | 4 => some [1,2,4,6,27]
  | 5 => some [4,5]
  | 6 => some [1,2,4,6]
  | 7 => some [4,5]
  | _ => none
def fn61:AFn:={ ntmps:=38,results:=[.cell 4 30,.tmp 5],body:=c61,keep:=kp61,head:=fun | 2 => some [1,2,4,6] | _ => none,opn:=fun _ => none,dyn:=fun _ => [] }
def c62:Code :=
  (.seq (.region 0 #[o 2 (.box 30 (.tmp 0)) 0,o 4 (.alloc 30) 0,o 5 (.assign (ci 0)) 34] false)
 (.seq (.region 1 #[o 6 (.assign (.const (.bool true))) 4] false)
 (.seq (.seq (.region 2 #[m 9 1 47,o 10 (.call { callee:=.builtin .len,args:=#[.tmp 9],argTypes:=#[47] }) 3,o 11 (.move (ci 0)) 3] false)
 (.block 0 (.loop (.seq (.region 3 #[o 12 (.binOp .lss 3 (.tmp 11) (.tmp 10) 3) 0] false)
 (.seq (.cond (.tmp 12)
 .skip
 (.exit 0))
 (.seq (.block 1 (.seq (.region 4 #[o 13 (.indexAddr 47 (.tmp 9) (.tmp 11)) 0,ld 14 13 3,o 8 (.assign (.tmp 14)) 3] false)
 (.seq (.region 5 #[ld 16 2 30,m 17 8 3,cl 18 85 #[.tmp 16,.tmp 17] #[30,3] 91,m 15 18 91,o 19 (.extract (.tmp 15) 0) 30,o 20 (.extract (.tmp 15) 1) 4,nd (.store 30 (.tmp 2) (.tmp 19)),o 6 (.assign (.tmp 20)) 4] false)
 (.seq (.region 6 #[m 21 6 4,o 22 (.unOp .not 4 (.tmp 21)) 4] false)
 (.cond (.tmp 22)
 (.seq (.region 7 #[o 23 (.build 30 #[]) 30,nd (.store 30 (.tmp 4) (.tmp 23)),o 5 (.assign (ci 19)) 34] false)
 .ret)
 .skip)))))
 (.region 8 #[o 24 (.binOp .add 3 (.tmp 11) (ci 1) 3) 3,m 11 24 3] false)))))))
 (.seq (.region 9 #[ld 25 2 30,cl 26 86 #[.tmp 25] #[30] 30,nd (.store 30 (.tmp 4) (.tmp 26)),o 5 (.assign (ci 0)) 34] false)
 .ret))))
def kp62:Nat → Option (List Nat)
  | 0 => some [1,2,4]
  | 1 => some [1,2,4]
  | 2 => some [2,4,9,10,11]
  | 3 => some [2,4,9,10,11,12]
  | 4 => some [2,4,8,9,10,11]
  | 5 => some [2,4,6,9,10,11]
  | 6 => some [2,4,9,10,11,22]
  | 7 => some [4,5]
  | 8 => some [2,4,9,10,11]
  | 9 => some [4,5]
  | _ => none
def fn62:AFn:={ ntmps:=27,results:=[.cell 4 30,.tmp 5],body:=c62,keep:=kp62,head:=fun | 3 => some [2,4,9,10,11] | _ => none,opn:=opn62,dyn:=fun _ => [] }
def c63:Code :=
  (.seq (.region 0 #[o 2 (.box 30 (.tmp 0)) 0,o 4 (.assign (ci 0)) 3,o 5 (.assign (ci 0)) 34] false)
 (.seq (.seq (.region 1 #[ld 14 2 30,cl 15 21 #[.tmp 14] #[30] 35,m 13 15 35,o 16 (.extract (.tmp 13) 0) 22,o 17 (.extract (.tmp 13) 1) 34,o 6 (.assign (.tmp 16)) 22,o 7 (.assign (.tmp 17)) 34] false)
 (.seq (.region 2 #[m 18 7 34,o 19 (.binOp .neq 34 (.tmp 18) (ci 0) 34) 4] false)
 (.cond (.tmp 19)
 (.seq (.region 3 #[m 20 7 34,o 4 (.assign (ci 0)) 3,o 5 (.assign (.tmp 20)) 34] false)
 .ret)
 .skip)))
 (.seq (.region 4 #[o 8 (.assign (ci 0)) 3] false)
 (.seq (.seq (.region 5 #[m 21 1 47,o 22 (.call { callee:=.builtin .len,args:=#[.tmp 21],argTypes:=#[47] }) 3,o 23 (.move (ci 0)) 3] false)
 (.block 0 (.loop (.seq (.region 6 #[o 24 (.binOp .lss 3 (.tmp 23) (.tmp 22) 3) 0] false)
 (.seq (.cond (.tmp 24)
 .skip
 (.exit 0))
 (.seq (.block 1 (.seq (.region 7 #[o 25 (.indexAddr 47 (.tmp 21) (.tmp 23)) 0,ld 26 25 3,o 10 (.assign (.tmp 26)) 3] false)
 (.seq (.region 8 #[ld 28 2 30,m 29 10 3,cl 30 85 #[.tmp 28,.tmp 29] #[30,3] 91,m 27 30 91,o 31 (.extract (.tmp 27) 0) 30,o 32 (.extract (.tmp 27) 1) 4,o 11 (.alloc 30) 0,nd (.store 30 (.tmp 11) (.tmp 31)),o 12 (.assign (.tmp 32)) 4] false)
 (.seq (.seq (.region 9 #[m 33 12 4,o 34 (.unOp .not 4 (.tmp 33)) 4] false)
 (.cond (.tmp 34)
 (.seq (.region 10 #[o 4 (.assign (ci 0)) 3,o 5 (.assign (ci 19)) 34] false)
 .ret)
 .skip))
 (.seq (.region 11 #[m 35 8 3,ld 36 2 30,⟨some 37,.buildSlice 28 1 #[(0,.tmp 36)],28, "",fz,none⟩,cl 38 87 #[.tmp 37] #[28] 3,fa 39 30 2 2,ld 40 39 28,m 41 10 3,o 42 (.slice 28 (.tmp 40) (some (.tmp 41)) none none) 28,cl 43 87 #[.tmp 42] #[28] 3,o 44 (.binOp .sub 3 (.tmp 38) (.tmp 43) 3) 3,o 45 (.binOp .add 3 (.tmp 35) (.tmp 44) 3) 3,o 8 (.assign (.tmp 45)) 3] true)
 (.region 12 #[ld 46 11 30,nd (.store 30 (.tmp 2) (.tmp 46))] false))))))
 (.region 13 #[o 47 (.binOp .add 3 (.tmp 23) (ci 1) 3) 3,m 23 47 3] false)))))))
 (.seq (.region 14 #[m 48 8 3,o 4 (.assign (.tmp 48)) 3,o 5 (.assign (ci 0)) 34] false)
 .ret)))))
def kp63:Nat → Option (List Nat)
  | 0 => some [1,2]
  | 1 => some [1,2,7]
  | 2 => some [1,2,7,19]
  | 3 => some [4,5]
  | 4 => some [1,2,8]
  | 5 => some [2,8,21,22,23]
  | 6 => some [2,8,21,22,23,24]
  | 7 => some [2,8,10,21,22,23]
  | 8 => some [2,8,10,11,12,21,22,23]
  | 9 => some [2,8,10,11,21,22,23,34]
  | 10 => some [4,5]
  | 11 => some [2,8,11,21,22,23]
  | 12 => some [2,8,21,22,23]
  | 13 => some [2,8,21,22,23]
  | 14 => some [4,5]
  | _ => none
def fn63:AFn:={ ntmps:=49,results:=[.tmp 4,.tmp 5],body:=c63,keep:=kp63,head:=fun | 6 => some [2,8,21,22,23] | _ => none,opn:=fun _ => none,dyn:=fun _ => [] }
def c64:Code :=
  (.seq (.region 0 #[o 2 (.box 30 (.tmp 0)) 0,o 4 (.assign (ci 0)) 3] false)
 (.seq (.region 1 #[o 5 (.assign (ci 0)) 3] false)
 (.seq (.seq (.region 2 #[o 6 (.assign (ci 0)) 3] false)
 (.block 0 (.loop (.seq (.seq (.region 3 #[m 9 6 3,m 10 1 47,o 11 (.call { callee:=.builtin .len,args:=#[.tmp 10],argTypes:=#[47] }) 3,o 12 (.binOp .lss 3 (.tmp 9) (.tmp 11) 3) 4] false)
 (.cond (.tmp 12)
 .skip
 (.exit 0)))
 (.seq (.block 1 (.seq (.seq (.region 5 #[m 15 1 47,m 16 6 3,o 17 (.indexAddr 47 (.tmp 15) (.tmp 16)) 0,ld 18 17 3,o 19 (.binOp .lss 3 (.tmp 18) (ci 0) 3) 4,m 20 19 4,gd 21 (.move (.tmp 1)) 47 20 false,gd 22 (.move (.tmp 6)) 3 20 false,gd 23 (.indexAddr 47 (.tmp 21) (.tmp 22)) 0 20 false,gd 24 (.load 3 (.tmp 23)) 3 20 false,gd 25 (.fieldAddr 30 (.tmp 2) 2) 0 20 false,gd 26 (.load 28 (.tmp 25)) 28 20 false,gd 27 (.call { callee:=.builtin .len,args:=#[.tmp 26],argTypes:=#[28] }) 3 20 false,gd 28 (.binOp .geq 3 (.tmp 24) (.tmp 27) 3) 4 20 false,o 29 (.pick (.tmp 20) (.const (.bool true)) (.tmp 28)) 4] true)
 (.cond (.tmp 29)
 (.seq (.region 6 #[o 4 (.assign (ci (-1))) 3] false)
 .ret)
 .skip))
 (.seq (.region 7 #[o 7 (.assign (ci 0)) 3] false)
 (.seq (.seq (.region 8 #[m 30 1 47,m 31 6 3,o 32 (.indexAddr 47 (.tmp 30) (.tmp 31)) 0,ld 33 32 3,o 8 (.assign (.tmp 33)) 3] false)
 (.block 2 (.loop (.seq (.seq (.region 9 #[m 34 8 3,fa 35 30 2 2,ld 36 35 28,o 37 (.call { callee:=.builtin .len,args:=#[.tmp 36],argTypes:=#[28] }) 3,o 38 (.binOp .lss 3 (.tmp 34) (.tmp 37) 3) 4] false)
 (.cond (.tmp 38)
 .skip
 (.exit 2)))
 (.seq (.block 3 (.region 11 #[m 41 7 3,fa 42 30 2 2,ld 43 42 28,m 44 8 3,o 45 (.indexAddr 28 (.tmp 43) (.tmp 44)) 0,ld 46 45 30,cl 47 84 #[.tmp 46] #[30] 22,o 48 (.call { callee:=.builtin .len,args:=#[.tmp 47],argTypes:=#[22] }) 3,o 49 (.binOp .add 3 (.tmp 41) (.tmp 48) 3) 3,o 7 (.assign (.tmp 49)) 3] false))
 (.region 10 #[m 39 8 3,o 40 (.binOp .add 3 (.tmp 39) (ci 1) 3) 3,o 8 (.assign (.tmp 40)) 3] false))))))
 (.seq (.region 12 #[m 50 5 3,ld 51 2 30,cl 52 84 #[.tmp 51] #[30] 22,o 53 (.call { callee:=.builtin .len,args:=#[.tmp 52],argTypes:=#[22] }) 3,m 54 7 3,o 55 (.binOp .sub 3 (.tmp 53) (.tmp 54) 3) 3,o 56 (.binOp .add 3 (.tmp 50) (.tmp 55) 3) 3,o 5 (.assign (.tmp 56)) 3] false)
 (.region 13 #[fa 57 30 2 2,ld 58 57 28,m 59 1 47,m 60 6 3,o 61 (.indexAddr 47 (.tmp 59) (.tmp 60)) 0,ld 62 61 3,o 63 (.indexAddr 28 (.tmp 58) (.tmp 62)) 0,ld 64 63 30,nd (.store 30 (.tmp 2) (.tmp 64))] true))))))
 (.region 4 #[m 13 6 3,o 14 (.binOp .add 3 (.tmp 13) (ci 1) 3) 3,o 6 (.assign (.tmp 14)) 3] false))))))
 (.seq (.region 14 #[m 65 5 3,o 4 (.assign (.tmp 65)) 3] false)
 .ret))))
def kp64:Nat → Option (List Nat)
  | 0 => some [1,2]
  | 1 => some [1,2,5]
  | 2 => some [1,2,5,6]
  | 3 => some [1,2,5,6,12]
  | 4 => some [1,2,5,6]
  | 5 => some [1,2,5,6,29]
  | 6 => some [4]
  | 7 => some [1,2,5,6,7]
  | 8 => some [1,2,5,6,7,8]
  | 9 => some [1,2,5,6,7,8,38]
  | 10 => some [1,2,5,6,7,8]
  | 11 => some [1,2,5,6,7,8]
  | 12 => some [1,2,5,6]
  | 13 => some [1,2,5,6]
  | 14 => some [4]
  | _ => none
def fn64:AFn:={ ntmps:=66,results:=[.tmp 4],body:=c64,keep:=kp64,head:=fun | 3 => some [1,2,5,6] | 9 => some [1,2,5,6,7,8] | _ => none,opn:=fun _ => none,dyn:=fun _ => [] }
def c65:Code :=
  (.seq (.region 0 #[o 3 (.box 30 (.tmp 0)) 0,o 6 (.assign (ci 0)) 3] false)
 (.seq (.region 1 #[m 8 1 97,m 9 1 97,o 10 (.nilCheck (.tmp 9)) 0,ld 11 10 3,o 12 (.binOp .sub 3 (.tmp 11) (ci 1) 3) 3,o 13 (.nilCheck (.tmp 8)) 0,nd (.store 3 (.tmp 13) (.tmp 12))] false)
 (.seq (.seq (.region 2 #[m 14 1 97,o 15 (.nilCheck (.tmp 14)) 0,ld 16 15 3,o 17 (.binOp .lss 3 (.tmp 16) (ci 0) 3) 4,m 18 17 4,gd 19 (.move (.tmp 2)) 3 18 false,gd 20 (.binOp .gtr 3 (.tmp 19) (ci 20) 3) 4 18 false,o 21 (.pick (.tmp 18) (.const (.bool true)) (.tmp 20)) 4,m 22 21 4,gd 23 (.fieldAddr 30 (.tmp 3) 1) 0 22 false,gd 24 (.load 22 (.tmp 23)) 22 22 false,gd 25 (.call { callee:=.builtin .len,args:=#[.tmp 24],argTypes:=#[22] }) 3 22 false,gd 26 (.binOp .gtr 3 (.tmp 25) (ci 200) 3) 4 22 false,o 27 (.pick (.tmp 22) (.const (.bool true)) (.tmp 26)) 4,m 28 27 4,gd 29 (.fieldAddr 30 (.tmp 3) 2) 0 28 false,gd 30 (.load 28 (.tmp 29)) 28 28 false,gd 31 (.call { callee:=.builtin .len,args:=#[.tmp 30],argTypes:=#[28] }) 3 28 false,gd 32 (.binOp .gtr 3 (.tmp 31) (ci 60) 3) 4 28 false,o 33 (.pick (.tmp 28) (.const (.bool true)) (.tmp 32)) 4] false)
 (.cond (.tmp 33)
 (.seq (.region 3 #[o 6 (.assign (ci 0)) 3] false)
 .ret)
 .skip))
 (.seq (.seq (.region 4 #[o 7 (.assign (ci 0)) 3] false)
 (.block 0 (.loop (.seq (.seq (.region 5 #[m 34 7 3,fa 35 30 3 2,ld 36 35 28,o 37 (.call { callee:=.builtin .len,args:=#[.tmp 36],argTypes:=#[28] }) 3,o 38 (.binOp .lss 3 (.tmp 34) (.tmp 37) 3) 4] false)
 (.cond (.tmp 38)
 .skip
 (.exit 0)))
 (.seq (.block 1 (.seq (.region 7 #[fa 41 30 3 2,ld 42 41 28,m 43 7 3,o 44 (.indexAddr 28 (.tmp 42) (.tmp 43)) 0,ld 45 44 30,m 46 1 97,m 47 2 3,o 48 (.binOp .add 3 (.tmp 47) (ci 1) 3) 3,cl 49 65 #[.tmp 45,.tmp 46,.tmp 48] #[30,97,3] 3,o 50 (.binOp .eql 3 (.tmp 49) (ci 0) 3) 4] false)
 (.cond (.tmp 50)
 (.seq (.region 8 #[o 6 (.assign (ci 0)) 3] false)
 .ret)
 .skip)))
 (.region 6 #[m 39 7 3,o 40 (.binOp .add 3 (.tmp 39) (ci 1) 3) 3,o 7 (.assign (.tmp 40)) 3] false))))))
 (.seq (.region 9 #[o 6 (.assign (ci 1)) 3] false)
 .ret)))))
def kp65:Nat → Option (List Nat)
  | 0 => some [1,2,3]
  | 1 => some [1,2,3]
  | 2 => some [1,2,3,33]
  | 3 => some [6]
  | 4 => some [1,2,3,7]
  | 5 => some [1,2,3,7,38]
  | 6 => some [1,2,3,7]
  | 7 => some [1,2,3,7,50]
  | 8 => some [6]
  | 9 => some [6]
  | _ => none
def fn65:AFn:={ ntmps:=51,results:=[.tmp 6],body:=c65,keep:=kp65,head:=fun | 5 => some [1,2,3,7] | _ => none,opn:=opnT,dyn:=fun _ => [] }
def c66:Code :=
  (.seq (.region 0 #[o 1 (.box 30 (.tmp 0)) 0,o 2 (.alloc 30) 0] false)
 (.seq (.region 1 #[fa 5 30 1 0,ld 6 5 27,fa 7 30 1 1,ld 8 7 22,o 9 (.call { callee:=.builtin .append,args:=#[.const (.slice none 0 0),.tmp 8],argTypes:=#[22,22] }) 22,o 10 (.build 30 #[(0,.tmp 6),(1,.tmp 9)]) 30,o 3 (.alloc 30) 0,nd (.store 30 (.tmp 3) (.tmp 10))] true)
 (.seq (.seq (.region 2 #[o 4 (.assign (ci 0)) 3] false)
 (.block 0 (.loop (.seq (.seq (.region 3 #[m 11 4 3,fa 12 30 1 2,ld 13 12 28,o 14 (.call { callee:=.builtin .len,args:=#[.tmp 13],argTypes:=#[28] }) 3,o 15 (.binOp .lss 3 (.tmp 11) (.tmp 14) 3) 4] false)
 (.cond (.tmp 15)
 .skip
 (.exit 0)))
 (.seq (.block 1 (.region 5 #[fa 18 30 3 2,ld 19 18 28,fa 20 30 1 2,ld 21 20 28,m 22 4 3,o 23 (.indexAddr 28 (.tmp 21) (.tmp 22)) 0,ld 24 23 30,cl 25 66 #[.tmp 24] #[30] 30,o 26 (.buildSlice 28 1 #[(0,.tmp 25)]) 28,o 27 (.call { callee:=.builtin .append,args:=#[.tmp 19,.tmp 26],argTypes:=#[28,28] }) 28,fa 28 30 3 2,nd (.store 28 (.tmp 28) (.tmp 27))] true))
 (.region 4 #[m 16 4 3,o 17 (.binOp .add 3 (.tmp 16) (ci 1) 3) 3,o 4 (.assign (.tmp 17)) 3] false))))))
 (.seq (.region 6 #[ld 29 3 30,nd (.store 30 (.tmp 2) (.tmp 29))] false)
 .ret))))
def kp66:Nat → Option (List Nat)
  | 0 => some [1,2]
  | 1 => some [1,2,3]
  | 2 => some [1,2,3,4]
  | 3 => some [1,2,3,4,15]
  | 4 => some [1,2,3,4]
  | 5 => some [1,2,3,4]
  | 6 => some [2]
  | _ => none
def fn66:AFn:={ ntmps:=30,results:=[.cell 2 30],body:=c66,keep:=kp66,head:=fun | 3 => some [1,2,3,4] | _ => none,opn:=fun _ => none,dyn:=fun | 1 => [(1,4)] | _ => [] }
def c67:Code :=
  (.seq (.region 0 #[o 4 (.alloc 71) 0] false)
 (.seq (.region 1 #[m 6 0 34,o 7 (.build 71 #[(1,.tmp 6)]) 71,o 5 (.alloc 71) 0,nd (.store 71 (.tmp 5) (.tmp 7))] false)
 (.seq (.seq (.region 2 #[m 8 1 3,o 9 (.binOp .geq 3 (.tmp 8) (ci 0) 3) 4] false)
 (.cond (.tmp 9)
 (.region 3 #[fa 10 71 5 0,ld 11 10 47,m 12 1 3,o 13 (.buildSlice 47 1 #[(0,.tmp 12)]) 47,o 14 (.call { callee:=.builtin .append,args:=#[.tmp 11,.tmp 13],argTypes:=#[47,47] }) 47,fa 15 71 5 0,nd (.store 47 (.tmp 15) (.tmp 14))] false)
 .skip))
 (.seq (.region 4 #[ld 16 5 71,nd (.store 71 (.tmp 4) (.tmp 16))] false)
 .ret))))
def kp67:Nat → Option (List Nat)
  | 0 => some [0,1,4]
  | 1 => some [1,4,5]
  | 2 => some [1,4,5,9]
  | 3 => some [4,5]
  | 4 => some [4]
  | _ => none
def fn67:AFn:={ ntmps:=17,results:=[.cell 4 71],body:=c67,keep:=kp67,head:=fun  | _ => none,opn:=fun _ => none,dyn:=fun _ => [] }
def c69:Code :=
  (.seq (.region 0 #[o 1 (.box 30 (.tmp 0)) 0,o 2 (.assign (ci 0)) 3] false)
 (.seq (.region 1 #[ld 4 1 30,cl 5 90 #[.tmp 4] #[30] 3,o 3 (.assign (.tmp 5)) 3] false)
 (.seq (.seq (.region 2 #[m 6 3 3,o 7 (.binOp .gtr 3 (.tmp 6) (ci 1048576) 3) 4] false)
 (.cond (.tmp 7)
 (.seq (.region 3 #[m 8 3 3,o 2 (.assign (.tmp 8)) 3] false)
 .ret)
 .skip))
 (.seq (.region 4 #[fa 9 30 1 0,ld 10 9 27,cl 11 92 #[.tmp 10] #[27] 3,m 12 3 3,cl 13 91 #[.tmp 11,.tmp 12] #[3,3] 3,o 2 (.assign (.tmp 13)) 3] false)
 .ret))))
def kp69:Nat → Option (List Nat)
  | 0 => some [1]
  | 1 => some [1,3]
  | 2 => some [1,3,7]
  | 3 => some [2]
  | 4 => some [2]
  | _ => none
def fn69:AFn:={ ntmps:=14,results:=[.tmp 2],body:=c69,keep:=kp69,head:=fun  | _ => none,opn:=fun _ => none,dyn:=fun _ => [] }
def c70:Code :=
  (.seq (.region 0 #[o 3 (.box 30 (.tmp 1)) 0,o 4 (.assign (.const (.slice none 0 0))) 22] false)
 (.seq (.region 1 #[fa 12 30 3 0,ld 13 12 27,cl 14 93 #[.tmp 13] #[27] 35,m 11 14 35,o 15 (.extract (.tmp 11) 0) 22,o 16 (.extract (.tmp 11) 1) 34,o 5 (.assign (.tmp 15)) 22,o 6 (.assign (.tmp 16)) 34] false)
 (.seq (.region 2 #[ld 18 3 30,cl 19 90 #[.tmp 18] #[30] 3,cl 20 94 #[.tmp 19] #[3] 35,m 17 20 35,o 21 (.extract (.tmp 17) 0) 22,o 22 (.extract (.tmp 17) 1) 34,o 7 (.assign (.tmp 21)) 22,o 8 (.assign (.tmp 22)) 34] false)
 (.seq (.region 3 #[m 23 0 22,m 24 5 22,o 25 (.call { callee:=.builtin .append,args:=#[.tmp 23,.tmp 24],argTypes:=#[22,22] }) 22,m 26 7 22,o 27 (.call { callee:=.builtin .append,args:=#[.tmp 25,.tmp 26],argTypes:=#[22,22] }) 22,o 0 (.assign (.tmp 27)) 22] false)
 (.seq (.region 4 #[m 28 0 22,fa 29 30 3 1,ld 30 29 22,o 31 (.call { callee:=.builtin .append,args:=#[.tmp 28,.tmp 30],argTypes:=#[22,22] }) 22,o 0 (.assign (.tmp 31)) 22] false)
 (.seq (.seq (.region 5 #[fa 32 30 3 2,ld 33 32 28,o 34 (.call { callee:=.builtin .len,args:=#[.tmp 33],argTypes:=#[28] }) 3,o 35 (.move (ci 0)) 3] false)
 (.block 0 (.loop (.seq (.region 6 #[o 36 (.binOp .lss 3 (.tmp 35) (.tmp 34) 3) 0] false)
 (.seq (.cond (.tmp 36)
 .skip
 (.exit 0))
 (.seq (.block 1 (.seq (.region 7 #[o 37 (.indexAddr 28 (.tmp 33) (.tmp 35)) 0,ld 38 37 30,o 10 (.alloc 30) 0,nd (.store 30 (.tmp 10) (.tmp 38))] false)
 (.region 8 #[m 39 0 22,ld 40 10 30,cl 41 70 #[.tmp 39,.tmp 40] #[22,30] 22,o 0 (.assign (.tmp 41)) 22] false)))
 (.region 9 #[o 42 (.binOp .add 3 (.tmp 35) (ci 1) 3) 3,m 35 42 3] false)))))))
 (.seq (.region 10 #[m 43 0 22,o 4 (.assign (.tmp 43)) 22] false)
 .ret)))))))
def kp70:Nat → Option (List Nat)
  | 0 => some [0,3]
  | 1 => some [0,3,5]
  | 2 => some [0,3,5,7]
  | 3 => some [0,3]
  | 4 => some [0,3]
  | 5 => some [0,33,34,35]
  | 6 => some [0,33,34,35,36]
  | 7 => some [0,10,33,34,35]
  | 8 => some [0,33,34,35]
  | 9 => some [0,33,34,35]
  | 10 => some [4]
  | _ => none
def fn70:AFn:={ ntmps:=44,results:=[.tmp 4],body:=c70,keep:=kp70,head:=fun | 6 => some [0,33,34,35] | _ => none,opn:=opnT,dyn:=fun _ => [] }
def c71:Code :=
  (.seq (.region 0 #[o 1 (.box 105 (.tmp 0)) 0,o 2 (.alloc 27) 0] false)
 (.seq (.region 1 #[fa 4 105 1 0,ld 5 4 5,o 6 (.binOp .rem 5 (.tmp 5) (.const (.int .u8 4)) 5) 5,fa 7 105 1 1,ld 8 7 5,o 9 (.binOp .rem 5 (.tmp 8) (.const (.int .u8 2)) 5) 5,o 10 (.binOp .eql 5 (.tmp 9) (.const (.int .u8 1)) 5) 4,fa 11 105 1 2,ld 12 11 25,o 13 (.binOp .rem 25 (.tmp 12) (.const (.int .u32 268435456)) 25) 25,o 14 (.build 27 #[(0,.tmp 6),(1,.tmp 10),(2,.tmp 13)]) 27,o 3 (.alloc 27) 0,nd (.store 27 (.tmp 3) (.tmp 14))] false)
 (.seq (.seq (.region 2 #[ld 15 3 27,cl 16 80 #[.tmp 15] #[27] 3,o 17 (.binOp .neq 3 (.tmp 16) (ci 0) 3) 4] false)
 (.cond (.tmp 17)
 (.region 3 #[fa 18 27 3 2,nd (.store 25 (.tmp 18) (.const (.int .u32 4)))] false)
 .skip))
 (.seq (.region 4 #[ld 19 3 27,nd (.store 27 (.tmp 2) (.tmp 19))] false)
 .ret))))
def kp71:Nat → Option (List Nat)
  | 0 => some [1,2]
  | 1 => some [2,3]
  | 2 => some [2,3,17]
  | 3 => some [2,3]
  | 4 => some [2]
  | _ => none
def fn71:AFn:={ ntmps:=20,results:=[.cell 2 27],body:=c71,keep:=kp71,head:=fun  | _ => none,opn:=fun _ => none,dyn:=fun _ => [] }
def c72:Code :=
  (.seq (.region 0 #[o 7 (.call { callee:=.builtin .recover,args:=#[],argTypes:=#[] }) 20,o 4 (.assign (.tmp 7)) 20] false)
 (.seq (.region 1 #[m 8 4 20,o 9 (.binOp .neq 20 (.tmp 8) (.const .nilIface) 20) 4] false)
 (.cond (.tmp 9)
 (.seq (.region 2 #[m 11 4 20,o 12 (.typeAssert (.tmp 11) 20 110 true) 111,m 10 12 111,o 13 (.extract (.tmp 10) 0) 110,o 14 (.extract (.tmp 10) 1) 4,o 5 (.alloc 110) 0,nd (.store 110 (.tmp 5) (.tmp 13)),o 6 (.assign (.tmp 14)) 4] false)
 (.seq (.seq (.region 3 #[m 15 6 4,o 16 (.unOp .not 4 (.tmp 15)) 4] false)
 (.cond (.tmp 16)
 (.region 4 #[m 17 4 20,nd (.panic (.tmp 17))] false)
 .skip))
 (.region 5 #[o 18 (.build 30 #[]) 30,fa 19 110 5 0,ld 20 19 3,fa 21 110 5 1,ld 22 21 34,nd (.store 30 (.tmp 0) (.tmp 18)),nd (.store 3 (.tmp 1) (ci 0)),nd (.store 3 (.tmp 2) (.tmp 20)),nd (.store 34 (.tmp 3) (.tmp 22))] true)))
 .skip)))
def kp72:Nat → Option (List Nat)
  | 0 => some [0,1,2,3,4]
  | 1 => some [0,1,2,3,4,9]
  | 2 => some [0,1,2,3,4,5,6]
  | 3 => some [0,1,2,3,4,5,16]
  | 4 => some [0,1,2,3,5]
  | 5 => some []
  | _ => none
def fn72:AFn:={ ntmps:=23,results:=[],body:=c72,keep:=kp72,head:=fun  | _ => none,opn:=fun _ => none,dyn:=fun | 5 => [(2,5),(4,5),(2,6),(4,6),(4,7)] | _ => [] }
def c73:Code :=
  (.seq (.region 0 #[o 8 (.alloc 30) 0,o 9 (.assign (ci 0)) 3] false)
 (.seq (.region 1 #[m 17 0 136,o 18 (.nilCheck (.tmp 17)) 0,fa 19 113 18 0,ld 20 19 22,m 21 1 3,m 22 2 3,o 23 (.slice 22 (.tmp 20) (some (.tmp 21)) (some (.tmp 22)) none) 22,cl 24 95 #[.tmp 23] #[22] 137,m 16 24 137,o 25 (.extract (.tmp 16) 0) 27,o 26 (.extract (.tmp 16) 1) 3,o 27 (.extract (.tmp 16) 2) 34,o 10 (.alloc 27) 0,nd (.store 27 (.tmp 10) (.tmp 25)),o 11 (.assign (.tmp 26)) 3,o 12 (.assign (.tmp 27)) 34] false)
 (.seq (.block 0 (.seq (.region 2 #[m 29 12 34,o 30 (.binOp .eql 34 (.tmp 29) (ci 7) 34) 4,o 28 (.assign (.tmp 30)) 4] false)
 (.cond (.tmp 28)
 (.region 3 #[m 31 2 3,m 32 12 34,o 33 (.build 110 #[(0,.tmp 31),(1,.tmp 32)]) 110,o 34 (.makeInterface 110 (.tmp 33)) 20,nd (.panic (.tmp 34))] false)
 (.seq (.region 4 #[m 36 12 34,o 37 (.binOp .neq 34 (.tmp 36) (ci 0) 34) 4,o 35 (.assign (.tmp 37)) 4] false)
 (.cond (.tmp 35)
 (.region 5 #[m 38 1 3,m 39 12 34,o 40 (.build 110 #[(0,.tmp 38),(1,.tmp 39)]) 110,o 41 (.makeInterface 110 (.tmp 40)) 20,nd (.panic (.tmp 41))] false)
 (.seq (.region 6 #[m 43 3 3,o 44 (.binOp .gtr 3 (.tmp 43) (ci 16) 3) 4,o 42 (.assign (.tmp 44)) 4] false)
 (.cond (.tmp 42)
 (.region 7 #[m 45 1 3,o 46 (.build 110 #[(0,.tmp 45),(1,.const (.int .i64 12))]) 110,o 47 (.makeInterface 110 (.tmp 46)) 20,nd (.panic (.tmp 47))] false)
 (.seq (.region 8 #[m 49 0 136,o 50 (.nilCheck (.tmp 49)) 0,fa 51 113 50 1,ld 52 51 3,o 53 (.binOp .eql 3 (.tmp 52) (ci 8192) 3) 4,o 48 (.assign (.tmp 53)) 4] false)
 (.cond (.tmp 48)
 (.region 9 #[m 54 1 3,o 55 (.build 110 #[(0,.tmp 54),(1,.const (.int .i64 3))]) 110,o 56 (.makeInterface 110 (.tmp 55)) 20,nd (.panic (.tmp 56))] false)
 .skip)))))))))
 (.seq (.region 10 #[m 57 0 136,o 58 (.nilCheck (.tmp 57)) 0,fa 59 113 58 1,ld 60 59 3,o 61 (.binOp .add 3 (.tmp 60) (ci 1) 3) 3,o 62 (.nilCheck (.tmp 57)) 0,fa 63 113 62 1,nd (.store 3 (.tmp 63) (.tmp 61))] false)
 (.seq (.region 11 #[m 64 1 3,m 65 11 3,o 66 (.binOp .add 3 (.tmp 64) (.tmp 65) 3) 3,o 1 (.assign (.tmp 66)) 3] false)
 (.seq (.region 12 #[m 68 0 136,o 69 (.nilCheck (.tmp 68)) 0,fa 70 113 69 0,ld 71 70 22,m 72 1 3,m 73 2 3,o 74 (.slice 22 (.tmp 71) (some (.tmp 72)) (some (.tmp 73)) none) 22,cl 75 96 #[.tmp 74] #[22] 139,m 67 75 139,o 76 (.extract (.tmp 67) 0) 3,o 77 (.extract (.tmp 67) 1) 3,o 78 (.extract (.tmp 67) 2) 34,o 13 (.assign (.tmp 76)) 3,o 11 (.assign (.tmp 77)) 3,o 12 (.assign (.tmp 78)) 34] false)
 (.seq (.block 1 (.seq (.region 13 #[m 80 12 34,o 81 (.binOp .eql 34 (.tmp 80) (ci 7) 34) 4,o 79 (.assign (.tmp 81)) 4] false)
 (.cond (.tmp 79)
 (.region 14 #[m 82 2 3,m 83 12 34,o 84 (.build 110 #[(0,.tmp 82),(1,.tmp 83)]) 110,o 85 (.makeInterface 110 (.tmp 84)) 20,nd (.panic (.tmp 85))] false)
 (.seq (.region 15 #[m 87 12 34,o 88 (.binOp .neq 34 (.tmp 87) (ci 0) 34) 4,o 86 (.assign (.tmp 88)) 4] false)
 (.cond (.tmp 86)
 (.region 16 #[m 89 1 3,m 90 12 34,o 91 (.build 110 #[(0,.tmp 89),(1,.tmp 90)]) 110,o 92 (.makeInterface 110 (.tmp 91)) 20,nd (.panic (.tmp 92))] false)
 (.seq (.region 17 #[m 94 13 3,m 95 2 3,m 96 1 3,o 97 (.binOp .sub 3 (.tmp 95) (.tmp 96) 3) 3,m 98 11 3,o 99 (.binOp .sub 3 (.tmp 97) (.tmp 98) 3) 3,o 100 (.binOp .gtr 3 (.tmp 94) (.tmp 99) 3) 4,o 93 (.assign (.tmp 100)) 4] false)
 (.cond (.tmp 93)
 (.region 18 #[m 101 2 3,o 102 (.build 110 #[(0,.tmp 101),(1,.const (.int .i64 7))]) 110,o 103 (.makeInterface 110 (.tmp 102)) 20,nd (.panic (.tmp 103))] false)
 .skip)))))))
 (.seq (.region 19 #[m 104 1 3,m 105 11 3,o 106 (.binOp .add 3 (.tmp 104) (.tmp 105) 3) 3,o 1 (.assign (.tmp 106)) 3] false)
 (.seq (.region 20 #[m 107 1 3,m 108 13 3,o 109 (.binOp .add 3 (.tmp 107) (.tmp 108) 3) 3,o 2 (.assign (.tmp 109)) 3] false)
 (.seq (.region 21 #[ld 110 10 27,o 111 (.build 30 #[(0,.tmp 110)]) 30,o 14 (.alloc 30) 0,nd (.store 30 (.tmp 14) (.tmp 111))] false)
 (.seq (.seq (.region 22 #[fa 112 27 10 1,ld 113 112 4,o 114 (.unOp .not 4 (.tmp 113)) 4] false)
 (.cond (.tmp 114)
 (.seq (.region 23 #[m 115 0 136,o 116 (.nilCheck (.tmp 115)) 0,fa 117 113 116 0,ld 118 117 22,m 119 1 3,m 120 2 3,o 121 (.slice 22 (.tmp 118) (some (.tmp 119)) (some (.tmp 120)) none) 22,cl 122 98 #[.tmp 121] #[22] 22,cl 123 97 #[.tmp 122] #[22] 22,fa 124 30 14 1,nd (.store 22 (.tmp 124) (.tmp 123))] false)
 (.seq (.region 24 #[ld 125 14 30,m 126 2 3,nd (.store 30 (.tmp 8) (.tmp 125)),o 9 (.assign (.tmp 126)) 3] false)
 .ret))
 .skip))
 (.seq (.block 2 (.loop (.seq (.seq (.region 25 #[m 127 1 3,m 128 2 3,o 129 (.binOp .lss 3 (.tmp 127) (.tmp 128) 3) 4] false)
 (.cond (.tmp 129)
 .skip
 (.exit 2)))
 (.block 3 (.seq (.region 26 #[o 15 (.alloc 30) 0] false)
 (.seq (.region 27 #[m 131 0 136,m 132 1 3,m 133 2 3,m 134 3 3,o 135 (.binOp .add 3 (.tmp 134) (ci 1) 3) 3,cl 136 73 #[.tmp 131,.tmp 132,.tmp 133,.tmp 135] #[136,3,3,3] 114,m 130 136 114,o 137 (.extract (.tmp 130) 0) 30,o 138 (.extract (.tmp 130) 1) 3,nd (.store 30 (.tmp 15) (.tmp 137)),o 1 (.assign (.tmp 138)) 3] false)
 (.region 28 #[fa 139 30 14 2,ld 140 139 28,ld 141 15 30,o 142 (.buildSlice 28 1 #[(0,.tmp 141)]) 28,o 143 (.call { callee:=.builtin .append,args:=#[.tmp 140,.tmp 142],argTypes:=#[28,28] }) 28,fa 144 30 14 2,nd (.store 28 (.tmp 144) (.tmp 143))] false)))))))
 (.seq (.region 29 #[fa 145 30 14 2,ld 146 145 28,cl 147 99 #[.tmp 146] #[28] 28,fa 148 30 14 2,nd (.store 28 (.tmp 148) (.tmp 147))] false)
 (.seq (.region 30 #[ld 149 14 30,m 150 2 3,nd (.store 30 (.tmp 8) (.tmp 149)),o 9 (.assign (.tmp 150)) 3] false)
 .ret))))))))))))))
def kp73:Nat → Option (List Nat)
  | 0 => some [0,1,2,3,8]
  | 1 => some [0,1,2,3,8,10,11,12]
  | 2 => some [0,1,2,3,8,10,11,12,28]
  | 3 => some [0,1,2,3,8,10,11]
  | 4 => some [0,1,2,3,8,10,11,12,35]
  | 5 => some [0,1,2,3,8,10,11]
  | 6 => some [0,1,2,3,8,10,11,42]
  | 7 => some [0,1,2,3,8,10,11]
  | 8 => some [0,1,2,3,8,10,11,48]
  | 9 => some [0,1,2,3,8,10,11]
  | 10 => some [0,1,2,3,8,10,11]
  | 11 => some [0,1,2,3,8,10]
  | 12 => some [0,1,2,3,8,10,11,12,13]
  | 13 => some [0,1,2,3,8,10,11,12,13,79]
  | 14 => some [0,1,3,8,10,11,13]
  | 15 => some [0,1,2,3,8,10,11,12,13,86]
  | 16 => some [0,1,3,8,10,11,13]
  | 17 => some [0,1,2,3,8,10,11,13,93]
  | 18 => some [0,1,3,8,10,11,13]
  | 19 => some [0,1,3,8,10,13]
  | 20 => some [0,1,2,3,8,10]
  | 21 => some [0,1,2,3,8,10,14]
  | 22 => some [0,1,2,3,8,14,114]
  | 23 => some [2,8,14]
  | 24 => some [8,9]
  | 25 => some [0,1,2,3,8,14,129]
  | 26 => some [0,1,2,3,8,14,15]
  | 27 => some [0,1,2,3,8,14,15]
  | 28 => some [0,1,2,3,8,14]
  | 29 => some [2,8,14]
  | 30 => some [8,9]
  | _ => none
def fn73:AFn:={ ntmps:=151,results:=[.cell 8 30,.tmp 9],body:=c73,keep:=kp73,head:=fun | 25 => some [0,1,2,3,8,14] | _ => none,opn:=opnT,dyn:=fun _ => [] }
def c74:Code :=
  (.seq (.region 0 #[o 1 (.box 30 (.tmp 0)) 0,o 2 (.alloc 30) 0] false)
 (.seq (.region 1 #[fa 6 30 1 0,ld 7 6 27,fa 8 30 1 1,ld 9 8 22,cl 10 98 #[.tmp 9] #[22] 22,cl 11 97 #[.tmp 10] #[22] 22,o 12 (.build 30 #[(0,.tmp 7),(1,.tmp 11)]) 30,o 3 (.alloc 30) 0,nd (.store 30 (.tmp 3) (.tmp 12))] true)
 (.seq (.seq (.region 2 #[fa 13 30 1 2,ld 14 13 28,o 15 (.call { callee:=.builtin .len,args:=#[.tmp 14],argTypes:=#[28] }) 3,o 16 (.binOp .gtr 3 (.tmp 15) (ci 0) 3) 4] false)
 (.cond (.tmp 16)
 (.region 3 #[fa 17 30 1 2,ld 18 17 28,o 19 (.call { callee:=.builtin .len,args:=#[.tmp 18],argTypes:=#[28] }) 3,o 20 (.makeSlice 28 (.tmp 19) (.tmp 19)) 28,fa 21 30 3 2,nd (.store 28 (.tmp 21) (.tmp 20))] false)
 .skip))
 (.seq (.seq (.region 4 #[fa 22 30 1 2,ld 23 22 28,o 24 (.call { callee:=.builtin .len,args:=#[.tmp 23],argTypes:=#[28] }) 3,o 25 (.move (ci 0)) 3] false)
 (.block 0 (.loop (.seq (.region 5 #[o 26 (.binOp .lss 3 (.tmp 25) (.tmp 24) 3) 0] false)
 (.seq (.cond (.tmp 26)
 .skip
 (.exit 0))
 (.seq (.block 1 (.seq (.region 6 #[m 27 25 3,o 28 (.indexAddr 28 (.tmp 23) (.tmp 25)) 0,ld 29 28 30,o 5 (.alloc 30) 0,o 4 (.assign (.tmp 27)) 3,nd (.store 30 (.tmp 5) (.tmp 29))] false)
 (.region 7 #[fa 30 30 3 2,ld 31 30 28,m 32 4 3,ld 33 5 30,cl 34 74 #[.tmp 33] #[30] 30,o 35 (.indexAddr 28 (.tmp 31) (.tmp 32)) 0,nd (.store 30 (.tmp 35) (.tmp 34))] true)))
 (.region 8 #[o 36 (.binOp .add 3 (.tmp 25) (ci 1) 3) 3,m 25 36 3] false)))))))
 (.seq (.region 9 #[ld 37 3 30,nd (.store 30 (.tmp 2) (.tmp 37))] false)
 .ret)))))
def kp74:Nat → Option (List Nat)
  | 0 => some [1,2]
  | 1 => some [1,2,3]
  | 2 => some [1,2,3,16]
  | 3 => some [1,2,3]
  | 4 => some [2,3,23,24,25]
  | 5 => some [2,3,23,24,25,26]
  | 6 => some [2,3,4,5,23,24,25]
  | 7 => some [2,3,23,24,25]
  | 8 => some [2,3,23,24,25]
  | 9 => some [2]
  | _ => none
def fn74:AFn:={ ntmps:=38,results:=[.cell 2 30],body:=c74,keep:=kp74,head:=fun | 5 => some [2,3,23,24,25] | _ => none,opn:=fun _ => none,dyn:=fun _ => [] }
def c75:Code :=
  (.seq (.region 0 #[o 1 (.box 30 (.tmp 0)) 0,o 2 (.assign (ci 0)) 34,o 3 (.alloc 3) 0,o 4 (.alloc 3) 0] false)
 (.seq (.region 1 #[ld 5 1 30,o 6 (.makeFunc (.func 101) #[] #[.tmp 3,.tmp 4]) 145,cl 7 100 #[.tmp 5,.tmp 6] #[30,145] 34,o 2 (.assign (.tmp 7)) 34] false)
 (.seq (.seq (.region 2 #[m 8 2 34,o 9 (.binOp .neq 34 (.tmp 8) (ci 0) 34) 4] false)
 (.cond (.tmp 9)
 (.seq (.region 3 #[m 10 2 34,o 2 (.assign (.tmp 10)) 34,nd (.store 3 (.tmp 3) (ci 0)),nd (.store 3 (.tmp 4) (ci 0))] false)
 .ret)
 .skip))
 (.seq (.region 4 #[ld 11 3 3,ld 12 4 3,o 2 (.assign (ci 0)) 34,nd (.store 3 (.tmp 3) (.tmp 11)),nd (.store 3 (.tmp 4) (.tmp 12))] true)
 .ret))))
def kp75:Nat → Option (List Nat)
  | 0 => some [1,3,4]
  | 1 => some [2,3,4]
  | 2 => some [2,3,4,9]
  | 3 => some [2,3,4]
  | 4 => some [2,3,4]
  | _ => none
def fn75:AFn:={ ntmps:=13,results:=[.tmp 2,.cell 3 3,.cell 4 3],body:=c75,keep:=kp75,head:=fun  | _ => none,opn:=opnT,dyn:=fun | 4 => [(1,3)] | _ => [] }
def c76:Code :=
  (.seq (.region 0 #[o 1 (.box 27 (.tmp 0)) 0,o 2 (.assign (.const (.slice none 0 0))) 22] false)
 (.seq (.region 1 #[fa 4 27 1 0,ld 5 4 24,o 6 (.convert 24 3 (.tmp 5)) 3,o 7 (.binOp .mul 3 (ci 64) (.tmp 6) 3) 3,o 3 (.assign (.tmp 7)) 3] false)
 (.seq (.seq (.region 2 #[fa 8 27 1 1,ld 9 8 4] false)
 (.cond (.tmp 9)
 (.region 3 #[m 10 3 3,o 11 (.binOp .add 3 (.tmp 10) (ci 32) 3) 3,o 3 (.assign (.tmp 11)) 3] false)
 .skip))
 (.seq (.seq (.region 4 #[fa 12 27 1 2,ld 13 12 25,o 14 (.binOp .lss 25 (.tmp 13) (.const (.int .u32 31)) 25) 4] false)
 (.cond (.tmp 14)
 (.seq (.region 5 #[m 15 3 3,fa 16 27 1 2,ld 17 16 25,o 18 (.convert 25 3 (.tmp 17)) 3,o 19 (.binOp .add 3 (.tmp 15) (.tmp 18) 3) 3,o 20 (.convert 3 5 (.tmp 19)) 5,o 21 (.buildSlice 22 1 #[(0,.tmp 20)]) 22,o 2 (.assign (.tmp 21)) 22] false)
 .ret)
 .skip))
 (.seq (.region 6 #[m 22 3 3,o 23 (.binOp .add 3 (.tmp 22) (ci 31) 3) 3,o 24 (.convert 3 5 (.tmp 23)) 5,o 25 (.buildSlice 22 1 #[(0,.tmp 24)]) 22,fa 26 27 1 2,ld 27 26 25,o 28 (.convert 25 3 (.tmp 27)) 3,cl 29 103 #[.tmp 28] #[3] 22,o 30 (.call { callee:=.builtin .append,args:=#[.tmp 25,.tmp 29],argTypes:=#[22,22] }) 22,o 2 (.assign (.tmp 30)) 22] false)
 .ret)))))
def kp76:Nat → Option (List Nat)
  | 0 => some [1]
  | 1 => some [1,3]
  | 2 => some [1,3,9]
  | 3 => some [1,3]
  | 4 => some [1,3,14]
  | 5 => some [2]
  | 6 => some [2]
  | _ => none
def fn76:AFn:={ ntmps:=31,results:=[.tmp 2],body:=c76,keep:=kp76,head:=fun  | _ => none,opn:=fun _ => none,dyn:=fun _ => [] }
def c77:Code :=
  (.seq (.region 0 #[o 2 (.assign (.const (.slice none 0 0))) 22] false)
 (.seq (.seq (.region 1 #[m 4 0 3,o 5 (.binOp .lss 3 (.tmp 4) (ci 128) 3) 4] false)
 (.cond (.tmp 5)
 (.seq (.region 2 #[m 6 0 3,o 7 (.convert 3 5 (.tmp 6)) 5,o 8 (.buildSlice 22 1 #[(0,.tmp 7)]) 22,o 2 (.assign (.tmp 8)) 22] false)
 .ret)
 .skip))
 (.seq (.region 3 #[o 3 (.assign (.const (.slice none 0 0))) 22] false)
 (.seq (.block 0 (.loop (.seq (.seq (.region 4 #[m 9 0 3,o 10 (.binOp .gtr 3 (.tmp 9) (ci 0) 3) 4] false)
 (.cond (.tmp 10)
 .skip
 (.exit 0)))
 (.block 1 (.seq (.region 5 #[m 11 0 3,o 12 (.binOp .rem 3 (.tmp 11) (ci 256) 3) 3,o 13 (.convert 3 5 (.tmp 12)) 5,o 14 (.buildSlice 22 1 #[(0,.tmp 13)]) 22,m 15 3 22,o 16 (.call { callee:=.builtin .append,args:=#[.tmp 14,.tmp 15],argTypes:=#[22,22] }) 22,o 3 (.assign (.tmp 16)) 22] false)
 (.region 6 #[m 17 0 3,o 18 (.binOp .quo 3 (.tmp 17) (ci 256) 3) 3,o 0 (.assign (.tmp 18)) 3] false))))))
 (.seq (.region 7 #[m 19 3 22,o 20 (.call { callee:=.builtin .len,args:=#[.tmp 19],argTypes:=#[22] }) 3,o 21 (.binOp .add 3 (ci 128) (.tmp 20) 3) 3,o 22 (.convert 3 5 (.tmp 21)) 5,o 23 (.buildSlice 22 1 #[(0,.tmp 22)]) 22,m 24 3 22,o 25 (.call { callee:=.builtin .append,args:=#[.tmp 23,.tmp 24],argTypes:=#[22,22] }) 22,o 2 (.assign (.tmp 25)) 22] false)
 .ret)))))
def kp77:Nat → Option (List Nat)
  | 0 => some [0]
  | 1 => some [0,5]
  | 2 => some [2]
  | 3 => some [0,3]
  | 4 => some [0,3,10]
  | 5 => some [0,3]
  | 6 => some [0,3]
  | 7 => some [2]
  | _ => none
def fn77:AFn:={ ntmps:=26,results:=[.tmp 2],body:=c77,keep:=kp77,head:=fun | 4 => some [0,3] | _ => none,opn:=fun _ => none,dyn:=fun _ => [] }
def c78:Code :=
  (.seq (.region 0 #[o 2 (.box 30 (.tmp 0)) 0,o 3 (.box 30 (.tmp 1)) 0,o 4 (.assign (.const (.bool false))) 4] false)
 (.seq (.region 1 #[fa 5 30 2 0,ld 6 5 27,fa 7 30 3 0,ld 8 7 27,o 9 (.binOp .eql 27 (.tmp 6) (.tmp 8) 27) 4,m 10 9 4,gd 11 (.fieldAddr 30 (.tmp 2) 1) 0 10 true,gd 12 (.load 22 (.tmp 11)) 22 10 true,gd 13 (.fieldAddr 30 (.tmp 3) 1) 0 10 true,gd 14 (.load 22 (.tmp 13)) 22 10 true,gd 15 (.call { callee:=.value (.func 104),args:=#[.tmp 12,.tmp 14],argTypes:=#[22,22] }) 4 10 true,o 16 (.pick (.tmp 10) (.tmp 15) (.const (.bool false))) 4,m 17 16 4,gd 18 (.fieldAddr 30 (.tmp 2) 2) 0 17 true,gd 19 (.load 28 (.tmp 18)) 28 17 true,gd 20 (.fieldAddr 30 (.tmp 3) 2) 0 17 true,gd 21 (.load 28 (.tmp 20)) 28 17 true,gd 22 (.call { callee:=.value (.func 105),args:=#[.tmp 19,.tmp 21,.func 78],argTypes:=#[28,28,45] }) 4 17 true,o 23 (.pick (.tmp 17) (.tmp 22) (.const (.bool false))) 4,o 4 (.assign (.tmp 23)) 4] false)
 .ret))
def kp78:Nat → Option (List Nat)
  | 0 => some [2,3]
  | 1 => some [4]
  | _ => none
def fn78:AFn:={ ntmps:=24,results:=[.tmp 4],body:=c78,keep:=kp78,head:=fun  | _ => none,opn:=opnT,dyn:=fun _ => [] }
def c79:Code :=
  (.seq (.region 0 #[o 4 (.assign (ci 0)) 3] false)
 (.seq (.region 1 #[m 5 0 22,m 6 1 22,cl 7 106 #[.tmp 5,.tmp 6] #[22,22] 3,o 4 (.assign (.tmp 7)) 3] false)
 .ret))
def kp79:Nat → Option (List Nat)
  | 0 => some [0,1]
  | 1 => some [4]
  | _ => none
def fn79:AFn:={ ntmps:=8,results:=[.tmp 4],body:=c79,keep:=kp79,head:=fun  | _ => none,opn:=fun _ => none,dyn:=fun _ => [] }
def c80:Code :=
  (.seq (.region 0 #[o 1 (.box 27 (.tmp 0)) 0,o 2 (.assign (ci 0)) 3] false)
 (.seq (.seq (.region 1 #[fa 3 27 1 0,ld 4 3 24,o 5 (.binOp .gtr 24 (.tmp 4) (.const (.int .u8 3)) 24) 4,m 6 5 4,gd 7 (.fieldAddr 27 (.tmp 1) 2) 0 6 false,gd 8 (.load 25 (.tmp 7)) 25 6 false,gd 9 (.binOp .gtr 25 (.tmp 8) (.const (.int .u32 268435455)) 25) 4 6 false,o 10 (.pick (.tmp 6) (.const (.bool true)) (.tmp 9)) 4] false)
 (.cond (.tmp 10)
 (.seq (.region 2 #[o 2 (.assign (ci 1)) 3] false)
 .ret)
 .skip))
 (.seq (.seq (.region 3 #[fa 11 27 1 0,ld 12 11 24,o 13 (.binOp .eql 24 (.tmp 12) (.const (.int .u8 0)) 24) 4,m 14 13 4,gd 15 (.fieldAddr 27 (.tmp 1) 2) 0 14 true,gd 16 (.load 25 (.tmp 15)) 25 14 true,gd 17 (.binOp .eql 25 (.tmp 16) (.const (.int .u32 0)) 25) 4 14 true,gd 18 (.move (.tmp 17)) 4 14 true,gd 19 (.fieldAddr 27 (.tmp 1) 1) 0 18 false,gd 20 (.load 4 (.tmp 19)) 4 18 false,gd 21 (.unOp .not 4 (.tmp 20)) 4 18 false,gd 22 (.move (.tmp 21)) 4 18 false,gd 23 (.fieldAddr 27 (.tmp 1) 2) 0 22 true,gd 24 (.load 25 (.tmp 23)) 25 22 true,gd 25 (.binOp .eql 25 (.tmp 24) (.const (.int .u32 16)) 25) 4 22 true,gd 26 (.move (.tmp 25)) 4 22 true,gd 27 (.fieldAddr 27 (.tmp 1) 2) 0 26 false,gd 28 (.load 25 (.tmp 27)) 25 26 false,gd 29 (.binOp .eql 25 (.tmp 28) (.const (.int .u32 17)) 25) 4 26 false,gd 30 (.pick (.tmp 26) (.const (.bool true)) (.tmp 29)) 4 22 true,gd 31 (.pick (.tmp 22) (.tmp 30) (.const (.bool false))) 4 18 false,gd 32 (.pick (.tmp 18) (.const (.bool true)) (.tmp 31)) 4 14 true,o 33 (.pick (.tmp 14) (.tmp 32) (.const (.bool false))) 4] false)
 (.cond (.tmp 33)
 (.seq (.region 4 #[o 2 (.assign (ci 9)) 3] false)
 .ret)
 .skip))
 (.seq (.region 5 #[o 2 (.assign (ci 0)) 3] false)
 .ret))))
def kp80:Nat → Option (List Nat)
  | 0 => some [1]
  | 1 => some [1,10]
  | 2 => some [2]
  | 3 => some [33]
  | 4 => some [2]
  | 5 => some [2]
  | _ => none
def fn80:AFn:={ ntmps:=34,results:=[.tmp 2],body:=c80,keep:=kp80,head:=fun  | _ => none,opn:=fun _ => none,dyn:=fun _ => [] }
def c81:Code :=
  (.seq (.region 0 #[o 6 (.assign (.const (.slice none 0 0))) 28,o 7 (.assign (ci 0)) 3] false)
 (.seq (.region 1 #[o 8 (.assign (.const (.slice none 0 0))) 28] false)
 (.seq (.block 0 (.loop (.seq (.seq (.region 2 #[m 11 1 3,m 12 0 22,o 13 (.call { callee:=.builtin .len,args:=#[.tmp 12],argTypes:=#[22] }) 3,o 14 (.binOp .lss 3 (.tmp 11) (.tmp 13) 3) 4,m 15 14 4,gd 16 (.move (.tmp 1)) 3 15 true,gd 17 (.binOp .lss 3 (.tmp 16) (ci 40) 3) 4 15 true,o 18 (.pick (.tmp 15) (.tmp 17) (.const (.bool false))) 4] false)
 (.cond (.tmp 18)
 .skip
 (.exit 0)))
 (.block 1 (.seq (.region 3 #[m 19 0 22,m 20 1 3,o 21 (.indexAddr 22 (.tmp 19) (.tmp 20)) 0,ld 22 21 5,o 9 (.assign (.tmp 22)) 5] false)
 (.seq (.region 4 #[m 23 1 3,o 24 (.binOp .add 3 (.tmp 23) (ci 1) 3) 3,o 1 (.assign (.tmp 24)) 3] false)
 (.seq (.seq (.region 5 #[m 25 9 5,o 26 (.binOp .rem 5 (.tmp 25) (.const (.int .u8 16)) 5) 5,o 27 (.binOp .eql 5 (.tmp 26) (.const (.int .u8 15)) 5) 4] false)
 (.cond (.tmp 27)
 (.seq (.region 6 #[m 28 8 28,m 29 1 3,o 6 (.assign (.tmp 28)) 28,o 7 (.assign (.tmp 29)) 3] false)
 .ret)
 .skip))
 (.seq (.region 7 #[m 30 9 5,cl 31 44 #[.tmp 30] #[5] 27,o 32 (.build 30 #[(0,.tmp 31)]) 30,o 10 (.alloc 30) 0,nd (.store 30 (.tmp 10) (.tmp 32))] false)
 (.seq (.seq (.region 8 #[fa 33 30 10 0,fa 34 27 33 1,ld 35 34 4] false)
 (.cond (.tmp 35)
 (.seq (.seq (.region 9 #[m 36 2 3,o 37 (.binOp .eql 3 (.tmp 36) (ci 5) 3) 4] false)
 (.cond (.tmp 37)
 (.exit 1)
 .skip))
 (.region 10 #[m 39 0 22,m 40 1 3,m 41 2 3,o 42 (.binOp .add 3 (.tmp 41) (ci 1) 3) 3,cl 43 81 #[.tmp 39,.tmp 40,.tmp 42] #[22,3,3] 122,m 38 43 122,o 44 (.extract (.tmp 38) 0) 28,o 45 (.extract (.tmp 38) 1) 3,fa 46 30 10 2,nd (.store 28 (.tmp 46) (.tmp 44)),o 1 (.assign (.tmp 45)) 3] false))
 (.seq (.region 11 #[fa 47 30 10 0,fa 48 27 47 0,ld 49 48 24,o 50 (.binOp .eql 24 (.tmp 49) (.const (.int .u8 0)) 24) 4,m 51 50 4,gd 52 (.fieldAddr 30 (.tmp 10) 0) 0 51 true,gd 53 (.fieldAddr 27 (.tmp 52) 2) 0 51 true,gd 54 (.load 25 (.tmp 53)) 25 51 true,gd 55 (.binOp .eql 25 (.tmp 54) (.const (.int .u32 1)) 25) 4 51 true,o 56 (.pick (.tmp 51) (.tmp 55) (.const (.bool false))) 4] false)
 (.cond (.tmp 56)
 (.region 12 #[⟨some 57,.buildSlice 22 1 #[(0,.const (.int .u8 255))],22, "",fz,none⟩,fa 58 30 10 1,nd (.store 22 (.tmp 58) (.tmp 57))] false)
 (.seq (.region 13 #[fa 59 30 10 0,fa 60 27 59 0,ld 61 60 24,o 62 (.binOp .eql 24 (.tmp 61) (.const (.int .u8 0)) 24) 4,m 63 62 4,gd 64 (.fieldAddr 30 (.tmp 10) 0) 0 63 true,gd 65 (.fieldAddr 27 (.tmp 64) 2) 0 63 true,gd 66 (.load 25 (.tmp 65)) 25 63 true,gd 67 (.binOp .eql 25 (.tmp 66) (.const (.int .u32 2)) 25) 4 63 true,o 68 (.pick (.tmp 63) (.tmp 67) (.const (.bool false))) 4] false)
 (.cond (.tmp 68)
 (.region 14 #[m 69 9 5,o 70 (.binOp .quo 5 (.tmp 69) (.const (.int .u8 8)) 5) 5,⟨some 71,.buildSlice 22 1 #[(0,.tmp 70)],22, "",fz,none⟩,fa 72 30 10 1,nd (.store 22 (.tmp 72) (.tmp 71))] false)
 (.region 15 #[m 73 9 5,o 74 (.convert 5 3 (.tmp 73)) 3,m 75 9 5,o 76 (.binOp .quo 5 (.tmp 75) (.const (.int .u8 64)) 5) 5,o 77 (.convert 5 3 (.tmp 76)) 3,o 78 (.binOp .mul 3 (.tmp 74) (.tmp 77) 3) 3,⟨some 79,.makeSlice 22 (.tmp 78) (.tmp 78),22, "",fz,none⟩,fa 80 30 10 1,nd (.store 22 (.tmp 80) (.tmp 79))] false)))))))
 (.region 16 #[m 81 8 28,ld 82 10 30,o 83 (.buildSlice 28 1 #[(0,.tmp 82)]) 28,o 84 (.call { callee:=.builtin .append,args:=#[.tmp 81,.tmp 83],argTypes:=#[28,28] }) 28,o 8 (.assign (.tmp 84)) 28] false))))))))))
 (.seq (.region 17 #[m 85 8 28,m 86 1 3,o 6 (.assign (.tmp 85)) 28,o 7 (.assign (.tmp 86)) 3] false)
 .ret))))
def kp81:Nat → Option (List Nat)
  | 0 => some [0,1,2]
  | 1 => some [0,1,2,8]
  | 2 => some [0,1,2,8,18]
  | 3 => some [0,1,2,8,9]
  | 4 => some [0,1,2,8,9]
  | 5 => some [0,1,2,8,9,27]
  | 6 => some [6,7]
  | 7 => some [0,1,2,8,9,10]
  | 8 => some [0,1,2,8,9,10,35]
  | 9 => some [0,1,2,8,10,37]
  | 10 => some [0,1,2,8,10]
  | 11 => some [0,1,2,8,9,10,56]
  | 12 => some [0,1,2,8,10]
  | 13 => some [0,1,2,8,9,10,68]
  | 14 => some [0,1,2,8,10]
  | 15 => some [0,1,2,8,10]
  | 16 => some [0,1,2,8]
  | 17 => some [6,7]
  | _ => none
def fn81:AFn:={ ntmps:=87,results:=[.tmp 6,.tmp 7],body:=c81,keep:=kp81,head:=fun | 2 => some [0,1,2,8] | _ => none,opn:=fun _ => none,dyn:=fun | 1000000 => [(57,0),(71,0),(79,0)] | _ => [] }
def c82:Code :=
  (.seq (.region 0 #[o 4 (.alloc 71) 0] false)
 (.seq (.region 1 #[m 5 1 47,cl 6 107 #[.tmp 5] #[47] 47,m 7 0 34,o 8 (.build 71 #[(0,.tmp 6),(1,.tmp 7)]) 71,nd (.store 71 (.tmp 4) (.tmp 8))] false)
 .ret))
def kp82:Nat → Option (List Nat)
  | 0 => some [0,1,4]
  | 1 => some [4]
  | _ => none
def fn82:AFn:={ ntmps:=9,results:=[.cell 4 71],body:=c82,keep:=kp82,head:=fun  | _ => none,opn:=fun _ => none,dyn:=fun _ => [] }
def c83:Code :=
  (.seq (.region 0 #[o 2 (.box 78 (.tmp 0)) 0,o 3 (.box 30 (.tmp 1)) 0,o 4 (.assign (.const (.bool false))) 4] false)
 (.seq (.region 1 #[fa 5 78 2 1,ld 6 5 4,m 7 6 4,gd 8 (.fieldAddr 78 (.tmp 2) 0) 0 7 false,gd 9 (.load 27 (.tmp 8)) 27 7 false,gd 10 (.fieldAddr 30 (.tmp 3) 0) 0 7 false,gd 11 (.load 27 (.tmp 10)) 27 7 false,gd 12 (.binOp .eql 27 (.tmp 9) (.tmp 11) 27) 4 7 false,o 13 (.pick (.tmp 7) (.const (.bool true)) (.tmp 12)) 4,o 4 (.assign (.tmp 13)) 4] false)
 .ret))
def kp83:Nat → Option (List Nat)
  | 0 => some [2,3]
  | 1 => some [4]
  | _ => none
def fn83:AFn:={ ntmps:=14,results:=[.tmp 4],body:=c83,keep:=kp83,head:=fun  | _ => none,opn:=fun _ => none,dyn:=fun _ => [] }
def c84:Code :=
  (.seq (.region 0 #[o 1 (.box 30 (.tmp 0)) 0,o 2 (.assign (.const (.slice none 0 0))) 22] false)
 (.seq (.region 1 #[fa 10 30 1 1,ld 11 10 22,o 12 (.call { callee:=.builtin .append,args:=#[.const (.slice none 0 0),.tmp 11],argTypes:=#[22,22] }) 22,o 3 (.assign (.tmp 12)) 22] false)
 (.seq (.seq (.region 2 #[o 4 (.assign (ci 0)) 3] false)
 (.block 0 (.loop (.seq (.seq (.region 3 #[m 13 4 3,fa 14 30 1 2,ld 15 14 28,o 16 (.call { callee:=.builtin .len,args:=#[.tmp 15],argTypes:=#[28] }) 3,o 17 (.binOp .lss 3 (.tmp 13) (.tmp 16) 3) 4] false)
 (.cond (.tmp 17)
 .skip
 (.exit 0)))
 (.seq (.block 1 (.region 5 #[m 20 3 22,fa 21 30 1 2,ld 22 21 28,m 23 4 3,o 24 (.indexAddr 28 (.tmp 22) (.tmp 23)) 0,ld 25 24 30,cl 26 84 #[.tmp 25] #[30] 22,o 27 (.call { callee:=.builtin .append,args:=#[.tmp 20,.tmp 26],argTypes:=#[22,22] }) 22,o 3 (.assign (.tmp 27)) 22] false))
 (.region 4 #[m 18 4 3,o 19 (.binOp .add 3 (.tmp 18) (ci 1) 3) 3,o 4 (.assign (.tmp 19)) 3] false))))))
 (.seq (.region 6 #[fa 28 30 1 0,fa 29 27 28 0,ld 30 29 24,o 31 (.binOp .mul 5 (.tmp 30) (.const (.int .u8 64)) 5) 5,o 5 (.assign (.tmp 31)) 5] false)
 (.seq (.seq (.region 7 #[fa 32 30 1 0,fa 33 27 32 1,ld 34 33 4] false)
 (.cond (.tmp 34)
 (.region 8 #[m 35 5 5,o 36 (.binOp .add 5 (.tmp 35) (.const (.int .u8 32)) 5) 5,o 5 (.assign (.tmp 36)) 5] false)
 .skip))
 (.seq (.region 9 #[m 37 5 5,fa 38 30 1 0,fa 39 27 38 2,ld 40 39 25,o 41 (.call { callee:=.builtin .min,args:=#[.tmp 40,.const (.int .u32 31)],argTypes:=#[25,25] }) 25,o 42 (.convert 25 5 (.tmp 41)) 5,o 43 (.binOp .add 5 (.tmp 37) (.tmp 42) 5) 5,o 44 (.buildSlice 22 1 #[(0,.tmp 43)]) 22,o 6 (.assign (.tmp 44)) 22] false)
 (.seq (.seq (.region 10 #[fa 45 30 1 0,fa 46 27 45 2,ld 47 46 25,o 48 (.binOp .gtr 25 (.tmp 47) (.const (.int .u32 30)) 25) 4] false)
 (.cond (.tmp 48)
 (.region 11 #[m 49 6 22,fa 50 30 1 0,fa 51 27 50 2,ld 52 51 25,cl 53 108 #[.tmp 52] #[25] 22,o 54 (.call { callee:=.builtin .append,args:=#[.tmp 49,.tmp 53],argTypes:=#[22,22] }) 22,o 6 (.assign (.tmp 54)) 22] false)
 .skip))
 (.seq (.region 12 #[m 55 3 22,o 56 (.call { callee:=.builtin .len,args:=#[.tmp 55],argTypes:=#[22] }) 3,o 7 (.assign (.tmp 56)) 3] false)
 (.seq (.seq (.region 13 #[m 57 7 3,o 58 (.binOp .lss 3 (.tmp 57) (ci 128) 3) 4] false)
 (.cond (.tmp 58)
 (.region 14 #[m 59 6 22,m 60 7 3,o 61 (.convert 3 5 (.tmp 60)) 5,o 62 (.buildSlice 22 1 #[(0,.tmp 61)]) 22,o 63 (.call { callee:=.builtin .append,args:=#[.tmp 59,.tmp 62],argTypes:=#[22,22] }) 22,o 6 (.assign (.tmp 63)) 22] false)
 (.seq (.region 15 #[o 8 (.assign (.const (.slice none 0 0))) 22] false)
 (.seq (.seq (.region 16 #[m 64 7 3,o 9 (.assign (.tmp 64)) 3] false)
 (.block 2 (.loop (.seq (.seq (.region 17 #[m 65 9 3,o 66 (.binOp .gtr 3 (.tmp 65) (ci 0) 3) 4] false)
 (.cond (.tmp 66)
 .skip
 (.exit 2)))
 (.seq (.block 3 (.region 19 #[m 69 9 3,o 70 (.binOp .rem 3 (.tmp 69) (ci 256) 3) 3,o 71 (.convert 3 5 (.tmp 70)) 5,o 72 (.buildSlice 22 1 #[(0,.tmp 71)]) 22,m 73 8 22,o 74 (.call { callee:=.builtin .append,args:=#[.tmp 72,.tmp 73],argTypes:=#[22,22] }) 22,o 8 (.assign (.tmp 74)) 22] false))
 (.region 18 #[m 67 9 3,o 68 (.binOp .quo 3 (.tmp 67) (ci 256) 3) 3,o 9 (.assign (.tmp 68)) 3] false))))))
 (.seq (.region 20 #[m 75 6 22,m 76 8 22,o 77 (.call { callee:=.builtin .len,args:=#[.tmp 76],argTypes:=#[22] }) 3,o 78 (.binOp .add 3 (ci 128) (.tmp 77) 3) 3,o 79 (.convert 3 5 (.tmp 78)) 5,o 80 (.buildSlice 22 1 #[(0,.tmp 79)]) 22,o 81 (.call { callee:=.builtin .append,args:=#[.tmp 75,.tmp 80],argTypes:=#[22,22] }) 22,o 6 (.assign (.tmp 81)) 22] false)
 (.region 21 #[m 82 6 22,m 83 8 22,o 84 (.call { callee:=.builtin .append,args:=#[.tmp 82,.tmp 83],argTypes:=#[22,22] }) 22,o 6 (.assign (.tmp 84)) 22] false))))))
 (.seq (.region 22 #[m 85 6 22,m 86 3 22,o 87 (.call { callee:=.builtin .append,args:=#[.tmp 85,.tmp 86],argTypes:=#[22,22] }) 22,o 2 (.assign (.tmp 87)) 22] false)
 .ret))))))))))
def kp84:Nat → Option (List Nat)
  | 0 => some [1]
  | 1 => some [1,3]
  | 2 => some [1,3,4]
  | 3 => some [1,3,4,17]
  | 4 => some [1,3,4]
  | 5 => some [1,3,4]
  | 6 => some [1,3,5]
  | 7 => some [1,3,5,34]
  | 8 => some [1,3,5]
  | 9 => some [1,3,6]
  | 10 => some [1,3,6,48]
  | 11 => some [3,6]
  | 12 => some [3,6,7]
  | 13 => some [3,6,7,58]
  | 14 => some [3,6]
  | 15 => some [3,6,7,8]
  | 16 => some [3,6,8,9]
  | 17 => some [3,6,8,9,66]
  | 18 => some [3,6,8,9]
  | 19 => some [3,6,8,9]
  | 20 => some [3,6,8]
  | 21 => some [3,6]
  | 22 => some [2]
  | _ => none
def fn84:AFn:={ ntmps:=88,results:=[.tmp 2],body:=c84,keep:=kp84,head:=fun | 3 => some [1,3,4] | 17 => some [3,6,8,9] | _ => none,opn:=fun _ => none,dyn:=fun _ => [] }
def c85:Code :=
  (.seq (.region 0 #[o 2 (.box 30 (.tmp 0)) 0,o 4 (.alloc 30) 0,o 5 (.assign (.const (.bool false))) 4] false)
 (.seq (.seq (.region 1 #[m 6 1 3,o 7 (.binOp .lss 3 (.tmp 6) (ci 0) 3) 4,m 8 7 4,gd 9 (.move (.tmp 1)) 3 8 false,gd 10 (.fieldAddr 30 (.tmp 2) 2) 0 8 false,gd 11 (.load 28 (.tmp 10)) 28 8 false,gd 12 (.call { callee:=.builtin .len,args:=#[.tmp 11],argTypes:=#[28] }) 3 8 false,gd 13 (.binOp .geq 3 (.tmp 9) (.tmp 12) 3) 4 8 false,o 14 (.pick (.tmp 8) (.const (.bool true)) (.tmp 13)) 4] false)
 (.cond (.tmp 14)
 (.seq (.region 2 #[o 15 (.build 30 #[]) 30,nd (.store 30 (.tmp 4) (.tmp 15)),o 5 (.assign (.const (.bool false))) 4] false)
 .ret)
 .skip))
 (.seq (.region 3 #[fa 16 30 2 2,ld 17 16 28,m 18 1 3,o 19 (.indexAddr 28 (.tmp 17) (.tmp 18)) 0,ld 20 19 30,nd (.store 30 (.tmp 4) (.tmp 20)),o 5 (.assign (.const (.bool true))) 4] false)
 .ret)))
def kp85:Nat → Option (List Nat)
  | 0 => some [1,2,4]
  | 1 => some [1,2,4,14]
  | 2 => some [4,5]
  | 3 => some [4,5]
  | _ => none
def fn85:AFn:={ ntmps:=21,results:=[.cell 4 30,.tmp 5],body:=c85,keep:=kp85,head:=fun  | _ => none,opn:=fun _ => none,dyn:=fun _ => [] }
def c86:Code :=
  (.seq (.region 0 #[o 1 (.box 30 (.tmp 0)) 0,o 2 (.alloc 30) 0] false)
 (.seq (.region 1 #[fa 6 30 1 1,ld 7 6 22,cl 8 109 #[.tmp 7] #[22] 22,cl 9 97 #[.tmp 8] #[22] 22,fa 10 30 1 1,nd (.store 22 (.tmp 10) (.tmp 9))] false)
 (.seq (.region 2 #[fa 11 30 1 2,ld 12 11 28,o 13 (.call { callee:=.builtin .len,args:=#[.tmp 12],argTypes:=#[28] }) 3,o 14 (.makeSlice 28 (.tmp 13) (.tmp 13)) 28,o 3 (.assign (.tmp 14)) 28] false)
 (.seq (.seq (.region 3 #[fa 15 30 1 2,ld 16 15 28,o 17 (.call { callee:=.builtin .len,args:=#[.tmp 16],argTypes:=#[28] }) 3,o 18 (.move (ci 0)) 3] false)
 (.block 0 (.loop (.seq (.region 4 #[o 19 (.binOp .lss 3 (.tmp 18) (.tmp 17) 3) 0] false)
 (.seq (.cond (.tmp 19)
 .skip
 (.exit 0))
 (.seq (.block 1 (.seq (.region 5 #[m 20 18 3,o 21 (.indexAddr 28 (.tmp 16) (.tmp 18)) 0,ld 22 21 30,o 5 (.alloc 30) 0,o 4 (.assign (.tmp 20)) 3,nd (.store 30 (.tmp 5) (.tmp 22))] false)
 (.region 6 #[m 23 3 28,m 24 4 3,ld 25 5 30,cl 26 86 #[.tmp 25] #[30] 30,o 27 (.indexAddr 28 (.tmp 23) (.tmp 24)) 0,nd (.store 30 (.tmp 27) (.tmp 26))] false)))
 (.region 7 #[o 28 (.binOp .add 3 (.tmp 18) (ci 1) 3) 3,m 18 28 3] false)))))))
 (.seq (.region 8 #[m 29 3 28,fa 30 30 1 2,nd (.store 28 (.tmp 30) (.tmp 29))] false)
 (.seq (.region 9 #[ld 31 1 30,nd (.store 30 (.tmp 2) (.tmp 31))] false)
 .ret))))))
def kp86:Nat → Option (List Nat)
  | 0 => some [1,2]
  | 1 => some [1,2]
  | 2 => some [1,2,3]
  | 3 => some [1,2,3,16,17,18]
  | 4 => some [1,2,3,16,17,18,19]
  | 5 => some [1,2,3,4,5,16,17,18]
  | 6 => some [1,2,3,16,17,18]
  | 7 => some [1,2,3,16,17,18]
  | 8 => some [1,2]
  | 9 => some [2]
  | _ => none
def fn86:AFn:={ ntmps:=32,results:=[.cell 2 30],body:=c86,keep:=kp86,head:=fun | 4 => some [1,2,3,16,17,18] | _ => none,opn:=opn86,dyn:=fun _ => [] }
def c87:Code :=
  (.seq (.region 0 #[o 2 (.assign (ci 0)) 3] false)
 (.seq (.seq (.region 1 #[m 7 0 28,o 8 (.call { callee:=.builtin .len,args:=#[.tmp 7],argTypes:=#[28] }) 3,o 9 (.move (ci 0)) 3] false)
 (.block 0 (.loop (.seq (.region 2 #[o 10 (.binOp .lss 3 (.tmp 9) (.tmp 8) 3) 0] false)
 (.seq (.cond (.tmp 10)
 .skip
 (.exit 0))
 (.seq (.block 1 (.seq (.region 3 #[o 11 (.indexAddr 28 (.tmp 7) (.tmp 9)) 0,ld 12 11 30,o 4 (.alloc 30) 0,nd (.store 30 (.tmp 4) (.tmp 12))] false)
 (.seq (.region 4 #[ld 14 4 30,cl 15 21 #[.tmp 14] #[30] 35,m 13 15 35,o 16 (.extract (.tmp 13) 0) 22,o 17 (.extract (.tmp 13) 1) 34,o 5 (.assign (.tmp 16)) 22,o 6 (.assign (.tmp 17)) 34] false)
 (.region 5 #[m 18 2 3,m 19 5 22,o 20 (.call { callee:=.builtin .len,args:=#[.tmp 19],argTypes:=#[22] }) 3,o 21 (.binOp .add 3 (.tmp 18) (.tmp 20) 3) 3,o 2 (.assign (.tmp 21)) 3] false))))
 (.region 6 #[o 22 (.binOp .add 3 (.tmp 9) (ci 1) 3) 3,m 9 22 3] false)))))))
 (.seq (.region 7 #[m 23 2 3,o 2 (.assign (.tmp 23)) 3] false)
 .ret)))
def kp87:Nat → Option (List Nat)
  | 0 => some [0,2]
  | 1 => some [2,7,8,9]
  | 2 => some [2,7,8,9,10]
  | 3 => some [2,4,7,8,9]
  | 4 => some [2,5,7,8,9]
  | 5 => some [2,7,8,9]
  | 6 => some [2,7,8,9]
  | 7 => some [2]
  | _ => none
def fn87:AFn:={ ntmps:=24,results:=[.tmp 2],body:=c87,keep:=kp87,head:=fun | 2 => some [2,7,8,9] | _ => none,opn:=fun _ => none,dyn:=fun _ => [] }
def c89:Code :=
  (.seq (.region 0 #[o 2 (.assign (ci 0)) 3,o 3 (.assign (ci 0)) 3,o 4 (.assign (ci 0)) 3] false)
 (.seq (.seq (.region 1 #[m 8 0 22,o 9 (.call { callee:=.builtin .len,args:=#[.tmp 8],argTypes:=#[22] }) 3,o 10 (.binOp .eql 3 (.tmp 9) (ci 0) 3) 4] false)
 (.cond (.tmp 10)
 (.seq (.region 2 #[o 2 (.assign (ci 0)) 3,o 3 (.assign (ci 0)) 3,o 4 (.assign (ci 7)) 3] false)
 .ret)
 .skip))
 (.seq (.seq (.region 3 #[m 11 0 22,o 12 (.indexAddr 22 (.tmp 11) (ci 0)) 0,ld 13 12 5,o 14 (.binOp .lss 5 (.tmp 13) (.const (.int .u8 128)) 5) 4] false)
 (.cond (.tmp 14)
 (.seq (.region 4 #[m 15 0 22,o 16 (.indexAddr 22 (.tmp 15) (ci 0)) 0,ld 17 16 5,o 18 (.convert 5 3 (.tmp 17)) 3,o 2 (.assign (.tmp 18)) 3,o 3 (.assign (ci 1)) 3,o 4 (.assign (ci 0)) 3] false)
 .ret)
 .skip))
 (.seq (.region 5 #[m 19 0 22,o 20 (.indexAddr 22 (.tmp 19) (ci 0)) 0,ld 21 20 5,o 22 (.convert 5 3 (.tmp 21)) 3,o 23 (.binOp .sub 3 (.tmp 22) (ci 128) 3) 3,o 5 (.assign (.tmp 23)) 3] false)
 (.seq (.seq (.region 6 #[m 24 5 3,o 25 (.binOp .lss 3 (.tmp 24) (ci 1) 3) 4,m 26 25 4,gd 27 (.move (.tmp 5)) 3 26 false,gd 28 (.binOp .gtr 3 (.tmp 27) (ci 3) 3) 4 26 false,o 29 (.pick (.tmp 26) (.const (.bool true)) (.tmp 28)) 4] false)
 (.cond (.tmp 29)
 (.seq (.region 7 #[o 2 (.assign (ci 0)) 3,o 3 (.assign (ci 0)) 3,o 4 (.assign (ci 10)) 3] false)
 .ret)
 .skip))
 (.seq (.seq (.region 8 #[m 30 0 22,o 31 (.call { callee:=.builtin .len,args:=#[.tmp 30],argTypes:=#[22] }) 3,m 32 5 3,o 33 (.binOp .add 3 (.tmp 32) (ci 1) 3) 3,o 34 (.binOp .lss 3 (.tmp 31) (.tmp 33) 3) 4] false)
 (.cond (.tmp 34)
 (.seq (.region 9 #[o 2 (.assign (ci 0)) 3,o 3 (.assign (ci 0)) 3,o 4 (.assign (ci 7)) 3] false)
 .ret)
 .skip))
 (.seq (.region 10 #[o 6 (.assign (ci 0)) 3] false)
 (.seq (.seq (.region 11 #[o 7 (.assign (ci 1)) 3] false)
 (.block 0 (.loop (.seq (.seq (.region 12 #[m 35 7 3,m 36 5 3,o 37 (.binOp .leq 3 (.tmp 35) (.tmp 36) 3) 4] false)
 (.cond (.tmp 37)
 .skip
 (.exit 0)))
 (.seq (.block 1 (.region 14 #[m 40 6 3,o 41 (.binOp .mul 3 (ci 256) (.tmp 40) 3) 3,m 42 0 22,m 43 7 3,o 44 (.indexAddr 22 (.tmp 42) (.tmp 43)) 0,ld 45 44 5,o 46 (.convert 5 3 (.tmp 45)) 3,o 47 (.binOp .add 3 (.tmp 41) (.tmp 46) 3) 3,o 6 (.assign (.tmp 47)) 3] false))
 (.region 13 #[m 38 7 3,o 39 (.binOp .add 3 (.tmp 38) (ci 1) 3) 3,o 7 (.assign (.tmp 39)) 3] false))))))
 (.seq (.seq (.region 15 #[m 48 0 22,o 49 (.indexAddr 22 (.tmp 48) (ci 1)) 0,ld 50 49 5,o 51 (.binOp .eql 5 (.tmp 50) (.const (.int .u8 0)) 5) 4,m 52 51 4,gd 53 (.move (.tmp 6)) 3 52 false,gd 54 (.binOp .lss 3 (.tmp 53) (ci 128) 3) 4 52 false,o 55 (.pick (.tmp 52) (.const (.bool true)) (.tmp 54)) 4] false)
 (.cond (.tmp 55)
 (.seq (.region 16 #[o 2 (.assign (ci 0)) 3,o 3 (.assign (ci 0)) 3,o 4 (.assign (ci 10)) 3] false)
 .ret)
 .skip))
 (.seq (.region 17 #[m 56 6 3,m 57 5 3,o 58 (.binOp .add 3 (.tmp 57) (ci 1) 3) 3,o 2 (.assign (.tmp 56)) 3,o 3 (.assign (.tmp 58)) 3,o 4 (.assign (ci 0)) 3] false)
 .ret))))))))))
def kp89:Nat → Option (List Nat)
  | 0 => some [0]
  | 1 => some [0,10]
  | 2 => some [2,3,4]
  | 3 => some [0,14]
  | 4 => some [2,3,4]
  | 5 => some [0,5]
  | 6 => some [0,5,29]
  | 7 => some [2,3,4]
  | 8 => some [0,5,34]
  | 9 => some [2,3,4]
  | 10 => some [0,5,6]
  | 11 => some [0,5,6,7]
  | 12 => some [0,5,6,7,37]
  | 13 => some [0,5,6,7]
  | 14 => some [0,5,6,7]
  | 15 => some [5,6,55]
  | 16 => some [2,3,4]
  | 17 => some [2,3,4]
  | _ => none
def fn89:AFn:={ ntmps:=59,results:=[.tmp 2,.tmp 3,.tmp 4],body:=c89,keep:=kp89,head:=fun | 12 => some [0,5,6,7] | _ => none,opn:=fun _ => none,dyn:=fun _ => [] }
def c90:Code :=
  (.seq (.region 0 #[o 1 (.box 30 (.tmp 0)) 0,o 2 (.assign (ci 0)) 3] false)
 (.seq (.seq (.region 1 #[fa 6 30 1 0,fa 7 27 6 1,ld 8 7 4,o 9 (.unOp .not 4 (.tmp 8)) 4] false)
 (.cond (.tmp 9)
 (.seq (.region 2 #[fa 10 30 1 1,ld 11 10 22,o 12 (.call { callee:=.builtin .len,args:=#[.tmp 11],argTypes:=#[22] }) 3,o 2 (.assign (.tmp 12)) 3] false)
 .ret)
 .skip))
 (.seq (.region 3 #[o 3 (.assign (ci 0)) 3] false)
 (.seq (.seq (.region 4 #[fa 13 30 1 2,ld 14 13 28,o 15 (.call { callee:=.builtin .len,args:=#[.tmp 14],argTypes:=#[28] }) 3,o 16 (.move (ci 0)) 3] false)
 (.block 0 (.loop (.seq (.region 5 #[o 17 (.binOp .lss 3 (.tmp 16) (.tmp 15) 3) 0] false)
 (.seq (.cond (.tmp 17)
 .skip
 (.exit 0))
 (.seq (.block 1 (.seq (.region 6 #[o 18 (.indexAddr 28 (.tmp 14) (.tmp 16)) 0,ld 19 18 30,o 5 (.alloc 30) 0,nd (.store 30 (.tmp 5) (.tmp 19))] false)
 (.region 7 #[m 20 3 3,ld 21 5 30,cl 22 69 #[.tmp 21] #[30] 3,o 23 (.binOp .add 3 (.tmp 20) (.tmp 22) 3) 3,o 24 (.call { callee:=.builtin .min,args:=#[.tmp 23,.const (.int .i64 1048577)],argTypes:=#[3,3] }) 3,o 3 (.assign (.tmp 24)) 3] false)))
 (.region 8 #[o 25 (.binOp .add 3 (.tmp 16) (ci 1) 3) 3,m 16 25 3] false)))))))
 (.seq (.region 9 #[m 26 3 3,o 2 (.assign (.tmp 26)) 3] false)
 .ret)))))
def kp90:Nat → Option (List Nat)
  | 0 => some [1]
  | 1 => some [1,9]
  | 2 => some [2]
  | 3 => some [1,3]
  | 4 => some [3,14,15,16]
  | 5 => some [3,14,15,16,17]
  | 6 => some [3,5,14,15,16]
  | 7 => some [3,14,15,16]
  | 8 => some [3,14,15,16]
  | 9 => some [2]
  | _ => none
def fn90:AFn:={ ntmps:=27,results:=[.tmp 2],body:=c90,keep:=kp90,head:=fun | 5 => some [3,14,15,16] | _ => none,opn:=fun _ => none,dyn:=fun _ => [] }
def c91:Code :=
  (.seq (.region 0 #[o 4 (.assign (ci 0)) 3] false)
 (.seq (.seq (.region 1 #[m 5 0 3,o 6 (.binOp .lss 3 (.tmp 5) (ci 1) 3) 4,m 7 6 4,gd 8 (.move (.tmp 0)) 3 7 false,gd 9 (.binOp .gtr 3 (.tmp 8) (ci 5) 3) 4 7 false,o 10 (.pick (.tmp 7) (.const (.bool true)) (.tmp 9)) 4,m 11 10 4,gd 12 (.move (.tmp 1)) 3 11 false,gd 13 (.call { callee:=.value (.func 110),args:=#[.tmp 12],argTypes:=#[3] }) 3 11 false,gd 14 (.binOp .eql 3 (.tmp 13) (ci 0) 3) 4 11 false,o 15 (.pick (.tmp 11) (.const (.bool true)) (.tmp 14)) 4] false)
 (.cond (.tmp 15)
 (.seq (.region 2 #[o 4 (.assign (ci 0)) 3] false)
 .ret)
 .skip))
 (.seq (.region 3 #[m 16 0 3,m 17 1 3,cl 18 110 #[.tmp 17] #[3] 3,o 19 (.binOp .add 3 (.tmp 16) (.tmp 18) 3) 3,m 20 1 3,o 21 (.binOp .add 3 (.tmp 19) (.tmp 20) 3) 3,o 4 (.assign (.tmp 21)) 3] false)
 .ret)))
def kp91:Nat → Option (List Nat)
  | 0 => some [0,1]
  | 1 => some [0,1,15]
  | 2 => some [4]
  | 3 => some [4]
  | _ => none
def fn91:AFn:={ ntmps:=22,results:=[.tmp 4],body:=c91,keep:=kp91,head:=fun  | _ => none,opn:=fun _ => none,dyn:=fun _ => [] }
def c92:Code :=
  (.seq (.region 0 #[o 1 (.box 27 (.tmp 0)) 0,o 2 (.assign (ci 0)) 3] false)
 (.seq (.region 1 #[ld 6 1 27,cl 7 93 #[.tmp 6] #[27] 35,m 5 7 35,o 8 (.extract (.tmp 5) 0) 22,o 9 (.extract (.tmp 5) 1) 34,o 3 (.assign (.tmp 8)) 22,o 4 (.assign (.tmp 9)) 34] false)
 (.seq (.region 2 #[m 10 3 22,o 11 (.call { callee:=.builtin .len,args:=#[.tmp 10],argTypes:=#[22] }) 3,o 2 (.assign (.tmp 11)) 3] false)
 .ret)))
def kp92:Nat → Option (List Nat)
  | 0 => some [1]
  | 1 => some [3]
  | 2 => some [2]
  | _ => none
def fn92:AFn:={ ntmps:=12,results:=[.tmp 2],body:=c92,keep:=kp92,head:=fun  | _ => none,opn:=fun _ => none,dyn:=fun _ => [] }
def c93:Code :=
  (.seq (.region 0 #[o 1 (.box 27 (.tmp 0)) 0,o 2 (.assign (.const (.slice none 0 0))) 22,o 3 (.assign (ci 0)) 34] false)
 (.seq (.seq (.region 1 #[ld 8 1 27,cl 9 102 #[.tmp 8] #[27] 34,o 4 (.assign (.tmp 9)) 34] false)
 (.seq (.region 2 #[m 10 4 34,o 11 (.binOp .neq 34 (.tmp 10) (ci 0) 34) 4] false)
 (.cond (.tmp 11)
 (.seq (.region 3 #[m 12 4 34,o 2 (.assign (.const (.slice none 0 0))) 22,o 3 (.assign (.tmp 12)) 34] false)
 .ret)
 .skip)))
 (.seq (.region 4 #[fa 13 27 1 0,ld 14 13 24,o 15 (.binOp .shl 5 (.tmp 14) (.const (.int .u64 6)) 151) 5,o 5 (.assign (.tmp 15)) 5] false)
 (.seq (.seq (.region 5 #[fa 16 27 1 1,ld 17 16 4] false)
 (.cond (.tmp 17)
 (.region 6 #[m 18 5 5,o 19 (.binOp .or 5 (.tmp 18) (.const (.int .u8 32)) 5) 5,o 5 (.assign (.tmp 19)) 5] false)
 .skip))
 (.seq (.seq (.region 7 #[fa 20 27 1 2,ld 21 20 25,o 22 (.binOp .lss 25 (.tmp 21) (.const (.int .u32 31)) 25) 4] false)
 (.cond (.tmp 22)
 (.seq (.region 8 #[m 23 5 5,fa 24 27 1 2,ld 25 24 25,o 26 (.convert 25 5 (.tmp 25)) 5,o 27 (.binOp .or 5 (.tmp 23) (.tmp 26) 5) 5,o 28 (.buildSlice 22 1 #[(0,.tmp 27)]) 22,o 2 (.assign (.tmp 28)) 22,o 3 (.assign (ci 0)) 34] false)
 .ret)
 .skip))
 (.seq (.region 9 #[m 29 5 5,o 30 (.binOp .or 5 (.tmp 29) (.const (.int .u8 31)) 5) 5,o 31 (.buildSlice 22 1 #[(0,.tmp 30)]) 22,o 6 (.alloc 22) 0,nd (.store 22 (.tmp 6) (.tmp 31))] false)
 (.seq (.seq (.region 10 #[fa 32 27 1 2,ld 33 32 25,cl 34 111 #[.tmp 33] #[25] 153] false)
 (.block 0 (.refuse "")))
 (.seq (.region 13 #[ld 40 6 22,cl 41 97 #[.tmp 40] #[22] 22,o 2 (.assign (.tmp 41)) 22,o 3 (.assign (ci 0)) 34] false)
 .ret))))))))
def kp93:Nat → Option (List Nat)
  | 0 => some [1,35]
  | 1 => some [1,4,35]
  | 2 => some [1,4,11,35]
  | 3 => some [2,3]
  | 4 => some [1,5,35]
  | 5 => some [1,5,17,35]
  | 6 => some [1,5,35]
  | 7 => some [1,5,22,35]
  | 8 => some [2,3]
  | 9 => some [1,6,35]
  | 10 => some [6,34,35]
  | 11 => some [6,7,35]
  | 12 => some [6,35]
  | 13 => some [2,3]
  | _ => none
def fn93:AFn:={ ntmps:=42,results:=[.tmp 2,.tmp 3],body:=c93,keep:=kp93,head:=fun  | _ => none,opn:=fun _ => none,dyn:=fun _ => [] }
def c94:Code :=
  (.seq (.region 0 #[o 2 (.assign (.const (.slice none 0 0))) 22,o 3 (.assign (ci 0)) 34] false)
 (.seq (.block 0 (.seq (.region 1 #[m 6 0 3,o 7 (.binOp .lss 3 (.tmp 6) (ci 0) 3) 4,o 5 (.assign (.tmp 7)) 4] false)
 (.cond (.tmp 5)
 (.seq (.region 2 #[o 2 (.assign (.const (.slice none 0 0))) 22,o 3 (.assign (ci 1)) 34] false)
 .ret)
 (.seq (.region 3 #[m 9 0 3,o 10 (.binOp .gtr 3 (.tmp 9) (ci 16777215) 3) 4,o 8 (.assign (.tmp 10)) 4] false)
 (.cond (.tmp 8)
 (.seq (.region 4 #[o 2 (.assign (.const (.slice none 0 0))) 22,o 3 (.assign (ci 3)) 34] false)
 .ret)
 (.seq (.region 5 #[m 12 0 3,o 13 (.binOp .leq 3 (.tmp 12) (ci 127) 3) 4,o 11 (.assign (.tmp 13)) 4] false)
 (.cond (.tmp 11)
 (.seq (.region 6 #[m 14 0 3,o 15 (.convert 3 5 (.tmp 14)) 5,o 16 (.buildSlice 22 1 #[(0,.tmp 15)]) 22,o 2 (.assign (.tmp 16)) 22,o 3 (.assign (ci 0)) 34] false)
 .ret)
 .skip)))))))
 (.seq (.region 7 #[o 17 (.buildSlice 22 1 #[(0,.const (.int .u8 0))]) 22,o 4 (.assign (.tmp 17)) 22] false)
 (.seq (.block 1 (.seq (.block 4 (.seq (.block 3 (.seq (.block 2 (.seq (.seq (.seq (.region 8 #[m 19 0 3,o 20 (.binOp .gtr 3 (.tmp 19) (ci 65535) 3) 4,o 18 (.assign (.tmp 20)) 4] false)
 (.cond (.tmp 18)
 (.exit 2)
 .skip))
 (.seq (.region 9 #[m 22 0 3,o 23 (.binOp .gtr 3 (.tmp 22) (ci 255) 3) 4,o 21 (.assign (.tmp 23)) 4] false)
 (.cond (.tmp 21)
 (.exit 3)
 .skip)))
 (.exit 4)))
 (.region 10 #[m 24 4 22,m 25 0 3,o 26 (.binOp .shr 3 (.tmp 25) (.const (.int .u64 16)) 151) 3,o 27 (.convert 3 5 (.tmp 26)) 5,o 28 (.buildSlice 22 1 #[(0,.tmp 27)]) 22,o 29 (.call { callee:=.builtin .append,args:=#[.tmp 24,.tmp 28],argTypes:=#[22,22] }) 22,o 4 (.assign (.tmp 29)) 22] false)))
 (.region 11 #[m 30 4 22,m 31 0 3,o 32 (.binOp .shr 3 (.tmp 31) (.const (.int .u64 8)) 151) 3,o 33 (.convert 3 5 (.tmp 32)) 5,o 34 (.buildSlice 22 1 #[(0,.tmp 33)]) 22,o 35 (.call { callee:=.builtin .append,args:=#[.tmp 30,.tmp 34],argTypes:=#[22,22] }) 22,o 4 (.assign (.tmp 35)) 22] false)))
 (.seq (.region 12 #[m 36 4 22,m 37 0 3,o 38 (.convert 3 5 (.tmp 37)) 5,o 39 (.buildSlice 22 1 #[(0,.tmp 38)]) 22,o 40 (.call { callee:=.builtin .append,args:=#[.tmp 36,.tmp 39],argTypes:=#[22,22] }) 22,o 4 (.assign (.tmp 40)) 22] false)
 (.exit 1))))
 (.seq (.region 13 #[m 41 4 22,m 42 4 22,o 43 (.call { callee:=.builtin .len,args:=#[.tmp 42],argTypes:=#[22] }) 3,o 44 (.binOp .sub 3 (.tmp 43) (ci 1) 3) 3,o 45 (.convert 3 5 (.tmp 44)) 5,o 46 (.binOp .add 5 (.const (.int .u8 128)) (.tmp 45) 5) 5,o 47 (.indexAddr 22 (.tmp 41) (ci 0)) 0,nd (.store 5 (.tmp 47) (.tmp 46))] false)
 (.seq (.region 14 #[m 48 4 22,cl 49 97 #[.tmp 48] #[22] 22,o 2 (.assign (.tmp 49)) 22,o 3 (.assign (ci 0)) 34] false)
 .ret))))))
def kp94:Nat → Option (List Nat)
  | 0 => some [0]
  | 1 => some [0,5]
  | 2 => some [2,3]
  | 3 => some [0,8]
  | 4 => some [2,3]
  | 5 => some [0,11]
  | 6 => some [2,3]
  | 7 => some [0,4]
  | 8 => some [0,4,18]
  | 9 => some [0,4,21]
  | 10 => some [0,4]
  | 11 => some [0,4]
  | 12 => some [4]
  | 13 => some [4]
  | 14 => some [2,3]
  | _ => none
def fn94:AFn:={ ntmps:=50,results:=[.tmp 2,.tmp 3],body:=c94,keep:=kp94,head:=fun  | _ => none,opn:=fun _ => none,dyn:=fun _ => [] }
def c95:Code :=
  (.seq (.region 0 #[o 2 (.alloc 27) 0,o 3 (.assign (ci 0)) 3,o 4 (.assign (ci 0)) 34] false)
 (.seq (.seq (.region 1 #[m 5 0 22,o 6 (.call { callee:=.builtin .len,args:=#[.tmp 5],argTypes:=#[22] }) 3,o 7 (.binOp .eql 3 (.tmp 6) (ci 0) 3) 4] false)
 (.cond (.tmp 7)
 (.seq (.region 2 #[o 8 (.build 27 #[]) 27,nd (.store 27 (.tmp 2) (.tmp 8)),o 3 (.assign (ci 0)) 3,o 4 (.assign (ci 7)) 34] false)
 .ret)
 .skip))
 (.seq (.region 3 #[m 9 0 22,o 10 (.indexAddr 22 (.tmp 9) (ci 0)) 0,ld 11 10 5,o 12 (.binOp .shr 5 (.tmp 11) (.const (.int .u64 6)) 151) 5,m 13 0 22,o 14 (.indexAddr 22 (.tmp 13) (ci 0)) 0,ld 15 14 5,o 16 (.binOp .and 5 (.tmp 15) (.const (.int .u8 32)) 5) 5,o 17 (.binOp .neq 5 (.tmp 16) (.const (.int .u8 0)) 5) 4,m 18 0 22,o 19 (.indexAddr 22 (.tmp 18) (ci 0)) 0,ld 20 19 5,o 21 (.binOp .and 5 (.tmp 20) (.const (.int .u8 31)) 5) 5,o 22 (.convert 5 25 (.tmp 21)) 25,o 23 (.build 27 #[(0,.tmp 12),(1,.tmp 17),(2,.tmp 22)]) 27,nd (.store 27 (.tmp 2) (.tmp 23))] true)
 (.seq (.region 4 #[o 3 (.assign (ci 1)) 3] false)
 (.seq (.seq (.region 5 #[fa 24 27 2 2,ld 25 24 25,o 26 (.binOp .eql 25 (.tmp 25) (.const (.int .u32 31)) 25) 4] false)
 (.cond (.tmp 26)
 (.region 6 #[m 28 0 22,cl 29 112 #[.tmp 28] #[22] 155,m 27 29 155,o 30 (.extract (.tmp 27) 0) 25,o 31 (.extract (.tmp 27) 1) 3,o 32 (.extract (.tmp 27) 2) 34,fa 33 27 2 2,nd (.store 25 (.tmp 33) (.tmp 30)),o 3 (.assign (.tmp 31)) 3,o 4 (.assign (.tmp 32)) 34] false)
 .skip))
 (.seq (.seq (.region 7 #[m 34 4 34,o 35 (.binOp .eql 34 (.tmp 34) (ci 0) 34) 4] false)
 (.cond (.tmp 35)
 (.region 8 #[ld 36 2 27,cl 37 102 #[.tmp 36] #[27] 34,o 4 (.assign (.tmp 37)) 34] false)
 .skip))
 (.seq (.seq (.region 9 #[m 38 4 34,o 39 (.binOp .neq 34 (.tmp 38) (ci 0) 34) 4] false)
 (.cond (.tmp 39)
 (.seq (.region 10 #[o 40 (.build 27 #[]) 27,m 41 4 34,nd (.store 27 (.tmp 2) (.tmp 40)),o 3 (.assign (ci 0)) 3,o 4 (.assign (.tmp 41)) 34] false)
 .ret)
 .skip))
 (.seq (.region 11 #[ld 42 2 27,m 43 3 3,nd (.store 27 (.tmp 2) (.tmp 42)),o 3 (.assign (.tmp 43)) 3,o 4 (.assign (ci 0)) 34] false)
 .ret))))))))
def kp95:Nat → Option (List Nat)
  | 0 => some [0,2,4]
  | 1 => some [0,2,4,7]
  | 2 => some [2,3,4]
  | 3 => some [0,2,4]
  | 4 => some [0,2,3,4]
  | 5 => some [0,2,3,4,26]
  | 6 => some [2,3,4]
  | 7 => some [2,3,4,35]
  | 8 => some [2,3,4]
  | 9 => some [2,3,4,39]
  | 10 => some [2,3,4]
  | 11 => some [2,3,4]
  | _ => none
def fn95:AFn:={ ntmps:=44,results:=[.cell 2 27,.tmp 3,.tmp 4],body:=c95,keep:=kp95,head:=fun  | _ => none,opn:=fun _ => none,dyn:=fun _ => [] }
def c96:Code :=
  (.seq (.region 0 #[o 2 (.assign (ci 0)) 3,o 3 (.assign (ci 0)) 3,o 4 (.assign (ci 0)) 34] false)
 (.seq (.seq (.region 1 #[m 7 0 22,o 8 (.call { callee:=.builtin .len,args:=#[.tmp 7],argTypes:=#[22] }) 3,o 9 (.binOp .eql 3 (.tmp 8) (ci 0) 3) 4] false)
 (.cond (.tmp 9)
 (.seq (.region 2 #[o 2 (.assign (ci 0)) 3,o 3 (.assign (ci 0)) 3,o 4 (.assign (ci 7)) 34] false)
 .ret)
 .skip))
 (.seq (.seq (.region 3 #[m 10 0 22,o 11 (.indexAddr 22 (.tmp 10) (ci 0)) 0,ld 12 11 5,o 13 (.binOp .leq 5 (.tmp 12) (.const (.int .u8 127)) 5) 4] false)
 (.cond (.tmp 13)
 (.seq (.region 4 #[m 14 0 22,o 15 (.indexAddr 22 (.tmp 14) (ci 0)) 0,ld 16 15 5,o 17 (.convert 5 3 (.tmp 16)) 3,o 2 (.assign (.tmp 17)) 3,o 3 (.assign (ci 1)) 3,o 4 (.assign (ci 0)) 34] false)
 .ret)
 .skip))
 (.seq (.region 5 #[o 5 (.alloc 158) 0] false)
 (.seq (.region 6 #[m 18 0 22,o 19 (.indexAddr 22 (.tmp 18) (ci 0)) 0,ld 20 19 5,o 21 (.convert 5 3 (.tmp 20)) 3,o 22 (.binOp .sub 3 (.tmp 21) (ci 128) 3) 3,o 6 (.assign (.tmp 22)) 3] false)
 (.seq (.block 0 (.seq (.region 7 #[m 24 6 3,o 25 (.binOp .eql 3 (.tmp 24) (ci 0) 3) 4,m 26 25 4,gd 27 (.move (.tmp 6)) 3 26 false,gd 28 (.binOp .gtr 3 (.tmp 27) (ci 3) 3) 4 26 false,o 29 (.pick (.tmp 26) (.const (.bool true)) (.tmp 28)) 4,o 23 (.assign (.tmp 29)) 4] false)
 (.cond (.tmp 23)
 (.seq (.region 8 #[o 2 (.assign (ci 0)) 3,o 3 (.assign (ci 0)) 3,o 4 (.assign (ci 10)) 34] false)
 .ret)
 (.seq (.region 9 #[m 31 0 22,o 32 (.call { callee:=.builtin .len,args:=#[.tmp 31],argTypes:=#[22] }) 3,m 33 6 3,o 34 (.binOp .leq 3 (.tmp 32) (.tmp 33) 3) 4,o 30 (.assign (.tmp 34)) 4] false)
 (.cond (.tmp 30)
 (.seq (.region 10 #[o 2 (.assign (ci 0)) 3,o 3 (.assign (ci 0)) 3,o 4 (.assign (ci 7)) 34] false)
 .ret)
 .skip)))))
 (.seq (.region 11 #[m 35 6 3,o 36 (.binOp .sub 3 (ci 3) (.tmp 35) 3) 3,o 37 (.slice 158 (.tmp 5) (some (.tmp 36)) none none) 22,m 38 0 22,o 39 (.slice 22 (.tmp 38) (some (ci 1)) none none) 22,o 40 (.call { callee:=.builtin .copy,args:=#[.tmp 37,.tmp 39],argTypes:=#[22,22] }) 3] true)
 (.seq (.region 12 #[o 41 (.indexAddr 158 (.tmp 5) (ci 0)) 0,ld 42 41 5,o 43 (.convert 5 3 (.tmp 42)) 3,o 44 (.binOp .shl 3 (.tmp 43) (.const (.int .u64 16)) 151) 3,o 45 (.indexAddr 158 (.tmp 5) (ci 1)) 0,ld 46 45 5,o 47 (.convert 5 3 (.tmp 46)) 3,o 48 (.binOp .shl 3 (.tmp 47) (.const (.int .u64 8)) 151) 3,o 49 (.binOp .or 3 (.tmp 44) (.tmp 48) 3) 3,o 50 (.indexAddr 158 (.tmp 5) (ci 2)) 0,ld 51 50 5,o 52 (.convert 5 3 (.tmp 51)) 3,o 53 (.binOp .or 3 (.tmp 49) (.tmp 52) 3) 3,o 2 (.assign (.tmp 53)) 3] false)
 (.seq (.seq (.region 13 #[m 54 0 22,o 55 (.indexAddr 22 (.tmp 54) (ci 1)) 0,ld 56 55 5,o 57 (.binOp .eql 5 (.tmp 56) (.const (.int .u8 0)) 5) 4,m 58 57 4,gd 59 (.move (.tmp 2)) 3 58 false,gd 60 (.binOp .leq 3 (.tmp 59) (ci 127) 3) 4 58 false,o 61 (.pick (.tmp 58) (.const (.bool true)) (.tmp 60)) 4] false)
 (.cond (.tmp 61)
 (.seq (.region 14 #[o 2 (.assign (ci 0)) 3,o 3 (.assign (ci 0)) 3,o 4 (.assign (ci 10)) 34] false)
 .ret)
 .skip))
 (.seq (.region 15 #[m 62 2 3,m 63 6 3,o 64 (.binOp .add 3 (.tmp 63) (ci 1) 3) 3,o 2 (.assign (.tmp 62)) 3,o 3 (.assign (.tmp 64)) 3,o 4 (.assign (ci 0)) 34] false)
 .ret))))))))))
def kp96:Nat → Option (List Nat)
  | 0 => some [0]
  | 1 => some [0,9]
  | 2 => some [2,3,4]
  | 3 => some [0,13]
  | 4 => some [2,3,4]
  | 5 => some [0,5]
  | 6 => some [0,5,6]
  | 7 => some [0,5,6,23]
  | 8 => some [2,3,4]
  | 9 => some [0,5,6,30]
  | 10 => some [2,3,4]
  | 11 => some [0,5,6]
  | 12 => some [0,2,6]
  | 13 => some [2,6,61]
  | 14 => some [2,3,4]
  | 15 => some [2,3,4]
  | _ => none
def fn96:AFn:={ ntmps:=65,results:=[.tmp 2,.tmp 3,.tmp 4],body:=c96,keep:=kp96,head:=fun  | _ => none,opn:=fun _ => none,dyn:=fun _ => [] }
def c97:Code :=
  (.seq (.region 0 #[o 2 (.assign (.const (.slice none 0 0))) 22] false)
 (.seq (.region 1 #[m 3 0 22,m 4 0 22,o 5 (.call { callee:=.builtin .len,args:=#[.tmp 4],argTypes:=#[22] }) 3,m 6 0 22,o 7 (.call { callee:=.builtin .len,args:=#[.tmp 6],argTypes:=#[22] }) 3,o 8 (.slice 22 (.tmp 3) none (some (.tmp 5)) (some (.tmp 7))) 22,o 2 (.assign (.tmp 8)) 22] false)
 .ret))
def kp97:Nat → Option (List Nat)
  | 0 => some [0]
  | 1 => some [2]
  | _ => none
def fn97:AFn:={ ntmps:=9,results:=[.tmp 2],body:=c97,keep:=kp97,head:=fun  | _ => none,opn:=fun _ => none,dyn:=fun _ => [] }
def c98:Code :=
  (.seq (.region 0 #[o 2 (.assign (.const (.slice none 0 0))) 22] false)
 (.seq (.seq (.region 1 #[m 3 0 22,o 4 (.binOp .eql 22 (.tmp 3) (.const (.slice none 0 0)) 22) 4] false)
 (.cond (.tmp 4)
 (.seq (.region 2 #[o 2 (.assign (.const (.slice none 0 0))) 22] false)
 .ret)
 .skip))
 (.seq (.region 3 #[o 5 (.buildSlice 22 0 #[]) 22,m 6 0 22,o 7 (.call { callee:=.builtin .append,args:=#[.tmp 5,.tmp 6],argTypes:=#[22,22] }) 22,o 2 (.assign (.tmp 7)) 22] false)
 .ret)))
def kp98:Nat → Option (List Nat)
  | 0 => some [0]
  | 1 => some [0,4]
  | 2 => some [2]
  | 3 => some [2]
  | _ => none
def fn98:AFn:={ ntmps:=8,results:=[.tmp 2],body:=c98,keep:=kp98,head:=fun  | _ => none,opn:=fun _ => none,dyn:=fun _ => [] }
def c99:Code :=
  (.seq (.region 0 #[o 2 (.assign (.const (.slice none 0 0))) 28] false)
 (.seq (.region 1 #[m 3 0 28,m 4 0 28,o 5 (.call { callee:=.builtin .len,args:=#[.tmp 4],argTypes:=#[28] }) 3,m 6 0 28,o 7 (.call { callee:=.builtin .len,args:=#[.tmp 6],argTypes:=#[28] }) 3,o 8 (.slice 28 (.tmp 3) none (some (.tmp 5)) (some (.tmp 7))) 28,o 2 (.assign (.tmp 8)) 28] false)
 .ret))
def kp99:Nat → Option (List Nat)
  | 0 => some [0]
  | 1 => some [2]
  | _ => none
def fn99:AFn:={ ntmps:=9,results:=[.tmp 2],body:=c99,keep:=kp99,head:=fun  | _ => none,opn:=fun _ => none,dyn:=fun _ => [] }
def c100:Code :=
  (.seq (.region 0 #[o 2 (.box 30 (.tmp 0)) 0,o 3 (.box 145 (.tmp 1)) 0,o 4 (.assign (ci 0)) 34] false)
 (.seq (.region 1 #[o 5 (.alloc 145) 0] false)
 (.seq (.region 2 #[o 6 (.makeFunc (.func 113) #[] #[.tmp 3,.tmp 5]) 145,nd (.store 145 (.tmp 5) (.tmp 6))] false)
 (.seq (.region 3 #[ld 7 5 145,ld 8 2 30,o 9 (.call { callee:=.value (.tmp 7),args:=#[.tmp 8,.const (.int .i64 1)],argTypes:=#[30,3] }) 34,o 4 (.assign (.tmp 9)) 34] false)
 .ret))))
def kp100:Nat → Option (List Nat)
  | 0 => some [2,3]
  | 1 => some [2,3,5]
  | 2 => some [2,5]
  | 3 => some [4]
  | _ => none
def fn100:AFn:={ ntmps:=10,results:=[.tmp 4],body:=c100,keep:=kp100,head:=fun  | _ => none,opn:=opnT,dyn:=fun _ => [] }
def c101:Code :=
  (.seq (.region 0 #[o 4 (.box 30 (.tmp 0)) 0,o 6 (.assign (ci 0)) 34] false)
 (.seq (.seq (.region 1 #[fa 8 30 4 0,ld 9 8 27,cl 10 102 #[.tmp 9] #[27] 34,o 7 (.assign (.tmp 10)) 34] false)
 (.seq (.region 2 #[m 11 7 34,o 12 (.binOp .neq 34 (.tmp 11) (ci 0) 34) 4] false)
 (.cond (.tmp 12)
 (.seq (.region 3 #[m 13 7 34,o 6 (.assign (.tmp 13)) 34] false)
 .ret)
 .skip)))
 (.seq (.block 0 (.seq (.region 4 #[fa 15 30 4 0,fa 16 27 15 1,ld 17 16 4,m 18 17 4,gd 19 (.fieldAddr 30 (.tmp 4) 1) 0 18 true,gd 20 (.load 22 (.tmp 19)) 22 18 true,gd 21 (.call { callee:=.builtin .len,args:=#[.tmp 20],argTypes:=#[22] }) 3 18 true,gd 22 (.binOp .gtr 3 (.tmp 21) (ci 0) 3) 4 18 true,o 23 (.pick (.tmp 18) (.tmp 22) (.const (.bool false))) 4,m 24 23 4,gd 25 (.fieldAddr 30 (.tmp 4) 0) 0 24 false,gd 26 (.fieldAddr 27 (.tmp 25) 1) 0 24 false,gd 27 (.load 4 (.tmp 26)) 4 24 false,gd 28 (.unOp .not 4 (.tmp 27)) 4 24 false,gd 29 (.move (.tmp 28)) 4 24 false,gd 30 (.fieldAddr 30 (.tmp 4) 2) 0 29 true,gd 31 (.load 28 (.tmp 30)) 28 29 true,gd 32 (.call { callee:=.builtin .len,args:=#[.tmp 31],argTypes:=#[28] }) 3 29 true,gd 33 (.binOp .gtr 3 (.tmp 32) (ci 0) 3) 4 29 true,gd 34 (.pick (.tmp 29) (.tmp 33) (.const (.bool false))) 4 24 false,o 35 (.pick (.tmp 24) (.const (.bool true)) (.tmp 34)) 4,o 14 (.assign (.tmp 35)) 4] false)
 (.cond (.tmp 14)
 (.seq (.region 5 #[o 6 (.assign (ci 1)) 34] false)
 .ret)
 (.seq (.region 6 #[m 37 1 3,o 38 (.binOp .gtr 3 (.tmp 37) (ci 16) 3) 4,o 36 (.assign (.tmp 38)) 4] false)
 (.cond (.tmp 36)
 (.seq (.region 7 #[o 6 (.assign (ci 12)) 34] false)
 .ret)
 (.seq (.region 8 #[ld 40 2 3,o 41 (.binOp .eql 3 (.tmp 40) (ci 8192) 3) 4,o 39 (.assign (.tmp 41)) 4] false)
 (.cond (.tmp 39)
 (.seq (.region 9 #[o 6 (.assign (ci 3)) 34] false)
 .ret)
 .skip)))))))
 (.seq (.region 10 #[ld 42 2 3,o 43 (.binOp .add 3 (.tmp 42) (ci 1) 3) 3,nd (.store 3 (.tmp 2) (.tmp 43))] false)
 (.seq (.region 11 #[ld 44 3 3,m 45 1 3,o 46 (.call { callee:=.builtin .max,args:=#[.tmp 44,.tmp 45],argTypes:=#[3,3] }) 3,nd (.store 3 (.tmp 3) (.tmp 46))] false)
 (.seq (.region 12 #[o 6 (.assign (ci 0)) 34] false)
 .ret))))))
def kp101:Nat → Option (List Nat)
  | 0 => some [1,2,3,4]
  | 1 => some [1,2,3,4,7]
  | 2 => some [1,2,3,4,7,12]
  | 3 => some [6]
  | 4 => some [1,2,3,14]
  | 5 => some [6]
  | 6 => some [1,2,3,36]
  | 7 => some [6]
  | 8 => some [1,2,3,39]
  | 9 => some [6]
  | 10 => some [1,3]
  | 11 => some []
  | 12 => some [6]
  | _ => none
def fn101:AFn:={ ntmps:=47,results:=[.tmp 6],body:=c101,keep:=kp101,head:=fun  | _ => none,opn:=fun _ => none,dyn:=fun _ => [] }
def c102:Code :=
  (.seq (.region 0 #[o 1 (.box 27 (.tmp 0)) 0,o 2 (.assign (ci 0)) 34] false)
 (.seq (.seq (.region 1 #[fa 3 27 1 0,ld 4 3 24,o 5 (.binOp .gtr 24 (.tmp 4) (.const (.int .u8 3)) 24) 4,m 6 5 4,gd 7 (.fieldAddr 27 (.tmp 1) 2) 0 6 false,gd 8 (.load 25 (.tmp 7)) 25 6 false,gd 9 (.binOp .gtr 25 (.tmp 8) (.const (.int .u32 268435455)) 25) 4 6 false,o 10 (.pick (.tmp 6) (.const (.bool true)) (.tmp 9)) 4] false)
 (.cond (.tmp 10)
 (.seq (.region 2 #[o 2 (.assign (ci 1)) 34] false)
 .ret)
 .skip))
 (.seq (.seq (.region 3 #[fa 11 27 1 0,ld 12 11 24,o 13 (.binOp .neq 24 (.tmp 12) (.const (.int .u8 0)) 24) 4] false)
 (.cond (.tmp 13)
 (.seq (.region 4 #[o 2 (.assign (ci 0)) 34] false)
 .ret)
 .skip))
 (.seq (.seq (.region 5 #[fa 14 27 1 2,ld 15 14 25] false)
 (.block 0 (.seq (.region 6 #[o 17 (.binOp .eql 25 (.tmp 15) (.const (.int .u32 0)) 25) 4,o 16 (.assign (.tmp 17)) 4] false)
 (.cond (.tmp 16)
 (.seq (.region 7 #[o 2 (.assign (ci 9)) 34] false)
 .ret)
 (.seq (.seq (.region 8 #[o 19 (.binOp .eql 25 (.tmp 15) (.const (.int .u32 16)) 25) 4,o 18 (.assign (.tmp 19)) 4] false)
 (.cond (.tmp 18)
 .skip
 (.region 9 #[o 20 (.binOp .eql 25 (.tmp 15) (.const (.int .u32 17)) 25) 4,o 18 (.assign (.tmp 20)) 4] false)))
 (.cond (.tmp 18)
 (.seq (.region 10 #[fa 21 27 1 1,ld 22 21 4,o 23 (.unOp .not 4 (.tmp 22)) 4] false)
 (.cond (.tmp 23)
 (.seq (.region 11 #[o 2 (.assign (ci 9)) 34] false)
 .ret)
 .skip))
 .skip))))))
 (.seq (.region 12 #[o 2 (.assign (ci 0)) 34] false)
 .ret)))))
def kp102:Nat → Option (List Nat)
  | 0 => some [1]
  | 1 => some [1,10]
  | 2 => some [2]
  | 3 => some [1,13]
  | 4 => some [2]
  | 5 => some [1,15]
  | 6 => some [1,15,16]
  | 7 => some [2]
  | 8 => some [1,15,18]
  | 9 => some [1,18]
  | 10 => some [23]
  | 11 => some [2]
  | 12 => some [2]
  | _ => none
def fn102:AFn:={ ntmps:=24,results:=[.tmp 2],body:=c102,keep:=kp102,head:=fun  | _ => none,opn:=fun _ => none,dyn:=fun _ => [] }
def c103:Code :=
  (.seq (.region 0 #[o 2 (.assign (.const (.slice none 0 0))) 22] false)
 (.seq (.region 1 #[m 4 0 3,o 5 (.binOp .rem 3 (.tmp 4) (ci 128) 3) 3,o 6 (.convert 3 5 (.tmp 5)) 5,o 7 (.buildSlice 22 1 #[(0,.tmp 6)]) 22,o 3 (.assign (.tmp 7)) 22] false)
 (.seq (.seq (.region 2 #[m 8 0 3,o 9 (.binOp .quo 3 (.tmp 8) (ci 128) 3) 3,o 0 (.assign (.tmp 9)) 3] false)
 (.block 0 (.loop (.seq (.seq (.region 3 #[m 10 0 3,o 11 (.binOp .gtr 3 (.tmp 10) (ci 0) 3) 4] false)
 (.cond (.tmp 11)
 .skip
 (.exit 0)))
 (.seq (.block 1 (.region 5 #[m 14 0 3,o 15 (.binOp .rem 3 (.tmp 14) (ci 128) 3) 3,o 16 (.binOp .add 3 (ci 128) (.tmp 15) 3) 3,o 17 (.convert 3 5 (.tmp 16)) 5,o 18 (.buildSlice 22 1 #[(0,.tmp 17)]) 22,m 19 3 22,o 20 (.call { callee:=.builtin .append,args:=#[.tmp 18,.tmp 19],argTypes:=#[22,22] }) 22,o 3 (.assign (.tmp 20)) 22] false))
 (.region 4 #[m 12 0 3,o 13 (.binOp .quo 3 (.tmp 12) (ci 128) 3) 3,o 0 (.assign (.tmp 13)) 3] false))))))
 (.seq (.region 6 #[m 21 3 22,o 2 (.assign (.tmp 21)) 22] false)
 .ret))))
def kp103:Nat → Option (List Nat)
  | 0 => some [0]
  | 1 => some [0,3]
  | 2 => some [0,3]
  | 3 => some [0,3,11]
  | 4 => some [0,3]
  | 5 => some [0,3]
  | 6 => some [2]
  | _ => none
def fn103:AFn:={ ntmps:=22,results:=[.tmp 2],body:=c103,keep:=kp103,head:=fun | 3 => some [0,3] | _ => none,opn:=fun _ => none,dyn:=fun _ => [] }
def c104:Code :=
  (.seq (.region 0 #[o 4 (.assign (.const (.bool false))) 4] false)
 (.seq (.region 1 #[m 5 0 22,o 6 (.convert 22 9 (.tmp 5)) 9,m 7 1 22,o 8 (.convert 22 9 (.tmp 7)) 9,o 9 (.binOp .eql 9 (.tmp 6) (.tmp 8) 9) 4,o 4 (.assign (.tmp 9)) 4] false)
 .ret))
def kp104:Nat → Option (List Nat)
  | 0 => some [0,1]
  | 1 => some [4]
  | _ => none
def fn104:AFn:={ ntmps:=10,results:=[.tmp 4],body:=c104,keep:=kp104,head:=fun  | _ => none,opn:=fun _ => none,dyn:=fun _ => [] }
def c105:Code :=
  (.seq (.region 0 #[o 6 (.assign (.const (.bool false))) 4] false)
 (.seq (.seq (.region 1 #[m 10 0 28,o 11 (.call { callee:=.builtin .len,args:=#[.tmp 10],argTypes:=#[28] }) 3,m 12 1 28,o 13 (.call { callee:=.builtin .len,args:=#[.tmp 12],argTypes:=#[28] }) 3,o 14 (.binOp .neq 3 (.tmp 11) (.tmp 13) 3) 4] false)
 (.cond (.tmp 14)
 (.seq (.region 2 #[o 6 (.assign (.const (.bool false))) 4] false)
 .ret)
 .skip))
 (.seq (.seq (.region 3 #[m 15 0 28,o 16 (.call { callee:=.builtin .len,args:=#[.tmp 15],argTypes:=#[28] }) 3,o 17 (.move (ci 0)) 3] false)
 (.block 0 (.loop (.seq (.region 4 #[o 18 (.binOp .lss 3 (.tmp 17) (.tmp 16) 3) 0] false)
 (.seq (.cond (.tmp 18)
 .skip
 (.exit 0))
 (.seq (.block 1 (.seq (.region 5 #[m 19 17 3,o 20 (.indexAddr 28 (.tmp 15) (.tmp 17)) 0,ld 21 20 30,o 8 (.alloc 30) 0,o 7 (.assign (.tmp 19)) 3,nd (.store 30 (.tmp 8) (.tmp 21))] false)
 (.seq (.region 6 #[m 22 1 28,m 23 7 3,o 24 (.indexAddr 28 (.tmp 22) (.tmp 23)) 0,ld 25 24 30,o 9 (.alloc 30) 0,nd (.store 30 (.tmp 9) (.tmp 25))] false)
 (.seq (.region 7 #[m 26 2 45,ld 27 8 30,ld 28 9 30,o 29 (.call { callee:=.value (.tmp 26),args:=#[.tmp 27,.tmp 28],argTypes:=#[30,30] }) 4,o 30 (.unOp .not 4 (.tmp 29)) 4] false)
 (.cond (.tmp 30)
 (.seq (.region 8 #[o 6 (.assign (.const (.bool false))) 4] false)
 .ret)
 .skip)))))
 (.region 9 #[o 31 (.binOp .add 3 (.tmp 17) (ci 1) 3) 3,m 17 31 3] false)))))))
 (.seq (.region 10 #[o 6 (.assign (.const (.bool true))) 4] false)
 .ret))))
def kp105:Nat → Option (List Nat)
  | 0 => some [0,1,2]
  | 1 => some [0,1,2,14]
  | 2 => some [6]
  | 3 => some [1,2,15,16,17]
  | 4 => some [1,2,15,16,17,18]
  | 5 => some [1,2,7,8,15,16,17]
  | 6 => some [1,2,8,9,15,16,17]
  | 7 => some [1,2,15,16,17,30]
  | 8 => some [6]
  | 9 => some [1,2,15,16,17]
  | 10 => some [6]
  | _ => none
def fn105:AFn:={ ntmps:=32,results:=[.tmp 6],body:=c105,keep:=kp105,head:=fun | 4 => some [1,2,15,16,17] | _ => none,opn:=opnT,dyn:=fun _ => [] }
def c107:Code :=
  (.seq (.region 0 #[o 2 (.assign (.const (.slice none 0 0))) 47] false)
 (.seq (.region 1 #[m 3 0 47,m 4 0 47,o 5 (.call { callee:=.builtin .len,args:=#[.tmp 4],argTypes:=#[47] }) 3,m 6 0 47,o 7 (.call { callee:=.builtin .len,args:=#[.tmp 6],argTypes:=#[47] }) 3,o 8 (.slice 47 (.tmp 3) none (some (.tmp 5)) (some (.tmp 7))) 47,o 2 (.assign (.tmp 8)) 47] false)
 .ret))
def kp107:Nat → Option (List Nat)
  | 0 => some [0]
  | 1 => some [2]
  | _ => none
def fn107:AFn:={ ntmps:=9,results:=[.tmp 2],body:=c107,keep:=kp107,head:=fun  | _ => none,opn:=fun _ => none,dyn:=fun _ => [] }
def c108:Code :=
  (.seq (.region 0 #[o 2 (.assign (.const (.slice none 0 0))) 22] false)
 (.seq (.region 1 #[m 4 0 25,o 5 (.binOp .rem 25 (.tmp 4) (.const (.int .u32 128)) 25) 25,o 6 (.convert 25 5 (.tmp 5)) 5,o 7 (.buildSlice 22 1 #[(0,.tmp 6)]) 22,o 3 (.assign (.tmp 7)) 22] false)
 (.seq (.seq (.region 2 #[m 8 0 25,o 9 (.binOp .quo 25 (.tmp 8) (.const (.int .u32 128)) 25) 25,o 0 (.assign (.tmp 9)) 25] false)
 (.block 0 (.loop (.seq (.seq (.region 3 #[m 10 0 25,o 11 (.binOp .gtr 25 (.tmp 10) (.const (.int .u32 0)) 25) 4] false)
 (.cond (.tmp 11)
 .skip
 (.exit 0)))
 (.seq (.block 1 (.region 5 #[m 14 0 25,o 15 (.binOp .rem 25 (.tmp 14) (.const (.int .u32 128)) 25) 25,o 16 (.binOp .add 25 (.const (.int .u32 128)) (.tmp 15) 25) 25,o 17 (.convert 25 5 (.tmp 16)) 5,o 18 (.buildSlice 22 1 #[(0,.tmp 17)]) 22,m 19 3 22,o 20 (.call { callee:=.builtin .append,args:=#[.tmp 18,.tmp 19],argTypes:=#[22,22] }) 22,o 3 (.assign (.tmp 20)) 22] false))
 (.region 4 #[m 12 0 25,o 13 (.binOp .quo 25 (.tmp 12) (.const (.int .u32 128)) 25) 25,o 0 (.assign (.tmp 13)) 25] false))))))
 (.seq (.region 6 #[m 21 3 22,o 2 (.assign (.tmp 21)) 22] false)
 .ret))))
def kp108:Nat → Option (List Nat)
  | 0 => some [0]
  | 1 => some [0,3]
  | 2 => some [0,3]
  | 3 => some [0,3,11]
  | 4 => some [0,3]
  | 5 => some [0,3]
  | 6 => some [2]
  | _ => none
def fn108:AFn:={ ntmps:=22,results:=[.tmp 2],body:=c108,keep:=kp108,head:=fun | 3 => some [0,3] | _ => none,opn:=fun _ => none,dyn:=fun _ => [] }
def c109:Code :=
  (.seq (.region 0 #[o 2 (.assign (.const (.slice none 0 0))) 22] false)
 (.seq (.seq (.region 1 #[m 3 0 22,o 4 (.binOp .eql 22 (.tmp 3) (.const (.slice none 0 0)) 22) 4] false)
 (.cond (.tmp 4)
 (.seq (.region 2 #[o 2 (.assign (.const (.slice none 0 0))) 22] false)
 .ret)
 .skip))
 (.seq (.region 3 #[o 5 (.buildSlice 22 0 #[]) 22,m 6 0 22,o 7 (.call { callee:=.builtin .append,args:=#[.tmp 5,.tmp 6],argTypes:=#[22,22] }) 22,o 2 (.assign (.tmp 7)) 22] false)
 .ret)))
def kp109:Nat → Option (List Nat)
  | 0 => some [0]
  | 1 => some [0,4]
  | 2 => some [2]
  | 3 => some [2]
  | _ => none
def fn109:AFn:={ ntmps:=8,results:=[.tmp 2],body:=c109,keep:=kp109,head:=fun  | _ => none,opn:=fun _ => none,dyn:=fun _ => [] }
def c110:Code :=
  (.seq (.region 0 #[o 2 (.assign (ci 0)) 3] false)
 (.seq (.region 1 #[m 6 0 3,cl 7 94 #[.tmp 6] #[3] 35,m 5 7 35,o 8 (.extract (.tmp 5) 0) 22,o 9 (.extract (.tmp 5) 1) 34,o 3 (.assign (.tmp 8)) 22,o 4 (.assign (.tmp 9)) 34] false)
 (.seq (.region 2 #[m 10 3 22,o 11 (.call { callee:=.builtin .len,args:=#[.tmp 10],argTypes:=#[22] }) 3,o 2 (.assign (.tmp 11)) 3] false)
 .ret)))
def kp110:Nat → Option (List Nat)
  | 0 => some [0]
  | 1 => some [3]
  | 2 => some [2]
  | _ => none
def fn110:AFn:={ ntmps:=12,results:=[.tmp 2],body:=c110,keep:=kp110,head:=fun  | _ => none,opn:=fun _ => none,dyn:=fun _ => [] }
def c111:Code :=
  (.seq (.region 0 #[o 1 (.box 25 (.tmp 0)) 0,o 2 (.assign (.const .nilFunc)) 153] false)
 (.seq (.region 1 #[o 3 (.makeFunc (.func 114) #[] #[.tmp 1]) 152,o 2 (.assign (.tmp 3)) 153] false)
 .ret))
def kp111:Nat → Option (List Nat)
  | 0 => some [1]
  | 1 => some [2]
  | _ => none
def fn111:AFn:={ ntmps:=4,results:=[.tmp 2],body:=c111,keep:=kp111,head:=fun  | _ => none,opn:=fun _ => none,dyn:=fun _ => [] }
def c112:Code :=
  (.seq (.region 0 #[o 2 (.assign (.const (.int .u32 0))) 25,o 3 (.assign (ci 0)) 3,o 4 (.assign (ci 0)) 34] false)
 (.seq (.seq (.region 1 #[o 3 (.assign (ci 1)) 3] false)
 (.block 0 (.loop (.seq (.block 1 (.seq (.seq (.region 3 #[m 8 3 3,m 9 0 22,o 10 (.call { callee:=.builtin .len,args:=#[.tmp 9],argTypes:=#[22] }) 3,o 11 (.binOp .eql 3 (.tmp 8) (.tmp 10) 3) 4] false)
 (.cond (.tmp 11)
 (.seq (.region 4 #[o 2 (.assign (.const (.int .u32 0))) 25,o 3 (.assign (ci 0)) 3,o 4 (.assign (ci 7)) 34] false)
 .ret)
 .skip))
 (.seq (.region 5 #[m 12 0 22,m 13 3 3,o 14 (.indexAddr 22 (.tmp 12) (.tmp 13)) 0,ld 15 14 5,o 5 (.assign (.tmp 15)) 5] false)
 (.seq (.seq (.region 6 #[m 16 3 3,o 17 (.binOp .eql 3 (.tmp 16) (ci 1) 3) 4,m 18 17 4,gd 19 (.move (.tmp 5)) 5 18 true,gd 20 (.binOp .eql 5 (.tmp 19) (.const (.int .u8 128)) 5) 4 18 true,o 21 (.pick (.tmp 18) (.tmp 20) (.const (.bool false))) 4,m 22 21 4,gd 23 (.move (.tmp 3)) 3 22 false,gd 24 (.binOp .eql 3 (.tmp 23) (ci 4) 3) 4 22 false,gd 25 (.move (.tmp 24)) 4 22 false,gd 26 (.move (.tmp 5)) 5 25 true,gd 27 (.binOp .geq 5 (.tmp 26) (.const (.int .u8 128)) 5) 4 25 true,gd 28 (.pick (.tmp 25) (.tmp 27) (.const (.bool false))) 4 22 false,o 29 (.pick (.tmp 22) (.const (.bool true)) (.tmp 28)) 4] false)
 (.cond (.tmp 29)
 (.seq (.region 7 #[o 2 (.assign (.const (.int .u32 0))) 25,o 3 (.assign (ci 0)) 3,o 4 (.assign (ci 9)) 34] false)
 .ret)
 .skip))
 (.seq (.region 8 #[m 30 2 25,o 31 (.binOp .shl 25 (.tmp 30) (.const (.int .u64 7)) 151) 25,m 32 5 5,o 33 (.binOp .and 5 (.tmp 32) (.const (.int .u8 127)) 5) 5,o 34 (.convert 5 25 (.tmp 33)) 25,o 35 (.binOp .or 25 (.tmp 31) (.tmp 34) 25) 25,o 2 (.assign (.tmp 35)) 25] false)
 (.seq (.region 9 #[m 36 5 5,o 37 (.binOp .lss 5 (.tmp 36) (.const (.int .u8 128)) 5) 4] false)
 (.cond (.tmp 37)
 (.exit 0)
 .skip)))))))
 (.region 2 #[m 6 3 3,o 7 (.binOp .add 3 (.tmp 6) (ci 1) 3) 3,o 3 (.assign (.tmp 7)) 3] false)))))
 (.seq (.seq (.region 10 #[m 38 2 25,o 39 (.binOp .lss 25 (.tmp 38) (.const (.int .u32 31)) 25) 4] false)
 (.cond (.tmp 39)
 (.seq (.region 11 #[o 2 (.assign (.const (.int .u32 0))) 25,o 3 (.assign (ci 0)) 3,o 4 (.assign (ci 9)) 34] false)
 .ret)
 .skip))
 (.seq (.region 12 #[m 40 2 25,m 41 3 3,o 42 (.binOp .add 3 (.tmp 41) (ci 1) 3) 3,o 2 (.assign (.tmp 40)) 25,o 3 (.assign (.tmp 42)) 3,o 4 (.assign (ci 0)) 34] false)
 .ret))))
def kp112:Nat → Option (List Nat)
  | 0 => some [0,2]
  | 1 => some [0,2,3]
  | 2 => some [0,2,3]
  | 3 => some [0,2,3,11]
  | 4 => some [2,3,4]
  | 5 => some [0,2,3,5]
  | 6 => some [0,2,3,5,29]
  | 7 => some [2,3,4]
  | 8 => some [0,2,3,5]
  | 9 => some [0,2,3,37]
  | 10 => some [2,3,39]
  | 11 => some [2,3,4]
  | 12 => some [2,3,4]
  | _ => none
def fn112:AFn:={ ntmps:=43,results:=[.tmp 2,.tmp 3,.tmp 4],body:=c112,keep:=kp112,head:=fun | 3 => some [0,2,3] | _ => none,opn:=fun _ => none,dyn:=fun _ => [] }
def c113:Code :=
  (.seq (.region 0 #[o 4 (.box 30 (.tmp 0)) 0,o 6 (.assign (ci 0)) 34] false)
 (.seq (.seq (.region 1 #[ld 11 2 145,ld 12 4 30,m 13 1 3,o 14 (.call { callee:=.value (.tmp 11),args:=#[.tmp 12,.tmp 13],argTypes:=#[30,3] }) 34,o 7 (.assign (.tmp 14)) 34] false)
 (.seq (.region 2 #[m 15 7 34,o 16 (.binOp .neq 34 (.tmp 15) (ci 0) 34) 4] false)
 (.cond (.tmp 16)
 (.seq (.region 3 #[m 17 7 34,o 6 (.assign (.tmp 17)) 34] false)
 .ret)
 .skip)))
 (.seq (.seq (.region 4 #[fa 18 30 4 2,ld 19 18 28,o 20 (.call { callee:=.builtin .len,args:=#[.tmp 19],argTypes:=#[28] }) 3,o 21 (.move (ci 0)) 3] false)
 (.block 0 (.loop (.seq (.region 5 #[o 22 (.binOp .lss 3 (.tmp 21) (.tmp 20) 3) 0] false)
 (.seq (.cond (.tmp 22)
 .skip
 (.exit 0))
 (.seq (.block 1 (.seq (.region 6 #[o 23 (.indexAddr 28 (.tmp 19) (.tmp 21)) 0,ld 24 23 30,o 9 (.alloc 30) 0,nd (.store 30 (.tmp 9) (.tmp 24))] false)
 (.seq (.region 7 #[ld 25 3 145,ld 26 9 30,m 27 1 3,o 28 (.binOp .add 3 (.tmp 27) (ci 1) 3) 3,o 29 (.call { callee:=.value (.tmp 25),args:=#[.tmp 26,.tmp 28],argTypes:=#[30,3] }) 34,o 10 (.assign (.tmp 29)) 34] false)
 (.seq (.region 8 #[m 30 10 34,o 31 (.binOp .neq 34 (.tmp 30) (ci 0) 34) 4] false)
 (.cond (.tmp 31)
 (.seq (.region 9 #[m 32 10 34,o 6 (.assign (.tmp 32)) 34] false)
 .ret)
 .skip)))))
 (.region 10 #[o 33 (.binOp .add 3 (.tmp 21) (ci 1) 3) 3,m 21 33 3] false)))))))
 (.seq (.region 11 #[o 6 (.assign (ci 0)) 34] false)
 .ret))))
def kp113:Nat → Option (List Nat)
  | 0 => some [1,2,3,4]
  | 1 => some [1,3,4,7]
  | 2 => some [1,3,4,7,16]
  | 3 => some [6]
  | 4 => some [1,3,19,20,21]
  | 5 => some [1,3,19,20,21,22]
  | 6 => some [1,3,9,19,20,21]
  | 7 => some [1,3,10,19,20,21]
  | 8 => some [1,3,10,19,20,21,31]
  | 9 => some [6]
  | 10 => some [1,3,19,20,21]
  | 11 => some [6]
  | _ => none
def fn113:AFn:={ ntmps:=34,results:=[.tmp 6],body:=c113,keep:=kp113,head:=fun | 5 => some [1,3,19,20,21] | _ => none,opn:=opnT,dyn:=fun _ => [] }
def c114:Code :=
  (.seq (.region 0 #[o 3 (.assign (ci 0)) 3] false)
 (.seq (.block 0 (.loop (.seq (.seq (.region 1 #[ld 5 1 25,m 6 3 3,o 7 (.binOp .add 3 (.tmp 6) (ci 7) 3) 3,o 8 (.binOp .shr 25 (.tmp 5) (.tmp 7) 3) 25,o 9 (.binOp .gtr 25 (.tmp 8) (.const (.int .u32 0)) 25) 4] false)
 (.cond (.tmp 9)
 .skip
 (.exit 0)))
 (.block 1 (.region 2 #[m 10 3 3,o 11 (.binOp .add 3 (.tmp 10) (ci 7) 3) 3,o 3 (.assign (.tmp 11)) 3] false)))))
 (.block 2 (.loop (.seq (.seq (.region 3 #[m 12 3 3,o 13 (.binOp .geq 3 (.tmp 12) (ci 0) 3) 4] false)
 (.cond (.tmp 13)
 .skip
 (.exit 2)))
 (.seq (.block 3 (.seq (.region 5 #[ld 16 1 25,m 17 3 3,o 18 (.binOp .shr 25 (.tmp 16) (.tmp 17) 3) 25,o 19 (.convert 25 5 (.tmp 18)) 5,o 20 (.binOp .and 5 (.tmp 19) (.const (.int .u8 127)) 5) 5,o 4 (.assign (.tmp 20)) 5] false)
 (.seq (.seq (.region 6 #[m 21 3 3,o 22 (.binOp .gtr 3 (.tmp 21) (ci 0) 3) 4] false)
 (.cond (.tmp 22)
 (.region 7 #[m 23 4 5,o 24 (.binOp .or 5 (.tmp 23) (.const (.int .u8 128)) 5) 5,o 4 (.assign (.tmp 24)) 5] false)
 .skip))
 (.seq (.region 8 #[m 25 0 159,m 26 4 5,o 27 (.call { callee:=.value (.tmp 25),args:=#[.tmp 26],argTypes:=#[5] }) 4,o 28 (.unOp .not 4 (.tmp 27)) 4] false)
 (.cond (.tmp 28)
 .ret
 .skip)))))
 (.region 4 #[m 14 3 3,o 15 (.binOp .sub 3 (.tmp 14) (ci 7) 3) 3,o 3 (.assign (.tmp 15)) 3] false)))))))
def kp114:Nat → Option (List Nat)
  | 0 => some [0,1,3]
  | 1 => some [0,1,3,9]
  | 2 => some [0,1,3]
  | 3 => some [0,1,3,13]
  | 4 => some [0,1,3]
  | 5 => some [0,1,3,4]
  | 6 => some [0,1,3,4,22]
  | 7 => some [0,1,3,4]
  | 8 => some [0,1,3,28]
  | _ => none
def fn114:AFn:={ ntmps:=29,results:=[],body:=c114,keep:=kp114,head:=fun | 1 => some [0,1,3] | 3 => some [0,1,3] | _ => none,opn:=opnT,dyn:=fun _ => [] }
def fnTab:List (Option AFn):=[none,none,none,none,none,none,none,none,some fn8,some fn9,none,none,none,none,none,none,some fn16,none,some fn18,none,some fn20,some fn21,some fn22,some fn23,some fn24,some fn25,some fn26,some fn27,some fn28,some fn29,some fn30,none,some fn32,none,some fn34,some fn35,some fn36,some fn37,some fn38,some fn39,some fn40,some fn41,none,some fn43,some fn44,some fn45,some fn46,some fn47,some fn48,some fn49,some fn50,some fn51,some fn52,some fn53,some fn54,some fn55,some fn56,some fn57,some fn58,some fn59,none,some fn61,some fn62,some fn63,some fn64,some fn65,some fn66,some fn67,none,some fn69,some fn70,some fn71,some fn72,some fn73,some fn74,some fn75,some fn76,some fn77,some fn78,some fn79,some fn80,some fn81,some fn82,some fn83,some fn84,some fn85,some fn86,some fn87,none,some fn89,some fn90,some fn91,some fn92,some fn93,some fn94,some fn95,some fn96,some fn97,some fn98,some fn99,some fn100,some fn101,some fn102,some fn103,some fn104,some fn105,none,some fn107,some fn108,some fn109,some fn110,some fn111,some fn112,some fn113,some fn114]
def grdT:FuncId → Option Grd
  | 23 => some grd23
  | _ => none
def tyTab:List (Option TyI):=[
  none,
  some ⟨.func,1,8,[.nilf],false⟩,
  some ⟨.int .i64,1,8,[.int .i64 0],false⟩,
  some ⟨.int .i64,1,8,[.int .i64 0],false⟩,
  some ⟨.bool,1,1,[.bool false],false⟩,
  some ⟨.int .u8,1,1,[.int .u8 0],false⟩,
  some ⟨.int .u8,1,1,[.int .u8 0],false⟩,
  some ⟨.strct [(0,2),(1,3),(2,4),(3,6)],4,24,[.int .i64 0,.int .i64 0,.bool false,.int .u8 0],false⟩,
  some ⟨.strct [(0,2),(1,3),(2,4),(3,6)],4,24,[.int .i64 0,.int .i64 0,.bool false,.int .u8 0],false⟩,
  some ⟨.str,1,16,[.str []],false⟩,
  some ⟨.str,1,16,[.str []],false⟩,
  some ⟨.str,1,16,[.str []],false⟩,
  some ⟨.int .u64,1,8,[.int .u64 0],false⟩,
  some ⟨.strct [(0,9),(1,12)],2,24,[.str [],.int .u64 0],false⟩,
  some ⟨.strct [(0,9),(1,12)],2,24,[.str [],.int .u64 0],false⟩,
  some ⟨.ptr 162,1,8,[.nilp],false⟩,
  some ⟨.ptr 165,1,8,[.nilp],false⟩,
  some ⟨.ptr 174,1,8,[.nilp],false⟩,
  some ⟨.strct [(0,17)],1,8,[.nilp],false⟩,
  some ⟨.strct [(0,17)],1,8,[.nilp],false⟩,
  some ⟨.iface true,1,16,[.nili],false⟩,
  some ⟨.int .i32,1,4,[.int .i32 0],false⟩,
  some ⟨.slice 5,1,24,[.sl true [] (some 0)],false⟩,
  some ⟨.func,1,8,[.nilf],false⟩,
  some ⟨.int .u8,1,1,[.int .u8 0],false⟩,
  some ⟨.int .u32,1,4,[.int .u32 0],false⟩,
  some ⟨.strct [(0,24),(1,4),(2,25)],3,8,[.int .u8 0,.bool false,.int .u32 0],false⟩,
  some ⟨.strct [(0,24),(1,4),(2,25)],3,8,[.int .u8 0,.bool false,.int .u32 0],true⟩,
  some ⟨.slice 30,1,24,[.sl true [] (some 0)],false⟩,
  some ⟨.strct [(0,27),(3,22),(4,28)],5,56,[.int .u8 0,.bool false,.int .u32 0,.sl true [] (some 0),.sl true [] (some 0)],false⟩,
  some ⟨.strct [(0,27),(3,22),(4,28)],5,56,[.int .u8 0,.bool false,.int .u32 0,.sl true [] (some 0),.sl true [] (some 0)],false⟩,
  none,
  some ⟨.func,1,8,[.nilf],false⟩,
  some ⟨.func,1,8,[.nilf],false⟩,
  some ⟨.int .i64,1,8,[.int .i64 0],false⟩,
  none,
  some ⟨.func,1,8,[.nilf],false⟩,
  some ⟨.func,1,8,[.nilf],false⟩,
  some ⟨.slice 107,1,24,[.sl true [] (some 0)],false⟩,
  some ⟨.strct [(0,38)],1,24,[.sl true [] (some 0)],false⟩,
  some ⟨.strct [(0,38)],1,24,[.sl true [] (some 0)],false⟩,
  some ⟨.int .u16,1,2,[.int .u16 0],false⟩,
  some ⟨.func,1,8,[.nilf],false⟩,
  none,
  some ⟨.func,1,8,[.nilf],false⟩,
  some ⟨.func,1,8,[.nilf],false⟩,
  some ⟨.func,1,8,[.nilf],false⟩,
  some ⟨.slice 3,1,24,[.sl true [] (some 0)],false⟩,
  none,
  some ⟨.func,1,8,[.nilf],false⟩,
  some ⟨.func,1,8,[.nilf],false⟩,
  some ⟨.func,1,8,[.nilf],false⟩,
  some ⟨.func,1,8,[.nilf],false⟩,
  some ⟨.func,1,8,[.nilf],false⟩,
  some ⟨.func,1,8,[.nilf],false⟩,
  some ⟨.func,1,8,[.nilf],false⟩,
  none,
  some ⟨.func,1,8,[.nilf],false⟩,
  some ⟨.func,1,8,[.nilf],false⟩,
  some ⟨.func,1,8,[.nilf],false⟩,
  some ⟨.func,1,8,[.nilf],false⟩,
  some ⟨.func,1,8,[.nilf],false⟩,
  none,
  some ⟨.func,1,8,[.nilf],false⟩,
  some ⟨.strct [(0,22)],1,24,[.sl true [] (some 0)],false⟩,
  some ⟨.strct [(0,22)],1,24,[.sl true [] (some 0)],false⟩,
  some ⟨.slice 125,1,24,[.sl true [] (some 0)],false⟩,
  some ⟨.slice 78,1,24,[.sl true [] (some 0)],false⟩,
  some ⟨.func,1,8,[.nilf],false⟩,
  some ⟨.func,1,8,[.nilf],false⟩,
  some ⟨.strct [(0,47),(1,34)],2,32,[.sl true [] (some 0),.int .i64 0],false⟩,
  some ⟨.strct [(0,47),(1,34)],2,32,[.sl true [] (some 0),.int .i64 0],false⟩,
  none,
  some ⟨.func,1,8,[.nilf],false⟩,
  some ⟨.func,1,8,[.nilf],false⟩,
  some ⟨.func,1,8,[.nilf],false⟩,
  some ⟨.func,1,8,[.nilf],false⟩,
  some ⟨.strct [(0,27),(3,4),(4,4)],5,12,[.int .u8 0,.bool false,.int .u32 0,.bool false,.bool false],false⟩,
  some ⟨.strct [(0,27),(3,4),(4,4)],5,12,[.int .u8 0,.bool false,.int .u32 0,.bool false,.bool false],false⟩,
  some ⟨.func,1,8,[.nilf],false⟩,
  some ⟨.func,1,8,[.nilf],false⟩,
  some ⟨.func,1,8,[.nilf],false⟩,
  some ⟨.arr 2 3,2,16,[.int .i64 0,.int .i64 0],false⟩,
  some ⟨.func,1,8,[.nilf],false⟩,
  none,
  some ⟨.func,1,8,[.nilf],false⟩,
  some ⟨.func,1,8,[.nilf],false⟩,
  some ⟨.func,1,8,[.nilf],false⟩,
  some ⟨.func,1,8,[.nilf],false⟩,
  some ⟨.func,1,8,[.nilf],false⟩,
  some ⟨.func,1,8,[.nilf],false⟩,
  none,
  some ⟨.func,1,8,[.nilf],false⟩,
  some ⟨.func,1,8,[.nilf],false⟩,
  some ⟨.func,1,8,[.nilf],false⟩,
  some ⟨.func,1,8,[.nilf],false⟩,
  some ⟨.func,1,8,[.nilf],false⟩,
  some ⟨.ptr 3,1,8,[.nilp],false⟩,
  some ⟨.func,1,8,[.nilf],false⟩,
  some ⟨.func,1,8,[.nilf],false⟩,
  some ⟨.func,1,8,[.nilf],false⟩,
  none,
  some ⟨.func,1,8,[.nilf],false⟩,
  some ⟨.func,1,8,[.nilf],false⟩,
  some ⟨.strct [(0,5),(1,5),(2,25)],3,8,[.int .u8 0,.int .u8 0,.int .u32 0],false⟩,
  some ⟨.strct [(0,5),(1,5),(2,25)],3,8,[.int .u8 0,.int .u8 0,.int .u32 0],false⟩,
  some ⟨.strct [(0,5),(1,5),(2,105),(5,22)],6,40,[.int .u8 0,.int .u8 0,.int .u8 0,.int .u8 0,.int .u32 0,.sl true [] (some 0)],false⟩,
  some ⟨.strct [(0,5),(1,5),(2,105),(5,22)],6,40,[.int .u8 0,.int .u8 0,.int .u8 0,.int .u8 0,.int .u32 0,.sl true [] (some 0)],false⟩,
  some ⟨.func,1,8,[.nilf],false⟩,
  some ⟨.strct [(0,3),(1,34)],2,16,[.int .i64 0,.int .i64 0],false⟩,
  some ⟨.strct [(0,3),(1,34)],2,16,[.int .i64 0,.int .i64 0],false⟩,
  none,
  some ⟨.strct [(0,22),(1,3)],2,32,[.sl true [] (some 0),.int .i64 0],false⟩,
  some ⟨.strct [(0,22),(1,3)],2,32,[.sl true [] (some 0),.int .i64 0],false⟩,
  none,
  some ⟨.func,1,8,[.nilf],false⟩,
  none,
  some ⟨.func,1,8,[.nilf],false⟩,
  some ⟨.func,1,8,[.nilf],false⟩,
  some ⟨.func,1,8,[.nilf],false⟩,
  some ⟨.func,1,8,[.nilf],false⟩,
  some ⟨.func,1,8,[.nilf],false⟩,
  none,
  some ⟨.func,1,8,[.nilf],false⟩,
  some ⟨.strct [(0,5),(1,5)],2,2,[.int .u8 0,.int .u8 0],false⟩,
  some ⟨.strct [(0,5),(1,5)],2,2,[.int .u8 0,.int .u8 0],false⟩,
  some ⟨.func,1,8,[.nilf],false⟩,
  some ⟨.func,1,8,[.nilf],false⟩,
  some ⟨.func,1,8,[.nilf],false⟩,
  none,
  some ⟨.func,1,8,[.nilf],false⟩,
  none,
  some ⟨.func,1,8,[.nilf],false⟩,
  some ⟨.func,1,8,[.nilf],false⟩,
  some ⟨.func,1,8,[.nilf],false⟩,
  some ⟨.func,1,8,[.nilf],false⟩,
  some ⟨.ptr 113,1,8,[.nilp],false⟩,
  none,
  some ⟨.func,1,8,[.nilf],false⟩,
  none,
  some ⟨.func,1,8,[.nilf],false⟩,
  some ⟨.func,1,8,[.nilf],false⟩,
  some ⟨.func,1,8,[.nilf],false⟩,
  some ⟨.func,1,8,[.nilf],false⟩,
  some ⟨.func,1,8,[.nilf],false⟩,
  some ⟨.func,1,8,[.nilf],false⟩,
  some ⟨.func,1,8,[.nilf],false⟩,
  some ⟨.func,1,8,[.nilf],false⟩,
  some ⟨.func,1,8,[.nilf],false⟩,
  some ⟨.func,1,8,[.nilf],false⟩,
  some ⟨.func,1,8,[.nilf],false⟩,
  some ⟨.int .u64,1,8,[.int .u64 0],false⟩,
  some ⟨.func,1,8,[.nilf],false⟩,
  some ⟨.func,1,8,[.nilf],false⟩,
  some ⟨.func,1,8,[.nilf],false⟩,
  none,
  some ⟨.func,1,8,[.nilf],false⟩,
  some ⟨.arr 3 5,3,3,[.int .u8 0,.int .u8 0,.int .u8 0],false⟩,
  some ⟨.arr 3 5,3,3,[.int .u8 0,.int .u8 0,.int .u8 0],false⟩,
  some ⟨.func,1,8,[.nilf],false⟩,
  some ⟨.func,1,8,[.nilf],false⟩,
  some ⟨.strct [(0,17),(1,17),(2,17),(3,9)],4,40,[.nilp,.nilp,.nilp,.str []],false⟩,
  some ⟨.strct [(0,17),(1,17),(2,17),(3,9)],4,40,[.nilp,.nilp,.nilp,.str []],false⟩,
  some ⟨.arr 0 16,0,0,[],false⟩,
  some ⟨.strct [(0,163)],0,0,[],false⟩,
  some ⟨.strct [(0,163)],0,0,[],false⟩,
  some ⟨.func,1,8,[.nilf],false⟩,
  some ⟨.int .u8,1,1,[.int .u8 0],false⟩,
  some ⟨.int .u8,1,1,[.int .u8 0],false⟩,
  some ⟨.func,1,8,[.nilf],false⟩,
  some ⟨.ptr 5,1,8,[.nilp],false⟩,
  some ⟨.int .i32,1,4,[.int .i32 0],false⟩,
  some ⟨.int .i32,1,4,[.int .i32 0],false⟩,
  some ⟨.strct [(0,12),(1,12),(2,25),(3,167),(4,5),(5,5),(6,168),(7,169),(8,170),(9,171),(10,172)],11,48,[.int .u64 0,.int .u64 0,.int .u32 0,.int .u8 0,.int .u8 0,.int .u8 0,.int .u8 0,.nilf,.nilp,.int .i32 0,.int .i32 0],false⟩,
  some ⟨.strct [(0,12),(1,12),(2,25),(3,167),(4,5),(5,5),(6,168),(7,169),(8,170),(9,171),(10,172)],11,48,[.int .u64 0,.int .u64 0,.int .u32 0,.int .u8 0,.int .u8 0,.int .u8 0,.int .u8 0,.nilf,.nilp,.int .i32 0,.int .i32 0],false⟩,
  none]
def E:Env:={ fn:=getT fnTab,ty:=getT tyTab,prim:=primT,grd:=grdT,ext:=fun i => i == 106,glob:=fun _ => none }
@[simp] theorem E_ext (i):E.ext i=(i == 106):=id rfl
def E0:Env:={ E with prim:=fun _ => none }
@[simp] theorem E_prim (i):E.prim i=primT i:=rfl
@[simp] theorem E_glob (i):E.glob i=none:=rfl
@[simp] theorem ntmps_8:fn8.ntmps=56:=rfl
@[simp] theorem results_8:fn8.results=[.tmp 4]:=rfl
theorem body_8:fn8.body=c8:=rfl
@[simp] theorem dyn_8:fn8.dyn=fun _ => []:=id rfl
@[simp] theorem opn_8:fn8.opn=fun _ => none:=id rfl
@[simp] theorem keep_8 (i):fn8.keep i=kp8 i:=rfl
attribute [simp] kp8
@[simp] theorem ntmps_9:fn9.ntmps=123:=rfl
@[simp] theorem results_9:fn9.results=[.tmp 2]:=rfl
theorem body_9:fn9.body=c9:=rfl
@[simp] theorem dyn_9:fn9.dyn=fun _ => []:=id rfl
@[simp] theorem opn_9:fn9.opn=fun _ => none:=id rfl
@[simp] theorem keep_9 (i):fn9.keep i=kp9 i:=rfl
attribute [simp] kp9
@[simp] theorem ntmps_16:fn16.ntmps=237:=rfl
@[simp] theorem results_16:fn16.results=[.tmp 6]:=rfl
theorem body_16:fn16.body=c16:=rfl
@[simp] theorem dyn_16:fn16.dyn=fun _ => []:=id rfl
@[simp] theorem opn_16:fn16.opn=opn16:=id rfl
@[simp] theorem opn16_21:opn16 21=none:=id rfl
@[simp] theorem opn16_32:opn16 32=none:=id rfl
@[simp] theorem opn16_44:opn16 44=none:=id rfl
@[simp] theorem opn16_45:opn16 45=none:=id rfl
@[simp] theorem opn16_46:opn16 46=none:=id rfl
@[simp] theorem opn16_47:opn16 47=none:=id rfl
@[simp] theorem opn16_48:opn16 48=none:=id rfl
@[simp] theorem opn16_49:opn16 49=none:=id rfl
@[simp] theorem opn16_50:opn16 50=none:=id rfl
@[simp] theorem opn16_51:opn16 51=none:=id rfl
@[simp] theorem opn16_52:opn16 52=some ([false],false):=id rfl
@[simp] theorem opn16_56:opn16 56=none:=id rfl
@[simp] theorem opn16_57:opn16 57=none:=id rfl
@[simp] theorem opn16_58:opn16 58=none:=id rfl
@[simp] theorem opn16_59:opn16 59=none:=id rfl
@[simp] theorem opn16_61:opn16 61=none:=id rfl
@[simp] theorem opn16_62:opn16 62=none:=id rfl
@[simp] theorem opn16_63:opn16 63=none:=id rfl
@[simp] theorem opn16_64:opn16 64=none:=id rfl
@[simp] theorem opn16_65:opn16 65=some ([false,true,false],true):=id rfl
@[simp] theorem opn16_66:opn16 66=none:=id rfl
@[simp] theorem opn16_67:opn16 67=none:=id rfl
@[simp] theorem keep_16 (i):fn16.keep i=kp16 i:=rfl
attribute [simp] kp16
@[simp] theorem head_16_7:fn16.head 7=some [1,3,5,8,9,10]:=rfl
@[simp] theorem ntmps_18:fn18.ntmps=122:=rfl
@[simp] theorem results_18:fn18.results=[.tmp 0]:=rfl
theorem body_18:fn18.body=c18:=rfl
@[simp] theorem dyn_18:fn18.dyn=fun _ => []:=id rfl
@[simp] theorem opn_18:fn18.opn=fun _ => none:=id rfl
@[simp] theorem keep_18 (i):fn18.keep i=kp18 i:=rfl
attribute [simp] kp18
@[simp] theorem ntmps_20:fn20.ntmps=40:=rfl
@[simp] theorem results_20:fn20.results=[.tmp 8]:=rfl
theorem body_20:fn20.body=c20:=rfl
@[simp] theorem dyn_20:fn20.dyn=fun _ => []:=id rfl
@[simp] theorem opn_20:fn20.opn=fun _ => none:=id rfl
@[simp] theorem keep_20 (i):fn20.keep i=kp20 i:=rfl
attribute [simp] kp20
@[simp] theorem ntmps_21:fn21.ntmps=19:=rfl
@[simp] theorem results_21:fn21.results=[.tmp 2,.tmp 3]:=rfl
theorem body_21:fn21.body=c21:=rfl
@[simp] theorem dyn_21_7:fn21.dyn 7=[(3,3)]:=id rfl
@[simp] theorem opn_21:fn21.opn=opnT:=id rfl
@[simp] theorem keep_21 (i):fn21.keep i=kp21 i:=rfl
attribute [simp] kp21
@[simp] theorem ntmps_22:fn22.ntmps=102:=rfl
@[simp] theorem results_22:fn22.results=[.cell 2 30]:=rfl
theorem body_22:fn22.body=c22:=rfl
@[simp] theorem dyn_22_9:fn22.dyn 9=[]:=id rfl
@[simp] theorem dyn_22_16:fn22.dyn 16=[]:=id rfl
@[simp] theorem dyn_22_18:fn22.dyn 18=[(7,8)]:=id rfl
@[simp] theorem opn_22:fn22.opn=fun _ => none:=id rfl
@[simp] theorem keep_22 (i):fn22.keep i=kp22 i:=rfl
attribute [simp] kp22
@[simp] theorem head_22_3:fn22.head 3=some [1,2,3,4]:=rfl
@[simp] theorem ntmps_23:fn23.ntmps=22:=rfl
@[simp] theorem results_23:fn23.results=[.cell 2 30,.cell 3 3,.cell 4 3,.cell 5 34]:=rfl
@[simp] theorem dyn_23_6:fn23.dyn 6=[(1,2)]:=id rfl
@[simp] theorem opn_23:fn23.opn=opnT:=id rfl
@[simp] theorem keep_23_0:fn23.keep 0=some [0,2,3,4,5]:=rfl
@[simp] theorem keep_23_1:fn23.keep 1=some [0,2,3,4,5,9]:=rfl
@[simp] theorem keep_23_2:fn23.keep 2=some [2,3,4,5]:=rfl
@[simp] theorem keep_23_3:fn23.keep 3=some [0,2,3,4,5]:=rfl
@[simp] theorem keep_23_4:fn23.keep 4=some [0,2,3,4,5,6]:=rfl
@[simp] theorem keep_23_5:fn23.keep 5=some [2,3,4,5]:=rfl
@[simp] theorem keep_23_6:fn23.keep 6=some [2,3,4,5]:=rfl
@[simp] theorem ntmps_24:fn24.ntmps=48:=rfl
@[simp] theorem results_24:fn24.results=[.tmp 4]:=rfl
theorem body_24:fn24.body=c24:=rfl
@[simp] theorem dyn_24:fn24.dyn=fun _ => []:=id rfl
@[simp] theorem opn_24:fn24.opn=fun _ => none:=id rfl
@[simp] theorem keep_24 (i):fn24.keep i=kp24 i:=rfl
attribute [simp] kp24
@[simp] theorem head_24_4:fn24.head 4=some [2,3,5]:=rfl
@[simp] theorem ntmps_25:fn25.ntmps=39:=rfl
@[simp] theorem results_25:fn25.results=[.cell 4 30,.tmp 5]:=rfl
theorem body_25:fn25.body=c25:=rfl
@[simp] theorem dyn_25:fn25.dyn=fun _ => []:=id rfl
@[simp] theorem opn_25:fn25.opn=fun _ => none:=id rfl
@[simp] theorem keep_25 (i):fn25.keep i=kp25 i:=rfl
attribute [simp] kp25
@[simp] theorem head_25_5:fn25.head 5=some [2,4,15,16,17]:=rfl
@[simp] theorem ntmps_26:fn26.ntmps=33:=rfl
@[simp] theorem results_26:fn26.results=[.tmp 4]:=rfl
theorem body_26:fn26.body=c26:=rfl
@[simp] theorem dyn_26:fn26.dyn=fun _ => []:=id rfl
@[simp] theorem opn_26:fn26.opn=fun _ => none:=id rfl
@[simp] theorem keep_26 (i):fn26.keep i=kp26 i:=rfl
attribute [simp] kp26
@[simp] theorem head_26_5:fn26.head 5=some [1,2,5,6]:=rfl
@[simp] theorem ntmps_27:fn27.ntmps=34:=rfl
@[simp] theorem results_27:fn27.results=[.tmp 2]:=rfl
theorem body_27:fn27.body=c27:=rfl
@[simp] theorem dyn_27:fn27.dyn=fun _ => []:=id rfl
@[simp] theorem opn_27:fn27.opn=fun _ => none:=id rfl
@[simp] theorem keep_27 (i):fn27.keep i=kp27 i:=rfl
attribute [simp] kp27
@[simp] theorem head_27_4:fn27.head 4=some [1,3]:=rfl
@[simp] theorem ntmps_28:fn28.ntmps=12:=rfl
@[simp] theorem results_28:fn28.results=[.tmp 2]:=rfl
theorem body_28:fn28.body=c28:=rfl
@[simp] theorem dyn_28:fn28.dyn=fun _ => []:=id rfl
@[simp] theorem opn_28:fn28.opn=fun _ => none:=id rfl
@[simp] theorem keep_28 (i):fn28.keep i=kp28 i:=rfl
attribute [simp] kp28
@[simp] theorem ntmps_29:fn29.ntmps=13:=rfl
@[simp] theorem results_29:fn29.results=[.tmp 2]:=rfl
theorem body_29:fn29.body=c29:=rfl
@[simp] theorem dyn_29:fn29.dyn=fun _ => []:=id rfl
@[simp] theorem opn_29:fn29.opn=fun _ => none:=id rfl
@[simp] theorem keep_29 (i):fn29.keep i=kp29 i:=rfl
attribute [simp] kp29
@[simp] theorem ntmps_30:fn30.ntmps=13:=rfl
@[simp] theorem results_30:fn30.results=[.tmp 2]:=rfl
theorem body_30:fn30.body=c30:=rfl
@[simp] theorem dyn_30:fn30.dyn=fun _ => []:=id rfl
@[simp] theorem opn_30:fn30.opn=fun _ => none:=id rfl
@[simp] theorem keep_30 (i):fn30.keep i=kp30 i:=rfl
attribute [simp] kp30
@[simp] theorem ntmps_32:fn32.ntmps=13:=rfl
@[simp] theorem results_32:fn32.results=[.tmp 2]:=rfl
theorem body_32:fn32.body=c32:=rfl
@[simp] theorem dyn_32:fn32.dyn=fun _ => []:=id rfl
@[simp] theorem opn_32:fn32.opn=fun _ => none:=id rfl
@[simp] theorem keep_32 (i):fn32.keep i=kp32 i:=rfl
attribute [simp] kp32
@[simp] theorem ntmps_34:fn34.ntmps=27:=rfl
@[simp] theorem results_34:fn34.results=[.cell 2 30,.tmp 3,.tmp 4]:=rfl
theorem body_34:fn34.body=c34:=rfl
@[simp] theorem dyn_34:fn34.dyn=fun _ => []:=id rfl
@[simp] theorem opn_34:fn34.opn=fun _ => none:=id rfl
@[simp] theorem keep_34 (i):fn34.keep i=kp34 i:=rfl
attribute [simp] kp34
@[simp] theorem ntmps_35:fn35.ntmps=33:=rfl
@[simp] theorem results_35:fn35.results=[.tmp 2]:=rfl
theorem body_35:fn35.body=c35:=rfl
@[simp] theorem dyn_35:fn35.dyn=fun _ => []:=id rfl
@[simp] theorem opn_35:fn35.opn=opnT:=id rfl
@[simp] theorem keep_35 (i):fn35.keep i=kp35 i:=rfl
attribute [simp] kp35
@[simp] theorem head_35_3:fn35.head 3=some [1,3,4]:=rfl
@[simp] theorem ntmps_36:fn36.ntmps=18:=rfl
@[simp] theorem results_36:fn36.results=[.tmp 4]:=rfl
theorem body_36:fn36.body=c36:=rfl
@[simp] theorem dyn_36:fn36.dyn=fun _ => []:=id rfl
@[simp] theorem opn_36:fn36.opn=fun _ => none:=id rfl
@[simp] theorem keep_36 (i):fn36.keep i=kp36 i:=rfl
attribute [simp] kp36
@[simp] theorem ntmps_37:fn37.ntmps=22:=rfl
@[simp] theorem results_37:fn37.results=[.tmp 4]:=rfl
theorem body_37:fn37.body=c37:=rfl
@[simp] theorem dyn_37:fn37.dyn=fun _ => []:=id rfl
@[simp] theorem opn_37:fn37.opn=fun _ => none:=id rfl
@[simp] theorem keep_37 (i):fn37.keep i=kp37 i:=rfl
attribute [simp] kp37
@[simp] theorem ntmps_38:fn38.ntmps=25:=rfl
@[simp] theorem results_38:fn38.results=[.tmp 2]:=rfl
theorem body_38:fn38.body=c38:=rfl
@[simp] theorem dyn_38:fn38.dyn=fun _ => []:=id rfl
@[simp] theorem opn_38:fn38.opn=fun _ => none:=id rfl
@[simp] theorem keep_38 (i):fn38.keep i=kp38 i:=rfl
attribute [simp] kp38
@[simp] theorem head_38_6:fn38.head 6=some [1,3]:=rfl
@[simp] theorem ntmps_39:fn39.ntmps=70:=rfl
@[simp] theorem results_39:fn39.results=[.tmp 6,.tmp 7]:=rfl
theorem body_39:fn39.body=c39:=rfl
@[simp] theorem dyn_39:fn39.dyn=fun _ => []:=id rfl
@[simp] theorem opn_39:fn39.opn=fun _ => none:=id rfl
@[simp] theorem keep_39 (i):fn39.keep i=kp39 i:=rfl
attribute [simp] kp39
@[simp] theorem head_39_12:fn39.head 12=some [1,3,9,10]:=rfl
@[simp] theorem ntmps_40:fn40.ntmps=22:=rfl
@[simp] theorem results_40:fn40.results=[.tmp 2]:=rfl
theorem body_40:fn40.body=c40:=rfl
@[simp] theorem dyn_40:fn40.dyn=fun _ => []:=id rfl
@[simp] theorem opn_40:fn40.opn=fun _ => none:=id rfl
@[simp] theorem keep_40 (i):fn40.keep i=kp40 i:=rfl
attribute [simp] kp40
@[simp] theorem head_40_3:fn40.head 3=some [1,3,4]:=rfl
@[simp] theorem ntmps_41:fn41.ntmps=9:=rfl
@[simp] theorem results_41:fn41.results=[.cell 0 30]:=rfl
theorem body_41:fn41.body=c41:=rfl
@[simp] theorem dyn_41:fn41.dyn=fun _ => []:=id rfl
@[simp] theorem opn_41:fn41.opn=fun _ => none:=id rfl
@[simp] theorem keep_41 (i):fn41.keep i=kp41 i:=rfl
attribute [simp] kp41
@[simp] theorem ntmps_43:fn43.ntmps=41:=rfl
@[simp] theorem results_43:fn43.results=[.tmp 2]:=rfl
theorem body_43:fn43.body=c43:=rfl
@[simp] theorem dyn_43:fn43.dyn=fun _ => []:=id rfl
@[simp] theorem opn_43:fn43.opn=fun _ => none:=id rfl
@[simp] theorem keep_43 (i):fn43.keep i=kp43 i:=rfl
attribute [simp] kp43
@[simp] theorem head_43_3:fn43.head 3=some [0,3,4]:=rfl
@[simp] theorem ntmps_44:fn44.ntmps=33:=rfl
@[simp] theorem results_44:fn44.results=[.cell 2 27]:=rfl
theorem body_44:fn44.body=c44:=rfl
@[simp] theorem dyn_44:fn44.dyn=fun _ => []:=id rfl
@[simp] theorem opn_44:fn44.opn=fun _ => none:=id rfl
@[simp] theorem keep_44 (i):fn44.keep i=kp44 i:=rfl
attribute [simp] kp44
@[simp] theorem ntmps_45:fn45.ntmps=83:=rfl
@[simp] theorem results_45:fn45.results=[.tmp 6,.cell 7 71]:=rfl
theorem body_45:fn45.body=c45:=rfl
@[simp] theorem dyn_45:fn45.dyn=fun _ => []:=id rfl
@[simp] theorem opn_45:fn45.opn=opnT:=id rfl
@[simp] theorem keep_45 (i):fn45.keep i=kp45 i:=rfl
attribute [simp] kp45
@[simp] theorem head_45_8:fn45.head 8=some [3,7,8,9,27,28,29]:=rfl
@[simp] theorem ntmps_46:fn46.ntmps=83:=rfl
@[simp] theorem results_46:fn46.results=[.tmp 6,.cell 7 71]:=rfl
theorem body_46:fn46.body=c46:=rfl
@[simp] theorem dyn_46:fn46.dyn=fun _ => []:=id rfl
@[simp] theorem opn_46:fn46.opn=fun _ => none:=id rfl
@[simp] theorem keep_46 (i):fn46.keep i=kp46 i:=rfl
attribute [simp] kp46
@[simp] theorem head_46_8:fn46.head 8=some [2,3,7,8,9,10]:=rfl
@[simp] theorem ntmps_47:fn47.ntmps=26:=rfl
@[simp] theorem results_47:fn47.results=[.tmp 4]:=rfl
theorem body_47:fn47.body=c47:=rfl
@[simp] theorem dyn_47:fn47.dyn=fun _ => []:=id rfl
@[simp] theorem opn_47:fn47.opn=fun _ => none:=id rfl
@[simp] theorem keep_47 (i):fn47.keep i=kp47 i:=rfl
attribute [simp] kp47
@[simp] theorem head_47_4:fn47.head 4=some [0,1,5]:=rfl
@[simp] theorem ntmps_48:fn48.ntmps=47:=rfl
@[simp] theorem results_48:fn48.results=[.tmp 4]:=rfl
theorem body_48:fn48.body=c48:=rfl
@[simp] theorem dyn_48:fn48.dyn=fun _ => []:=id rfl
@[simp] theorem opn_48:fn48.opn=fun _ => none:=id rfl
@[simp] theorem keep_48 (i):fn48.keep i=kp48 i:=rfl
attribute [simp] kp48
@[simp] theorem head_48_4:fn48.head 4=some [2,3,5]:=rfl
@[simp] theorem ntmps_49:fn49.ntmps=48:=rfl
@[simp] theorem results_49:fn49.results=[.tmp 4]:=rfl
theorem body_49:fn49.body=c49:=rfl
@[simp] theorem dyn_49:fn49.dyn=fun _ => []:=id rfl
@[simp] theorem opn_49:fn49.opn=fun _ => none:=id rfl
@[simp] theorem keep_49 (i):fn49.keep i=kp49 i:=rfl
attribute [simp] kp49
@[simp] theorem head_49_4:fn49.head 4=some [2,3,5]:=rfl
@[simp] theorem ntmps_50:fn50.ntmps=201:=rfl
@[simp] theorem results_50:fn50.results=[.tmp 0]:=rfl
theorem body_50:fn50.body=c50:=rfl
@[simp] theorem dyn_50:fn50.dyn=fun _ => []:=id rfl
@[simp] theorem opn_50:fn50.opn=fun _ => none:=id rfl
@[simp] theorem keep_50 (i):fn50.keep i=kp50 i:=rfl
attribute [simp] kp50
@[simp] theorem ntmps_51:fn51.ntmps=47:=rfl
@[simp] theorem results_51:fn51.results=[.cell 2 71]:=rfl
theorem body_51:fn51.body=c51:=rfl
@[simp] theorem dyn_51:fn51.dyn=fun _ => []:=id rfl
@[simp] theorem opn_51:fn51.opn=fun _ => none:=id rfl
@[simp] theorem keep_51 (i):fn51.keep i=kp51 i:=rfl
attribute [simp] kp51
@[simp] theorem head_51_2:fn51.head 2=some [1,2,8,9,10]:=rfl
@[simp] theorem ntmps_52:fn52.ntmps=39:=rfl
@[simp] theorem results_52:fn52.results=[.cell 2 71]:=rfl
theorem body_52:fn52.body=c52:=rfl
@[simp] theorem dyn_52:fn52.dyn=fun _ => []:=id rfl
@[simp] theorem opn_52:fn52.opn=opn52:=id rfl
@[simp] theorem opn52_67:opn52 67=some ([false,false],false):=id rfl
@[simp] theorem opn52_84:opn52 84=none:=id rfl
@[simp] theorem keep_52 (i):fn52.keep i=kp52 i:=rfl
attribute [simp] kp52
@[simp] theorem head_52_2:fn52.head 2=some [1,2,3]:=rfl
@[simp] theorem ntmps_53:fn53.ntmps=27:=rfl
@[simp] theorem results_53:fn53.results=[.cell 4 71]:=rfl
theorem body_53:fn53.body=c53:=rfl
@[simp] theorem dyn_53:fn53.dyn=fun _ => []:=id rfl
@[simp] theorem opn_53:fn53.opn=fun _ => none:=id rfl
@[simp] theorem keep_53 (i):fn53.keep i=kp53 i:=rfl
attribute [simp] kp53
@[simp] theorem ntmps_54:fn54.ntmps=21:=rfl
@[simp] theorem results_54:fn54.results=[.tmp 4,.tmp 5]:=rfl
theorem body_54:fn54.body=c54:=rfl
@[simp] theorem dyn_54:fn54.dyn=fun _ => []:=id rfl
@[simp] theorem opn_54:fn54.opn=fun _ => none:=id rfl
@[simp] theorem keep_54 (i):fn54.keep i=kp54 i:=rfl
attribute [simp] kp54
@[simp] theorem ntmps_55:fn55.ntmps=10:=rfl
@[simp] theorem results_55:fn55.results=[.cell 0 30]:=rfl
theorem body_55:fn55.body=c55:=rfl
@[simp] theorem dyn_55:fn55.dyn=fun _ => []:=id rfl
@[simp] theorem opn_55:fn55.opn=fun _ => none:=id rfl
@[simp] theorem keep_55 (i):fn55.keep i=kp55 i:=rfl
attribute [simp] kp55
@[simp] theorem ntmps_56:fn56.ntmps=50:=rfl
@[simp] theorem results_56:fn56.results=[.cell 8 71]:=rfl
theorem body_56:fn56.body=c56:=rfl
@[simp] theorem dyn_56:fn56.dyn=fun _ => []:=id rfl
@[simp] theorem opn_56:fn56.opn=fun _ => none:=id rfl
@[simp] theorem keep_56 (i):fn56.keep i=kp56 i:=rfl
attribute [simp] kp56
@[simp] theorem ntmps_57:fn57.ntmps=41:=rfl
@[simp] theorem results_57:fn57.results=[.cell 8 71]:=rfl
theorem body_57:fn57.body=c57:=rfl
@[simp] theorem dyn_57:fn57.dyn=fun _ => []:=id rfl
@[simp] theorem opn_57:fn57.opn=fun _ => none:=id rfl
@[simp] theorem keep_57 (i):fn57.keep i=kp57 i:=rfl
attribute [simp] kp57
@[simp] theorem ntmps_58:fn58.ntmps=26:=rfl
@[simp] theorem results_58:fn58.results=[.cell 4 71]:=rfl
theorem body_58:fn58.body=c58:=rfl
@[simp] theorem dyn_58:fn58.dyn=fun _ => []:=id rfl
@[simp] theorem opn_58:fn58.opn=fun _ => none:=id rfl
@[simp] theorem keep_58 (i):fn58.keep i=kp58 i:=rfl
attribute [simp] kp58
@[simp] theorem ntmps_59:fn59.ntmps=34:=rfl
@[simp] theorem results_59:fn59.results=[.cell 4 71]:=rfl
theorem body_59:fn59.body=c59:=rfl
@[simp] theorem dyn_59:fn59.dyn=fun _ => []:=id rfl
@[simp] theorem opn_59:fn59.opn=fun _ => none:=id rfl
@[simp] theorem keep_59 (i):fn59.keep i=kp59 i:=rfl
attribute [simp] kp59
@[simp] theorem ntmps_61:fn61.ntmps=38:=rfl
@[simp] theorem results_61:fn61.results=[.cell 4 30,.tmp 5]:=rfl
theorem body_61:fn61.body=c61:=rfl
@[simp] theorem dyn_61:fn61.dyn=fun _ => []:=id rfl
@[simp] theorem opn_61:fn61.opn=fun _ => none:=id rfl
@[simp] theorem keep_61 (i):fn61.keep i=kp61 i:=rfl
attribute [simp] kp61
@[simp] theorem head_61_2:fn61.head 2=some [1,2,4,6]:=rfl
@[simp] theorem ntmps_62:fn62.ntmps=27:=rfl
@[simp] theorem results_62:fn62.results=[.cell 4 30,.tmp 5]:=rfl
theorem body_62:fn62.body=c62:=rfl
@[simp] theorem dyn_62:fn62.dyn=fun _ => []:=id rfl
@[simp] theorem opn_62:fn62.opn=opn62:=id rfl
@[simp] theorem opn62_85:opn62 85=none:=id rfl
@[simp] theorem opn62_86:opn62 86=some ([false],false):=id rfl
@[simp] theorem keep_62 (i):fn62.keep i=kp62 i:=rfl
attribute [simp] kp62
@[simp] theorem head_62_3:fn62.head 3=some [2,4,9,10,11]:=rfl
@[simp] theorem ntmps_63:fn63.ntmps=49:=rfl
@[simp] theorem results_63:fn63.results=[.tmp 4,.tmp 5]:=rfl
theorem body_63:fn63.body=c63:=rfl
@[simp] theorem dyn_63:fn63.dyn=fun _ => []:=id rfl
@[simp] theorem opn_63:fn63.opn=fun _ => none:=id rfl
@[simp] theorem keep_63 (i):fn63.keep i=kp63 i:=rfl
attribute [simp] kp63
@[simp] theorem head_63_6:fn63.head 6=some [2,8,21,22,23]:=rfl
@[simp] theorem ntmps_64:fn64.ntmps=66:=rfl
@[simp] theorem results_64:fn64.results=[.tmp 4]:=rfl
theorem body_64:fn64.body=c64:=rfl
@[simp] theorem dyn_64:fn64.dyn=fun _ => []:=id rfl
@[simp] theorem opn_64:fn64.opn=fun _ => none:=id rfl
@[simp] theorem keep_64 (i):fn64.keep i=kp64 i:=rfl
attribute [simp] kp64
@[simp] theorem head_64_3:fn64.head 3=some [1,2,5,6]:=rfl
@[simp] theorem head_64_9:fn64.head 9=some [1,2,5,6,7,8]:=rfl
@[simp] theorem ntmps_65:fn65.ntmps=51:=rfl
@[simp] theorem results_65:fn65.results=[.tmp 6]:=rfl
theorem body_65:fn65.body=c65:=rfl
@[simp] theorem dyn_65:fn65.dyn=fun _ => []:=id rfl
@[simp] theorem opn_65:fn65.opn=opnT:=id rfl
@[simp] theorem keep_65 (i):fn65.keep i=kp65 i:=rfl
attribute [simp] kp65
@[simp] theorem head_65_5:fn65.head 5=some [1,2,3,7]:=rfl
@[simp] theorem ntmps_66:fn66.ntmps=30:=rfl
@[simp] theorem results_66:fn66.results=[.cell 2 30]:=rfl
theorem body_66:fn66.body=c66:=rfl
@[simp] theorem dyn_66_1:fn66.dyn 1=[(1,4)]:=id rfl
@[simp] theorem dyn_66_5:fn66.dyn 5=[]:=id rfl
@[simp] theorem opn_66:fn66.opn=fun _ => none:=id rfl
@[simp] theorem keep_66 (i):fn66.keep i=kp66 i:=rfl
attribute [simp] kp66
@[simp] theorem head_66_3:fn66.head 3=some [1,2,3,4]:=rfl
@[simp] theorem ntmps_67:fn67.ntmps=17:=rfl
@[simp] theorem results_67:fn67.results=[.cell 4 71]:=rfl
theorem body_67:fn67.body=c67:=rfl
@[simp] theorem dyn_67:fn67.dyn=fun _ => []:=id rfl
@[simp] theorem opn_67:fn67.opn=fun _ => none:=id rfl
@[simp] theorem keep_67 (i):fn67.keep i=kp67 i:=rfl
attribute [simp] kp67
@[simp] theorem ntmps_69:fn69.ntmps=14:=rfl
@[simp] theorem results_69:fn69.results=[.tmp 2]:=rfl
theorem body_69:fn69.body=c69:=rfl
@[simp] theorem dyn_69:fn69.dyn=fun _ => []:=id rfl
@[simp] theorem opn_69:fn69.opn=fun _ => none:=id rfl
@[simp] theorem keep_69 (i):fn69.keep i=kp69 i:=rfl
attribute [simp] kp69
@[simp] theorem ntmps_70:fn70.ntmps=44:=rfl
@[simp] theorem results_70:fn70.results=[.tmp 4]:=rfl
theorem body_70:fn70.body=c70:=rfl
@[simp] theorem dyn_70:fn70.dyn=fun _ => []:=id rfl
@[simp] theorem opn_70:fn70.opn=opnT:=id rfl
@[simp] theorem keep_70 (i):fn70.keep i=kp70 i:=rfl
attribute [simp] kp70
@[simp] theorem head_70_6:fn70.head 6=some [0,33,34,35]:=rfl
@[simp] theorem ntmps_71:fn71.ntmps=20:=rfl
@[simp] theorem results_71:fn71.results=[.cell 2 27]:=rfl
theorem body_71:fn71.body=c71:=rfl
@[simp] theorem dyn_71:fn71.dyn=fun _ => []:=id rfl
@[simp] theorem opn_71:fn71.opn=fun _ => none:=id rfl
@[simp] theorem keep_71 (i):fn71.keep i=kp71 i:=rfl
attribute [simp] kp71
@[simp] theorem ntmps_72:fn72.ntmps=23:=rfl
@[simp] theorem results_72:fn72.results=[]:=rfl
theorem body_72:fn72.body=c72:=rfl
@[simp] theorem dyn_72_5:fn72.dyn 5=[(2,5),(4,5),(2,6),(4,6),(4,7)]:=id rfl
@[simp] theorem opn_72:fn72.opn=fun _ => none:=id rfl
@[simp] theorem keep_72 (i):fn72.keep i=kp72 i:=rfl
attribute [simp] kp72
@[simp] theorem ntmps_73:fn73.ntmps=151:=rfl
@[simp] theorem results_73:fn73.results=[.cell 8 30,.tmp 9]:=rfl
theorem body_73:fn73.body=c73:=rfl
@[simp] theorem dyn_73:fn73.dyn=fun _ => []:=id rfl
@[simp] theorem opn_73:fn73.opn=opnT:=id rfl
@[simp] theorem keep_73 (i):fn73.keep i=kp73 i:=rfl
attribute [simp] kp73
@[simp] theorem head_73_25:fn73.head 25=some [0,1,2,3,8,14]:=rfl
@[simp] theorem ntmps_74:fn74.ntmps=38:=rfl
@[simp] theorem results_74:fn74.results=[.cell 2 30]:=rfl
theorem body_74:fn74.body=c74:=rfl
@[simp] theorem dyn_74:fn74.dyn=fun _ => []:=id rfl
@[simp] theorem opn_74:fn74.opn=fun _ => none:=id rfl
@[simp] theorem keep_74 (i):fn74.keep i=kp74 i:=rfl
attribute [simp] kp74
@[simp] theorem head_74_5:fn74.head 5=some [2,3,23,24,25]:=rfl
@[simp] theorem ntmps_75:fn75.ntmps=13:=rfl
@[simp] theorem results_75:fn75.results=[.tmp 2,.cell 3 3,.cell 4 3]:=rfl
theorem body_75:fn75.body=c75:=rfl
@[simp] theorem dyn_75_4:fn75.dyn 4=[(1,3)]:=id rfl
@[simp] theorem opn_75:fn75.opn=opnT:=id rfl
@[simp] theorem keep_75 (i):fn75.keep i=kp75 i:=rfl
attribute [simp] kp75
@[simp] theorem ntmps_76:fn76.ntmps=31:=rfl
@[simp] theorem results_76:fn76.results=[.tmp 2]:=rfl
theorem body_76:fn76.body=c76:=rfl
@[simp] theorem dyn_76:fn76.dyn=fun _ => []:=id rfl
@[simp] theorem opn_76:fn76.opn=fun _ => none:=id rfl
@[simp] theorem keep_76 (i):fn76.keep i=kp76 i:=rfl
attribute [simp] kp76
@[simp] theorem ntmps_77:fn77.ntmps=26:=rfl
@[simp] theorem results_77:fn77.results=[.tmp 2]:=rfl
theorem body_77:fn77.body=c77:=rfl
@[simp] theorem dyn_77:fn77.dyn=fun _ => []:=id rfl
@[simp] theorem opn_77:fn77.opn=fun _ => none:=id rfl
@[simp] theorem keep_77 (i):fn77.keep i=kp77 i:=rfl
attribute [simp] kp77
@[simp] theorem head_77_4:fn77.head 4=some [0,3]:=rfl
@[simp] theorem ntmps_78:fn78.ntmps=24:=rfl
@[simp] theorem results_78:fn78.results=[.tmp 4]:=rfl
theorem body_78:fn78.body=c78:=rfl
@[simp] theorem dyn_78:fn78.dyn=fun _ => []:=id rfl
@[simp] theorem opn_78:fn78.opn=opnT:=id rfl
@[simp] theorem keep_78 (i):fn78.keep i=kp78 i:=rfl
attribute [simp] kp78
@[simp] theorem ntmps_79:fn79.ntmps=8:=rfl
@[simp] theorem results_79:fn79.results=[.tmp 4]:=rfl
theorem body_79:fn79.body=c79:=rfl
@[simp] theorem dyn_79:fn79.dyn=fun _ => []:=id rfl
@[simp] theorem opn_79:fn79.opn=fun _ => none:=id rfl
@[simp] theorem keep_79 (i):fn79.keep i=kp79 i:=rfl
attribute [simp] kp79
@[simp] theorem ntmps_80:fn80.ntmps=34:=rfl
@[simp] theorem results_80:fn80.results=[.tmp 2]:=rfl
theorem body_80:fn80.body=c80:=rfl
@[simp] theorem dyn_80:fn80.dyn=fun _ => []:=id rfl
@[simp] theorem opn_80:fn80.opn=fun _ => none:=id rfl
@[simp] theorem keep_80 (i):fn80.keep i=kp80 i:=rfl
attribute [simp] kp80
@[simp] theorem ntmps_81:fn81.ntmps=87:=rfl
@[simp] theorem results_81:fn81.results=[.tmp 6,.tmp 7]:=rfl
theorem body_81:fn81.body=c81:=rfl
@[simp] theorem opn_81:fn81.opn=fun _ => none:=id rfl
@[simp] theorem keep_81 (i):fn81.keep i=kp81 i:=rfl
attribute [simp] kp81
@[simp] theorem head_81_2:fn81.head 2=some [0,1,2,8]:=rfl
@[simp] theorem ntmps_82:fn82.ntmps=9:=rfl
@[simp] theorem results_82:fn82.results=[.cell 4 71]:=rfl
theorem body_82:fn82.body=c82:=rfl
@[simp] theorem dyn_82:fn82.dyn=fun _ => []:=id rfl
@[simp] theorem opn_82:fn82.opn=fun _ => none:=id rfl
@[simp] theorem keep_82 (i):fn82.keep i=kp82 i:=rfl
attribute [simp] kp82
@[simp] theorem ntmps_83:fn83.ntmps=14:=rfl
@[simp] theorem results_83:fn83.results=[.tmp 4]:=rfl
theorem body_83:fn83.body=c83:=rfl
@[simp] theorem dyn_83:fn83.dyn=fun _ => []:=id rfl
@[simp] theorem opn_83:fn83.opn=fun _ => none:=id rfl
@[simp] theorem keep_83 (i):fn83.keep i=kp83 i:=rfl
attribute [simp] kp83
@[simp] theorem ntmps_84:fn84.ntmps=88:=rfl
@[simp] theorem results_84:fn84.results=[.tmp 2]:=rfl
theorem body_84:fn84.body=c84:=rfl
@[simp] theorem dyn_84:fn84.dyn=fun _ => []:=id rfl
@[simp] theorem opn_84:fn84.opn=fun _ => none:=id rfl
@[simp] theorem keep_84 (i):fn84.keep i=kp84 i:=rfl
attribute [simp] kp84
@[simp] theorem head_84_3:fn84.head 3=some [1,3,4]:=rfl
@[simp] theorem head_84_17:fn84.head 17=some [3,6,8,9]:=rfl
@[simp] theorem ntmps_85:fn85.ntmps=21:=rfl
@[simp] theorem results_85:fn85.results=[.cell 4 30,.tmp 5]:=rfl
theorem body_85:fn85.body=c85:=rfl
@[simp] theorem dyn_85:fn85.dyn=fun _ => []:=id rfl
@[simp] theorem opn_85:fn85.opn=fun _ => none:=id rfl
@[simp] theorem keep_85 (i):fn85.keep i=kp85 i:=rfl
attribute [simp] kp85
@[simp] theorem ntmps_86:fn86.ntmps=32:=rfl
@[simp] theorem results_86:fn86.results=[.cell 2 30]:=rfl
theorem body_86:fn86.body=c86:=rfl
@[simp] theorem dyn_86:fn86.dyn=fun _ => []:=id rfl
@[simp] theorem opn_86:fn86.opn=opn86:=id rfl
@[simp] theorem opn86_86:opn86 86=none:=id rfl
@[simp] theorem opn86_97:opn86 97=some ([true],false):=id rfl
@[simp] theorem opn86_109:opn86 109=some ([false],false):=id rfl
@[simp] theorem keep_86 (i):fn86.keep i=kp86 i:=rfl
attribute [simp] kp86
@[simp] theorem head_86_4:fn86.head 4=some [1,2,3,16,17,18]:=rfl
@[simp] theorem ntmps_87:fn87.ntmps=24:=rfl
@[simp] theorem results_87:fn87.results=[.tmp 2]:=rfl
theorem body_87:fn87.body=c87:=rfl
@[simp] theorem dyn_87:fn87.dyn=fun _ => []:=id rfl
@[simp] theorem opn_87:fn87.opn=fun _ => none:=id rfl
@[simp] theorem keep_87 (i):fn87.keep i=kp87 i:=rfl
attribute [simp] kp87
@[simp] theorem head_87_2:fn87.head 2=some [2,7,8,9]:=rfl
@[simp] theorem ntmps_89:fn89.ntmps=59:=rfl
@[simp] theorem results_89:fn89.results=[.tmp 2,.tmp 3,.tmp 4]:=rfl
theorem body_89:fn89.body=c89:=rfl
@[simp] theorem dyn_89:fn89.dyn=fun _ => []:=id rfl
@[simp] theorem opn_89:fn89.opn=fun _ => none:=id rfl
@[simp] theorem keep_89 (i):fn89.keep i=kp89 i:=rfl
attribute [simp] kp89
@[simp] theorem head_89_12:fn89.head 12=some [0,5,6,7]:=rfl
@[simp] theorem ntmps_90:fn90.ntmps=27:=rfl
@[simp] theorem results_90:fn90.results=[.tmp 2]:=rfl
theorem body_90:fn90.body=c90:=rfl
@[simp] theorem dyn_90:fn90.dyn=fun _ => []:=id rfl
@[simp] theorem opn_90:fn90.opn=fun _ => none:=id rfl
@[simp] theorem keep_90 (i):fn90.keep i=kp90 i:=rfl
attribute [simp] kp90
@[simp] theorem head_90_5:fn90.head 5=some [3,14,15,16]:=rfl
@[simp] theorem ntmps_91:fn91.ntmps=22:=rfl
@[simp] theorem results_91:fn91.results=[.tmp 4]:=rfl
theorem body_91:fn91.body=c91:=rfl
@[simp] theorem dyn_91:fn91.dyn=fun _ => []:=id rfl
@[simp] theorem opn_91:fn91.opn=fun _ => none:=id rfl
@[simp] theorem keep_91 (i):fn91.keep i=kp91 i:=rfl
attribute [simp] kp91
@[simp] theorem ntmps_92:fn92.ntmps=12:=rfl
@[simp] theorem results_92:fn92.results=[.tmp 2]:=rfl
theorem body_92:fn92.body=c92:=rfl
@[simp] theorem dyn_92:fn92.dyn=fun _ => []:=id rfl
@[simp] theorem opn_92:fn92.opn=fun _ => none:=id rfl
@[simp] theorem keep_92 (i):fn92.keep i=kp92 i:=rfl
attribute [simp] kp92
@[simp] theorem ntmps_93:fn93.ntmps=42:=rfl
@[simp] theorem results_93:fn93.results=[.tmp 2,.tmp 3]:=rfl
theorem body_93:fn93.body=c93:=rfl
@[simp] theorem dyn_93:fn93.dyn=fun _ => []:=id rfl
@[simp] theorem opn_93:fn93.opn=fun _ => none:=id rfl
@[simp] theorem keep_93 (i):fn93.keep i=kp93 i:=rfl
attribute [simp] kp93
@[simp] theorem ntmps_94:fn94.ntmps=50:=rfl
@[simp] theorem results_94:fn94.results=[.tmp 2,.tmp 3]:=rfl
theorem body_94:fn94.body=c94:=rfl
@[simp] theorem dyn_94:fn94.dyn=fun _ => []:=id rfl
@[simp] theorem opn_94:fn94.opn=fun _ => none:=id rfl
@[simp] theorem keep_94 (i):fn94.keep i=kp94 i:=rfl
attribute [simp] kp94
@[simp] theorem ntmps_95:fn95.ntmps=44:=rfl
@[simp] theorem results_95:fn95.results=[.cell 2 27,.tmp 3,.tmp 4]:=rfl
theorem body_95:fn95.body=c95:=rfl
@[simp] theorem dyn_95:fn95.dyn=fun _ => []:=id rfl
@[simp] theorem opn_95:fn95.opn=fun _ => none:=id rfl
@[simp] theorem keep_95 (i):fn95.keep i=kp95 i:=rfl
attribute [simp] kp95
@[simp] theorem ntmps_96:fn96.ntmps=65:=rfl
@[simp] theorem results_96:fn96.results=[.tmp 2,.tmp 3,.tmp 4]:=rfl
theorem body_96:fn96.body=c96:=rfl
@[simp] theorem dyn_96:fn96.dyn=fun _ => []:=id rfl
@[simp] theorem opn_96:fn96.opn=fun _ => none:=id rfl
@[simp] theorem keep_96 (i):fn96.keep i=kp96 i:=rfl
attribute [simp] kp96
@[simp] theorem ntmps_97:fn97.ntmps=9:=rfl
@[simp] theorem results_97:fn97.results=[.tmp 2]:=rfl
theorem body_97:fn97.body=c97:=rfl
@[simp] theorem dyn_97:fn97.dyn=fun _ => []:=id rfl
@[simp] theorem opn_97:fn97.opn=fun _ => none:=id rfl
@[simp] theorem keep_97 (i):fn97.keep i=kp97 i:=rfl
attribute [simp] kp97
@[simp] theorem ntmps_98:fn98.ntmps=8:=rfl
@[simp] theorem results_98:fn98.results=[.tmp 2]:=rfl
theorem body_98:fn98.body=c98:=rfl
@[simp] theorem dyn_98:fn98.dyn=fun _ => []:=id rfl
@[simp] theorem opn_98:fn98.opn=fun _ => none:=id rfl
@[simp] theorem keep_98 (i):fn98.keep i=kp98 i:=rfl
attribute [simp] kp98
@[simp] theorem ntmps_99:fn99.ntmps=9:=rfl
@[simp] theorem results_99:fn99.results=[.tmp 2]:=rfl
theorem body_99:fn99.body=c99:=rfl
@[simp] theorem dyn_99:fn99.dyn=fun _ => []:=id rfl
@[simp] theorem opn_99:fn99.opn=fun _ => none:=id rfl
@[simp] theorem keep_99 (i):fn99.keep i=kp99 i:=rfl
attribute [simp] kp99
@[simp] theorem ntmps_100:fn100.ntmps=10:=rfl
@[simp] theorem results_100:fn100.results=[.tmp 4]:=rfl
theorem body_100:fn100.body=c100:=rfl
@[simp] theorem dyn_100:fn100.dyn=fun _ => []:=id rfl
@[simp] theorem opn_100:fn100.opn=opnT:=id rfl
@[simp] theorem keep_100 (i):fn100.keep i=kp100 i:=rfl
attribute [simp] kp100
@[simp] theorem ntmps_101:fn101.ntmps=47:=rfl
@[simp] theorem results_101:fn101.results=[.tmp 6]:=rfl
theorem body_101:fn101.body=c101:=rfl
@[simp] theorem dyn_101:fn101.dyn=fun _ => []:=id rfl
@[simp] theorem opn_101:fn101.opn=fun _ => none:=id rfl
@[simp] theorem keep_101 (i):fn101.keep i=kp101 i:=rfl
attribute [simp] kp101
@[simp] theorem ntmps_102:fn102.ntmps=24:=rfl
@[simp] theorem results_102:fn102.results=[.tmp 2]:=rfl
theorem body_102:fn102.body=c102:=rfl
@[simp] theorem dyn_102:fn102.dyn=fun _ => []:=id rfl
@[simp] theorem opn_102:fn102.opn=fun _ => none:=id rfl
@[simp] theorem keep_102 (i):fn102.keep i=kp102 i:=rfl
attribute [simp] kp102
@[simp] theorem ntmps_103:fn103.ntmps=22:=rfl
@[simp] theorem results_103:fn103.results=[.tmp 2]:=rfl
theorem body_103:fn103.body=c103:=rfl
@[simp] theorem dyn_103:fn103.dyn=fun _ => []:=id rfl
@[simp] theorem opn_103:fn103.opn=fun _ => none:=id rfl
@[simp] theorem keep_103 (i):fn103.keep i=kp103 i:=rfl
attribute [simp] kp103
@[simp] theorem head_103_3:fn103.head 3=some [0,3]:=rfl
@[simp] theorem ntmps_104:fn104.ntmps=10:=rfl
@[simp] theorem results_104:fn104.results=[.tmp 4]:=rfl
theorem body_104:fn104.body=c104:=rfl
@[simp] theorem dyn_104:fn104.dyn=fun _ => []:=id rfl
@[simp] theorem opn_104:fn104.opn=fun _ => none:=id rfl
@[simp] theorem keep_104 (i):fn104.keep i=kp104 i:=rfl
attribute [simp] kp104
@[simp] theorem ntmps_105:fn105.ntmps=32:=rfl
@[simp] theorem results_105:fn105.results=[.tmp 6]:=rfl
theorem body_105:fn105.body=c105:=rfl
@[simp] theorem dyn_105:fn105.dyn=fun _ => []:=id rfl
@[simp] theorem opn_105:fn105.opn=opnT:=id rfl
@[simp] theorem keep_105 (i):fn105.keep i=kp105 i:=rfl
attribute [simp] kp105
@[simp] theorem head_105_4:fn105.head 4=some [1,2,15,16,17]:=rfl
@[simp] theorem ntmps_107:fn107.ntmps=9:=rfl
@[simp] theorem results_107:fn107.results=[.tmp 2]:=rfl
theorem body_107:fn107.body=c107:=rfl
@[simp] theorem dyn_107:fn107.dyn=fun _ => []:=id rfl
@[simp] theorem opn_107:fn107.opn=fun _ => none:=id rfl
@[simp] theorem keep_107 (i):fn107.keep i=kp107 i:=rfl
attribute [simp] kp107
@[simp] theorem ntmps_108:fn108.ntmps=22:=rfl
@[simp] theorem results_108:fn108.results=[.tmp 2]:=rfl
theorem body_108:fn108.body=c108:=rfl
@[simp] theorem dyn_108:fn108.dyn=fun _ => []:=id rfl
@[simp] theorem opn_108:fn108.opn=fun _ => none:=id rfl
@[simp] theorem keep_108 (i):fn108.keep i=kp108 i:=rfl
attribute [simp] kp108
@[simp] theorem head_108_3:fn108.head 3=some [0,3]:=rfl
@[simp] theorem ntmps_109:fn109.ntmps=8:=rfl
@[simp] theorem results_109:fn109.results=[.tmp 2]:=rfl
theorem body_109:fn109.body=c109:=rfl
@[simp] theorem dyn_109:fn109.dyn=fun _ => []:=id rfl
@[simp] theorem opn_109:fn109.opn=fun _ => none:=id rfl
@[simp] theorem keep_109 (i):fn109.keep i=kp109 i:=rfl
attribute [simp] kp109
@[simp] theorem ntmps_110:fn110.ntmps=12:=rfl
@[simp] theorem results_110:fn110.results=[.tmp 2]:=rfl
theorem body_110:fn110.body=c110:=rfl
@[simp] theorem dyn_110:fn110.dyn=fun _ => []:=id rfl
@[simp] theorem opn_110:fn110.opn=fun _ => none:=id rfl
@[simp] theorem keep_110 (i):fn110.keep i=kp110 i:=rfl
attribute [simp] kp110
@[simp] theorem ntmps_111:fn111.ntmps=4:=rfl
@[simp] theorem results_111:fn111.results=[.tmp 2]:=rfl
theorem body_111:fn111.body=c111:=rfl
@[simp] theorem dyn_111:fn111.dyn=fun _ => []:=id rfl
@[simp] theorem opn_111:fn111.opn=fun _ => none:=id rfl
@[simp] theorem keep_111 (i):fn111.keep i=kp111 i:=rfl
attribute [simp] kp111
@[simp] theorem ntmps_112:fn112.ntmps=43:=rfl
@[simp] theorem results_112:fn112.results=[.tmp 2,.tmp 3,.tmp 4]:=rfl
theorem body_112:fn112.body=c112:=rfl
@[simp] theorem dyn_112:fn112.dyn=fun _ => []:=id rfl
@[simp] theorem opn_112:fn112.opn=fun _ => none:=id rfl
@[simp] theorem keep_112 (i):fn112.keep i=kp112 i:=rfl
attribute [simp] kp112
@[simp] theorem head_112_3:fn112.head 3=some [0,2,3]:=rfl
@[simp] theorem ntmps_113:fn113.ntmps=34:=rfl
@[simp] theorem results_113:fn113.results=[.tmp 6]:=rfl
theorem body_113:fn113.body=c113:=rfl
@[simp] theorem dyn_113:fn113.dyn=fun _ => []:=id rfl
@[simp] theorem opn_113:fn113.opn=opnT:=id rfl
@[simp] theorem keep_113 (i):fn113.keep i=kp113 i:=rfl
attribute [simp] kp113
@[simp] theorem head_113_5:fn113.head 5=some [1,3,19,20,21]:=rfl
@[simp] theorem ntmps_114:fn114.ntmps=29:=rfl
@[simp] theorem results_114:fn114.results=[]:=rfl
theorem body_114:fn114.body=c114:=rfl
@[simp] theorem dyn_114:fn114.dyn=fun _ => []:=id rfl
@[simp] theorem opn_114:fn114.opn=opnT:=id rfl
@[simp] theorem keep_114 (i):fn114.keep i=kp114 i:=rfl
attribute [simp] kp114
@[simp] theorem head_114_1:fn114.head 1=some [0,1,3]:=rfl
@[simp] theorem head_114_3:fn114.head 3=some [0,1,3]:=rfl
@[simp] theorem E_fn8:E.fn 8=some fn8:=rfl
@[simp] theorem E_grd8:E.grd 8=none:=id rfl
@[simp] theorem opnT_8:opnT 8=none:=id rfl
@[simp] theorem E_fn9:E.fn 9=some fn9:=rfl
@[simp] theorem E_grd9:E.grd 9=none:=id rfl
@[simp] theorem opnT_9:opnT 9=none:=id rfl
@[simp] theorem E_fn16:E.fn 16=some fn16:=rfl
@[simp] theorem E_grd16:E.grd 16=none:=id rfl
@[simp] theorem opnT_16:opnT 16=none:=id rfl
@[simp] theorem E_fn18:E.fn 18=some fn18:=rfl
@[simp] theorem E_grd18:E.grd 18=none:=id rfl
@[simp] theorem opnT_18:opnT 18=none:=id rfl
@[simp] theorem E_fn20:E.fn 20=some fn20:=rfl
@[simp] theorem E_grd20:E.grd 20=none:=id rfl
@[simp] theorem opnT_20:opnT 20=none:=id rfl
@[simp] theorem E_fn21:E.fn 21=some fn21:=rfl
@[simp] theorem E_grd21:E.grd 21=none:=id rfl
@[simp] theorem opnT_21:opnT 21=none:=id rfl
@[simp] theorem E_fn22:E.fn 22=some fn22:=rfl
@[simp] theorem E_grd22:E.grd 22=none:=id rfl
@[simp] theorem opnT_22:opnT 22=none:=id rfl
@[simp] theorem E_fn23:E.fn 23=some fn23:=rfl
@[simp] theorem E_grd23:E.grd 23=some grd23:=id rfl
@[simp] theorem opnT_23:opnT 23=none:=id rfl
@[simp] theorem E_fn24:E.fn 24=some fn24:=rfl
@[simp] theorem E_grd24:E.grd 24=none:=id rfl
@[simp] theorem opnT_24:opnT 24=none:=id rfl
@[simp] theorem E_fn25:E.fn 25=some fn25:=rfl
@[simp] theorem E_grd25:E.grd 25=none:=id rfl
@[simp] theorem opnT_25:opnT 25=none:=id rfl
@[simp] theorem E_fn26:E.fn 26=some fn26:=rfl
@[simp] theorem E_grd26:E.grd 26=none:=id rfl
@[simp] theorem opnT_26:opnT 26=none:=id rfl
@[simp] theorem E_fn27:E.fn 27=some fn27:=rfl
@[simp] theorem E_grd27:E.grd 27=none:=id rfl
@[simp] theorem opnT_27:opnT 27=none:=id rfl
@[simp] theorem E_fn28:E.fn 28=some fn28:=rfl
@[simp] theorem E_grd28:E.grd 28=none:=id rfl
@[simp] theorem opnT_28:opnT 28=none:=id rfl
@[simp] theorem E_fn29:E.fn 29=some fn29:=rfl
@[simp] theorem E_grd29:E.grd 29=none:=id rfl
@[simp] theorem opnT_29:opnT 29=none:=id rfl
@[simp] theorem E_fn30:E.fn 30=some fn30:=rfl
@[simp] theorem E_grd30:E.grd 30=none:=id rfl
@[simp] theorem opnT_30:opnT 30=none:=id rfl
@[simp] theorem E_fn32:E.fn 32=some fn32:=rfl
@[simp] theorem E_grd32:E.grd 32=none:=id rfl
@[simp] theorem opnT_32:opnT 32=none:=id rfl
@[simp] theorem E_fn34:E.fn 34=some fn34:=rfl
@[simp] theorem E_grd34:E.grd 34=none:=id rfl
@[simp] theorem opnT_34:opnT 34=none:=id rfl
@[simp] theorem E_fn35:E.fn 35=some fn35:=rfl
@[simp] theorem E_grd35:E.grd 35=none:=id rfl
@[simp] theorem opnT_35:opnT 35=none:=id rfl
@[simp] theorem E_fn36:E.fn 36=some fn36:=rfl
@[simp] theorem E_grd36:E.grd 36=none:=id rfl
@[simp] theorem opnT_36:opnT 36=none:=id rfl
@[simp] theorem E_fn37:E.fn 37=some fn37:=rfl
@[simp] theorem E_grd37:E.grd 37=none:=id rfl
@[simp] theorem opnT_37:opnT 37=none:=id rfl
@[simp] theorem E_fn38:E.fn 38=some fn38:=rfl
@[simp] theorem E_grd38:E.grd 38=none:=id rfl
@[simp] theorem opnT_38:opnT 38=none:=id rfl
@[simp] theorem E_fn39:E.fn 39=some fn39:=rfl
@[simp] theorem E_grd39:E.grd 39=none:=id rfl
@[simp] theorem opnT_39:opnT 39=none:=id rfl
@[simp] theorem E_fn40:E.fn 40=some fn40:=rfl
@[simp] theorem E_grd40:E.grd 40=none:=id rfl
@[simp] theorem opnT_40:opnT 40=none:=id rfl
@[simp] theorem E_fn41:E.fn 41=some fn41:=rfl
@[simp] theorem E_grd41:E.grd 41=none:=id rfl
@[simp] theorem opnT_41:opnT 41=none:=id rfl
@[simp] theorem E_fn43:E.fn 43=some fn43:=rfl
@[simp] theorem E_grd43:E.grd 43=none:=id rfl
@[simp] theorem opnT_43:opnT 43=none:=id rfl
@[simp] theorem E_fn44:E.fn 44=some fn44:=rfl
@[simp] theorem E_grd44:E.grd 44=none:=id rfl
@[simp] theorem opnT_44:opnT 44=none:=id rfl
@[simp] theorem E_fn45:E.fn 45=some fn45:=rfl
@[simp] theorem E_grd45:E.grd 45=none:=id rfl
@[simp] theorem opnT_45:opnT 45=none:=id rfl
@[simp] theorem E_fn46:E.fn 46=some fn46:=rfl
@[simp] theorem E_grd46:E.grd 46=none:=id rfl
@[simp] theorem opnT_46:opnT 46=none:=id rfl
@[simp] theorem E_fn47:E.fn 47=some fn47:=rfl
@[simp] theorem E_grd47:E.grd 47=none:=id rfl
@[simp] theorem opnT_47:opnT 47=none:=id rfl
@[simp] theorem E_fn48:E.fn 48=some fn48:=rfl
@[simp] theorem E_grd48:E.grd 48=none:=id rfl
@[simp] theorem opnT_48:opnT 48=none:=id rfl
@[simp] theorem E_fn49:E.fn 49=some fn49:=rfl
@[simp] theorem E_grd49:E.grd 49=none:=id rfl
@[simp] theorem opnT_49:opnT 49=none:=id rfl
@[simp] theorem E_fn50:E.fn 50=some fn50:=rfl
@[simp] theorem E_grd50:E.grd 50=none:=id rfl
@[simp] theorem opnT_50:opnT 50=none:=id rfl
@[simp] theorem E_fn51:E.fn 51=some fn51:=rfl
@[simp] theorem E_grd51:E.grd 51=none:=id rfl
@[simp] theorem opnT_51:opnT 51=none:=id rfl
@[simp] theorem E_fn52:E.fn 52=some fn52:=rfl
@[simp] theorem E_grd52:E.grd 52=none:=id rfl
@[simp] theorem opnT_52:opnT 52=none:=id rfl
@[simp] theorem E_fn53:E.fn 53=some fn53:=rfl
@[simp] theorem E_grd53:E.grd 53=none:=id rfl
@[simp] theorem opnT_53:opnT 53=none:=id rfl
@[simp] theorem E_fn54:E.fn 54=some fn54:=rfl
@[simp] theorem E_grd54:E.grd 54=none:=id rfl
@[simp] theorem opnT_54:opnT 54=none:=id rfl
@[simp] theorem E_fn55:E.fn 55=some fn55:=rfl
@[simp] theorem E_grd55:E.grd 55=none:=id rfl
@[simp] theorem opnT_55:opnT 55=none:=id rfl
@[simp] theorem E_fn56:E.fn 56=some fn56:=rfl
@[simp] theorem E_grd56:E.grd 56=none:=id rfl
@[simp] theorem opnT_56:opnT 56=none:=id rfl
@[simp] theorem E_fn57:E.fn 57=some fn57:=rfl
@[simp] theorem E_grd57:E.grd 57=none:=id rfl
@[simp] theorem opnT_57:opnT 57=none:=id rfl
@[simp] theorem E_fn58:E.fn 58=some fn58:=rfl
@[simp] theorem E_grd58:E.grd 58=none:=id rfl
@[simp] theorem opnT_58:opnT 58=none:=id rfl
@[simp] theorem E_fn59:E.fn 59=some fn59:=rfl
@[simp] theorem E_grd59:E.grd 59=none:=id rfl
@[simp] theorem opnT_59:opnT 59=none:=id rfl
@[simp] theorem E_fn61:E.fn 61=some fn61:=rfl
@[simp] theorem E_grd61:E.grd 61=none:=id rfl
@[simp] theorem opnT_61:opnT 61=none:=id rfl
@[simp] theorem E_fn62:E.fn 62=some fn62:=rfl
@[simp] theorem E_grd62:E.grd 62=none:=id rfl
@[simp] theorem opnT_62:opnT 62=none:=id rfl
@[simp] theorem E_fn63:E.fn 63=some fn63:=rfl
@[simp] theorem E_grd63:E.grd 63=none:=id rfl
@[simp] theorem opnT_63:opnT 63=none:=id rfl
@[simp] theorem E_fn64:E.fn 64=some fn64:=rfl
@[simp] theorem E_grd64:E.grd 64=none:=id rfl
@[simp] theorem opnT_64:opnT 64=none:=id rfl
@[simp] theorem E_fn65:E.fn 65=some fn65:=rfl
@[simp] theorem E_grd65:E.grd 65=none:=id rfl
@[simp] theorem opnT_65:opnT 65=some ([false,true,false],true):=id rfl
@[simp] theorem E_fn66:E.fn 66=some fn66:=rfl
@[simp] theorem E_grd66:E.grd 66=none:=id rfl
@[simp] theorem opnT_66:opnT 66=none:=id rfl
@[simp] theorem E_fn67:E.fn 67=some fn67:=rfl
@[simp] theorem E_grd67:E.grd 67=none:=id rfl
@[simp] theorem opnT_67:opnT 67=none:=id rfl
@[simp] theorem E_fn69:E.fn 69=some fn69:=rfl
@[simp] theorem E_grd69:E.grd 69=none:=id rfl
@[simp] theorem opnT_69:opnT 69=none:=id rfl
@[simp] theorem E_fn70:E.fn 70=some fn70:=rfl
@[simp] theorem E_grd70:E.grd 70=none:=id rfl
@[simp] theorem opnT_70:opnT 70=some ([true,false],false):=id rfl
@[simp] theorem E_fn71:E.fn 71=some fn71:=rfl
@[simp] theorem E_grd71:E.grd 71=none:=id rfl
@[simp] theorem opnT_71:opnT 71=none:=id rfl
@[simp] theorem E_fn72:E.fn 72=some fn72:=rfl
@[simp] theorem E_grd72:E.grd 72=none:=id rfl
@[simp] theorem opnT_72:opnT 72=some ([true,true,true,true],true):=id rfl
@[simp] theorem E_fn73:E.fn 73=some fn73:=rfl
@[simp] theorem E_grd73:E.grd 73=none:=id rfl
@[simp] theorem opnT_73:opnT 73=some ([true,false,false,false],true):=id rfl
@[simp] theorem E_fn74:E.fn 74=some fn74:=rfl
@[simp] theorem E_grd74:E.grd 74=none:=id rfl
@[simp] theorem opnT_74:opnT 74=none:=id rfl
@[simp] theorem E_fn75:E.fn 75=some fn75:=rfl
@[simp] theorem E_grd75:E.grd 75=none:=id rfl
@[simp] theorem opnT_75:opnT 75=none:=id rfl
@[simp] theorem E_fn76:E.fn 76=some fn76:=rfl
@[simp] theorem E_grd76:E.grd 76=none:=id rfl
@[simp] theorem opnT_76:opnT 76=some ([false],false):=id rfl
@[simp] theorem E_fn77:E.fn 77=some fn77:=rfl
@[simp] theorem E_grd77:E.grd 77=none:=id rfl
@[simp] theorem opnT_77:opnT 77=none:=id rfl
@[simp] theorem E_fn78:E.fn 78=some fn78:=rfl
@[simp] theorem E_grd78:E.grd 78=none:=id rfl
@[simp] theorem opnT_78:opnT 78=none:=id rfl
@[simp] theorem E_fn79:E.fn 79=some fn79:=rfl
@[simp] theorem E_grd79:E.grd 79=none:=id rfl
@[simp] theorem opnT_79:opnT 79=none:=id rfl
@[simp] theorem E_fn80:E.fn 80=some fn80:=rfl
@[simp] theorem E_grd80:E.grd 80=none:=id rfl
@[simp] theorem opnT_80:opnT 80=none:=id rfl
@[simp] theorem E_fn81:E.fn 81=some fn81:=rfl
@[simp] theorem E_grd81:E.grd 81=none:=id rfl
@[simp] theorem opnT_81:opnT 81=none:=id rfl
@[simp] theorem E_fn82:E.fn 82=some fn82:=rfl
@[simp] theorem E_grd82:E.grd 82=none:=id rfl
@[simp] theorem opnT_82:opnT 82=none:=id rfl
@[simp] theorem E_fn83:E.fn 83=some fn83:=rfl
@[simp] theorem E_grd83:E.grd 83=none:=id rfl
@[simp] theorem opnT_83:opnT 83=none:=id rfl
@[simp] theorem E_fn84:E.fn 84=some fn84:=rfl
@[simp] theorem E_grd84:E.grd 84=none:=id rfl
@[simp] theorem opnT_84:opnT 84=none:=id rfl
@[simp] theorem E_fn85:E.fn 85=some fn85:=rfl
@[simp] theorem E_grd85:E.grd 85=none:=id rfl
@[simp] theorem opnT_85:opnT 85=none:=id rfl
@[simp] theorem E_fn86:E.fn 86=some fn86:=rfl
@[simp] theorem E_grd86:E.grd 86=none:=id rfl
@[simp] theorem opnT_86:opnT 86=none:=id rfl
@[simp] theorem E_fn87:E.fn 87=some fn87:=rfl
@[simp] theorem E_grd87:E.grd 87=none:=id rfl
@[simp] theorem opnT_87:opnT 87=none:=id rfl
@[simp] theorem E_fn89:E.fn 89=some fn89:=rfl
@[simp] theorem E_grd89:E.grd 89=none:=id rfl
@[simp] theorem opnT_89:opnT 89=none:=id rfl
@[simp] theorem E_fn90:E.fn 90=some fn90:=rfl
@[simp] theorem E_grd90:E.grd 90=none:=id rfl
@[simp] theorem opnT_90:opnT 90=none:=id rfl
@[simp] theorem E_fn91:E.fn 91=some fn91:=rfl
@[simp] theorem E_grd91:E.grd 91=none:=id rfl
@[simp] theorem opnT_91:opnT 91=none:=id rfl
@[simp] theorem E_fn92:E.fn 92=some fn92:=rfl
@[simp] theorem E_grd92:E.grd 92=none:=id rfl
@[simp] theorem opnT_92:opnT 92=none:=id rfl
@[simp] theorem E_fn93:E.fn 93=some fn93:=rfl
@[simp] theorem E_grd93:E.grd 93=none:=id rfl
@[simp] theorem opnT_93:opnT 93=none:=id rfl
@[simp] theorem E_fn94:E.fn 94=some fn94:=rfl
@[simp] theorem E_grd94:E.grd 94=none:=id rfl
@[simp] theorem opnT_94:opnT 94=none:=id rfl
@[simp] theorem E_fn95:E.fn 95=some fn95:=rfl
@[simp] theorem E_grd95:E.grd 95=none:=id rfl
@[simp] theorem opnT_95:opnT 95=none:=id rfl
@[simp] theorem E_fn96:E.fn 96=some fn96:=rfl
@[simp] theorem E_grd96:E.grd 96=none:=id rfl
@[simp] theorem opnT_96:opnT 96=none:=id rfl
@[simp] theorem E_fn97:E.fn 97=some fn97:=rfl
@[simp] theorem E_grd97:E.grd 97=none:=id rfl
@[simp] theorem opnT_97:opnT 97=none:=id rfl
@[simp] theorem E_fn98:E.fn 98=some fn98:=rfl
@[simp] theorem E_grd98:E.grd 98=none:=id rfl
@[simp] theorem opnT_98:opnT 98=none:=id rfl
@[simp] theorem E_fn99:E.fn 99=some fn99:=rfl
@[simp] theorem E_grd99:E.grd 99=none:=id rfl
@[simp] theorem opnT_99:opnT 99=none:=id rfl
@[simp] theorem E_fn100:E.fn 100=some fn100:=rfl
@[simp] theorem E_grd100:E.grd 100=none:=id rfl
@[simp] theorem opnT_100:opnT 100=some ([false,true],true):=id rfl
@[simp] theorem E_fn101:E.fn 101=some fn101:=rfl
@[simp] theorem E_grd101:E.grd 101=none:=id rfl
@[simp] theorem opnT_101:opnT 101=some ([false,false,true,true],true):=id rfl
@[simp] theorem E_fn102:E.fn 102=some fn102:=rfl
@[simp] theorem E_grd102:E.grd 102=none:=id rfl
@[simp] theorem opnT_102:opnT 102=none:=id rfl
@[simp] theorem E_fn103:E.fn 103=some fn103:=rfl
@[simp] theorem E_grd103:E.grd 103=none:=id rfl
@[simp] theorem opnT_103:opnT 103=none:=id rfl
@[simp] theorem E_fn104:E.fn 104=some fn104:=rfl
@[simp] theorem E_grd104:E.grd 104=none:=id rfl
@[simp] theorem opnT_104:opnT 104=none:=id rfl
@[simp] theorem E_fn105:E.fn 105=some fn105:=rfl
@[simp] theorem E_grd105:E.grd 105=none:=id rfl
@[simp] theorem opnT_105:opnT 105=some ([false,false,true],true):=id rfl
@[simp] theorem E_fn107:E.fn 107=some fn107:=rfl
@[simp] theorem E_grd107:E.grd 107=none:=id rfl
@[simp] theorem opnT_107:opnT 107=none:=id rfl
@[simp] theorem E_fn108:E.fn 108=some fn108:=rfl
@[simp] theorem E_grd108:E.grd 108=none:=id rfl
@[simp] theorem opnT_108:opnT 108=none:=id rfl
@[simp] theorem E_fn109:E.fn 109=some fn109:=rfl
@[simp] theorem E_grd109:E.grd 109=none:=id rfl
@[simp] theorem opnT_109:opnT 109=none:=id rfl
@[simp] theorem E_fn110:E.fn 110=some fn110:=rfl
@[simp] theorem E_grd110:E.grd 110=none:=id rfl
@[simp] theorem opnT_110:opnT 110=none:=id rfl
@[simp] theorem E_fn111:E.fn 111=some fn111:=rfl
@[simp] theorem E_grd111:E.grd 111=none:=id rfl
@[simp] theorem opnT_111:opnT 111=none:=id rfl
@[simp] theorem E_fn112:E.fn 112=some fn112:=rfl
@[simp] theorem E_grd112:E.grd 112=none:=id rfl
@[simp] theorem opnT_112:opnT 112=none:=id rfl
@[simp] theorem E_fn113:E.fn 113=some fn113:=rfl
@[simp] theorem E_grd113:E.grd 113=none:=id rfl
@[simp] theorem opnT_113:opnT 113=some ([false,false,true,true],true):=id rfl
@[simp] theorem E_fn114:E.fn 114=some fn114:=rfl
@[simp] theorem E_grd114:E.grd 114=none:=id rfl
@[simp] theorem opnT_114:opnT 114=some ([true,true],true):=id rfl
@[simp] theorem E_ty1:E.ty 1=some ⟨.func,1,8,[.nilf],false⟩:=rfl
@[simp] theorem E_ty2:E.ty 2=some ⟨.int .i64,1,8,[.int .i64 0],false⟩:=rfl
@[simp] theorem E_ty3:E.ty 3=some ⟨.int .i64,1,8,[.int .i64 0],false⟩:=rfl
@[simp] theorem E_ty4:E.ty 4=some ⟨.bool,1,1,[.bool false],false⟩:=rfl
@[simp] theorem E_ty5:E.ty 5=some ⟨.int .u8,1,1,[.int .u8 0],false⟩:=rfl
@[simp] theorem E_ty6:E.ty 6=some ⟨.int .u8,1,1,[.int .u8 0],false⟩:=rfl
@[simp] theorem E_ty7:E.ty 7=some ⟨.strct [(0,2),(1,3),(2,4),(3,6)],4,24,[.int .i64 0,.int .i64 0,.bool false,.int .u8 0],false⟩:=rfl
@[simp] theorem E_ty8:E.ty 8=some ⟨.strct [(0,2),(1,3),(2,4),(3,6)],4,24,[.int .i64 0,.int .i64 0,.bool false,.int .u8 0],false⟩:=rfl
@[simp] theorem E_ty9:E.ty 9=some ⟨.str,1,16,[.str []],false⟩:=rfl
@[simp] theorem E_ty10:E.ty 10=some ⟨.str,1,16,[.str []],false⟩:=rfl
@[simp] theorem E_ty11:E.ty 11=some ⟨.str,1,16,[.str []],false⟩:=rfl
@[simp] theorem E_ty12:E.ty 12=some ⟨.int .u64,1,8,[.int .u64 0],false⟩:=rfl
@[simp] theorem E_ty13:E.ty 13=some ⟨.strct [(0,9),(1,12)],2,24,[.str [],.int .u64 0],false⟩:=rfl
@[simp] theorem E_ty14:E.ty 14=some ⟨.strct [(0,9),(1,12)],2,24,[.str [],.int .u64 0],false⟩:=rfl
@[simp] theorem E_ty15:E.ty 15=some ⟨.ptr 162,1,8,[.nilp],false⟩:=rfl
@[simp] theorem E_ty16:E.ty 16=some ⟨.ptr 165,1,8,[.nilp],false⟩:=rfl
@[simp] theorem E_ty17:E.ty 17=some ⟨.ptr 174,1,8,[.nilp],false⟩:=rfl
@[simp] theorem E_ty18:E.ty 18=some ⟨.strct [(0,17)],1,8,[.nilp],false⟩:=rfl
@[simp] theorem E_ty19:E.ty 19=some ⟨.strct [(0,17)],1,8,[.nilp],false⟩:=rfl
@[simp] theorem E_ty20:E.ty 20=some ⟨.iface true,1,16,[.nili],false⟩:=rfl
@[simp] theorem E_ty21:E.ty 21=some ⟨.int .i32,1,4,[.int .i32 0],false⟩:=rfl
@[simp] theorem E_ty22:E.ty 22=some ⟨.slice 5,1,24,[.sl true [] (some 0)],false⟩:=rfl
@[simp] theorem E_ty23:E.ty 23=some ⟨.func,1,8,[.nilf],false⟩:=rfl
@[simp] theorem E_ty24:E.ty 24=some ⟨.int .u8,1,1,[.int .u8 0],false⟩:=rfl
@[simp] theorem E_ty25:E.ty 25=some ⟨.int .u32,1,4,[.int .u32 0],false⟩:=rfl
@[simp] theorem E_ty26:E.ty 26=some ⟨.strct [(0,24),(1,4),(2,25)],3,8,[.int .u8 0,.bool false,.int .u32 0],false⟩:=rfl
@[simp] theorem E_ty27:E.ty 27=some ⟨.strct [(0,24),(1,4),(2,25)],3,8,[.int .u8 0,.bool false,.int .u32 0],true⟩:=rfl
@[simp] theorem E_ty28:E.ty 28=some ⟨.slice 30,1,24,[.sl true [] (some 0)],false⟩:=rfl
@[simp] theorem E_ty29:E.ty 29=some ⟨.strct [(0,27),(3,22),(4,28)],5,56,[.int .u8 0,.bool false,.int .u32 0,.sl true [] (some 0),.sl true [] (some 0)],false⟩:=rfl
@[simp] theorem E_ty30:E.ty 30=some ⟨.strct [(0,27),(3,22),(4,28)],5,56,[.int .u8 0,.bool false,.int .u32 0,.sl true [] (some 0),.sl true [] (some 0)],false⟩:=rfl
@[simp] theorem E_ty32:E.ty 32=some ⟨.func,1,8,[.nilf],false⟩:=rfl
@[simp] theorem E_ty33:E.ty 33=some ⟨.func,1,8,[.nilf],false⟩:=rfl
@[simp] theorem E_ty34:E.ty 34=some ⟨.int .i64,1,8,[.int .i64 0],false⟩:=rfl
@[simp] theorem E_ty36:E.ty 36=some ⟨.func,1,8,[.nilf],false⟩:=rfl
@[simp] theorem E_ty37:E.ty 37=some ⟨.func,1,8,[.nilf],false⟩:=rfl
@[simp] theorem E_ty38:E.ty 38=some ⟨.slice 107,1,24,[.sl true [] (some 0)],false⟩:=rfl
@[simp] theorem E_ty39:E.ty 39=some ⟨.strct [(0,38)],1,24,[.sl true [] (some 0)],false⟩:=rfl
@[simp] theorem E_ty40:E.ty 40=some ⟨.strct [(0,38)],1,24,[.sl true [] (some 0)],false⟩:=rfl
@[simp] theorem E_ty41:E.ty 41=some ⟨.int .u16,1,2,[.int .u16 0],false⟩:=rfl
@[simp] theorem E_ty42:E.ty 42=some ⟨.func,1,8,[.nilf],false⟩:=rfl
@[simp] theorem E_ty44:E.ty 44=some ⟨.func,1,8,[.nilf],false⟩:=rfl
@[simp] theorem E_ty45:E.ty 45=some ⟨.func,1,8,[.nilf],false⟩:=rfl
@[simp] theorem E_ty46:E.ty 46=some ⟨.func,1,8,[.nilf],false⟩:=rfl
@[simp] theorem E_ty47:E.ty 47=some ⟨.slice 3,1,24,[.sl true [] (some 0)],false⟩:=rfl
@[simp] theorem E_ty49:E.ty 49=some ⟨.func,1,8,[.nilf],false⟩:=rfl
@[simp] theorem E_ty50:E.ty 50=some ⟨.func,1,8,[.nilf],false⟩:=rfl
@[simp] theorem E_ty51:E.ty 51=some ⟨.func,1,8,[.nilf],false⟩:=rfl
@[simp] theorem E_ty52:E.ty 52=some ⟨.func,1,8,[.nilf],false⟩:=rfl
@[simp] theorem E_ty53:E.ty 53=some ⟨.func,1,8,[.nilf],false⟩:=rfl
@[simp] theorem E_ty54:E.ty 54=some ⟨.func,1,8,[.nilf],false⟩:=rfl
@[simp] theorem E_ty55:E.ty 55=some ⟨.func,1,8,[.nilf],false⟩:=rfl
@[simp] theorem E_ty57:E.ty 57=some ⟨.func,1,8,[.nilf],false⟩:=rfl
@[simp] theorem E_ty58:E.ty 58=some ⟨.func,1,8,[.nilf],false⟩:=rfl
@[simp] theorem E_ty59:E.ty 59=some ⟨.func,1,8,[.nilf],false⟩:=rfl
@[simp] theorem E_ty60:E.ty 60=some ⟨.func,1,8,[.nilf],false⟩:=rfl
@[simp] theorem E_ty61:E.ty 61=some ⟨.func,1,8,[.nilf],false⟩:=rfl
@[simp] theorem E_ty63:E.ty 63=some ⟨.func,1,8,[.nilf],false⟩:=rfl
@[simp] theorem E_ty64:E.ty 64=some ⟨.strct [(0,22)],1,24,[.sl true [] (some 0)],false⟩:=rfl
@[simp] theorem E_ty65:E.ty 65=some ⟨.strct [(0,22)],1,24,[.sl true [] (some 0)],false⟩:=rfl
@[simp] theorem E_ty66:E.ty 66=some ⟨.slice 125,1,24,[.sl true [] (some 0)],false⟩:=rfl
@[simp] theorem E_ty67:E.ty 67=some ⟨.slice 78,1,24,[.sl true [] (some 0)],false⟩:=rfl
@[simp] theorem E_ty68:E.ty 68=some ⟨.func,1,8,[.nilf],false⟩:=rfl
@[simp] theorem E_ty69:E.ty 69=some ⟨.func,1,8,[.nilf],false⟩:=rfl
@[simp] theorem E_ty70:E.ty 70=some ⟨.strct [(0,47),(1,34)],2,32,[.sl true [] (some 0),.int .i64 0],false⟩:=rfl
@[simp] theorem E_ty71:E.ty 71=some ⟨.strct [(0,47),(1,34)],2,32,[.sl true [] (some 0),.int .i64 0],false⟩:=rfl
@[simp] theorem E_ty73:E.ty 73=some ⟨.func,1,8,[.nilf],false⟩:=rfl
@[simp] theorem E_ty74:E.ty 74=some ⟨.func,1,8,[.nilf],false⟩:=rfl
@[simp] theorem E_ty75:E.ty 75=some ⟨.func,1,8,[.nilf],false⟩:=rfl
@[simp] theorem E_ty76:E.ty 76=some ⟨.func,1,8,[.nilf],false⟩:=rfl
@[simp] theorem E_ty77:E.ty 77=some ⟨.strct [(0,27),(3,4),(4,4)],5,12,[.int .u8 0,.bool false,.int .u32 0,.bool false,.bool false],false⟩:=rfl
@[simp] theorem E_ty78:E.ty 78=some ⟨.strct [(0,27),(3,4),(4,4)],5,12,[.int .u8 0,.bool false,.int .u32 0,.bool false,.bool false],false⟩:=rfl
@[simp] theorem E_ty79:E.ty 79=some ⟨.func,1,8,[.nilf],false⟩:=rfl
@[simp] theorem E_ty80:E.ty 80=some ⟨.func,1,8,[.nilf],false⟩:=rfl
@[simp] theorem E_ty81:E.ty 81=some ⟨.func,1,8,[.nilf],false⟩:=rfl
@[simp] theorem E_ty82:E.ty 82=some ⟨.arr 2 3,2,16,[.int .i64 0,.int .i64 0],false⟩:=rfl
@[simp] theorem E_ty83:E.ty 83=some ⟨.func,1,8,[.nilf],false⟩:=rfl
@[simp] theorem E_ty85:E.ty 85=some ⟨.func,1,8,[.nilf],false⟩:=rfl
@[simp] theorem E_ty86:E.ty 86=some ⟨.func,1,8,[.nilf],false⟩:=rfl
@[simp] theorem E_ty87:E.ty 87=some ⟨.func,1,8,[.nilf],false⟩:=rfl
@[simp] theorem E_ty88:E.ty 88=some ⟨.func,1,8,[.nilf],false⟩:=rfl
@[simp] theorem E_ty89:E.ty 89=some ⟨.func,1,8,[.nilf],false⟩:=rfl
@[simp] theorem E_ty90:E.ty 90=some ⟨.func,1,8,[.nilf],false⟩:=rfl
@[simp] theorem E_ty92:E.ty 92=some ⟨.func,1,8,[.nilf],false⟩:=rfl
@[simp] theorem E_ty93:E.ty 93=some ⟨.func,1,8,[.nilf],false⟩:=rfl
@[simp] theorem E_ty94:E.ty 94=some ⟨.func,1,8,[.nilf],false⟩:=rfl
@[simp] theorem E_ty95:E.ty 95=some ⟨.func,1,8,[.nilf],false⟩:=rfl
@[simp] theorem E_ty96:E.ty 96=some ⟨.func,1,8,[.nilf],false⟩:=rfl
@[simp] theorem E_ty97:E.ty 97=some ⟨.ptr 3,1,8,[.nilp],false⟩:=rfl
@[simp] theorem E_ty98:E.ty 98=some ⟨.func,1,8,[.nilf],false⟩:=rfl
@[simp] theorem E_ty99:E.ty 99=some ⟨.func,1,8,[.nilf],false⟩:=rfl
@[simp] theorem E_ty100:E.ty 100=some ⟨.func,1,8,[.nilf],false⟩:=rfl
@[simp] theorem E_ty102:E.ty 102=some ⟨.func,1,8,[.nilf],false⟩:=rfl
@[simp] theorem E_ty103:E.ty 103=some ⟨.func,1,8,[.nilf],false⟩:=rfl
@[simp] theorem E_ty104:E.ty 104=some ⟨.strct [(0,5),(1,5),(2,25)],3,8,[.int .u8 0,.int .u8 0,.int .u32 0],false⟩:=rfl
@[simp] theorem E_ty105:E.ty 105=some ⟨.strct [(0,5),(1,5),(2,25)],3,8,[.int .u8 0,.int .u8 0,.int .u32 0],false⟩:=rfl
@[simp] theorem E_ty106:E.ty 106=some ⟨.strct [(0,5),(1,5),(2,105),(5,22)],6,40,[.int .u8 0,.int .u8 0,.int .u8 0,.int .u8 0,.int .u32 0,.sl true [] (some 0)],false⟩:=rfl
@[simp] theorem E_ty107:E.ty 107=some ⟨.strct [(0,5),(1,5),(2,105),(5,22)],6,40,[.int .u8 0,.int .u8 0,.int .u8 0,.int .u8 0,.int .u32 0,.sl true [] (some 0)],false⟩:=rfl
@[simp] theorem E_ty108:E.ty 108=some ⟨.func,1,8,[.nilf],false⟩:=rfl
@[simp] theorem E_ty109:E.ty 109=some ⟨.strct [(0,3),(1,34)],2,16,[.int .i64 0,.int .i64 0],false⟩:=rfl
@[simp] theorem E_ty110:E.ty 110=some ⟨.strct [(0,3),(1,34)],2,16,[.int .i64 0,.int .i64 0],false⟩:=rfl
@[simp] theorem E_ty112:E.ty 112=some ⟨.strct [(0,22),(1,3)],2,32,[.sl true [] (some 0),.int .i64 0],false⟩:=rfl
@[simp] theorem E_ty113:E.ty 113=some ⟨.strct [(0,22),(1,3)],2,32,[.sl true [] (some 0),.int .i64 0],false⟩:=rfl
@[simp] theorem E_ty115:E.ty 115=some ⟨.func,1,8,[.nilf],false⟩:=rfl
@[simp] theorem E_ty117:E.ty 117=some ⟨.func,1,8,[.nilf],false⟩:=rfl
@[simp] theorem E_ty118:E.ty 118=some ⟨.func,1,8,[.nilf],false⟩:=rfl
@[simp] theorem E_ty119:E.ty 119=some ⟨.func,1,8,[.nilf],false⟩:=rfl
@[simp] theorem E_ty120:E.ty 120=some ⟨.func,1,8,[.nilf],false⟩:=rfl
@[simp] theorem E_ty121:E.ty 121=some ⟨.func,1,8,[.nilf],false⟩:=rfl
@[simp] theorem E_ty123:E.ty 123=some ⟨.func,1,8,[.nilf],false⟩:=rfl
@[simp] theorem E_ty124:E.ty 124=some ⟨.strct [(0,5),(1,5)],2,2,[.int .u8 0,.int .u8 0],false⟩:=rfl
@[simp] theorem E_ty125:E.ty 125=some ⟨.strct [(0,5),(1,5)],2,2,[.int .u8 0,.int .u8 0],false⟩:=rfl
@[simp] theorem E_ty126:E.ty 126=some ⟨.func,1,8,[.nilf],false⟩:=rfl
@[simp] theorem E_ty127:E.ty 127=some ⟨.func,1,8,[.nilf],false⟩:=rfl
@[simp] theorem E_ty128:E.ty 128=some ⟨.func,1,8,[.nilf],false⟩:=rfl
@[simp] theorem E_ty130:E.ty 130=some ⟨.func,1,8,[.nilf],false⟩:=rfl
@[simp] theorem E_ty132:E.ty 132=some ⟨.func,1,8,[.nilf],false⟩:=rfl
@[simp] theorem E_ty133:E.ty 133=some ⟨.func,1,8,[.nilf],false⟩:=rfl
@[simp] theorem E_ty134:E.ty 134=some ⟨.func,1,8,[.nilf],false⟩:=rfl
@[simp] theorem E_ty135:E.ty 135=some ⟨.func,1,8,[.nilf],false⟩:=rfl
@[simp] theorem E_ty136:E.ty 136=some ⟨.ptr 113,1,8,[.nilp],false⟩:=rfl
@[simp] theorem E_ty138:E.ty 138=some ⟨.func,1,8,[.nilf],false⟩:=rfl
@[simp] theorem E_ty140:E.ty 140=some ⟨.func,1,8,[.nilf],false⟩:=rfl
@[simp] theorem E_ty141:E.ty 141=some ⟨.func,1,8,[.nilf],false⟩:=rfl
@[simp] theorem E_ty142:E.ty 142=some ⟨.func,1,8,[.nilf],false⟩:=rfl
@[simp] theorem E_ty143:E.ty 143=some ⟨.func,1,8,[.nilf],false⟩:=rfl
@[simp] theorem E_ty144:E.ty 144=some ⟨.func,1,8,[.nilf],false⟩:=rfl
@[simp] theorem E_ty145:E.ty 145=some ⟨.func,1,8,[.nilf],false⟩:=rfl
@[simp] theorem E_ty146:E.ty 146=some ⟨.func,1,8,[.nilf],false⟩:=rfl
@[simp] theorem E_ty147:E.ty 147=some ⟨.func,1,8,[.nilf],false⟩:=rfl
@[simp] theorem E_ty148:E.ty 148=some ⟨.func,1,8,[.nilf],false⟩:=rfl
@[simp] theorem E_ty149:E.ty 149=some ⟨.func,1,8,[.nilf],false⟩:=rfl
@[simp] theorem E_ty150:E.ty 150=some ⟨.func,1,8,[.nilf],false⟩:=rfl
@[simp] theorem E_ty151:E.ty 151=some ⟨.int .u64,1,8,[.int .u64 0],false⟩:=rfl
@[simp] theorem E_ty152:E.ty 152=some ⟨.func,1,8,[.nilf],false⟩:=rfl
@[simp] theorem E_ty153:E.ty 153=some ⟨.func,1,8,[.nilf],false⟩:=rfl
@[simp] theorem E_ty154:E.ty 154=some ⟨.func,1,8,[.nilf],false⟩:=rfl
@[simp] theorem E_ty156:E.ty 156=some ⟨.func,1,8,[.nilf],false⟩:=rfl
@[simp] theorem E_ty157:E.ty 157=some ⟨.arr 3 5,3,3,[.int .u8 0,.int .u8 0,.int .u8 0],false⟩:=rfl
@[simp] theorem E_ty158:E.ty 158=some ⟨.arr 3 5,3,3,[.int .u8 0,.int .u8 0,.int .u8 0],false⟩:=rfl
@[simp] theorem E_ty159:E.ty 159=some ⟨.func,1,8,[.nilf],false⟩:=rfl
@[simp] theorem E_ty160:E.ty 160=some ⟨.func,1,8,[.nilf],false⟩:=rfl
@[simp] theorem E_ty161:E.ty 161=some ⟨.strct [(0,17),(1,17),(2,17),(3,9)],4,40,[.nilp,.nilp,.nilp,.str []],false⟩:=rfl
@[simp] theorem E_ty162:E.ty 162=some ⟨.strct [(0,17),(1,17),(2,17),(3,9)],4,40,[.nilp,.nilp,.nilp,.str []],false⟩:=rfl
@[simp] theorem E_ty163:E.ty 163=some ⟨.arr 0 16,0,0,[],false⟩:=rfl
@[simp] theorem E_ty164:E.ty 164=some ⟨.strct [(0,163)],0,0,[],false⟩:=rfl
@[simp] theorem E_ty165:E.ty 165=some ⟨.strct [(0,163)],0,0,[],false⟩:=rfl
@[simp] theorem E_ty166:E.ty 166=some ⟨.func,1,8,[.nilf],false⟩:=rfl
@[simp] theorem E_ty167:E.ty 167=some ⟨.int .u8,1,1,[.int .u8 0],false⟩:=rfl
@[simp] theorem E_ty168:E.ty 168=some ⟨.int .u8,1,1,[.int .u8 0],false⟩:=rfl
@[simp] theorem E_ty169:E.ty 169=some ⟨.func,1,8,[.nilf],false⟩:=rfl
@[simp] theorem E_ty170:E.ty 170=some ⟨.ptr 5,1,8,[.nilp],false⟩:=rfl
@[simp] theorem E_ty171:E.ty 171=some ⟨.int .i32,1,4,[.int .i32 0],false⟩:=rfl
@[simp] theorem E_ty172:E.ty 172=some ⟨.int .i32,1,4,[.int .i32 0],false⟩:=rfl
@[simp] theorem E_ty173:E.ty 173=some ⟨.strct [(0,12),(1,12),(2,25),(3,167),(4,5),(5,5),(6,168),(7,169),(8,170),(9,171),(10,172)],11,48,[.int .u64 0,.int .u64 0,.int .u32 0,.int .u8 0,.int .u8 0,.int .u8 0,.int .u8 0,.nilf,.nilp,.int .i32 0,.int .i32 0],false⟩:=rfl
@[simp] theorem E_ty174:E.ty 174=some ⟨.strct [(0,12),(1,12),(2,25),(3,167),(4,5),(5,5),(6,168),(7,169),(8,170),(9,171),(10,172)],11,48,[.int .u64 0,.int .u64 0,.int .u32 0,.int .u8 0,.int .u8 0,.int .u8 0,.int .u8 0,.nilf,.nilp,.int .i32 0,.int .i32 0],false⟩:=rfl
end TabE
