/- The tables of this translation for the evaluator: written by gen2.py. No conditions. -/
import Derived.Test.YtbiildmljbcmeaaDoorB2
import Derived.Test.YtbiildmljbcmeaaDoorTg
set_option linter.unusedVariables false
set_option maxRecDepth 100000
namespace TabE
open Go Ab
abbrev o (d:Nat) (x:Op) (t:TypeId):Oper:=⟨some d,x,t, "",#[],none⟩
abbrev m (d i:Nat) (t:TypeId):Oper:=⟨some d,.move (.tmp i),t, "",#[],none⟩
abbrev ci (z:Int):Operand:=.const (.int .i64 z)
abbrev ld (d i t:Nat):Oper:=⟨some d,.load t (.tmp i),t, "",#[],none⟩
abbrev fa (d t i f:Nat):Oper:=⟨some d,.fieldAddr t (.tmp i) f,0, "",#[],none⟩
abbrev cl (d f:Nat) (a:Array Operand) (s:Array TypeId) (t:TypeId):Oper:=⟨some d,.call { callee:=.value (.func f),args:=a,argTypes:=s },t, "",#[],none⟩
abbrev gd (d:Nat) (x:Op) (t:TypeId) (g:Nat) (b:Bool):Oper:=⟨some d,x,t, "",#[],some (g,b)⟩
abbrev nd (x:Op):Oper:=⟨none,x,0, "",#[],none⟩
def opnT:FuncId → Option (List Bool × Bool)
  | 13 => some ([false,true,false],true)
  | 71 => some ([false,true],true)
  | 76 => some ([false,true],true)
  | 119 => some ([false,true],true)
  | 120 => some ([false,false,true,true],true)
  | 125 => some ([true],true)
  | 126 => some ([true],true)
  | 150 => some ([true],true)
  | 152 => some ([false,false,true,true],true)
  | 166 => some ([true,true],true)
  | 181 => some ([true,true],true)
  | _ => none
def opn74:FuncId → Option (List Bool × Bool)
  | 112 => some ([false],false)
  | i => opnT i
def opn116:FuncId → Option (List Bool × Bool)
  | 148 => some ([false],false)
  | i => opnT i
def opn148:FuncId → Option (List Bool × Bool)
  | 131 => some ([true],false)
  | 165 => some ([false],false)
  | i => opnT i
def c3:Code :=
  (.seq (.region 0 #[o 1 (.box 29 (.tmp 0)) 0,o 2 (.assign (.const (.bool false))) 4] false)
 (.seq (.region 1 #[o 3 (.alloc 3) 0,nd (.store 3 (.tmp 3) (ci 40))] false)
 (.seq (.seq (.region 2 #[ld 10 1 29,cl 11 13 #[.tmp 10,.tmp 3,.const (.int .i64 0)] #[29,31,3] 3,o 12 (.binOp .eql 3 (.tmp 11) (ci 0) 3) 4] false)
 (.cond (.tmp 12)
 (.seq (.region 3 #[cl 13 14 #[] #[] 4,o 2 (.assign (.tmp 13)) 4] false)
 .ret)
 .skip))
 (.seq (.region 4 #[ld 15 1 29,cl 16 15 #[.tmp 15] #[29] 42,m 14 16 42,o 17 (.extract (.tmp 14) 0) 37,o 18 (.extract (.tmp 14) 1) 41,o 4 (.alloc 37) 0,o 5 (.alloc 41) 0,nd (.store 37 (.tmp 4) (.tmp 17)),nd (.store 41 (.tmp 5) (.tmp 18))] false)
 (.seq (.region 5 #[ld 20 1 29,cl 21 16 #[.tmp 20] #[29] 42,m 19 21 42,o 22 (.extract (.tmp 19) 0) 37,o 23 (.extract (.tmp 19) 1) 41,o 6 (.alloc 37) 0,o 7 (.alloc 41) 0,nd (.store 37 (.tmp 6) (.tmp 22)),nd (.store 41 (.tmp 7) (.tmp 23))] false)
 (.seq (.seq (.region 6 #[ld 24 5 41,ld 25 7 41,cl 26 17 #[.tmp 24,.tmp 25] #[41,41] 3,ld 27 4 37,ld 28 6 37,cl 29 18 #[.tmp 27,.tmp 28] #[37,37] 3,o 30 (.binOp .mul 3 (.tmp 26) (.tmp 29) 3) 3,o 31 (.binOp .eql 3 (.tmp 30) (ci 0) 3) 4] true)
 (.cond (.tmp 31)
 (.seq (.region 7 #[o 2 (.assign (.const (.bool false))) 4] false)
 .ret)
 .skip))
 (.seq (.seq (.region 8 #[fa 32 41 5 1,ld 33 32 39,o 34 (.binOp .neq 39 (.tmp 33) (ci 0) 39) 4] false)
 (.cond (.tmp 34)
 (.seq (.region 9 #[cl 35 14 #[] #[] 4,o 2 (.assign (.tmp 35)) 4] false)
 .ret)
 .skip))
 (.seq (.region 10 #[ld 37 4 37,cl 38 19 #[.tmp 37] #[37] 46,m 36 38 46,o 39 (.extract (.tmp 36) 0) 29,o 40 (.extract (.tmp 36) 1) 39,o 8 (.alloc 29) 0,nd (.store 29 (.tmp 8) (.tmp 39)),o 9 (.assign (.tmp 40)) 39] false)
 (.seq (.region 11 #[m 41 9 39,o 42 (.binOp .eql 39 (.tmp 41) (ci 0) 39) 4,m 43 42 4,gd 44 (.load 29 (.tmp 8)) 29 43 true,gd 45 (.load 29 (.tmp 1)) 29 43 true,gd 46 (.call { callee:=.value (.func 20),args:=#[.tmp 44,.tmp 45],argTypes:=#[29,29] }) 3 43 true,gd 47 (.binOp .eql 3 (.tmp 46) (ci 1) 3) 4 43 true,o 48 (.pick (.tmp 43) (.tmp 47) (.const (.bool false))) 4,m 49 48 4,gd 50 (.call { callee:=.value (.func 14),args:=#[],argTypes:=#[] }) 4 49 true,o 51 (.pick (.tmp 49) (.tmp 50) (.const (.bool false))) 4,o 2 (.assign (.tmp 51)) 4] false)
 .ret)))))))))
def kp3:Nat → Option (List Nat)
  | 0 => some [1]
  | 1 => some [1,3]
  | 2 => some [1,12]
  | 3 => some [2]
  | 4 => some [1,4,5]
  | 5 => some [1,4,5,6,7]
  | 6 => some [1,4,5,31]
  | 7 => some [2]
  | 8 => some [1,4,34]
  | 9 => some [2]
  | 10 => some [1,8,9]
  | 11 => some [2]
  | _ => none
def fn3:AFn:={ ntmps:=52,results:=[.tmp 2],body:=c3,keep:=kp3,head:=fun  | _ => none,opn:=opnT,dyn:=fun _ => [] }
def c4:Code :=
  (.seq (.region 0 #[o 3 (.box 37 (.tmp 0)) 0,o 6 (.assign (.const (.bool false))) 4] false)
 (.seq (.region 1 #[o 7 (.alloc 3) 0,nd (.store 3 (.tmp 7) (ci 40))] false)
 (.seq (.seq (.region 2 #[fa 15 37 3 2,ld 16 15 29,cl 17 13 #[.tmp 16,.tmp 7,.const (.int .i64 0)] #[29,31,3] 3,o 18 (.binOp .eql 3 (.tmp 17) (ci 0) 3) 4,m 19 18 4,gd 20 (.move (.tmp 1)) 26 19 false,gd 21 (.call { callee:=.builtin .len,args:=#[.tmp 20],argTypes:=#[26] }) 3 19 false,gd 22 (.binOp .gtr 3 (.tmp 21) (ci 100) 3) 4 19 false,o 23 (.pick (.tmp 19) (.const (.bool true)) (.tmp 22)) 4] false)
 (.cond (.tmp 23)
 (.seq (.region 3 #[cl 24 14 #[] #[] 4,o 6 (.assign (.tmp 24)) 4] false)
 .ret)
 .skip))
 (.seq (.region 4 #[fa 25 37 3 0,ld 26 25 35,cl 27 21 #[.tmp 26] #[35] 39,o 8 (.assign (.tmp 27)) 39] false)
 (.seq (.seq (.region 5 #[m 28 8 39,o 29 (.binOp .eql 39 (.tmp 28) (ci 0) 39) 4,m 30 29 4,gd 31 (.fieldAddr 37 (.tmp 3) 1) 0 30 true,gd 32 (.load 4 (.tmp 31)) 4 30 true,gd 33 (.unOp .not 4 (.tmp 32)) 4 30 true,o 34 (.pick (.tmp 30) (.tmp 33) (.const (.bool false))) 4,m 35 34 4,gd 36 (.fieldAddr 37 (.tmp 3) 2) 0 35 true,gd 37 (.load 29 (.tmp 36)) 29 35 true,gd 38 (.build 29 #[]) 29 35 true,gd 39 (.call { callee:=.value (.func 20),args:=#[.tmp 37,.tmp 38],argTypes:=#[29,29] }) 3 35 true,gd 40 (.binOp .eql 3 (.tmp 39) (ci 0) 3) 4 35 true,o 41 (.pick (.tmp 35) (.tmp 40) (.const (.bool false))) 4] false)
 (.cond (.tmp 41)
 (.region 6 #[o 8 (.assign (ci 1)) 39] false)
 .skip))
 (.seq (.seq (.region 7 #[m 42 8 39,o 43 (.binOp .eql 39 (.tmp 42) (ci 0) 39) 4] false)
 (.cond (.tmp 43)
 (.region 8 #[ld 44 3 37,cl 45 23 #[.tmp 44] #[37] 29,cl 46 22 #[.tmp 45] #[29] 39,o 8 (.assign (.tmp 46)) 39] false)
 .skip))
 (.seq (.region 9 #[ld 48 3 37,cl 49 19 #[.tmp 48] #[37] 46,m 47 49 46,o 50 (.extract (.tmp 47) 0) 29,o 51 (.extract (.tmp 47) 1) 39,o 9 (.alloc 29) 0,nd (.store 29 (.tmp 9) (.tmp 50)),o 10 (.assign (.tmp 51)) 39] false)
 (.seq (.seq (.region 10 #[ld 52 3 37,cl 53 24 #[.tmp 52] #[37] 39,m 54 8 39,o 55 (.binOp .neq 39 (.tmp 53) (.tmp 54) 39) 4,m 56 55 4,gd 57 (.move (.tmp 10)) 39 56 false,gd 58 (.move (.tmp 8)) 39 56 false,gd 59 (.binOp .neq 39 (.tmp 57) (.tmp 58) 39) 4 56 false,o 60 (.pick (.tmp 56) (.const (.bool true)) (.tmp 59)) 4,m 61 60 4,gd 62 (.move (.tmp 8)) 39 61 false,gd 63 (.binOp .neq 39 (.tmp 62) (ci 0) 39) 4 61 false,gd 64 (.move (.tmp 63)) 4 61 false,gd 65 (.load 29 (.tmp 9)) 29 64 true,gd 66 (.build 29 #[]) 29 64 true,gd 67 (.call { callee:=.value (.func 20),args:=#[.tmp 65,.tmp 66],argTypes:=#[29,29] }) 3 64 true,gd 68 (.binOp .eql 3 (.tmp 67) (ci 0) 3) 4 64 true,gd 69 (.pick (.tmp 64) (.tmp 68) (.const (.bool false))) 4 61 false,o 70 (.pick (.tmp 61) (.const (.bool true)) (.tmp 69)) 4] false)
 (.cond (.tmp 70)
 (.seq (.region 11 #[o 6 (.assign (.const (.bool false))) 4] false)
 .ret)
 .skip))
 (.seq (.seq (.region 12 #[m 71 8 39,o 72 (.binOp .eql 39 (.tmp 71) (ci 0) 39) 4,m 73 72 4,gd 74 (.load 29 (.tmp 9)) 29 73 true,gd 75 (.load 37 (.tmp 3)) 37 73 true,gd 76 (.call { callee:=.value (.func 23),args:=#[.tmp 75],argTypes:=#[37] }) 29 73 true,gd 77 (.call { callee:=.value (.func 20),args:=#[.tmp 74,.tmp 76],argTypes:=#[29,29] }) 3 73 true,gd 78 (.binOp .eql 3 (.tmp 77) (ci 0) 3) 4 73 true,o 79 (.pick (.tmp 73) (.tmp 78) (.const (.bool false))) 4] true)
 (.cond (.tmp 79)
 (.seq (.region 13 #[o 6 (.assign (.const (.bool false))) 4] false)
 .ret)
 .skip))
 (.seq (.seq (.region 14 #[m 80 8 39,o 81 (.binOp .eql 39 (.tmp 80) (ci 0) 39) 4] false)
 (.cond (.tmp 81)
 (.seq (.region 15 #[m 83 1 26,m 84 2 3,cl 85 25 #[.tmp 83,.tmp 84] #[26,3] 46,m 82 85 46,o 86 (.extract (.tmp 82) 0) 29,o 87 (.extract (.tmp 82) 1) 39,o 11 (.alloc 29) 0,nd (.store 29 (.tmp 11) (.tmp 86)),o 12 (.assign (.tmp 87)) 39] false)
 (.seq (.region 16 #[m 88 12 39,o 8 (.assign (.tmp 88)) 39] false)
 (.seq (.region 17 #[m 89 8 39,o 90 (.binOp .eql 39 (.tmp 89) (ci 0) 39) 4] false)
 (.cond (.tmp 90)
 (.region 18 #[cl 91 26 #[] #[] 25,ld 92 9 29,ld 93 11 29,⟨some 94,.buildSlice 27 2 #[(0,.tmp 92),(1,.tmp 93)],27, "",fz,none⟩,o 95 (.build 29 #[(0,.tmp 91),(2,.tmp 94)]) 29,cl 96 22 #[.tmp 95] #[29] 39,o 8 (.assign (.tmp 96)) 39] true)
 .skip))))
 .skip))
 (.seq (.region 19 #[ld 97 3 37,m 98 1 26,m 99 2 3,o 100 (.build 57 #[(0,.tmp 97),(1,.tmp 98),(2,.tmp 99)]) 57,o 13 (.alloc 57) 0,nd (.store 57 (.tmp 13) (.tmp 100))] false)
 (.seq (.region 20 #[ld 102 13 57,cl 103 27 #[.tmp 102] #[57] 46,m 101 103 46,o 104 (.extract (.tmp 101) 0) 29,o 105 (.extract (.tmp 101) 1) 39,o 14 (.alloc 29) 0,nd (.store 29 (.tmp 14) (.tmp 104)),o 10 (.assign (.tmp 105)) 39] false)
 (.seq (.region 21 #[ld 106 13 57,cl 107 28 #[.tmp 106] #[57] 39,m 108 8 39,o 109 (.binOp .eql 39 (.tmp 107) (.tmp 108) 39) 4,m 110 109 4,gd 111 (.move (.tmp 10)) 39 110 true,gd 112 (.move (.tmp 8)) 39 110 true,gd 113 (.binOp .eql 39 (.tmp 111) (.tmp 112) 39) 4 110 true,o 114 (.pick (.tmp 110) (.tmp 113) (.const (.bool false))) 4,m 115 114 4,gd 116 (.move (.tmp 8)) 39 115 true,gd 117 (.binOp .eql 39 (.tmp 116) (ci 0) 39) 4 115 true,gd 118 (.move (.tmp 117)) 4 115 true,gd 119 (.load 29 (.tmp 14)) 29 118 false,gd 120 (.build 29 #[]) 29 118 false,gd 121 (.call { callee:=.value (.func 20),args:=#[.tmp 119,.tmp 120],argTypes:=#[29,29] }) 3 118 false,gd 122 (.binOp .eql 3 (.tmp 121) (ci 1) 3) 4 118 false,gd 123 (.pick (.tmp 118) (.const (.bool true)) (.tmp 122)) 4 115 true,o 124 (.pick (.tmp 115) (.tmp 123) (.const (.bool false))) 4,m 125 124 4,gd 126 (.call { callee:=.value (.func 14),args:=#[],argTypes:=#[] }) 4 125 true,o 127 (.pick (.tmp 125) (.tmp 126) (.const (.bool false))) 4,o 6 (.assign (.tmp 127)) 4] false)
 .ret)))))))))))))
def kp4:Nat → Option (List Nat)
  | 0 => some [1,2,3]
  | 1 => some [1,2,3,7]
  | 2 => some [1,2,3,23]
  | 3 => some [6]
  | 4 => some [1,2,3,8]
  | 5 => some [1,2,3,8,41]
  | 6 => some [1,2,3,8]
  | 7 => some [1,2,3,8,43]
  | 8 => some [1,2,3,8]
  | 9 => some [1,2,3,8,9,10]
  | 10 => some [1,2,3,8,9,70]
  | 11 => some [6]
  | 12 => some [1,2,3,8,9,79]
  | 13 => some [6]
  | 14 => some [1,2,3,8,9,81]
  | 15 => some [1,2,3,9,11,12]
  | 16 => some [1,2,3,8,9,11]
  | 17 => some [1,2,3,8,9,11,90]
  | 18 => some [1,2,3,8]
  | 19 => some [8,13]
  | 20 => some [8,10,13,14]
  | 21 => some [6]
  | _ => none
def fn4:AFn:={ ntmps:=128,results:=[.tmp 6],body:=c4,keep:=kp4,head:=fun  | _ => none,opn:=opnT,dyn:=fun | 1000000 => [(94,0)] | _ => [] }
def c13:Code :=
  (.seq (.region 0 #[o 3 (.box 29 (.tmp 0)) 0,o 6 (.assign (ci 0)) 3] false)
 (.seq (.region 1 #[m 8 1 31,m 9 1 31,o 10 (.nilCheck (.tmp 9)) 0,ld 11 10 3,o 12 (.binOp .sub 3 (.tmp 11) (ci 1) 3) 3,o 13 (.nilCheck (.tmp 8)) 0,nd (.store 3 (.tmp 13) (.tmp 12))] false)
 (.seq (.seq (.region 2 #[m 14 1 31,o 15 (.nilCheck (.tmp 14)) 0,ld 16 15 3,o 17 (.binOp .lss 3 (.tmp 16) (ci 0) 3) 4,m 18 17 4,gd 19 (.move (.tmp 2)) 3 18 false,gd 20 (.binOp .gtr 3 (.tmp 19) (ci 20) 3) 4 18 false,o 21 (.pick (.tmp 18) (.const (.bool true)) (.tmp 20)) 4,m 22 21 4,gd 23 (.fieldAddr 29 (.tmp 3) 1) 0 22 false,gd 24 (.load 26 (.tmp 23)) 26 22 false,gd 25 (.call { callee:=.builtin .len,args:=#[.tmp 24],argTypes:=#[26] }) 3 22 false,gd 26 (.binOp .gtr 3 (.tmp 25) (ci 100) 3) 4 22 false,o 27 (.pick (.tmp 22) (.const (.bool true)) (.tmp 26)) 4,m 28 27 4,gd 29 (.fieldAddr 29 (.tmp 3) 2) 0 28 false,gd 30 (.load 27 (.tmp 29)) 27 28 false,gd 31 (.call { callee:=.builtin .len,args:=#[.tmp 30],argTypes:=#[27] }) 3 28 false,gd 32 (.binOp .gtr 3 (.tmp 31) (ci 40) 3) 4 28 false,o 33 (.pick (.tmp 28) (.const (.bool true)) (.tmp 32)) 4] false)
 (.cond (.tmp 33)
 (.seq (.region 3 #[o 6 (.assign (ci 0)) 3] false)
 .ret)
 .skip))
 (.seq (.seq (.region 4 #[o 7 (.assign (ci 0)) 3] false)
 (.block 0 (.loop (.seq (.seq (.region 5 #[m 34 7 3,fa 35 29 3 2,ld 36 35 27,o 37 (.call { callee:=.builtin .len,args:=#[.tmp 36],argTypes:=#[27] }) 3,o 38 (.binOp .lss 3 (.tmp 34) (.tmp 37) 3) 4] false)
 (.cond (.tmp 38)
 .skip
 (.exit 0)))
 (.seq (.block 1 (.seq (.region 7 #[fa 41 29 3 2,ld 42 41 27,m 43 7 3,o 44 (.indexAddr 27 (.tmp 42) (.tmp 43)) 0,ld 45 44 29,m 46 1 31,m 47 2 3,o 48 (.binOp .add 3 (.tmp 47) (ci 1) 3) 3,cl 49 13 #[.tmp 45,.tmp 46,.tmp 48] #[29,31,3] 3,o 50 (.binOp .eql 3 (.tmp 49) (ci 0) 3) 4] false)
 (.cond (.tmp 50)
 (.seq (.region 8 #[o 6 (.assign (ci 0)) 3] false)
 .ret)
 .skip)))
 (.region 6 #[m 39 7 3,o 40 (.binOp .add 3 (.tmp 39) (ci 1) 3) 3,o 7 (.assign (.tmp 40)) 3] false))))))
 (.seq (.region 9 #[o 6 (.assign (ci 1)) 3] false)
 .ret)))))
def kp13:Nat → Option (List Nat)
  | 0 => some [1,2,3]
  | 1 => some [1,2,3]
  | 2 => some [1,2,3,33]
  | 3 => some [6]
  | 4 => some [1,2,3,7]
  | 5 => some [1,2,3,7,38]
  | 6 => some [1,2,3,7]
  | 7 => some [1,2,3,7,50]
  | 8 => some [6]
  | 9 => some [6]
  | _ => none
def fn13:AFn:={ ntmps:=51,results:=[.tmp 6],body:=c13,keep:=kp13,head:=fun | 5 => some [1,2,3,7] | _ => none,opn:=opnT,dyn:=fun _ => [] }
def c14:Code :=
  (.seq (.region 0 #[o 0 (.assign (.const (.bool false))) 4] false)
 (.seq (.region 1 #[o 18 (.build 33 #[(0,.const (.int .u32 1)),(1,.const (.int .u32 2)),(2,.const (.int .u32 840)),(3,.const (.int .u32 113549)),(4,.const (.int .u32 1)),(5,.const (.int .u32 1)),(6,.const (.int .u32 11))]) 33,o 19 (.build 35 #[(0,.const (.int .u8 7)),(1,.tmp 18)]) 35,o 1 (.alloc 35) 0,nd (.store 35 (.tmp 1) (.tmp 19))] false)
 (.seq (.region 2 #[o 20 (.build 25 #[(2,.const (.int .u32 5))]) 25,o 21 (.build 29 #[(0,.tmp 20)]) 29,o 2 (.alloc 29) 0,nd (.store 29 (.tmp 2) (.tmp 21))] false)
 (.seq (.region 3 #[ld 23 1 35,ld 24 2 29,o 25 (.build 37 #[(0,.tmp 23),(1,.const (.bool true)),(2,.tmp 24)]) 37,cl 26 19 #[.tmp 25] #[37] 46,m 22 26 46,o 27 (.extract (.tmp 22) 0) 29,o 28 (.extract (.tmp 22) 1) 39,o 3 (.alloc 29) 0,nd (.store 29 (.tmp 3) (.tmp 27)),o 4 (.assign (.tmp 28)) 39] false)
 (.seq (.region 4 #[ld 30 1 35,o 31 (.build 37 #[(0,.tmp 30)]) 37,cl 32 19 #[.tmp 31] #[37] 46,m 29 32 46,o 33 (.extract (.tmp 29) 0) 29,o 34 (.extract (.tmp 29) 1) 39,o 5 (.alloc 29) 0,nd (.store 29 (.tmp 5) (.tmp 33)),o 6 (.assign (.tmp 34)) 39] false)
 (.seq (.seq (.region 5 #[m 35 4 39,o 36 (.binOp .neq 39 (.tmp 35) (ci 0) 39) 4,m 37 36 4,gd 38 (.move (.tmp 6)) 39 37 false,gd 39 (.binOp .neq 39 (.tmp 38) (ci 0) 39) 4 37 false,o 40 (.pick (.tmp 37) (.const (.bool true)) (.tmp 39)) 4,m 41 40 4,gd 42 (.load 29 (.tmp 3)) 29 41 false,gd 43 (.call { callee:=.value (.func 65),args:=#[.tmp 42],argTypes:=#[29] }) 26 41 false,gd 44 (.convert 26 9 (.tmp 43)) 9 41 false,gd 45 (.binOp .neq 9 (.tmp 44) (.const (.string { data:=#[48,13,6,9,42,134,72,134,247,13,1,1,11,5,0] })) 9) 4 41 false,o 46 (.pick (.tmp 41) (.const (.bool true)) (.tmp 45)) 4,m 47 46 4,gd 48 (.load 29 (.tmp 5)) 29 47 false,gd 49 (.call { callee:=.value (.func 65),args:=#[.tmp 48],argTypes:=#[29] }) 26 47 false,gd 50 (.convert 26 9 (.tmp 49)) 9 47 false,gd 51 (.binOp .neq 9 (.tmp 50) (.const (.string { data:=#[48,11,6,9,42,134,72,134,247,13,1,1,11] })) 9) 4 47 false,o 52 (.pick (.tmp 47) (.const (.bool true)) (.tmp 51)) 4] false)
 (.cond (.tmp 52)
 (.seq (.region 6 #[o 0 (.assign (.const (.bool false))) 4] false)
 .ret)
 .skip))
 (.seq (.region 7 #[o 53 (.build 33 #[(0,.const (.int .u32 1)),(1,.const (.int .u32 2)),(2,.const (.int .u32 3))]) 33,o 54 (.build 35 #[(0,.const (.int .u8 3)),(1,.tmp 53)]) 35,o 7 (.alloc 35) 0,nd (.store 35 (.tmp 7) (.tmp 54))] false)
 (.seq (.region 8 #[ld 56 7 35,o 57 (.build 37 #[(0,.tmp 56)]) 37,⟨some 58,.buildSlice 26 1 #[(0,.const (.int .u8 160))],26, "",fz,none⟩,o 59 (.build 57 #[(0,.tmp 57),(1,.tmp 58),(2,.const (.int .i64 3))]) 57,cl 60 27 #[.tmp 59] #[57] 46,m 55 60 46,o 61 (.extract (.tmp 55) 0) 29,o 62 (.extract (.tmp 55) 1) 39,o 8 (.alloc 29) 0,nd (.store 29 (.tmp 8) (.tmp 61)),o 9 (.assign (.tmp 62)) 39] false)
 (.seq (.seq (.region 9 #[m 63 9 39,o 64 (.binOp .neq 39 (.tmp 63) (ci 0) 39) 4,m 65 64 4,gd 66 (.load 29 (.tmp 8)) 29 65 false,gd 67 (.call { callee:=.value (.func 65),args:=#[.tmp 66],argTypes:=#[29] }) 26 65 false,gd 68 (.convert 26 9 (.tmp 67)) 9 65 false,gd 69 (.binOp .neq 9 (.tmp 68) (.const (.string { data:=#[48,10,48,4,6,2,42,3,3,2,5,160] })) 9) 4 65 false,o 70 (.pick (.tmp 65) (.const (.bool true)) (.tmp 69)) 4,m 71 70 4,gd 72 (.load 35 (.tmp 7)) 35 71 false,gd 73 (.load 29 (.tmp 2)) 29 71 false,gd 74 (.build 37 #[(0,.tmp 72),(2,.tmp 73)]) 37 71 false,gd 75 (.call { callee:=.value (.func 24),args:=#[.tmp 74],argTypes:=#[37] }) 39 71 false,gd 76 (.binOp .neq 39 (.tmp 75) (ci 1) 39) 4 71 false,o 77 (.pick (.tmp 71) (.const (.bool true)) (.tmp 76)) 4] false)
 (.cond (.tmp 77)
 (.seq (.region 10 #[o 0 (.assign (.const (.bool false))) 4] false)
 .ret)
 .skip))
 (.seq (.region 11 #[cl 79 26 #[] #[] 25,o 80 (.build 29 #[(0,.tmp 79)]) 29,cl 81 15 #[.tmp 80] #[29] 42,m 78 81 42,o 82 (.extract (.tmp 78) 0) 37,o 83 (.extract (.tmp 78) 1) 41,o 10 (.alloc 37) 0,o 11 (.alloc 41) 0,nd (.store 37 (.tmp 10) (.tmp 82)),nd (.store 41 (.tmp 11) (.tmp 83))] false)
 (.seq (.region 12 #[cl 85 26 #[] #[] 25,ld 86 2 29,⟨some 87,.buildSlice 27 1 #[(0,.tmp 86)],27, "",fz,none⟩,o 88 (.build 29 #[(0,.tmp 85),(2,.tmp 87)]) 29,cl 89 15 #[.tmp 88] #[29] 42,m 84 89 42,o 90 (.extract (.tmp 84) 0) 37,o 91 (.extract (.tmp 84) 1) 41,o 12 (.alloc 37) 0,o 13 (.alloc 41) 0,nd (.store 37 (.tmp 12) (.tmp 90)),nd (.store 41 (.tmp 13) (.tmp 91))] true)
 (.seq (.region 13 #[cl 93 66 #[.const (.slice none 0 0)] #[26] 119,m 92 93 119,o 94 (.extract (.tmp 92) 0) 35,o 95 (.extract (.tmp 92) 1) 39,o 14 (.alloc 35) 0,nd (.store 35 (.tmp 14) (.tmp 94)),o 15 (.assign (.tmp 95)) 39] false)
 (.seq (.region 14 #[cl 97 26 #[] #[] 25,cl 98 67 #[] #[] 25,o 99 (.build 29 #[(0,.tmp 98)]) 29,ld 100 2 29,⟨some 101,.buildSlice 27 2 #[(0,.tmp 99),(1,.tmp 100)],27, "",fz,none⟩,o 102 (.build 29 #[(0,.tmp 97),(2,.tmp 101)]) 29,cl 103 15 #[.tmp 102] #[29] 42,m 96 103 42,o 104 (.extract (.tmp 96) 0) 37,o 105 (.extract (.tmp 96) 1) 41,o 16 (.alloc 37) 0,o 17 (.alloc 41) 0,nd (.store 37 (.tmp 16) (.tmp 104)),nd (.store 41 (.tmp 17) (.tmp 105))] true)
 (.seq (.region 15 #[m 106 15 39,o 107 (.binOp .neq 39 (.tmp 106) (ci 0) 39) 4,m 108 107 4,gd 109 (.load 41 (.tmp 11)) 41 108 true,gd 110 (.call { callee:=.value (.func 35),args:=#[.const (.int .i64 7),.const (.int .i64 (-1))],argTypes:=#[39,3] }) 41 108 true,gd 111 (.call { callee:=.value (.func 17),args:=#[.tmp 109,.tmp 110],argTypes:=#[41,41] }) 3 108 true,gd 112 (.load 41 (.tmp 13)) 41 108 true,gd 113 (.call { callee:=.value (.func 35),args:=#[.const (.int .i64 9),.const (.int .i64 0)],argTypes:=#[39,3] }) 41 108 true,gd 114 (.call { callee:=.value (.func 17),args:=#[.tmp 112,.tmp 113],argTypes:=#[41,41] }) 3 108 true,gd 115 (.binOp .mul 3 (.tmp 111) (.tmp 114) 3) 3 108 true,gd 116 (.load 41 (.tmp 17)) 41 108 true,gd 117 (.move (.tmp 15)) 39 108 true,gd 118 (.call { callee:=.value (.func 35),args:=#[.tmp 117,.const (.int .i64 0)],argTypes:=#[39,3] }) 41 108 true,gd 119 (.call { callee:=.value (.func 17),args:=#[.tmp 116,.tmp 118],argTypes:=#[41,41] }) 3 108 true,gd 120 (.binOp .mul 3 (.tmp 115) (.tmp 119) 3) 3 108 true,gd 121 (.binOp .eql 3 (.tmp 120) (ci 1) 3) 4 108 true,o 122 (.pick (.tmp 108) (.tmp 121) (.const (.bool false))) 4,o 0 (.assign (.tmp 122)) 4] true)
 .ret))))))))))))))
def kp14:Nat → Option (List Nat)
  | 0 => some []
  | 1 => some [1]
  | 2 => some [1,2]
  | 3 => some [1,2,3,4]
  | 4 => some [2,3,4,5,6]
  | 5 => some [2,52]
  | 6 => some [0]
  | 7 => some [2,7]
  | 8 => some [2,7,8,9]
  | 9 => some [2,77]
  | 10 => some [0]
  | 11 => some [2,11]
  | 12 => some [2,11,13]
  | 13 => some [2,11,13,15]
  | 14 => some [11,13,15,17]
  | 15 => some [0]
  | _ => none
def fn14:AFn:={ ntmps:=123,results:=[.tmp 0],body:=c14,keep:=kp14,head:=fun  | _ => none,opn:=fun _ => none,dyn:=fun | 1000000 => [(58,0),(87,0),(101,0)] | _ => [] }
def c15:Code :=
  (.seq (.region 0 #[o 1 (.box 29 (.tmp 0)) 0,o 2 (.alloc 37) 0,o 3 (.alloc 41) 0] false)
 (.seq (.seq (.region 1 #[ld 10 1 29,cl 11 22 #[.tmp 10] #[29] 39,o 4 (.assign (.tmp 11)) 39] false)
 (.seq (.region 2 #[m 12 4 39,o 13 (.binOp .neq 39 (.tmp 12) (ci 0) 39) 4] false)
 (.cond (.tmp 13)
 (.seq (.region 3 #[o 14 (.build 37 #[]) 37,m 15 4 39,cl 16 68 #[.tmp 15,.const (.slice none 0 0)] #[39,38] 41,nd (.store 37 (.tmp 2) (.tmp 14)),nd (.store 41 (.tmp 3) (.tmp 16))] false)
 .ret)
 .skip)))
 (.seq (.region 4 #[ld 18 1 29,o 19 (.load 25 (.global 0)) 25,o 20 (.load 25 (.global 1)) 25,o 21 (.build 75 #[(0,.tmp 20)]) 75,o 22 (.build 75 #[(1,.const (.bool true)),(2,.const (.bool true))]) 75,⟨some 23,.buildSlice 76 2 #[(0,.tmp 21),(1,.tmp 22)],76, "",fz,none⟩,cl 24 69 #[.tmp 18,.tmp 19,.tmp 23] #[29,25,76] 72,m 17 24 72,o 25 (.extract (.tmp 17) 0) 38,o 26 (.extract (.tmp 17) 1) 41,o 6 (.alloc 41) 0,o 5 (.assign (.tmp 25)) 38,nd (.store 41 (.tmp 6) (.tmp 26))] false)
 (.seq (.seq (.region 5 #[fa 27 41 6 1,ld 28 27 39,o 29 (.binOp .neq 39 (.tmp 28) (ci 0) 39) 4] false)
 (.cond (.tmp 29)
 (.seq (.region 6 #[o 30 (.build 37 #[]) 37,ld 31 6 41,nd (.store 37 (.tmp 2) (.tmp 30)),nd (.store 41 (.tmp 3) (.tmp 31))] true)
 .ret)
 .skip))
 (.seq (.region 7 #[fa 33 29 1 2,ld 34 33 27,o 35 (.indexAddr 27 (.tmp 34) (ci 0)) 0,fa 36 29 35 1,ld 37 36 26,cl 38 66 #[.tmp 37] #[26] 119,m 32 38 119,o 39 (.extract (.tmp 32) 0) 35,o 40 (.extract (.tmp 32) 1) 39,o 7 (.alloc 35) 0,nd (.store 35 (.tmp 7) (.tmp 39)),o 8 (.assign (.tmp 40)) 39] false)
 (.seq (.seq (.region 8 #[m 41 8 39,o 42 (.binOp .neq 39 (.tmp 41) (ci 0) 39) 4] false)
 (.cond (.tmp 42)
 (.seq (.region 9 #[o 43 (.build 37 #[]) 37,m 44 8 39,⟨some 45,.buildSlice 38 1 #[(0,.const (.int .i64 0))],38, "",fz,none⟩,cl 46 68 #[.tmp 44,.tmp 45] #[39,38] 41,nd (.store 37 (.tmp 2) (.tmp 43)),nd (.store 41 (.tmp 3) (.tmp 46))] false)
 .ret)
 .skip))
 (.seq (.region 10 #[ld 47 7 35,m 48 5 38,o 49 (.indexAddr 38 (.tmp 48) (ci 1)) 0,ld 50 49 3,o 51 (.binOp .eql 3 (.tmp 50) (ci 1) 3) 4,o 52 (.build 37 #[(0,.tmp 47),(1,.tmp 51)]) 37,o 9 (.alloc 37) 0,nd (.store 37 (.tmp 9) (.tmp 52))] true)
 (.seq (.seq (.region 11 #[fa 53 37 9 1,ld 54 53 4] false)
 (.cond (.tmp 54)
 (.region 12 #[fa 55 29 1 2,ld 56 55 27,o 57 (.indexAddr 27 (.tmp 56) (ci 1)) 0,ld 58 57 29,cl 59 70 #[.tmp 58] #[29] 29,fa 60 37 9 2,nd (.store 29 (.tmp 60) (.tmp 59))] false)
 .skip))
 (.seq (.region 13 #[ld 61 9 37,o 62 (.build 41 #[]) 41,nd (.store 37 (.tmp 2) (.tmp 61)),nd (.store 41 (.tmp 3) (.tmp 62))] false)
 .ret)))))))))
def kp15:Nat → Option (List Nat)
  | 0 => some [1,2,3]
  | 1 => some [1,2,3,4]
  | 2 => some [1,2,3,4,13]
  | 3 => some [2,3]
  | 4 => some [1,2,3,5,6]
  | 5 => some [1,2,3,5,6,29]
  | 6 => some [2,3]
  | 7 => some [1,2,3,5,7,8]
  | 8 => some [1,2,3,5,7,8,42]
  | 9 => some [2,3]
  | 10 => some [1,2,3,9]
  | 11 => some [1,2,3,9,54]
  | 12 => some [2,3,9]
  | 13 => some [2,3]
  | _ => none
def fn15:AFn:={ ntmps:=63,results:=[.cell 2 37,.cell 3 41],body:=c15,keep:=kp15,head:=fun  | _ => none,opn:=fun _ => none,dyn:=fun | 6 => [(1,2)] | _ => [] }
def c16:Code :=
  (.seq (.region 0 #[o 1 (.box 29 (.tmp 0)) 0,o 2 (.alloc 37) 0,o 3 (.alloc 41) 0] false)
 (.seq (.region 1 #[o 4 (.alloc 37) 0] false)
 (.seq (.region 2 #[ld 10 1 29,cl 11 22 #[.tmp 10] #[29] 39,o 5 (.assign (.tmp 11)) 39] false)
 (.seq (.seq (.region 3 #[m 12 5 39,o 13 (.binOp .neq 39 (.tmp 12) (ci 0) 39) 4] false)
 (.cond (.tmp 13)
 (.seq (.region 4 #[ld 14 4 37,m 15 5 39,cl 16 35 #[.tmp 15,.const (.int .i64 (-1))] #[39,3] 41,nd (.store 37 (.tmp 2) (.tmp 14)),nd (.store 41 (.tmp 3) (.tmp 16))] true)
 .ret)
 .skip))
 (.seq (.region 5 #[ld 18 1 29,cl 19 26 #[] #[] 25,cl 20 67 #[] #[] 25,o 21 (.build 75 #[(0,.tmp 20)]) 75,o 22 (.build 75 #[(1,.const (.bool true)),(2,.const (.bool true))]) 75,⟨some 23,.buildSlice 76 2 #[(0,.tmp 21),(1,.tmp 22)],76, "",fz,none⟩,cl 24 36 #[.tmp 18,.tmp 19,.tmp 23] #[29,25,76] 72,m 17 24 72,o 25 (.extract (.tmp 17) 0) 38,o 26 (.extract (.tmp 17) 1) 41,o 7 (.alloc 41) 0,o 6 (.assign (.tmp 25)) 38,nd (.store 41 (.tmp 7) (.tmp 26))] true)
 (.seq (.seq (.region 6 #[fa 27 41 7 1,ld 28 27 39,o 29 (.binOp .neq 39 (.tmp 28) (ci 0) 39) 4] false)
 (.cond (.tmp 29)
 (.seq (.region 7 #[ld 30 4 37,ld 31 7 41,nd (.store 37 (.tmp 2) (.tmp 30)),nd (.store 41 (.tmp 3) (.tmp 31))] true)
 .ret)
 .skip))
 (.seq (.region 8 #[fa 33 29 1 2,ld 34 33 27,o 35 (.indexAddr 27 (.tmp 34) (ci 0)) 0,fa 36 29 35 1,ld 37 36 26,cl 38 66 #[.tmp 37] #[26] 119,m 32 38 119,o 39 (.extract (.tmp 32) 0) 35,o 40 (.extract (.tmp 32) 1) 39,o 8 (.alloc 35) 0,nd (.store 35 (.tmp 8) (.tmp 39)),o 5 (.assign (.tmp 40)) 39] false)
 (.seq (.seq (.region 9 #[m 41 5 39,o 42 (.binOp .neq 39 (.tmp 41) (ci 0) 39) 4] false)
 (.cond (.tmp 42)
 (.seq (.region 10 #[ld 43 4 37,m 44 5 39,cl 45 35 #[.tmp 44,.const (.int .i64 0)] #[39,3] 41,nd (.store 37 (.tmp 2) (.tmp 43)),nd (.store 41 (.tmp 3) (.tmp 45))] true)
 .ret)
 .skip))
 (.seq (.region 11 #[ld 46 8 35,o 47 (.build 37 #[(0,.tmp 46)]) 37,o 9 (.alloc 37) 0,nd (.store 37 (.tmp 9) (.tmp 47))] false)
 (.seq (.seq (.region 12 #[m 48 6 38,o 49 (.indexAddr 38 (.tmp 48) (ci 1)) 0,ld 50 49 3,o 51 (.binOp .eql 3 (.tmp 50) (ci 1) 3) 4] false)
 (.cond (.tmp 51)
 (.seq (.region 13 #[fa 52 37 9 1,nd (.store 4 (.tmp 52) (.const (.bool true)))] false)
 (.region 14 #[fa 53 29 1 2,ld 54 53 27,o 55 (.indexAddr 27 (.tmp 54) (ci 1)) 0,ld 56 55 29,fa 57 37 9 2,nd (.store 29 (.tmp 57) (.tmp 56))] false))
 .skip))
 (.seq (.region 15 #[ld 58 9 37,ld 59 7 41,nd (.store 37 (.tmp 2) (.tmp 58)),nd (.store 41 (.tmp 3) (.tmp 59))] true)
 .ret)))))))))))
def kp16:Nat → Option (List Nat)
  | 0 => some [1,2,3]
  | 1 => some [1,2,3,4]
  | 2 => some [1,2,3,4,5]
  | 3 => some [1,2,3,4,5,13]
  | 4 => some [2,3]
  | 5 => some [1,2,3,4,6,7]
  | 6 => some [1,2,3,4,6,7,29]
  | 7 => some [2,3]
  | 8 => some [1,2,3,4,5,6,7,8]
  | 9 => some [1,2,3,4,5,6,7,8,42]
  | 10 => some [2,3]
  | 11 => some [1,2,3,6,7,9]
  | 12 => some [1,2,3,7,9,51]
  | 13 => some [1,2,3,7,9]
  | 14 => some [2,3,7,9]
  | 15 => some [2,3]
  | _ => none
def fn16:AFn:={ ntmps:=60,results:=[.cell 2 37,.cell 3 41],body:=c16,keep:=kp16,head:=fun  | _ => none,opn:=fun _ => none,dyn:=fun | 7 => [(1,2)] | 15 => [(1,2)] | _ => [] }
def c17:Code :=
  (.seq (.region 0 #[o 2 (.box 41 (.tmp 0)) 0,o 3 (.box 41 (.tmp 1)) 0,o 4 (.assign (ci 0)) 3] false)
 (.seq (.seq (.region 1 #[fa 6 41 2 1,ld 7 6 39,fa 8 41 3 1,ld 9 8 39,o 10 (.binOp .neq 39 (.tmp 7) (.tmp 9) 39) 4,m 11 10 4,gd 12 (.fieldAddr 41 (.tmp 2) 0) 0 11 false,gd 13 (.load 38 (.tmp 12)) 38 11 false,gd 14 (.call { callee:=.builtin .len,args:=#[.tmp 13],argTypes:=#[38] }) 3 11 false,gd 15 (.fieldAddr 41 (.tmp 3) 0) 0 11 false,gd 16 (.load 38 (.tmp 15)) 38 11 false,gd 17 (.call { callee:=.builtin .len,args:=#[.tmp 16],argTypes:=#[38] }) 3 11 false,gd 18 (.binOp .neq 3 (.tmp 14) (.tmp 17) 3) 4 11 false,o 19 (.pick (.tmp 11) (.const (.bool true)) (.tmp 18)) 4,m 20 19 4,gd 21 (.fieldAddr 41 (.tmp 2) 0) 0 20 false,gd 22 (.load 38 (.tmp 21)) 38 20 false,gd 23 (.call { callee:=.builtin .cap,args:=#[.tmp 22],argTypes:=#[38] }) 3 20 false,gd 24 (.fieldAddr 41 (.tmp 2) 0) 0 20 false,gd 25 (.load 38 (.tmp 24)) 38 20 false,gd 26 (.call { callee:=.builtin .len,args:=#[.tmp 25],argTypes:=#[38] }) 3 20 false,gd 27 (.binOp .neq 3 (.tmp 23) (.tmp 26) 3) 4 20 false,o 28 (.pick (.tmp 20) (.const (.bool true)) (.tmp 27)) 4] false)
 (.cond (.tmp 28)
 (.seq (.region 2 #[o 4 (.assign (ci 0)) 3] false)
 .ret)
 .skip))
 (.seq (.seq (.region 3 #[o 5 (.assign (ci 0)) 3] false)
 (.block 0 (.loop (.seq (.seq (.region 4 #[m 29 5 3,fa 30 41 2 0,ld 31 30 38,o 32 (.call { callee:=.builtin .len,args:=#[.tmp 31],argTypes:=#[38] }) 3,o 33 (.binOp .lss 3 (.tmp 29) (.tmp 32) 3) 4] false)
 (.cond (.tmp 33)
 .skip
 (.exit 0)))
 (.seq (.block 1 (.seq (.region 6 #[fa 36 41 2 0,ld 37 36 38,m 38 5 3,o 39 (.indexAddr 38 (.tmp 37) (.tmp 38)) 0,ld 40 39 3,fa 41 41 3 0,ld 42 41 38,m 43 5 3,o 44 (.indexAddr 38 (.tmp 42) (.tmp 43)) 0,ld 45 44 3,o 46 (.binOp .neq 3 (.tmp 40) (.tmp 45) 3) 4] true)
 (.cond (.tmp 46)
 (.seq (.region 7 #[o 4 (.assign (ci 0)) 3] false)
 .ret)
 .skip)))
 (.region 5 #[m 34 5 3,o 35 (.binOp .add 3 (.tmp 34) (ci 1) 3) 3,o 5 (.assign (.tmp 35)) 3] false))))))
 (.seq (.region 8 #[o 4 (.assign (ci 1)) 3] false)
 .ret))))
def kp17:Nat → Option (List Nat)
  | 0 => some [2,3]
  | 1 => some [2,3,28]
  | 2 => some [4]
  | 3 => some [2,3,5]
  | 4 => some [2,3,5,33]
  | 5 => some [2,3,5]
  | 6 => some [2,3,5,46]
  | 7 => some [4]
  | 8 => some [4]
  | _ => none
def fn17:AFn:={ ntmps:=47,results:=[.tmp 4],body:=c17,keep:=kp17,head:=fun | 4 => some [2,3,5] | _ => none,opn:=fun _ => none,dyn:=fun _ => [] }
def c18:Code :=
  (.seq (.region 0 #[o 2 (.box 37 (.tmp 0)) 0,o 3 (.box 37 (.tmp 1)) 0,o 4 (.assign (ci 0)) 3] false)
 (.seq (.seq (.region 1 #[fa 5 37 2 0,ld 6 5 35,fa 7 37 3 0,ld 8 7 35,o 9 (.binOp .neq 35 (.tmp 6) (.tmp 8) 35) 4,m 10 9 4,gd 11 (.fieldAddr 37 (.tmp 2) 1) 0 10 false,gd 12 (.load 4 (.tmp 11)) 4 10 false,gd 13 (.fieldAddr 37 (.tmp 3) 1) 0 10 false,gd 14 (.load 4 (.tmp 13)) 4 10 false,gd 15 (.binOp .neq 4 (.tmp 12) (.tmp 14) 4) 4 10 false,o 16 (.pick (.tmp 10) (.const (.bool true)) (.tmp 15)) 4] false)
 (.cond (.tmp 16)
 (.seq (.region 2 #[o 4 (.assign (ci 0)) 3] false)
 .ret)
 .skip))
 (.seq (.region 3 #[fa 17 37 2 2,ld 18 17 29,fa 19 37 3 2,ld 20 19 29,cl 21 20 #[.tmp 18,.tmp 20] #[29,29] 3,o 4 (.assign (.tmp 21)) 3] false)
 .ret)))
def kp18:Nat → Option (List Nat)
  | 0 => some [2,3]
  | 1 => some [2,3,16]
  | 2 => some [4]
  | 3 => some [4]
  | _ => none
def fn18:AFn:={ ntmps:=22,results:=[.tmp 4],body:=c18,keep:=kp18,head:=fun  | _ => none,opn:=fun _ => none,dyn:=fun _ => [] }
def c19:Code :=
  (.seq (.region 0 #[o 1 (.box 37 (.tmp 0)) 0,o 2 (.alloc 29) 0,o 3 (.assign (ci 0)) 39] false)
 (.seq (.region 1 #[ld 4 1 37,cl 5 71 #[.tmp 4,.func 72] #[37,47] 46,o 6 (.extract (.tmp 5) 0) 29,o 7 (.extract (.tmp 5) 1) 39,nd (.store 29 (.tmp 2) (.tmp 6)),o 3 (.assign (.tmp 7)) 39] false)
 .ret))
def kp19:Nat → Option (List Nat)
  | 0 => some [1,2]
  | 1 => some [2,3]
  | _ => none
def fn19:AFn:={ ntmps:=8,results:=[.cell 2 29,.tmp 3],body:=c19,keep:=kp19,head:=fun  | _ => none,opn:=opnT,dyn:=fun _ => [] }
def c20:Code :=
  (.seq (.region 0 #[o 2 (.box 29 (.tmp 0)) 0,o 3 (.box 29 (.tmp 1)) 0,o 4 (.assign (ci 0)) 3] false)
 (.seq (.seq (.region 1 #[fa 6 29 2 0,ld 7 6 25,fa 8 29 3 0,ld 9 8 25,o 10 (.binOp .neq 25 (.tmp 7) (.tmp 9) 25) 4,m 11 10 4,gd 12 (.fieldAddr 29 (.tmp 2) 1) 0 11 false,gd 13 (.load 26 (.tmp 12)) 26 11 false,gd 14 (.convert 26 9 (.tmp 13)) 9 11 false,gd 15 (.fieldAddr 29 (.tmp 3) 1) 0 11 false,gd 16 (.load 26 (.tmp 15)) 26 11 false,gd 17 (.convert 26 9 (.tmp 16)) 9 11 false,gd 18 (.binOp .neq 9 (.tmp 14) (.tmp 17) 9) 4 11 false,o 19 (.pick (.tmp 11) (.const (.bool true)) (.tmp 18)) 4,m 20 19 4,gd 21 (.fieldAddr 29 (.tmp 2) 2) 0 20 false,gd 22 (.load 27 (.tmp 21)) 27 20 false,gd 23 (.call { callee:=.builtin .len,args:=#[.tmp 22],argTypes:=#[27] }) 3 20 false,gd 24 (.fieldAddr 29 (.tmp 3) 2) 0 20 false,gd 25 (.load 27 (.tmp 24)) 27 20 false,gd 26 (.call { callee:=.builtin .len,args:=#[.tmp 25],argTypes:=#[27] }) 3 20 false,gd 27 (.binOp .neq 3 (.tmp 23) (.tmp 26) 3) 4 20 false,o 28 (.pick (.tmp 20) (.const (.bool true)) (.tmp 27)) 4] false)
 (.cond (.tmp 28)
 (.seq (.region 2 #[o 4 (.assign (ci 0)) 3] false)
 .ret)
 .skip))
 (.seq (.seq (.region 3 #[o 5 (.assign (ci 0)) 3] false)
 (.block 0 (.loop (.seq (.seq (.region 4 #[m 29 5 3,fa 30 29 2 2,ld 31 30 27,o 32 (.call { callee:=.builtin .len,args:=#[.tmp 31],argTypes:=#[27] }) 3,o 33 (.binOp .lss 3 (.tmp 29) (.tmp 32) 3) 4] false)
 (.cond (.tmp 33)
 .skip
 (.exit 0)))
 (.seq (.block 1 (.seq (.region 6 #[fa 36 29 2 2,ld 37 36 27,m 38 5 3,o 39 (.indexAddr 27 (.tmp 37) (.tmp 38)) 0,ld 40 39 29,fa 41 29 3 2,ld 42 41 27,m 43 5 3,o 44 (.indexAddr 27 (.tmp 42) (.tmp 43)) 0,ld 45 44 29,cl 46 20 #[.tmp 40,.tmp 45] #[29,29] 3,o 47 (.binOp .eql 3 (.tmp 46) (ci 0) 3) 4] true)
 (.cond (.tmp 47)
 (.seq (.region 7 #[o 4 (.assign (ci 0)) 3] false)
 .ret)
 .skip)))
 (.region 5 #[m 34 5 3,o 35 (.binOp .add 3 (.tmp 34) (ci 1) 3) 3,o 5 (.assign (.tmp 35)) 3] false))))))
 (.seq (.region 8 #[o 4 (.assign (ci 1)) 3] false)
 .ret))))
def kp20:Nat → Option (List Nat)
  | 0 => some [2,3]
  | 1 => some [2,3,28]
  | 2 => some [4]
  | 3 => some [2,3,5]
  | 4 => some [2,3,5,33]
  | 5 => some [2,3,5]
  | 6 => some [2,3,5,47]
  | 7 => some [4]
  | 8 => some [4]
  | _ => none
def fn20:AFn:={ ntmps:=48,results:=[.tmp 4],body:=c20,keep:=kp20,head:=fun | 4 => some [2,3,5] | _ => none,opn:=fun _ => none,dyn:=fun _ => [] }
def c21:Code :=
  (.seq (.region 0 #[o 1 (.box 35 (.tmp 0)) 0,o 2 (.assign (ci 0)) 39] false)
 (.seq (.seq (.region 1 #[fa 5 35 1 0,ld 6 5 5,o 7 (.binOp .lss 5 (.tmp 6) (.const (.int .u8 2)) 5) 4,m 8 7 4,gd 9 (.fieldAddr 35 (.tmp 1) 0) 0 8 false,gd 10 (.load 5 (.tmp 9)) 5 8 false,gd 11 (.binOp .gtr 5 (.tmp 10) (.const (.int .u8 16)) 5) 4 8 false,o 12 (.pick (.tmp 8) (.const (.bool true)) (.tmp 11)) 4,m 13 12 4,gd 14 (.fieldAddr 35 (.tmp 1) 1) 0 13 false,gd 15 (.indexAddr 33 (.tmp 14) (ci 0)) 0 13 false,gd 16 (.load 23 (.tmp 15)) 23 13 false,gd 17 (.binOp .gtr 23 (.tmp 16) (.const (.int .u32 2)) 23) 4 13 false,o 18 (.pick (.tmp 13) (.const (.bool true)) (.tmp 17)) 4] false)
 (.cond (.tmp 18)
 (.seq (.region 2 #[o 2 (.assign (ci 1)) 39] false)
 .ret)
 .skip))
 (.seq (.seq (.region 3 #[fa 19 35 1 1,o 20 (.indexAddr 33 (.tmp 19) (ci 0)) 0,ld 21 20 23,o 22 (.binOp .lss 23 (.tmp 21) (.const (.int .u32 2)) 23) 4,m 23 22 4,gd 24 (.fieldAddr 35 (.tmp 1) 1) 0 23 true,gd 25 (.indexAddr 33 (.tmp 24) (ci 1)) 0 23 true,gd 26 (.load 23 (.tmp 25)) 23 23 true,gd 27 (.binOp .gtr 23 (.tmp 26) (.const (.int .u32 39)) 23) 4 23 true,o 28 (.pick (.tmp 23) (.tmp 27) (.const (.bool false))) 4,m 29 28 4,gd 30 (.fieldAddr 35 (.tmp 1) 1) 0 29 false,gd 31 (.indexAddr 33 (.tmp 30) (ci 1)) 0 29 false,gd 32 (.load 23 (.tmp 31)) 23 29 false,gd 33 (.binOp .gtr 23 (.tmp 32) (.const (.int .u32 4294967215)) 23) 4 29 false,o 34 (.pick (.tmp 29) (.const (.bool true)) (.tmp 33)) 4] false)
 (.cond (.tmp 34)
 (.seq (.region 4 #[o 2 (.assign (ci 1)) 39] false)
 .ret)
 .skip))
 (.seq (.seq (.region 5 #[fa 35 35 1 1,fa 36 35 1 0,ld 37 36 5,o 38 (.slice 33 (.tmp 35) (some (.tmp 37)) none none) 124,o 39 (.call { callee:=.builtin .len,args:=#[.tmp 38],argTypes:=#[124] }) 3,o 40 (.move (ci 0)) 3] false)
 (.block 0 (.loop (.seq (.region 6 #[o 41 (.binOp .lss 3 (.tmp 40) (.tmp 39) 3) 0] false)
 (.seq (.cond (.tmp 41)
 .skip
 (.exit 0))
 (.seq (.block 1 (.seq (.region 7 #[o 42 (.indexAddr 124 (.tmp 38) (.tmp 40)) 0,ld 43 42 23,o 4 (.assign (.tmp 43)) 23] false)
 (.seq (.region 8 #[m 44 4 23,o 45 (.binOp .neq 23 (.tmp 44) (.const (.int .u32 0)) 23) 4] false)
 (.cond (.tmp 45)
 (.seq (.region 9 #[o 2 (.assign (ci 1)) 39] false)
 .ret)
 .skip))))
 (.region 10 #[o 46 (.binOp .add 3 (.tmp 40) (ci 1) 3) 3,m 40 46 3] false)))))))
 (.seq (.region 11 #[o 2 (.assign (ci 0)) 39] false)
 .ret)))))
def kp21:Nat → Option (List Nat)
  | 0 => some [1]
  | 1 => some [1,18]
  | 2 => some [2]
  | 3 => some [1,34]
  | 4 => some [2]
  | 5 => some [38,39,40]
  | 6 => some [38,39,40,41]
  | 7 => some [4,38,39,40]
  | 8 => some [38,39,40,45]
  | 9 => some [2]
  | 10 => some [38,39,40]
  | 11 => some [2]
  | _ => none
def fn21:AFn:={ ntmps:=47,results:=[.tmp 2],body:=c21,keep:=kp21,head:=fun | 6 => some [38,39,40] | _ => none,opn:=fun _ => none,dyn:=fun _ => [] }
def c22:Code :=
  (.seq (.region 0 #[o 1 (.box 29 (.tmp 0)) 0,o 2 (.assign (ci 0)) 39] false)
 (.seq (.region 1 #[ld 7 1 29,cl 8 73 #[.tmp 7] #[29] 125,m 6 8 125,o 9 (.extract (.tmp 6) 0) 39,o 10 (.extract (.tmp 6) 1) 3,o 11 (.extract (.tmp 6) 2) 3,o 3 (.assign (.tmp 9)) 39,o 4 (.assign (.tmp 10)) 3,o 5 (.assign (.tmp 11)) 3] false)
 (.seq (.region 2 #[m 12 3 39,o 2 (.assign (.tmp 12)) 39] false)
 .ret)))
def kp22:Nat → Option (List Nat)
  | 0 => some [1]
  | 1 => some [3]
  | 2 => some [2]
  | _ => none
def fn22:AFn:={ ntmps:=13,results:=[.tmp 2],body:=c22,keep:=kp22,head:=fun  | _ => none,opn:=fun _ => none,dyn:=fun _ => [] }
def c23:Code :=
  (.seq (.region 0 #[o 1 (.box 37 (.tmp 0)) 0,o 2 (.alloc 29) 0] false)
 (.seq (.region 1 #[o 4 (.build 25 #[(1,.const (.bool true)),(2,.const (.int .u32 16))]) 25,o 5 (.build 29 #[(0,.tmp 4)]) 29,o 3 (.alloc 29) 0,nd (.store 29 (.tmp 3) (.tmp 5))] false)
 (.seq (.region 2 #[fa 6 29 3 2,ld 7 6 27,o 8 (.build 25 #[(2,.const (.int .u32 6))]) 25,fa 9 37 1 0,ld 10 9 35,cl 11 74 #[.tmp 10] #[35] 26,o 12 (.build 29 #[(0,.tmp 8),(1,.tmp 11)]) 29,o 13 (.buildSlice 27 1 #[(0,.tmp 12)]) 27,o 14 (.call { callee:=.builtin .append,args:=#[.tmp 7,.tmp 13],argTypes:=#[27,27] }) 27,fa 15 29 3 2,nd (.store 27 (.tmp 15) (.tmp 14))] true)
 (.seq (.seq (.region 3 #[fa 16 37 1 1,ld 17 16 4] false)
 (.cond (.tmp 17)
 (.region 4 #[fa 18 29 3 2,ld 19 18 27,fa 20 37 1 2,ld 21 20 29,o 22 (.buildSlice 27 1 #[(0,.tmp 21)]) 27,o 23 (.call { callee:=.builtin .append,args:=#[.tmp 19,.tmp 22],argTypes:=#[27,27] }) 27,fa 24 29 3 2,nd (.store 27 (.tmp 24) (.tmp 23))] false)
 .skip))
 (.seq (.region 5 #[ld 25 3 29,nd (.store 29 (.tmp 2) (.tmp 25))] false)
 .ret)))))
def kp23:Nat → Option (List Nat)
  | 0 => some [1,2]
  | 1 => some [1,2,3]
  | 2 => some [1,2,3]
  | 3 => some [1,2,3,17]
  | 4 => some [2,3]
  | 5 => some [2]
  | _ => none
def fn23:AFn:={ ntmps:=26,results:=[.cell 2 29],body:=c23,keep:=kp23,head:=fun  | _ => none,opn:=fun _ => none,dyn:=fun _ => [] }
def c24:Code :=
  (.seq (.region 0 #[o 1 (.box 37 (.tmp 0)) 0,o 2 (.assign (ci 0)) 39] false)
 (.seq (.region 1 #[ld 6 1 37,cl 7 71 #[.tmp 6,.func 72] #[37,47] 46,m 5 7 46,o 8 (.extract (.tmp 5) 0) 29,o 9 (.extract (.tmp 5) 1) 39,o 3 (.alloc 29) 0,nd (.store 29 (.tmp 3) (.tmp 8)),o 4 (.assign (.tmp 9)) 39] false)
 (.seq (.region 2 #[m 10 4 39,o 2 (.assign (.tmp 10)) 39] false)
 .ret)))
def kp24:Nat → Option (List Nat)
  | 0 => some [1]
  | 1 => some [4]
  | 2 => some [2]
  | _ => none
def fn24:AFn:={ ntmps:=11,results:=[.tmp 2],body:=c24,keep:=kp24,head:=fun  | _ => none,opn:=opnT,dyn:=fun _ => [] }
def c25:Code :=
  (.seq (.region 0 #[o 4 (.alloc 29) 0,o 5 (.assign (ci 0)) 39] false)
 (.seq (.region 1 #[m 9 0 26,m 10 1 3,cl 11 75 #[.tmp 9,.tmp 10] #[26,3] 94,m 8 11 94,o 12 (.extract (.tmp 8) 0) 26,o 13 (.extract (.tmp 8) 1) 39,o 6 (.assign (.tmp 12)) 26,o 7 (.assign (.tmp 13)) 39] false)
 (.seq (.seq (.region 2 #[m 14 7 39,o 15 (.binOp .neq 39 (.tmp 14) (ci 0) 39) 4] false)
 (.cond (.tmp 15)
 (.seq (.region 3 #[o 16 (.build 29 #[]) 29,m 17 7 39,nd (.store 29 (.tmp 4) (.tmp 16)),o 5 (.assign (.tmp 17)) 39] false)
 .ret)
 .skip))
 (.seq (.region 4 #[o 18 (.build 25 #[(2,.const (.int .u32 3))]) 25,m 19 6 26,o 20 (.build 29 #[(0,.tmp 18),(1,.tmp 19)]) 29,nd (.store 29 (.tmp 4) (.tmp 20)),o 5 (.assign (ci 0)) 39] false)
 .ret))))
def kp25:Nat → Option (List Nat)
  | 0 => some [0,1,4]
  | 1 => some [4,6,7]
  | 2 => some [4,6,7,15]
  | 3 => some [4,5]
  | 4 => some [4,5]
  | _ => none
def fn25:AFn:={ ntmps:=21,results:=[.cell 4 29,.tmp 5],body:=c25,keep:=kp25,head:=fun  | _ => none,opn:=fun _ => none,dyn:=fun _ => [] }
def c26:Code :=
  (.seq (.region 0 #[o 0 (.alloc 25) 0] false)
 (.seq (.region 1 #[o 1 (.build 25 #[(1,.const (.bool true)),(2,.const (.int .u32 16))]) 25,nd (.store 25 (.tmp 0) (.tmp 1))] false)
 .ret))
def kp26:Nat → Option (List Nat)
  | 0 => some [0]
  | 1 => some [0]
  | _ => none
def fn26:AFn:={ ntmps:=2,results:=[.cell 0 25],body:=c26,keep:=kp26,head:=fun  | _ => none,opn:=fun _ => none,dyn:=fun _ => [] }
def c27:Code :=
  (.seq (.region 0 #[o 1 (.box 57 (.tmp 0)) 0,o 2 (.alloc 29) 0,o 3 (.assign (ci 0)) 39] false)
 (.seq (.region 1 #[ld 4 1 57,cl 5 76 #[.tmp 4,.func 77] #[57,58] 46,o 6 (.extract (.tmp 5) 0) 29,o 7 (.extract (.tmp 5) 1) 39,nd (.store 29 (.tmp 2) (.tmp 6)),o 3 (.assign (.tmp 7)) 39] false)
 .ret))
def kp27:Nat → Option (List Nat)
  | 0 => some [1,2]
  | 1 => some [2,3]
  | _ => none
def fn27:AFn:={ ntmps:=8,results:=[.cell 2 29,.tmp 3],body:=c27,keep:=kp27,head:=fun  | _ => none,opn:=opnT,dyn:=fun _ => [] }
def c28:Code :=
  (.seq (.region 0 #[o 1 (.box 57 (.tmp 0)) 0,o 2 (.assign (ci 0)) 39] false)
 (.seq (.region 1 #[ld 6 1 57,cl 7 76 #[.tmp 6,.func 77] #[57,58] 46,m 5 7 46,o 8 (.extract (.tmp 5) 0) 29,o 9 (.extract (.tmp 5) 1) 39,o 3 (.alloc 29) 0,nd (.store 29 (.tmp 3) (.tmp 8)),o 4 (.assign (.tmp 9)) 39] false)
 (.seq (.region 2 #[m 10 4 39,o 2 (.assign (.tmp 10)) 39] false)
 .ret)))
def kp28:Nat → Option (List Nat)
  | 0 => some [1]
  | 1 => some [4]
  | 2 => some [2]
  | _ => none
def fn28:AFn:={ ntmps:=11,results:=[.tmp 2],body:=c28,keep:=kp28,head:=fun  | _ => none,opn:=opnT,dyn:=fun _ => [] }
def c29:Code :=
  (.seq (.region 0 #[o 1 (.box 62 (.tmp 0)) 0,o 2 (.alloc 37) 0] false)
 (.seq (.region 1 #[fa 4 62 1 0,ld 5 4 5,cl 6 39 #[.tmp 5] #[5] 35,o 7 (.build 37 #[(0,.tmp 6)]) 37,o 3 (.alloc 37) 0,nd (.store 37 (.tmp 3) (.tmp 7))] false)
 (.seq (.seq (.region 2 #[fa 8 62 1 1,ld 9 8 26,o 10 (.call { callee:=.builtin .len,args:=#[.tmp 9],argTypes:=#[26] }) 3,o 11 (.binOp .gtr 3 (.tmp 10) (ci 0) 3) 4] false)
 (.cond (.tmp 11)
 (.seq (.region 3 #[fa 12 37 3 1,nd (.store 4 (.tmp 12) (.const (.bool true)))] false)
 (.seq (.region 4 #[fa 13 62 1 1,ld 14 13 26,o 15 (.build 131 #[(0,.tmp 14)]) 131,cl 16 78 #[.tmp 15] #[131] 29,fa 17 37 3 2,nd (.store 29 (.tmp 17) (.tmp 16))] false)
 (.seq (.region 5 #[fa 18 62 1 1,ld 19 18 26,o 20 (.indexAddr 26 (.tmp 19) (ci 0)) 0,ld 21 20 5,o 22 (.binOp .rem 5 (.tmp 21) (.const (.int .u8 4)) 5) 5,o 23 (.binOp .eql 5 (.tmp 22) (.const (.int .u8 3)) 5) 4] false)
 (.cond (.tmp 23)
 (.region 6 #[o 24 (.build 25 #[(2,.const (.int .u32 5))]) 25,o 25 (.build 29 #[(0,.tmp 24)]) 29,fa 26 37 3 2,nd (.store 29 (.tmp 26) (.tmp 25))] false)
 .skip))))
 .skip))
 (.seq (.region 7 #[ld 27 3 37,nd (.store 37 (.tmp 2) (.tmp 27))] false)
 .ret))))
def kp29:Nat → Option (List Nat)
  | 0 => some [1,2]
  | 1 => some [1,2,3]
  | 2 => some [1,2,3,11]
  | 3 => some [1,2,3]
  | 4 => some [1,2,3]
  | 5 => some [2,3,23]
  | 6 => some [2,3]
  | 7 => some [2]
  | _ => none
def fn29:AFn:={ ntmps:=28,results:=[.cell 2 37],body:=c29,keep:=kp29,head:=fun  | _ => none,opn:=fun _ => none,dyn:=fun _ => [] }
def c30:Code :=
  (.seq (.region 0 #[o 1 (.box 62 (.tmp 0)) 0,o 2 (.alloc 57) 0] false)
 (.seq (.region 1 #[ld 7 1 62,cl 8 29 #[.tmp 7] #[62] 37,o 9 (.build 57 #[(0,.tmp 8)]) 57,o 3 (.alloc 57) 0,nd (.store 57 (.tmp 3) (.tmp 9))] false)
 (.seq (.seq (.region 2 #[o 4 (.assign (ci 0)) 3] false)
 (.block 0 (.loop (.seq (.seq (.region 3 #[m 10 4 3,fa 11 62 1 2,ld 12 11 26,o 13 (.call { callee:=.builtin .len,args:=#[.tmp 12],argTypes:=#[26] }) 3,o 14 (.binOp .lss 3 (.tmp 10) (.tmp 13) 3) 4,m 15 14 4,gd 16 (.move (.tmp 4)) 3 15 true,gd 17 (.binOp .lss 3 (.tmp 16) (ci 20) 3) 4 15 true,o 18 (.pick (.tmp 15) (.tmp 17) (.const (.bool false))) 4] false)
 (.cond (.tmp 18)
 .skip
 (.exit 0)))
 (.seq (.block 1 (.region 5 #[fa 21 57 3 1,ld 22 21 26,fa 23 62 1 2,ld 24 23 26,m 25 4 3,o 26 (.indexAddr 26 (.tmp 24) (.tmp 25)) 0,ld 27 26 5,o 28 (.buildSlice 26 1 #[(0,.tmp 27)]) 26,o 29 (.call { callee:=.builtin .append,args:=#[.tmp 22,.tmp 28],argTypes:=#[26,26] }) 26,fa 30 57 3 1,nd (.store 26 (.tmp 30) (.tmp 29))] true))
 (.region 4 #[m 19 4 3,o 20 (.binOp .add 3 (.tmp 19) (ci 1) 3) 3,o 4 (.assign (.tmp 20)) 3] false))))))
 (.seq (.region 6 #[fa 31 57 3 1,ld 32 31 26,o 33 (.call { callee:=.builtin .len,args:=#[.tmp 32],argTypes:=#[26] }) 3,o 34 (.binOp .mul 3 (ci 8) (.tmp 33) 3) 3,fa 35 57 3 2,nd (.store 3 (.tmp 35) (.tmp 34))] false)
 (.seq (.seq (.region 7 #[fa 36 57 3 1,ld 37 36 26,o 38 (.call { callee:=.builtin .len,args:=#[.tmp 37],argTypes:=#[26] }) 3,o 39 (.binOp .gtr 3 (.tmp 38) (ci 0) 3) 4] false)
 (.cond (.tmp 39)
 (.seq (.region 8 #[fa 40 62 1 3,ld 41 40 5,o 42 (.binOp .rem 5 (.tmp 41) (.const (.int .u8 8)) 5) 5,o 5 (.assign (.tmp 42)) 5] false)
 (.seq (.region 9 #[fa 43 57 3 1,ld 44 43 26,o 45 (.call { callee:=.builtin .len,args:=#[.tmp 44],argTypes:=#[26] }) 3,o 46 (.binOp .sub 3 (.tmp 45) (ci 1) 3) 3,o 6 (.assign (.tmp 46)) 3] false)
 (.seq (.region 10 #[fa 47 57 3 1,ld 48 47 26,m 49 6 3,fa 50 57 3 1,ld 51 50 26,m 52 6 3,o 53 (.indexAddr 26 (.tmp 51) (.tmp 52)) 0,ld 54 53 5,m 55 5 5,o 56 (.binOp .shr 5 (.tmp 54) (.tmp 55) 5) 5,m 57 5 5,o 58 (.binOp .shl 5 (.tmp 56) (.tmp 57) 5) 5,o 59 (.indexAddr 26 (.tmp 48) (.tmp 49)) 0,nd (.store 5 (.tmp 59) (.tmp 58))] true)
 (.region 11 #[fa 60 57 3 2,ld 61 60 3,m 62 5 5,o 63 (.convert 5 3 (.tmp 62)) 3,o 64 (.binOp .sub 3 (.tmp 61) (.tmp 63) 3) 3,fa 65 57 3 2,nd (.store 3 (.tmp 65) (.tmp 64))] false))))
 .skip))
 (.seq (.region 12 #[ld 66 3 57,nd (.store 57 (.tmp 2) (.tmp 66))] false)
 .ret))))))
def kp30:Nat → Option (List Nat)
  | 0 => some [1,2]
  | 1 => some [1,2,3]
  | 2 => some [1,2,3,4]
  | 3 => some [1,2,3,4,18]
  | 4 => some [1,2,3,4]
  | 5 => some [1,2,3,4]
  | 6 => some [1,2,3]
  | 7 => some [1,2,3,39]
  | 8 => some [2,3,5]
  | 9 => some [2,3,5,6]
  | 10 => some [2,3,5]
  | 11 => some [2,3]
  | 12 => some [2]
  | _ => none
def fn30:AFn:={ ntmps:=67,results:=[.cell 2 57],body:=c30,keep:=kp30,head:=fun | 3 => some [1,2,3,4] | _ => none,opn:=fun _ => none,dyn:=fun _ => [] }
def c35:Code :=
  (.seq (.region 0 #[o 4 (.alloc 41) 0] false)
 (.seq (.region 1 #[m 6 0 39,o 7 (.build 41 #[(1,.tmp 6)]) 41,o 5 (.alloc 41) 0,nd (.store 41 (.tmp 5) (.tmp 7))] false)
 (.seq (.seq (.region 2 #[m 8 1 3,o 9 (.binOp .geq 3 (.tmp 8) (ci 0) 3) 4] false)
 (.cond (.tmp 9)
 (.region 3 #[fa 10 41 5 0,ld 11 10 38,m 12 1 3,o 13 (.buildSlice 38 1 #[(0,.tmp 12)]) 38,o 14 (.call { callee:=.builtin .append,args:=#[.tmp 11,.tmp 13],argTypes:=#[38,38] }) 38,fa 15 41 5 0,nd (.store 38 (.tmp 15) (.tmp 14))] false)
 .skip))
 (.seq (.region 4 #[ld 16 5 41,nd (.store 41 (.tmp 4) (.tmp 16))] false)
 .ret))))
def kp35:Nat → Option (List Nat)
  | 0 => some [0,1,4]
  | 1 => some [1,4,5]
  | 2 => some [1,4,5,9]
  | 3 => some [4,5]
  | 4 => some [4]
  | _ => none
def fn35:AFn:={ ntmps:=17,results:=[.cell 4 41],body:=c35,keep:=kp35,head:=fun  | _ => none,opn:=fun _ => none,dyn:=fun _ => [] }
def c36:Code :=
  (.seq (.region 0 #[o 3 (.box 29 (.tmp 0)) 0,o 4 (.box 25 (.tmp 1)) 0,o 6 (.assign (.const (.slice none 0 0))) 38,o 7 (.alloc 41) 0] false)
 (.seq (.seq (.region 1 #[m 11 2 76,o 12 (.call { callee:=.builtin .len,args:=#[.tmp 11],argTypes:=#[76] }) 3,o 13 (.binOp .gtr 3 (.tmp 12) (ci 256) 3) 4] false)
 (.cond (.tmp 13)
 (.seq (.region 2 #[cl 14 35 #[.const (.int .i64 3),.const (.int .i64 (-1))] #[39,3] 41,o 6 (.assign (.const (.slice none 0 0))) 38,nd (.store 41 (.tmp 7) (.tmp 14))] false)
 .ret)
 .skip))
 (.seq (.seq (.region 3 #[fa 15 29 3 0,ld 16 15 25,ld 17 4 25,o 18 (.binOp .neq 25 (.tmp 16) (.tmp 17) 25) 4] false)
 (.cond (.tmp 18)
 (.seq (.region 4 #[cl 19 35 #[.const (.int .i64 9),.const (.int .i64 (-1))] #[39,3] 41,o 6 (.assign (.const (.slice none 0 0))) 38,nd (.store 41 (.tmp 7) (.tmp 19))] false)
 .ret)
 .skip))
 (.seq (.region 5 #[o 8 (.assign (.const (.slice none 0 0))) 38] false)
 (.seq (.region 6 #[o 9 (.assign (ci 0)) 3] false)
 (.seq (.seq (.region 7 #[o 10 (.assign (ci 0)) 3] false)
 (.block 0 (.loop (.seq (.seq (.region 8 #[m 20 10 3,m 21 2 76,o 22 (.call { callee:=.builtin .len,args:=#[.tmp 21],argTypes:=#[76] }) 3,o 23 (.binOp .lss 3 (.tmp 20) (.tmp 22) 3) 4] false)
 (.cond (.tmp 23)
 .skip
 (.exit 0)))
 (.seq (.block 1 (.seq (.seq (.region 10 #[m 26 9 3,fa 27 29 3 2,ld 28 27 27,o 29 (.call { callee:=.builtin .len,args:=#[.tmp 28],argTypes:=#[27] }) 3,o 30 (.binOp .lss 3 (.tmp 26) (.tmp 29) 3) 4,m 31 30 4,gd 32 (.move (.tmp 2)) 76 31 true,gd 33 (.move (.tmp 10)) 3 31 true,gd 34 (.indexAddr 76 (.tmp 32) (.tmp 33)) 0 31 true,gd 35 (.fieldAddr 75 (.tmp 34) 1) 0 31 true,gd 36 (.load 4 (.tmp 35)) 4 31 true,gd 37 (.move (.tmp 36)) 4 31 true,gd 38 (.move (.tmp 2)) 76 37 false,gd 39 (.move (.tmp 10)) 3 37 false,gd 40 (.indexAddr 76 (.tmp 38) (.tmp 39)) 0 37 false,gd 41 (.fieldAddr 75 (.tmp 40) 0) 0 37 false,gd 42 (.load 25 (.tmp 41)) 25 37 false,gd 43 (.fieldAddr 29 (.tmp 3) 2) 0 37 false,gd 44 (.load 27 (.tmp 43)) 27 37 false,gd 45 (.move (.tmp 9)) 3 37 false,gd 46 (.indexAddr 27 (.tmp 44) (.tmp 45)) 0 37 false,gd 47 (.fieldAddr 29 (.tmp 46) 0) 0 37 false,gd 48 (.load 25 (.tmp 47)) 25 37 false,gd 49 (.binOp .eql 25 (.tmp 42) (.tmp 48) 25) 4 37 false,gd 50 (.pick (.tmp 37) (.const (.bool true)) (.tmp 49)) 4 31 true,o 51 (.pick (.tmp 31) (.tmp 50) (.const (.bool false))) 4] true)
 (.cond (.tmp 51)
 (.seq (.region 11 #[m 52 8 38,m 53 9 3,o 54 (.buildSlice 38 1 #[(0,.tmp 53)]) 38,o 55 (.call { callee:=.builtin .append,args:=#[.tmp 52,.tmp 54],argTypes:=#[38,38] }) 38,o 8 (.assign (.tmp 55)) 38] false)
 (.seq (.region 12 #[m 56 9 3,o 57 (.binOp .add 3 (.tmp 56) (ci 1) 3) 3,o 9 (.assign (.tmp 57)) 3] false)
 (.exit 1)))
 .skip))
 (.seq (.seq (.region 13 #[m 58 2 76,m 59 10 3,o 60 (.indexAddr 76 (.tmp 58) (.tmp 59)) 0,fa 61 75 60 2,ld 62 61 4] false)
 (.cond (.tmp 62)
 (.seq (.region 14 #[m 63 8 38,o 64 (.buildSlice 38 1 #[(0,.const (.int .i64 (-1)))]) 38,o 65 (.call { callee:=.builtin .append,args:=#[.tmp 63,.tmp 64],argTypes:=#[38,38] }) 38,o 8 (.assign (.tmp 65)) 38] false)
 (.exit 1))
 .skip))
 (.seq (.seq (.region 15 #[m 66 9 3,fa 67 29 3 2,ld 68 67 27,o 69 (.call { callee:=.builtin .len,args:=#[.tmp 68],argTypes:=#[27] }) 3,o 70 (.binOp .eql 3 (.tmp 66) (.tmp 69) 3) 4] false)
 (.cond (.tmp 70)
 (.seq (.region 16 #[cl 71 35 #[.const (.int .i64 7),.const (.int .i64 (-1))] #[39,3] 41,o 6 (.assign (.const (.slice none 0 0))) 38,nd (.store 41 (.tmp 7) (.tmp 71))] false)
 .ret)
 .skip))
 (.seq (.region 17 #[m 72 9 3,cl 73 35 #[.const (.int .i64 9),.tmp 72] #[39,3] 41,o 6 (.assign (.const (.slice none 0 0))) 38,nd (.store 41 (.tmp 7) (.tmp 73))] false)
 .ret)))))
 (.region 9 #[m 24 10 3,o 25 (.binOp .add 3 (.tmp 24) (ci 1) 3) 3,o 10 (.assign (.tmp 25)) 3] false))))))
 (.seq (.seq (.region 18 #[m 74 9 3,fa 75 29 3 2,ld 76 75 27,o 77 (.call { callee:=.builtin .len,args:=#[.tmp 76],argTypes:=#[27] }) 3,o 78 (.binOp .lss 3 (.tmp 74) (.tmp 77) 3) 4] false)
 (.cond (.tmp 78)
 (.seq (.region 19 #[m 79 9 3,cl 80 35 #[.const (.int .i64 8),.tmp 79] #[39,3] 41,o 6 (.assign (.const (.slice none 0 0))) 38,nd (.store 41 (.tmp 7) (.tmp 80))] false)
 .ret)
 .skip))
 (.seq (.region 20 #[m 81 8 38,o 82 (.build 41 #[]) 41,o 6 (.assign (.tmp 81)) 38,nd (.store 41 (.tmp 7) (.tmp 82))] false)
 .ret))))))))
def kp36:Nat → Option (List Nat)
  | 0 => some [2,3,4,7]
  | 1 => some [2,3,4,7,13]
  | 2 => some [6,7]
  | 3 => some [2,3,7,18]
  | 4 => some [6,7]
  | 5 => some [2,3,7,8]
  | 6 => some [2,3,7,8,9]
  | 7 => some [2,3,7,8,9,10]
  | 8 => some [2,3,7,8,9,10,23]
  | 9 => some [2,3,7,8,9,10]
  | 10 => some [2,3,7,8,9,10,51]
  | 11 => some [2,3,7,8,9,10]
  | 12 => some [2,3,7,8,9,10]
  | 13 => some [2,3,7,8,9,10,62]
  | 14 => some [2,3,7,8,9,10]
  | 15 => some [7,9,70]
  | 16 => some [6,7]
  | 17 => some [6,7]
  | 18 => some [7,8,9,78]
  | 19 => some [6,7]
  | 20 => some [6,7]
  | _ => none
def fn36:AFn:={ ntmps:=83,results:=[.tmp 6,.cell 7 41],body:=c36,keep:=kp36,head:=fun | 8 => some [2,3,7,8,9,10] | _ => none,opn:=fun _ => none,dyn:=fun _ => [] }
def c39:Code :=
  (.seq (.region 0 #[o 2 (.alloc 35) 0] false)
 (.seq (.region 1 #[m 4 0 5,o 5 (.binOp .rem 5 (.tmp 4) (.const (.int .u8 4)) 5) 5,o 6 (.convert 5 23 (.tmp 5)) 23,o 7 (.build 33 #[(0,.const (.int .u32 1)),(1,.const (.int .u32 2)),(2,.const (.int .u32 840)),(3,.tmp 6)]) 33,o 8 (.build 35 #[(0,.const (.int .u8 4)),(1,.tmp 7)]) 35,o 3 (.alloc 35) 0,nd (.store 35 (.tmp 3) (.tmp 8))] false)
 (.seq (.seq (.region 2 #[m 9 0 5,o 10 (.binOp .rem 5 (.tmp 9) (.const (.int .u8 8)) 5) 5,o 11 (.binOp .gtr 5 (.tmp 10) (.const (.int .u8 3)) 5) 4] false)
 (.cond (.tmp 11)
 (.seq (.region 3 #[fa 12 35 3 0,nd (.store 5 (.tmp 12) (.const (.int .u8 5)))] false)
 (.region 4 #[m 13 0 5,o 14 (.binOp .rem 5 (.tmp 13) (.const (.int .u8 4)) 5) 5,o 15 (.convert 5 23 (.tmp 14)) 23,o 16 (.binOp .add 23 (.const (.int .u32 127)) (.tmp 15) 23) 23,fa 17 35 3 1,o 18 (.indexAddr 33 (.tmp 17) (ci 4)) 0,nd (.store 23 (.tmp 18) (.tmp 16))] false))
 .skip))
 (.seq (.region 5 #[ld 19 3 35,nd (.store 35 (.tmp 2) (.tmp 19))] false)
 .ret))))
def kp39:Nat → Option (List Nat)
  | 0 => some [0,2]
  | 1 => some [0,2,3]
  | 2 => some [0,2,3,11]
  | 3 => some [0,2,3]
  | 4 => some [2,3]
  | 5 => some [2]
  | _ => none
def fn39:AFn:={ ntmps:=20,results:=[.cell 2 35],body:=c39,keep:=kp39,head:=fun  | _ => none,opn:=fun _ => none,dyn:=fun _ => [] }
def c65:Code :=
  (.seq (.region 0 #[o 1 (.box 29 (.tmp 0)) 0,o 2 (.assign (.const (.slice none 0 0))) 26] false)
 (.seq (.region 1 #[fa 10 29 1 1,ld 11 10 26,o 12 (.call { callee:=.builtin .append,args:=#[.const (.slice none 0 0),.tmp 11],argTypes:=#[26,26] }) 26,o 3 (.assign (.tmp 12)) 26] false)
 (.seq (.seq (.region 2 #[o 4 (.assign (ci 0)) 3] false)
 (.block 0 (.loop (.seq (.seq (.region 3 #[m 13 4 3,fa 14 29 1 2,ld 15 14 27,o 16 (.call { callee:=.builtin .len,args:=#[.tmp 15],argTypes:=#[27] }) 3,o 17 (.binOp .lss 3 (.tmp 13) (.tmp 16) 3) 4] false)
 (.cond (.tmp 17)
 .skip
 (.exit 0)))
 (.seq (.block 1 (.region 5 #[m 20 3 26,fa 21 29 1 2,ld 22 21 27,m 23 4 3,o 24 (.indexAddr 27 (.tmp 22) (.tmp 23)) 0,ld 25 24 29,cl 26 65 #[.tmp 25] #[29] 26,o 27 (.call { callee:=.builtin .append,args:=#[.tmp 20,.tmp 26],argTypes:=#[26,26] }) 26,o 3 (.assign (.tmp 27)) 26] false))
 (.region 4 #[m 18 4 3,o 19 (.binOp .add 3 (.tmp 18) (ci 1) 3) 3,o 4 (.assign (.tmp 19)) 3] false))))))
 (.seq (.region 6 #[fa 28 29 1 0,fa 29 25 28 0,ld 30 29 22,o 31 (.binOp .mul 5 (.tmp 30) (.const (.int .u8 64)) 5) 5,o 5 (.assign (.tmp 31)) 5] false)
 (.seq (.seq (.region 7 #[fa 32 29 1 0,fa 33 25 32 1,ld 34 33 4] false)
 (.cond (.tmp 34)
 (.region 8 #[m 35 5 5,o 36 (.binOp .add 5 (.tmp 35) (.const (.int .u8 32)) 5) 5,o 5 (.assign (.tmp 36)) 5] false)
 .skip))
 (.seq (.region 9 #[m 37 5 5,fa 38 29 1 0,fa 39 25 38 2,ld 40 39 23,o 41 (.call { callee:=.builtin .min,args:=#[.tmp 40,.const (.int .u32 31)],argTypes:=#[23,23] }) 23,o 42 (.convert 23 5 (.tmp 41)) 5,o 43 (.binOp .add 5 (.tmp 37) (.tmp 42) 5) 5,o 44 (.buildSlice 26 1 #[(0,.tmp 43)]) 26,o 6 (.assign (.tmp 44)) 26] false)
 (.seq (.seq (.region 10 #[fa 45 29 1 0,fa 46 25 45 2,ld 47 46 23,o 48 (.binOp .gtr 23 (.tmp 47) (.const (.int .u32 30)) 23) 4] false)
 (.cond (.tmp 48)
 (.region 11 #[m 49 6 26,fa 50 29 1 0,fa 51 25 50 2,ld 52 51 23,cl 53 112 #[.tmp 52] #[23] 26,o 54 (.call { callee:=.builtin .append,args:=#[.tmp 49,.tmp 53],argTypes:=#[26,26] }) 26,o 6 (.assign (.tmp 54)) 26] false)
 .skip))
 (.seq (.region 12 #[m 55 3 26,o 56 (.call { callee:=.builtin .len,args:=#[.tmp 55],argTypes:=#[26] }) 3,o 7 (.assign (.tmp 56)) 3] false)
 (.seq (.seq (.region 13 #[m 57 7 3,o 58 (.binOp .lss 3 (.tmp 57) (ci 128) 3) 4] false)
 (.cond (.tmp 58)
 (.region 14 #[m 59 6 26,m 60 7 3,o 61 (.convert 3 5 (.tmp 60)) 5,o 62 (.buildSlice 26 1 #[(0,.tmp 61)]) 26,o 63 (.call { callee:=.builtin .append,args:=#[.tmp 59,.tmp 62],argTypes:=#[26,26] }) 26,o 6 (.assign (.tmp 63)) 26] false)
 (.seq (.region 15 #[o 8 (.assign (.const (.slice none 0 0))) 26] false)
 (.seq (.seq (.region 16 #[m 64 7 3,o 9 (.assign (.tmp 64)) 3] false)
 (.block 2 (.loop (.seq (.seq (.region 17 #[m 65 9 3,o 66 (.binOp .gtr 3 (.tmp 65) (ci 0) 3) 4] false)
 (.cond (.tmp 66)
 .skip
 (.exit 2)))
 (.seq (.block 3 (.region 19 #[m 69 9 3,o 70 (.binOp .rem 3 (.tmp 69) (ci 256) 3) 3,o 71 (.convert 3 5 (.tmp 70)) 5,o 72 (.buildSlice 26 1 #[(0,.tmp 71)]) 26,m 73 8 26,o 74 (.call { callee:=.builtin .append,args:=#[.tmp 72,.tmp 73],argTypes:=#[26,26] }) 26,o 8 (.assign (.tmp 74)) 26] false))
 (.region 18 #[m 67 9 3,o 68 (.binOp .quo 3 (.tmp 67) (ci 256) 3) 3,o 9 (.assign (.tmp 68)) 3] false))))))
 (.seq (.region 20 #[m 75 6 26,m 76 8 26,o 77 (.call { callee:=.builtin .len,args:=#[.tmp 76],argTypes:=#[26] }) 3,o 78 (.binOp .add 3 (ci 128) (.tmp 77) 3) 3,o 79 (.convert 3 5 (.tmp 78)) 5,o 80 (.buildSlice 26 1 #[(0,.tmp 79)]) 26,o 81 (.call { callee:=.builtin .append,args:=#[.tmp 75,.tmp 80],argTypes:=#[26,26] }) 26,o 6 (.assign (.tmp 81)) 26] false)
 (.region 21 #[m 82 6 26,m 83 8 26,o 84 (.call { callee:=.builtin .append,args:=#[.tmp 82,.tmp 83],argTypes:=#[26,26] }) 26,o 6 (.assign (.tmp 84)) 26] false))))))
 (.seq (.region 22 #[m 85 6 26,m 86 3 26,o 87 (.call { callee:=.builtin .append,args:=#[.tmp 85,.tmp 86],argTypes:=#[26,26] }) 26,o 2 (.assign (.tmp 87)) 26] false)
 .ret))))))))))
def kp65:Nat → Option (List Nat)
  | 0 => some [1]
  | 1 => some [1,3]
  | 2 => some [1,3,4]
  | 3 => some [1,3,4,17]
  | 4 => some [1,3,4]
  | 5 => some [1,3,4]
  | 6 => some [1,3,5]
  | 7 => some [1,3,5,34]
  | 8 => some [1,3,5]
  | 9 => some [1,3,6]
  | 10 => some [1,3,6,48]
  | 11 => some [3,6]
  | 12 => some [3,6,7]
  | 13 => some [3,6,7,58]
  | 14 => some [3,6]
  | 15 => some [3,6,7,8]
  | 16 => some [3,6,8,9]
  | 17 => some [3,6,8,9,66]
  | 18 => some [3,6,8,9]
  | 19 => some [3,6,8,9]
  | 20 => some [3,6,8]
  | 21 => some [3,6]
  | 22 => some [2]
  | _ => none
def fn65:AFn:={ ntmps:=88,results:=[.tmp 2],body:=c65,keep:=kp65,head:=fun | 3 => some [1,3,4] | 17 => some [3,6,8,9] | _ => none,opn:=fun _ => none,dyn:=fun _ => [] }
def c66:Code :=
  (.seq (.region 0 #[o 2 (.alloc 35) 0,o 3 (.assign (ci 0)) 39] false)
 (.seq (.seq (.region 1 #[m 9 0 26,o 10 (.call { callee:=.builtin .len,args:=#[.tmp 9],argTypes:=#[26] }) 3,o 11 (.binOp .eql 3 (.tmp 10) (ci 0) 3) 4] false)
 (.cond (.tmp 11)
 (.seq (.region 2 #[o 12 (.build 35 #[]) 35,nd (.store 35 (.tmp 2) (.tmp 12)),o 3 (.assign (ci 7)) 39] false)
 .ret)
 .skip))
 (.seq (.region 3 #[o 13 (.build 35 #[(0,.const (.int .u8 1))]) 35,o 4 (.alloc 35) 0,nd (.store 35 (.tmp 4) (.tmp 13))] false)
 (.seq (.region 4 #[o 5 (.assign (.const (.int .u64 0))) 167] false)
 (.seq (.region 5 #[o 6 (.assign (.const (.bool true))) 4] false)
 (.seq (.seq (.region 6 #[m 14 0 26,o 15 (.call { callee:=.builtin .len,args:=#[.tmp 14],argTypes:=#[26] }) 3,o 16 (.move (ci 0)) 3] false)
 (.block 0 (.loop (.seq (.region 7 #[o 17 (.binOp .lss 3 (.tmp 16) (.tmp 15) 3) 0] false)
 (.seq (.cond (.tmp 17)
 .skip
 (.exit 0))
 (.seq (.block 1 (.seq (.region 8 #[o 18 (.indexAddr 26 (.tmp 14) (.tmp 16)) 0,ld 19 18 5,o 8 (.assign (.tmp 19)) 5] false)
 (.seq (.block 2 (.seq (.region 9 #[m 21 6 4,m 22 21 4,gd 23 (.fieldAddr 35 (.tmp 4) 0) 0 22 true,gd 24 (.load 5 (.tmp 23)) 5 22 true,gd 25 (.binOp .eql 5 (.tmp 24) (.const (.int .u8 16)) 5) 4 22 true,o 26 (.pick (.tmp 22) (.tmp 25) (.const (.bool false))) 4,o 20 (.assign (.tmp 26)) 4] false)
 (.cond (.tmp 20)
 (.seq (.region 10 #[o 27 (.build 35 #[]) 35,nd (.store 35 (.tmp 2) (.tmp 27)),o 3 (.assign (ci 3)) 39] false)
 .ret)
 (.seq (.region 11 #[m 29 6 4,m 30 29 4,gd 31 (.move (.tmp 8)) 5 30 true,gd 32 (.binOp .eql 5 (.tmp 31) (.const (.int .u8 128)) 5) 4 30 true,o 33 (.pick (.tmp 30) (.tmp 32) (.const (.bool false))) 4,o 28 (.assign (.tmp 33)) 4] false)
 (.cond (.tmp 28)
 (.seq (.region 12 #[o 34 (.build 35 #[]) 35,nd (.store 35 (.tmp 2) (.tmp 34)),o 3 (.assign (ci 11)) 39] false)
 .ret)
 .skip)))))
 (.seq (.region 13 #[m 35 5 167,o 36 (.binOp .shl 167 (.tmp 35) (.const (.int .u64 7)) 168) 167,m 37 8 5,o 38 (.binOp .and 5 (.tmp 37) (.const (.int .u8 127)) 5) 5,o 39 (.convert 5 167 (.tmp 38)) 167,o 40 (.binOp .or 167 (.tmp 36) (.tmp 39) 167) 167,o 5 (.assign (.tmp 40)) 167] false)
 (.seq (.seq (.region 14 #[m 41 5 167,o 42 (.binOp .gtr 167 (.tmp 41) (.const (.int .u64 4294967295)) 167) 4] false)
 (.cond (.tmp 42)
 (.seq (.region 15 #[o 43 (.build 35 #[]) 35,nd (.store 35 (.tmp 2) (.tmp 43)),o 3 (.assign (ci 3)) 39] false)
 .ret)
 .skip))
 (.seq (.region 16 #[m 44 8 5,o 45 (.binOp .lss 5 (.tmp 44) (.const (.int .u8 128)) 5) 4,o 6 (.assign (.tmp 45)) 4] false)
 (.seq (.region 17 #[m 46 6 4] false)
 (.cond (.tmp 46)
 (.seq (.region 18 #[fa 47 35 4 0,ld 48 47 5,m 49 5 167,o 50 (.convert 167 23 (.tmp 49)) 23,fa 51 35 4 1,o 52 (.indexAddr 33 (.tmp 51) (.tmp 48)) 0,nd (.store 23 (.tmp 52) (.tmp 50))] false)
 (.seq (.region 19 #[fa 53 35 4 0,ld 54 53 5,o 55 (.binOp .add 5 (.tmp 54) (.const (.int .u8 1)) 5) 5,fa 56 35 4 0,nd (.store 5 (.tmp 56) (.tmp 55))] false)
 (.region 20 #[o 5 (.assign (.const (.int .u64 0))) 167] false)))
 .skip))))))))
 (.region 21 #[o 57 (.binOp .add 3 (.tmp 16) (ci 1) 3) 3,m 16 57 3] false)))))))
 (.seq (.seq (.region 22 #[m 58 6 4,o 59 (.unOp .not 4 (.tmp 58)) 4] false)
 (.cond (.tmp 59)
 (.seq (.region 23 #[o 60 (.build 35 #[]) 35,nd (.store 35 (.tmp 2) (.tmp 60)),o 3 (.assign (ci 7)) 39] false)
 .ret)
 .skip))
 (.seq (.region 24 #[fa 61 35 4 1,o 62 (.indexAddr 33 (.tmp 61) (ci 1)) 0,ld 63 62 23,o 64 (.binOp .quo 23 (.tmp 63) (.const (.int .u32 40)) 23) 23,o 65 (.call { callee:=.builtin .min,args:=#[.tmp 64,.const (.int .u32 2)],argTypes:=#[23,23] }) 23,fa 66 35 4 1,o 67 (.indexAddr 33 (.tmp 66) (ci 0)) 0,nd (.store 23 (.tmp 67) (.tmp 65))] false)
 (.seq (.region 25 #[fa 68 35 4 1,o 69 (.indexAddr 33 (.tmp 68) (ci 1)) 0,ld 70 69 23,fa 71 35 4 1,o 72 (.indexAddr 33 (.tmp 71) (ci 0)) 0,ld 73 72 23,o 74 (.binOp .mul 23 (.const (.int .u32 40)) (.tmp 73) 23) 23,o 75 (.binOp .sub 23 (.tmp 70) (.tmp 74) 23) 23,fa 76 35 4 1,o 77 (.indexAddr 33 (.tmp 76) (ci 1)) 0,nd (.store 23 (.tmp 77) (.tmp 75))] false)
 (.seq (.region 26 #[ld 78 4 35,nd (.store 35 (.tmp 2) (.tmp 78)),o 3 (.assign (ci 0)) 39] false)
 .ret))))))))))
def kp66:Nat → Option (List Nat)
  | 0 => some [0,2]
  | 1 => some [0,2,11]
  | 2 => some [2,3]
  | 3 => some [0,2,4]
  | 4 => some [0,2,4,5]
  | 5 => some [0,2,4,5,6]
  | 6 => some [2,4,5,6,14,15,16]
  | 7 => some [2,4,5,6,14,15,16,17]
  | 8 => some [2,4,5,6,8,14,15,16]
  | 9 => some [2,4,5,6,8,14,15,16,20]
  | 10 => some [2,3]
  | 11 => some [2,4,5,8,14,15,16,28]
  | 12 => some [2,3]
  | 13 => some [2,4,5,8,14,15,16]
  | 14 => some [2,4,5,8,14,15,16,42]
  | 15 => some [2,3]
  | 16 => some [2,4,5,6,14,15,16]
  | 17 => some [2,4,5,6,14,15,16,46]
  | 18 => some [2,4,6,14,15,16]
  | 19 => some [2,4,6,14,15,16]
  | 20 => some [2,4,5,6,14,15,16]
  | 21 => some [2,4,5,6,14,15,16]
  | 22 => some [2,4,59]
  | 23 => some [2,3]
  | 24 => some [2,4]
  | 25 => some [2,4]
  | 26 => some [2,3]
  | _ => none
def fn66:AFn:={ ntmps:=79,results:=[.cell 2 35,.tmp 3],body:=c66,keep:=kp66,head:=fun | 7 => some [2,4,5,6,14,15,16] | _ => none,opn:=fun _ => none,dyn:=fun _ => [] }
def c67:Code :=
  (.seq (.region 0 #[o 0 (.alloc 25) 0] false)
 (.seq (.region 1 #[o 1 (.build 25 #[(2,.const (.int .u32 6))]) 25,nd (.store 25 (.tmp 0) (.tmp 1))] false)
 .ret))
def kp67:Nat → Option (List Nat)
  | 0 => some [0]
  | 1 => some [0]
  | _ => none
def fn67:AFn:={ ntmps:=2,results:=[.cell 0 25],body:=c67,keep:=kp67,head:=fun  | _ => none,opn:=fun _ => none,dyn:=fun _ => [] }
def c68:Code :=
  (.seq (.region 0 #[o 4 (.alloc 41) 0] false)
 (.seq (.region 1 #[m 5 1 38,cl 6 113 #[.tmp 5] #[38] 38,m 7 0 39,o 8 (.build 41 #[(0,.tmp 6),(1,.tmp 7)]) 41,nd (.store 41 (.tmp 4) (.tmp 8))] false)
 .ret))
def kp68:Nat → Option (List Nat)
  | 0 => some [0,1,4]
  | 1 => some [4]
  | _ => none
def fn68:AFn:={ ntmps:=9,results:=[.cell 4 41],body:=c68,keep:=kp68,head:=fun  | _ => none,opn:=fun _ => none,dyn:=fun _ => [] }
def c69:Code :=
  (.seq (.region 0 #[o 3 (.box 29 (.tmp 0)) 0,o 4 (.box 25 (.tmp 1)) 0,o 6 (.assign (.const (.slice none 0 0))) 38,o 7 (.alloc 41) 0] false)
 (.seq (.block 0 (.seq (.region 1 #[m 14 2 76,o 15 (.call { callee:=.builtin .len,args:=#[.tmp 14],argTypes:=#[76] }) 3,o 16 (.binOp .gtr 3 (.tmp 15) (ci 256) 3) 4,o 13 (.assign (.tmp 16)) 4] false)
 (.cond (.tmp 13)
 (.seq (.region 2 #[cl 17 114 #[.const (.int .i64 3),.const (.slice none 0 0)] #[39,38] 41,o 6 (.assign (.const (.slice none 0 0))) 38,nd (.store 41 (.tmp 7) (.tmp 17))] false)
 .ret)
 (.seq (.region 3 #[fa 19 29 3 0,ld 20 19 25,ld 21 4 25,o 22 (.binOp .neq 25 (.tmp 20) (.tmp 21) 25) 4,o 18 (.assign (.tmp 22)) 4] false)
 (.cond (.tmp 18)
 (.seq (.region 4 #[cl 23 114 #[.const (.int .i64 9),.const (.slice none 0 0)] #[39,38] 41,o 6 (.assign (.const (.slice none 0 0))) 38,nd (.store 41 (.tmp 7) (.tmp 23))] false)
 .ret)
 .skip)))))
 (.seq (.region 5 #[o 8 (.assign (ci 0)) 3] false)
 (.seq (.region 6 #[m 24 2 76,o 25 (.call { callee:=.builtin .len,args:=#[.tmp 24],argTypes:=#[76] }) 3,o 26 (.makeSlice 38 (ci 0) (.tmp 25)) 38,o 9 (.assign (.tmp 26)) 38] false)
 (.seq (.seq (.region 7 #[m 27 2 76,o 28 (.call { callee:=.builtin .len,args:=#[.tmp 27],argTypes:=#[76] }) 3,o 29 (.move (ci 0)) 3] false)
 (.block 1 (.loop (.seq (.region 8 #[o 30 (.binOp .lss 3 (.tmp 29) (.tmp 28) 3) 0] false)
 (.seq (.cond (.tmp 30)
 .skip
 (.exit 1))
 (.seq (.block 2 (.seq (.region 9 #[o 31 (.indexAddr 76 (.tmp 27) (.tmp 29)) 0,ld 32 31 75,o 11 (.alloc 75) 0,nd (.store 75 (.tmp 11) (.tmp 32))] false)
 (.seq (.region 10 #[ld 33 11 75,o 34 (.makeFunc (.func 115) #[.tmp 33] #[]) 49,o 12 (.assign (.tmp 34)) 49] false)
 (.block 3 (.seq (.region 12 #[m 39 8 3,fa 40 29 3 2,ld 41 40 27,o 42 (.call { callee:=.builtin .len,args:=#[.tmp 41],argTypes:=#[27] }) 3,o 43 (.binOp .lss 3 (.tmp 39) (.tmp 42) 3) 4,m 44 43 4,gd 45 (.move (.tmp 12)) 49 44 true,gd 46 (.fieldAddr 29 (.tmp 3) 2) 0 44 true,gd 47 (.load 27 (.tmp 46)) 27 44 true,gd 48 (.move (.tmp 8)) 3 44 true,gd 49 (.indexAddr 27 (.tmp 47) (.tmp 48)) 0 44 true,gd 50 (.load 29 (.tmp 49)) 29 44 true,gd 51 (.call { callee:=.value (.tmp 45),args:=#[.tmp 50],argTypes:=#[29] }) 4 44 true,o 52 (.pick (.tmp 44) (.tmp 51) (.const (.bool false))) 4,o 38 (.assign (.tmp 52)) 4] false)
 (.cond (.tmp 38)
 (.seq (.region 13 #[m 53 9 38,m 54 8 3,o 55 (.buildSlice 38 1 #[(0,.tmp 54)]) 38,o 56 (.call { callee:=.builtin .append,args:=#[.tmp 53,.tmp 55],argTypes:=#[38,38] }) 38,o 9 (.assign (.tmp 56)) 38] false)
 (.region 14 #[m 57 8 3,o 58 (.binOp .add 3 (.tmp 57) (ci 1) 3) 3,o 8 (.assign (.tmp 58)) 3] false))
 (.seq (.region 15 #[fa 60 75 11 2,ld 61 60 4,o 59 (.assign (.tmp 61)) 4] false)
 (.cond (.tmp 59)
 (.region 16 #[m 62 9 38,o 63 (.buildSlice 38 1 #[(0,.const (.int .i64 (-1)))]) 38,o 64 (.call { callee:=.builtin .append,args:=#[.tmp 62,.tmp 63],argTypes:=#[38,38] }) 38,o 9 (.assign (.tmp 64)) 38] false)
 (.seq (.region 17 #[m 66 8 3,fa 67 29 3 2,ld 68 67 27,o 69 (.call { callee:=.builtin .len,args:=#[.tmp 68],argTypes:=#[27] }) 3,o 70 (.binOp .eql 3 (.tmp 66) (.tmp 69) 3) 4,o 65 (.assign (.tmp 70)) 4] false)
 (.cond (.tmp 65)
 (.seq (.region 18 #[cl 71 114 #[.const (.int .i64 7),.const (.slice none 0 0)] #[39,38] 41,o 6 (.assign (.const (.slice none 0 0))) 38,nd (.store 41 (.tmp 7) (.tmp 71))] false)
 .ret)
 (.seq (.region 11 #[m 35 8 3,⟨some 36,.buildSlice 38 1 #[(0,.tmp 35)],38, "",fz,none⟩,cl 37 114 #[.const (.int .i64 9),.tmp 36] #[39,38] 41,o 6 (.assign (.const (.slice none 0 0))) 38,nd (.store 41 (.tmp 7) (.tmp 37))] false)
 .ret)))))))))))
 (.region 19 #[o 72 (.binOp .add 3 (.tmp 29) (ci 1) 3) 3,m 29 72 3] false)))))))
 (.seq (.seq (.region 20 #[m 73 8 3,fa 74 29 3 2,ld 75 74 27,o 76 (.call { callee:=.builtin .len,args:=#[.tmp 75],argTypes:=#[27] }) 3,o 77 (.binOp .lss 3 (.tmp 73) (.tmp 76) 3) 4] false)
 (.cond (.tmp 77)
 (.seq (.region 21 #[m 78 8 3,⟨some 79,.buildSlice 38 1 #[(0,.tmp 78)],38, "",fz,none⟩,cl 80 114 #[.const (.int .i64 8),.tmp 79] #[39,38] 41,o 6 (.assign (.const (.slice none 0 0))) 38,nd (.store 41 (.tmp 7) (.tmp 80))] false)
 .ret)
 .skip))
 (.seq (.region 22 #[m 81 9 38,o 82 (.build 41 #[]) 41,o 6 (.assign (.tmp 81)) 38,nd (.store 41 (.tmp 7) (.tmp 82))] false)
 .ret)))))))
def kp69:Nat → Option (List Nat)
  | 0 => some [2,3,4,7]
  | 1 => some [2,3,4,7,13]
  | 2 => some [6,7]
  | 3 => some [2,3,7,18]
  | 4 => some [6,7]
  | 5 => some [2,3,7,8]
  | 6 => some [2,3,7,8,9]
  | 7 => some [3,7,8,9,27,28,29]
  | 8 => some [3,7,8,9,27,28,29,30]
  | 9 => some [3,7,8,9,11,27,28,29]
  | 10 => some [3,7,8,9,11,12,27,28,29]
  | 11 => some [6,7]
  | 12 => some [3,7,8,9,11,27,28,29,38]
  | 13 => some [3,7,8,9,27,28,29]
  | 14 => some [3,7,8,9,27,28,29]
  | 15 => some [3,7,8,9,27,28,29,59]
  | 16 => some [3,7,8,9,27,28,29]
  | 17 => some [7,8,65]
  | 18 => some [6,7]
  | 19 => some [3,7,8,9,27,28,29]
  | 20 => some [7,8,9,77]
  | 21 => some [6,7]
  | 22 => some [6,7]
  | _ => none
def fn69:AFn:={ ntmps:=83,results:=[.tmp 6,.cell 7 41],body:=c69,keep:=kp69,head:=fun | 8 => some [3,7,8,9,27,28,29] | _ => none,opn:=opnT,dyn:=fun _ => [] }
def c70:Code :=
  (.seq (.region 0 #[o 1 (.box 29 (.tmp 0)) 0,o 2 (.alloc 29) 0] false)
 (.seq (.region 1 #[ld 4 1 29,cl 5 116 #[.tmp 4,.const (.slice none 0 0)] #[29,38] 46,m 3 5 46,o 6 (.extract (.tmp 3) 0) 29,o 7 (.extract (.tmp 3) 1) 39,nd (.store 29 (.tmp 1) (.tmp 6))] false)
 (.seq (.region 2 #[ld 8 1 29,nd (.store 29 (.tmp 2) (.tmp 8))] false)
 .ret)))
def kp70:Nat → Option (List Nat)
  | 0 => some [1,2]
  | 1 => some [1,2]
  | 2 => some [2]
  | _ => none
def fn70:AFn:={ ntmps:=9,results:=[.cell 2 29],body:=c70,keep:=kp70,head:=fun  | _ => none,opn:=fun _ => none,dyn:=fun _ => [] }
def c71:Code :=
  (.seq (.region 0 #[o 2 (.box 37 (.tmp 0)) 0,o 4 (.alloc 29) 0,o 5 (.assign (ci 0)) 39] false)
 (.seq (.region 1 #[m 9 1 47,ld 10 2 37,o 11 (.call { callee:=.value (.tmp 9),args:=#[.tmp 10],argTypes:=#[37] }) 46,m 8 11 46,o 12 (.extract (.tmp 8) 0) 29,o 13 (.extract (.tmp 8) 1) 39,o 6 (.alloc 29) 0,nd (.store 29 (.tmp 6) (.tmp 12)),o 7 (.assign (.tmp 13)) 39] false)
 (.seq (.seq (.region 2 #[m 14 7 39,o 15 (.binOp .eql 39 (.tmp 14) (ci 0) 39) 4] false)
 (.cond (.tmp 15)
 (.region 3 #[ld 16 6 29,cl 17 22 #[.tmp 16] #[29] 39,o 7 (.assign (.tmp 17)) 39] false)
 .skip))
 (.seq (.seq (.region 4 #[m 18 7 39,o 19 (.binOp .neq 39 (.tmp 18) (ci 0) 39) 4] false)
 (.cond (.tmp 19)
 (.seq (.region 5 #[o 20 (.build 29 #[]) 29,m 21 7 39,nd (.store 29 (.tmp 4) (.tmp 20)),o 5 (.assign (.tmp 21)) 39] false)
 .ret)
 .skip))
 (.seq (.region 6 #[ld 22 6 29,nd (.store 29 (.tmp 4) (.tmp 22)),o 5 (.assign (ci 0)) 39] false)
 .ret)))))
def kp71:Nat → Option (List Nat)
  | 0 => some [1,2,4]
  | 1 => some [4,6,7]
  | 2 => some [4,6,7,15]
  | 3 => some [4,6,7]
  | 4 => some [4,6,7,19]
  | 5 => some [4,5]
  | 6 => some [4,5]
  | _ => none
def fn71:AFn:={ ntmps:=23,results:=[.cell 4 29,.tmp 5],body:=c71,keep:=kp71,head:=fun  | _ => none,opn:=opnT,dyn:=fun _ => [] }
def c72:Code :=
  (.seq (.region 0 #[o 1 (.box 37 (.tmp 0)) 0,o 2 (.alloc 29) 0,o 3 (.assign (ci 0)) 39] false)
 (.seq (.region 1 #[fa 8 37 1 0,ld 9 8 35,cl 10 117 #[.tmp 9] #[35] 94,m 7 10 94,o 11 (.extract (.tmp 7) 0) 26,o 12 (.extract (.tmp 7) 1) 39,o 4 (.assign (.tmp 11)) 26,o 5 (.assign (.tmp 12)) 39] false)
 (.seq (.block 0 (.seq (.region 2 #[m 14 5 39,o 15 (.binOp .neq 39 (.tmp 14) (ci 0) 39) 4,o 13 (.assign (.tmp 15)) 4] false)
 (.cond (.tmp 13)
 (.seq (.region 3 #[o 16 (.build 29 #[]) 29,m 17 5 39,nd (.store 29 (.tmp 2) (.tmp 16)),o 3 (.assign (.tmp 17)) 39] false)
 .ret)
 (.seq (.region 4 #[fa 19 37 1 1,ld 20 19 4,o 21 (.unOp .not 4 (.tmp 20)) 4,m 22 21 4,gd 23 (.fieldAddr 37 (.tmp 1) 2) 0 22 true,gd 24 (.load 29 (.tmp 23)) 29 22 true,gd 25 (.call { callee:=.value (.func 118),args:=#[.tmp 24],argTypes:=#[29] }) 4 22 true,gd 26 (.unOp .not 4 (.tmp 25)) 4 22 true,o 27 (.pick (.tmp 22) (.tmp 26) (.const (.bool false))) 4,o 18 (.assign (.tmp 27)) 4] false)
 (.cond (.tmp 18)
 (.seq (.region 5 #[o 28 (.build 29 #[]) 29,nd (.store 29 (.tmp 2) (.tmp 28)),o 3 (.assign (ci 1)) 39] false)
 .ret)
 .skip)))))
 (.seq (.region 6 #[o 29 (.load 25 (.global 1)) 25,m 30 4 26,o 31 (.build 29 #[(0,.tmp 29),(1,.tmp 30)]) 29,⟨some 32,.buildSlice 27 1 #[(0,.tmp 31)],27, "",fz,none⟩,o 6 (.assign (.tmp 32)) 27] false)
 (.seq (.seq (.region 7 #[fa 33 37 1 1,ld 34 33 4] false)
 (.cond (.tmp 34)
 (.region 8 #[m 35 6 27,fa 36 37 1 2,ld 37 36 29,cl 38 70 #[.tmp 37] #[29] 29,o 39 (.buildSlice 27 1 #[(0,.tmp 38)]) 27,⟨some 40,.call { callee:=.builtin .append,args:=#[.tmp 35,.tmp 39],argTypes:=#[27,27] },27, "",fz,none⟩,o 6 (.assign (.tmp 40)) 27] false)
 .skip))
 (.seq (.region 9 #[o 41 (.load 25 (.global 0)) 25,m 42 6 27,cl 43 90 #[.tmp 42] #[27] 27,o 44 (.build 29 #[(0,.tmp 41),(2,.tmp 43)]) 29,nd (.store 29 (.tmp 2) (.tmp 44)),o 3 (.assign (ci 0)) 39] true)
 .ret))))))
def kp72:Nat → Option (List Nat)
  | 0 => some [1,2]
  | 1 => some [1,2,4,5]
  | 2 => some [1,2,4,5,13]
  | 3 => some [2,3]
  | 4 => some [1,2,4,18]
  | 5 => some [2,3]
  | 6 => some [1,2,6]
  | 7 => some [1,2,6,34]
  | 8 => some [2,6]
  | 9 => some [2,3]
  | _ => none
def fn72:AFn:={ ntmps:=45,results:=[.cell 2 29,.tmp 3],body:=c72,keep:=kp72,head:=fun  | _ => none,opn:=fun _ => none,dyn:=fun | 1000000 => [(32,0),(40,0)] | _ => [] }
def c73:Code :=
  (.seq (.region 0 #[o 1 (.box 29 (.tmp 0)) 0,o 2 (.assign (ci 0)) 39,o 3 (.alloc 3) 0,o 4 (.alloc 3) 0] false)
 (.seq (.region 1 #[ld 5 1 29,o 6 (.makeFunc (.func 120) #[] #[.tmp 3,.tmp 4]) 174,cl 7 119 #[.tmp 5,.tmp 6] #[29,174] 39,o 2 (.assign (.tmp 7)) 39] false)
 (.seq (.seq (.region 2 #[m 8 2 39,o 9 (.binOp .neq 39 (.tmp 8) (ci 0) 39) 4] false)
 (.cond (.tmp 9)
 (.seq (.region 3 #[m 10 2 39,o 2 (.assign (.tmp 10)) 39,nd (.store 3 (.tmp 3) (ci 0)),nd (.store 3 (.tmp 4) (ci 0))] false)
 .ret)
 .skip))
 (.seq (.region 4 #[ld 11 3 3,ld 12 4 3,o 2 (.assign (ci 0)) 39,nd (.store 3 (.tmp 3) (.tmp 11)),nd (.store 3 (.tmp 4) (.tmp 12))] true)
 .ret))))
def kp73:Nat → Option (List Nat)
  | 0 => some [1,3,4]
  | 1 => some [2,3,4]
  | 2 => some [2,3,4,9]
  | 3 => some [2,3,4]
  | 4 => some [2,3,4]
  | _ => none
def fn73:AFn:={ ntmps:=13,results:=[.tmp 2,.cell 3 3,.cell 4 3],body:=c73,keep:=kp73,head:=fun  | _ => none,opn:=opnT,dyn:=fun | 4 => [(1,3)] | _ => [] }
def c74:Code :=
  (.seq (.region 0 #[o 1 (.box 35 (.tmp 0)) 0,o 2 (.assign (.const (.slice none 0 0))) 26] false)
 (.seq (.region 1 #[fa 5 35 1 1,o 6 (.indexAddr 33 (.tmp 5) (ci 0)) 0,ld 7 6 23,o 8 (.binOp .mul 23 (.const (.int .u32 40)) (.tmp 7) 23) 23,fa 9 35 1 1,o 10 (.indexAddr 33 (.tmp 9) (ci 1)) 0,ld 11 10 23,o 12 (.binOp .add 23 (.tmp 8) (.tmp 11) 23) 23,cl 13 112 #[.tmp 12] #[23] 26,o 3 (.assign (.tmp 13)) 26] false)
 (.seq (.seq (.region 2 #[o 4 (.assign (ci 2)) 3] false)
 (.block 0 (.loop (.seq (.seq (.region 3 #[m 14 4 3,fa 15 35 1 0,ld 16 15 5,o 17 (.convert 5 3 (.tmp 16)) 3,o 18 (.binOp .lss 3 (.tmp 14) (.tmp 17) 3) 4] false)
 (.cond (.tmp 18)
 .skip
 (.exit 0)))
 (.seq (.block 1 (.region 5 #[m 21 3 26,m 22 4 3,fa 23 35 1 1,o 24 (.indexAddr 33 (.tmp 23) (.tmp 22)) 0,ld 25 24 23,cl 26 112 #[.tmp 25] #[23] 26,o 27 (.call { callee:=.builtin .append,args:=#[.tmp 21,.tmp 26],argTypes:=#[26,26] }) 26,o 3 (.assign (.tmp 27)) 26] false))
 (.region 4 #[m 19 4 3,o 20 (.binOp .add 3 (.tmp 19) (ci 1) 3) 3,o 4 (.assign (.tmp 20)) 3] false))))))
 (.seq (.region 6 #[m 28 3 26,o 2 (.assign (.tmp 28)) 26] false)
 .ret))))
def kp74:Nat → Option (List Nat)
  | 0 => some [1]
  | 1 => some [1,3]
  | 2 => some [1,3,4]
  | 3 => some [1,3,4,18]
  | 4 => some [1,3,4]
  | 5 => some [1,3,4]
  | 6 => some [2]
  | _ => none
def fn74:AFn:={ ntmps:=29,results:=[.tmp 2],body:=c74,keep:=kp74,head:=fun | 3 => some [1,3,4] | _ => none,opn:=opn74,dyn:=fun _ => [] }
def c75:Code :=
  (.seq (.region 0 #[o 4 (.assign (.const (.slice none 0 0))) 26,o 5 (.assign (ci 0)) 39] false)
 (.seq (.seq (.region 1 #[m 7 0 26,m 8 1 3,cl 9 122 #[.tmp 7,.tmp 8] #[26,3] 39,o 6 (.assign (.tmp 9)) 39] false)
 (.seq (.region 2 #[m 10 6 39,o 11 (.binOp .neq 39 (.tmp 10) (ci 0) 39) 4] false)
 (.cond (.tmp 11)
 (.seq (.region 3 #[m 12 6 39,o 4 (.assign (.const (.slice none 0 0))) 26,o 5 (.assign (.tmp 12)) 39] false)
 .ret)
 .skip)))
 (.seq (.region 4 #[m 13 1 3,cl 14 124 #[.tmp 13] #[3] 3,o 15 (.convert 3 5 (.tmp 14)) 5,⟨some 16,.buildSlice 26 1 #[(0,.tmp 15)],26, "",fz,none⟩,m 17 0 26,cl 18 123 #[.tmp 16,.tmp 17] #[26,26] 26,o 4 (.assign (.tmp 18)) 26,o 5 (.assign (ci 0)) 39] false)
 .ret)))
def kp75:Nat → Option (List Nat)
  | 0 => some [0,1]
  | 1 => some [0,1,6]
  | 2 => some [0,1,6,11]
  | 3 => some [4,5]
  | 4 => some [4,5]
  | _ => none
def fn75:AFn:={ ntmps:=19,results:=[.tmp 4,.tmp 5],body:=c75,keep:=kp75,head:=fun  | _ => none,opn:=fun _ => none,dyn:=fun _ => [] }
def c76:Code :=
  (.seq (.region 0 #[o 2 (.box 57 (.tmp 0)) 0,o 4 (.alloc 29) 0,o 5 (.assign (ci 0)) 39] false)
 (.seq (.region 1 #[m 9 1 58,ld 10 2 57,o 11 (.call { callee:=.value (.tmp 9),args:=#[.tmp 10],argTypes:=#[57] }) 46,m 8 11 46,o 12 (.extract (.tmp 8) 0) 29,o 13 (.extract (.tmp 8) 1) 39,o 6 (.alloc 29) 0,nd (.store 29 (.tmp 6) (.tmp 12)),o 7 (.assign (.tmp 13)) 39] false)
 (.seq (.seq (.region 2 #[m 14 7 39,o 15 (.binOp .eql 39 (.tmp 14) (ci 0) 39) 4] false)
 (.cond (.tmp 15)
 (.region 3 #[ld 16 6 29,cl 17 22 #[.tmp 16] #[29] 39,o 7 (.assign (.tmp 17)) 39] false)
 .skip))
 (.seq (.seq (.region 4 #[m 18 7 39,o 19 (.binOp .neq 39 (.tmp 18) (ci 0) 39) 4] false)
 (.cond (.tmp 19)
 (.seq (.region 5 #[o 20 (.build 29 #[]) 29,m 21 7 39,nd (.store 29 (.tmp 4) (.tmp 20)),o 5 (.assign (.tmp 21)) 39] false)
 .ret)
 .skip))
 (.seq (.region 6 #[ld 22 6 29,nd (.store 29 (.tmp 4) (.tmp 22)),o 5 (.assign (ci 0)) 39] false)
 .ret)))))
def kp76:Nat → Option (List Nat)
  | 0 => some [1,2,4]
  | 1 => some [4,6,7]
  | 2 => some [4,6,7,15]
  | 3 => some [4,6,7]
  | 4 => some [4,6,7,19]
  | 5 => some [4,5]
  | 6 => some [4,5]
  | _ => none
def fn76:AFn:={ ntmps:=23,results:=[.cell 4 29,.tmp 5],body:=c76,keep:=kp76,head:=fun  | _ => none,opn:=opnT,dyn:=fun _ => [] }
def c77:Code :=
  (.seq (.region 0 #[o 1 (.box 57 (.tmp 0)) 0,o 2 (.alloc 29) 0,o 3 (.assign (ci 0)) 39] false)
 (.seq (.region 1 #[o 9 (.load 25 (.global 0)) 25,o 10 (.build 29 #[(0,.tmp 9)]) 29,o 4 (.alloc 29) 0,nd (.store 29 (.tmp 4) (.tmp 10))] false)
 (.seq (.seq (.region 2 #[o 11 (.makeFunc (.func 125) #[] #[.tmp 1]) 178,o 12 (.makeFunc (.func 126) #[] #[.tmp 1]) 178,o 13 (.buildSlice 179 2 #[(0,.tmp 11),(1,.tmp 12)]) 179,o 14 (.call { callee:=.builtin .len,args:=#[.tmp 13],argTypes:=#[179] }) 3,o 15 (.move (ci 0)) 3] false)
 (.block 0 (.loop (.seq (.region 3 #[o 16 (.binOp .lss 3 (.tmp 15) (.tmp 14) 3) 0] false)
 (.seq (.cond (.tmp 16)
 .skip
 (.exit 0))
 (.seq (.block 1 (.seq (.region 4 #[o 17 (.indexAddr 179 (.tmp 13) (.tmp 15)) 0,ld 18 17 178,o 6 (.assign (.tmp 18)) 178] false)
 (.seq (.region 5 #[m 20 6 178,o 21 (.call { callee:=.value (.tmp 20),args:=#[],argTypes:=#[] }) 46,m 19 21 46,o 22 (.extract (.tmp 19) 0) 29,o 23 (.extract (.tmp 19) 1) 39,o 7 (.alloc 29) 0,nd (.store 29 (.tmp 7) (.tmp 22)),o 8 (.assign (.tmp 23)) 39] false)
 (.seq (.seq (.region 6 #[m 24 8 39,o 25 (.binOp .neq 39 (.tmp 24) (ci 0) 39) 4] false)
 (.cond (.tmp 25)
 (.seq (.region 7 #[o 26 (.build 29 #[]) 29,m 27 8 39,nd (.store 29 (.tmp 2) (.tmp 26)),o 3 (.assign (.tmp 27)) 39] false)
 .ret)
 .skip))
 (.region 8 #[fa 28 29 4 2,ld 29 28 27,ld 30 7 29,o 31 (.buildSlice 27 1 #[(0,.tmp 30)]) 27,o 32 (.call { callee:=.builtin .append,args:=#[.tmp 29,.tmp 31],argTypes:=#[27,27] }) 27,fa 33 29 4 2,nd (.store 27 (.tmp 33) (.tmp 32))] false)))))
 (.region 9 #[o 34 (.binOp .add 3 (.tmp 15) (ci 1) 3) 3,m 15 34 3] false)))))))
 (.seq (.region 10 #[fa 35 29 4 2,ld 36 35 27,cl 37 90 #[.tmp 36] #[27] 27,fa 38 29 4 2,nd (.store 27 (.tmp 38) (.tmp 37))] false)
 (.seq (.region 11 #[ld 39 4 29,nd (.store 29 (.tmp 2) (.tmp 39)),o 3 (.assign (ci 0)) 39] false)
 .ret)))))
def kp77:Nat → Option (List Nat)
  | 0 => some [1,2]
  | 1 => some [1,2,4]
  | 2 => some [2,4,13,14,15]
  | 3 => some [2,4,13,14,15,16]
  | 4 => some [2,4,6,13,14,15]
  | 5 => some [2,4,7,8,13,14,15]
  | 6 => some [2,4,7,8,13,14,15,25]
  | 7 => some [2,3]
  | 8 => some [2,4,13,14,15]
  | 9 => some [2,4,13,14,15]
  | 10 => some [2,4]
  | 11 => some [2,3]
  | _ => none
def fn77:AFn:={ ntmps:=40,results:=[.cell 2 29,.tmp 3],body:=c77,keep:=kp77,head:=fun | 3 => some [2,4,13,14,15] | _ => none,opn:=opnT,dyn:=fun _ => [] }
def c78:Code :=
  (.seq (.region 0 #[o 1 (.box 131 (.tmp 0)) 0,o 2 (.alloc 29) 0] false)
 (.seq (.region 1 #[fa 6 131 1 0,ld 7 6 26,cl 8 127 #[.tmp 7,.const (.int .i64 0),.const (.int .i64 2)] #[26,3,3] 180,m 5 8 180,o 9 (.extract (.tmp 5) 0) 27,o 10 (.extract (.tmp 5) 1) 3,o 3 (.assign (.tmp 9)) 27,o 4 (.assign (.tmp 10)) 3] false)
 (.seq (.region 2 #[cl 11 128 #[.const (.int .u8 0)] #[5] 25,m 12 3 27,o 13 (.build 29 #[(0,.tmp 11),(2,.tmp 12)]) 29,nd (.store 29 (.tmp 2) (.tmp 13))] false)
 .ret)))
def kp78:Nat → Option (List Nat)
  | 0 => some [1,2]
  | 1 => some [2,3]
  | 2 => some [2]
  | _ => none
def fn78:AFn:={ ntmps:=14,results:=[.cell 2 29],body:=c78,keep:=kp78,head:=fun  | _ => none,opn:=fun _ => none,dyn:=fun _ => [] }
def c79:Code :=
  (.seq (.region 0 #[o 4 (.alloc 29) 0] false)
 (.seq (.region 1 #[m 6 0 26,o 7 (.call { callee:=.builtin .len,args:=#[.tmp 6],argTypes:=#[26] }) 3,o 8 (.binOp .mul 3 (ci 8) (.tmp 7) 3) 3,m 9 1 3,o 10 (.binOp .sub 3 (.tmp 8) (.tmp 9) 3) 3,o 11 (.convert 3 5 (.tmp 10)) 5,o 12 (.buildSlice 26 1 #[(0,.tmp 11)]) 26,o 5 (.assign (.tmp 12)) 26] false)
 (.seq (.region 2 #[o 13 (.build 25 #[(2,.const (.int .u32 3))]) 25,m 14 5 26,m 15 0 26,o 16 (.call { callee:=.builtin .append,args:=#[.tmp 14,.tmp 15],argTypes:=#[26,26] }) 26,o 17 (.build 29 #[(0,.tmp 13),(1,.tmp 16)]) 29,nd (.store 29 (.tmp 4) (.tmp 17))] false)
 .ret)))
def kp79:Nat → Option (List Nat)
  | 0 => some [0,1,4]
  | 1 => some [0,4,5]
  | 2 => some [4]
  | _ => none
def fn79:AFn:={ ntmps:=18,results:=[.cell 4 29],body:=c79,keep:=kp79,head:=fun  | _ => none,opn:=fun _ => none,dyn:=fun _ => [] }
def c90:Code :=
  (.seq (.region 0 #[o 2 (.assign (.const (.slice none 0 0))) 27] false)
 (.seq (.region 1 #[m 3 0 27,m 4 0 27,o 5 (.call { callee:=.builtin .len,args:=#[.tmp 4],argTypes:=#[27] }) 3,m 6 0 27,o 7 (.call { callee:=.builtin .len,args:=#[.tmp 6],argTypes:=#[27] }) 3,o 8 (.slice 27 (.tmp 3) none (some (.tmp 5)) (some (.tmp 7))) 27,o 2 (.assign (.tmp 8)) 27] false)
 .ret))
def kp90:Nat → Option (List Nat)
  | 0 => some [0]
  | 1 => some [2]
  | _ => none
def fn90:AFn:={ ntmps:=9,results:=[.tmp 2],body:=c90,keep:=kp90,head:=fun  | _ => none,opn:=fun _ => none,dyn:=fun _ => [] }
def c112:Code :=
  (.seq (.region 0 #[o 2 (.assign (.const (.slice none 0 0))) 26] false)
 (.seq (.region 1 #[m 4 0 23,o 5 (.binOp .rem 23 (.tmp 4) (.const (.int .u32 128)) 23) 23,o 6 (.convert 23 5 (.tmp 5)) 5,o 7 (.buildSlice 26 1 #[(0,.tmp 6)]) 26,o 3 (.assign (.tmp 7)) 26] false)
 (.seq (.seq (.region 2 #[m 8 0 23,o 9 (.binOp .quo 23 (.tmp 8) (.const (.int .u32 128)) 23) 23,o 0 (.assign (.tmp 9)) 23] false)
 (.block 0 (.loop (.seq (.seq (.region 3 #[m 10 0 23,o 11 (.binOp .gtr 23 (.tmp 10) (.const (.int .u32 0)) 23) 4] false)
 (.cond (.tmp 11)
 .skip
 (.exit 0)))
 (.seq (.block 1 (.region 5 #[m 14 0 23,o 15 (.binOp .rem 23 (.tmp 14) (.const (.int .u32 128)) 23) 23,o 16 (.binOp .add 23 (.const (.int .u32 128)) (.tmp 15) 23) 23,o 17 (.convert 23 5 (.tmp 16)) 5,o 18 (.buildSlice 26 1 #[(0,.tmp 17)]) 26,m 19 3 26,o 20 (.call { callee:=.builtin .append,args:=#[.tmp 18,.tmp 19],argTypes:=#[26,26] }) 26,o 3 (.assign (.tmp 20)) 26] false))
 (.region 4 #[m 12 0 23,o 13 (.binOp .quo 23 (.tmp 12) (.const (.int .u32 128)) 23) 23,o 0 (.assign (.tmp 13)) 23] false))))))
 (.seq (.region 6 #[m 21 3 26,o 2 (.assign (.tmp 21)) 26] false)
 .ret))))
def kp112:Nat → Option (List Nat)
  | 0 => some [0]
  | 1 => some [0,3]
  | 2 => some [0,3]
  | 3 => some [0,3,11]
  | 4 => some [0,3]
  | 5 => some [0,3]
  | 6 => some [2]
  | _ => none
def fn112:AFn:={ ntmps:=22,results:=[.tmp 2],body:=c112,keep:=kp112,head:=fun | 3 => some [0,3] | _ => none,opn:=fun _ => none,dyn:=fun _ => [] }
def c113:Code :=
  (.seq (.region 0 #[o 2 (.assign (.const (.slice none 0 0))) 38] false)
 (.seq (.region 1 #[m 3 0 38,m 4 0 38,o 5 (.call { callee:=.builtin .len,args:=#[.tmp 4],argTypes:=#[38] }) 3,m 6 0 38,o 7 (.call { callee:=.builtin .len,args:=#[.tmp 6],argTypes:=#[38] }) 3,o 8 (.slice 38 (.tmp 3) none (some (.tmp 5)) (some (.tmp 7))) 38,o 2 (.assign (.tmp 8)) 38] false)
 .ret))
def kp113:Nat → Option (List Nat)
  | 0 => some [0]
  | 1 => some [2]
  | _ => none
def fn113:AFn:={ ntmps:=9,results:=[.tmp 2],body:=c113,keep:=kp113,head:=fun  | _ => none,opn:=fun _ => none,dyn:=fun _ => [] }
def c114:Code :=
  (.seq (.region 0 #[o 4 (.alloc 41) 0] false)
 (.seq (.region 1 #[m 5 1 38,cl 6 113 #[.tmp 5] #[38] 38,m 7 0 39,o 8 (.build 41 #[(0,.tmp 6),(1,.tmp 7)]) 41,nd (.store 41 (.tmp 4) (.tmp 8))] false)
 .ret))
def kp114:Nat → Option (List Nat)
  | 0 => some [0,1,4]
  | 1 => some [4]
  | _ => none
def fn114:AFn:={ ntmps:=9,results:=[.cell 4 41],body:=c114,keep:=kp114,head:=fun  | _ => none,opn:=fun _ => none,dyn:=fun _ => [] }
def c115:Code :=
  (.seq (.region 0 #[o 2 (.box 75 (.tmp 0)) 0,o 3 (.box 29 (.tmp 1)) 0,o 4 (.assign (.const (.bool false))) 4] false)
 (.seq (.region 1 #[fa 5 75 2 1,ld 6 5 4,m 7 6 4,gd 8 (.fieldAddr 75 (.tmp 2) 0) 0 7 false,gd 9 (.load 25 (.tmp 8)) 25 7 false,gd 10 (.fieldAddr 29 (.tmp 3) 0) 0 7 false,gd 11 (.load 25 (.tmp 10)) 25 7 false,gd 12 (.binOp .eql 25 (.tmp 9) (.tmp 11) 25) 4 7 false,o 13 (.pick (.tmp 7) (.const (.bool true)) (.tmp 12)) 4,o 4 (.assign (.tmp 13)) 4] false)
 .ret))
def kp115:Nat → Option (List Nat)
  | 0 => some [2,3]
  | 1 => some [4]
  | _ => none
def fn115:AFn:={ ntmps:=14,results:=[.tmp 4],body:=c115,keep:=kp115,head:=fun  | _ => none,opn:=fun _ => none,dyn:=fun _ => [] }
def c116:Code :=
  (.seq (.region 0 #[o 2 (.box 29 (.tmp 0)) 0,o 4 (.alloc 29) 0,o 5 (.assign (ci 0)) 39] false)
 (.seq (.region 1 #[o 6 (.assign (.const (.bool true))) 4] false)
 (.seq (.seq (.region 2 #[m 9 1 38,o 10 (.call { callee:=.builtin .len,args:=#[.tmp 9],argTypes:=#[38] }) 3,o 11 (.move (ci 0)) 3] false)
 (.block 0 (.loop (.seq (.region 3 #[o 12 (.binOp .lss 3 (.tmp 11) (.tmp 10) 3) 0] false)
 (.seq (.cond (.tmp 12)
 .skip
 (.exit 0))
 (.seq (.block 1 (.seq (.region 4 #[o 13 (.indexAddr 38 (.tmp 9) (.tmp 11)) 0,ld 14 13 3,o 8 (.assign (.tmp 14)) 3] false)
 (.seq (.region 5 #[ld 16 2 29,m 17 8 3,cl 18 147 #[.tmp 16,.tmp 17] #[29,3] 208,m 15 18 208,o 19 (.extract (.tmp 15) 0) 29,o 20 (.extract (.tmp 15) 1) 4,nd (.store 29 (.tmp 2) (.tmp 19)),o 6 (.assign (.tmp 20)) 4] false)
 (.seq (.region 6 #[m 21 6 4,o 22 (.unOp .not 4 (.tmp 21)) 4] false)
 (.cond (.tmp 22)
 (.seq (.region 7 #[o 23 (.build 29 #[]) 29,nd (.store 29 (.tmp 4) (.tmp 23)),o 5 (.assign (ci 19)) 39] false)
 .ret)
 .skip)))))
 (.region 8 #[o 24 (.binOp .add 3 (.tmp 11) (ci 1) 3) 3,m 11 24 3] false)))))))
 (.seq (.region 9 #[ld 25 2 29,cl 26 148 #[.tmp 25] #[29] 29,nd (.store 29 (.tmp 4) (.tmp 26)),o 5 (.assign (ci 0)) 39] false)
 .ret))))
def kp116:Nat → Option (List Nat)
  | 0 => some [1,2,4]
  | 1 => some [1,2,4]
  | 2 => some [2,4,9,10,11]
  | 3 => some [2,4,9,10,11,12]
  | 4 => some [2,4,8,9,10,11]
  | 5 => some [2,4,6,9,10,11]
  | 6 => some [2,4,9,10,11,22]
  | 7 => some [4,5]
  | 8 => some [2,4,9,10,11]
  | 9 => some [4,5]
  | _ => none
def fn116:AFn:={ ntmps:=27,results:=[.cell 4 29,.tmp 5],body:=c116,keep:=kp116,head:=fun | 3 => some [2,4,9,10,11] | _ => none,opn:=opn116,dyn:=fun _ => [] }
def c117:Code :=
  (.seq (.region 0 #[o 1 (.box 35 (.tmp 0)) 0,o 2 (.assign (.const (.slice none 0 0))) 26,o 3 (.assign (ci 0)) 39] false)
 (.seq (.seq (.region 1 #[ld 10 1 35,cl 11 21 #[.tmp 10] #[35] 39,o 4 (.assign (.tmp 11)) 39] false)
 (.seq (.region 2 #[m 12 4 39,o 13 (.binOp .neq 39 (.tmp 12) (ci 0) 39) 4] false)
 (.cond (.tmp 13)
 (.seq (.region 3 #[m 14 4 39,o 2 (.assign (.const (.slice none 0 0))) 26,o 3 (.assign (.tmp 14)) 39] false)
 .ret)
 .skip)))
 (.seq (.region 4 #[o 5 (.alloc 26) 0] false)
 (.seq (.region 5 #[cl 15 150 #[.tmp 1] #[212] 124,cl 16 149 #[.tmp 15] #[124] 124,o 17 (.slice 124 (.tmp 16) (some (ci 1)) none none) 124,o 6 (.assign (.tmp 17)) 124] false)
 (.seq (.region 6 #[m 18 6 124,o 19 (.indexAddr 124 (.tmp 18) (ci 0)) 0,ld 20 19 23,fa 21 35 1 1,o 22 (.indexAddr 33 (.tmp 21) (ci 0)) 0,ld 23 22 23,o 24 (.binOp .mul 23 (.const (.int .u32 40)) (.tmp 23) 23) 23,o 25 (.binOp .add 23 (.tmp 20) (.tmp 24) 23) 23,o 26 (.indexAddr 124 (.tmp 18) (ci 0)) 0,nd (.store 23 (.tmp 26) (.tmp 25))] true)
 (.seq (.seq (.region 7 #[m 27 6 124,o 28 (.call { callee:=.builtin .len,args:=#[.tmp 27],argTypes:=#[124] }) 3,o 29 (.move (ci 0)) 3] false)
 (.block 0 (.loop (.seq (.region 8 #[o 30 (.binOp .lss 3 (.tmp 29) (.tmp 28) 3) 0] false)
 (.seq (.cond (.tmp 30)
 .skip
 (.exit 0))
 (.seq (.block 1 (.seq (.region 9 #[o 31 (.indexAddr 124 (.tmp 27) (.tmp 29)) 0,ld 32 31 23,o 8 (.assign (.tmp 32)) 23] false)
 (.seq (.region 10 #[m 33 8 23,cl 34 151 #[.tmp 33] #[23] 214] false)
 (.block 2 (.refuse "")))))
 (.region 13 #[o 40 (.binOp .add 3 (.tmp 29) (ci 1) 3) 3,m 29 40 3] false)))))))
 (.seq (.region 14 #[ld 41 5 26,cl 42 131 #[.tmp 41] #[26] 26,o 2 (.assign (.tmp 42)) 26,o 3 (.assign (ci 0)) 39] false)
 .ret)))))))
def kp117:Nat → Option (List Nat)
  | 0 => some [1,35]
  | 1 => some [1,4,35]
  | 2 => some [1,4,13,35]
  | 3 => some [2,3]
  | 4 => some [1,5,35]
  | 5 => some [1,5,6,35]
  | 6 => some [5,6,35]
  | 7 => some [5,27,28,29,35]
  | 8 => some [5,27,28,29,30,35]
  | 9 => some [5,8,27,28,29,35]
  | 10 => some [5,27,28,29,34,35]
  | 11 => some [5,9,27,28,29,35]
  | 12 => some [5,27,28,29,35]
  | 13 => some [5,27,28,29,35]
  | 14 => some [2,3]
  | _ => none
def fn117:AFn:={ ntmps:=43,results:=[.tmp 2,.tmp 3],body:=c117,keep:=kp117,head:=fun | 8 => some [5,27,28,29,35] | _ => none,opn:=opnT,dyn:=fun _ => [] }
def c118:Code :=
  (.seq (.region 0 #[o 1 (.box 29 (.tmp 0)) 0,o 2 (.assign (.const (.bool false))) 4] false)
 (.seq (.region 1 #[fa 3 29 1 0,ld 4 3 25,o 5 (.build 25 #[]) 25,o 6 (.binOp .eql 25 (.tmp 4) (.tmp 5) 25) 4,m 7 6 4,gd 8 (.fieldAddr 29 (.tmp 1) 1) 0 7 true,gd 9 (.load 26 (.tmp 8)) 26 7 true,gd 10 (.call { callee:=.builtin .len,args:=#[.tmp 9],argTypes:=#[26] }) 3 7 true,gd 11 (.binOp .eql 3 (.tmp 10) (ci 0) 3) 4 7 true,o 12 (.pick (.tmp 7) (.tmp 11) (.const (.bool false))) 4,m 13 12 4,gd 14 (.fieldAddr 29 (.tmp 1) 2) 0 13 true,gd 15 (.load 27 (.tmp 14)) 27 13 true,gd 16 (.call { callee:=.builtin .len,args:=#[.tmp 15],argTypes:=#[27] }) 3 13 true,gd 17 (.binOp .eql 3 (.tmp 16) (ci 0) 3) 4 13 true,o 18 (.pick (.tmp 13) (.tmp 17) (.const (.bool false))) 4,o 2 (.assign (.tmp 18)) 4] false)
 .ret))
def kp118:Nat → Option (List Nat)
  | 0 => some [1]
  | 1 => some [2]
  | _ => none
def fn118:AFn:={ ntmps:=19,results:=[.tmp 2],body:=c118,keep:=kp118,head:=fun  | _ => none,opn:=fun _ => none,dyn:=fun _ => [] }
def c119:Code :=
  (.seq (.region 0 #[o 2 (.box 29 (.tmp 0)) 0,o 3 (.box 174 (.tmp 1)) 0,o 4 (.assign (ci 0)) 39] false)
 (.seq (.region 1 #[o 5 (.alloc 174) 0] false)
 (.seq (.region 2 #[o 6 (.makeFunc (.func 152) #[] #[.tmp 3,.tmp 5]) 174,nd (.store 174 (.tmp 5) (.tmp 6))] false)
 (.seq (.region 3 #[ld 7 5 174,ld 8 2 29,o 9 (.call { callee:=.value (.tmp 7),args:=#[.tmp 8,.const (.int .i64 1)],argTypes:=#[29,3] }) 39,o 4 (.assign (.tmp 9)) 39] false)
 .ret))))
def kp119:Nat → Option (List Nat)
  | 0 => some [2,3]
  | 1 => some [2,3,5]
  | 2 => some [2,5]
  | 3 => some [4]
  | _ => none
def fn119:AFn:={ ntmps:=10,results:=[.tmp 4],body:=c119,keep:=kp119,head:=fun  | _ => none,opn:=opnT,dyn:=fun _ => [] }
def c120:Code :=
  (.seq (.region 0 #[o 4 (.box 29 (.tmp 0)) 0,o 6 (.assign (ci 0)) 39] false)
 (.seq (.seq (.region 1 #[fa 8 29 4 0,ld 9 8 25,cl 10 121 #[.tmp 9] #[25] 39,o 7 (.assign (.tmp 10)) 39] false)
 (.seq (.region 2 #[m 11 7 39,o 12 (.binOp .neq 39 (.tmp 11) (ci 0) 39) 4] false)
 (.cond (.tmp 12)
 (.seq (.region 3 #[m 13 7 39,o 6 (.assign (.tmp 13)) 39] false)
 .ret)
 .skip)))
 (.seq (.block 0 (.seq (.region 4 #[fa 15 29 4 0,fa 16 25 15 1,ld 17 16 4,m 18 17 4,gd 19 (.fieldAddr 29 (.tmp 4) 1) 0 18 true,gd 20 (.load 26 (.tmp 19)) 26 18 true,gd 21 (.call { callee:=.builtin .len,args:=#[.tmp 20],argTypes:=#[26] }) 3 18 true,gd 22 (.binOp .gtr 3 (.tmp 21) (ci 0) 3) 4 18 true,o 23 (.pick (.tmp 18) (.tmp 22) (.const (.bool false))) 4,m 24 23 4,gd 25 (.fieldAddr 29 (.tmp 4) 0) 0 24 false,gd 26 (.fieldAddr 25 (.tmp 25) 1) 0 24 false,gd 27 (.load 4 (.tmp 26)) 4 24 false,gd 28 (.unOp .not 4 (.tmp 27)) 4 24 false,gd 29 (.move (.tmp 28)) 4 24 false,gd 30 (.fieldAddr 29 (.tmp 4) 2) 0 29 true,gd 31 (.load 27 (.tmp 30)) 27 29 true,gd 32 (.call { callee:=.builtin .len,args:=#[.tmp 31],argTypes:=#[27] }) 3 29 true,gd 33 (.binOp .gtr 3 (.tmp 32) (ci 0) 3) 4 29 true,gd 34 (.pick (.tmp 29) (.tmp 33) (.const (.bool false))) 4 24 false,o 35 (.pick (.tmp 24) (.const (.bool true)) (.tmp 34)) 4,o 14 (.assign (.tmp 35)) 4] false)
 (.cond (.tmp 14)
 (.seq (.region 5 #[o 6 (.assign (ci 1)) 39] false)
 .ret)
 (.seq (.region 6 #[m 37 1 3,o 38 (.binOp .gtr 3 (.tmp 37) (ci 16) 3) 4,o 36 (.assign (.tmp 38)) 4] false)
 (.cond (.tmp 36)
 (.seq (.region 7 #[o 6 (.assign (ci 12)) 39] false)
 .ret)
 (.seq (.region 8 #[ld 40 2 3,o 41 (.binOp .eql 3 (.tmp 40) (ci 8192) 3) 4,o 39 (.assign (.tmp 41)) 4] false)
 (.cond (.tmp 39)
 (.seq (.region 9 #[o 6 (.assign (ci 3)) 39] false)
 .ret)
 .skip)))))))
 (.seq (.region 10 #[ld 42 2 3,o 43 (.binOp .add 3 (.tmp 42) (ci 1) 3) 3,nd (.store 3 (.tmp 2) (.tmp 43))] false)
 (.seq (.region 11 #[ld 44 3 3,m 45 1 3,o 46 (.call { callee:=.builtin .max,args:=#[.tmp 44,.tmp 45],argTypes:=#[3,3] }) 3,nd (.store 3 (.tmp 3) (.tmp 46))] false)
 (.seq (.region 12 #[o 6 (.assign (ci 0)) 39] false)
 .ret))))))
def kp120:Nat → Option (List Nat)
  | 0 => some [1,2,3,4]
  | 1 => some [1,2,3,4,7]
  | 2 => some [1,2,3,4,7,12]
  | 3 => some [6]
  | 4 => some [1,2,3,14]
  | 5 => some [6]
  | 6 => some [1,2,3,36]
  | 7 => some [6]
  | 8 => some [1,2,3,39]
  | 9 => some [6]
  | 10 => some [1,3]
  | 11 => some []
  | 12 => some [6]
  | _ => none
def fn120:AFn:={ ntmps:=47,results:=[.tmp 6],body:=c120,keep:=kp120,head:=fun  | _ => none,opn:=fun _ => none,dyn:=fun _ => [] }
def c121:Code :=
  (.seq (.region 0 #[o 1 (.box 25 (.tmp 0)) 0,o 2 (.assign (ci 0)) 39] false)
 (.seq (.seq (.region 1 #[fa 3 25 1 0,ld 4 3 22,o 5 (.binOp .gtr 22 (.tmp 4) (.const (.int .u8 3)) 22) 4,m 6 5 4,gd 7 (.fieldAddr 25 (.tmp 1) 2) 0 6 false,gd 8 (.load 23 (.tmp 7)) 23 6 false,gd 9 (.binOp .gtr 23 (.tmp 8) (.const (.int .u32 268435455)) 23) 4 6 false,o 10 (.pick (.tmp 6) (.const (.bool true)) (.tmp 9)) 4] false)
 (.cond (.tmp 10)
 (.seq (.region 2 #[o 2 (.assign (ci 1)) 39] false)
 .ret)
 .skip))
 (.seq (.seq (.region 3 #[fa 11 25 1 0,ld 12 11 22,o 13 (.binOp .neq 22 (.tmp 12) (.const (.int .u8 0)) 22) 4] false)
 (.cond (.tmp 13)
 (.seq (.region 4 #[o 2 (.assign (ci 0)) 39] false)
 .ret)
 .skip))
 (.seq (.seq (.region 5 #[fa 14 25 1 2,ld 15 14 23] false)
 (.block 0 (.seq (.region 6 #[o 17 (.binOp .eql 23 (.tmp 15) (.const (.int .u32 0)) 23) 4,o 16 (.assign (.tmp 17)) 4] false)
 (.cond (.tmp 16)
 (.seq (.region 7 #[o 2 (.assign (ci 9)) 39] false)
 .ret)
 (.seq (.seq (.region 8 #[o 19 (.binOp .eql 23 (.tmp 15) (.const (.int .u32 16)) 23) 4,o 18 (.assign (.tmp 19)) 4] false)
 (.cond (.tmp 18)
 .skip
 (.region 9 #[o 20 (.binOp .eql 23 (.tmp 15) (.const (.int .u32 17)) 23) 4,o 18 (.assign (.tmp 20)) 4] false)))
 (.cond (.tmp 18)
 (.seq (.region 10 #[fa 21 25 1 1,ld 22 21 4,o 23 (.unOp .not 4 (.tmp 22)) 4] false)
 (.cond (.tmp 23)
 (.seq (.region 11 #[o 2 (.assign (ci 9)) 39] false)
 .ret)
 .skip))
 .skip))))))
 (.seq (.region 12 #[o 2 (.assign (ci 0)) 39] false)
 .ret)))))
def kp121:Nat → Option (List Nat)
  | 0 => some [1]
  | 1 => some [1,10]
  | 2 => some [2]
  | 3 => some [1,13]
  | 4 => some [2]
  | 5 => some [1,15]
  | 6 => some [1,15,16]
  | 7 => some [2]
  | 8 => some [1,15,18]
  | 9 => some [1,18]
  | 10 => some [23]
  | 11 => some [2]
  | 12 => some [2]
  | _ => none
def fn121:AFn:={ ntmps:=24,results:=[.tmp 2],body:=c121,keep:=kp121,head:=fun  | _ => none,opn:=fun _ => none,dyn:=fun _ => [] }
def c122:Code :=
  (.seq (.region 0 #[o 4 (.assign (ci 0)) 39] false)
 (.seq (.block 0 (.seq (.region 1 #[m 6 1 3,o 7 (.binOp .lss 3 (.tmp 6) (ci 0) 3) 4,o 5 (.assign (.tmp 7)) 4] false)
 (.cond (.tmp 5)
 (.seq (.region 2 #[o 4 (.assign (ci 1)) 39] false)
 .ret)
 (.seq (.region 3 #[m 9 1 3,o 10 (.binOp .gtr 3 (.tmp 9) (ci 524288) 3) 4,o 8 (.assign (.tmp 10)) 4] false)
 (.cond (.tmp 8)
 (.seq (.region 4 #[o 4 (.assign (ci 3)) 39] false)
 .ret)
 (.seq (.region 5 #[m 12 0 26,o 13 (.call { callee:=.builtin .len,args:=#[.tmp 12],argTypes:=#[26] }) 3,m 14 1 3,o 15 (.binOp .add 3 (.tmp 14) (ci 7) 3) 3,o 16 (.binOp .quo 3 (.tmp 15) (ci 8) 3) 3,o 17 (.binOp .neq 3 (.tmp 13) (.tmp 16) 3) 4,m 18 17 4,gd 19 (.move (.tmp 1)) 3 18 false,gd 20 (.binOp .gtr 3 (.tmp 19) (ci 0) 3) 4 18 false,gd 21 (.move (.tmp 20)) 4 18 false,gd 22 (.move (.tmp 0)) 26 21 true,gd 23 (.move (.tmp 0)) 26 21 true,gd 24 (.call { callee:=.builtin .len,args:=#[.tmp 23],argTypes:=#[26] }) 3 21 true,gd 25 (.binOp .sub 3 (.tmp 24) (ci 1) 3) 3 21 true,gd 26 (.indexAddr 26 (.tmp 22) (.tmp 25)) 0 21 true,gd 27 (.load 5 (.tmp 26)) 5 21 true,gd 28 (.move (.tmp 1)) 3 21 true,gd 29 (.call { callee:=.value (.func 124),args:=#[.tmp 28],argTypes:=#[3] }) 3 21 true,gd 30 (.binOp .shl 5 (.const (.int .u8 1)) (.tmp 29) 3) 5 21 true,gd 31 (.binOp .sub 5 (.tmp 30) (.const (.int .u8 1)) 5) 5 21 true,gd 32 (.binOp .and 5 (.tmp 27) (.tmp 31) 5) 5 21 true,gd 33 (.binOp .neq 5 (.tmp 32) (.const (.int .u8 0)) 5) 4 21 true,gd 34 (.pick (.tmp 21) (.tmp 33) (.const (.bool false))) 4 18 false,o 35 (.pick (.tmp 18) (.const (.bool true)) (.tmp 34)) 4,o 11 (.assign (.tmp 35)) 4] true)
 (.cond (.tmp 11)
 (.seq (.region 6 #[o 4 (.assign (ci 1)) 39] false)
 .ret)
 .skip)))))))
 (.seq (.region 7 #[o 4 (.assign (ci 0)) 39] false)
 .ret)))
def kp122:Nat → Option (List Nat)
  | 0 => some [0,1]
  | 1 => some [0,1,5]
  | 2 => some [4]
  | 3 => some [0,1,8]
  | 4 => some [4]
  | 5 => some [11]
  | 6 => some [4]
  | 7 => some [4]
  | _ => none
def fn122:AFn:={ ntmps:=36,results:=[.tmp 4],body:=c122,keep:=kp122,head:=fun  | _ => none,opn:=fun _ => none,dyn:=fun _ => [] }
def c123:Code :=
  (.seq (.region 0 #[o 4 (.assign (.const (.slice none 0 0))) 26] false)
 (.seq (.region 1 #[m 7 0 26,o 8 (.call { callee:=.builtin .len,args:=#[.tmp 7],argTypes:=#[26] }) 3,m 9 1 26,o 10 (.call { callee:=.builtin .len,args:=#[.tmp 9],argTypes:=#[26] }) 3,o 11 (.binOp .add 3 (.tmp 8) (.tmp 10) 3) 3,o 12 (.makeSlice 26 (.tmp 11) (.tmp 11)) 26,o 5 (.assign (.tmp 12)) 26] false)
 (.seq (.region 2 #[m 13 5 26,m 14 0 26,o 15 (.call { callee:=.builtin .copy,args:=#[.tmp 13,.tmp 14],argTypes:=#[26,26] }) 3,o 6 (.assign (.tmp 15)) 3] false)
 (.seq (.region 3 #[m 16 6 3,m 17 5 26,m 18 6 3,o 19 (.slice 26 (.tmp 17) (some (.tmp 18)) none none) 26,m 20 1 26,o 21 (.call { callee:=.builtin .copy,args:=#[.tmp 19,.tmp 20],argTypes:=#[26,26] }) 3,o 22 (.binOp .add 3 (.tmp 16) (.tmp 21) 3) 3,o 6 (.assign (.tmp 22)) 3] false)
 (.seq (.region 4 #[m 23 5 26,m 24 6 3,m 25 6 3,o 26 (.slice 26 (.tmp 23) none (some (.tmp 24)) (some (.tmp 25))) 26,o 4 (.assign (.tmp 26)) 26] false)
 .ret)))))
def kp123:Nat → Option (List Nat)
  | 0 => some [0,1]
  | 1 => some [0,1,5]
  | 2 => some [1,5,6]
  | 3 => some [5,6]
  | 4 => some [4]
  | _ => none
def fn123:AFn:={ ntmps:=27,results:=[.tmp 4],body:=c123,keep:=kp123,head:=fun  | _ => none,opn:=fun _ => none,dyn:=fun _ => [] }
def c124:Code :=
  (.seq (.region 0 #[o 2 (.assign (ci 0)) 3] false)
 (.seq (.region 1 #[m 3 0 3,o 4 (.binOp .rem 3 (.tmp 3) (ci 8) 3) 3,o 5 (.binOp .sub 3 (ci 8) (.tmp 4) 3) 3,o 6 (.binOp .rem 3 (.tmp 5) (ci 8) 3) 3,o 2 (.assign (.tmp 6)) 3] false)
 .ret))
def kp124:Nat → Option (List Nat)
  | 0 => some [0]
  | 1 => some [2]
  | _ => none
def fn124:AFn:={ ntmps:=7,results:=[.tmp 2],body:=c124,keep:=kp124,head:=fun  | _ => none,opn:=fun _ => none,dyn:=fun _ => [] }
def c125:Code :=
  (.seq (.region 0 #[o 1 (.alloc 29) 0,o 2 (.assign (ci 0)) 39] false)
 (.seq (.region 1 #[fa 3 57 0 0,ld 4 3 37,cl 5 19 #[.tmp 4] #[37] 46,o 6 (.extract (.tmp 5) 0) 29,o 7 (.extract (.tmp 5) 1) 39,nd (.store 29 (.tmp 1) (.tmp 6)),o 2 (.assign (.tmp 7)) 39] false)
 .ret))
def kp125:Nat → Option (List Nat)
  | 0 => some [0,1]
  | 1 => some [1,2]
  | _ => none
def fn125:AFn:={ ntmps:=8,results:=[.cell 1 29,.tmp 2],body:=c125,keep:=kp125,head:=fun  | _ => none,opn:=fun _ => none,dyn:=fun _ => [] }
def c126:Code :=
  (.seq (.region 0 #[o 1 (.alloc 29) 0,o 2 (.assign (ci 0)) 39] false)
 (.seq (.region 1 #[fa 3 57 0 1,ld 4 3 26,fa 5 57 0 2,ld 6 5 3,cl 7 25 #[.tmp 4,.tmp 6] #[26,3] 46,o 8 (.extract (.tmp 7) 0) 29,o 9 (.extract (.tmp 7) 1) 39,nd (.store 29 (.tmp 1) (.tmp 8)),o 2 (.assign (.tmp 9)) 39] false)
 .ret))
def kp126:Nat → Option (List Nat)
  | 0 => some [0,1]
  | 1 => some [1,2]
  | _ => none
def fn126:AFn:={ ntmps:=10,results:=[.cell 1 29,.tmp 2],body:=c126,keep:=kp126,head:=fun  | _ => none,opn:=fun _ => none,dyn:=fun _ => [] }
def c127:Code :=
  (.seq (.region 0 #[o 6 (.assign (.const (.slice none 0 0))) 27,o 7 (.assign (ci 0)) 3] false)
 (.seq (.region 1 #[o 8 (.assign (.const (.slice none 0 0))) 27] false)
 (.seq (.block 0 (.loop (.seq (.seq (.region 2 #[m 11 1 3,m 12 0 26,o 13 (.call { callee:=.builtin .len,args:=#[.tmp 12],argTypes:=#[26] }) 3,o 14 (.binOp .lss 3 (.tmp 11) (.tmp 13) 3) 4,m 15 14 4,gd 16 (.move (.tmp 1)) 3 15 true,gd 17 (.binOp .lss 3 (.tmp 16) (ci 40) 3) 4 15 true,o 18 (.pick (.tmp 15) (.tmp 17) (.const (.bool false))) 4] false)
 (.cond (.tmp 18)
 .skip
 (.exit 0)))
 (.block 1 (.seq (.region 3 #[m 19 0 26,m 20 1 3,o 21 (.indexAddr 26 (.tmp 19) (.tmp 20)) 0,ld 22 21 5,o 9 (.assign (.tmp 22)) 5] false)
 (.seq (.region 4 #[m 23 1 3,o 24 (.binOp .add 3 (.tmp 23) (ci 1) 3) 3,o 1 (.assign (.tmp 24)) 3] false)
 (.seq (.seq (.region 5 #[m 25 9 5,o 26 (.binOp .rem 5 (.tmp 25) (.const (.int .u8 16)) 5) 5,o 27 (.binOp .eql 5 (.tmp 26) (.const (.int .u8 15)) 5) 4] false)
 (.cond (.tmp 27)
 (.seq (.region 6 #[m 28 8 27,m 29 1 3,o 6 (.assign (.tmp 28)) 27,o 7 (.assign (.tmp 29)) 3] false)
 .ret)
 .skip))
 (.seq (.region 7 #[m 30 9 5,cl 31 128 #[.tmp 30] #[5] 25,o 32 (.build 29 #[(0,.tmp 31)]) 29,o 10 (.alloc 29) 0,nd (.store 29 (.tmp 10) (.tmp 32))] false)
 (.seq (.seq (.region 8 #[fa 33 29 10 0,fa 34 25 33 1,ld 35 34 4] false)
 (.cond (.tmp 35)
 (.seq (.seq (.region 9 #[m 36 2 3,o 37 (.binOp .eql 3 (.tmp 36) (ci 5) 3) 4] false)
 (.cond (.tmp 37)
 (.exit 1)
 .skip))
 (.region 10 #[m 39 0 26,m 40 1 3,m 41 2 3,o 42 (.binOp .add 3 (.tmp 41) (ci 1) 3) 3,cl 43 127 #[.tmp 39,.tmp 40,.tmp 42] #[26,3,3] 180,m 38 43 180,o 44 (.extract (.tmp 38) 0) 27,o 45 (.extract (.tmp 38) 1) 3,fa 46 29 10 2,nd (.store 27 (.tmp 46) (.tmp 44)),o 1 (.assign (.tmp 45)) 3] false))
 (.seq (.region 11 #[fa 47 29 10 0,fa 48 25 47 0,ld 49 48 22,o 50 (.binOp .eql 22 (.tmp 49) (.const (.int .u8 0)) 22) 4,m 51 50 4,gd 52 (.fieldAddr 29 (.tmp 10) 0) 0 51 true,gd 53 (.fieldAddr 25 (.tmp 52) 2) 0 51 true,gd 54 (.load 23 (.tmp 53)) 23 51 true,gd 55 (.binOp .eql 23 (.tmp 54) (.const (.int .u32 1)) 23) 4 51 true,o 56 (.pick (.tmp 51) (.tmp 55) (.const (.bool false))) 4] false)
 (.cond (.tmp 56)
 (.region 12 #[⟨some 57,.buildSlice 26 1 #[(0,.const (.int .u8 255))],26, "",fz,none⟩,fa 58 29 10 1,nd (.store 26 (.tmp 58) (.tmp 57))] false)
 (.seq (.region 13 #[fa 59 29 10 0,fa 60 25 59 0,ld 61 60 22,o 62 (.binOp .eql 22 (.tmp 61) (.const (.int .u8 0)) 22) 4,m 63 62 4,gd 64 (.fieldAddr 29 (.tmp 10) 0) 0 63 true,gd 65 (.fieldAddr 25 (.tmp 64) 2) 0 63 true,gd 66 (.load 23 (.tmp 65)) 23 63 true,gd 67 (.binOp .eql 23 (.tmp 66) (.const (.int .u32 2)) 23) 4 63 true,o 68 (.pick (.tmp 63) (.tmp 67) (.const (.bool false))) 4] false)
 (.cond (.tmp 68)
 (.region 14 #[m 69 9 5,o 70 (.binOp .quo 5 (.tmp 69) (.const (.int .u8 8)) 5) 5,⟨some 71,.buildSlice 26 1 #[(0,.tmp 70)],26, "",fz,none⟩,fa 72 29 10 1,nd (.store 26 (.tmp 72) (.tmp 71))] false)
 (.region 15 #[m 73 9 5,o 74 (.convert 5 3 (.tmp 73)) 3,m 75 9 5,o 76 (.binOp .quo 5 (.tmp 75) (.const (.int .u8 64)) 5) 5,o 77 (.convert 5 3 (.tmp 76)) 3,o 78 (.binOp .mul 3 (.tmp 74) (.tmp 77) 3) 3,⟨some 79,.makeSlice 26 (.tmp 78) (.tmp 78),26, "",fz,none⟩,fa 80 29 10 1,nd (.store 26 (.tmp 80) (.tmp 79))] false)))))))
 (.region 16 #[m 81 8 27,ld 82 10 29,o 83 (.buildSlice 27 1 #[(0,.tmp 82)]) 27,o 84 (.call { callee:=.builtin .append,args:=#[.tmp 81,.tmp 83],argTypes:=#[27,27] }) 27,o 8 (.assign (.tmp 84)) 27] false))))))))))
 (.seq (.region 17 #[m 85 8 27,m 86 1 3,o 6 (.assign (.tmp 85)) 27,o 7 (.assign (.tmp 86)) 3] false)
 .ret))))
def kp127:Nat → Option (List Nat)
  | 0 => some [0,1,2]
  | 1 => some [0,1,2,8]
  | 2 => some [0,1,2,8,18]
  | 3 => some [0,1,2,8,9]
  | 4 => some [0,1,2,8,9]
  | 5 => some [0,1,2,8,9,27]
  | 6 => some [6,7]
  | 7 => some [0,1,2,8,9,10]
  | 8 => some [0,1,2,8,9,10,35]
  | 9 => some [0,1,2,8,10,37]
  | 10 => some [0,1,2,8,10]
  | 11 => some [0,1,2,8,9,10,56]
  | 12 => some [0,1,2,8,10]
  | 13 => some [0,1,2,8,9,10,68]
  | 14 => some [0,1,2,8,10]
  | 15 => some [0,1,2,8,10]
  | 16 => some [0,1,2,8]
  | 17 => some [6,7]
  | _ => none
def fn127:AFn:={ ntmps:=87,results:=[.tmp 6,.tmp 7],body:=c127,keep:=kp127,head:=fun | 2 => some [0,1,2,8] | _ => none,opn:=fun _ => none,dyn:=fun | 1000000 => [(57,0),(71,0),(79,0)] | _ => [] }
def c128:Code :=
  (.seq (.region 0 #[o 2 (.alloc 25) 0] false)
 (.seq (.seq (.region 1 #[m 3 0 5,o 4 (.binOp .rem 5 (.tmp 3) (.const (.int .u8 8)) 5) 5] false)
 (.block 0 (.seq (.region 2 #[o 6 (.binOp .eql 5 (.tmp 4) (.const (.int .u8 0)) 5) 4,o 5 (.assign (.tmp 6)) 4] false)
 (.cond (.tmp 5)
 (.seq (.region 3 #[o 7 (.build 25 #[(1,.const (.bool true)),(2,.const (.int .u32 16))]) 25,nd (.store 25 (.tmp 2) (.tmp 7))] false)
 .ret)
 (.seq (.region 4 #[o 9 (.binOp .eql 5 (.tmp 4) (.const (.int .u8 1)) 5) 4,o 8 (.assign (.tmp 9)) 4] false)
 (.cond (.tmp 8)
 (.seq (.region 5 #[o 10 (.build 25 #[(1,.const (.bool true)),(2,.const (.int .u32 17))]) 25,nd (.store 25 (.tmp 2) (.tmp 10))] false)
 .ret)
 (.seq (.region 6 #[o 12 (.binOp .eql 5 (.tmp 4) (.const (.int .u8 2)) 5) 4,o 11 (.assign (.tmp 12)) 4] false)
 (.cond (.tmp 11)
 (.seq (.region 7 #[m 13 0 5,o 14 (.binOp .quo 5 (.tmp 13) (.const (.int .u8 8)) 5) 5,o 15 (.binOp .rem 5 (.tmp 14) (.const (.int .u8 4)) 5) 5,o 16 (.convert 5 23 (.tmp 15)) 23,o 17 (.binOp .mul 23 (.tmp 16) (.const (.int .u32 12)) 23) 23,o 18 (.build 25 #[(0,.const (.int .u8 2)),(1,.const (.bool true)),(2,.tmp 17)]) 25,nd (.store 25 (.tmp 2) (.tmp 18))] false)
 .ret)
 (.seq (.region 8 #[o 20 (.binOp .eql 5 (.tmp 4) (.const (.int .u8 3)) 5) 4,o 19 (.assign (.tmp 20)) 4] false)
 (.cond (.tmp 19)
 (.seq (.region 9 #[m 21 0 5,o 22 (.binOp .quo 5 (.tmp 21) (.const (.int .u8 8)) 5) 5,o 23 (.binOp .rem 5 (.tmp 22) (.const (.int .u8 4)) 5) 5,o 24 (.convert 5 23 (.tmp 23)) 23,o 25 (.build 25 #[(0,.const (.int .u8 2)),(2,.tmp 24)]) 25,nd (.store 25 (.tmp 2) (.tmp 25))] false)
 .ret)
 (.seq (.region 10 #[o 27 (.binOp .eql 5 (.tmp 4) (.const (.int .u8 4)) 5) 4,o 26 (.assign (.tmp 27)) 4] false)
 (.cond (.tmp 26)
 (.seq (.region 11 #[o 28 (.build 25 #[(2,.const (.int .u32 1))]) 25,nd (.store 25 (.tmp 2) (.tmp 28))] false)
 .ret)
 (.seq (.region 12 #[o 30 (.binOp .eql 5 (.tmp 4) (.const (.int .u8 5)) 5) 4,o 29 (.assign (.tmp 30)) 4] false)
 (.cond (.tmp 29)
 (.seq (.region 13 #[o 31 (.build 25 #[(2,.const (.int .u32 4))]) 25,nd (.store 25 (.tmp 2) (.tmp 31))] false)
 .ret)
 .skip))))))))))))))
 (.seq (.region 14 #[o 32 (.build 25 #[(2,.const (.int .u32 2))]) 25,nd (.store 25 (.tmp 2) (.tmp 32))] false)
 .ret)))
def kp128:Nat → Option (List Nat)
  | 0 => some [0,2]
  | 1 => some [0,2,4]
  | 2 => some [0,2,4,5]
  | 3 => some [2]
  | 4 => some [0,2,4,8]
  | 5 => some [2]
  | 6 => some [0,2,4,11]
  | 7 => some [2]
  | 8 => some [0,2,4,19]
  | 9 => some [2]
  | 10 => some [2,4,26]
  | 11 => some [2]
  | 12 => some [2,29]
  | 13 => some [2]
  | 14 => some [2]
  | _ => none
def fn128:AFn:={ ntmps:=33,results:=[.cell 2 25],body:=c128,keep:=kp128,head:=fun  | _ => none,opn:=fun _ => none,dyn:=fun _ => [] }
def c131:Code :=
  (.seq (.region 0 #[o 2 (.assign (.const (.slice none 0 0))) 26] false)
 (.seq (.region 1 #[m 3 0 26,m 4 0 26,o 5 (.call { callee:=.builtin .len,args:=#[.tmp 4],argTypes:=#[26] }) 3,m 6 0 26,o 7 (.call { callee:=.builtin .len,args:=#[.tmp 6],argTypes:=#[26] }) 3,o 8 (.slice 26 (.tmp 3) none (some (.tmp 5)) (some (.tmp 7))) 26,o 2 (.assign (.tmp 8)) 26] false)
 .ret))
def kp131:Nat → Option (List Nat)
  | 0 => some [0]
  | 1 => some [2]
  | _ => none
def fn131:AFn:={ ntmps:=9,results:=[.tmp 2],body:=c131,keep:=kp131,head:=fun  | _ => none,opn:=fun _ => none,dyn:=fun _ => [] }
def c147:Code :=
  (.seq (.region 0 #[o 2 (.box 29 (.tmp 0)) 0,o 4 (.alloc 29) 0,o 5 (.assign (.const (.bool false))) 4] false)
 (.seq (.seq (.region 1 #[m 6 1 3,o 7 (.binOp .lss 3 (.tmp 6) (ci 0) 3) 4,m 8 7 4,gd 9 (.move (.tmp 1)) 3 8 false,gd 10 (.fieldAddr 29 (.tmp 2) 2) 0 8 false,gd 11 (.load 27 (.tmp 10)) 27 8 false,gd 12 (.call { callee:=.builtin .len,args:=#[.tmp 11],argTypes:=#[27] }) 3 8 false,gd 13 (.binOp .geq 3 (.tmp 9) (.tmp 12) 3) 4 8 false,o 14 (.pick (.tmp 8) (.const (.bool true)) (.tmp 13)) 4] false)
 (.cond (.tmp 14)
 (.seq (.region 2 #[o 15 (.build 29 #[]) 29,nd (.store 29 (.tmp 4) (.tmp 15)),o 5 (.assign (.const (.bool false))) 4] false)
 .ret)
 .skip))
 (.seq (.region 3 #[fa 16 29 2 2,ld 17 16 27,m 18 1 3,o 19 (.indexAddr 27 (.tmp 17) (.tmp 18)) 0,ld 20 19 29,nd (.store 29 (.tmp 4) (.tmp 20)),o 5 (.assign (.const (.bool true))) 4] false)
 .ret)))
def kp147:Nat → Option (List Nat)
  | 0 => some [1,2,4]
  | 1 => some [1,2,4,14]
  | 2 => some [4,5]
  | 3 => some [4,5]
  | _ => none
def fn147:AFn:={ ntmps:=21,results:=[.cell 4 29,.tmp 5],body:=c147,keep:=kp147,head:=fun  | _ => none,opn:=fun _ => none,dyn:=fun _ => [] }
def c148:Code :=
  (.seq (.region 0 #[o 1 (.box 29 (.tmp 0)) 0,o 2 (.alloc 29) 0] false)
 (.seq (.region 1 #[fa 6 29 1 1,ld 7 6 26,cl 8 165 #[.tmp 7] #[26] 26,cl 9 131 #[.tmp 8] #[26] 26,fa 10 29 1 1,nd (.store 26 (.tmp 10) (.tmp 9))] false)
 (.seq (.region 2 #[fa 11 29 1 2,ld 12 11 27,o 13 (.call { callee:=.builtin .len,args:=#[.tmp 12],argTypes:=#[27] }) 3,o 14 (.makeSlice 27 (.tmp 13) (.tmp 13)) 27,o 3 (.assign (.tmp 14)) 27] false)
 (.seq (.seq (.region 3 #[fa 15 29 1 2,ld 16 15 27,o 17 (.call { callee:=.builtin .len,args:=#[.tmp 16],argTypes:=#[27] }) 3,o 18 (.move (ci 0)) 3] false)
 (.block 0 (.loop (.seq (.region 4 #[o 19 (.binOp .lss 3 (.tmp 18) (.tmp 17) 3) 0] false)
 (.seq (.cond (.tmp 19)
 .skip
 (.exit 0))
 (.seq (.block 1 (.seq (.region 5 #[m 20 18 3,o 21 (.indexAddr 27 (.tmp 16) (.tmp 18)) 0,ld 22 21 29,o 5 (.alloc 29) 0,o 4 (.assign (.tmp 20)) 3,nd (.store 29 (.tmp 5) (.tmp 22))] false)
 (.region 6 #[m 23 3 27,m 24 4 3,ld 25 5 29,cl 26 148 #[.tmp 25] #[29] 29,o 27 (.indexAddr 27 (.tmp 23) (.tmp 24)) 0,nd (.store 29 (.tmp 27) (.tmp 26))] false)))
 (.region 7 #[o 28 (.binOp .add 3 (.tmp 18) (ci 1) 3) 3,m 18 28 3] false)))))))
 (.seq (.region 8 #[m 29 3 27,fa 30 29 1 2,nd (.store 27 (.tmp 30) (.tmp 29))] false)
 (.seq (.region 9 #[ld 31 1 29,nd (.store 29 (.tmp 2) (.tmp 31))] false)
 .ret))))))
def kp148:Nat → Option (List Nat)
  | 0 => some [1,2]
  | 1 => some [1,2]
  | 2 => some [1,2,3]
  | 3 => some [1,2,3,16,17,18]
  | 4 => some [1,2,3,16,17,18,19]
  | 5 => some [1,2,3,4,5,16,17,18]
  | 6 => some [1,2,3,16,17,18]
  | 7 => some [1,2,3,16,17,18]
  | 8 => some [1,2]
  | 9 => some [2]
  | _ => none
def fn148:AFn:={ ntmps:=32,results:=[.cell 2 29],body:=c148,keep:=kp148,head:=fun | 4 => some [1,2,3,16,17,18] | _ => none,opn:=opn148,dyn:=fun _ => [] }
def c149:Code :=
  (.seq (.region 0 #[o 2 (.assign (.const (.slice none 0 0))) 124] false)
 (.seq (.seq (.region 1 #[m 3 0 124,o 4 (.binOp .eql 124 (.tmp 3) (.const (.slice none 0 0)) 124) 4] false)
 (.cond (.tmp 4)
 (.seq (.region 2 #[o 2 (.assign (.const (.slice none 0 0))) 124] false)
 .ret)
 .skip))
 (.seq (.region 3 #[o 5 (.buildSlice 124 0 #[]) 124,m 6 0 124,o 7 (.call { callee:=.builtin .append,args:=#[.tmp 5,.tmp 6],argTypes:=#[124,124] }) 124,o 2 (.assign (.tmp 7)) 124] false)
 .ret)))
def kp149:Nat → Option (List Nat)
  | 0 => some [0]
  | 1 => some [0,4]
  | 2 => some [2]
  | 3 => some [2]
  | _ => none
def fn149:AFn:={ ntmps:=8,results:=[.tmp 2],body:=c149,keep:=kp149,head:=fun  | _ => none,opn:=fun _ => none,dyn:=fun _ => [] }
def c150:Code :=
  (.seq (.region 0 #[o 2 (.assign (.const (.slice none 0 0))) 124] false)
 (.seq (.region 1 #[m 3 0 212,o 4 (.nilCheck (.tmp 3)) 0,fa 5 35 4 1,m 6 0 212,o 7 (.nilCheck (.tmp 6)) 0,fa 8 35 7 0,ld 9 8 5,o 10 (.convert 5 3 (.tmp 9)) 3,o 11 (.call { callee:=.builtin .min,args:=#[.tmp 10,.const (.int .i64 16)],argTypes:=#[3,3] }) 3,o 12 (.slice 33 (.tmp 5) none (some (.tmp 11)) none) 124,o 2 (.assign (.tmp 12)) 124] true)
 .ret))
def kp150:Nat → Option (List Nat)
  | 0 => some [0]
  | 1 => some [2]
  | _ => none
def fn150:AFn:={ ntmps:=13,results:=[.tmp 2],body:=c150,keep:=kp150,head:=fun  | _ => none,opn:=fun _ => none,dyn:=fun _ => [] }
def c151:Code :=
  (.seq (.region 0 #[o 1 (.box 23 (.tmp 0)) 0,o 2 (.assign (.const .nilFunc)) 214] false)
 (.seq (.region 1 #[o 3 (.makeFunc (.func 166) #[] #[.tmp 1]) 213,o 2 (.assign (.tmp 3)) 214] false)
 .ret))
def kp151:Nat → Option (List Nat)
  | 0 => some [1]
  | 1 => some [2]
  | _ => none
def fn151:AFn:={ ntmps:=4,results:=[.tmp 2],body:=c151,keep:=kp151,head:=fun  | _ => none,opn:=fun _ => none,dyn:=fun _ => [] }
def c152:Code :=
  (.seq (.region 0 #[o 4 (.box 29 (.tmp 0)) 0,o 6 (.assign (ci 0)) 39] false)
 (.seq (.seq (.region 1 #[ld 11 2 174,ld 12 4 29,m 13 1 3,o 14 (.call { callee:=.value (.tmp 11),args:=#[.tmp 12,.tmp 13],argTypes:=#[29,3] }) 39,o 7 (.assign (.tmp 14)) 39] false)
 (.seq (.region 2 #[m 15 7 39,o 16 (.binOp .neq 39 (.tmp 15) (ci 0) 39) 4] false)
 (.cond (.tmp 16)
 (.seq (.region 3 #[m 17 7 39,o 6 (.assign (.tmp 17)) 39] false)
 .ret)
 .skip)))
 (.seq (.seq (.region 4 #[fa 18 29 4 2,ld 19 18 27,o 20 (.call { callee:=.builtin .len,args:=#[.tmp 19],argTypes:=#[27] }) 3,o 21 (.move (ci 0)) 3] false)
 (.block 0 (.loop (.seq (.region 5 #[o 22 (.binOp .lss 3 (.tmp 21) (.tmp 20) 3) 0] false)
 (.seq (.cond (.tmp 22)
 .skip
 (.exit 0))
 (.seq (.block 1 (.seq (.region 6 #[o 23 (.indexAddr 27 (.tmp 19) (.tmp 21)) 0,ld 24 23 29,o 9 (.alloc 29) 0,nd (.store 29 (.tmp 9) (.tmp 24))] false)
 (.seq (.region 7 #[ld 25 3 174,ld 26 9 29,m 27 1 3,o 28 (.binOp .add 3 (.tmp 27) (ci 1) 3) 3,o 29 (.call { callee:=.value (.tmp 25),args:=#[.tmp 26,.tmp 28],argTypes:=#[29,3] }) 39,o 10 (.assign (.tmp 29)) 39] false)
 (.seq (.region 8 #[m 30 10 39,o 31 (.binOp .neq 39 (.tmp 30) (ci 0) 39) 4] false)
 (.cond (.tmp 31)
 (.seq (.region 9 #[m 32 10 39,o 6 (.assign (.tmp 32)) 39] false)
 .ret)
 .skip)))))
 (.region 10 #[o 33 (.binOp .add 3 (.tmp 21) (ci 1) 3) 3,m 21 33 3] false)))))))
 (.seq (.region 11 #[o 6 (.assign (ci 0)) 39] false)
 .ret))))
def kp152:Nat → Option (List Nat)
  | 0 => some [1,2,3,4]
  | 1 => some [1,3,4,7]
  | 2 => some [1,3,4,7,16]
  | 3 => some [6]
  | 4 => some [1,3,19,20,21]
  | 5 => some [1,3,19,20,21,22]
  | 6 => some [1,3,9,19,20,21]
  | 7 => some [1,3,10,19,20,21]
  | 8 => some [1,3,10,19,20,21,31]
  | 9 => some [6]
  | 10 => some [1,3,19,20,21]
  | 11 => some [6]
  | _ => none
def fn152:AFn:={ ntmps:=34,results:=[.tmp 6],body:=c152,keep:=kp152,head:=fun | 5 => some [1,3,19,20,21] | _ => none,opn:=opnT,dyn:=fun _ => [] }
def c154:Code :=
  (.seq (.region 0 #[o 2 (.assign (ci 0)) 3,o 3 (.assign (ci 0)) 3,o 4 (.assign (ci 0)) 39] false)
 (.seq (.seq (.region 1 #[m 7 0 26,o 8 (.call { callee:=.builtin .len,args:=#[.tmp 7],argTypes:=#[26] }) 3,o 9 (.binOp .eql 3 (.tmp 8) (ci 0) 3) 4] false)
 (.cond (.tmp 9)
 (.seq (.region 2 #[o 2 (.assign (ci 0)) 3,o 3 (.assign (ci 0)) 3,o 4 (.assign (ci 7)) 39] false)
 .ret)
 .skip))
 (.seq (.seq (.region 3 #[m 10 0 26,o 11 (.indexAddr 26 (.tmp 10) (ci 0)) 0,ld 12 11 5,o 13 (.binOp .leq 5 (.tmp 12) (.const (.int .u8 127)) 5) 4] false)
 (.cond (.tmp 13)
 (.seq (.region 4 #[m 14 0 26,o 15 (.indexAddr 26 (.tmp 14) (ci 0)) 0,ld 16 15 5,o 17 (.convert 5 3 (.tmp 16)) 3,o 2 (.assign (.tmp 17)) 3,o 3 (.assign (ci 1)) 3,o 4 (.assign (ci 0)) 39] false)
 .ret)
 .skip))
 (.seq (.region 5 #[o 5 (.alloc 230) 0] false)
 (.seq (.region 6 #[m 18 0 26,o 19 (.indexAddr 26 (.tmp 18) (ci 0)) 0,ld 20 19 5,o 21 (.convert 5 3 (.tmp 20)) 3,o 22 (.binOp .sub 3 (.tmp 21) (ci 128) 3) 3,o 6 (.assign (.tmp 22)) 3] false)
 (.seq (.block 0 (.seq (.region 7 #[m 24 6 3,o 25 (.binOp .eql 3 (.tmp 24) (ci 0) 3) 4,m 26 25 4,gd 27 (.move (.tmp 6)) 3 26 false,gd 28 (.binOp .gtr 3 (.tmp 27) (ci 3) 3) 4 26 false,o 29 (.pick (.tmp 26) (.const (.bool true)) (.tmp 28)) 4,o 23 (.assign (.tmp 29)) 4] false)
 (.cond (.tmp 23)
 (.seq (.region 8 #[o 2 (.assign (ci 0)) 3,o 3 (.assign (ci 0)) 3,o 4 (.assign (ci 10)) 39] false)
 .ret)
 (.seq (.region 9 #[m 31 0 26,o 32 (.call { callee:=.builtin .len,args:=#[.tmp 31],argTypes:=#[26] }) 3,m 33 6 3,o 34 (.binOp .leq 3 (.tmp 32) (.tmp 33) 3) 4,o 30 (.assign (.tmp 34)) 4] false)
 (.cond (.tmp 30)
 (.seq (.region 10 #[o 2 (.assign (ci 0)) 3,o 3 (.assign (ci 0)) 3,o 4 (.assign (ci 7)) 39] false)
 .ret)
 .skip)))))
 (.seq (.region 11 #[m 35 6 3,o 36 (.binOp .sub 3 (ci 3) (.tmp 35) 3) 3,o 37 (.slice 230 (.tmp 5) (some (.tmp 36)) none none) 26,m 38 0 26,o 39 (.slice 26 (.tmp 38) (some (ci 1)) none none) 26,o 40 (.call { callee:=.builtin .copy,args:=#[.tmp 37,.tmp 39],argTypes:=#[26,26] }) 3] true)
 (.seq (.region 12 #[o 41 (.indexAddr 230 (.tmp 5) (ci 0)) 0,ld 42 41 5,o 43 (.convert 5 3 (.tmp 42)) 3,o 44 (.binOp .shl 3 (.tmp 43) (.const (.int .u64 16)) 168) 3,o 45 (.indexAddr 230 (.tmp 5) (ci 1)) 0,ld 46 45 5,o 47 (.convert 5 3 (.tmp 46)) 3,o 48 (.binOp .shl 3 (.tmp 47) (.const (.int .u64 8)) 168) 3,o 49 (.binOp .or 3 (.tmp 44) (.tmp 48) 3) 3,o 50 (.indexAddr 230 (.tmp 5) (ci 2)) 0,ld 51 50 5,o 52 (.convert 5 3 (.tmp 51)) 3,o 53 (.binOp .or 3 (.tmp 49) (.tmp 52) 3) 3,o 2 (.assign (.tmp 53)) 3] false)
 (.seq (.seq (.region 13 #[m 54 0 26,o 55 (.indexAddr 26 (.tmp 54) (ci 1)) 0,ld 56 55 5,o 57 (.binOp .eql 5 (.tmp 56) (.const (.int .u8 0)) 5) 4,m 58 57 4,gd 59 (.move (.tmp 2)) 3 58 false,gd 60 (.binOp .leq 3 (.tmp 59) (ci 127) 3) 4 58 false,o 61 (.pick (.tmp 58) (.const (.bool true)) (.tmp 60)) 4] false)
 (.cond (.tmp 61)
 (.seq (.region 14 #[o 2 (.assign (ci 0)) 3,o 3 (.assign (ci 0)) 3,o 4 (.assign (ci 10)) 39] false)
 .ret)
 .skip))
 (.seq (.region 15 #[m 62 2 3,m 63 6 3,o 64 (.binOp .add 3 (.tmp 63) (ci 1) 3) 3,o 2 (.assign (.tmp 62)) 3,o 3 (.assign (.tmp 64)) 3,o 4 (.assign (ci 0)) 39] false)
 .ret))))))))))
def kp154:Nat → Option (List Nat)
  | 0 => some [0]
  | 1 => some [0,9]
  | 2 => some [2,3,4]
  | 3 => some [0,13]
  | 4 => some [2,3,4]
  | 5 => some [0,5]
  | 6 => some [0,5,6]
  | 7 => some [0,5,6,23]
  | 8 => some [2,3,4]
  | 9 => some [0,5,6,30]
  | 10 => some [2,3,4]
  | 11 => some [0,5,6]
  | 12 => some [0,2,6]
  | 13 => some [2,6,61]
  | 14 => some [2,3,4]
  | 15 => some [2,3,4]
  | _ => none
def fn154:AFn:={ ntmps:=65,results:=[.tmp 2,.tmp 3,.tmp 4],body:=c154,keep:=kp154,head:=fun  | _ => none,opn:=fun _ => none,dyn:=fun _ => [] }
def c157:Code :=
  (.seq (.region 0 #[o 4 (.assign (ci 0)) 3] false)
 (.seq (.seq (.region 1 #[m 5 0 3,o 6 (.binOp .lss 3 (.tmp 5) (ci 1) 3) 4,m 7 6 4,gd 8 (.move (.tmp 0)) 3 7 false,gd 9 (.binOp .gtr 3 (.tmp 8) (ci 5) 3) 4 7 false,o 10 (.pick (.tmp 7) (.const (.bool true)) (.tmp 9)) 4,m 11 10 4,gd 12 (.move (.tmp 1)) 3 11 false,gd 13 (.call { callee:=.value (.func 168),args:=#[.tmp 12],argTypes:=#[3] }) 3 11 false,gd 14 (.binOp .eql 3 (.tmp 13) (ci 0) 3) 4 11 false,o 15 (.pick (.tmp 11) (.const (.bool true)) (.tmp 14)) 4] false)
 (.cond (.tmp 15)
 (.seq (.region 2 #[o 4 (.assign (ci 0)) 3] false)
 .ret)
 .skip))
 (.seq (.region 3 #[m 16 0 3,m 17 1 3,cl 18 168 #[.tmp 17] #[3] 3,o 19 (.binOp .add 3 (.tmp 16) (.tmp 18) 3) 3,m 20 1 3,o 21 (.binOp .add 3 (.tmp 19) (.tmp 20) 3) 3,o 4 (.assign (.tmp 21)) 3] false)
 .ret)))
def kp157:Nat → Option (List Nat)
  | 0 => some [0,1]
  | 1 => some [0,1,15]
  | 2 => some [4]
  | 3 => some [4]
  | _ => none
def fn157:AFn:={ ntmps:=22,results:=[.tmp 4],body:=c157,keep:=kp157,head:=fun  | _ => none,opn:=fun _ => none,dyn:=fun _ => [] }
def c159:Code :=
  (.seq (.region 0 #[o 1 (.box 25 (.tmp 0)) 0,o 2 (.assign (.const (.slice none 0 0))) 26,o 3 (.assign (ci 0)) 39] false)
 (.seq (.seq (.region 1 #[ld 8 1 25,cl 9 121 #[.tmp 8] #[25] 39,o 4 (.assign (.tmp 9)) 39] false)
 (.seq (.region 2 #[m 10 4 39,o 11 (.binOp .neq 39 (.tmp 10) (ci 0) 39) 4] false)
 (.cond (.tmp 11)
 (.seq (.region 3 #[m 12 4 39,o 2 (.assign (.const (.slice none 0 0))) 26,o 3 (.assign (.tmp 12)) 39] false)
 .ret)
 .skip)))
 (.seq (.region 4 #[fa 13 25 1 0,ld 14 13 22,o 15 (.binOp .shl 5 (.tmp 14) (.const (.int .u64 6)) 168) 5,o 5 (.assign (.tmp 15)) 5] false)
 (.seq (.seq (.region 5 #[fa 16 25 1 1,ld 17 16 4] false)
 (.cond (.tmp 17)
 (.region 6 #[m 18 5 5,o 19 (.binOp .or 5 (.tmp 18) (.const (.int .u8 32)) 5) 5,o 5 (.assign (.tmp 19)) 5] false)
 .skip))
 (.seq (.seq (.region 7 #[fa 20 25 1 2,ld 21 20 23,o 22 (.binOp .lss 23 (.tmp 21) (.const (.int .u32 31)) 23) 4] false)
 (.cond (.tmp 22)
 (.seq (.region 8 #[m 23 5 5,fa 24 25 1 2,ld 25 24 23,o 26 (.convert 23 5 (.tmp 25)) 5,o 27 (.binOp .or 5 (.tmp 23) (.tmp 26) 5) 5,o 28 (.buildSlice 26 1 #[(0,.tmp 27)]) 26,o 2 (.assign (.tmp 28)) 26,o 3 (.assign (ci 0)) 39] false)
 .ret)
 .skip))
 (.seq (.region 9 #[m 29 5 5,o 30 (.binOp .or 5 (.tmp 29) (.const (.int .u8 31)) 5) 5,o 31 (.buildSlice 26 1 #[(0,.tmp 30)]) 26,o 6 (.alloc 26) 0,nd (.store 26 (.tmp 6) (.tmp 31))] false)
 (.seq (.seq (.region 10 #[fa 32 25 1 2,ld 33 32 23,cl 34 169 #[.tmp 33] #[23] 214] false)
 (.block 0 (.refuse "")))
 (.seq (.region 13 #[ld 40 6 26,cl 41 131 #[.tmp 40] #[26] 26,o 2 (.assign (.tmp 41)) 26,o 3 (.assign (ci 0)) 39] false)
 .ret))))))))
def kp159:Nat → Option (List Nat)
  | 0 => some [1,35]
  | 1 => some [1,4,35]
  | 2 => some [1,4,11,35]
  | 3 => some [2,3]
  | 4 => some [1,5,35]
  | 5 => some [1,5,17,35]
  | 6 => some [1,5,35]
  | 7 => some [1,5,22,35]
  | 8 => some [2,3]
  | 9 => some [1,6,35]
  | 10 => some [6,34,35]
  | 11 => some [6,7,35]
  | 12 => some [6,35]
  | 13 => some [2,3]
  | _ => none
def fn159:AFn:={ ntmps:=42,results:=[.tmp 2,.tmp 3],body:=c159,keep:=kp159,head:=fun  | _ => none,opn:=fun _ => none,dyn:=fun _ => [] }
def c160:Code :=
  (.seq (.region 0 #[o 2 (.assign (.const (.slice none 0 0))) 26,o 3 (.assign (ci 0)) 39] false)
 (.seq (.block 0 (.seq (.region 1 #[m 6 0 3,o 7 (.binOp .lss 3 (.tmp 6) (ci 0) 3) 4,o 5 (.assign (.tmp 7)) 4] false)
 (.cond (.tmp 5)
 (.seq (.region 2 #[o 2 (.assign (.const (.slice none 0 0))) 26,o 3 (.assign (ci 1)) 39] false)
 .ret)
 (.seq (.region 3 #[m 9 0 3,o 10 (.binOp .gtr 3 (.tmp 9) (ci 16777215) 3) 4,o 8 (.assign (.tmp 10)) 4] false)
 (.cond (.tmp 8)
 (.seq (.region 4 #[o 2 (.assign (.const (.slice none 0 0))) 26,o 3 (.assign (ci 3)) 39] false)
 .ret)
 (.seq (.region 5 #[m 12 0 3,o 13 (.binOp .leq 3 (.tmp 12) (ci 127) 3) 4,o 11 (.assign (.tmp 13)) 4] false)
 (.cond (.tmp 11)
 (.seq (.region 6 #[m 14 0 3,o 15 (.convert 3 5 (.tmp 14)) 5,o 16 (.buildSlice 26 1 #[(0,.tmp 15)]) 26,o 2 (.assign (.tmp 16)) 26,o 3 (.assign (ci 0)) 39] false)
 .ret)
 .skip)))))))
 (.seq (.region 7 #[o 17 (.buildSlice 26 1 #[(0,.const (.int .u8 0))]) 26,o 4 (.assign (.tmp 17)) 26] false)
 (.seq (.block 1 (.seq (.block 4 (.seq (.block 3 (.seq (.block 2 (.seq (.seq (.seq (.region 8 #[m 19 0 3,o 20 (.binOp .gtr 3 (.tmp 19) (ci 65535) 3) 4,o 18 (.assign (.tmp 20)) 4] false)
 (.cond (.tmp 18)
 (.exit 2)
 .skip))
 (.seq (.region 9 #[m 22 0 3,o 23 (.binOp .gtr 3 (.tmp 22) (ci 255) 3) 4,o 21 (.assign (.tmp 23)) 4] false)
 (.cond (.tmp 21)
 (.exit 3)
 .skip)))
 (.exit 4)))
 (.region 10 #[m 24 4 26,m 25 0 3,o 26 (.binOp .shr 3 (.tmp 25) (.const (.int .u64 16)) 168) 3,o 27 (.convert 3 5 (.tmp 26)) 5,o 28 (.buildSlice 26 1 #[(0,.tmp 27)]) 26,o 29 (.call { callee:=.builtin .append,args:=#[.tmp 24,.tmp 28],argTypes:=#[26,26] }) 26,o 4 (.assign (.tmp 29)) 26] false)))
 (.region 11 #[m 30 4 26,m 31 0 3,o 32 (.binOp .shr 3 (.tmp 31) (.const (.int .u64 8)) 168) 3,o 33 (.convert 3 5 (.tmp 32)) 5,o 34 (.buildSlice 26 1 #[(0,.tmp 33)]) 26,o 35 (.call { callee:=.builtin .append,args:=#[.tmp 30,.tmp 34],argTypes:=#[26,26] }) 26,o 4 (.assign (.tmp 35)) 26] false)))
 (.seq (.region 12 #[m 36 4 26,m 37 0 3,o 38 (.convert 3 5 (.tmp 37)) 5,o 39 (.buildSlice 26 1 #[(0,.tmp 38)]) 26,o 40 (.call { callee:=.builtin .append,args:=#[.tmp 36,.tmp 39],argTypes:=#[26,26] }) 26,o 4 (.assign (.tmp 40)) 26] false)
 (.exit 1))))
 (.seq (.region 13 #[m 41 4 26,m 42 4 26,o 43 (.call { callee:=.builtin .len,args:=#[.tmp 42],argTypes:=#[26] }) 3,o 44 (.binOp .sub 3 (.tmp 43) (ci 1) 3) 3,o 45 (.convert 3 5 (.tmp 44)) 5,o 46 (.binOp .add 5 (.const (.int .u8 128)) (.tmp 45) 5) 5,o 47 (.indexAddr 26 (.tmp 41) (ci 0)) 0,nd (.store 5 (.tmp 47) (.tmp 46))] false)
 (.seq (.region 14 #[m 48 4 26,cl 49 131 #[.tmp 48] #[26] 26,o 2 (.assign (.tmp 49)) 26,o 3 (.assign (ci 0)) 39] false)
 .ret))))))
def kp160:Nat → Option (List Nat)
  | 0 => some [0]
  | 1 => some [0,5]
  | 2 => some [2,3]
  | 3 => some [0,8]
  | 4 => some [2,3]
  | 5 => some [0,11]
  | 6 => some [2,3]
  | 7 => some [0,4]
  | 8 => some [0,4,18]
  | 9 => some [0,4,21]
  | 10 => some [0,4]
  | 11 => some [0,4]
  | 12 => some [4]
  | 13 => some [4]
  | 14 => some [2,3]
  | _ => none
def fn160:AFn:={ ntmps:=50,results:=[.tmp 2,.tmp 3],body:=c160,keep:=kp160,head:=fun  | _ => none,opn:=fun _ => none,dyn:=fun _ => [] }
def c165:Code :=
  (.seq (.region 0 #[o 2 (.assign (.const (.slice none 0 0))) 26] false)
 (.seq (.seq (.region 1 #[m 3 0 26,o 4 (.binOp .eql 26 (.tmp 3) (.const (.slice none 0 0)) 26) 4] false)
 (.cond (.tmp 4)
 (.seq (.region 2 #[o 2 (.assign (.const (.slice none 0 0))) 26] false)
 .ret)
 .skip))
 (.seq (.region 3 #[o 5 (.buildSlice 26 0 #[]) 26,m 6 0 26,o 7 (.call { callee:=.builtin .append,args:=#[.tmp 5,.tmp 6],argTypes:=#[26,26] }) 26,o 2 (.assign (.tmp 7)) 26] false)
 .ret)))
def kp165:Nat → Option (List Nat)
  | 0 => some [0]
  | 1 => some [0,4]
  | 2 => some [2]
  | 3 => some [2]
  | _ => none
def fn165:AFn:={ ntmps:=8,results:=[.tmp 2],body:=c165,keep:=kp165,head:=fun  | _ => none,opn:=fun _ => none,dyn:=fun _ => [] }
def c166:Code :=
  (.seq (.region 0 #[o 3 (.assign (ci 28)) 3] false)
 (.seq (.block 0 (.loop (.seq (.seq (.region 1 #[m 4 3 3,o 5 (.binOp .gtr 3 (.tmp 4) (ci 0) 3) 4,m 6 5 4,gd 7 (.load 23 (.tmp 1)) 23 6 true,gd 8 (.move (.tmp 3)) 3 6 true,gd 9 (.binOp .shr 23 (.tmp 7) (.tmp 8) 3) 23 6 true,gd 10 (.binOp .eql 23 (.tmp 9) (.const (.int .u32 0)) 23) 4 6 true,o 11 (.pick (.tmp 6) (.tmp 10) (.const (.bool false))) 4] false)
 (.cond (.tmp 11)
 .skip
 (.exit 0)))
 (.block 1 (.region 2 #[m 12 3 3,o 13 (.binOp .sub 3 (.tmp 12) (ci 7) 3) 3,o 3 (.assign (.tmp 13)) 3] false)))))
 (.seq (.block 2 (.loop (.seq (.seq (.region 3 #[m 14 3 3,o 15 (.binOp .gtr 3 (.tmp 14) (ci 0) 3) 4] false)
 (.cond (.tmp 15)
 .skip
 (.exit 2)))
 (.seq (.block 3 (.seq (.region 5 #[m 18 0 226,ld 19 1 23,m 20 3 3,o 21 (.binOp .shr 23 (.tmp 19) (.tmp 20) 3) 23,o 22 (.convert 23 5 (.tmp 21)) 5,o 23 (.binOp .or 5 (.tmp 22) (.const (.int .u8 128)) 5) 5,o 24 (.call { callee:=.value (.tmp 18),args:=#[.tmp 23],argTypes:=#[5] }) 4,o 25 (.unOp .not 4 (.tmp 24)) 4] false)
 (.cond (.tmp 25)
 .ret
 .skip)))
 (.region 4 #[m 16 3 3,o 17 (.binOp .sub 3 (.tmp 16) (ci 7) 3) 3,o 3 (.assign (.tmp 17)) 3] false)))))
 (.region 6 #[m 26 0 226,ld 27 1 23,o 28 (.convert 23 5 (.tmp 27)) 5,o 29 (.binOp .and 5 (.tmp 28) (.const (.int .u8 127)) 5) 5,o 30 (.call { callee:=.value (.tmp 26),args:=#[.tmp 29],argTypes:=#[5] }) 4] false))))
def kp166:Nat → Option (List Nat)
  | 0 => some [0,1,3]
  | 1 => some [0,1,3,11]
  | 2 => some [0,1,3]
  | 3 => some [0,1,3,15]
  | 4 => some [0,1,3]
  | 5 => some [0,1,3,25]
  | 6 => some []
  | _ => none
def fn166:AFn:={ ntmps:=31,results:=[],body:=c166,keep:=kp166,head:=fun | 1 => some [0,1,3] | 3 => some [0,1,3] | _ => none,opn:=opnT,dyn:=fun _ => [] }
def c168:Code :=
  (.seq (.region 0 #[o 2 (.assign (ci 0)) 3] false)
 (.seq (.region 1 #[m 6 0 3,cl 7 160 #[.tmp 6] #[3] 94,m 5 7 94,o 8 (.extract (.tmp 5) 0) 26,o 9 (.extract (.tmp 5) 1) 39,o 3 (.assign (.tmp 8)) 26,o 4 (.assign (.tmp 9)) 39] false)
 (.seq (.region 2 #[m 10 3 26,o 11 (.call { callee:=.builtin .len,args:=#[.tmp 10],argTypes:=#[26] }) 3,o 2 (.assign (.tmp 11)) 3] false)
 .ret)))
def kp168:Nat → Option (List Nat)
  | 0 => some [0]
  | 1 => some [3]
  | 2 => some [2]
  | _ => none
def fn168:AFn:={ ntmps:=12,results:=[.tmp 2],body:=c168,keep:=kp168,head:=fun  | _ => none,opn:=fun _ => none,dyn:=fun _ => [] }
def c169:Code :=
  (.seq (.region 0 #[o 1 (.box 23 (.tmp 0)) 0,o 2 (.assign (.const .nilFunc)) 214] false)
 (.seq (.region 1 #[o 3 (.makeFunc (.func 181) #[] #[.tmp 1]) 213,o 2 (.assign (.tmp 3)) 214] false)
 .ret))
def kp169:Nat → Option (List Nat)
  | 0 => some [1]
  | 1 => some [2]
  | _ => none
def fn169:AFn:={ ntmps:=4,results:=[.tmp 2],body:=c169,keep:=kp169,head:=fun  | _ => none,opn:=fun _ => none,dyn:=fun _ => [] }
def c181:Code :=
  (.seq (.region 0 #[o 3 (.assign (ci 0)) 3] false)
 (.seq (.block 0 (.loop (.seq (.seq (.region 1 #[ld 5 1 23,m 6 3 3,o 7 (.binOp .add 3 (.tmp 6) (ci 7) 3) 3,o 8 (.binOp .shr 23 (.tmp 5) (.tmp 7) 3) 23,o 9 (.binOp .gtr 23 (.tmp 8) (.const (.int .u32 0)) 23) 4] false)
 (.cond (.tmp 9)
 .skip
 (.exit 0)))
 (.block 1 (.region 2 #[m 10 3 3,o 11 (.binOp .add 3 (.tmp 10) (ci 7) 3) 3,o 3 (.assign (.tmp 11)) 3] false)))))
 (.block 2 (.loop (.seq (.seq (.region 3 #[m 12 3 3,o 13 (.binOp .geq 3 (.tmp 12) (ci 0) 3) 4] false)
 (.cond (.tmp 13)
 .skip
 (.exit 2)))
 (.seq (.block 3 (.seq (.region 5 #[ld 16 1 23,m 17 3 3,o 18 (.binOp .shr 23 (.tmp 16) (.tmp 17) 3) 23,o 19 (.convert 23 5 (.tmp 18)) 5,o 20 (.binOp .and 5 (.tmp 19) (.const (.int .u8 127)) 5) 5,o 4 (.assign (.tmp 20)) 5] false)
 (.seq (.seq (.region 6 #[m 21 3 3,o 22 (.binOp .gtr 3 (.tmp 21) (ci 0) 3) 4] false)
 (.cond (.tmp 22)
 (.region 7 #[m 23 4 5,o 24 (.binOp .or 5 (.tmp 23) (.const (.int .u8 128)) 5) 5,o 4 (.assign (.tmp 24)) 5] false)
 .skip))
 (.seq (.region 8 #[m 25 0 226,m 26 4 5,o 27 (.call { callee:=.value (.tmp 25),args:=#[.tmp 26],argTypes:=#[5] }) 4,o 28 (.unOp .not 4 (.tmp 27)) 4] false)
 (.cond (.tmp 28)
 .ret
 .skip)))))
 (.region 4 #[m 14 3 3,o 15 (.binOp .sub 3 (.tmp 14) (ci 7) 3) 3,o 3 (.assign (.tmp 15)) 3] false)))))))
def kp181:Nat → Option (List Nat)
  | 0 => some [0,1,3]
  | 1 => some [0,1,3,9]
  | 2 => some [0,1,3]
  | 3 => some [0,1,3,13]
  | 4 => some [0,1,3]
  | 5 => some [0,1,3,4]
  | 6 => some [0,1,3,4,22]
  | 7 => some [0,1,3,4]
  | 8 => some [0,1,3,28]
  | _ => none
def fn181:AFn:={ ntmps:=29,results:=[],body:=c181,keep:=kp181,head:=fun | 1 => some [0,1,3] | 3 => some [0,1,3] | _ => none,opn:=opnT,dyn:=fun _ => [] }
def fnTab:List (Option AFn):=[none,none,none,some fn3,some fn4,none,none,none,none,none,none,none,none,some fn13,some fn14,some fn15,some fn16,some fn17,some fn18,some fn19,some fn20,some fn21,some fn22,some fn23,some fn24,some fn25,some fn26,some fn27,some fn28,some fn29,some fn30,none,none,none,none,some fn35,some fn36,none,none,some fn39,none,none,none,none,none,none,none,none,none,none,none,none,none,none,none,none,none,none,none,none,none,none,none,none,none,some fn65,some fn66,some fn67,some fn68,some fn69,some fn70,some fn71,some fn72,some fn73,some fn74,some fn75,some fn76,some fn77,some fn78,some fn79,none,none,none,none,none,none,none,none,none,none,some fn90,none,none,none,none,none,none,none,none,none,none,none,none,none,none,none,none,none,none,none,none,none,some fn112,some fn113,some fn114,some fn115,some fn116,some fn117,some fn118,some fn119,some fn120,some fn121,some fn122,some fn123,some fn124,some fn125,some fn126,some fn127,some fn128,none,none,some fn131,none,none,none,none,none,none,none,none,none,none,none,none,none,none,none,some fn147,some fn148,some fn149,some fn150,some fn151,some fn152,none,some fn154,none,none,some fn157,none,some fn159,some fn160,none,none,none,none,some fn165,some fn166,none,some fn168,some fn169,none,none,none,none,none,none,none,none,none,none,none,some fn181]
def grdT:FuncId → Option Grd
  | _ => none
def tyTab:List (Option TyI):=[
  none,
  some ⟨.func,1,8,[.nilf],false⟩,
  some ⟨.int .i64,1,8,[.int .i64 0],false⟩,
  some ⟨.int .i64,1,8,[.int .i64 0],false⟩,
  some ⟨.bool,1,1,[.bool false],false⟩,
  some ⟨.int .u8,1,1,[.int .u8 0],false⟩,
  some ⟨.int .u8,1,1,[.int .u8 0],false⟩,
  some ⟨.strct [(0,2),(1,3),(2,4),(3,6)],4,24,[.int .i64 0,.int .i64 0,.bool false,.int .u8 0],false⟩,
  some ⟨.strct [(0,2),(1,3),(2,4),(3,6)],4,24,[.int .i64 0,.int .i64 0,.bool false,.int .u8 0],false⟩,
  some ⟨.str,1,16,[.str []],false⟩,
  some ⟨.str,1,16,[.str []],false⟩,
  some ⟨.str,1,16,[.str []],false⟩,
  some ⟨.int .u64,1,8,[.int .u64 0],false⟩,
  some ⟨.strct [(0,9),(1,12)],2,24,[.str [],.int .u64 0],false⟩,
  some ⟨.strct [(0,9),(1,12)],2,24,[.str [],.int .u64 0],false⟩,
  some ⟨.ptr 253,1,8,[.nilp],false⟩,
  some ⟨.ptr 256,1,8,[.nilp],false⟩,
  some ⟨.ptr 265,1,8,[.nilp],false⟩,
  some ⟨.strct [(0,17)],1,8,[.nilp],false⟩,
  some ⟨.strct [(0,17)],1,8,[.nilp],false⟩,
  some ⟨.iface true,1,16,[.nili],false⟩,
  some ⟨.int .i32,1,4,[.int .i32 0],false⟩,
  some ⟨.int .u8,1,1,[.int .u8 0],false⟩,
  some ⟨.int .u32,1,4,[.int .u32 0],false⟩,
  some ⟨.strct [(0,22),(1,4),(2,23)],3,8,[.int .u8 0,.bool false,.int .u32 0],false⟩,
  some ⟨.strct [(0,22),(1,4),(2,23)],3,8,[.int .u8 0,.bool false,.int .u32 0],true⟩,
  some ⟨.slice 5,1,24,[.sl true [] (some 0)],false⟩,
  some ⟨.slice 29,1,24,[.sl true [] (some 0)],false⟩,
  some ⟨.strct [(0,25),(3,26),(4,27)],5,56,[.int .u8 0,.bool false,.int .u32 0,.sl true [] (some 0),.sl true [] (some 0)],false⟩,
  some ⟨.strct [(0,25),(3,26),(4,27)],5,56,[.int .u8 0,.bool false,.int .u32 0,.sl true [] (some 0),.sl true [] (some 0)],false⟩,
  some ⟨.func,1,8,[.nilf],false⟩,
  some ⟨.ptr 3,1,8,[.nilp],false⟩,
  some ⟨.func,1,8,[.nilf],false⟩,
  some ⟨.arr 16 23,16,64,[.int .u32 0,.int .u32 0,.int .u32 0,.int .u32 0,.int .u32 0,.int .u32 0,.int .u32 0,.int .u32 0,.int .u32 0,.int .u32 0,.int .u32 0,.int .u32 0,.int .u32 0,.int .u32 0,.int .u32 0,.int .u32 0],false⟩,
  some ⟨.strct [(0,5),(1,33)],17,68,[.int .u8 0,.int .u32 0,.int .u32 0,.int .u32 0,.int .u32 0,.int .u32 0,.int .u32 0,.int .u32 0,.int .u32 0,.int .u32 0,.int .u32 0,.int .u32 0,.int .u32 0,.int .u32 0,.int .u32 0,.int .u32 0,.int .u32 0],false⟩,
  some ⟨.strct [(0,5),(1,33)],17,68,[.int .u8 0,.int .u32 0,.int .u32 0,.int .u32 0,.int .u32 0,.int .u32 0,.int .u32 0,.int .u32 0,.int .u32 0,.int .u32 0,.int .u32 0,.int .u32 0,.int .u32 0,.int .u32 0,.int .u32 0,.int .u32 0,.int .u32 0],true⟩,
  some ⟨.strct [(0,35),(17,4),(18,29)],23,128,[.int .u8 0,.int .u32 0,.int .u32 0,.int .u32 0,.int .u32 0,.int .u32 0,.int .u32 0,.int .u32 0,.int .u32 0,.int .u32 0,.int .u32 0,.int .u32 0,.int .u32 0,.int .u32 0,.int .u32 0,.int .u32 0,.int .u32 0,.bool false,.int .u8 0,.bool false,.int .u32 0,.sl true [] (some 0),.sl true [] (some 0)],false⟩,
  some ⟨.strct [(0,35),(17,4),(18,29)],23,128,[.int .u8 0,.int .u32 0,.int .u32 0,.int .u32 0,.int .u32 0,.int .u32 0,.int .u32 0,.int .u32 0,.int .u32 0,.int .u32 0,.int .u32 0,.int .u32 0,.int .u32 0,.int .u32 0,.int .u32 0,.int .u32 0,.int .u32 0,.bool false,.int .u8 0,.bool false,.int .u32 0,.sl true [] (some 0),.sl true [] (some 0)],false⟩,
  some ⟨.slice 3,1,24,[.sl true [] (some 0)],false⟩,
  some ⟨.int .i64,1,8,[.int .i64 0],false⟩,
  some ⟨.strct [(0,38),(1,39)],2,32,[.sl true [] (some 0),.int .i64 0],false⟩,
  some ⟨.strct [(0,38),(1,39)],2,32,[.sl true [] (some 0),.int .i64 0],false⟩,
  none,
  some ⟨.func,1,8,[.nilf],false⟩,
  some ⟨.func,1,8,[.nilf],false⟩,
  some ⟨.func,1,8,[.nilf],false⟩,
  none,
  some ⟨.func,1,8,[.nilf],false⟩,
  some ⟨.func,1,8,[.nilf],false⟩,
  some ⟨.func,1,8,[.nilf],false⟩,
  some ⟨.func,1,8,[.nilf],false⟩,
  some ⟨.func,1,8,[.nilf],false⟩,
  some ⟨.func,1,8,[.nilf],false⟩,
  some ⟨.func,1,8,[.nilf],false⟩,
  some ⟨.func,1,8,[.nilf],false⟩,
  some ⟨.func,1,8,[.nilf],false⟩,
  some ⟨.strct [(0,37),(23,26),(24,3)],25,160,[.int .u8 0,.int .u32 0,.int .u32 0,.int .u32 0,.int .u32 0,.int .u32 0,.int .u32 0,.int .u32 0,.int .u32 0,.int .u32 0,.int .u32 0,.int .u32 0,.int .u32 0,.int .u32 0,.int .u32 0,.int .u32 0,.int .u32 0,.bool false,.int .u8 0,.bool false,.int .u32 0,.sl true [] (some 0),.sl true [] (some 0),.sl true [] (some 0),.int .i64 0],false⟩,
  some ⟨.strct [(0,37),(23,26),(24,3)],25,160,[.int .u8 0,.int .u32 0,.int .u32 0,.int .u32 0,.int .u32 0,.int .u32 0,.int .u32 0,.int .u32 0,.int .u32 0,.int .u32 0,.int .u32 0,.int .u32 0,.int .u32 0,.int .u32 0,.int .u32 0,.int .u32 0,.int .u32 0,.bool false,.int .u8 0,.bool false,.int .u32 0,.sl true [] (some 0),.sl true [] (some 0),.sl true [] (some 0),.int .i64 0],false⟩,
  some ⟨.func,1,8,[.nilf],false⟩,
  some ⟨.func,1,8,[.nilf],false⟩,
  some ⟨.func,1,8,[.nilf],false⟩,
  some ⟨.strct [(0,5),(1,26),(2,26),(3,5)],4,64,[.int .u8 0,.sl true [] (some 0),.sl true [] (some 0),.int .u8 0],false⟩,
  some ⟨.strct [(0,5),(1,26),(2,26),(3,5)],4,64,[.int .u8 0,.sl true [] (some 0),.sl true [] (some 0),.int .u8 0],false⟩,
  some ⟨.func,1,8,[.nilf],false⟩,
  some ⟨.func,1,8,[.nilf],false⟩,
  some ⟨.func,1,8,[.nilf],false⟩,
  some ⟨.func,1,8,[.nilf],false⟩,
  some ⟨.func,1,8,[.nilf],false⟩,
  some ⟨.func,1,8,[.nilf],false⟩,
  none,
  some ⟨.func,1,8,[.nilf],false⟩,
  some ⟨.func,1,8,[.nilf],false⟩,
  none,
  some ⟨.func,1,8,[.nilf],false⟩,
  some ⟨.strct [(0,25),(3,4),(4,4)],5,12,[.int .u8 0,.bool false,.int .u32 0,.bool false,.bool false],false⟩,
  some ⟨.strct [(0,25),(3,4),(4,4)],5,12,[.int .u8 0,.bool false,.int .u32 0,.bool false,.bool false],false⟩,
  some ⟨.slice 75,1,24,[.sl true [] (some 0)],false⟩,
  none,
  some ⟨.func,1,8,[.nilf],false⟩,
  some ⟨.func,1,8,[.nilf],false⟩,
  some ⟨.func,1,8,[.nilf],false⟩,
  some ⟨.strct [(0,3),(1,3)],2,16,[.int .i64 0,.int .i64 0],false⟩,
  some ⟨.strct [(0,3),(1,3)],2,16,[.int .i64 0,.int .i64 0],true⟩,
  none,
  some ⟨.func,1,8,[.nilf],false⟩,
  some ⟨.func,1,8,[.nilf],false⟩,
  some ⟨.func,1,8,[.nilf],false⟩,
  none,
  some ⟨.func,1,8,[.nilf],false⟩,
  none,
  some ⟨.func,1,8,[.nilf],false⟩,
  none,
  some ⟨.func,1,8,[.nilf],false⟩,
  some ⟨.func,1,8,[.nilf],false⟩,
  none,
  some ⟨.func,1,8,[.nilf],false⟩,
  none,
  some ⟨.func,1,8,[.nilf],false⟩,
  some ⟨.func,1,8,[.nilf],false⟩,
  some ⟨.func,1,8,[.nilf],false⟩,
  some ⟨.slice 116,1,24,[.sl true [] (some 0)],false⟩,
  none,
  some ⟨.func,1,8,[.nilf],false⟩,
  some ⟨.func,1,8,[.nilf],false⟩,
  some ⟨.func,1,8,[.nilf],false⟩,
  some ⟨.slice 161,1,24,[.sl true [] (some 0)],false⟩,
  some ⟨.strct [(0,105)],1,24,[.sl true [] (some 0)],false⟩,
  some ⟨.strct [(0,105)],1,24,[.sl true [] (some 0)],false⟩,
  some ⟨.func,1,8,[.nilf],false⟩,
  some ⟨.func,1,8,[.nilf],false⟩,
  some ⟨.func,1,8,[.nilf],false⟩,
  some ⟨.func,1,8,[.nilf],false⟩,
  some ⟨.func,1,8,[.nilf],false⟩,
  some ⟨.slice 35,1,24,[.sl true [] (some 0)],false⟩,
  some ⟨.func,1,8,[.nilf],false⟩,
  some ⟨.strct [(0,35),(17,35)],34,136,[.int .u8 0,.int .u32 0,.int .u32 0,.int .u32 0,.int .u32 0,.int .u32 0,.int .u32 0,.int .u32 0,.int .u32 0,.int .u32 0,.int .u32 0,.int .u32 0,.int .u32 0,.int .u32 0,.int .u32 0,.int .u32 0,.int .u32 0,.int .u8 0,.int .u32 0,.int .u32 0,.int .u32 0,.int .u32 0,.int .u32 0,.int .u32 0,.int .u32 0,.int .u32 0,.int .u32 0,.int .u32 0,.int .u32 0,.int .u32 0,.int .u32 0,.int .u32 0,.int .u32 0,.int .u32 0],false⟩,
  some ⟨.strct [(0,35),(17,35)],34,136,[.int .u8 0,.int .u32 0,.int .u32 0,.int .u32 0,.int .u32 0,.int .u32 0,.int .u32 0,.int .u32 0,.int .u32 0,.int .u32 0,.int .u32 0,.int .u32 0,.int .u32 0,.int .u32 0,.int .u32 0,.int .u32 0,.int .u32 0,.int .u8 0,.int .u32 0,.int .u32 0,.int .u32 0,.int .u32 0,.int .u32 0,.int .u32 0,.int .u32 0,.int .u32 0,.int .u32 0,.int .u32 0,.int .u32 0,.int .u32 0,.int .u32 0,.int .u32 0,.int .u32 0,.int .u32 0],true⟩,
  some ⟨.func,1,8,[.nilf],false⟩,
  some ⟨.func,1,8,[.nilf],false⟩,
  none,
  some ⟨.func,1,8,[.nilf],false⟩,
  some ⟨.func,1,8,[.nilf],false⟩,
  some ⟨.func,1,8,[.nilf],false⟩,
  some ⟨.func,1,8,[.nilf],false⟩,
  some ⟨.slice 23,1,24,[.sl true [] (some 0)],false⟩,
  none,
  some ⟨.func,1,8,[.nilf],false⟩,
  some ⟨.func,1,8,[.nilf],false⟩,
  some ⟨.func,1,8,[.nilf],false⟩,
  some ⟨.func,1,8,[.nilf],false⟩,
  some ⟨.strct [(0,26)],1,24,[.sl true [] (some 0)],false⟩,
  some ⟨.strct [(0,26)],1,24,[.sl true [] (some 0)],false⟩,
  some ⟨.func,1,8,[.nilf],false⟩,
  some ⟨.func,1,8,[.nilf],false⟩,
  some ⟨.func,1,8,[.nilf],false⟩,
  some ⟨.func,1,8,[.nilf],false⟩,
  some ⟨.func,1,8,[.nilf],false⟩,
  some ⟨.func,1,8,[.nilf],false⟩,
  some ⟨.func,1,8,[.nilf],false⟩,
  some ⟨.func,1,8,[.nilf],false⟩,
  some ⟨.func,1,8,[.nilf],false⟩,
  some ⟨.arr 2 31,2,16,[.nilp,.nilp],false⟩,
  some ⟨.arr 2 3,2,16,[.int .i64 0,.int .i64 0],false⟩,
  some ⟨.func,1,8,[.nilf],false⟩,
  some ⟨.func,1,8,[.nilf],false⟩,
  some ⟨.func,1,8,[.nilf],false⟩,
  some ⟨.func,1,8,[.nilf],false⟩,
  some ⟨.func,1,8,[.nilf],false⟩,
  none,
  some ⟨.func,1,8,[.nilf],false⟩,
  some ⟨.func,1,8,[.nilf],false⟩,
  some ⟨.func,1,8,[.nilf],false⟩,
  some ⟨.func,1,8,[.nilf],false⟩,
  some ⟨.func,1,8,[.nilf],false⟩,
  some ⟨.func,1,8,[.nilf],false⟩,
  none,
  some ⟨.func,1,8,[.nilf],false⟩,
  some ⟨.func,1,8,[.nilf],false⟩,
  some ⟨.func,1,8,[.nilf],false⟩,
  some ⟨.func,1,8,[.nilf],false⟩,
  some ⟨.func,1,8,[.nilf],false⟩,
  some ⟨.arr 2 5,2,2,[.int .u8 0,.int .u8 0],false⟩,
  some ⟨.func,1,8,[.nilf],false⟩,
  some ⟨.func,1,8,[.nilf],false⟩,
  some ⟨.func,1,8,[.nilf],false⟩,
  some ⟨.func,1,8,[.nilf],false⟩,
  some ⟨.func,1,8,[.nilf],false⟩,
  some ⟨.int .u64,1,8,[.int .u64 0],false⟩,
  some ⟨.int .u64,1,8,[.int .u64 0],false⟩,
  some ⟨.func,1,8,[.nilf],false⟩,
  some ⟨.func,1,8,[.nilf],false⟩,
  some ⟨.func,1,8,[.nilf],false⟩,
  some ⟨.func,1,8,[.nilf],false⟩,
  some ⟨.func,1,8,[.nilf],false⟩,
  some ⟨.func,1,8,[.nilf],false⟩,
  some ⟨.func,1,8,[.nilf],false⟩,
  some ⟨.func,1,8,[.nilf],false⟩,
  some ⟨.func,1,8,[.nilf],false⟩,
  some ⟨.func,1,8,[.nilf],false⟩,
  some ⟨.slice 178,1,24,[.sl true [] (some 0)],false⟩,
  none,
  some ⟨.func,1,8,[.nilf],false⟩,
  some ⟨.func,1,8,[.nilf],false⟩,
  some ⟨.func,1,8,[.nilf],false⟩,
  some ⟨.arr 8 5,8,8,[.int .u8 0,.int .u8 0,.int .u8 0,.int .u8 0,.int .u8 0,.int .u8 0,.int .u8 0,.int .u8 0],false⟩,
  some ⟨.arr 8 5,8,8,[.int .u8 0,.int .u8 0,.int .u8 0,.int .u8 0,.int .u8 0,.int .u8 0,.int .u8 0,.int .u8 0],false⟩,
  some ⟨.func,1,8,[.nilf],false⟩,
  none,
  some ⟨.strct [(0,3),(1,39)],2,16,[.int .i64 0,.int .i64 0],false⟩,
  some ⟨.strct [(0,3),(1,39)],2,16,[.int .i64 0,.int .i64 0],false⟩,
  none,
  some ⟨.strct [(0,26),(1,3)],2,32,[.sl true [] (some 0),.int .i64 0],false⟩,
  some ⟨.strct [(0,26),(1,3)],2,32,[.sl true [] (some 0),.int .i64 0],false⟩,
  none,
  some ⟨.func,1,8,[.nilf],false⟩,
  some ⟨.func,1,8,[.nilf],false⟩,
  some ⟨.func,1,8,[.nilf],false⟩,
  some ⟨.int .i8,1,1,[.int .i8 0],false⟩,
  none,
  none,
  some ⟨.func,1,8,[.nilf],false⟩,
  some ⟨.func,1,8,[.nilf],false⟩,
  some ⟨.arr 2 35,34,136,[.int .u8 0,.int .u32 0,.int .u32 0,.int .u32 0,.int .u32 0,.int .u32 0,.int .u32 0,.int .u32 0,.int .u32 0,.int .u32 0,.int .u32 0,.int .u32 0,.int .u32 0,.int .u32 0,.int .u32 0,.int .u32 0,.int .u32 0,.int .u8 0,.int .u32 0,.int .u32 0,.int .u32 0,.int .u32 0,.int .u32 0,.int .u32 0,.int .u32 0,.int .u32 0,.int .u32 0,.int .u32 0,.int .u32 0,.int .u32 0,.int .u32 0,.int .u32 0,.int .u32 0,.int .u32 0],false⟩,
  some ⟨.func,1,8,[.nilf],false⟩,
  some ⟨.func,1,8,[.nilf],false⟩,
  some ⟨.func,1,8,[.nilf],false⟩,
  some ⟨.func,1,8,[.nilf],false⟩,
  some ⟨.func,1,8,[.nilf],false⟩,
  none,
  some ⟨.func,1,8,[.nilf],false⟩,
  some ⟨.func,1,8,[.nilf],false⟩,
  some ⟨.func,1,8,[.nilf],false⟩,
  some ⟨.ptr 35,1,8,[.nilp],false⟩,
  some ⟨.func,1,8,[.nilf],false⟩,
  some ⟨.func,1,8,[.nilf],false⟩,
  some ⟨.func,1,8,[.nilf],false⟩,
  some ⟨.ptr 192,1,8,[.nilp],false⟩,
  none,
  some ⟨.func,1,8,[.nilf],false⟩,
  some ⟨.func,1,8,[.nilf],false⟩,
  some ⟨.func,1,8,[.nilf],false⟩,
  some ⟨.arr 2 212,2,16,[.nilp,.nilp],false⟩,
  some ⟨.func,1,8,[.nilf],false⟩,
  some ⟨.func,1,8,[.nilf],false⟩,
  some ⟨.func,1,8,[.nilf],false⟩,
  some ⟨.func,1,8,[.nilf],false⟩,
  some ⟨.func,1,8,[.nilf],false⟩,
  none,
  some ⟨.func,1,8,[.nilf],false⟩,
  some ⟨.arr 3 5,3,3,[.int .u8 0,.int .u8 0,.int .u8 0],false⟩,
  some ⟨.arr 3 5,3,3,[.int .u8 0,.int .u8 0,.int .u8 0],false⟩,
  some ⟨.func,1,8,[.nilf],false⟩,
  some ⟨.int .i64,1,8,[.int .i64 0],false⟩,
  none,
  some ⟨.func,1,8,[.nilf],false⟩,
  some ⟨.func,1,8,[.nilf],false⟩,
  some ⟨.func,1,8,[.nilf],false⟩,
  none,
  some ⟨.func,1,8,[.nilf],false⟩,
  some ⟨.func,1,8,[.nilf],false⟩,
  some ⟨.func,1,8,[.nilf],false⟩,
  some ⟨.func,1,8,[.nilf],false⟩,
  some ⟨.int .u64,1,8,[.int .u64 0],false⟩,
  some ⟨.func,1,8,[.nilf],false⟩,
  some ⟨.func,1,8,[.nilf],false⟩,
  some ⟨.func,1,8,[.nilf],false⟩,
  some ⟨.func,1,8,[.nilf],false⟩,
  some ⟨.func,1,8,[.nilf],false⟩,
  some ⟨.ptr 242,1,8,[.nilp],false⟩,
  none,
  some ⟨.func,1,8,[.nilf],false⟩,
  some ⟨.func,1,8,[.nilf],false⟩,
  some ⟨.strct [(0,17),(1,17),(2,17),(3,9)],4,40,[.nilp,.nilp,.nilp,.str []],false⟩,
  some ⟨.strct [(0,17),(1,17),(2,17),(3,9)],4,40,[.nilp,.nilp,.nilp,.str []],false⟩,
  some ⟨.arr 0 16,0,0,[],false⟩,
  some ⟨.strct [(0,254)],0,0,[],false⟩,
  some ⟨.strct [(0,254)],0,0,[],false⟩,
  some ⟨.func,1,8,[.nilf],false⟩,
  some ⟨.int .u8,1,1,[.int .u8 0],false⟩,
  some ⟨.int .u8,1,1,[.int .u8 0],false⟩,
  some ⟨.func,1,8,[.nilf],false⟩,
  some ⟨.ptr 5,1,8,[.nilp],false⟩,
  some ⟨.int .i32,1,4,[.int .i32 0],false⟩,
  some ⟨.int .i32,1,4,[.int .i32 0],false⟩,
  some ⟨.strct [(0,12),(1,12),(2,23),(3,258),(4,5),(5,5),(6,259),(7,260),(8,261),(9,262),(10,263)],11,48,[.int .u64 0,.int .u64 0,.int .u32 0,.int .u8 0,.int .u8 0,.int .u8 0,.int .u8 0,.nilf,.nilp,.int .i32 0,.int .i32 0],false⟩,
  some ⟨.strct [(0,12),(1,12),(2,23),(3,258),(4,5),(5,5),(6,259),(7,260),(8,261),(9,262),(10,263)],11,48,[.int .u64 0,.int .u64 0,.int .u32 0,.int .u8 0,.int .u8 0,.int .u8 0,.int .u8 0,.nilf,.nilp,.int .i32 0,.int .i32 0],false⟩,
  none]
def E:Env:={ fn:=getT fnTab,ty:=getT tyTab,prim:=primT,grd:=grdT,ext:=fun i => false,glob:=fun | 0 => some [.int .u8 0,.bool true,.int .u32 16] | 1 => some [.int .u8 0,.bool false,.int .u32 6] | _ => none }
@[simp] theorem E_ext (i):E.ext i=false:=id rfl
def E0:Env:={ E with prim:=fun _ => none }
@[simp] theorem E_prim (i):E.prim i=primT i:=rfl
@[simp] theorem E_glob0:E.glob 0=some [.int .u8 0,.bool true,.int .u32 16]:=rfl
@[simp] theorem E_glob1:E.glob 1=some [.int .u8 0,.bool false,.int .u32 6]:=rfl
@[simp] theorem ntmps_3:fn3.ntmps=52:=rfl
@[simp] theorem results_3:fn3.results=[.tmp 2]:=rfl
theorem body_3:fn3.body=c3:=rfl
@[simp] theorem dyn_3:fn3.dyn=fun _ => []:=id rfl
@[simp] theorem opn_3:fn3.opn=opnT:=id rfl
@[simp] theorem keep_3 (i):fn3.keep i=kp3 i:=rfl
attribute [simp] kp3
@[simp] theorem ntmps_4:fn4.ntmps=128:=rfl
@[simp] theorem results_4:fn4.results=[.tmp 6]:=rfl
theorem body_4:fn4.body=c4:=rfl
@[simp] theorem dyn_4_12:fn4.dyn 12=[]:=id rfl
@[simp] theorem dyn_4_18:fn4.dyn 18=[]:=id rfl
@[simp] theorem opn_4:fn4.opn=opnT:=id rfl
@[simp] theorem keep_4 (i):fn4.keep i=kp4 i:=rfl
attribute [simp] kp4
@[simp] theorem ntmps_13:fn13.ntmps=51:=rfl
@[simp] theorem results_13:fn13.results=[.tmp 6]:=rfl
theorem body_13:fn13.body=c13:=rfl
@[simp] theorem dyn_13:fn13.dyn=fun _ => []:=id rfl
@[simp] theorem opn_13:fn13.opn=opnT:=id rfl
@[simp] theorem keep_13 (i):fn13.keep i=kp13 i:=rfl
attribute [simp] kp13
@[simp] theorem head_13_5:fn13.head 5=some [1,2,3,7]:=rfl
@[simp] theorem ntmps_14:fn14.ntmps=123:=rfl
@[simp] theorem results_14:fn14.results=[.tmp 0]:=rfl
theorem body_14:fn14.body=c14:=rfl
@[simp] theorem dyn_14_12:fn14.dyn 12=[]:=id rfl
@[simp] theorem dyn_14_14:fn14.dyn 14=[]:=id rfl
@[simp] theorem dyn_14_15:fn14.dyn 15=[]:=id rfl
@[simp] theorem opn_14:fn14.opn=fun _ => none:=id rfl
@[simp] theorem keep_14 (i):fn14.keep i=kp14 i:=rfl
attribute [simp] kp14
@[simp] theorem ntmps_15:fn15.ntmps=63:=rfl
@[simp] theorem results_15:fn15.results=[.cell 2 37,.cell 3 41]:=rfl
theorem body_15:fn15.body=c15:=rfl
@[simp] theorem dyn_15_6:fn15.dyn 6=[(1,2)]:=id rfl
@[simp] theorem dyn_15_10:fn15.dyn 10=[]:=id rfl
@[simp] theorem opn_15:fn15.opn=fun _ => none:=id rfl
@[simp] theorem keep_15 (i):fn15.keep i=kp15 i:=rfl
attribute [simp] kp15
@[simp] theorem ntmps_16:fn16.ntmps=60:=rfl
@[simp] theorem results_16:fn16.results=[.cell 2 37,.cell 3 41]:=rfl
theorem body_16:fn16.body=c16:=rfl
@[simp] theorem dyn_16_4:fn16.dyn 4=[]:=id rfl
@[simp] theorem dyn_16_5:fn16.dyn 5=[]:=id rfl
@[simp] theorem dyn_16_7:fn16.dyn 7=[(1,2)]:=id rfl
@[simp] theorem dyn_16_10:fn16.dyn 10=[]:=id rfl
@[simp] theorem dyn_16_15:fn16.dyn 15=[(1,2)]:=id rfl
@[simp] theorem opn_16:fn16.opn=fun _ => none:=id rfl
@[simp] theorem keep_16 (i):fn16.keep i=kp16 i:=rfl
attribute [simp] kp16
@[simp] theorem ntmps_17:fn17.ntmps=47:=rfl
@[simp] theorem results_17:fn17.results=[.tmp 4]:=rfl
theorem body_17:fn17.body=c17:=rfl
@[simp] theorem dyn_17:fn17.dyn=fun _ => []:=id rfl
@[simp] theorem opn_17:fn17.opn=fun _ => none:=id rfl
@[simp] theorem keep_17 (i):fn17.keep i=kp17 i:=rfl
attribute [simp] kp17
@[simp] theorem head_17_4:fn17.head 4=some [2,3,5]:=rfl
@[simp] theorem ntmps_18:fn18.ntmps=22:=rfl
@[simp] theorem results_18:fn18.results=[.tmp 4]:=rfl
theorem body_18:fn18.body=c18:=rfl
@[simp] theorem dyn_18:fn18.dyn=fun _ => []:=id rfl
@[simp] theorem opn_18:fn18.opn=fun _ => none:=id rfl
@[simp] theorem keep_18 (i):fn18.keep i=kp18 i:=rfl
attribute [simp] kp18
@[simp] theorem ntmps_19:fn19.ntmps=8:=rfl
@[simp] theorem results_19:fn19.results=[.cell 2 29,.tmp 3]:=rfl
theorem body_19:fn19.body=c19:=rfl
@[simp] theorem dyn_19:fn19.dyn=fun _ => []:=id rfl
@[simp] theorem opn_19:fn19.opn=opnT:=id rfl
@[simp] theorem keep_19 (i):fn19.keep i=kp19 i:=rfl
attribute [simp] kp19
@[simp] theorem ntmps_20:fn20.ntmps=48:=rfl
@[simp] theorem results_20:fn20.results=[.tmp 4]:=rfl
theorem body_20:fn20.body=c20:=rfl
@[simp] theorem dyn_20:fn20.dyn=fun _ => []:=id rfl
@[simp] theorem opn_20:fn20.opn=fun _ => none:=id rfl
@[simp] theorem keep_20 (i):fn20.keep i=kp20 i:=rfl
attribute [simp] kp20
@[simp] theorem head_20_4:fn20.head 4=some [2,3,5]:=rfl
@[simp] theorem ntmps_21:fn21.ntmps=47:=rfl
@[simp] theorem results_21:fn21.results=[.tmp 2]:=rfl
theorem body_21:fn21.body=c21:=rfl
@[simp] theorem dyn_21:fn21.dyn=fun _ => []:=id rfl
@[simp] theorem opn_21:fn21.opn=fun _ => none:=id rfl
@[simp] theorem keep_21 (i):fn21.keep i=kp21 i:=rfl
attribute [simp] kp21
@[simp] theorem head_21_6:fn21.head 6=some [38,39,40]:=rfl
@[simp] theorem ntmps_22:fn22.ntmps=13:=rfl
@[simp] theorem results_22:fn22.results=[.tmp 2]:=rfl
theorem body_22:fn22.body=c22:=rfl
@[simp] theorem dyn_22:fn22.dyn=fun _ => []:=id rfl
@[simp] theorem opn_22:fn22.opn=fun _ => none:=id rfl
@[simp] theorem keep_22 (i):fn22.keep i=kp22 i:=rfl
attribute [simp] kp22
@[simp] theorem ntmps_23:fn23.ntmps=26:=rfl
@[simp] theorem results_23:fn23.results=[.cell 2 29]:=rfl
theorem body_23:fn23.body=c23:=rfl
@[simp] theorem dyn_23:fn23.dyn=fun _ => []:=id rfl
@[simp] theorem opn_23:fn23.opn=fun _ => none:=id rfl
@[simp] theorem keep_23 (i):fn23.keep i=kp23 i:=rfl
attribute [simp] kp23
@[simp] theorem ntmps_24:fn24.ntmps=11:=rfl
@[simp] theorem results_24:fn24.results=[.tmp 2]:=rfl
theorem body_24:fn24.body=c24:=rfl
@[simp] theorem dyn_24:fn24.dyn=fun _ => []:=id rfl
@[simp] theorem opn_24:fn24.opn=opnT:=id rfl
@[simp] theorem keep_24 (i):fn24.keep i=kp24 i:=rfl
attribute [simp] kp24
@[simp] theorem ntmps_25:fn25.ntmps=21:=rfl
@[simp] theorem results_25:fn25.results=[.cell 4 29,.tmp 5]:=rfl
theorem body_25:fn25.body=c25:=rfl
@[simp] theorem dyn_25:fn25.dyn=fun _ => []:=id rfl
@[simp] theorem opn_25:fn25.opn=fun _ => none:=id rfl
@[simp] theorem keep_25 (i):fn25.keep i=kp25 i:=rfl
attribute [simp] kp25
@[simp] theorem ntmps_26:fn26.ntmps=2:=rfl
@[simp] theorem results_26:fn26.results=[.cell 0 25]:=rfl
theorem body_26:fn26.body=c26:=rfl
@[simp] theorem dyn_26:fn26.dyn=fun _ => []:=id rfl
@[simp] theorem opn_26:fn26.opn=fun _ => none:=id rfl
@[simp] theorem keep_26 (i):fn26.keep i=kp26 i:=rfl
attribute [simp] kp26
@[simp] theorem ntmps_27:fn27.ntmps=8:=rfl
@[simp] theorem results_27:fn27.results=[.cell 2 29,.tmp 3]:=rfl
theorem body_27:fn27.body=c27:=rfl
@[simp] theorem dyn_27:fn27.dyn=fun _ => []:=id rfl
@[simp] theorem opn_27:fn27.opn=opnT:=id rfl
@[simp] theorem keep_27 (i):fn27.keep i=kp27 i:=rfl
attribute [simp] kp27
@[simp] theorem ntmps_28:fn28.ntmps=11:=rfl
@[simp] theorem results_28:fn28.results=[.tmp 2]:=rfl
theorem body_28:fn28.body=c28:=rfl
@[simp] theorem dyn_28:fn28.dyn=fun _ => []:=id rfl
@[simp] theorem opn_28:fn28.opn=opnT:=id rfl
@[simp] theorem keep_28 (i):fn28.keep i=kp28 i:=rfl
attribute [simp] kp28
@[simp] theorem ntmps_29:fn29.ntmps=28:=rfl
@[simp] theorem results_29:fn29.results=[.cell 2 37]:=rfl
theorem body_29:fn29.body=c29:=rfl
@[simp] theorem dyn_29:fn29.dyn=fun _ => []:=id rfl
@[simp] theorem opn_29:fn29.opn=fun _ => none:=id rfl
@[simp] theorem keep_29 (i):fn29.keep i=kp29 i:=rfl
attribute [simp] kp29
@[simp] theorem ntmps_30:fn30.ntmps=67:=rfl
@[simp] theorem results_30:fn30.results=[.cell 2 57]:=rfl
theorem body_30:fn30.body=c30:=rfl
@[simp] theorem dyn_30:fn30.dyn=fun _ => []:=id rfl
@[simp] theorem opn_30:fn30.opn=fun _ => none:=id rfl
@[simp] theorem keep_30 (i):fn30.keep i=kp30 i:=rfl
attribute [simp] kp30
@[simp] theorem head_30_3:fn30.head 3=some [1,2,3,4]:=rfl
@[simp] theorem ntmps_35:fn35.ntmps=17:=rfl
@[simp] theorem results_35:fn35.results=[.cell 4 41]:=rfl
theorem body_35:fn35.body=c35:=rfl
@[simp] theorem dyn_35:fn35.dyn=fun _ => []:=id rfl
@[simp] theorem opn_35:fn35.opn=fun _ => none:=id rfl
@[simp] theorem keep_35 (i):fn35.keep i=kp35 i:=rfl
attribute [simp] kp35
@[simp] theorem ntmps_36:fn36.ntmps=83:=rfl
@[simp] theorem results_36:fn36.results=[.tmp 6,.cell 7 41]:=rfl
theorem body_36:fn36.body=c36:=rfl
@[simp] theorem dyn_36:fn36.dyn=fun _ => []:=id rfl
@[simp] theorem opn_36:fn36.opn=fun _ => none:=id rfl
@[simp] theorem keep_36 (i):fn36.keep i=kp36 i:=rfl
attribute [simp] kp36
@[simp] theorem head_36_8:fn36.head 8=some [2,3,7,8,9,10]:=rfl
@[simp] theorem ntmps_39:fn39.ntmps=20:=rfl
@[simp] theorem results_39:fn39.results=[.cell 2 35]:=rfl
theorem body_39:fn39.body=c39:=rfl
@[simp] theorem dyn_39:fn39.dyn=fun _ => []:=id rfl
@[simp] theorem opn_39:fn39.opn=fun _ => none:=id rfl
@[simp] theorem keep_39 (i):fn39.keep i=kp39 i:=rfl
attribute [simp] kp39
@[simp] theorem ntmps_65:fn65.ntmps=88:=rfl
@[simp] theorem results_65:fn65.results=[.tmp 2]:=rfl
theorem body_65:fn65.body=c65:=rfl
@[simp] theorem dyn_65:fn65.dyn=fun _ => []:=id rfl
@[simp] theorem opn_65:fn65.opn=fun _ => none:=id rfl
@[simp] theorem keep_65 (i):fn65.keep i=kp65 i:=rfl
attribute [simp] kp65
@[simp] theorem head_65_3:fn65.head 3=some [1,3,4]:=rfl
@[simp] theorem head_65_17:fn65.head 17=some [3,6,8,9]:=rfl
@[simp] theorem ntmps_66:fn66.ntmps=79:=rfl
@[simp] theorem results_66:fn66.results=[.cell 2 35,.tmp 3]:=rfl
theorem body_66:fn66.body=c66:=rfl
@[simp] theorem dyn_66:fn66.dyn=fun _ => []:=id rfl
@[simp] theorem opn_66:fn66.opn=fun _ => none:=id rfl
@[simp] theorem keep_66 (i):fn66.keep i=kp66 i:=rfl
attribute [simp] kp66
@[simp] theorem head_66_7:fn66.head 7=some [2,4,5,6,14,15,16]:=rfl
@[simp] theorem ntmps_67:fn67.ntmps=2:=rfl
@[simp] theorem results_67:fn67.results=[.cell 0 25]:=rfl
theorem body_67:fn67.body=c67:=rfl
@[simp] theorem dyn_67:fn67.dyn=fun _ => []:=id rfl
@[simp] theorem opn_67:fn67.opn=fun _ => none:=id rfl
@[simp] theorem keep_67 (i):fn67.keep i=kp67 i:=rfl
attribute [simp] kp67
@[simp] theorem ntmps_68:fn68.ntmps=9:=rfl
@[simp] theorem results_68:fn68.results=[.cell 4 41]:=rfl
theorem body_68:fn68.body=c68:=rfl
@[simp] theorem dyn_68:fn68.dyn=fun _ => []:=id rfl
@[simp] theorem opn_68:fn68.opn=fun _ => none:=id rfl
@[simp] theorem keep_68 (i):fn68.keep i=kp68 i:=rfl
attribute [simp] kp68
@[simp] theorem ntmps_69:fn69.ntmps=83:=rfl
@[simp] theorem results_69:fn69.results=[.tmp 6,.cell 7 41]:=rfl
theorem body_69:fn69.body=c69:=rfl
@[simp] theorem dyn_69:fn69.dyn=fun _ => []:=id rfl
@[simp] theorem opn_69:fn69.opn=opnT:=id rfl
@[simp] theorem keep_69 (i):fn69.keep i=kp69 i:=rfl
attribute [simp] kp69
@[simp] theorem head_69_8:fn69.head 8=some [3,7,8,9,27,28,29]:=rfl
@[simp] theorem ntmps_70:fn70.ntmps=9:=rfl
@[simp] theorem results_70:fn70.results=[.cell 2 29]:=rfl
theorem body_70:fn70.body=c70:=rfl
@[simp] theorem dyn_70:fn70.dyn=fun _ => []:=id rfl
@[simp] theorem opn_70:fn70.opn=fun _ => none:=id rfl
@[simp] theorem keep_70 (i):fn70.keep i=kp70 i:=rfl
attribute [simp] kp70
@[simp] theorem ntmps_71:fn71.ntmps=23:=rfl
@[simp] theorem results_71:fn71.results=[.cell 4 29,.tmp 5]:=rfl
theorem body_71:fn71.body=c71:=rfl
@[simp] theorem dyn_71:fn71.dyn=fun _ => []:=id rfl
@[simp] theorem opn_71:fn71.opn=opnT:=id rfl
@[simp] theorem keep_71 (i):fn71.keep i=kp71 i:=rfl
attribute [simp] kp71
@[simp] theorem ntmps_72:fn72.ntmps=45:=rfl
@[simp] theorem results_72:fn72.results=[.cell 2 29,.tmp 3]:=rfl
theorem body_72:fn72.body=c72:=rfl
@[simp] theorem dyn_72_9:fn72.dyn 9=[]:=id rfl
@[simp] theorem opn_72:fn72.opn=fun _ => none:=id rfl
@[simp] theorem keep_72 (i):fn72.keep i=kp72 i:=rfl
attribute [simp] kp72
@[simp] theorem ntmps_73:fn73.ntmps=13:=rfl
@[simp] theorem results_73:fn73.results=[.tmp 2,.cell 3 3,.cell 4 3]:=rfl
theorem body_73:fn73.body=c73:=rfl
@[simp] theorem dyn_73_4:fn73.dyn 4=[(1,3)]:=id rfl
@[simp] theorem opn_73:fn73.opn=opnT:=id rfl
@[simp] theorem keep_73 (i):fn73.keep i=kp73 i:=rfl
attribute [simp] kp73
@[simp] theorem ntmps_74:fn74.ntmps=29:=rfl
@[simp] theorem results_74:fn74.results=[.tmp 2]:=rfl
theorem body_74:fn74.body=c74:=rfl
@[simp] theorem dyn_74:fn74.dyn=fun _ => []:=id rfl
@[simp] theorem opn_74:fn74.opn=opn74:=id rfl
@[simp] theorem opn74_112:opn74 112=some ([false],false):=id rfl
@[simp] theorem keep_74 (i):fn74.keep i=kp74 i:=rfl
attribute [simp] kp74
@[simp] theorem head_74_3:fn74.head 3=some [1,3,4]:=rfl
@[simp] theorem ntmps_75:fn75.ntmps=19:=rfl
@[simp] theorem results_75:fn75.results=[.tmp 4,.tmp 5]:=rfl
theorem body_75:fn75.body=c75:=rfl
@[simp] theorem dyn_75:fn75.dyn=fun _ => []:=id rfl
@[simp] theorem opn_75:fn75.opn=fun _ => none:=id rfl
@[simp] theorem keep_75 (i):fn75.keep i=kp75 i:=rfl
attribute [simp] kp75
@[simp] theorem ntmps_76:fn76.ntmps=23:=rfl
@[simp] theorem results_76:fn76.results=[.cell 4 29,.tmp 5]:=rfl
theorem body_76:fn76.body=c76:=rfl
@[simp] theorem dyn_76:fn76.dyn=fun _ => []:=id rfl
@[simp] theorem opn_76:fn76.opn=opnT:=id rfl
@[simp] theorem keep_76 (i):fn76.keep i=kp76 i:=rfl
attribute [simp] kp76
@[simp] theorem ntmps_77:fn77.ntmps=40:=rfl
@[simp] theorem results_77:fn77.results=[.cell 2 29,.tmp 3]:=rfl
theorem body_77:fn77.body=c77:=rfl
@[simp] theorem dyn_77:fn77.dyn=fun _ => []:=id rfl
@[simp] theorem opn_77:fn77.opn=opnT:=id rfl
@[simp] theorem keep_77 (i):fn77.keep i=kp77 i:=rfl
attribute [simp] kp77
@[simp] theorem head_77_3:fn77.head 3=some [2,4,13,14,15]:=rfl
@[simp] theorem ntmps_78:fn78.ntmps=14:=rfl
@[simp] theorem results_78:fn78.results=[.cell 2 29]:=rfl
theorem body_78:fn78.body=c78:=rfl
@[simp] theorem dyn_78:fn78.dyn=fun _ => []:=id rfl
@[simp] theorem opn_78:fn78.opn=fun _ => none:=id rfl
@[simp] theorem keep_78 (i):fn78.keep i=kp78 i:=rfl
attribute [simp] kp78
@[simp] theorem ntmps_79:fn79.ntmps=18:=rfl
@[simp] theorem results_79:fn79.results=[.cell 4 29]:=rfl
theorem body_79:fn79.body=c79:=rfl
@[simp] theorem dyn_79:fn79.dyn=fun _ => []:=id rfl
@[simp] theorem opn_79:fn79.opn=fun _ => none:=id rfl
@[simp] theorem keep_79 (i):fn79.keep i=kp79 i:=rfl
attribute [simp] kp79
@[simp] theorem ntmps_90:fn90.ntmps=9:=rfl
@[simp] theorem results_90:fn90.results=[.tmp 2]:=rfl
theorem body_90:fn90.body=c90:=rfl
@[simp] theorem dyn_90:fn90.dyn=fun _ => []:=id rfl
@[simp] theorem opn_90:fn90.opn=fun _ => none:=id rfl
@[simp] theorem keep_90 (i):fn90.keep i=kp90 i:=rfl
attribute [simp] kp90
@[simp] theorem ntmps_112:fn112.ntmps=22:=rfl
@[simp] theorem results_112:fn112.results=[.tmp 2]:=rfl
theorem body_112:fn112.body=c112:=rfl
@[simp] theorem dyn_112:fn112.dyn=fun _ => []:=id rfl
@[simp] theorem opn_112:fn112.opn=fun _ => none:=id rfl
@[simp] theorem keep_112 (i):fn112.keep i=kp112 i:=rfl
attribute [simp] kp112
@[simp] theorem head_112_3:fn112.head 3=some [0,3]:=rfl
@[simp] theorem ntmps_113:fn113.ntmps=9:=rfl
@[simp] theorem results_113:fn113.results=[.tmp 2]:=rfl
theorem body_113:fn113.body=c113:=rfl
@[simp] theorem dyn_113:fn113.dyn=fun _ => []:=id rfl
@[simp] theorem opn_113:fn113.opn=fun _ => none:=id rfl
@[simp] theorem keep_113 (i):fn113.keep i=kp113 i:=rfl
attribute [simp] kp113
@[simp] theorem ntmps_114:fn114.ntmps=9:=rfl
@[simp] theorem results_114:fn114.results=[.cell 4 41]:=rfl
theorem body_114:fn114.body=c114:=rfl
@[simp] theorem dyn_114:fn114.dyn=fun _ => []:=id rfl
@[simp] theorem opn_114:fn114.opn=fun _ => none:=id rfl
@[simp] theorem keep_114 (i):fn114.keep i=kp114 i:=rfl
attribute [simp] kp114
@[simp] theorem ntmps_115:fn115.ntmps=14:=rfl
@[simp] theorem results_115:fn115.results=[.tmp 4]:=rfl
theorem body_115:fn115.body=c115:=rfl
@[simp] theorem dyn_115:fn115.dyn=fun _ => []:=id rfl
@[simp] theorem opn_115:fn115.opn=fun _ => none:=id rfl
@[simp] theorem keep_115 (i):fn115.keep i=kp115 i:=rfl
attribute [simp] kp115
@[simp] theorem ntmps_116:fn116.ntmps=27:=rfl
@[simp] theorem results_116:fn116.results=[.cell 4 29,.tmp 5]:=rfl
theorem body_116:fn116.body=c116:=rfl
@[simp] theorem dyn_116:fn116.dyn=fun _ => []:=id rfl
@[simp] theorem opn_116:fn116.opn=opn116:=id rfl
@[simp] theorem opn116_147:opn116 147=none:=id rfl
@[simp] theorem opn116_148:opn116 148=some ([false],false):=id rfl
@[simp] theorem keep_116 (i):fn116.keep i=kp116 i:=rfl
attribute [simp] kp116
@[simp] theorem head_116_3:fn116.head 3=some [2,4,9,10,11]:=rfl
@[simp] theorem ntmps_117:fn117.ntmps=43:=rfl
@[simp] theorem results_117:fn117.results=[.tmp 2,.tmp 3]:=rfl
theorem body_117:fn117.body=c117:=rfl
@[simp] theorem dyn_117:fn117.dyn=fun _ => []:=id rfl
@[simp] theorem opn_117:fn117.opn=opnT:=id rfl
@[simp] theorem keep_117 (i):fn117.keep i=kp117 i:=rfl
attribute [simp] kp117
@[simp] theorem head_117_8:fn117.head 8=some [5,27,28,29,35]:=rfl
@[simp] theorem ntmps_118:fn118.ntmps=19:=rfl
@[simp] theorem results_118:fn118.results=[.tmp 2]:=rfl
theorem body_118:fn118.body=c118:=rfl
@[simp] theorem dyn_118:fn118.dyn=fun _ => []:=id rfl
@[simp] theorem opn_118:fn118.opn=fun _ => none:=id rfl
@[simp] theorem keep_118 (i):fn118.keep i=kp118 i:=rfl
attribute [simp] kp118
@[simp] theorem ntmps_119:fn119.ntmps=10:=rfl
@[simp] theorem results_119:fn119.results=[.tmp 4]:=rfl
theorem body_119:fn119.body=c119:=rfl
@[simp] theorem dyn_119:fn119.dyn=fun _ => []:=id rfl
@[simp] theorem opn_119:fn119.opn=opnT:=id rfl
@[simp] theorem keep_119 (i):fn119.keep i=kp119 i:=rfl
attribute [simp] kp119
@[simp] theorem ntmps_120:fn120.ntmps=47:=rfl
@[simp] theorem results_120:fn120.results=[.tmp 6]:=rfl
theorem body_120:fn120.body=c120:=rfl
@[simp] theorem dyn_120:fn120.dyn=fun _ => []:=id rfl
@[simp] theorem opn_120:fn120.opn=fun _ => none:=id rfl
@[simp] theorem keep_120 (i):fn120.keep i=kp120 i:=rfl
attribute [simp] kp120
@[simp] theorem ntmps_121:fn121.ntmps=24:=rfl
@[simp] theorem results_121:fn121.results=[.tmp 2]:=rfl
theorem body_121:fn121.body=c121:=rfl
@[simp] theorem dyn_121:fn121.dyn=fun _ => []:=id rfl
@[simp] theorem opn_121:fn121.opn=fun _ => none:=id rfl
@[simp] theorem keep_121 (i):fn121.keep i=kp121 i:=rfl
attribute [simp] kp121
@[simp] theorem ntmps_122:fn122.ntmps=36:=rfl
@[simp] theorem results_122:fn122.results=[.tmp 4]:=rfl
theorem body_122:fn122.body=c122:=rfl
@[simp] theorem dyn_122:fn122.dyn=fun _ => []:=id rfl
@[simp] theorem opn_122:fn122.opn=fun _ => none:=id rfl
@[simp] theorem keep_122 (i):fn122.keep i=kp122 i:=rfl
attribute [simp] kp122
@[simp] theorem ntmps_123:fn123.ntmps=27:=rfl
@[simp] theorem results_123:fn123.results=[.tmp 4]:=rfl
theorem body_123:fn123.body=c123:=rfl
@[simp] theorem dyn_123:fn123.dyn=fun _ => []:=id rfl
@[simp] theorem opn_123:fn123.opn=fun _ => none:=id rfl
@[simp] theorem keep_123 (i):fn123.keep i=kp123 i:=rfl
attribute [simp] kp123
@[simp] theorem ntmps_124:fn124.ntmps=7:=rfl
@[simp] theorem results_124:fn124.results=[.tmp 2]:=rfl
theorem body_124:fn124.body=c124:=rfl
@[simp] theorem dyn_124:fn124.dyn=fun _ => []:=id rfl
@[simp] theorem opn_124:fn124.opn=fun _ => none:=id rfl
@[simp] theorem keep_124 (i):fn124.keep i=kp124 i:=rfl
attribute [simp] kp124
@[simp] theorem ntmps_125:fn125.ntmps=8:=rfl
@[simp] theorem results_125:fn125.results=[.cell 1 29,.tmp 2]:=rfl
theorem body_125:fn125.body=c125:=rfl
@[simp] theorem dyn_125:fn125.dyn=fun _ => []:=id rfl
@[simp] theorem opn_125:fn125.opn=fun _ => none:=id rfl
@[simp] theorem keep_125 (i):fn125.keep i=kp125 i:=rfl
attribute [simp] kp125
@[simp] theorem ntmps_126:fn126.ntmps=10:=rfl
@[simp] theorem results_126:fn126.results=[.cell 1 29,.tmp 2]:=rfl
theorem body_126:fn126.body=c126:=rfl
@[simp] theorem dyn_126:fn126.dyn=fun _ => []:=id rfl
@[simp] theorem opn_126:fn126.opn=fun _ => none:=id rfl
@[simp] theorem keep_126 (i):fn126.keep i=kp126 i:=rfl
attribute [simp] kp126
@[simp] theorem ntmps_127:fn127.ntmps=87:=rfl
@[simp] theorem results_127:fn127.results=[.tmp 6,.tmp 7]:=rfl
theorem body_127:fn127.body=c127:=rfl
@[simp] theorem opn_127:fn127.opn=fun _ => none:=id rfl
@[simp] theorem keep_127 (i):fn127.keep i=kp127 i:=rfl
attribute [simp] kp127
@[simp] theorem head_127_2:fn127.head 2=some [0,1,2,8]:=rfl
@[simp] theorem ntmps_128:fn128.ntmps=33:=rfl
@[simp] theorem results_128:fn128.results=[.cell 2 25]:=rfl
theorem body_128:fn128.body=c128:=rfl
@[simp] theorem dyn_128:fn128.dyn=fun _ => []:=id rfl
@[simp] theorem opn_128:fn128.opn=fun _ => none:=id rfl
@[simp] theorem keep_128 (i):fn128.keep i=kp128 i:=rfl
attribute [simp] kp128
@[simp] theorem ntmps_131:fn131.ntmps=9:=rfl
@[simp] theorem results_131:fn131.results=[.tmp 2]:=rfl
theorem body_131:fn131.body=c131:=rfl
@[simp] theorem dyn_131:fn131.dyn=fun _ => []:=id rfl
@[simp] theorem opn_131:fn131.opn=fun _ => none:=id rfl
@[simp] theorem keep_131 (i):fn131.keep i=kp131 i:=rfl
attribute [simp] kp131
@[simp] theorem ntmps_147:fn147.ntmps=21:=rfl
@[simp] theorem results_147:fn147.results=[.cell 4 29,.tmp 5]:=rfl
theorem body_147:fn147.body=c147:=rfl
@[simp] theorem dyn_147:fn147.dyn=fun _ => []:=id rfl
@[simp] theorem opn_147:fn147.opn=fun _ => none:=id rfl
@[simp] theorem keep_147 (i):fn147.keep i=kp147 i:=rfl
attribute [simp] kp147
@[simp] theorem ntmps_148:fn148.ntmps=32:=rfl
@[simp] theorem results_148:fn148.results=[.cell 2 29]:=rfl
theorem body_148:fn148.body=c148:=rfl
@[simp] theorem dyn_148:fn148.dyn=fun _ => []:=id rfl
@[simp] theorem opn_148:fn148.opn=opn148:=id rfl
@[simp] theorem opn148_131:opn148 131=some ([true],false):=id rfl
@[simp] theorem opn148_148:opn148 148=none:=id rfl
@[simp] theorem opn148_165:opn148 165=some ([false],false):=id rfl
@[simp] theorem keep_148 (i):fn148.keep i=kp148 i:=rfl
attribute [simp] kp148
@[simp] theorem head_148_4:fn148.head 4=some [1,2,3,16,17,18]:=rfl
@[simp] theorem ntmps_149:fn149.ntmps=8:=rfl
@[simp] theorem results_149:fn149.results=[.tmp 2]:=rfl
theorem body_149:fn149.body=c149:=rfl
@[simp] theorem dyn_149:fn149.dyn=fun _ => []:=id rfl
@[simp] theorem opn_149:fn149.opn=fun _ => none:=id rfl
@[simp] theorem keep_149 (i):fn149.keep i=kp149 i:=rfl
attribute [simp] kp149
@[simp] theorem ntmps_150:fn150.ntmps=13:=rfl
@[simp] theorem results_150:fn150.results=[.tmp 2]:=rfl
theorem body_150:fn150.body=c150:=rfl
@[simp] theorem dyn_150:fn150.dyn=fun _ => []:=id rfl
@[simp] theorem opn_150:fn150.opn=fun _ => none:=id rfl
@[simp] theorem keep_150 (i):fn150.keep i=kp150 i:=rfl
attribute [simp] kp150
@[simp] theorem ntmps_151:fn151.ntmps=4:=rfl
@[simp] theorem results_151:fn151.results=[.tmp 2]:=rfl
theorem body_151:fn151.body=c151:=rfl
@[simp] theorem dyn_151:fn151.dyn=fun _ => []:=id rfl
@[simp] theorem opn_151:fn151.opn=fun _ => none:=id rfl
@[simp] theorem keep_151 (i):fn151.keep i=kp151 i:=rfl
attribute [simp] kp151
@[simp] theorem ntmps_152:fn152.ntmps=34:=rfl
@[simp] theorem results_152:fn152.results=[.tmp 6]:=rfl
theorem body_152:fn152.body=c152:=rfl
@[simp] theorem dyn_152:fn152.dyn=fun _ => []:=id rfl
@[simp] theorem opn_152:fn152.opn=opnT:=id rfl
@[simp] theorem keep_152 (i):fn152.keep i=kp152 i:=rfl
attribute [simp] kp152
@[simp] theorem head_152_5:fn152.head 5=some [1,3,19,20,21]:=rfl
@[simp] theorem ntmps_154:fn154.ntmps=65:=rfl
@[simp] theorem results_154:fn154.results=[.tmp 2,.tmp 3,.tmp 4]:=rfl
theorem body_154:fn154.body=c154:=rfl
@[simp] theorem dyn_154:fn154.dyn=fun _ => []:=id rfl
@[simp] theorem opn_154:fn154.opn=fun _ => none:=id rfl
@[simp] theorem keep_154 (i):fn154.keep i=kp154 i:=rfl
attribute [simp] kp154
@[simp] theorem ntmps_157:fn157.ntmps=22:=rfl
@[simp] theorem results_157:fn157.results=[.tmp 4]:=rfl
theorem body_157:fn157.body=c157:=rfl
@[simp] theorem dyn_157:fn157.dyn=fun _ => []:=id rfl
@[simp] theorem opn_157:fn157.opn=fun _ => none:=id rfl
@[simp] theorem keep_157 (i):fn157.keep i=kp157 i:=rfl
attribute [simp] kp157
@[simp] theorem ntmps_159:fn159.ntmps=42:=rfl
@[simp] theorem results_159:fn159.results=[.tmp 2,.tmp 3]:=rfl
theorem body_159:fn159.body=c159:=rfl
@[simp] theorem dyn_159:fn159.dyn=fun _ => []:=id rfl
@[simp] theorem opn_159:fn159.opn=fun _ => none:=id rfl
@[simp] theorem keep_159 (i):fn159.keep i=kp159 i:=rfl
attribute [simp] kp159
@[simp] theorem ntmps_160:fn160.ntmps=50:=rfl
@[simp] theorem results_160:fn160.results=[.tmp 2,.tmp 3]:=rfl
theorem body_160:fn160.body=c160:=rfl
@[simp] theorem dyn_160:fn160.dyn=fun _ => []:=id rfl
@[simp] theorem opn_160:fn160.opn=fun _ => none:=id rfl
@[simp] theorem keep_160 (i):fn160.keep i=kp160 i:=rfl
attribute [simp] kp160
@[simp] theorem ntmps_165:fn165.ntmps=8:=rfl
@[simp] theorem results_165:fn165.results=[.tmp 2]:=rfl
theorem body_165:fn165.body=c165:=rfl
@[simp] theorem dyn_165:fn165.dyn=fun _ => []:=id rfl
@[simp] theorem opn_165:fn165.opn=fun _ => none:=id rfl
@[simp] theorem keep_165 (i):fn165.keep i=kp165 i:=rfl
attribute [simp] kp165
@[simp] theorem ntmps_166:fn166.ntmps=31:=rfl
@[simp] theorem results_166:fn166.results=[]:=rfl
theorem body_166:fn166.body=c166:=rfl
@[simp] theorem dyn_166:fn166.dyn=fun _ => []:=id rfl
@[simp] theorem opn_166:fn166.opn=opnT:=id rfl
@[simp] theorem keep_166 (i):fn166.keep i=kp166 i:=rfl
attribute [simp] kp166
@[simp] theorem head_166_1:fn166.head 1=some [0,1,3]:=rfl
@[simp] theorem head_166_3:fn166.head 3=some [0,1,3]:=rfl
@[simp] theorem ntmps_168:fn168.ntmps=12:=rfl
@[simp] theorem results_168:fn168.results=[.tmp 2]:=rfl
theorem body_168:fn168.body=c168:=rfl
@[simp] theorem dyn_168:fn168.dyn=fun _ => []:=id rfl
@[simp] theorem opn_168:fn168.opn=fun _ => none:=id rfl
@[simp] theorem keep_168 (i):fn168.keep i=kp168 i:=rfl
attribute [simp] kp168
@[simp] theorem ntmps_169:fn169.ntmps=4:=rfl
@[simp] theorem results_169:fn169.results=[.tmp 2]:=rfl
theorem body_169:fn169.body=c169:=rfl
@[simp] theorem dyn_169:fn169.dyn=fun _ => []:=id rfl
@[simp] theorem opn_169:fn169.opn=fun _ => none:=id rfl
@[simp] theorem keep_169 (i):fn169.keep i=kp169 i:=rfl
attribute [simp] kp169
@[simp] theorem ntmps_181:fn181.ntmps=29:=rfl
@[simp] theorem results_181:fn181.results=[]:=rfl
theorem body_181:fn181.body=c181:=rfl
@[simp] theorem dyn_181:fn181.dyn=fun _ => []:=id rfl
@[simp] theorem opn_181:fn181.opn=opnT:=id rfl
@[simp] theorem keep_181 (i):fn181.keep i=kp181 i:=rfl
attribute [simp] kp181
@[simp] theorem head_181_1:fn181.head 1=some [0,1,3]:=rfl
@[simp] theorem head_181_3:fn181.head 3=some [0,1,3]:=rfl
@[simp] theorem E_fn3:E.fn 3=some fn3:=rfl
@[simp] theorem E_grd3:E.grd 3=none:=id rfl
@[simp] theorem opnT_3:opnT 3=none:=id rfl
@[simp] theorem E_fn4:E.fn 4=some fn4:=rfl
@[simp] theorem E_grd4:E.grd 4=none:=id rfl
@[simp] theorem opnT_4:opnT 4=none:=id rfl
@[simp] theorem E_fn13:E.fn 13=some fn13:=rfl
@[simp] theorem E_grd13:E.grd 13=none:=id rfl
@[simp] theorem opnT_13:opnT 13=some ([false,true,false],true):=id rfl
@[simp] theorem E_fn14:E.fn 14=some fn14:=rfl
@[simp] theorem E_grd14:E.grd 14=none:=id rfl
@[simp] theorem opnT_14:opnT 14=none:=id rfl
@[simp] theorem E_fn15:E.fn 15=some fn15:=rfl
@[simp] theorem E_grd15:E.grd 15=none:=id rfl
@[simp] theorem opnT_15:opnT 15=none:=id rfl
@[simp] theorem E_fn16:E.fn 16=some fn16:=rfl
@[simp] theorem E_grd16:E.grd 16=none:=id rfl
@[simp] theorem opnT_16:opnT 16=none:=id rfl
@[simp] theorem E_fn17:E.fn 17=some fn17:=rfl
@[simp] theorem E_grd17:E.grd 17=none:=id rfl
@[simp] theorem opnT_17:opnT 17=none:=id rfl
@[simp] theorem E_fn18:E.fn 18=some fn18:=rfl
@[simp] theorem E_grd18:E.grd 18=none:=id rfl
@[simp] theorem opnT_18:opnT 18=none:=id rfl
@[simp] theorem E_fn19:E.fn 19=some fn19:=rfl
@[simp] theorem E_grd19:E.grd 19=none:=id rfl
@[simp] theorem opnT_19:opnT 19=none:=id rfl
@[simp] theorem E_fn20:E.fn 20=some fn20:=rfl
@[simp] theorem E_grd20:E.grd 20=none:=id rfl
@[simp] theorem opnT_20:opnT 20=none:=id rfl
@[simp] theorem E_fn21:E.fn 21=some fn21:=rfl
@[simp] theorem E_grd21:E.grd 21=none:=id rfl
@[simp] theorem opnT_21:opnT 21=none:=id rfl
@[simp] theorem E_fn22:E.fn 22=some fn22:=rfl
@[simp] theorem E_grd22:E.grd 22=none:=id rfl
@[simp] theorem opnT_22:opnT 22=none:=id rfl
@[simp] theorem E_fn23:E.fn 23=some fn23:=rfl
@[simp] theorem E_grd23:E.grd 23=none:=id rfl
@[simp] theorem opnT_23:opnT 23=none:=id rfl
@[simp] theorem E_fn24:E.fn 24=some fn24:=rfl
@[simp] theorem E_grd24:E.grd 24=none:=id rfl
@[simp] theorem opnT_24:opnT 24=none:=id rfl
@[simp] theorem E_fn25:E.fn 25=some fn25:=rfl
@[simp] theorem E_grd25:E.grd 25=none:=id rfl
@[simp] theorem opnT_25:opnT 25=none:=id rfl
@[simp] theorem E_fn26:E.fn 26=some fn26:=rfl
@[simp] theorem E_grd26:E.grd 26=none:=id rfl
@[simp] theorem opnT_26:opnT 26=none:=id rfl
@[simp] theorem E_fn27:E.fn 27=some fn27:=rfl
@[simp] theorem E_grd27:E.grd 27=none:=id rfl
@[simp] theorem opnT_27:opnT 27=none:=id rfl
@[simp] theorem E_fn28:E.fn 28=some fn28:=rfl
@[simp] theorem E_grd28:E.grd 28=none:=id rfl
@[simp] theorem opnT_28:opnT 28=none:=id rfl
@[simp] theorem E_fn29:E.fn 29=some fn29:=rfl
@[simp] theorem E_grd29:E.grd 29=none:=id rfl
@[simp] theorem opnT_29:opnT 29=none:=id rfl
@[simp] theorem E_fn30:E.fn 30=some fn30:=rfl
@[simp] theorem E_grd30:E.grd 30=none:=id rfl
@[simp] theorem opnT_30:opnT 30=none:=id rfl
@[simp] theorem E_fn35:E.fn 35=some fn35:=rfl
@[simp] theorem E_grd35:E.grd 35=none:=id rfl
@[simp] theorem opnT_35:opnT 35=none:=id rfl
@[simp] theorem E_fn36:E.fn 36=some fn36:=rfl
@[simp] theorem E_grd36:E.grd 36=none:=id rfl
@[simp] theorem opnT_36:opnT 36=none:=id rfl
@[simp] theorem E_fn39:E.fn 39=some fn39:=rfl
@[simp] theorem E_grd39:E.grd 39=none:=id rfl
@[simp] theorem opnT_39:opnT 39=none:=id rfl
@[simp] theorem E_fn65:E.fn 65=some fn65:=rfl
@[simp] theorem E_grd65:E.grd 65=none:=id rfl
@[simp] theorem opnT_65:opnT 65=none:=id rfl
@[simp] theorem E_fn66:E.fn 66=some fn66:=rfl
@[simp] theorem E_grd66:E.grd 66=none:=id rfl
@[simp] theorem opnT_66:opnT 66=none:=id rfl
@[simp] theorem E_fn67:E.fn 67=some fn67:=rfl
@[simp] theorem E_grd67:E.grd 67=none:=id rfl
@[simp] theorem opnT_67:opnT 67=none:=id rfl
@[simp] theorem E_fn68:E.fn 68=some fn68:=rfl
@[simp] theorem E_grd68:E.grd 68=none:=id rfl
@[simp] theorem opnT_68:opnT 68=none:=id rfl
@[simp] theorem E_fn69:E.fn 69=some fn69:=rfl
@[simp] theorem E_grd69:E.grd 69=none:=id rfl
@[simp] theorem opnT_69:opnT 69=none:=id rfl
@[simp] theorem E_fn70:E.fn 70=some fn70:=rfl
@[simp] theorem E_grd70:E.grd 70=none:=id rfl
@[simp] theorem opnT_70:opnT 70=none:=id rfl
@[simp] theorem E_fn71:E.fn 71=some fn71:=rfl
@[simp] theorem E_grd71:E.grd 71=none:=id rfl
@[simp] theorem opnT_71:opnT 71=some ([false,true],true):=id rfl
@[simp] theorem E_fn72:E.fn 72=some fn72:=rfl
@[simp] theorem E_grd72:E.grd 72=none:=id rfl
@[simp] theorem opnT_72:opnT 72=none:=id rfl
@[simp] theorem E_fn73:E.fn 73=some fn73:=rfl
@[simp] theorem E_grd73:E.grd 73=none:=id rfl
@[simp] theorem opnT_73:opnT 73=none:=id rfl
@[simp] theorem E_fn74:E.fn 74=some fn74:=rfl
@[simp] theorem E_grd74:E.grd 74=none:=id rfl
@[simp] theorem opnT_74:opnT 74=none:=id rfl
@[simp] theorem E_fn75:E.fn 75=some fn75:=rfl
@[simp] theorem E_grd75:E.grd 75=none:=id rfl
@[simp] theorem opnT_75:opnT 75=none:=id rfl
@[simp] theorem E_fn76:E.fn 76=some fn76:=rfl
@[simp] theorem E_grd76:E.grd 76=none:=id rfl
@[simp] theorem opnT_76:opnT 76=some ([false,true],true):=id rfl
@[simp] theorem E_fn77:E.fn 77=some fn77:=rfl
@[simp] theorem E_grd77:E.grd 77=none:=id rfl
@[simp] theorem opnT_77:opnT 77=none:=id rfl
@[simp] theorem E_fn78:E.fn 78=some fn78:=rfl
@[simp] theorem E_grd78:E.grd 78=none:=id rfl
@[simp] theorem opnT_78:opnT 78=none:=id rfl
@[simp] theorem E_fn79:E.fn 79=some fn79:=rfl
@[simp] theorem E_grd79:E.grd 79=none:=id rfl
@[simp] theorem opnT_79:opnT 79=none:=id rfl
@[simp] theorem E_fn90:E.fn 90=some fn90:=rfl
@[simp] theorem E_grd90:E.grd 90=none:=id rfl
@[simp] theorem opnT_90:opnT 90=none:=id rfl
@[simp] theorem E_fn112:E.fn 112=some fn112:=rfl
@[simp] theorem E_grd112:E.grd 112=none:=id rfl
@[simp] theorem opnT_112:opnT 112=none:=id rfl
@[simp] theorem E_fn113:E.fn 113=some fn113:=rfl
@[simp] theorem E_grd113:E.grd 113=none:=id rfl
@[simp] theorem opnT_113:opnT 113=none:=id rfl
@[simp] theorem E_fn114:E.fn 114=some fn114:=rfl
@[simp] theorem E_grd114:E.grd 114=none:=id rfl
@[simp] theorem opnT_114:opnT 114=none:=id rfl
@[simp] theorem E_fn115:E.fn 115=some fn115:=rfl
@[simp] theorem E_grd115:E.grd 115=none:=id rfl
@[simp] theorem opnT_115:opnT 115=none:=id rfl
@[simp] theorem E_fn116:E.fn 116=some fn116:=rfl
@[simp] theorem E_grd116:E.grd 116=none:=id rfl
@[simp] theorem opnT_116:opnT 116=none:=id rfl
@[simp] theorem E_fn117:E.fn 117=some fn117:=rfl
@[simp] theorem E_grd117:E.grd 117=none:=id rfl
@[simp] theorem opnT_117:opnT 117=none:=id rfl
@[simp] theorem E_fn118:E.fn 118=some fn118:=rfl
@[simp] theorem E_grd118:E.grd 118=none:=id rfl
@[simp] theorem opnT_118:opnT 118=none:=id rfl
@[simp] theorem E_fn119:E.fn 119=some fn119:=rfl
@[simp] theorem E_grd119:E.grd 119=none:=id rfl
@[simp] theorem opnT_119:opnT 119=some ([false,true],true):=id rfl
@[simp] theorem E_fn120:E.fn 120=some fn120:=rfl
@[simp] theorem E_grd120:E.grd 120=none:=id rfl
@[simp] theorem opnT_120:opnT 120=some ([false,false,true,true],true):=id rfl
@[simp] theorem E_fn121:E.fn 121=some fn121:=rfl
@[simp] theorem E_grd121:E.grd 121=none:=id rfl
@[simp] theorem opnT_121:opnT 121=none:=id rfl
@[simp] theorem E_fn122:E.fn 122=some fn122:=rfl
@[simp] theorem E_grd122:E.grd 122=none:=id rfl
@[simp] theorem opnT_122:opnT 122=none:=id rfl
@[simp] theorem E_fn123:E.fn 123=some fn123:=rfl
@[simp] theorem E_grd123:E.grd 123=none:=id rfl
@[simp] theorem opnT_123:opnT 123=none:=id rfl
@[simp] theorem E_fn124:E.fn 124=some fn124:=rfl
@[simp] theorem E_grd124:E.grd 124=none:=id rfl
@[simp] theorem opnT_124:opnT 124=none:=id rfl
@[simp] theorem E_fn125:E.fn 125=some fn125:=rfl
@[simp] theorem E_grd125:E.grd 125=none:=id rfl
@[simp] theorem opnT_125:opnT 125=some ([true],true):=id rfl
@[simp] theorem E_fn126:E.fn 126=some fn126:=rfl
@[simp] theorem E_grd126:E.grd 126=none:=id rfl
@[simp] theorem opnT_126:opnT 126=some ([true],true):=id rfl
@[simp] theorem E_fn127:E.fn 127=some fn127:=rfl
@[simp] theorem E_grd127:E.grd 127=none:=id rfl
@[simp] theorem opnT_127:opnT 127=none:=id rfl
@[simp] theorem E_fn128:E.fn 128=some fn128:=rfl
@[simp] theorem E_grd128:E.grd 128=none:=id rfl
@[simp] theorem opnT_128:opnT 128=none:=id rfl
@[simp] theorem E_fn131:E.fn 131=some fn131:=rfl
@[simp] theorem E_grd131:E.grd 131=none:=id rfl
@[simp] theorem opnT_131:opnT 131=none:=id rfl
@[simp] theorem E_fn147:E.fn 147=some fn147:=rfl
@[simp] theorem E_grd147:E.grd 147=none:=id rfl
@[simp] theorem opnT_147:opnT 147=none:=id rfl
@[simp] theorem E_fn148:E.fn 148=some fn148:=rfl
@[simp] theorem E_grd148:E.grd 148=none:=id rfl
@[simp] theorem opnT_148:opnT 148=none:=id rfl
@[simp] theorem E_fn149:E.fn 149=some fn149:=rfl
@[simp] theorem E_grd149:E.grd 149=none:=id rfl
@[simp] theorem opnT_149:opnT 149=none:=id rfl
@[simp] theorem E_fn150:E.fn 150=some fn150:=rfl
@[simp] theorem E_grd150:E.grd 150=none:=id rfl
@[simp] theorem opnT_150:opnT 150=some ([true],true):=id rfl
@[simp] theorem E_fn151:E.fn 151=some fn151:=rfl
@[simp] theorem E_grd151:E.grd 151=none:=id rfl
@[simp] theorem opnT_151:opnT 151=none:=id rfl
@[simp] theorem E_fn152:E.fn 152=some fn152:=rfl
@[simp] theorem E_grd152:E.grd 152=none:=id rfl
@[simp] theorem opnT_152:opnT 152=some ([false,false,true,true],true):=id rfl
@[simp] theorem E_fn154:E.fn 154=some fn154:=rfl
@[simp] theorem E_grd154:E.grd 154=none:=id rfl
@[simp] theorem opnT_154:opnT 154=none:=id rfl
@[simp] theorem E_fn157:E.fn 157=some fn157:=rfl
@[simp] theorem E_grd157:E.grd 157=none:=id rfl
@[simp] theorem opnT_157:opnT 157=none:=id rfl
@[simp] theorem E_fn159:E.fn 159=some fn159:=rfl
@[simp] theorem E_grd159:E.grd 159=none:=id rfl
@[simp] theorem opnT_159:opnT 159=none:=id rfl
@[simp] theorem E_fn160:E.fn 160=some fn160:=rfl
@[simp] theorem E_grd160:E.grd 160=none:=id rfl
@[simp] theorem opnT_160:opnT 160=none:=id rfl
@[simp] theorem E_fn165:E.fn 165=some fn165:=rfl
@[simp] theorem E_grd165:E.grd 165=none:=id rfl
@[simp] theorem opnT_165:opnT 165=none:=id rfl
@[simp] theorem E_fn166:E.fn 166=some fn166:=rfl
@[simp] theorem E_grd166:E.grd 166=none:=id rfl
@[simp] theorem opnT_166:opnT 166=some ([true,true],true):=id rfl
@[simp] theorem E_fn168:E.fn 168=some fn168:=rfl
@[simp] theorem E_grd168:E.grd 168=none:=id rfl
@[simp] theorem opnT_168:opnT 168=none:=id rfl
@[simp] theorem E_fn169:E.fn 169=some fn169:=rfl
@[simp] theorem E_grd169:E.grd 169=none:=id rfl
@[simp] theorem opnT_169:opnT 169=none:=id rfl
@[simp] theorem E_fn181:E.fn 181=some fn181:=rfl
@[simp] theorem E_grd181:E.grd 181=none:=id rfl
@[simp] theorem opnT_181:opnT 181=some ([true,true],true):=id rfl
@[simp] theorem E_ty1:E.ty 1=some ⟨.func,1,8,[.nilf],false⟩:=rfl
@[simp] theorem E_ty2:E.ty 2=some ⟨.int .i64,1,8,[.int .i64 0],false⟩:=rfl
@[simp] theorem E_ty3:E.ty 3=some ⟨.int .i64,1,8,[.int .i64 0],false⟩:=rfl
@[simp] theorem E_ty4:E.ty 4=some ⟨.bool,1,1,[.bool false],false⟩:=rfl
@[simp] theorem E_ty5:E.ty 5=some ⟨.int .u8,1,1,[.int .u8 0],false⟩:=rfl
@[simp] theorem E_ty6:E.ty 6=some ⟨.int .u8,1,1,[.int .u8 0],false⟩:=rfl
@[simp] theorem E_ty7:E.ty 7=some ⟨.strct [(0,2),(1,3),(2,4),(3,6)],4,24,[.int .i64 0,.int .i64 0,.bool false,.int .u8 0],false⟩:=rfl
@[simp] theorem E_ty8:E.ty 8=some ⟨.strct [(0,2),(1,3),(2,4),(3,6)],4,24,[.int .i64 0,.int .i64 0,.bool false,.int .u8 0],false⟩:=rfl
@[simp] theorem E_ty9:E.ty 9=some ⟨.str,1,16,[.str []],false⟩:=rfl
@[simp] theorem E_ty10:E.ty 10=some ⟨.str,1,16,[.str []],false⟩:=rfl
@[simp] theorem E_ty11:E.ty 11=some ⟨.str,1,16,[.str []],false⟩:=rfl
@[simp] theorem E_ty12:E.ty 12=some ⟨.int .u64,1,8,[.int .u64 0],false⟩:=rfl
@[simp] theorem E_ty13:E.ty 13=some ⟨.strct [(0,9),(1,12)],2,24,[.str [],.int .u64 0],false⟩:=rfl
@[simp] theorem E_ty14:E.ty 14=some ⟨.strct [(0,9),(1,12)],2,24,[.str [],.int .u64 0],false⟩:=rfl
@[simp] theorem E_ty15:E.ty 15=some ⟨.ptr 253,1,8,[.nilp],false⟩:=rfl
@[simp] theorem E_ty16:E.ty 16=some ⟨.ptr 256,1,8,[.nilp],false⟩:=rfl
@[simp] theorem E_ty17:E.ty 17=some ⟨.ptr 265,1,8,[.nilp],false⟩:=rfl
@[simp] theorem E_ty18:E.ty 18=some ⟨.strct [(0,17)],1,8,[.nilp],false⟩:=rfl
@[simp] theorem E_ty19:E.ty 19=some ⟨.strct [(0,17)],1,8,[.nilp],false⟩:=rfl
@[simp] theorem E_ty20:E.ty 20=some ⟨.iface true,1,16,[.nili],false⟩:=rfl
@[simp] theorem E_ty21:E.ty 21=some ⟨.int .i32,1,4,[.int .i32 0],false⟩:=rfl
@[simp] theorem E_ty22:E.ty 22=some ⟨.int .u8,1,1,[.int .u8 0],false⟩:=rfl
@[simp] theorem E_ty23:E.ty 23=some ⟨.int .u32,1,4,[.int .u32 0],false⟩:=rfl
@[simp] theorem E_ty24:E.ty 24=some ⟨.strct [(0,22),(1,4),(2,23)],3,8,[.int .u8 0,.bool false,.int .u32 0],false⟩:=rfl
@[simp] theorem E_ty25:E.ty 25=some ⟨.strct [(0,22),(1,4),(2,23)],3,8,[.int .u8 0,.bool false,.int .u32 0],true⟩:=rfl
@[simp] theorem E_ty26:E.ty 26=some ⟨.slice 5,1,24,[.sl true [] (some 0)],false⟩:=rfl
@[simp] theorem E_ty27:E.ty 27=some ⟨.slice 29,1,24,[.sl true [] (some 0)],false⟩:=rfl
@[simp] theorem E_ty28:E.ty 28=some ⟨.strct [(0,25),(3,26),(4,27)],5,56,[.int .u8 0,.bool false,.int .u32 0,.sl true [] (some 0),.sl true [] (some 0)],false⟩:=rfl
@[simp] theorem E_ty29:E.ty 29=some ⟨.strct [(0,25),(3,26),(4,27)],5,56,[.int .u8 0,.bool false,.int .u32 0,.sl true [] (some 0),.sl true [] (some 0)],false⟩:=rfl
@[simp] theorem E_ty30:E.ty 30=some ⟨.func,1,8,[.nilf],false⟩:=rfl
@[simp] theorem E_ty31:E.ty 31=some ⟨.ptr 3,1,8,[.nilp],false⟩:=rfl
@[simp] theorem E_ty32:E.ty 32=some ⟨.func,1,8,[.nilf],false⟩:=rfl
@[simp] theorem E_ty33:E.ty 33=some ⟨.arr 16 23,16,64,[.int .u32 0,.int .u32 0,.int .u32 0,.int .u32 0,.int .u32 0,.int .u32 0,.int .u32 0,.int .u32 0,.int .u32 0,.int .u32 0,.int .u32 0,.int .u32 0,.int .u32 0,.int .u32 0,.int .u32 0,.int .u32 0],false⟩:=rfl
@[simp] theorem E_ty34:E.ty 34=some ⟨.strct [(0,5),(1,33)],17,68,[.int .u8 0,.int .u32 0,.int .u32 0,.int .u32 0,.int .u32 0,.int .u32 0,.int .u32 0,.int .u32 0,.int .u32 0,.int .u32 0,.int .u32 0,.int .u32 0,.int .u32 0,.int .u32 0,.int .u32 0,.int .u32 0,.int .u32 0],false⟩:=rfl
@[simp] theorem E_ty35:E.ty 35=some ⟨.strct [(0,5),(1,33)],17,68,[.int .u8 0,.int .u32 0,.int .u32 0,.int .u32 0,.int .u32 0,.int .u32 0,.int .u32 0,.int .u32 0,.int .u32 0,.int .u32 0,.int .u32 0,.int .u32 0,.int .u32 0,.int .u32 0,.int .u32 0,.int .u32 0,.int .u32 0],true⟩:=rfl
@[simp] theorem E_ty36:E.ty 36=some ⟨.strct [(0,35),(17,4),(18,29)],23,128,[.int .u8 0,.int .u32 0,.int .u32 0,.int .u32 0,.int .u32 0,.int .u32 0,.int .u32 0,.int .u32 0,.int .u32 0,.int .u32 0,.int .u32 0,.int .u32 0,.int .u32 0,.int .u32 0,.int .u32 0,.int .u32 0,.int .u32 0,.bool false,.int .u8 0,.bool false,.int .u32 0,.sl true [] (some 0),.sl true [] (some 0)],false⟩:=rfl
@[simp] theorem E_ty37:E.ty 37=some ⟨.strct [(0,35),(17,4),(18,29)],23,128,[.int .u8 0,.int .u32 0,.int .u32 0,.int .u32 0,.int .u32 0,.int .u32 0,.int .u32 0,.int .u32 0,.int .u32 0,.int .u32 0,.int .u32 0,.int .u32 0,.int .u32 0,.int .u32 0,.int .u32 0,.int .u32 0,.int .u32 0,.bool false,.int .u8 0,.bool false,.int .u32 0,.sl true [] (some 0),.sl true [] (some 0)],false⟩:=rfl
@[simp] theorem E_ty38:E.ty 38=some ⟨.slice 3,1,24,[.sl true [] (some 0)],false⟩:=rfl
@[simp] theorem E_ty39:E.ty 39=some ⟨.int .i64,1,8,[.int .i64 0],false⟩:=rfl
@[simp] theorem E_ty40:E.ty 40=some ⟨.strct [(0,38),(1,39)],2,32,[.sl true [] (some 0),.int .i64 0],false⟩:=rfl
@[simp] theorem E_ty41:E.ty 41=some ⟨.strct [(0,38),(1,39)],2,32,[.sl true [] (some 0),.int .i64 0],false⟩:=rfl
@[simp] theorem E_ty43:E.ty 43=some ⟨.func,1,8,[.nilf],false⟩:=rfl
@[simp] theorem E_ty44:E.ty 44=some ⟨.func,1,8,[.nilf],false⟩:=rfl
@[simp] theorem E_ty45:E.ty 45=some ⟨.func,1,8,[.nilf],false⟩:=rfl
@[simp] theorem E_ty47:E.ty 47=some ⟨.func,1,8,[.nilf],false⟩:=rfl
@[simp] theorem E_ty48:E.ty 48=some ⟨.func,1,8,[.nilf],false⟩:=rfl
@[simp] theorem E_ty49:E.ty 49=some ⟨.func,1,8,[.nilf],false⟩:=rfl
@[simp] theorem E_ty50:E.ty 50=some ⟨.func,1,8,[.nilf],false⟩:=rfl
@[simp] theorem E_ty51:E.ty 51=some ⟨.func,1,8,[.nilf],false⟩:=rfl
@[simp] theorem E_ty52:E.ty 52=some ⟨.func,1,8,[.nilf],false⟩:=rfl
@[simp] theorem E_ty53:E.ty 53=some ⟨.func,1,8,[.nilf],false⟩:=rfl
@[simp] theorem E_ty54:E.ty 54=some ⟨.func,1,8,[.nilf],false⟩:=rfl
@[simp] theorem E_ty55:E.ty 55=some ⟨.func,1,8,[.nilf],false⟩:=rfl
@[simp] theorem E_ty56:E.ty 56=some ⟨.strct [(0,37),(23,26),(24,3)],25,160,[.int .u8 0,.int .u32 0,.int .u32 0,.int .u32 0,.int .u32 0,.int .u32 0,.int .u32 0,.int .u32 0,.int .u32 0,.int .u32 0,.int .u32 0,.int .u32 0,.int .u32 0,.int .u32 0,.int .u32 0,.int .u32 0,.int .u32 0,.bool false,.int .u8 0,.bool false,.int .u32 0,.sl true [] (some 0),.sl true [] (some 0),.sl true [] (some 0),.int .i64 0],false⟩:=rfl
@[simp] theorem E_ty57:E.ty 57=some ⟨.strct [(0,37),(23,26),(24,3)],25,160,[.int .u8 0,.int .u32 0,.int .u32 0,.int .u32 0,.int .u32 0,.int .u32 0,.int .u32 0,.int .u32 0,.int .u32 0,.int .u32 0,.int .u32 0,.int .u32 0,.int .u32 0,.int .u32 0,.int .u32 0,.int .u32 0,.int .u32 0,.bool false,.int .u8 0,.bool false,.int .u32 0,.sl true [] (some 0),.sl true [] (some 0),.sl true [] (some 0),.int .i64 0],false⟩:=rfl
@[simp] theorem E_ty58:E.ty 58=some ⟨.func,1,8,[.nilf],false⟩:=rfl
@[simp] theorem E_ty59:E.ty 59=some ⟨.func,1,8,[.nilf],false⟩:=rfl
@[simp] theorem E_ty60:E.ty 60=some ⟨.func,1,8,[.nilf],false⟩:=rfl
@[simp] theorem E_ty61:E.ty 61=some ⟨.strct [(0,5),(1,26),(2,26),(3,5)],4,64,[.int .u8 0,.sl true [] (some 0),.sl true [] (some 0),.int .u8 0],false⟩:=rfl
@[simp] theorem E_ty62:E.ty 62=some ⟨.strct [(0,5),(1,26),(2,26),(3,5)],4,64,[.int .u8 0,.sl true [] (some 0),.sl true [] (some 0),.int .u8 0],false⟩:=rfl
@[simp] theorem E_ty63:E.ty 63=some ⟨.func,1,8,[.nilf],false⟩:=rfl
@[simp] theorem E_ty64:E.ty 64=some ⟨.func,1,8,[.nilf],false⟩:=rfl
@[simp] theorem E_ty65:E.ty 65=some ⟨.func,1,8,[.nilf],false⟩:=rfl
@[simp] theorem E_ty66:E.ty 66=some ⟨.func,1,8,[.nilf],false⟩:=rfl
@[simp] theorem E_ty67:E.ty 67=some ⟨.func,1,8,[.nilf],false⟩:=rfl
@[simp] theorem E_ty68:E.ty 68=some ⟨.func,1,8,[.nilf],false⟩:=rfl
@[simp] theorem E_ty70:E.ty 70=some ⟨.func,1,8,[.nilf],false⟩:=rfl
@[simp] theorem E_ty71:E.ty 71=some ⟨.func,1,8,[.nilf],false⟩:=rfl
@[simp] theorem E_ty73:E.ty 73=some ⟨.func,1,8,[.nilf],false⟩:=rfl
@[simp] theorem E_ty74:E.ty 74=some ⟨.strct [(0,25),(3,4),(4,4)],5,12,[.int .u8 0,.bool false,.int .u32 0,.bool false,.bool false],false⟩:=rfl
@[simp] theorem E_ty75:E.ty 75=some ⟨.strct [(0,25),(3,4),(4,4)],5,12,[.int .u8 0,.bool false,.int .u32 0,.bool false,.bool false],false⟩:=rfl
@[simp] theorem E_ty76:E.ty 76=some ⟨.slice 75,1,24,[.sl true [] (some 0)],false⟩:=rfl
@[simp] theorem E_ty78:E.ty 78=some ⟨.func,1,8,[.nilf],false⟩:=rfl
@[simp] theorem E_ty79:E.ty 79=some ⟨.func,1,8,[.nilf],false⟩:=rfl
@[simp] theorem E_ty80:E.ty 80=some ⟨.func,1,8,[.nilf],false⟩:=rfl
@[simp] theorem E_ty81:E.ty 81=some ⟨.strct [(0,3),(1,3)],2,16,[.int .i64 0,.int .i64 0],false⟩:=rfl
@[simp] theorem E_ty82:E.ty 82=some ⟨.strct [(0,3),(1,3)],2,16,[.int .i64 0,.int .i64 0],true⟩:=rfl
@[simp] theorem E_ty84:E.ty 84=some ⟨.func,1,8,[.nilf],false⟩:=rfl
@[simp] theorem E_ty85:E.ty 85=some ⟨.func,1,8,[.nilf],false⟩:=rfl
@[simp] theorem E_ty86:E.ty 86=some ⟨.func,1,8,[.nilf],false⟩:=rfl
@[simp] theorem E_ty88:E.ty 88=some ⟨.func,1,8,[.nilf],false⟩:=rfl
@[simp] theorem E_ty90:E.ty 90=some ⟨.func,1,8,[.nilf],false⟩:=rfl
@[simp] theorem E_ty92:E.ty 92=some ⟨.func,1,8,[.nilf],false⟩:=rfl
@[simp] theorem E_ty93:E.ty 93=some ⟨.func,1,8,[.nilf],false⟩:=rfl
@[simp] theorem E_ty95:E.ty 95=some ⟨.func,1,8,[.nilf],false⟩:=rfl
@[simp] theorem E_ty97:E.ty 97=some ⟨.func,1,8,[.nilf],false⟩:=rfl
@[simp] theorem E_ty98:E.ty 98=some ⟨.func,1,8,[.nilf],false⟩:=rfl
@[simp] theorem E_ty99:E.ty 99=some ⟨.func,1,8,[.nilf],false⟩:=rfl
@[simp] theorem E_ty100:E.ty 100=some ⟨.slice 116,1,24,[.sl true [] (some 0)],false⟩:=rfl
@[simp] theorem E_ty102:E.ty 102=some ⟨.func,1,8,[.nilf],false⟩:=rfl
@[simp] theorem E_ty103:E.ty 103=some ⟨.func,1,8,[.nilf],false⟩:=rfl
@[simp] theorem E_ty104:E.ty 104=some ⟨.func,1,8,[.nilf],false⟩:=rfl
@[simp] theorem E_ty105:E.ty 105=some ⟨.slice 161,1,24,[.sl true [] (some 0)],false⟩:=rfl
@[simp] theorem E_ty106:E.ty 106=some ⟨.strct [(0,105)],1,24,[.sl true [] (some 0)],false⟩:=rfl
@[simp] theorem E_ty107:E.ty 107=some ⟨.strct [(0,105)],1,24,[.sl true [] (some 0)],false⟩:=rfl
@[simp] theorem E_ty108:E.ty 108=some ⟨.func,1,8,[.nilf],false⟩:=rfl
@[simp] theorem E_ty109:E.ty 109=some ⟨.func,1,8,[.nilf],false⟩:=rfl
@[simp] theorem E_ty110:E.ty 110=some ⟨.func,1,8,[.nilf],false⟩:=rfl
@[simp] theorem E_ty111:E.ty 111=some ⟨.func,1,8,[.nilf],false⟩:=rfl
@[simp] theorem E_ty112:E.ty 112=some ⟨.func,1,8,[.nilf],false⟩:=rfl
@[simp] theorem E_ty113:E.ty 113=some ⟨.slice 35,1,24,[.sl true [] (some 0)],false⟩:=rfl
@[simp] theorem E_ty114:E.ty 114=some ⟨.func,1,8,[.nilf],false⟩:=rfl
@[simp] theorem E_ty115:E.ty 115=some ⟨.strct [(0,35),(17,35)],34,136,[.int .u8 0,.int .u32 0,.int .u32 0,.int .u32 0,.int .u32 0,.int .u32 0,.int .u32 0,.int .u32 0,.int .u32 0,.int .u32 0,.int .u32 0,.int .u32 0,.int .u32 0,.int .u32 0,.int .u32 0,.int .u32 0,.int .u32 0,.int .u8 0,.int .u32 0,.int .u32 0,.int .u32 0,.int .u32 0,.int .u32 0,.int .u32 0,.int .u32 0,.int .u32 0,.int .u32 0,.int .u32 0,.int .u32 0,.int .u32 0,.int .u32 0,.int .u32 0,.int .u32 0,.int .u32 0],false⟩:=rfl
@[simp] theorem E_ty116:E.ty 116=some ⟨.strct [(0,35),(17,35)],34,136,[.int .u8 0,.int .u32 0,.int .u32 0,.int .u32 0,.int .u32 0,.int .u32 0,.int .u32 0,.int .u32 0,.int .u32 0,.int .u32 0,.int .u32 0,.int .u32 0,.int .u32 0,.int .u32 0,.int .u32 0,.int .u32 0,.int .u32 0,.int .u8 0,.int .u32 0,.int .u32 0,.int .u32 0,.int .u32 0,.int .u32 0,.int .u32 0,.int .u32 0,.int .u32 0,.int .u32 0,.int .u32 0,.int .u32 0,.int .u32 0,.int .u32 0,.int .u32 0,.int .u32 0,.int .u32 0],true⟩:=rfl
@[simp] theorem E_ty117:E.ty 117=some ⟨.func,1,8,[.nilf],false⟩:=rfl
@[simp] theorem E_ty118:E.ty 118=some ⟨.func,1,8,[.nilf],false⟩:=rfl
@[simp] theorem E_ty120:E.ty 120=some ⟨.func,1,8,[.nilf],false⟩:=rfl
@[simp] theorem E_ty121:E.ty 121=some ⟨.func,1,8,[.nilf],false⟩:=rfl
@[simp] theorem E_ty122:E.ty 122=some ⟨.func,1,8,[.nilf],false⟩:=rfl
@[simp] theorem E_ty123:E.ty 123=some ⟨.func,1,8,[.nilf],false⟩:=rfl
@[simp] theorem E_ty124:E.ty 124=some ⟨.slice 23,1,24,[.sl true [] (some 0)],false⟩:=rfl
@[simp] theorem E_ty126:E.ty 126=some ⟨.func,1,8,[.nilf],false⟩:=rfl
@[simp] theorem E_ty127:E.ty 127=some ⟨.func,1,8,[.nilf],false⟩:=rfl
@[simp] theorem E_ty128:E.ty 128=some ⟨.func,1,8,[.nilf],false⟩:=rfl
@[simp] theorem E_ty129:E.ty 129=some ⟨.func,1,8,[.nilf],false⟩:=rfl
@[simp] theorem E_ty130:E.ty 130=some ⟨.strct [(0,26)],1,24,[.sl true [] (some 0)],false⟩:=rfl
@[simp] theorem E_ty131:E.ty 131=some ⟨.strct [(0,26)],1,24,[.sl true [] (some 0)],false⟩:=rfl
@[simp] theorem E_ty132:E.ty 132=some ⟨.func,1,8,[.nilf],false⟩:=rfl
@[simp] theorem E_ty133:E.ty 133=some ⟨.func,1,8,[.nilf],false⟩:=rfl
@[simp] theorem E_ty134:E.ty 134=some ⟨.func,1,8,[.nilf],false⟩:=rfl
@[simp] theorem E_ty135:E.ty 135=some ⟨.func,1,8,[.nilf],false⟩:=rfl
@[simp] theorem E_ty136:E.ty 136=some ⟨.func,1,8,[.nilf],false⟩:=rfl
@[simp] theorem E_ty137:E.ty 137=some ⟨.func,1,8,[.nilf],false⟩:=rfl
@[simp] theorem E_ty138:E.ty 138=some ⟨.func,1,8,[.nilf],false⟩:=rfl
@[simp] theorem E_ty139:E.ty 139=some ⟨.func,1,8,[.nilf],false⟩:=rfl
@[simp] theorem E_ty140:E.ty 140=some ⟨.func,1,8,[.nilf],false⟩:=rfl
@[simp] theorem E_ty141:E.ty 141=some ⟨.arr 2 31,2,16,[.nilp,.nilp],false⟩:=rfl
@[simp] theorem E_ty142:E.ty 142=some ⟨.arr 2 3,2,16,[.int .i64 0,.int .i64 0],false⟩:=rfl
@[simp] theorem E_ty143:E.ty 143=some ⟨.func,1,8,[.nilf],false⟩:=rfl
@[simp] theorem E_ty144:E.ty 144=some ⟨.func,1,8,[.nilf],false⟩:=rfl
@[simp] theorem E_ty145:E.ty 145=some ⟨.func,1,8,[.nilf],false⟩:=rfl
@[simp] theorem E_ty146:E.ty 146=some ⟨.func,1,8,[.nilf],false⟩:=rfl
@[simp] theorem E_ty147:E.ty 147=some ⟨.func,1,8,[.nilf],false⟩:=rfl
@[simp] theorem E_ty149:E.ty 149=some ⟨.func,1,8,[.nilf],false⟩:=rfl
@[simp] theorem E_ty150:E.ty 150=some ⟨.func,1,8,[.nilf],false⟩:=rfl
@[simp] theorem E_ty151:E.ty 151=some ⟨.func,1,8,[.nilf],false⟩:=rfl
@[simp] theorem E_ty152:E.ty 152=some ⟨.func,1,8,[.nilf],false⟩:=rfl
@[simp] theorem E_ty153:E.ty 153=some ⟨.func,1,8,[.nilf],false⟩:=rfl
@[simp] theorem E_ty154:E.ty 154=some ⟨.func,1,8,[.nilf],false⟩:=rfl
@[simp] theorem E_ty156:E.ty 156=some ⟨.func,1,8,[.nilf],false⟩:=rfl
@[simp] theorem E_ty157:E.ty 157=some ⟨.func,1,8,[.nilf],false⟩:=rfl
@[simp] theorem E_ty158:E.ty 158=some ⟨.func,1,8,[.nilf],false⟩:=rfl
@[simp] theorem E_ty159:E.ty 159=some ⟨.func,1,8,[.nilf],false⟩:=rfl
@[simp] theorem E_ty160:E.ty 160=some ⟨.func,1,8,[.nilf],false⟩:=rfl
@[simp] theorem E_ty161:E.ty 161=some ⟨.arr 2 5,2,2,[.int .u8 0,.int .u8 0],false⟩:=rfl
@[simp] theorem E_ty162:E.ty 162=some ⟨.func,1,8,[.nilf],false⟩:=rfl
@[simp] theorem E_ty163:E.ty 163=some ⟨.func,1,8,[.nilf],false⟩:=rfl
@[simp] theorem E_ty164:E.ty 164=some ⟨.func,1,8,[.nilf],false⟩:=rfl
@[simp] theorem E_ty165:E.ty 165=some ⟨.func,1,8,[.nilf],false⟩:=rfl
@[simp] theorem E_ty166:E.ty 166=some ⟨.func,1,8,[.nilf],false⟩:=rfl
@[simp] theorem E_ty167:E.ty 167=some ⟨.int .u64,1,8,[.int .u64 0],false⟩:=rfl
@[simp] theorem E_ty168:E.ty 168=some ⟨.int .u64,1,8,[.int .u64 0],false⟩:=rfl
@[simp] theorem E_ty169:E.ty 169=some ⟨.func,1,8,[.nilf],false⟩:=rfl
@[simp] theorem E_ty170:E.ty 170=some ⟨.func,1,8,[.nilf],false⟩:=rfl
@[simp] theorem E_ty171:E.ty 171=some ⟨.func,1,8,[.nilf],false⟩:=rfl
@[simp] theorem E_ty172:E.ty 172=some ⟨.func,1,8,[.nilf],false⟩:=rfl
@[simp] theorem E_ty173:E.ty 173=some ⟨.func,1,8,[.nilf],false⟩:=rfl
@[simp] theorem E_ty174:E.ty 174=some ⟨.func,1,8,[.nilf],false⟩:=rfl
@[simp] theorem E_ty175:E.ty 175=some ⟨.func,1,8,[.nilf],false⟩:=rfl
@[simp] theorem E_ty176:E.ty 176=some ⟨.func,1,8,[.nilf],false⟩:=rfl
@[simp] theorem E_ty177:E.ty 177=some ⟨.func,1,8,[.nilf],false⟩:=rfl
@[simp] theorem E_ty178:E.ty 178=some ⟨.func,1,8,[.nilf],false⟩:=rfl
@[simp] theorem E_ty179:E.ty 179=some ⟨.slice 178,1,24,[.sl true [] (some 0)],false⟩:=rfl
@[simp] theorem E_ty181:E.ty 181=some ⟨.func,1,8,[.nilf],false⟩:=rfl
@[simp] theorem E_ty182:E.ty 182=some ⟨.func,1,8,[.nilf],false⟩:=rfl
@[simp] theorem E_ty183:E.ty 183=some ⟨.func,1,8,[.nilf],false⟩:=rfl
@[simp] theorem E_ty184:E.ty 184=some ⟨.arr 8 5,8,8,[.int .u8 0,.int .u8 0,.int .u8 0,.int .u8 0,.int .u8 0,.int .u8 0,.int .u8 0,.int .u8 0],false⟩:=rfl
@[simp] theorem E_ty185:E.ty 185=some ⟨.arr 8 5,8,8,[.int .u8 0,.int .u8 0,.int .u8 0,.int .u8 0,.int .u8 0,.int .u8 0,.int .u8 0,.int .u8 0],false⟩:=rfl
@[simp] theorem E_ty186:E.ty 186=some ⟨.func,1,8,[.nilf],false⟩:=rfl
@[simp] theorem E_ty188:E.ty 188=some ⟨.strct [(0,3),(1,39)],2,16,[.int .i64 0,.int .i64 0],false⟩:=rfl
@[simp] theorem E_ty189:E.ty 189=some ⟨.strct [(0,3),(1,39)],2,16,[.int .i64 0,.int .i64 0],false⟩:=rfl
@[simp] theorem E_ty191:E.ty 191=some ⟨.strct [(0,26),(1,3)],2,32,[.sl true [] (some 0),.int .i64 0],false⟩:=rfl
@[simp] theorem E_ty192:E.ty 192=some ⟨.strct [(0,26),(1,3)],2,32,[.sl true [] (some 0),.int .i64 0],false⟩:=rfl
@[simp] theorem E_ty194:E.ty 194=some ⟨.func,1,8,[.nilf],false⟩:=rfl
@[simp] theorem E_ty195:E.ty 195=some ⟨.func,1,8,[.nilf],false⟩:=rfl
@[simp] theorem E_ty196:E.ty 196=some ⟨.func,1,8,[.nilf],false⟩:=rfl
@[simp] theorem E_ty197:E.ty 197=some ⟨.int .i8,1,1,[.int .i8 0],false⟩:=rfl
@[simp] theorem E_ty200:E.ty 200=some ⟨.func,1,8,[.nilf],false⟩:=rfl
@[simp] theorem E_ty201:E.ty 201=some ⟨.func,1,8,[.nilf],false⟩:=rfl
@[simp] theorem E_ty202:E.ty 202=some ⟨.arr 2 35,34,136,[.int .u8 0,.int .u32 0,.int .u32 0,.int .u32 0,.int .u32 0,.int .u32 0,.int .u32 0,.int .u32 0,.int .u32 0,.int .u32 0,.int .u32 0,.int .u32 0,.int .u32 0,.int .u32 0,.int .u32 0,.int .u32 0,.int .u32 0,.int .u8 0,.int .u32 0,.int .u32 0,.int .u32 0,.int .u32 0,.int .u32 0,.int .u32 0,.int .u32 0,.int .u32 0,.int .u32 0,.int .u32 0,.int .u32 0,.int .u32 0,.int .u32 0,.int .u32 0,.int .u32 0,.int .u32 0],false⟩:=rfl
@[simp] theorem E_ty203:E.ty 203=some ⟨.func,1,8,[.nilf],false⟩:=rfl
@[simp] theorem E_ty204:E.ty 204=some ⟨.func,1,8,[.nilf],false⟩:=rfl
@[simp] theorem E_ty205:E.ty 205=some ⟨.func,1,8,[.nilf],false⟩:=rfl
@[simp] theorem E_ty206:E.ty 206=some ⟨.func,1,8,[.nilf],false⟩:=rfl
@[simp] theorem E_ty207:E.ty 207=some ⟨.func,1,8,[.nilf],false⟩:=rfl
@[simp] theorem E_ty209:E.ty 209=some ⟨.func,1,8,[.nilf],false⟩:=rfl
@[simp] theorem E_ty210:E.ty 210=some ⟨.func,1,8,[.nilf],false⟩:=rfl
@[simp] theorem E_ty211:E.ty 211=some ⟨.func,1,8,[.nilf],false⟩:=rfl
@[simp] theorem E_ty212:E.ty 212=some ⟨.ptr 35,1,8,[.nilp],false⟩:=rfl
@[simp] theorem E_ty213:E.ty 213=some ⟨.func,1,8,[.nilf],false⟩:=rfl
@[simp] theorem E_ty214:E.ty 214=some ⟨.func,1,8,[.nilf],false⟩:=rfl
@[simp] theorem E_ty215:E.ty 215=some ⟨.func,1,8,[.nilf],false⟩:=rfl
@[simp] theorem E_ty216:E.ty 216=some ⟨.ptr 192,1,8,[.nilp],false⟩:=rfl
@[simp] theorem E_ty218:E.ty 218=some ⟨.func,1,8,[.nilf],false⟩:=rfl
@[simp] theorem E_ty219:E.ty 219=some ⟨.func,1,8,[.nilf],false⟩:=rfl
@[simp] theorem E_ty220:E.ty 220=some ⟨.func,1,8,[.nilf],false⟩:=rfl
@[simp] theorem E_ty221:E.ty 221=some ⟨.arr 2 212,2,16,[.nilp,.nilp],false⟩:=rfl
@[simp] theorem E_ty222:E.ty 222=some ⟨.func,1,8,[.nilf],false⟩:=rfl
@[simp] theorem E_ty223:E.ty 223=some ⟨.func,1,8,[.nilf],false⟩:=rfl
@[simp] theorem E_ty224:E.ty 224=some ⟨.func,1,8,[.nilf],false⟩:=rfl
@[simp] theorem E_ty225:E.ty 225=some ⟨.func,1,8,[.nilf],false⟩:=rfl
@[simp] theorem E_ty226:E.ty 226=some ⟨.func,1,8,[.nilf],false⟩:=rfl
@[simp] theorem E_ty228:E.ty 228=some ⟨.func,1,8,[.nilf],false⟩:=rfl
@[simp] theorem E_ty229:E.ty 229=some ⟨.arr 3 5,3,3,[.int .u8 0,.int .u8 0,.int .u8 0],false⟩:=rfl
@[simp] theorem E_ty230:E.ty 230=some ⟨.arr 3 5,3,3,[.int .u8 0,.int .u8 0,.int .u8 0],false⟩:=rfl
@[simp] theorem E_ty231:E.ty 231=some ⟨.func,1,8,[.nilf],false⟩:=rfl
@[simp] theorem E_ty232:E.ty 232=some ⟨.int .i64,1,8,[.int .i64 0],false⟩:=rfl
@[simp] theorem E_ty234:E.ty 234=some ⟨.func,1,8,[.nilf],false⟩:=rfl
@[simp] theorem E_ty235:E.ty 235=some ⟨.func,1,8,[.nilf],false⟩:=rfl
@[simp] theorem E_ty236:E.ty 236=some ⟨.func,1,8,[.nilf],false⟩:=rfl
@[simp] theorem E_ty238:E.ty 238=some ⟨.func,1,8,[.nilf],false⟩:=rfl
@[simp] theorem E_ty239:E.ty 239=some ⟨.func,1,8,[.nilf],false⟩:=rfl
@[simp] theorem E_ty240:E.ty 240=some ⟨.func,1,8,[.nilf],false⟩:=rfl
@[simp] theorem E_ty241:E.ty 241=some ⟨.func,1,8,[.nilf],false⟩:=rfl
@[simp] theorem E_ty242:E.ty 242=some ⟨.int .u64,1,8,[.int .u64 0],false⟩:=rfl
@[simp] theorem E_ty243:E.ty 243=some ⟨.func,1,8,[.nilf],false⟩:=rfl
@[simp] theorem E_ty244:E.ty 244=some ⟨.func,1,8,[.nilf],false⟩:=rfl
@[simp] theorem E_ty245:E.ty 245=some ⟨.func,1,8,[.nilf],false⟩:=rfl
@[simp] theorem E_ty246:E.ty 246=some ⟨.func,1,8,[.nilf],false⟩:=rfl
@[simp] theorem E_ty247:E.ty 247=some ⟨.func,1,8,[.nilf],false⟩:=rfl
@[simp] theorem E_ty248:E.ty 248=some ⟨.ptr 242,1,8,[.nilp],false⟩:=rfl
@[simp] theorem E_ty250:E.ty 250=some ⟨.func,1,8,[.nilf],false⟩:=rfl
@[simp] theorem E_ty251:E.ty 251=some ⟨.func,1,8,[.nilf],false⟩:=rfl
@[simp] theorem E_ty252:E.ty 252=some ⟨.strct [(0,17),(1,17),(2,17),(3,9)],4,40,[.nilp,.nilp,.nilp,.str []],false⟩:=rfl
@[simp] theorem E_ty253:E.ty 253=some ⟨.strct [(0,17),(1,17),(2,17),(3,9)],4,40,[.nilp,.nilp,.nilp,.str []],false⟩:=rfl
@[simp] theorem E_ty254:E.ty 254=some ⟨.arr 0 16,0,0,[],false⟩:=rfl
@[simp] theorem E_ty255:E.ty 255=some ⟨.strct [(0,254)],0,0,[],false⟩:=rfl
@[simp] theorem E_ty256:E.ty 256=some ⟨.strct [(0,254)],0,0,[],false⟩:=rfl
@[simp] theorem E_ty257:E.ty 257=some ⟨.func,1,8,[.nilf],false⟩:=rfl
@[simp] theorem E_ty258:E.ty 258=some ⟨.int .u8,1,1,[.int .u8 0],false⟩:=rfl
@[simp] theorem E_ty259:E.ty 259=some ⟨.int .u8,1,1,[.int .u8 0],false⟩:=rfl
@[simp] theorem E_ty260:E.ty 260=some ⟨.func,1,8,[.nilf],false⟩:=rfl
@[simp] theorem E_ty261:E.ty 261=some ⟨.ptr 5,1,8,[.nilp],false⟩:=rfl
@[simp] theorem E_ty262:E.ty 262=some ⟨.int .i32,1,4,[.int .i32 0],false⟩:=rfl
@[simp] theorem E_ty263:E.ty 263=some ⟨.int .i32,1,4,[.int .i32 0],false⟩:=rfl
@[simp] theorem E_ty264:E.ty 264=some ⟨.strct [(0,12),(1,12),(2,23),(3,258),(4,5),(5,5),(6,259),(7,260),(8,261),(9,262),(10,263)],11,48,[.int .u64 0,.int .u64 0,.int .u32 0,.int .u8 0,.int .u8 0,.int .u8 0,.int .u8 0,.nilf,.nilp,.int .i32 0,.int .i32 0],false⟩:=rfl
@[simp] theorem E_ty265:E.ty 265=some ⟨.strct [(0,12),(1,12),(2,23),(3,258),(4,5),(5,5),(6,259),(7,260),(8,261),(9,262),(10,263)],11,48,[.int .u64 0,.int .u64 0,.int .u32 0,.int .u8 0,.int .u8 0,.int .u8 0,.int .u8 0,.nilf,.nilp,.int .i32 0,.int .i32 0],false⟩:=rfl
end TabE
