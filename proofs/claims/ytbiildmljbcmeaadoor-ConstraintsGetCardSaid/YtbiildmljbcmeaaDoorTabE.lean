/- The tables of this translation for the evaluator: written by gen2.py. No conditions. -/
import Derived.Test.YtbiildmljbcmeaaDoorB2
import Derived.Test.YtbiildmljbcmeaaDoorTg
set_option linter.unusedVariables false
set_option maxRecDepth 100000
namespace TabE
open Go Ab
abbrev o (d:Nat) (x:Op) (t:TypeId):Oper:=⟨some d,x,t, "",#[],none⟩
abbrev m (d i:Nat) (t:TypeId):Oper:=⟨some d,.move (.tmp i),t, "",#[],none⟩
abbrev ci (z:Int):Operand:=.const (.int .i64 z)
abbrev ld (d i t:Nat):Oper:=⟨some d,.load t (.tmp i),t, "",#[],none⟩
abbrev fa (d t i f:Nat):Oper:=⟨some d,.fieldAddr t (.tmp i) f,0, "",#[],none⟩
abbrev cl (d f:Nat) (a:Array Operand) (s:Array TypeId) (t:TypeId):Oper:=⟨some d,.call { callee:=.value (.func f),args:=a,argTypes:=s },t, "",#[],none⟩
abbrev gd (d:Nat) (x:Op) (t:TypeId) (g:Nat) (b:Bool):Oper:=⟨some d,x,t, "",#[],some (g,b)⟩
abbrev nd (x:Op):Oper:=⟨none,x,0, "",#[],none⟩
def opnT:FuncId → Option (List Bool × Bool)
  | 40 => some ([false,true,false],true)
  | 91 => some ([false,true],true)
  | 92 => some ([false,true],true)
  | 119 => some ([false,true],true)
  | 120 => some ([false,false,true,true],true)
  | 132 => some ([true,true,true,true],true)
  | 133 => some ([true,false,false,false],true)
  | 135 => some ([true,false],false)
  | 152 => some ([false,false,true,true],true)
  | 181 => some ([true,true],true)
  | _ => none
def c9:Code :=
  (.seq (.region 0 #[o 1 (.box 29 (.tmp 0)) 0,o 2 (.assign (.const (.bool false))) 4] false)
 (.seq (.region 1 #[o 3 (.alloc 3) 0,nd (.store 3 (.tmp 3) (ci 20))] false)
 (.seq (.seq (.region 2 #[ld 10 1 29,cl 11 40 #[.tmp 10,.tmp 3,.const (.int .i64 0)] #[29,31,3] 3,o 12 (.binOp .eql 3 (.tmp 11) (ci 0) 3) 4] false)
 (.cond (.tmp 12)
 (.seq (.region 3 #[cl 13 41 #[] #[] 4,o 2 (.assign (.tmp 13)) 4] false)
 .ret)
 .skip))
 (.seq (.region 4 #[ld 15 1 29,cl 16 42 #[.tmp 15] #[29] 83,m 14 16 83,o 17 (.extract (.tmp 14) 0) 82,o 18 (.extract (.tmp 14) 1) 41,o 4 (.alloc 82) 0,o 5 (.alloc 41) 0,nd (.store 82 (.tmp 4) (.tmp 17)),nd (.store 41 (.tmp 5) (.tmp 18))] false)
 (.seq (.region 5 #[ld 20 1 29,cl 21 43 #[.tmp 20] #[29] 83,m 19 21 83,o 22 (.extract (.tmp 19) 0) 82,o 23 (.extract (.tmp 19) 1) 41,o 6 (.alloc 82) 0,o 7 (.alloc 41) 0,nd (.store 82 (.tmp 6) (.tmp 22)),nd (.store 41 (.tmp 7) (.tmp 23))] false)
 (.seq (.seq (.region 6 #[ld 24 5 41,ld 25 7 41,cl 26 44 #[.tmp 24,.tmp 25] #[41,41] 3,o 27 (.binOp .eql 3 (.tmp 26) (ci 0) 3) 4,m 28 27 4,gd 29 (.load 82 (.tmp 4)) 82 28 false,gd 30 (.load 82 (.tmp 6)) 82 28 false,gd 31 (.binOp .neq 82 (.tmp 29) (.tmp 30) 82) 4 28 false,o 32 (.pick (.tmp 28) (.const (.bool true)) (.tmp 31)) 4] false)
 (.cond (.tmp 32)
 (.seq (.region 7 #[o 2 (.assign (.const (.bool false))) 4] false)
 .ret)
 .skip))
 (.seq (.seq (.region 8 #[fa 33 41 5 1,ld 34 33 39,o 35 (.binOp .neq 39 (.tmp 34) (ci 0) 39) 4] false)
 (.cond (.tmp 35)
 (.seq (.region 9 #[cl 36 41 #[] #[] 4,o 2 (.assign (.tmp 36)) 4] false)
 .ret)
 .skip))
 (.seq (.region 10 #[ld 38 4 82,cl 39 45 #[.tmp 38] #[82] 46,m 37 39 46,o 40 (.extract (.tmp 37) 0) 29,o 41 (.extract (.tmp 37) 1) 39,o 8 (.alloc 29) 0,nd (.store 29 (.tmp 8) (.tmp 40)),o 9 (.assign (.tmp 41)) 39] false)
 (.seq (.region 11 #[ld 42 4 82,cl 43 46 #[.tmp 42] #[82] 39,o 44 (.binOp .eql 39 (.tmp 43) (ci 0) 39) 4,m 45 44 4,gd 46 (.move (.tmp 9)) 39 45 true,gd 47 (.binOp .eql 39 (.tmp 46) (ci 0) 39) 4 45 true,o 48 (.pick (.tmp 45) (.tmp 47) (.const (.bool false))) 4,m 49 48 4,gd 50 (.load 29 (.tmp 8)) 29 49 true,gd 51 (.load 29 (.tmp 1)) 29 49 true,gd 52 (.call { callee:=.value (.func 20),args:=#[.tmp 50,.tmp 51],argTypes:=#[29,29] }) 3 49 true,gd 53 (.binOp .eql 3 (.tmp 52) (ci 1) 3) 4 49 true,o 54 (.pick (.tmp 49) (.tmp 53) (.const (.bool false))) 4,m 55 54 4,gd 56 (.call { callee:=.value (.func 41),args:=#[],argTypes:=#[] }) 4 55 true,o 57 (.pick (.tmp 55) (.tmp 56) (.const (.bool false))) 4,o 2 (.assign (.tmp 57)) 4] false)
 .ret)))))))))
def kp9:Nat → Option (List Nat)
  | 0 => some [1]
  | 1 => some [1,3]
  | 2 => some [1,12]
  | 3 => some [2]
  | 4 => some [1,4,5]
  | 5 => some [1,4,5,6,7]
  | 6 => some [1,4,5,32]
  | 7 => some [2]
  | 8 => some [1,4,35]
  | 9 => some [2]
  | 10 => some [1,4,8,9]
  | 11 => some [2]
  | _ => none
def fn9:AFn:={ ntmps:=58,results:=[.tmp 2],body:=c9,keep:=kp9,head:=fun  | _ => none,opn:=opnT,dyn:=fun _ => [] }
def c10:Code :=
  (.seq (.region 0 #[o 2 (.assign (.const (.bool false))) 4] false)
 (.seq (.seq (.region 1 #[m 20 0 26,o 21 (.call { callee:=.builtin .len,args:=#[.tmp 20],argTypes:=#[26] }) 3,o 22 (.binOp .gtr 3 (.tmp 21) (ci 100) 3) 4] false)
 (.cond (.tmp 22)
 (.seq (.region 2 #[cl 23 41 #[] #[] 4,o 2 (.assign (.tmp 23)) 4] false)
 .ret)
 .skip))
 (.seq (.region 3 #[m 25 0 26,cl 26 47 #[.tmp 25] #[26] 87,m 24 26 87,o 27 (.extract (.tmp 24) 0) 82,o 28 (.extract (.tmp 24) 1) 3,o 29 (.extract (.tmp 24) 2) 39,o 3 (.alloc 82) 0,nd (.store 82 (.tmp 3) (.tmp 27)),o 4 (.assign (.tmp 28)) 3,o 5 (.assign (.tmp 29)) 39] false)
 (.seq (.region 4 #[m 31 0 26,cl 32 48 #[.tmp 31] #[26] 89,m 30 32 89,o 33 (.extract (.tmp 30) 0) 3,o 34 (.extract (.tmp 30) 1) 3,o 35 (.extract (.tmp 30) 2) 39,o 6 (.assign (.tmp 33)) 3,o 7 (.assign (.tmp 34)) 3,o 8 (.assign (.tmp 35)) 39] false)
 (.seq (.region 5 #[m 37 0 26,cl 38 49 #[.tmp 37] #[26] 91,m 36 38 91,o 39 (.extract (.tmp 36) 0) 29,o 40 (.extract (.tmp 36) 1) 3,o 41 (.extract (.tmp 36) 2) 39,o 9 (.alloc 29) 0,nd (.store 29 (.tmp 9) (.tmp 39)),o 10 (.assign (.tmp 40)) 3,o 11 (.assign (.tmp 41)) 39] false)
 (.seq (.seq (.region 6 #[m 42 11 39,o 43 (.binOp .neq 39 (.tmp 42) (ci 0) 39) 4] false)
 (.cond (.tmp 43)
 (.seq (.region 7 #[ld 44 3 82,o 45 (.build 82 #[]) 82,o 46 (.binOp .eql 82 (.tmp 44) (.tmp 45) 82) 4,m 47 46 4,gd 48 (.move (.tmp 6)) 3 47 true,gd 49 (.binOp .eql 3 (.tmp 48) (ci 0) 3) 4 47 true,o 50 (.pick (.tmp 47) (.tmp 49) (.const (.bool false))) 4,m 51 50 4,gd 52 (.move (.tmp 4)) 3 51 true,gd 53 (.move (.tmp 10)) 3 51 true,gd 54 (.binOp .eql 3 (.tmp 52) (.tmp 53) 3) 4 51 true,o 55 (.pick (.tmp 51) (.tmp 54) (.const (.bool false))) 4,m 56 55 4,gd 57 (.move (.tmp 7)) 3 56 true,gd 58 (.move (.tmp 10)) 3 56 true,gd 59 (.binOp .eql 3 (.tmp 57) (.tmp 58) 3) 4 56 true,o 60 (.pick (.tmp 56) (.tmp 59) (.const (.bool false))) 4,m 61 60 4,gd 62 (.move (.tmp 5)) 39 61 true,gd 63 (.move (.tmp 11)) 39 61 true,gd 64 (.binOp .eql 39 (.tmp 62) (.tmp 63) 39) 4 61 true,o 65 (.pick (.tmp 61) (.tmp 64) (.const (.bool false))) 4,m 66 65 4,gd 67 (.move (.tmp 8)) 39 66 true,gd 68 (.move (.tmp 11)) 39 66 true,gd 69 (.binOp .eql 39 (.tmp 67) (.tmp 68) 39) 4 66 true,o 70 (.pick (.tmp 66) (.tmp 69) (.const (.bool false))) 4,m 71 70 4,gd 72 (.call { callee:=.value (.func 41),args:=#[],argTypes:=#[] }) 4 71 true,o 73 (.pick (.tmp 71) (.tmp 72) (.const (.bool false))) 4,o 2 (.assign (.tmp 73)) 4] false)
 .ret)
 .skip))
 (.seq (.region 8 #[ld 75 9 29,cl 76 43 #[.tmp 75] #[29] 83,m 74 76 83,o 77 (.extract (.tmp 74) 0) 82,o 78 (.extract (.tmp 74) 1) 41,o 12 (.alloc 82) 0,o 13 (.alloc 41) 0,nd (.store 82 (.tmp 12) (.tmp 77)),nd (.store 41 (.tmp 13) (.tmp 78))] false)
 (.seq (.seq (.region 9 #[ld 79 3 82,ld 80 12 82,o 81 (.binOp .neq 82 (.tmp 79) (.tmp 80) 82) 4,m 82 81 4,gd 83 (.move (.tmp 5)) 39 82 false,gd 84 (.fieldAddr 41 (.tmp 13) 1) 0 82 false,gd 85 (.load 39 (.tmp 84)) 39 82 false,gd 86 (.binOp .neq 39 (.tmp 83) (.tmp 85) 39) 4 82 false,o 87 (.pick (.tmp 82) (.const (.bool true)) (.tmp 86)) 4,m 88 87 4,gd 89 (.move (.tmp 5)) 39 88 false,gd 90 (.binOp .neq 39 (.tmp 89) (ci 0) 39) 4 88 false,gd 91 (.move (.tmp 90)) 4 88 false,gd 92 (.move (.tmp 4)) 3 91 true,gd 93 (.load 29 (.tmp 9)) 29 91 true,gd 94 (.fieldAddr 41 (.tmp 13) 0) 0 91 true,gd 95 (.load 38 (.tmp 94)) 38 91 true,gd 96 (.call { callee:=.value (.func 50),args:=#[.tmp 93,.tmp 95],argTypes:=#[29,38] }) 3 91 true,gd 97 (.binOp .neq 3 (.tmp 92) (.tmp 96) 3) 4 91 true,gd 98 (.pick (.tmp 91) (.tmp 97) (.const (.bool false))) 4 88 false,o 99 (.pick (.tmp 88) (.const (.bool true)) (.tmp 98)) 4,m 100 99 4,gd 101 (.move (.tmp 5)) 39 100 false,gd 102 (.binOp .eql 39 (.tmp 101) (ci 0) 39) 4 100 false,gd 103 (.move (.tmp 102)) 4 100 false,gd 104 (.move (.tmp 4)) 3 103 true,gd 105 (.binOp .neq 3 (.tmp 104) (ci 0) 3) 4 103 true,gd 106 (.pick (.tmp 103) (.tmp 105) (.const (.bool false))) 4 100 false,o 107 (.pick (.tmp 100) (.const (.bool true)) (.tmp 106)) 4] false)
 (.cond (.tmp 107)
 (.seq (.region 10 #[o 2 (.assign (.const (.bool false))) 4] false)
 .ret)
 .skip))
 (.seq (.seq (.region 11 #[m 108 5 39,o 109 (.binOp .eql 39 (.tmp 108) (ci 0) 39) 4] false)
 (.cond (.tmp 109)
 (.seq (.region 12 #[ld 111 3 82,cl 112 51 #[.tmp 111] #[82] 94,m 110 112 94,o 113 (.extract (.tmp 110) 0) 26,o 114 (.extract (.tmp 110) 1) 39,o 14 (.assign (.tmp 113)) 26,o 15 (.assign (.tmp 114)) 39] false)
 (.seq (.region 13 #[m 115 15 39,o 116 (.binOp .neq 39 (.tmp 115) (ci 0) 39) 4,m 117 116 4,gd 118 (.move (.tmp 14)) 26 117 false,gd 119 (.convert 26 9 (.tmp 118)) 9 117 false,gd 120 (.move (.tmp 0)) 26 117 false,gd 121 (.convert 26 9 (.tmp 120)) 9 117 false,gd 122 (.binOp .neq 9 (.tmp 119) (.tmp 121) 9) 4 117 false,o 123 (.pick (.tmp 117) (.const (.bool true)) (.tmp 122)) 4] false)
 (.cond (.tmp 123)
 (.seq (.region 14 #[o 2 (.assign (.const (.bool false))) 4] false)
 .ret)
 .skip)))
 .skip))
 (.seq (.region 15 #[o 16 (.assign (ci 9)) 39] false)
 (.seq (.region 16 #[o 17 (.assign (ci 0)) 3] false)
 (.seq (.seq (.region 17 #[fa 124 29 9 0,ld 125 124 25,o 126 (.build 25 #[(2,.const (.int .u32 2))]) 25,o 127 (.binOp .eql 25 (.tmp 125) (.tmp 126) 25) 4] false)
 (.cond (.tmp 127)
 (.region 18 #[fa 129 29 9 1,ld 130 129 26,cl 131 52 #[.tmp 130] #[26] 96,m 128 131 96,o 132 (.extract (.tmp 128) 0) 3,o 133 (.extract (.tmp 128) 1) 39,o 17 (.assign (.tmp 132)) 3,o 16 (.assign (.tmp 133)) 39] false)
 .skip))
 (.seq (.seq (.region 19 #[m 134 6 3,m 135 17 3,o 136 (.binOp .neq 3 (.tmp 134) (.tmp 135) 3) 4,m 137 136 4,gd 138 (.move (.tmp 7)) 3 137 false,gd 139 (.binOp .neq 3 (.tmp 138) (ci 0) 3) 4 137 false,o 140 (.pick (.tmp 137) (.const (.bool true)) (.tmp 139)) 4,m 141 140 4,gd 142 (.move (.tmp 8)) 39 141 false,gd 143 (.move (.tmp 16)) 39 141 false,gd 144 (.binOp .neq 39 (.tmp 142) (.tmp 143) 39) 4 141 false,o 145 (.pick (.tmp 141) (.const (.bool true)) (.tmp 144)) 4] false)
 (.cond (.tmp 145)
 (.seq (.region 20 #[o 2 (.assign (.const (.bool false))) 4] false)
 .ret)
 .skip))
 (.seq (.seq (.region 21 #[m 146 8 39,o 147 (.binOp .neq 39 (.tmp 146) (ci 0) 39) 4] false)
 (.cond (.tmp 147)
 (.seq (.region 22 #[cl 148 41 #[] #[] 4,o 2 (.assign (.tmp 148)) 4] false)
 .ret)
 .skip))
 (.seq (.region 23 #[m 150 6 3,cl 151 53 #[.tmp 150] #[3] 94,m 149 151 94,o 152 (.extract (.tmp 149) 0) 26,o 153 (.extract (.tmp 149) 1) 39,o 18 (.assign (.tmp 152)) 26,o 19 (.assign (.tmp 153)) 39] false)
 (.seq (.region 24 #[m 154 19 39,o 155 (.binOp .eql 39 (.tmp 154) (ci 0) 39) 4,m 156 155 4,gd 157 (.move (.tmp 18)) 26 156 true,gd 158 (.convert 26 9 (.tmp 157)) 9 156 true,gd 159 (.move (.tmp 0)) 26 156 true,gd 160 (.convert 26 9 (.tmp 159)) 9 156 true,gd 161 (.binOp .eql 9 (.tmp 158) (.tmp 160) 9) 4 156 true,o 162 (.pick (.tmp 156) (.tmp 161) (.const (.bool false))) 4,m 163 162 4,gd 164 (.call { callee:=.value (.func 41),args:=#[],argTypes:=#[] }) 4 163 true,o 165 (.pick (.tmp 163) (.tmp 164) (.const (.bool false))) 4,o 2 (.assign (.tmp 165)) 4] false)
 .ret))))))))))))))))
def kp10:Nat → Option (List Nat)
  | 0 => some [0]
  | 1 => some [0,22]
  | 2 => some [2]
  | 3 => some [0,3,4,5]
  | 4 => some [0,3,4,5,6,7,8]
  | 5 => some [0,3,4,5,6,7,8,9,10,11]
  | 6 => some [0,3,4,5,6,7,8,9,10,11,43]
  | 7 => some [2]
  | 8 => some [0,3,4,5,6,7,8,9,12,13]
  | 9 => some [0,3,5,6,7,8,9,107]
  | 10 => some [2]
  | 11 => some [0,3,6,7,8,9,109]
  | 12 => some [0,6,7,8,9,14,15]
  | 13 => some [0,6,7,8,9,123]
  | 14 => some [2]
  | 15 => some [0,6,7,8,9,16]
  | 16 => some [0,6,7,8,9,16,17]
  | 17 => some [0,6,7,8,9,16,17,127]
  | 18 => some [0,6,7,8,16,17]
  | 19 => some [0,6,8,145]
  | 20 => some [2]
  | 21 => some [0,6,147]
  | 22 => some [2]
  | 23 => some [0,18,19]
  | 24 => some [2]
  | _ => none
def fn10:AFn:={ ntmps:=166,results:=[.tmp 2],body:=c10,keep:=kp10,head:=fun  | _ => none,opn:=fun _ => none,dyn:=fun _ => [] }
def c20:Code :=
  (.seq (.region 0 #[o 2 (.box 29 (.tmp 0)) 0,o 3 (.box 29 (.tmp 1)) 0,o 4 (.assign (ci 0)) 3] false)
 (.seq (.seq (.region 1 #[fa 6 29 2 0,ld 7 6 25,fa 8 29 3 0,ld 9 8 25,o 10 (.binOp .neq 25 (.tmp 7) (.tmp 9) 25) 4,m 11 10 4,gd 12 (.fieldAddr 29 (.tmp 2) 1) 0 11 false,gd 13 (.load 26 (.tmp 12)) 26 11 false,gd 14 (.convert 26 9 (.tmp 13)) 9 11 false,gd 15 (.fieldAddr 29 (.tmp 3) 1) 0 11 false,gd 16 (.load 26 (.tmp 15)) 26 11 false,gd 17 (.convert 26 9 (.tmp 16)) 9 11 false,gd 18 (.binOp .neq 9 (.tmp 14) (.tmp 17) 9) 4 11 false,o 19 (.pick (.tmp 11) (.const (.bool true)) (.tmp 18)) 4,m 20 19 4,gd 21 (.fieldAddr 29 (.tmp 2) 2) 0 20 false,gd 22 (.load 27 (.tmp 21)) 27 20 false,gd 23 (.call { callee:=.builtin .len,args:=#[.tmp 22],argTypes:=#[27] }) 3 20 false,gd 24 (.fieldAddr 29 (.tmp 3) 2) 0 20 false,gd 25 (.load 27 (.tmp 24)) 27 20 false,gd 26 (.call { callee:=.builtin .len,args:=#[.tmp 25],argTypes:=#[27] }) 3 20 false,gd 27 (.binOp .neq 3 (.tmp 23) (.tmp 26) 3) 4 20 false,o 28 (.pick (.tmp 20) (.const (.bool true)) (.tmp 27)) 4] false)
 (.cond (.tmp 28)
 (.seq (.region 2 #[o 4 (.assign (ci 0)) 3] false)
 .ret)
 .skip))
 (.seq (.seq (.region 3 #[o 5 (.assign (ci 0)) 3] false)
 (.block 0 (.loop (.seq (.seq (.region 4 #[m 29 5 3,fa 30 29 2 2,ld 31 30 27,o 32 (.call { callee:=.builtin .len,args:=#[.tmp 31],argTypes:=#[27] }) 3,o 33 (.binOp .lss 3 (.tmp 29) (.tmp 32) 3) 4] false)
 (.cond (.tmp 33)
 .skip
 (.exit 0)))
 (.seq (.block 1 (.seq (.region 6 #[fa 36 29 2 2,ld 37 36 27,m 38 5 3,o 39 (.indexAddr 27 (.tmp 37) (.tmp 38)) 0,ld 40 39 29,fa 41 29 3 2,ld 42 41 27,m 43 5 3,o 44 (.indexAddr 27 (.tmp 42) (.tmp 43)) 0,ld 45 44 29,cl 46 20 #[.tmp 40,.tmp 45] #[29,29] 3,o 47 (.binOp .eql 3 (.tmp 46) (ci 0) 3) 4] true)
 (.cond (.tmp 47)
 (.seq (.region 7 #[o 4 (.assign (ci 0)) 3] false)
 .ret)
 .skip)))
 (.region 5 #[m 34 5 3,o 35 (.binOp .add 3 (.tmp 34) (ci 1) 3) 3,o 5 (.assign (.tmp 35)) 3] false))))))
 (.seq (.region 8 #[o 4 (.assign (ci 1)) 3] false)
 .ret))))
def kp20:Nat → Option (List Nat)
  | 0 => some [2,3]
  | 1 => some [2,3,28]
  | 2 => some [4]
  | 3 => some [2,3,5]
  | 4 => some [2,3,5,33]
  | 5 => some [2,3,5]
  | 6 => some [2,3,5,47]
  | 7 => some [4]
  | 8 => some [4]
  | _ => none
def fn20:AFn:={ ntmps:=48,results:=[.tmp 4],body:=c20,keep:=kp20,head:=fun | 4 => some [2,3,5] | _ => none,opn:=fun _ => none,dyn:=fun _ => [] }
def c22:Code :=
  (.seq (.region 0 #[o 1 (.box 29 (.tmp 0)) 0,o 2 (.assign (ci 0)) 39] false)
 (.seq (.region 1 #[ld 7 1 29,cl 8 73 #[.tmp 7] #[29] 125,m 6 8 125,o 9 (.extract (.tmp 6) 0) 39,o 10 (.extract (.tmp 6) 1) 3,o 11 (.extract (.tmp 6) 2) 3,o 3 (.assign (.tmp 9)) 39,o 4 (.assign (.tmp 10)) 3,o 5 (.assign (.tmp 11)) 3] false)
 (.seq (.region 2 #[m 12 3 39,o 2 (.assign (.tmp 12)) 39] false)
 .ret)))
def kp22:Nat → Option (List Nat)
  | 0 => some [1]
  | 1 => some [3]
  | 2 => some [2]
  | _ => none
def fn22:AFn:={ ntmps:=13,results:=[.tmp 2],body:=c22,keep:=kp22,head:=fun  | _ => none,opn:=fun _ => none,dyn:=fun _ => [] }
def c35:Code :=
  (.seq (.region 0 #[o 4 (.alloc 41) 0] false)
 (.seq (.region 1 #[m 6 0 39,o 7 (.build 41 #[(1,.tmp 6)]) 41,o 5 (.alloc 41) 0,nd (.store 41 (.tmp 5) (.tmp 7))] false)
 (.seq (.seq (.region 2 #[m 8 1 3,o 9 (.binOp .geq 3 (.tmp 8) (ci 0) 3) 4] false)
 (.cond (.tmp 9)
 (.region 3 #[fa 10 41 5 0,ld 11 10 38,m 12 1 3,o 13 (.buildSlice 38 1 #[(0,.tmp 12)]) 38,o 14 (.call { callee:=.builtin .append,args:=#[.tmp 11,.tmp 13],argTypes:=#[38,38] }) 38,fa 15 41 5 0,nd (.store 38 (.tmp 15) (.tmp 14))] false)
 .skip))
 (.seq (.region 4 #[ld 16 5 41,nd (.store 41 (.tmp 4) (.tmp 16))] false)
 .ret))))
def kp35:Nat → Option (List Nat)
  | 0 => some [0,1,4]
  | 1 => some [1,4,5]
  | 2 => some [1,4,5,9]
  | 3 => some [4,5]
  | 4 => some [4]
  | _ => none
def fn35:AFn:={ ntmps:=17,results:=[.cell 4 41],body:=c35,keep:=kp35,head:=fun  | _ => none,opn:=fun _ => none,dyn:=fun _ => [] }
def c36:Code :=
  (.seq (.region 0 #[o 3 (.box 29 (.tmp 0)) 0,o 4 (.box 25 (.tmp 1)) 0,o 6 (.assign (.const (.slice none 0 0))) 38,o 7 (.alloc 41) 0] false)
 (.seq (.seq (.region 1 #[m 11 2 76,o 12 (.call { callee:=.builtin .len,args:=#[.tmp 11],argTypes:=#[76] }) 3,o 13 (.binOp .gtr 3 (.tmp 12) (ci 256) 3) 4] false)
 (.cond (.tmp 13)
 (.seq (.region 2 #[cl 14 35 #[.const (.int .i64 3),.const (.int .i64 (-1))] #[39,3] 41,o 6 (.assign (.const (.slice none 0 0))) 38,nd (.store 41 (.tmp 7) (.tmp 14))] false)
 .ret)
 .skip))
 (.seq (.seq (.region 3 #[fa 15 29 3 0,ld 16 15 25,ld 17 4 25,o 18 (.binOp .neq 25 (.tmp 16) (.tmp 17) 25) 4] false)
 (.cond (.tmp 18)
 (.seq (.region 4 #[cl 19 35 #[.const (.int .i64 9),.const (.int .i64 (-1))] #[39,3] 41,o 6 (.assign (.const (.slice none 0 0))) 38,nd (.store 41 (.tmp 7) (.tmp 19))] false)
 .ret)
 .skip))
 (.seq (.region 5 #[o 8 (.assign (.const (.slice none 0 0))) 38] false)
 (.seq (.region 6 #[o 9 (.assign (ci 0)) 3] false)
 (.seq (.seq (.region 7 #[o 10 (.assign (ci 0)) 3] false)
 (.block 0 (.loop (.seq (.seq (.region 8 #[m 20 10 3,m 21 2 76,o 22 (.call { callee:=.builtin .len,args:=#[.tmp 21],argTypes:=#[76] }) 3,o 23 (.binOp .lss 3 (.tmp 20) (.tmp 22) 3) 4] false)
 (.cond (.tmp 23)
 .skip
 (.exit 0)))
 (.seq (.block 1 (.seq (.seq (.region 10 #[m 26 9 3,fa 27 29 3 2,ld 28 27 27,o 29 (.call { callee:=.builtin .len,args:=#[.tmp 28],argTypes:=#[27] }) 3,o 30 (.binOp .lss 3 (.tmp 26) (.tmp 29) 3) 4,m 31 30 4,gd 32 (.move (.tmp 2)) 76 31 true,gd 33 (.move (.tmp 10)) 3 31 true,gd 34 (.indexAddr 76 (.tmp 32) (.tmp 33)) 0 31 true,gd 35 (.fieldAddr 75 (.tmp 34) 1) 0 31 true,gd 36 (.load 4 (.tmp 35)) 4 31 true,gd 37 (.move (.tmp 36)) 4 31 true,gd 38 (.move (.tmp 2)) 76 37 false,gd 39 (.move (.tmp 10)) 3 37 false,gd 40 (.indexAddr 76 (.tmp 38) (.tmp 39)) 0 37 false,gd 41 (.fieldAddr 75 (.tmp 40) 0) 0 37 false,gd 42 (.load 25 (.tmp 41)) 25 37 false,gd 43 (.fieldAddr 29 (.tmp 3) 2) 0 37 false,gd 44 (.load 27 (.tmp 43)) 27 37 false,gd 45 (.move (.tmp 9)) 3 37 false,gd 46 (.indexAddr 27 (.tmp 44) (.tmp 45)) 0 37 false,gd 47 (.fieldAddr 29 (.tmp 46) 0) 0 37 false,gd 48 (.load 25 (.tmp 47)) 25 37 false,gd 49 (.binOp .eql 25 (.tmp 42) (.tmp 48) 25) 4 37 false,gd 50 (.pick (.tmp 37) (.const (.bool true)) (.tmp 49)) 4 31 true,o 51 (.pick (.tmp 31) (.tmp 50) (.const (.bool false))) 4] true)
 (.cond (.tmp 51)
 (.seq (.region 11 #[m 52 8 38,m 53 9 3,o 54 (.buildSlice 38 1 #[(0,.tmp 53)]) 38,o 55 (.call { callee:=.builtin .append,args:=#[.tmp 52,.tmp 54],argTypes:=#[38,38] }) 38,o 8 (.assign (.tmp 55)) 38] false)
 (.seq (.region 12 #[m 56 9 3,o 57 (.binOp .add 3 (.tmp 56) (ci 1) 3) 3,o 9 (.assign (.tmp 57)) 3] false)
 (.exit 1)))
 .skip))
 (.seq (.seq (.region 13 #[m 58 2 76,m 59 10 3,o 60 (.indexAddr 76 (.tmp 58) (.tmp 59)) 0,fa 61 75 60 2,ld 62 61 4] false)
 (.cond (.tmp 62)
 (.seq (.region 14 #[m 63 8 38,o 64 (.buildSlice 38 1 #[(0,.const (.int .i64 (-1)))]) 38,o 65 (.call { callee:=.builtin .append,args:=#[.tmp 63,.tmp 64],argTypes:=#[38,38] }) 38,o 8 (.assign (.tmp 65)) 38] false)
 (.exit 1))
 .skip))
 (.seq (.seq (.region 15 #[m 66 9 3,fa 67 29 3 2,ld 68 67 27,o 69 (.call { callee:=.builtin .len,args:=#[.tmp 68],argTypes:=#[27] }) 3,o 70 (.binOp .eql 3 (.tmp 66) (.tmp 69) 3) 4] false)
 (.cond (.tmp 70)
 (.seq (.region 16 #[cl 71 35 #[.const (.int .i64 7),.const (.int .i64 (-1))] #[39,3] 41,o 6 (.assign (.const (.slice none 0 0))) 38,nd (.store 41 (.tmp 7) (.tmp 71))] false)
 .ret)
 .skip))
 (.seq (.region 17 #[m 72 9 3,cl 73 35 #[.const (.int .i64 9),.tmp 72] #[39,3] 41,o 6 (.assign (.const (.slice none 0 0))) 38,nd (.store 41 (.tmp 7) (.tmp 73))] false)
 .ret)))))
 (.region 9 #[m 24 10 3,o 25 (.binOp .add 3 (.tmp 24) (ci 1) 3) 3,o 10 (.assign (.tmp 25)) 3] false))))))
 (.seq (.seq (.region 18 #[m 74 9 3,fa 75 29 3 2,ld 76 75 27,o 77 (.call { callee:=.builtin .len,args:=#[.tmp 76],argTypes:=#[27] }) 3,o 78 (.binOp .lss 3 (.tmp 74) (.tmp 77) 3) 4] false)
 (.cond (.tmp 78)
 (.seq (.region 19 #[m 79 9 3,cl 80 35 #[.const (.int .i64 8),.tmp 79] #[39,3] 41,o 6 (.assign (.const (.slice none 0 0))) 38,nd (.store 41 (.tmp 7) (.tmp 80))] false)
 .ret)
 .skip))
 (.seq (.region 20 #[m 81 8 38,o 82 (.build 41 #[]) 41,o 6 (.assign (.tmp 81)) 38,nd (.store 41 (.tmp 7) (.tmp 82))] false)
 .ret))))))))
def kp36:Nat → Option (List Nat)
  | 0 => some [2,3,4,7]
  | 1 => some [2,3,4,7,13]
  | 2 => some [6,7]
  | 3 => some [2,3,7,18]
  | 4 => some [6,7]
  | 5 => some [2,3,7,8]
  | 6 => some [2,3,7,8,9]
  | 7 => some [2,3,7,8,9,10]
  | 8 => some [2,3,7,8,9,10,23]
  | 9 => some [2,3,7,8,9,10]
  | 10 => some [2,3,7,8,9,10,51]
  | 11 => some [2,3,7,8,9,10]
  | 12 => some [2,3,7,8,9,10]
  | 13 => some [2,3,7,8,9,10,62]
  | 14 => some [2,3,7,8,9,10]
  | 15 => some [7,9,70]
  | 16 => some [6,7]
  | 17 => some [6,7]
  | 18 => some [7,8,9,78]
  | 19 => some [6,7]
  | 20 => some [6,7]
  | _ => none
def fn36:AFn:={ ntmps:=83,results:=[.tmp 6,.cell 7 41],body:=c36,keep:=kp36,head:=fun | 8 => some [2,3,7,8,9,10] | _ => none,opn:=fun _ => none,dyn:=fun _ => [] }
def c40:Code :=
  (.seq (.region 0 #[o 3 (.box 29 (.tmp 0)) 0,o 6 (.assign (ci 0)) 3] false)
 (.seq (.region 1 #[m 8 1 31,m 9 1 31,o 10 (.nilCheck (.tmp 9)) 0,ld 11 10 3,o 12 (.binOp .sub 3 (.tmp 11) (ci 1) 3) 3,o 13 (.nilCheck (.tmp 8)) 0,nd (.store 3 (.tmp 13) (.tmp 12))] false)
 (.seq (.seq (.region 2 #[m 14 1 31,o 15 (.nilCheck (.tmp 14)) 0,ld 16 15 3,o 17 (.binOp .lss 3 (.tmp 16) (ci 0) 3) 4,m 18 17 4,gd 19 (.move (.tmp 2)) 3 18 false,gd 20 (.binOp .gtr 3 (.tmp 19) (ci 20) 3) 4 18 false,o 21 (.pick (.tmp 18) (.const (.bool true)) (.tmp 20)) 4,m 22 21 4,gd 23 (.fieldAddr 29 (.tmp 3) 1) 0 22 false,gd 24 (.load 26 (.tmp 23)) 26 22 false,gd 25 (.call { callee:=.builtin .len,args:=#[.tmp 24],argTypes:=#[26] }) 3 22 false,gd 26 (.binOp .gtr 3 (.tmp 25) (ci 20) 3) 4 22 false,o 27 (.pick (.tmp 22) (.const (.bool true)) (.tmp 26)) 4,m 28 27 4,gd 29 (.fieldAddr 29 (.tmp 3) 2) 0 28 false,gd 30 (.load 27 (.tmp 29)) 27 28 false,gd 31 (.call { callee:=.builtin .len,args:=#[.tmp 30],argTypes:=#[27] }) 3 28 false,gd 32 (.binOp .gtr 3 (.tmp 31) (ci 20) 3) 4 28 false,o 33 (.pick (.tmp 28) (.const (.bool true)) (.tmp 32)) 4] false)
 (.cond (.tmp 33)
 (.seq (.region 3 #[o 6 (.assign (ci 0)) 3] false)
 .ret)
 .skip))
 (.seq (.seq (.region 4 #[o 7 (.assign (ci 0)) 3] false)
 (.block 0 (.loop (.seq (.seq (.region 5 #[m 34 7 3,fa 35 29 3 2,ld 36 35 27,o 37 (.call { callee:=.builtin .len,args:=#[.tmp 36],argTypes:=#[27] }) 3,o 38 (.binOp .lss 3 (.tmp 34) (.tmp 37) 3) 4] false)
 (.cond (.tmp 38)
 .skip
 (.exit 0)))
 (.seq (.block 1 (.seq (.region 7 #[fa 41 29 3 2,ld 42 41 27,m 43 7 3,o 44 (.indexAddr 27 (.tmp 42) (.tmp 43)) 0,ld 45 44 29,m 46 1 31,m 47 2 3,o 48 (.binOp .add 3 (.tmp 47) (ci 1) 3) 3,cl 49 40 #[.tmp 45,.tmp 46,.tmp 48] #[29,31,3] 3,o 50 (.binOp .eql 3 (.tmp 49) (ci 0) 3) 4] false)
 (.cond (.tmp 50)
 (.seq (.region 8 #[o 6 (.assign (ci 0)) 3] false)
 .ret)
 .skip)))
 (.region 6 #[m 39 7 3,o 40 (.binOp .add 3 (.tmp 39) (ci 1) 3) 3,o 7 (.assign (.tmp 40)) 3] false))))))
 (.seq (.region 9 #[o 6 (.assign (ci 1)) 3] false)
 .ret)))))
def kp40:Nat → Option (List Nat)
  | 0 => some [1,2,3]
  | 1 => some [1,2,3]
  | 2 => some [1,2,3,33]
  | 3 => some [6]
  | 4 => some [1,2,3,7]
  | 5 => some [1,2,3,7,38]
  | 6 => some [1,2,3,7]
  | 7 => some [1,2,3,7,50]
  | 8 => some [6]
  | 9 => some [6]
  | _ => none
def fn40:AFn:={ ntmps:=51,results:=[.tmp 6],body:=c40,keep:=kp40,head:=fun | 5 => some [1,2,3,7] | _ => none,opn:=opnT,dyn:=fun _ => [] }
def c41:Code :=
  (.seq (.region 0 #[o 0 (.assign (.const (.bool false))) 4] false)
 (.seq (.region 1 #[o 22 (.build 82 #[(0,.const (.int .i64 0)),(1,.const (.int .i64 (-1)))]) 82,cl 23 51 #[.tmp 22] #[82] 94,m 21 23 94,o 24 (.extract (.tmp 21) 0) 26,o 25 (.extract (.tmp 21) 1) 39,o 1 (.assign (.tmp 24)) 26,o 2 (.assign (.tmp 25)) 39] false)
 (.seq (.region 2 #[o 27 (.build 82 #[(0,.const (.int .i64 (-1))),(1,.const (.int .i64 5))]) 82,cl 28 51 #[.tmp 27] #[82] 94,m 26 28 94,o 29 (.extract (.tmp 26) 0) 26,o 30 (.extract (.tmp 26) 1) 39,o 3 (.assign (.tmp 29)) 26,o 4 (.assign (.tmp 30)) 39] false)
 (.seq (.region 3 #[o 32 (.build 82 #[(0,.const (.int .i64 1)),(1,.const (.int .i64 200))]) 82,cl 33 51 #[.tmp 32] #[82] 94,m 31 33 94,o 34 (.extract (.tmp 31) 0) 26,o 35 (.extract (.tmp 31) 1) 39,o 5 (.assign (.tmp 34)) 26,o 6 (.assign (.tmp 35)) 39] false)
 (.seq (.seq (.region 4 #[m 36 2 39,o 37 (.binOp .neq 39 (.tmp 36) (ci 0) 39) 4,m 38 37 4,gd 39 (.move (.tmp 4)) 39 38 false,gd 40 (.binOp .neq 39 (.tmp 39) (ci 0) 39) 4 38 false,o 41 (.pick (.tmp 38) (.const (.bool true)) (.tmp 40)) 4,m 42 41 4,gd 43 (.move (.tmp 6)) 39 42 false,gd 44 (.binOp .neq 39 (.tmp 43) (ci 0) 39) 4 42 false,o 45 (.pick (.tmp 42) (.const (.bool true)) (.tmp 44)) 4,m 46 45 4,gd 47 (.move (.tmp 1)) 26 46 false,gd 48 (.convert 26 9 (.tmp 47)) 9 46 false,gd 49 (.binOp .neq 9 (.tmp 48) (.const (.string { data:=#[48,3,128,1,0] })) 9) 4 46 false,o 50 (.pick (.tmp 46) (.const (.bool true)) (.tmp 49)) 4,m 51 50 4,gd 52 (.move (.tmp 3)) 26 51 false,gd 53 (.convert 26 9 (.tmp 52)) 9 51 false,gd 54 (.binOp .neq 9 (.tmp 53) (.const (.string { data:=#[48,3,129,1,5] })) 9) 4 51 false,o 55 (.pick (.tmp 51) (.const (.bool true)) (.tmp 54)) 4,m 56 55 4,gd 57 (.move (.tmp 5)) 26 56 false,gd 58 (.convert 26 9 (.tmp 57)) 9 56 false,gd 59 (.binOp .neq 9 (.tmp 58) (.const (.string { data:=#[48,7,128,1,1,129,2,0,200] })) 9) 4 56 false,o 60 (.pick (.tmp 56) (.const (.bool true)) (.tmp 59)) 4] false)
 (.cond (.tmp 60)
 (.seq (.region 5 #[o 0 (.assign (.const (.bool false))) 4] false)
 .ret)
 .skip))
 (.seq (.region 6 #[⟨some 62,.buildSlice 26 2 #[(0,.const (.int .u8 48)),(1,.const (.int .u8 0))],26, "",fz,none⟩,cl 63 47 #[.tmp 62] #[26] 87,m 61 63 87,o 64 (.extract (.tmp 61) 0) 82,o 65 (.extract (.tmp 61) 1) 3,o 66 (.extract (.tmp 61) 2) 39,o 7 (.alloc 82) 0,nd (.store 82 (.tmp 7) (.tmp 64)),o 8 (.assign (.tmp 65)) 3,o 9 (.assign (.tmp 66)) 39] false)
 (.seq (.region 7 #[⟨some 68,.buildSlice 26 5 #[(0,.const (.int .u8 48)),(1,.const (.int .u8 3)),(2,.const (.int .u8 128)),(3,.const (.int .u8 1)),(4,.const (.int .u8 255))],26, "",fz,none⟩,cl 69 47 #[.tmp 68] #[26] 87,m 67 69 87,o 70 (.extract (.tmp 67) 0) 82,o 71 (.extract (.tmp 67) 1) 3,o 72 (.extract (.tmp 67) 2) 39,o 10 (.alloc 82) 0,nd (.store 82 (.tmp 10) (.tmp 70)),o 11 (.assign (.tmp 71)) 3,o 12 (.assign (.tmp 72)) 39] false)
 (.seq (.region 8 #[⟨some 74,.buildSlice 26 8 #[(0,.const (.int .u8 48)),(1,.const (.int .u8 6)),(2,.const (.int .u8 129)),(3,.const (.int .u8 1)),(4,.const (.int .u8 0)),(5,.const (.int .u8 128)),(6,.const (.int .u8 1)),(7,.const (.int .u8 0))],26, "",fz,none⟩,cl 75 47 #[.tmp 74] #[26] 87,m 73 75 87,o 76 (.extract (.tmp 73) 0) 82,o 77 (.extract (.tmp 73) 1) 3,o 78 (.extract (.tmp 73) 2) 39,o 13 (.alloc 82) 0,nd (.store 82 (.tmp 13) (.tmp 76)),o 14 (.assign (.tmp 77)) 3,o 15 (.assign (.tmp 78)) 39] false)
 (.seq (.region 9 #[cl 80 53 #[.const (.int .i64 0)] #[3] 94,m 79 80 94,o 81 (.extract (.tmp 79) 0) 26,o 82 (.extract (.tmp 79) 1) 39,o 16 (.assign (.tmp 81)) 26,o 17 (.assign (.tmp 82)) 39] false)
 (.seq (.region 10 #[⟨some 84,.buildSlice 26 7 #[(0,.const (.int .u8 2)),(1,.const (.int .u8 5)),(2,.const (.int .u8 0)),(3,.const (.int .u8 128)),(4,.const (.int .u8 0)),(5,.const (.int .u8 0)),(6,.const (.int .u8 0))],26, "",fz,none⟩,cl 85 48 #[.tmp 84] #[26] 89,m 83 85 89,o 86 (.extract (.tmp 83) 0) 3,o 87 (.extract (.tmp 83) 1) 3,o 88 (.extract (.tmp 83) 2) 39,o 18 (.assign (.tmp 86)) 3,o 19 (.assign (.tmp 87)) 3,o 20 (.assign (.tmp 88)) 39] false)
 (.seq (.seq (.region 11 #[m 89 8 3,o 90 (.binOp .neq 3 (.tmp 89) (ci 0) 3) 4,m 91 90 4,gd 92 (.move (.tmp 9)) 39 91 false,gd 93 (.binOp .neq 39 (.tmp 92) (ci 17) 39) 4 91 false,o 94 (.pick (.tmp 91) (.const (.bool true)) (.tmp 93)) 4,m 95 94 4,gd 96 (.move (.tmp 11)) 3 95 false,gd 97 (.binOp .neq 3 (.tmp 96) (ci 2) 3) 4 95 false,o 98 (.pick (.tmp 95) (.const (.bool true)) (.tmp 97)) 4,m 99 98 4,gd 100 (.move (.tmp 12)) 39 99 false,gd 101 (.binOp .neq 39 (.tmp 100) (ci 11) 39) 4 99 false,o 102 (.pick (.tmp 99) (.const (.bool true)) (.tmp 101)) 4,m 103 102 4,gd 104 (.move (.tmp 14)) 3 103 false,gd 105 (.binOp .neq 3 (.tmp 104) (ci 5) 3) 4 103 false,o 106 (.pick (.tmp 103) (.const (.bool true)) (.tmp 105)) 4,m 107 106 4,gd 108 (.move (.tmp 15)) 39 107 false,gd 109 (.binOp .neq 39 (.tmp 108) (ci 8) 39) 4 107 false,o 110 (.pick (.tmp 107) (.const (.bool true)) (.tmp 109)) 4,m 111 110 4,gd 112 (.move (.tmp 17)) 39 111 false,gd 113 (.binOp .neq 39 (.tmp 112) (ci 0) 39) 4 111 false,o 114 (.pick (.tmp 111) (.const (.bool true)) (.tmp 113)) 4,m 115 114 4,gd 116 (.move (.tmp 16)) 26 115 false,gd 117 (.convert 26 9 (.tmp 116)) 9 115 false,gd 118 (.binOp .neq 9 (.tmp 117) (.const (.string { data:=#[2,1,0] })) 9) 4 115 false,o 119 (.pick (.tmp 115) (.const (.bool true)) (.tmp 118)) 4,m 120 119 4,gd 121 (.move (.tmp 19)) 3 120 false,gd 122 (.binOp .neq 3 (.tmp 121) (ci 0) 3) 4 120 false,o 123 (.pick (.tmp 120) (.const (.bool true)) (.tmp 122)) 4,m 124 123 4,gd 125 (.move (.tmp 20)) 39 124 false,gd 126 (.binOp .neq 39 (.tmp 125) (ci 3) 39) 4 124 false,o 127 (.pick (.tmp 124) (.const (.bool true)) (.tmp 126)) 4] false)
 (.cond (.tmp 127)
 (.seq (.region 12 #[o 0 (.assign (.const (.bool false))) 4] false)
 .ret)
 .skip))
 (.seq (.region 13 #[o 128 (.build 82 #[(0,.const (.int .i64 (-1))),(1,.const (.int .i64 (-1)))]) 82,cl 129 85 #[.tmp 128] #[82] 39,o 130 (.binOp .eql 39 (.tmp 129) (ci 17) 39) 4,m 131 130 4,gd 132 (.build 82 #[(0,.const (.int .i64 (-2)))]) 82 131 true,gd 133 (.call { callee:=.value (.func 85),args:=#[.tmp 132],argTypes:=#[82] }) 39 131 true,gd 134 (.binOp .eql 39 (.tmp 133) (ci 1) 39) 4 131 true,o 135 (.pick (.tmp 131) (.tmp 134) (.const (.bool false))) 4,m 136 135 4,gd 137 (.call { callee:=.value (.func 86),args:=#[.const (.int .i64 3),.const (.int .i64 (-1))],argTypes:=#[3,3] }) 3 136 true,gd 138 (.binOp .eql 3 (.tmp 137) (ci 3) 3) 4 136 true,o 139 (.pick (.tmp 136) (.tmp 138) (.const (.bool false))) 4,m 140 139 4,gd 141 (.call { callee:=.value (.func 86),args:=#[.const (.int .i64 (-1)),.const (.int .i64 (-7))],argTypes:=#[3,3] }) 3 140 true,gd 142 (.binOp .eql 3 (.tmp 141) (ci (-1)) 3) 4 140 true,o 143 (.pick (.tmp 140) (.tmp 142) (.const (.bool false))) 4,m 144 143 4,gd 145 (.call { callee:=.value (.func 86),args:=#[.const (.int .i64 2),.const (.int .i64 0)],argTypes:=#[3,3] }) 3 144 true,gd 146 (.binOp .eql 3 (.tmp 145) (ci 0) 3) 4 144 true,o 147 (.pick (.tmp 144) (.tmp 146) (.const (.bool false))) 4,o 0 (.assign (.tmp 147)) 4] false)
 .ret))))))))))))
def kp41:Nat → Option (List Nat)
  | 0 => some []
  | 1 => some [1,2]
  | 2 => some [1,2,3,4]
  | 3 => some [1,2,3,4,5,6]
  | 4 => some [60]
  | 5 => some [0]
  | 6 => some [8,9]
  | 7 => some [8,9,11,12]
  | 8 => some [8,9,11,12,14,15]
  | 9 => some [8,9,11,12,14,15,16,17]
  | 10 => some [8,9,11,12,14,15,16,17,19,20]
  | 11 => some [127]
  | 12 => some [0]
  | 13 => some [0]
  | _ => none
def fn41:AFn:={ ntmps:=148,results:=[.tmp 0],body:=c41,keep:=kp41,head:=fun  | _ => none,opn:=fun _ => none,dyn:=fun _ => [] }
def c42:Code :=
  (.seq (.region 0 #[o 1 (.box 29 (.tmp 0)) 0,o 2 (.alloc 82) 0,o 3 (.alloc 41) 0] false)
 (.seq (.seq (.region 1 #[ld 12 1 29,cl 13 22 #[.tmp 12] #[29] 39,o 4 (.assign (.tmp 13)) 39] false)
 (.seq (.region 2 #[m 14 4 39,o 15 (.binOp .neq 39 (.tmp 14) (ci 0) 39) 4] false)
 (.cond (.tmp 15)
 (.seq (.region 3 #[o 16 (.build 82 #[]) 82,m 17 4 39,o 18 (.build 41 #[(1,.tmp 17)]) 41,nd (.store 82 (.tmp 2) (.tmp 16)),nd (.store 41 (.tmp 3) (.tmp 18))] false)
 .ret)
 .skip)))
 (.seq (.region 4 #[ld 20 1 29,o 21 (.load 25 (.global 3)) 25,cl 22 87 #[.const (.int .i64 0)] #[3] 25,o 23 (.build 75 #[(0,.tmp 22),(2,.const (.bool true))]) 75,cl 24 87 #[.const (.int .i64 1)] #[3] 25,o 25 (.build 75 #[(0,.tmp 24),(2,.const (.bool true))]) 75,⟨some 26,.buildSlice 76 2 #[(0,.tmp 23),(1,.tmp 25)],76, "",fz,none⟩,cl 27 69 #[.tmp 20,.tmp 21,.tmp 26] #[29,25,76] 72,m 19 27 72,o 28 (.extract (.tmp 19) 0) 38,o 29 (.extract (.tmp 19) 1) 41,o 6 (.alloc 41) 0,o 5 (.assign (.tmp 28)) 38,nd (.store 41 (.tmp 6) (.tmp 29))] true)
 (.seq (.seq (.region 5 #[fa 30 41 6 1,ld 31 30 39,o 32 (.binOp .neq 39 (.tmp 31) (ci 0) 39) 4] false)
 (.cond (.tmp 32)
 (.seq (.region 6 #[o 33 (.build 82 #[]) 82,ld 34 6 41,nd (.store 82 (.tmp 2) (.tmp 33)),nd (.store 41 (.tmp 3) (.tmp 34))] true)
 .ret)
 .skip))
 (.seq (.seq (.region 7 #[fa 35 29 1 2,ld 36 35 27,o 37 (.call { callee:=.builtin .len,args:=#[.tmp 36],argTypes:=#[27] }) 3,o 38 (.binOp .eql 3 (.tmp 37) (ci 0) 3) 4] false)
 (.cond (.tmp 38)
 (.seq (.region 8 #[o 39 (.build 82 #[]) 82,o 40 (.build 41 #[(1,.const (.int .i64 17))]) 41,nd (.store 82 (.tmp 2) (.tmp 39)),nd (.store 41 (.tmp 3) (.tmp 40))] false)
 .ret)
 .skip))
 (.seq (.region 9 #[o 41 (.build 82 #[(0,.const (.int .i64 (-1))),(1,.const (.int .i64 (-1)))]) 82,o 7 (.alloc 82) 0,nd (.store 82 (.tmp 7) (.tmp 41))] false)
 (.seq (.seq (.region 10 #[fa 42 82 7 0,fa 43 82 7 1,o 44 (.build 141 #[(0,.tmp 42),(1,.tmp 43)]) 141,o 45 (.move (ci 0)) 3] false)
 (.block 0 (.loop (.seq (.region 11 #[o 46 (.binOp .lss 3 (.tmp 45) (ci 2) 3) 0] false)
 (.seq (.cond (.tmp 46)
 .skip
 (.exit 0))
 (.seq (.block 1 (.seq (.region 12 #[m 47 45 3,o 48 (.index 141 (.tmp 44) (.tmp 45)) 31,o 8 (.assign (.tmp 47)) 3,o 9 (.assign (.tmp 48)) 31] false)
 (.seq (.seq (.region 13 #[m 49 5 38,m 50 8 3,o 51 (.indexAddr 38 (.tmp 49) (.tmp 50)) 0,ld 52 51 3,o 53 (.binOp .lss 3 (.tmp 52) (ci 0) 3) 4] false)
 (.cond (.tmp 53)
 (.exit 1)
 .skip))
 (.seq (.region 14 #[fa 55 29 1 2,ld 56 55 27,m 57 5 38,m 58 8 3,o 59 (.indexAddr 38 (.tmp 57) (.tmp 58)) 0,ld 60 59 3,o 61 (.indexAddr 27 (.tmp 56) (.tmp 60)) 0,fa 62 29 61 1,ld 63 62 26,cl 64 88 #[.tmp 63] #[26] 96,m 54 64 96,o 65 (.extract (.tmp 54) 0) 3,o 66 (.extract (.tmp 54) 1) 39,o 10 (.assign (.tmp 65)) 3,o 11 (.assign (.tmp 66)) 39] true)
 (.seq (.seq (.region 15 #[m 67 11 39,o 68 (.binOp .neq 39 (.tmp 67) (ci 0) 39) 4] false)
 (.cond (.tmp 68)
 (.seq (.region 16 #[o 69 (.build 82 #[]) 82,m 70 5 38,m 71 8 3,o 72 (.indexAddr 38 (.tmp 70) (.tmp 71)) 0,ld 73 72 3,m 74 11 39,o 75 (.build 41 #[(1,.tmp 74)]) 41,cl 76 82 #[.tmp 73,.tmp 75] #[3,41] 41,nd (.store 82 (.tmp 2) (.tmp 69)),nd (.store 41 (.tmp 3) (.tmp 76))] false)
 .ret)
 .skip))
 (.region 17 #[m 77 9 31,m 78 10 3,o 79 (.nilCheck (.tmp 77)) 0,nd (.store 3 (.tmp 79) (.tmp 78))] false))))))
 (.region 18 #[o 80 (.binOp .add 3 (.tmp 45) (ci 1) 3) 3,m 45 80 3] false)))))))
 (.seq (.region 19 #[ld 81 7 82,o 82 (.build 41 #[]) 41,nd (.store 82 (.tmp 2) (.tmp 81)),nd (.store 41 (.tmp 3) (.tmp 82))] false)
 .ret))))))))
def kp42:Nat → Option (List Nat)
  | 0 => some [1,2,3]
  | 1 => some [1,2,3,4]
  | 2 => some [1,2,3,4,15]
  | 3 => some [2,3]
  | 4 => some [1,2,3,5,6]
  | 5 => some [1,2,3,5,6,32]
  | 6 => some [2,3]
  | 7 => some [1,2,3,5,38]
  | 8 => some [2,3]
  | 9 => some [1,2,3,5,7]
  | 10 => some [1,2,3,5,7,44,45]
  | 11 => some [1,2,3,5,7,44,45,46]
  | 12 => some [1,2,3,5,7,8,9,44,45]
  | 13 => some [1,2,3,5,7,8,9,44,45,53]
  | 14 => some [1,2,3,5,7,8,9,10,11,44,45]
  | 15 => some [1,2,3,5,7,8,9,10,11,44,45,68]
  | 16 => some [2,3]
  | 17 => some [1,2,3,5,7,44,45]
  | 18 => some [1,2,3,5,7,44,45]
  | 19 => some [2,3]
  | _ => none
def fn42:AFn:={ ntmps:=83,results:=[.cell 2 82,.cell 3 41],body:=c42,keep:=kp42,head:=fun | 11 => some [1,2,3,5,7,44,45] | _ => none,opn:=fun _ => none,dyn:=fun | 6 => [(1,2)] | _ => [] }
def c43:Code :=
  (.seq (.region 0 #[o 1 (.box 29 (.tmp 0)) 0,o 2 (.alloc 82) 0,o 3 (.alloc 41) 0] false)
 (.seq (.region 1 #[o 4 (.alloc 82) 0] false)
 (.seq (.region 2 #[ld 11 1 29,cl 12 22 #[.tmp 11] #[29] 39,o 5 (.assign (.tmp 12)) 39] false)
 (.seq (.seq (.region 3 #[m 13 5 39,o 14 (.binOp .neq 39 (.tmp 13) (ci 0) 39) 4] false)
 (.cond (.tmp 14)
 (.seq (.region 4 #[ld 15 4 82,m 16 5 39,cl 17 35 #[.tmp 16,.const (.int .i64 (-1))] #[39,3] 41,nd (.store 82 (.tmp 2) (.tmp 15)),nd (.store 41 (.tmp 3) (.tmp 17))] true)
 .ret)
 .skip))
 (.seq (.region 5 #[o 18 (.build 25 #[(0,.const (.int .u8 2))]) 25,o 19 (.build 75 #[(0,.tmp 18),(2,.const (.bool true))]) 75,o 6 (.alloc 75) 0,nd (.store 75 (.tmp 6) (.tmp 19))] false)
 (.seq (.region 6 #[o 20 (.build 25 #[(0,.const (.int .u8 2)),(2,.const (.int .u32 1))]) 25,o 21 (.build 75 #[(0,.tmp 20),(2,.const (.bool true))]) 75,o 7 (.alloc 75) 0,nd (.store 75 (.tmp 7) (.tmp 21))] false)
 (.seq (.region 7 #[ld 23 1 29,o 24 (.build 25 #[(1,.const (.bool true)),(2,.const (.int .u32 16))]) 25,ld 25 6 75,ld 26 7 75,⟨some 27,.buildSlice 76 2 #[(0,.tmp 25),(1,.tmp 26)],76, "",fz,none⟩,cl 28 36 #[.tmp 23,.tmp 24,.tmp 27] #[29,25,76] 72,m 22 28 72,o 29 (.extract (.tmp 22) 0) 38,o 30 (.extract (.tmp 22) 1) 41,o 9 (.alloc 41) 0,o 8 (.assign (.tmp 29)) 38,nd (.store 41 (.tmp 9) (.tmp 30))] false)
 (.seq (.seq (.region 8 #[fa 31 41 9 1,ld 32 31 39,o 33 (.binOp .neq 39 (.tmp 32) (ci 0) 39) 4] false)
 (.cond (.tmp 33)
 (.seq (.region 9 #[ld 34 4 82,ld 35 9 41,nd (.store 82 (.tmp 2) (.tmp 34)),nd (.store 41 (.tmp 3) (.tmp 35))] true)
 .ret)
 .skip))
 (.seq (.region 10 #[o 36 (.build 82 #[(0,.const (.int .i64 (-1))),(1,.const (.int .i64 (-1)))]) 82,o 10 (.alloc 82) 0,nd (.store 82 (.tmp 10) (.tmp 36))] false)
 (.seq (.seq (.region 11 #[m 37 8 38,o 38 (.indexAddr 38 (.tmp 37) (ci 0)) 0,ld 39 38 3,o 40 (.binOp .lss 3 (.tmp 39) (ci 0) 3) 4,m 41 40 4,gd 42 (.move (.tmp 8)) 38 41 true,gd 43 (.indexAddr 38 (.tmp 42) (ci 1)) 0 41 true,gd 44 (.load 3 (.tmp 43)) 3 41 true,gd 45 (.binOp .lss 3 (.tmp 44) (ci 0) 3) 4 41 true,o 46 (.pick (.tmp 41) (.tmp 45) (.const (.bool false))) 4] false)
 (.cond (.tmp 46)
 (.seq (.region 12 #[ld 47 4 82,cl 48 35 #[.const (.int .i64 17),.const (.int .i64 (-1))] #[39,3] 41,nd (.store 82 (.tmp 2) (.tmp 47)),nd (.store 41 (.tmp 3) (.tmp 48))] true)
 .ret)
 .skip))
 (.seq (.seq (.region 13 #[m 49 8 38,o 50 (.indexAddr 38 (.tmp 49) (ci 0)) 0,ld 51 50 3,o 52 (.binOp .geq 3 (.tmp 51) (ci 0) 3) 4] false)
 (.cond (.tmp 52)
 (.seq (.region 14 #[fa 54 29 1 2,ld 55 54 27,m 56 8 38,o 57 (.indexAddr 38 (.tmp 56) (ci 0)) 0,ld 58 57 3,o 59 (.indexAddr 27 (.tmp 55) (.tmp 58)) 0,fa 60 29 59 1,ld 61 60 26,cl 62 52 #[.tmp 61] #[26] 96,m 53 62 96,o 63 (.extract (.tmp 53) 0) 3,o 64 (.extract (.tmp 53) 1) 39,fa 65 82 10 0,nd (.store 3 (.tmp 65) (.tmp 63)),o 5 (.assign (.tmp 64)) 39] true)
 (.seq (.region 15 #[m 66 5 39,o 67 (.binOp .neq 39 (.tmp 66) (ci 0) 39) 4] false)
 (.cond (.tmp 67)
 (.seq (.region 16 #[ld 68 4 82,m 69 5 39,m 70 8 38,o 71 (.indexAddr 38 (.tmp 70) (ci 0)) 0,ld 72 71 3,cl 73 35 #[.tmp 69,.tmp 72] #[39,3] 41,nd (.store 82 (.tmp 2) (.tmp 68)),nd (.store 41 (.tmp 3) (.tmp 73))] true)
 .ret)
 .skip)))
 .skip))
 (.seq (.seq (.region 17 #[m 74 8 38,o 75 (.indexAddr 38 (.tmp 74) (ci 1)) 0,ld 76 75 3,o 77 (.binOp .geq 3 (.tmp 76) (ci 0) 3) 4] false)
 (.cond (.tmp 77)
 (.seq (.region 18 #[fa 79 29 1 2,ld 80 79 27,m 81 8 38,o 82 (.indexAddr 38 (.tmp 81) (ci 1)) 0,ld 83 82 3,o 84 (.indexAddr 27 (.tmp 80) (.tmp 83)) 0,fa 85 29 84 1,ld 86 85 26,cl 87 52 #[.tmp 86] #[26] 96,m 78 87 96,o 88 (.extract (.tmp 78) 0) 3,o 89 (.extract (.tmp 78) 1) 39,fa 90 82 10 1,nd (.store 3 (.tmp 90) (.tmp 88)),o 5 (.assign (.tmp 89)) 39] true)
 (.seq (.region 19 #[m 91 5 39,o 92 (.binOp .neq 39 (.tmp 91) (ci 0) 39) 4] false)
 (.cond (.tmp 92)
 (.seq (.region 20 #[ld 93 4 82,m 94 5 39,m 95 8 38,o 96 (.indexAddr 38 (.tmp 95) (ci 1)) 0,ld 97 96 3,cl 98 35 #[.tmp 94,.tmp 97] #[39,3] 41,nd (.store 82 (.tmp 2) (.tmp 93)),nd (.store 41 (.tmp 3) (.tmp 98))] true)
 .ret)
 .skip)))
 .skip))
 (.seq (.region 21 #[ld 99 10 82,ld 100 9 41,nd (.store 82 (.tmp 2) (.tmp 99)),nd (.store 41 (.tmp 3) (.tmp 100))] true)
 .ret)))))))))))))
def kp43:Nat → Option (List Nat)
  | 0 => some [1,2,3]
  | 1 => some [1,2,3,4]
  | 2 => some [1,2,3,4,5]
  | 3 => some [1,2,3,4,5,14]
  | 4 => some [2,3]
  | 5 => some [1,2,3,4,6]
  | 6 => some [1,2,3,4,6,7]
  | 7 => some [1,2,3,4,8,9]
  | 8 => some [1,2,3,4,8,9,33]
  | 9 => some [2,3]
  | 10 => some [1,2,3,4,8,9,10]
  | 11 => some [1,2,3,4,8,9,10,46]
  | 12 => some [2,3]
  | 13 => some [1,2,3,4,8,9,10,52]
  | 14 => some [1,2,3,4,5,8,9,10]
  | 15 => some [1,2,3,4,5,8,9,10,67]
  | 16 => some [2,3]
  | 17 => some [1,2,3,4,8,9,10,77]
  | 18 => some [2,3,4,5,8,9,10]
  | 19 => some [2,3,4,5,8,9,10,92]
  | 20 => some [2,3]
  | 21 => some [2,3]
  | _ => none
def fn43:AFn:={ ntmps:=101,results:=[.cell 2 82,.cell 3 41],body:=c43,keep:=kp43,head:=fun  | _ => none,opn:=fun _ => none,dyn:=fun | 9 => [(1,2)] | 21 => [(1,2)] | _ => [] }
def c44:Code :=
  (.seq (.region 0 #[o 2 (.box 41 (.tmp 0)) 0,o 3 (.box 41 (.tmp 1)) 0,o 4 (.assign (ci 0)) 3] false)
 (.seq (.seq (.region 1 #[fa 6 41 2 1,ld 7 6 39,fa 8 41 3 1,ld 9 8 39,o 10 (.binOp .neq 39 (.tmp 7) (.tmp 9) 39) 4,m 11 10 4,gd 12 (.fieldAddr 41 (.tmp 2) 0) 0 11 false,gd 13 (.load 38 (.tmp 12)) 38 11 false,gd 14 (.call { callee:=.builtin .len,args:=#[.tmp 13],argTypes:=#[38] }) 3 11 false,gd 15 (.fieldAddr 41 (.tmp 3) 0) 0 11 false,gd 16 (.load 38 (.tmp 15)) 38 11 false,gd 17 (.call { callee:=.builtin .len,args:=#[.tmp 16],argTypes:=#[38] }) 3 11 false,gd 18 (.binOp .neq 3 (.tmp 14) (.tmp 17) 3) 4 11 false,o 19 (.pick (.tmp 11) (.const (.bool true)) (.tmp 18)) 4,m 20 19 4,gd 21 (.fieldAddr 41 (.tmp 2) 0) 0 20 false,gd 22 (.load 38 (.tmp 21)) 38 20 false,gd 23 (.call { callee:=.builtin .cap,args:=#[.tmp 22],argTypes:=#[38] }) 3 20 false,gd 24 (.fieldAddr 41 (.tmp 2) 0) 0 20 false,gd 25 (.load 38 (.tmp 24)) 38 20 false,gd 26 (.call { callee:=.builtin .len,args:=#[.tmp 25],argTypes:=#[38] }) 3 20 false,gd 27 (.binOp .neq 3 (.tmp 23) (.tmp 26) 3) 4 20 false,o 28 (.pick (.tmp 20) (.const (.bool true)) (.tmp 27)) 4] false)
 (.cond (.tmp 28)
 (.seq (.region 2 #[o 4 (.assign (ci 0)) 3] false)
 .ret)
 .skip))
 (.seq (.seq (.region 3 #[o 5 (.assign (ci 0)) 3] false)
 (.block 0 (.loop (.seq (.seq (.region 4 #[m 29 5 3,fa 30 41 2 0,ld 31 30 38,o 32 (.call { callee:=.builtin .len,args:=#[.tmp 31],argTypes:=#[38] }) 3,o 33 (.binOp .lss 3 (.tmp 29) (.tmp 32) 3) 4] false)
 (.cond (.tmp 33)
 .skip
 (.exit 0)))
 (.seq (.block 1 (.seq (.region 6 #[fa 36 41 2 0,ld 37 36 38,m 38 5 3,o 39 (.indexAddr 38 (.tmp 37) (.tmp 38)) 0,ld 40 39 3,fa 41 41 3 0,ld 42 41 38,m 43 5 3,o 44 (.indexAddr 38 (.tmp 42) (.tmp 43)) 0,ld 45 44 3,o 46 (.binOp .neq 3 (.tmp 40) (.tmp 45) 3) 4] true)
 (.cond (.tmp 46)
 (.seq (.region 7 #[o 4 (.assign (ci 0)) 3] false)
 .ret)
 .skip)))
 (.region 5 #[m 34 5 3,o 35 (.binOp .add 3 (.tmp 34) (ci 1) 3) 3,o 5 (.assign (.tmp 35)) 3] false))))))
 (.seq (.region 8 #[o 4 (.assign (ci 1)) 3] false)
 .ret))))
def kp44:Nat → Option (List Nat)
  | 0 => some [2,3]
  | 1 => some [2,3,28]
  | 2 => some [4]
  | 3 => some [2,3,5]
  | 4 => some [2,3,5,33]
  | 5 => some [2,3,5]
  | 6 => some [2,3,5,46]
  | 7 => some [4]
  | 8 => some [4]
  | _ => none
def fn44:AFn:={ ntmps:=47,results:=[.tmp 4],body:=c44,keep:=kp44,head:=fun | 4 => some [2,3,5] | _ => none,opn:=fun _ => none,dyn:=fun _ => [] }
def c45:Code :=
  (.seq (.region 0 #[o 1 (.box 82 (.tmp 0)) 0,o 2 (.alloc 29) 0,o 3 (.assign (ci 0)) 39] false)
 (.seq (.seq (.region 1 #[ld 8 1 82,cl 9 85 #[.tmp 8] #[82] 39,o 4 (.assign (.tmp 9)) 39] false)
 (.seq (.region 2 #[m 10 4 39,o 11 (.binOp .neq 39 (.tmp 10) (ci 0) 39) 4] false)
 (.cond (.tmp 11)
 (.seq (.region 3 #[o 12 (.build 29 #[]) 29,m 13 4 39,nd (.store 29 (.tmp 2) (.tmp 12)),o 3 (.assign (.tmp 13)) 39] false)
 .ret)
 .skip)))
 (.seq (.region 4 #[o 14 (.load 25 (.global 3)) 25,o 15 (.build 29 #[(0,.tmp 14)]) 29,o 5 (.alloc 29) 0,nd (.store 29 (.tmp 5) (.tmp 15))] false)
 (.seq (.seq (.region 5 #[fa 16 82 1 0,ld 17 16 3,fa 18 82 1 1,ld 19 18 3,o 20 (.build 142 #[(0,.tmp 17),(1,.tmp 19)]) 142,o 21 (.move (ci 0)) 3] false)
 (.block 0 (.loop (.seq (.region 6 #[o 22 (.binOp .lss 3 (.tmp 21) (ci 2) 3) 0] false)
 (.seq (.cond (.tmp 22)
 .skip
 (.exit 0))
 (.seq (.block 1 (.seq (.region 7 #[m 23 21 3,o 24 (.index 142 (.tmp 20) (.tmp 21)) 3,o 6 (.assign (.tmp 23)) 3,o 7 (.assign (.tmp 24)) 3] false)
 (.seq (.region 8 #[m 25 7 3,o 26 (.binOp .neq 3 (.tmp 25) (ci (-1)) 3) 4] false)
 (.cond (.tmp 26)
 (.region 9 #[fa 27 29 5 2,ld 28 27 27,m 29 6 3,cl 30 87 #[.tmp 29] #[3] 25,m 31 7 3,cl 32 89 #[.tmp 31] #[3] 26,o 33 (.build 29 #[(0,.tmp 30),(1,.tmp 32)]) 29,o 34 (.buildSlice 27 1 #[(0,.tmp 33)]) 27,o 35 (.call { callee:=.builtin .append,args:=#[.tmp 28,.tmp 34],argTypes:=#[27,27] }) 27,fa 36 29 5 2,nd (.store 27 (.tmp 36) (.tmp 35))] true)
 .skip))))
 (.region 10 #[o 37 (.binOp .add 3 (.tmp 21) (ci 1) 3) 3,m 21 37 3] false)))))))
 (.seq (.region 11 #[fa 38 29 5 2,ld 39 38 27,cl 40 90 #[.tmp 39] #[27] 27,fa 41 29 5 2,nd (.store 27 (.tmp 41) (.tmp 40))] false)
 (.seq (.region 12 #[ld 42 5 29,nd (.store 29 (.tmp 2) (.tmp 42)),o 3 (.assign (ci 0)) 39] false)
 .ret))))))
def kp45:Nat → Option (List Nat)
  | 0 => some [1,2]
  | 1 => some [1,2,4]
  | 2 => some [1,2,4,11]
  | 3 => some [2,3]
  | 4 => some [1,2,5]
  | 5 => some [2,5,20,21]
  | 6 => some [2,5,20,21,22]
  | 7 => some [2,5,6,7,20,21]
  | 8 => some [2,5,6,7,20,21,26]
  | 9 => some [2,5,20,21]
  | 10 => some [2,5,20,21]
  | 11 => some [2,5]
  | 12 => some [2,3]
  | _ => none
def fn45:AFn:={ ntmps:=43,results:=[.cell 2 29,.tmp 3],body:=c45,keep:=kp45,head:=fun | 6 => some [2,5,20,21] | _ => none,opn:=fun _ => none,dyn:=fun _ => [] }
def c46:Code :=
  (.seq (.region 0 #[o 1 (.box 82 (.tmp 0)) 0,o 2 (.assign (ci 0)) 39] false)
 (.seq (.seq (.region 1 #[fa 3 82 1 0,ld 4 3 3,o 5 (.binOp .lss 3 (.tmp 4) (ci (-1)) 3) 4,m 6 5 4,gd 7 (.fieldAddr 82 (.tmp 1) 0) 0 6 false,gd 8 (.load 3 (.tmp 7)) 3 6 false,gd 9 (.binOp .gtr 3 (.tmp 8) (ci 2147483647) 3) 4 6 false,o 10 (.pick (.tmp 6) (.const (.bool true)) (.tmp 9)) 4,m 11 10 4,gd 12 (.fieldAddr 82 (.tmp 1) 1) 0 11 false,gd 13 (.load 3 (.tmp 12)) 3 11 false,gd 14 (.binOp .lss 3 (.tmp 13) (ci (-1)) 3) 4 11 false,o 15 (.pick (.tmp 11) (.const (.bool true)) (.tmp 14)) 4,m 16 15 4,gd 17 (.fieldAddr 82 (.tmp 1) 1) 0 16 false,gd 18 (.load 3 (.tmp 17)) 3 16 false,gd 19 (.binOp .gtr 3 (.tmp 18) (ci 2147483647) 3) 4 16 false,o 20 (.pick (.tmp 16) (.const (.bool true)) (.tmp 19)) 4] false)
 (.cond (.tmp 20)
 (.seq (.region 2 #[o 2 (.assign (ci 1)) 39] false)
 .ret)
 .skip))
 (.seq (.seq (.region 3 #[fa 21 82 1 0,ld 22 21 3,o 23 (.binOp .eql 3 (.tmp 22) (ci (-1)) 3) 4,m 24 23 4,gd 25 (.fieldAddr 82 (.tmp 1) 1) 0 24 true,gd 26 (.load 3 (.tmp 25)) 3 24 true,gd 27 (.binOp .eql 3 (.tmp 26) (ci (-1)) 3) 4 24 true,o 28 (.pick (.tmp 24) (.tmp 27) (.const (.bool false))) 4] false)
 (.cond (.tmp 28)
 (.seq (.region 4 #[o 2 (.assign (ci 17)) 39] false)
 .ret)
 .skip))
 (.seq (.region 5 #[o 2 (.assign (ci 0)) 39] false)
 .ret))))
def kp46:Nat → Option (List Nat)
  | 0 => some [1]
  | 1 => some [1,20]
  | 2 => some [2]
  | 3 => some [28]
  | 4 => some [2]
  | 5 => some [2]
  | _ => none
def fn46:AFn:={ ntmps:=29,results:=[.tmp 2],body:=c46,keep:=kp46,head:=fun  | _ => none,opn:=fun _ => none,dyn:=fun _ => [] }
def c47:Code :=
  (.seq (.region 0 #[o 2 (.alloc 82) 0,o 3 (.assign (ci 0)) 3,o 4 (.assign (ci 0)) 39] false)
 (.seq (.region 1 #[m 5 0 26,cl 6 91 #[.tmp 5,.func 42] #[26,84] 87,o 7 (.extract (.tmp 6) 0) 82,o 8 (.extract (.tmp 6) 1) 3,o 9 (.extract (.tmp 6) 2) 39,nd (.store 82 (.tmp 2) (.tmp 7)),o 3 (.assign (.tmp 8)) 3,o 4 (.assign (.tmp 9)) 39] false)
 .ret))
def kp47:Nat → Option (List Nat)
  | 0 => some [0,2]
  | 1 => some [2,3,4]
  | _ => none
def fn47:AFn:={ ntmps:=10,results:=[.cell 2 82,.tmp 3,.tmp 4],body:=c47,keep:=kp47,head:=fun  | _ => none,opn:=opnT,dyn:=fun _ => [] }
def c48:Code :=
  (.seq (.region 0 #[o 2 (.assign (ci 0)) 3,o 3 (.assign (ci 0)) 3,o 4 (.assign (ci 0)) 39] false)
 (.seq (.region 1 #[m 5 0 26,cl 6 92 #[.tmp 5,.func 93] #[26,147] 89,o 7 (.extract (.tmp 6) 0) 3,o 8 (.extract (.tmp 6) 1) 3,o 9 (.extract (.tmp 6) 2) 39,o 2 (.assign (.tmp 7)) 3,o 3 (.assign (.tmp 8)) 3,o 4 (.assign (.tmp 9)) 39] false)
 .ret))
def kp48:Nat → Option (List Nat)
  | 0 => some [0]
  | 1 => some [2,3,4]
  | _ => none
def fn48:AFn:={ ntmps:=10,results:=[.tmp 2,.tmp 3,.tmp 4],body:=c48,keep:=kp48,head:=fun  | _ => none,opn:=opnT,dyn:=fun _ => [] }
def c49:Code :=
  (.seq (.region 0 #[o 2 (.alloc 29) 0,o 3 (.assign (ci 0)) 3,o 4 (.assign (ci 0)) 39] false)
 (.seq (.region 1 #[m 7 0 26,cl 8 94 #[.tmp 7] #[26] 148,m 6 8 148,o 9 (.extract (.tmp 6) 0) 29,o 10 (.extract (.tmp 6) 1) 3,o 11 (.extract (.tmp 6) 2) 3,o 12 (.extract (.tmp 6) 3) 39,nd (.store 29 (.tmp 2) (.tmp 9)),o 5 (.assign (.tmp 10)) 3,o 3 (.assign (.tmp 11)) 3,o 4 (.assign (.tmp 12)) 39] false)
 (.seq (.block 0 (.seq (.region 2 #[m 14 4 39,o 15 (.binOp .neq 39 (.tmp 14) (ci 0) 39) 4,o 13 (.assign (.tmp 15)) 4] false)
 (.cond (.tmp 13)
 (.seq (.region 3 #[o 16 (.build 29 #[]) 29,m 17 3 3,m 18 4 39,nd (.store 29 (.tmp 2) (.tmp 16)),o 3 (.assign (.tmp 17)) 3,o 4 (.assign (.tmp 18)) 39] false)
 .ret)
 (.seq (.region 4 #[m 20 5 3,m 21 0 26,o 22 (.call { callee:=.builtin .len,args:=#[.tmp 21],argTypes:=#[26] }) 3,o 23 (.binOp .lss 3 (.tmp 20) (.tmp 22) 3) 4,o 19 (.assign (.tmp 23)) 4] false)
 (.cond (.tmp 19)
 (.seq (.region 5 #[o 24 (.build 29 #[]) 29,m 25 5 3,nd (.store 29 (.tmp 2) (.tmp 24)),o 3 (.assign (.tmp 25)) 3,o 4 (.assign (ci 8)) 39] false)
 .ret)
 .skip)))))
 (.seq (.region 6 #[ld 26 2 29,nd (.store 29 (.tmp 2) (.tmp 26)),o 3 (.assign (ci 0)) 3,o 4 (.assign (ci 0)) 39] false)
 .ret))))
def kp49:Nat → Option (List Nat)
  | 0 => some [0,2]
  | 1 => some [0,2,3,4,5]
  | 2 => some [0,2,3,4,5,13]
  | 3 => some [2,3,4]
  | 4 => some [2,5,19]
  | 5 => some [2,3,4]
  | 6 => some [2,3,4]
  | _ => none
def fn49:AFn:={ ntmps:=27,results:=[.cell 2 29,.tmp 3,.tmp 4],body:=c49,keep:=kp49,head:=fun  | _ => none,opn:=fun _ => none,dyn:=fun _ => [] }
def c50:Code :=
  (.seq (.region 0 #[o 2 (.box 29 (.tmp 0)) 0,o 4 (.assign (ci 0)) 3] false)
 (.seq (.region 1 #[o 5 (.assign (ci 0)) 3] false)
 (.seq (.seq (.region 2 #[o 6 (.assign (ci 0)) 3] false)
 (.block 0 (.loop (.seq (.seq (.region 3 #[m 9 6 3,m 10 1 38,o 11 (.call { callee:=.builtin .len,args:=#[.tmp 10],argTypes:=#[38] }) 3,o 12 (.binOp .lss 3 (.tmp 9) (.tmp 11) 3) 4] false)
 (.cond (.tmp 12)
 .skip
 (.exit 0)))
 (.seq (.block 1 (.seq (.seq (.region 5 #[m 15 1 38,m 16 6 3,o 17 (.indexAddr 38 (.tmp 15) (.tmp 16)) 0,ld 18 17 3,o 19 (.binOp .lss 3 (.tmp 18) (ci 0) 3) 4,m 20 19 4,gd 21 (.move (.tmp 1)) 38 20 false,gd 22 (.move (.tmp 6)) 3 20 false,gd 23 (.indexAddr 38 (.tmp 21) (.tmp 22)) 0 20 false,gd 24 (.load 3 (.tmp 23)) 3 20 false,gd 25 (.fieldAddr 29 (.tmp 2) 2) 0 20 false,gd 26 (.load 27 (.tmp 25)) 27 20 false,gd 27 (.call { callee:=.builtin .len,args:=#[.tmp 26],argTypes:=#[27] }) 3 20 false,gd 28 (.binOp .geq 3 (.tmp 24) (.tmp 27) 3) 4 20 false,o 29 (.pick (.tmp 20) (.const (.bool true)) (.tmp 28)) 4] true)
 (.cond (.tmp 29)
 (.seq (.region 6 #[o 4 (.assign (ci (-1))) 3] false)
 .ret)
 .skip))
 (.seq (.region 7 #[o 7 (.assign (ci 0)) 3] false)
 (.seq (.seq (.region 8 #[m 30 1 38,m 31 6 3,o 32 (.indexAddr 38 (.tmp 30) (.tmp 31)) 0,ld 33 32 3,o 8 (.assign (.tmp 33)) 3] false)
 (.block 2 (.loop (.seq (.seq (.region 9 #[m 34 8 3,fa 35 29 2 2,ld 36 35 27,o 37 (.call { callee:=.builtin .len,args:=#[.tmp 36],argTypes:=#[27] }) 3,o 38 (.binOp .lss 3 (.tmp 34) (.tmp 37) 3) 4] false)
 (.cond (.tmp 38)
 .skip
 (.exit 2)))
 (.seq (.block 3 (.region 11 #[m 41 7 3,fa 42 29 2 2,ld 43 42 27,m 44 8 3,o 45 (.indexAddr 27 (.tmp 43) (.tmp 44)) 0,ld 46 45 29,cl 47 65 #[.tmp 46] #[29] 26,o 48 (.call { callee:=.builtin .len,args:=#[.tmp 47],argTypes:=#[26] }) 3,o 49 (.binOp .add 3 (.tmp 41) (.tmp 48) 3) 3,o 7 (.assign (.tmp 49)) 3] false))
 (.region 10 #[m 39 8 3,o 40 (.binOp .add 3 (.tmp 39) (ci 1) 3) 3,o 8 (.assign (.tmp 40)) 3] false))))))
 (.seq (.region 12 #[m 50 5 3,ld 51 2 29,cl 52 65 #[.tmp 51] #[29] 26,o 53 (.call { callee:=.builtin .len,args:=#[.tmp 52],argTypes:=#[26] }) 3,m 54 7 3,o 55 (.binOp .sub 3 (.tmp 53) (.tmp 54) 3) 3,o 56 (.binOp .add 3 (.tmp 50) (.tmp 55) 3) 3,o 5 (.assign (.tmp 56)) 3] false)
 (.region 13 #[fa 57 29 2 2,ld 58 57 27,m 59 1 38,m 60 6 3,o 61 (.indexAddr 38 (.tmp 59) (.tmp 60)) 0,ld 62 61 3,o 63 (.indexAddr 27 (.tmp 58) (.tmp 62)) 0,ld 64 63 29,nd (.store 29 (.tmp 2) (.tmp 64))] true))))))
 (.region 4 #[m 13 6 3,o 14 (.binOp .add 3 (.tmp 13) (ci 1) 3) 3,o 6 (.assign (.tmp 14)) 3] false))))))
 (.seq (.region 14 #[m 65 5 3,o 4 (.assign (.tmp 65)) 3] false)
 .ret))))
def kp50:Nat → Option (List Nat)
  | 0 => some [1,2]
  | 1 => some [1,2,5]
  | 2 => some [1,2,5,6]
  | 3 => some [1,2,5,6,12]
  | 4 => some [1,2,5,6]
  | 5 => some [1,2,5,6,29]
  | 6 => some [4]
  | 7 => some [1,2,5,6,7]
  | 8 => some [1,2,5,6,7,8]
  | 9 => some [1,2,5,6,7,8,38]
  | 10 => some [1,2,5,6,7,8]
  | 11 => some [1,2,5,6,7,8]
  | 12 => some [1,2,5,6]
  | 13 => some [1,2,5,6]
  | 14 => some [4]
  | _ => none
def fn50:AFn:={ ntmps:=66,results:=[.tmp 4],body:=c50,keep:=kp50,head:=fun | 3 => some [1,2,5,6] | 9 => some [1,2,5,6,7,8] | _ => none,opn:=fun _ => none,dyn:=fun _ => [] }
def c51:Code :=
  (.seq (.region 0 #[o 1 (.box 82 (.tmp 0)) 0,o 2 (.assign (.const (.slice none 0 0))) 26,o 3 (.assign (ci 0)) 39] false)
 (.seq (.region 1 #[ld 7 1 82,cl 8 45 #[.tmp 7] #[82] 46,m 6 8 46,o 9 (.extract (.tmp 6) 0) 29,o 10 (.extract (.tmp 6) 1) 39,o 4 (.alloc 29) 0,nd (.store 29 (.tmp 4) (.tmp 9)),o 5 (.assign (.tmp 10)) 39] false)
 (.seq (.seq (.region 2 #[m 11 5 39,o 12 (.binOp .neq 39 (.tmp 11) (ci 0) 39) 4] false)
 (.cond (.tmp 12)
 (.seq (.region 3 #[m 13 5 39,o 2 (.assign (.const (.slice none 0 0))) 26,o 3 (.assign (.tmp 13)) 39] false)
 .ret)
 .skip))
 (.seq (.region 4 #[ld 14 4 29,cl 15 95 #[.tmp 14] #[29] 94,o 16 (.extract (.tmp 15) 0) 26,o 17 (.extract (.tmp 15) 1) 39,o 2 (.assign (.tmp 16)) 26,o 3 (.assign (.tmp 17)) 39] false)
 .ret))))
def kp51:Nat → Option (List Nat)
  | 0 => some [1]
  | 1 => some [4,5]
  | 2 => some [4,5,12]
  | 3 => some [2,3]
  | 4 => some [2,3]
  | _ => none
def fn51:AFn:={ ntmps:=18,results:=[.tmp 2,.tmp 3],body:=c51,keep:=kp51,head:=fun  | _ => none,opn:=fun _ => none,dyn:=fun _ => [] }
def c52:Code :=
  (.seq (.region 0 #[o 2 (.assign (ci 0)) 3,o 3 (.assign (ci 0)) 39] false)
 (.seq (.region 1 #[m 7 0 26,cl 8 96 #[.tmp 7] #[26] 96,m 6 8 96,o 9 (.extract (.tmp 6) 0) 3,o 10 (.extract (.tmp 6) 1) 39,o 4 (.assign (.tmp 9)) 3,o 5 (.assign (.tmp 10)) 39] false)
 (.seq (.seq (.region 2 #[m 11 5 39,o 12 (.binOp .neq 39 (.tmp 11) (ci 0) 39) 4] false)
 (.cond (.tmp 12)
 (.seq (.region 3 #[m 13 5 39,o 2 (.assign (ci 0)) 3,o 3 (.assign (.tmp 13)) 39] false)
 .ret)
 .skip))
 (.seq (.seq (.region 4 #[m 14 4 3,o 15 (.binOp .lss 3 (.tmp 14) (ci 0) 3) 4] false)
 (.cond (.tmp 15)
 (.seq (.region 5 #[o 2 (.assign (ci 0)) 3,o 3 (.assign (ci 11)) 39] false)
 .ret)
 .skip))
 (.seq (.seq (.region 6 #[m 16 4 3,o 17 (.binOp .gtr 3 (.tmp 16) (ci 2147483647) 3) 4] false)
 (.cond (.tmp 17)
 (.seq (.region 7 #[o 2 (.assign (ci 0)) 3,o 3 (.assign (ci 3)) 39] false)
 .ret)
 .skip))
 (.seq (.region 8 #[m 18 4 3,o 2 (.assign (.tmp 18)) 3,o 3 (.assign (ci 0)) 39] false)
 .ret))))))
def kp52:Nat → Option (List Nat)
  | 0 => some [0]
  | 1 => some [4,5]
  | 2 => some [4,5,12]
  | 3 => some [2,3]
  | 4 => some [4,15]
  | 5 => some [2,3]
  | 6 => some [4,17]
  | 7 => some [2,3]
  | 8 => some [2,3]
  | _ => none
def fn52:AFn:={ ntmps:=19,results:=[.tmp 2,.tmp 3],body:=c52,keep:=kp52,head:=fun  | _ => none,opn:=fun _ => none,dyn:=fun _ => [] }
def c53:Code :=
  (.seq (.region 0 #[o 2 (.assign (.const (.slice none 0 0))) 26,o 3 (.assign (ci 0)) 39] false)
 (.seq (.seq (.region 1 #[m 4 0 3,cl 5 97 #[.tmp 4] #[3] 4,o 6 (.unOp .not 4 (.tmp 5)) 4] false)
 (.cond (.tmp 6)
 (.seq (.region 2 #[o 2 (.assign (.const (.slice none 0 0))) 26,o 3 (.assign (ci 1)) 39] false)
 .ret)
 .skip))
 (.seq (.region 3 #[o 7 (.load 25 (.global 4)) 25,m 8 0 3,cl 9 89 #[.tmp 8] #[3] 26,o 10 (.build 29 #[(0,.tmp 7),(1,.tmp 9)]) 29,cl 11 95 #[.tmp 10] #[29] 94,o 12 (.extract (.tmp 11) 0) 26,o 13 (.extract (.tmp 11) 1) 39,o 2 (.assign (.tmp 12)) 26,o 3 (.assign (.tmp 13)) 39] true)
 .ret)))
def kp53:Nat → Option (List Nat)
  | 0 => some [0]
  | 1 => some [0,6]
  | 2 => some [2,3]
  | 3 => some [2,3]
  | _ => none
def fn53:AFn:={ ntmps:=14,results:=[.tmp 2,.tmp 3],body:=c53,keep:=kp53,head:=fun  | _ => none,opn:=fun _ => none,dyn:=fun _ => [] }
def c65:Code :=
  (.seq (.region 0 #[o 1 (.box 29 (.tmp 0)) 0,o 2 (.assign (.const (.slice none 0 0))) 26] false)
 (.seq (.region 1 #[fa 10 29 1 1,ld 11 10 26,o 12 (.call { callee:=.builtin .append,args:=#[.const (.slice none 0 0),.tmp 11],argTypes:=#[26,26] }) 26,o 3 (.assign (.tmp 12)) 26] false)
 (.seq (.seq (.region 2 #[o 4 (.assign (ci 0)) 3] false)
 (.block 0 (.loop (.seq (.seq (.region 3 #[m 13 4 3,fa 14 29 1 2,ld 15 14 27,o 16 (.call { callee:=.builtin .len,args:=#[.tmp 15],argTypes:=#[27] }) 3,o 17 (.binOp .lss 3 (.tmp 13) (.tmp 16) 3) 4] false)
 (.cond (.tmp 17)
 .skip
 (.exit 0)))
 (.seq (.block 1 (.region 5 #[m 20 3 26,fa 21 29 1 2,ld 22 21 27,m 23 4 3,o 24 (.indexAddr 27 (.tmp 22) (.tmp 23)) 0,ld 25 24 29,cl 26 65 #[.tmp 25] #[29] 26,o 27 (.call { callee:=.builtin .append,args:=#[.tmp 20,.tmp 26],argTypes:=#[26,26] }) 26,o 3 (.assign (.tmp 27)) 26] false))
 (.region 4 #[m 18 4 3,o 19 (.binOp .add 3 (.tmp 18) (ci 1) 3) 3,o 4 (.assign (.tmp 19)) 3] false))))))
 (.seq (.region 6 #[fa 28 29 1 0,fa 29 25 28 0,ld 30 29 22,o 31 (.binOp .mul 5 (.tmp 30) (.const (.int .u8 64)) 5) 5,o 5 (.assign (.tmp 31)) 5] false)
 (.seq (.seq (.region 7 #[fa 32 29 1 0,fa 33 25 32 1,ld 34 33 4] false)
 (.cond (.tmp 34)
 (.region 8 #[m 35 5 5,o 36 (.binOp .add 5 (.tmp 35) (.const (.int .u8 32)) 5) 5,o 5 (.assign (.tmp 36)) 5] false)
 .skip))
 (.seq (.region 9 #[m 37 5 5,fa 38 29 1 0,fa 39 25 38 2,ld 40 39 23,o 41 (.call { callee:=.builtin .min,args:=#[.tmp 40,.const (.int .u32 31)],argTypes:=#[23,23] }) 23,o 42 (.convert 23 5 (.tmp 41)) 5,o 43 (.binOp .add 5 (.tmp 37) (.tmp 42) 5) 5,o 44 (.buildSlice 26 1 #[(0,.tmp 43)]) 26,o 6 (.assign (.tmp 44)) 26] false)
 (.seq (.seq (.region 10 #[fa 45 29 1 0,fa 46 25 45 2,ld 47 46 23,o 48 (.binOp .gtr 23 (.tmp 47) (.const (.int .u32 30)) 23) 4] false)
 (.cond (.tmp 48)
 (.region 11 #[m 49 6 26,fa 50 29 1 0,fa 51 25 50 2,ld 52 51 23,cl 53 112 #[.tmp 52] #[23] 26,o 54 (.call { callee:=.builtin .append,args:=#[.tmp 49,.tmp 53],argTypes:=#[26,26] }) 26,o 6 (.assign (.tmp 54)) 26] false)
 .skip))
 (.seq (.region 12 #[m 55 3 26,o 56 (.call { callee:=.builtin .len,args:=#[.tmp 55],argTypes:=#[26] }) 3,o 7 (.assign (.tmp 56)) 3] false)
 (.seq (.seq (.region 13 #[m 57 7 3,o 58 (.binOp .lss 3 (.tmp 57) (ci 128) 3) 4] false)
 (.cond (.tmp 58)
 (.region 14 #[m 59 6 26,m 60 7 3,o 61 (.convert 3 5 (.tmp 60)) 5,o 62 (.buildSlice 26 1 #[(0,.tmp 61)]) 26,o 63 (.call { callee:=.builtin .append,args:=#[.tmp 59,.tmp 62],argTypes:=#[26,26] }) 26,o 6 (.assign (.tmp 63)) 26] false)
 (.seq (.region 15 #[o 8 (.assign (.const (.slice none 0 0))) 26] false)
 (.seq (.seq (.region 16 #[m 64 7 3,o 9 (.assign (.tmp 64)) 3] false)
 (.block 2 (.loop (.seq (.seq (.region 17 #[m 65 9 3,o 66 (.binOp .gtr 3 (.tmp 65) (ci 0) 3) 4] false)
 (.cond (.tmp 66)
 .skip
 (.exit 2)))
 (.seq (.block 3 (.region 19 #[m 69 9 3,o 70 (.binOp .rem 3 (.tmp 69) (ci 256) 3) 3,o 71 (.convert 3 5 (.tmp 70)) 5,o 72 (.buildSlice 26 1 #[(0,.tmp 71)]) 26,m 73 8 26,o 74 (.call { callee:=.builtin .append,args:=#[.tmp 72,.tmp 73],argTypes:=#[26,26] }) 26,o 8 (.assign (.tmp 74)) 26] false))
 (.region 18 #[m 67 9 3,o 68 (.binOp .quo 3 (.tmp 67) (ci 256) 3) 3,o 9 (.assign (.tmp 68)) 3] false))))))
 (.seq (.region 20 #[m 75 6 26,m 76 8 26,o 77 (.call { callee:=.builtin .len,args:=#[.tmp 76],argTypes:=#[26] }) 3,o 78 (.binOp .add 3 (ci 128) (.tmp 77) 3) 3,o 79 (.convert 3 5 (.tmp 78)) 5,o 80 (.buildSlice 26 1 #[(0,.tmp 79)]) 26,o 81 (.call { callee:=.builtin .append,args:=#[.tmp 75,.tmp 80],argTypes:=#[26,26] }) 26,o 6 (.assign (.tmp 81)) 26] false)
 (.region 21 #[m 82 6 26,m 83 8 26,o 84 (.call { callee:=.builtin .append,args:=#[.tmp 82,.tmp 83],argTypes:=#[26,26] }) 26,o 6 (.assign (.tmp 84)) 26] false))))))
 (.seq (.region 22 #[m 85 6 26,m 86 3 26,o 87 (.call { callee:=.builtin .append,args:=#[.tmp 85,.tmp 86],argTypes:=#[26,26] }) 26,o 2 (.assign (.tmp 87)) 26] false)
 .ret))))))))))
def kp65:Nat → Option (List Nat)
  | 0 => some [1]
  | 1 => some [1,3]
  | 2 => some [1,3,4]
  | 3 => some [1,3,4,17]
  | 4 => some [1,3,4]
  | 5 => some [1,3,4]
  | 6 => some [1,3,5]
  | 7 => some [1,3,5,34]
  | 8 => some [1,3,5]
  | 9 => some [1,3,6]
  | 10 => some [1,3,6,48]
  | 11 => some [3,6]
  | 12 => some [3,6,7]
  | 13 => some [3,6,7,58]
  | 14 => some [3,6]
  | 15 => some [3,6,7,8]
  | 16 => some [3,6,8,9]
  | 17 => some [3,6,8,9,66]
  | 18 => some [3,6,8,9]
  | 19 => some [3,6,8,9]
  | 20 => some [3,6,8]
  | 21 => some [3,6]
  | 22 => some [2]
  | _ => none
def fn65:AFn:={ ntmps:=88,results:=[.tmp 2],body:=c65,keep:=kp65,head:=fun | 3 => some [1,3,4] | 17 => some [3,6,8,9] | _ => none,opn:=fun _ => none,dyn:=fun _ => [] }
def c69:Code :=
  (.seq (.region 0 #[o 3 (.box 29 (.tmp 0)) 0,o 4 (.box 25 (.tmp 1)) 0,o 6 (.assign (.const (.slice none 0 0))) 38,o 7 (.alloc 41) 0] false)
 (.seq (.block 0 (.seq (.region 1 #[m 14 2 76,o 15 (.call { callee:=.builtin .len,args:=#[.tmp 14],argTypes:=#[76] }) 3,o 16 (.binOp .gtr 3 (.tmp 15) (ci 256) 3) 4,o 13 (.assign (.tmp 16)) 4] false)
 (.cond (.tmp 13)
 (.seq (.region 2 #[cl 17 114 #[.const (.int .i64 3),.const (.slice none 0 0)] #[39,38] 41,o 6 (.assign (.const (.slice none 0 0))) 38,nd (.store 41 (.tmp 7) (.tmp 17))] false)
 .ret)
 (.seq (.region 3 #[fa 19 29 3 0,ld 20 19 25,ld 21 4 25,o 22 (.binOp .neq 25 (.tmp 20) (.tmp 21) 25) 4,o 18 (.assign (.tmp 22)) 4] false)
 (.cond (.tmp 18)
 (.seq (.region 4 #[cl 23 114 #[.const (.int .i64 9),.const (.slice none 0 0)] #[39,38] 41,o 6 (.assign (.const (.slice none 0 0))) 38,nd (.store 41 (.tmp 7) (.tmp 23))] false)
 .ret)
 .skip)))))
 (.seq (.region 5 #[o 8 (.assign (ci 0)) 3] false)
 (.seq (.region 6 #[m 24 2 76,o 25 (.call { callee:=.builtin .len,args:=#[.tmp 24],argTypes:=#[76] }) 3,o 26 (.makeSlice 38 (ci 0) (.tmp 25)) 38,o 9 (.assign (.tmp 26)) 38] false)
 (.seq (.seq (.region 7 #[m 27 2 76,o 28 (.call { callee:=.builtin .len,args:=#[.tmp 27],argTypes:=#[76] }) 3,o 29 (.move (ci 0)) 3] false)
 (.block 1 (.loop (.seq (.region 8 #[o 30 (.binOp .lss 3 (.tmp 29) (.tmp 28) 3) 0] false)
 (.seq (.cond (.tmp 30)
 .skip
 (.exit 1))
 (.seq (.block 2 (.seq (.region 9 #[o 31 (.indexAddr 76 (.tmp 27) (.tmp 29)) 0,ld 32 31 75,o 11 (.alloc 75) 0,nd (.store 75 (.tmp 11) (.tmp 32))] false)
 (.seq (.region 10 #[ld 33 11 75,o 34 (.makeFunc (.func 115) #[.tmp 33] #[]) 49,o 12 (.assign (.tmp 34)) 49] false)
 (.block 3 (.seq (.region 12 #[m 39 8 3,fa 40 29 3 2,ld 41 40 27,o 42 (.call { callee:=.builtin .len,args:=#[.tmp 41],argTypes:=#[27] }) 3,o 43 (.binOp .lss 3 (.tmp 39) (.tmp 42) 3) 4,m 44 43 4,gd 45 (.move (.tmp 12)) 49 44 true,gd 46 (.fieldAddr 29 (.tmp 3) 2) 0 44 true,gd 47 (.load 27 (.tmp 46)) 27 44 true,gd 48 (.move (.tmp 8)) 3 44 true,gd 49 (.indexAddr 27 (.tmp 47) (.tmp 48)) 0 44 true,gd 50 (.load 29 (.tmp 49)) 29 44 true,gd 51 (.call { callee:=.value (.tmp 45),args:=#[.tmp 50],argTypes:=#[29] }) 4 44 true,o 52 (.pick (.tmp 44) (.tmp 51) (.const (.bool false))) 4,o 38 (.assign (.tmp 52)) 4] false)
 (.cond (.tmp 38)
 (.seq (.region 13 #[m 53 9 38,m 54 8 3,o 55 (.buildSlice 38 1 #[(0,.tmp 54)]) 38,o 56 (.call { callee:=.builtin .append,args:=#[.tmp 53,.tmp 55],argTypes:=#[38,38] }) 38,o 9 (.assign (.tmp 56)) 38] false)
 (.region 14 #[m 57 8 3,o 58 (.binOp .add 3 (.tmp 57) (ci 1) 3) 3,o 8 (.assign (.tmp 58)) 3] false))
 (.seq (.region 15 #[fa 60 75 11 2,ld 61 60 4,o 59 (.assign (.tmp 61)) 4] false)
 (.cond (.tmp 59)
 (.region 16 #[m 62 9 38,o 63 (.buildSlice 38 1 #[(0,.const (.int .i64 (-1)))]) 38,o 64 (.call { callee:=.builtin .append,args:=#[.tmp 62,.tmp 63],argTypes:=#[38,38] }) 38,o 9 (.assign (.tmp 64)) 38] false)
 (.seq (.region 17 #[m 66 8 3,fa 67 29 3 2,ld 68 67 27,o 69 (.call { callee:=.builtin .len,args:=#[.tmp 68],argTypes:=#[27] }) 3,o 70 (.binOp .eql 3 (.tmp 66) (.tmp 69) 3) 4,o 65 (.assign (.tmp 70)) 4] false)
 (.cond (.tmp 65)
 (.seq (.region 18 #[cl 71 114 #[.const (.int .i64 7),.const (.slice none 0 0)] #[39,38] 41,o 6 (.assign (.const (.slice none 0 0))) 38,nd (.store 41 (.tmp 7) (.tmp 71))] false)
 .ret)
 (.seq (.region 11 #[m 35 8 3,⟨some 36,.buildSlice 38 1 #[(0,.tmp 35)],38, "",fz,none⟩,cl 37 114 #[.const (.int .i64 9),.tmp 36] #[39,38] 41,o 6 (.assign (.const (.slice none 0 0))) 38,nd (.store 41 (.tmp 7) (.tmp 37))] false)
 .ret)))))))))))
 (.region 19 #[o 72 (.binOp .add 3 (.tmp 29) (ci 1) 3) 3,m 29 72 3] false)))))))
 (.seq (.seq (.region 20 #[m 73 8 3,fa 74 29 3 2,ld 75 74 27,o 76 (.call { callee:=.builtin .len,args:=#[.tmp 75],argTypes:=#[27] }) 3,o 77 (.binOp .lss 3 (.tmp 73) (.tmp 76) 3) 4] false)
 (.cond (.tmp 77)
 (.seq (.region 21 #[m 78 8 3,⟨some 79,.buildSlice 38 1 #[(0,.tmp 78)],38, "",fz,none⟩,cl 80 114 #[.const (.int .i64 8),.tmp 79] #[39,38] 41,o 6 (.assign (.const (.slice none 0 0))) 38,nd (.store 41 (.tmp 7) (.tmp 80))] false)
 .ret)
 .skip))
 (.seq (.region 22 #[m 81 9 38,o 82 (.build 41 #[]) 41,o 6 (.assign (.tmp 81)) 38,nd (.store 41 (.tmp 7) (.tmp 82))] false)
 .ret)))))))
def kp69:Nat → Option (List Nat)
  | 0 => some [2,3,4,7]
  | 1 => some [2,3,4,7,13]
  | 2 => some [6,7]
  | 3 => some [2,3,7,18]
  | 4 => some [6,7]
  | 5 => some [2,3,7,8]
  | 6 => some [2,3,7,8,9]
  | 7 => some [3,7,8,9,27,28,29]
  | 8 => some [3,7,8,9,27,28,29,30]
  | 9 => some [3,7,8,9,11,27,28,29]
  | 10 => some [3,7,8,9,11,12,27,28,29]
  | 11 => some [6,7]
  | 12 => some [3,7,8,9,11,27,28,29,38]
  | 13 => some [3,7,8,9,27,28,29]
  | 14 => some [3,7,8,9,27,28,29]
  | 15 => some [3,7,8,9,27,28,29,59]
  | 16 => some [3,7,8,9,27,28,29]
  | 17 => some [7,8,65]
  | 18 => some [6,7]
  | 19 => some [3,7,8,9,27,28,29]
  | 20 => some [7,8,9,77]
  | 21 => some [6,7]
  | 22 => some [6,7]
  | _ => none
def fn69:AFn:={ ntmps:=83,results:=[.tmp 6,.cell 7 41],body:=c69,keep:=kp69,head:=fun | 8 => some [3,7,8,9,27,28,29] | _ => none,opn:=opnT,dyn:=fun _ => [] }
def c73:Code :=
  (.seq (.region 0 #[o 1 (.box 29 (.tmp 0)) 0,o 2 (.assign (ci 0)) 39,o 3 (.alloc 3) 0,o 4 (.alloc 3) 0] false)
 (.seq (.region 1 #[ld 5 1 29,o 6 (.makeFunc (.func 120) #[] #[.tmp 3,.tmp 4]) 174,cl 7 119 #[.tmp 5,.tmp 6] #[29,174] 39,o 2 (.assign (.tmp 7)) 39] false)
 (.seq (.seq (.region 2 #[m 8 2 39,o 9 (.binOp .neq 39 (.tmp 8) (ci 0) 39) 4] false)
 (.cond (.tmp 9)
 (.seq (.region 3 #[m 10 2 39,o 2 (.assign (.tmp 10)) 39,nd (.store 3 (.tmp 3) (ci 0)),nd (.store 3 (.tmp 4) (ci 0))] false)
 .ret)
 .skip))
 (.seq (.region 4 #[ld 11 3 3,ld 12 4 3,o 2 (.assign (ci 0)) 39,nd (.store 3 (.tmp 3) (.tmp 11)),nd (.store 3 (.tmp 4) (.tmp 12))] true)
 .ret))))
def kp73:Nat → Option (List Nat)
  | 0 => some [1,3,4]
  | 1 => some [2,3,4]
  | 2 => some [2,3,4,9]
  | 3 => some [2,3,4]
  | 4 => some [2,3,4]
  | _ => none
def fn73:AFn:={ ntmps:=13,results:=[.tmp 2,.cell 3 3,.cell 4 3],body:=c73,keep:=kp73,head:=fun  | _ => none,opn:=opnT,dyn:=fun | 4 => [(1,3)] | _ => [] }
def c82:Code :=
  (.seq (.region 0 #[o 3 (.box 41 (.tmp 1)) 0,o 4 (.alloc 41) 0] false)
 (.seq (.seq (.region 1 #[fa 6 41 3 1,ld 7 6 39,o 8 (.binOp .eql 39 (.tmp 7) (ci 0) 39) 4] false)
 (.cond (.tmp 8)
 (.seq (.region 2 #[o 9 (.build 41 #[]) 41,nd (.store 41 (.tmp 4) (.tmp 9))] false)
 .ret)
 .skip))
 (.seq (.region 3 #[fa 10 41 3 0,ld 11 10 38,o 12 (.call { callee:=.builtin .len,args:=#[.tmp 11],argTypes:=#[38] }) 3,o 13 (.binOp .add 3 (ci 1) (.tmp 12) 3) 3,o 14 (.makeSlice 38 (.tmp 13) (.tmp 13)) 38,o 5 (.assign (.tmp 14)) 38] false)
 (.seq (.region 4 #[m 15 5 38,m 16 0 3,o 17 (.indexAddr 38 (.tmp 15) (ci 0)) 0,nd (.store 3 (.tmp 17) (.tmp 16))] false)
 (.seq (.region 5 #[m 18 5 38,o 19 (.slice 38 (.tmp 18) (some (ci 1)) none none) 38,fa 20 41 3 0,ld 21 20 38,o 22 (.call { callee:=.builtin .copy,args:=#[.tmp 19,.tmp 21],argTypes:=#[38,38] }) 3] true)
 (.seq (.region 6 #[m 23 5 38,fa 24 41 3 1,ld 25 24 39,o 26 (.build 41 #[(0,.tmp 23),(1,.tmp 25)]) 41,nd (.store 41 (.tmp 4) (.tmp 26))] false)
 .ret))))))
def kp82:Nat → Option (List Nat)
  | 0 => some [0,3,4]
  | 1 => some [0,3,4,8]
  | 2 => some [4]
  | 3 => some [0,3,4,5]
  | 4 => some [3,4,5]
  | 5 => some [3,4,5]
  | 6 => some [4]
  | _ => none
def fn82:AFn:={ ntmps:=27,results:=[.cell 4 41],body:=c82,keep:=kp82,head:=fun  | _ => none,opn:=fun _ => none,dyn:=fun _ => [] }
def c85:Code :=
  (.seq (.region 0 #[o 1 (.box 82 (.tmp 0)) 0,o 2 (.assign (ci 0)) 39] false)
 (.seq (.region 1 #[o 3 (.assign (.const (.bool false))) 4] false)
 (.seq (.seq (.region 2 #[fa 6 82 1 0,ld 7 6 3,fa 8 82 1 1,ld 9 8 3,o 10 (.build 142 #[(0,.tmp 7),(1,.tmp 9)]) 142,o 11 (.move (ci 0)) 3] false)
 (.block 0 (.loop (.seq (.region 3 #[o 12 (.binOp .lss 3 (.tmp 11) (ci 2) 3) 0] false)
 (.seq (.cond (.tmp 12)
 .skip
 (.exit 0))
 (.seq (.block 1 (.seq (.region 4 #[o 13 (.index 142 (.tmp 10) (.tmp 11)) 3,o 5 (.assign (.tmp 13)) 3] false)
 (.seq (.seq (.region 5 #[m 14 5 3,cl 15 97 #[.tmp 14] #[3] 4,o 16 (.unOp .not 4 (.tmp 15)) 4,m 17 16 4,gd 18 (.move (.tmp 5)) 3 17 true,gd 19 (.binOp .neq 3 (.tmp 18) (ci (-1)) 3) 4 17 true,o 20 (.pick (.tmp 17) (.tmp 19) (.const (.bool false))) 4] false)
 (.cond (.tmp 20)
 (.seq (.region 6 #[o 2 (.assign (ci 1)) 39] false)
 .ret)
 .skip))
 (.region 7 #[m 21 3 4,m 22 21 4,gd 23 (.move (.tmp 5)) 3 22 false,gd 24 (.binOp .neq 3 (.tmp 23) (ci (-1)) 3) 4 22 false,o 25 (.pick (.tmp 22) (.const (.bool true)) (.tmp 24)) 4,o 3 (.assign (.tmp 25)) 4] false))))
 (.region 8 #[o 26 (.binOp .add 3 (.tmp 11) (ci 1) 3) 3,m 11 26 3] false)))))))
 (.seq (.seq (.region 9 #[m 27 3 4,o 28 (.unOp .not 4 (.tmp 27)) 4] false)
 (.cond (.tmp 28)
 (.seq (.region 10 #[o 2 (.assign (ci 17)) 39] false)
 .ret)
 .skip))
 (.seq (.region 11 #[o 2 (.assign (ci 0)) 39] false)
 .ret)))))
def kp85:Nat → Option (List Nat)
  | 0 => some [1]
  | 1 => some [1,3]
  | 2 => some [3,10,11]
  | 3 => some [3,10,11,12]
  | 4 => some [3,5,10,11]
  | 5 => some [3,5,10,11,20]
  | 6 => some [2]
  | 7 => some [3,10,11]
  | 8 => some [3,10,11]
  | 9 => some [28]
  | 10 => some [2]
  | 11 => some [2]
  | _ => none
def fn85:AFn:={ ntmps:=29,results:=[.tmp 2],body:=c85,keep:=kp85,head:=fun | 3 => some [3,10,11] | _ => none,opn:=fun _ => none,dyn:=fun _ => [] }
def c86:Code :=
  (.seq (.region 0 #[o 4 (.assign (ci 0)) 3] false)
 (.seq (.block 0 (.seq (.region 1 #[m 6 0 3,o 7 (.binOp .lss 3 (.tmp 6) (ci 0) 3) 4,m 8 7 4,gd 9 (.move (.tmp 1)) 3 8 true,gd 10 (.binOp .lss 3 (.tmp 9) (ci 0) 3) 4 8 true,o 11 (.pick (.tmp 8) (.tmp 10) (.const (.bool false))) 4,o 5 (.assign (.tmp 11)) 4] false)
 (.cond (.tmp 5)
 (.seq (.region 2 #[o 4 (.assign (ci (-1))) 3] false)
 .ret)
 (.seq (.region 3 #[m 13 0 3,o 14 (.binOp .lss 3 (.tmp 13) (ci 0) 3) 4,o 12 (.assign (.tmp 14)) 4] false)
 (.cond (.tmp 12)
 (.seq (.region 4 #[m 15 1 3,o 4 (.assign (.tmp 15)) 3] false)
 .ret)
 (.seq (.region 5 #[m 17 1 3,o 18 (.binOp .lss 3 (.tmp 17) (ci 0) 3) 4,o 16 (.assign (.tmp 18)) 4] false)
 (.cond (.tmp 16)
 (.seq (.region 6 #[m 19 0 3,o 4 (.assign (.tmp 19)) 3] false)
 .ret)
 .skip)))))))
 (.seq (.region 7 #[m 20 0 3,m 21 1 3,o 22 (.call { callee:=.builtin .min,args:=#[.tmp 20,.tmp 21],argTypes:=#[3,3] }) 3,o 4 (.assign (.tmp 22)) 3] false)
 .ret)))
def kp86:Nat → Option (List Nat)
  | 0 => some [0,1]
  | 1 => some [0,1,5]
  | 2 => some [4]
  | 3 => some [0,1,12]
  | 4 => some [4]
  | 5 => some [0,1,16]
  | 6 => some [4]
  | 7 => some [4]
  | _ => none
def fn86:AFn:={ ntmps:=23,results:=[.tmp 4],body:=c86,keep:=kp86,head:=fun  | _ => none,opn:=fun _ => none,dyn:=fun _ => [] }
def c87:Code :=
  (.seq (.region 0 #[o 2 (.alloc 25) 0] false)
 (.seq (.region 1 #[m 3 0 3,o 4 (.convert 3 23 (.tmp 3)) 23,o 5 (.build 25 #[(0,.const (.int .u8 2)),(2,.tmp 4)]) 25,nd (.store 25 (.tmp 2) (.tmp 5))] false)
 .ret))
def kp87:Nat → Option (List Nat)
  | 0 => some [0,2]
  | 1 => some [2]
  | _ => none
def fn87:AFn:={ ntmps:=6,results:=[.cell 2 25],body:=c87,keep:=kp87,head:=fun  | _ => none,opn:=fun _ => none,dyn:=fun _ => [] }
def c88:Code :=
  (.seq (.region 0 #[o 2 (.assign (ci 0)) 3,o 3 (.assign (ci 0)) 39] false)
 (.seq (.region 1 #[m 7 0 26,cl 8 96 #[.tmp 7] #[26] 96,m 6 8 96,o 9 (.extract (.tmp 6) 0) 3,o 10 (.extract (.tmp 6) 1) 39,o 4 (.assign (.tmp 9)) 3,o 5 (.assign (.tmp 10)) 39] false)
 (.seq (.block 0 (.seq (.region 2 #[m 12 5 39,o 13 (.binOp .neq 39 (.tmp 12) (ci 0) 39) 4,o 11 (.assign (.tmp 13)) 4] false)
 (.cond (.tmp 11)
 (.seq (.region 3 #[m 14 5 39,o 2 (.assign (ci 0)) 3,o 3 (.assign (.tmp 14)) 39] false)
 .ret)
 (.seq (.region 4 #[m 16 4 3,o 17 (.binOp .lss 3 (.tmp 16) (ci 0) 3) 4,o 15 (.assign (.tmp 17)) 4] false)
 (.cond (.tmp 15)
 (.seq (.region 5 #[o 2 (.assign (ci 0)) 3,o 3 (.assign (ci 11)) 39] false)
 .ret)
 (.seq (.region 6 #[m 19 4 3,o 20 (.binOp .gtr 3 (.tmp 19) (ci 2147483647) 3) 4,o 18 (.assign (.tmp 20)) 4] false)
 (.cond (.tmp 18)
 (.seq (.region 7 #[o 2 (.assign (ci 0)) 3,o 3 (.assign (ci 3)) 39] false)
 .ret)
 .skip)))))))
 (.seq (.region 8 #[m 21 4 3,o 2 (.assign (.tmp 21)) 3,o 3 (.assign (ci 0)) 39] false)
 .ret))))
def kp88:Nat → Option (List Nat)
  | 0 => some [0]
  | 1 => some [4,5]
  | 2 => some [4,5,11]
  | 3 => some [2,3]
  | 4 => some [4,15]
  | 5 => some [2,3]
  | 6 => some [4,18]
  | 7 => some [2,3]
  | 8 => some [2,3]
  | _ => none
def fn88:AFn:={ ntmps:=22,results:=[.tmp 2,.tmp 3],body:=c88,keep:=kp88,head:=fun  | _ => none,opn:=fun _ => none,dyn:=fun _ => [] }
def c89:Code :=
  (.seq (.region 0 #[o 2 (.assign (.const (.slice none 0 0))) 26] false)
 (.seq (.region 1 #[o 3 (.alloc 185) 0] false)
 (.seq (.seq (.region 2 #[o 6 (.move (ci 0)) 3] false)
 (.block 0 (.loop (.seq (.region 3 #[o 7 (.binOp .lss 3 (.tmp 6) (ci 8) 3) 0] false)
 (.seq (.cond (.tmp 7)
 .skip
 (.exit 0))
 (.seq (.block 1 (.seq (.region 4 #[m 8 6 3,o 4 (.assign (.tmp 8)) 3] false)
 (.region 5 #[m 9 4 3,o 10 (.binOp .sub 3 (ci 7) (.tmp 9) 3) 3,m 11 0 3,m 12 4 3,o 13 (.binOp .mul 3 (ci 8) (.tmp 12) 3) 3,o 14 (.binOp .shr 3 (.tmp 11) (.tmp 13) 3) 3,o 15 (.convert 3 5 (.tmp 14)) 5,o 16 (.indexAddr 185 (.tmp 3) (.tmp 10)) 0,nd (.store 5 (.tmp 16) (.tmp 15))] false)))
 (.region 6 #[o 17 (.binOp .add 3 (.tmp 6) (ci 1) 3) 3,m 6 17 3] false)))))))
 (.seq (.region 7 #[o 18 (.slice 185 (.tmp 3) none none none) 26,o 5 (.assign (.tmp 18)) 26] false)
 (.seq (.block 2 (.loop (.seq (.seq (.region 8 #[m 19 5 26,cl 20 130 #[.tmp 19] #[26] 4] false)
 (.cond (.tmp 20)
 .skip
 (.exit 2)))
 (.block 3 (.region 9 #[m 21 5 26,o 22 (.slice 26 (.tmp 21) (some (ci 1)) none none) 26,o 5 (.assign (.tmp 22)) 26] false)))))
 (.seq (.region 10 #[m 23 5 26,cl 24 131 #[.tmp 23] #[26] 26,o 2 (.assign (.tmp 24)) 26] false)
 .ret))))))
def kp89:Nat → Option (List Nat)
  | 0 => some [0]
  | 1 => some [0,3]
  | 2 => some [0,3,6]
  | 3 => some [0,3,6,7]
  | 4 => some [0,3,4,6]
  | 5 => some [0,3,6]
  | 6 => some [0,3,6]
  | 7 => some [5]
  | 8 => some [5,20]
  | 9 => some [5]
  | 10 => some [2]
  | _ => none
def fn89:AFn:={ ntmps:=25,results:=[.tmp 2],body:=c89,keep:=kp89,head:=fun | 3 => some [0,3,6] | 8 => some [5] | _ => none,opn:=fun _ => none,dyn:=fun _ => [] }
def c90:Code :=
  (.seq (.region 0 #[o 2 (.assign (.const (.slice none 0 0))) 27] false)
 (.seq (.region 1 #[m 3 0 27,m 4 0 27,o 5 (.call { callee:=.builtin .len,args:=#[.tmp 4],argTypes:=#[27] }) 3,m 6 0 27,o 7 (.call { callee:=.builtin .len,args:=#[.tmp 6],argTypes:=#[27] }) 3,o 8 (.slice 27 (.tmp 3) none (some (.tmp 5)) (some (.tmp 7))) 27,o 2 (.assign (.tmp 8)) 27] false)
 .ret))
def kp90:Nat → Option (List Nat)
  | 0 => some [0]
  | 1 => some [2]
  | _ => none
def fn90:AFn:={ ntmps:=9,results:=[.tmp 2],body:=c90,keep:=kp90,head:=fun  | _ => none,opn:=fun _ => none,dyn:=fun _ => [] }
def c91:Code :=
  (.seq (.region 0 #[o 4 (.alloc 82) 0,o 5 (.assign (ci 0)) 3,o 6 (.assign (ci 0)) 39] false)
 (.seq (.region 1 #[m 10 0 26,cl 11 49 #[.tmp 10] #[26] 91,m 9 11 91,o 12 (.extract (.tmp 9) 0) 29,o 13 (.extract (.tmp 9) 1) 3,o 14 (.extract (.tmp 9) 2) 39,o 7 (.alloc 29) 0,nd (.store 29 (.tmp 7) (.tmp 12)),o 5 (.assign (.tmp 13)) 3,o 6 (.assign (.tmp 14)) 39] false)
 (.seq (.seq (.region 2 #[m 15 6 39,o 16 (.binOp .neq 39 (.tmp 15) (ci 0) 39) 4] false)
 (.cond (.tmp 16)
 (.seq (.region 3 #[ld 17 4 82,m 18 5 3,m 19 6 39,nd (.store 82 (.tmp 4) (.tmp 17)),o 5 (.assign (.tmp 18)) 3,o 6 (.assign (.tmp 19)) 39] false)
 .ret)
 .skip))
 (.seq (.region 4 #[m 21 1 84,ld 22 7 29,o 23 (.call { callee:=.value (.tmp 21),args:=#[.tmp 22],argTypes:=#[29] }) 83,m 20 23 83,o 24 (.extract (.tmp 20) 0) 82,o 25 (.extract (.tmp 20) 1) 41,o 8 (.alloc 41) 0,nd (.store 82 (.tmp 4) (.tmp 24)),nd (.store 41 (.tmp 8) (.tmp 25))] false)
 (.seq (.region 5 #[ld 27 7 29,ld 28 8 41,cl 29 102 #[.tmp 27,.tmp 28] #[29,41] 96,m 26 29 96,o 30 (.extract (.tmp 26) 0) 3,o 31 (.extract (.tmp 26) 1) 39,o 5 (.assign (.tmp 30)) 3,o 6 (.assign (.tmp 31)) 39] false)
 (.seq (.region 6 #[ld 32 4 82,m 33 5 3,m 34 6 39,nd (.store 82 (.tmp 4) (.tmp 32)),o 5 (.assign (.tmp 33)) 3,o 6 (.assign (.tmp 34)) 39] false)
 .ret))))))
def kp91:Nat → Option (List Nat)
  | 0 => some [0,1,4]
  | 1 => some [1,4,5,6,7]
  | 2 => some [1,4,5,6,7,16]
  | 3 => some [4,5,6]
  | 4 => some [4,7,8]
  | 5 => some [4,5,6]
  | 6 => some [4,5,6]
  | _ => none
def fn91:AFn:={ ntmps:=35,results:=[.cell 4 82,.tmp 5,.tmp 6],body:=c91,keep:=kp91,head:=fun  | _ => none,opn:=opnT,dyn:=fun _ => [] }
def c92:Code :=
  (.seq (.region 0 #[o 4 (.assign (ci 0)) 3,o 5 (.assign (ci 0)) 3,o 6 (.assign (ci 0)) 39] false)
 (.seq (.region 1 #[m 10 0 26,cl 11 49 #[.tmp 10] #[26] 91,m 9 11 91,o 12 (.extract (.tmp 9) 0) 29,o 13 (.extract (.tmp 9) 1) 3,o 14 (.extract (.tmp 9) 2) 39,o 7 (.alloc 29) 0,nd (.store 29 (.tmp 7) (.tmp 12)),o 5 (.assign (.tmp 13)) 3,o 6 (.assign (.tmp 14)) 39] false)
 (.seq (.seq (.region 2 #[m 15 6 39,o 16 (.binOp .neq 39 (.tmp 15) (ci 0) 39) 4] false)
 (.cond (.tmp 16)
 (.seq (.region 3 #[m 17 4 3,m 18 5 3,m 19 6 39,o 4 (.assign (.tmp 17)) 3,o 5 (.assign (.tmp 18)) 3,o 6 (.assign (.tmp 19)) 39] false)
 .ret)
 .skip))
 (.seq (.region 4 #[m 21 1 147,ld 22 7 29,o 23 (.call { callee:=.value (.tmp 21),args:=#[.tmp 22],argTypes:=#[29] }) 187,m 20 23 187,o 24 (.extract (.tmp 20) 0) 3,o 25 (.extract (.tmp 20) 1) 41,o 8 (.alloc 41) 0,o 4 (.assign (.tmp 24)) 3,nd (.store 41 (.tmp 8) (.tmp 25))] false)
 (.seq (.region 5 #[ld 27 7 29,ld 28 8 41,cl 29 102 #[.tmp 27,.tmp 28] #[29,41] 96,m 26 29 96,o 30 (.extract (.tmp 26) 0) 3,o 31 (.extract (.tmp 26) 1) 39,o 5 (.assign (.tmp 30)) 3,o 6 (.assign (.tmp 31)) 39] false)
 (.seq (.region 6 #[m 32 4 3,m 33 5 3,m 34 6 39,o 4 (.assign (.tmp 32)) 3,o 5 (.assign (.tmp 33)) 3,o 6 (.assign (.tmp 34)) 39] false)
 .ret))))))
def kp92:Nat → Option (List Nat)
  | 0 => some [0,1,4]
  | 1 => some [1,4,5,6,7]
  | 2 => some [1,4,5,6,7,16]
  | 3 => some [4,5,6]
  | 4 => some [4,7,8]
  | 5 => some [4,5,6]
  | 6 => some [4,5,6]
  | _ => none
def fn92:AFn:={ ntmps:=35,results:=[.tmp 4,.tmp 5,.tmp 6],body:=c92,keep:=kp92,head:=fun  | _ => none,opn:=opnT,dyn:=fun _ => [] }
def c93:Code :=
  (.seq (.region 0 #[o 1 (.box 29 (.tmp 0)) 0,o 2 (.assign (ci 0)) 3,o 3 (.alloc 41) 0] false)
 (.seq (.seq (.region 1 #[fa 6 29 1 0,ld 7 6 25,o 8 (.load 25 (.global 4)) 25,o 9 (.binOp .neq 25 (.tmp 7) (.tmp 8) 25) 4] false)
 (.cond (.tmp 9)
 (.seq (.region 2 #[o 10 (.build 41 #[(1,.const (.int .i64 9))]) 41,o 2 (.assign (ci 0)) 3,nd (.store 41 (.tmp 3) (.tmp 10))] false)
 .ret)
 .skip))
 (.seq (.region 3 #[fa 12 29 1 1,ld 13 12 26,cl 14 88 #[.tmp 13] #[26] 96,m 11 14 96,o 15 (.extract (.tmp 11) 0) 3,o 16 (.extract (.tmp 11) 1) 39,o 4 (.assign (.tmp 15)) 3,o 5 (.assign (.tmp 16)) 39] false)
 (.seq (.region 4 #[m 17 4 3,m 18 5 39,o 19 (.build 41 #[(1,.tmp 18)]) 41,o 2 (.assign (.tmp 17)) 3,nd (.store 41 (.tmp 3) (.tmp 19))] false)
 .ret))))
def kp93:Nat → Option (List Nat)
  | 0 => some [1,3]
  | 1 => some [1,3,9]
  | 2 => some [2,3]
  | 3 => some [3,4,5]
  | 4 => some [2,3]
  | _ => none
def fn93:AFn:={ ntmps:=20,results:=[.tmp 2,.cell 3 41],body:=c93,keep:=kp93,head:=fun  | _ => none,opn:=fun _ => none,dyn:=fun _ => [] }
def d94_0:Code :=
  (.region 0 #[o 2 (.alloc 29) 0,o 3 (.alloc 3) 0,o 4 (.alloc 3) 0,o 5 (.alloc 39) 0] false)
def d94_1:Code :=
  (.region 1 #[m 7 0 26,o 8 (.call { callee:=.builtin .len,args:=#[.tmp 7],argTypes:=#[26] }) 3,o 9 (.binOp .gtr 3 (.tmp 8) (ci 1048576) 3) 4] false)
def d94_2:Code :=
  (.cond (.tmp 9)
 (.seq (.region 2 #[o 10 (.build 29 #[]) 29,nd (.store 29 (.tmp 2) (.tmp 10)),nd (.store 3 (.tmp 3) (ci 0)),nd (.store 3 (.tmp 4) (ci 0)),nd (.store 39 (.tmp 5) (ci 3))] false)
 .ret)
 .skip)
def d94_4:Code :=
  (.region 4 #[m 12 0 26,o 13 (.build 192 #[(0,.tmp 12)]) 192,o 6 (.alloc 192) 0,nd (.store 192 (.tmp 6) (.tmp 13))] false)
def d94_5:Code :=
  (.region 5 #[m 15 0 26,o 16 (.call { callee:=.builtin .len,args:=#[.tmp 15],argTypes:=#[26] }) 3,cl 17 133 #[.tmp 6,.const (.int .i64 0),.tmp 16,.const (.int .i64 1)] #[192,3,3,3] 193,m 14 17 193,o 18 (.extract (.tmp 14) 0) 29,o 19 (.extract (.tmp 14) 1) 3,nd (.store 29 (.tmp 2) (.tmp 18)),nd (.store 3 (.tmp 3) (.tmp 19))] false)
def d94_6:Code :=
  (.region 6 #[ld 20 2 29,ld 21 3 3,nd (.store 29 (.tmp 2) (.tmp 20)),nd (.store 3 (.tmp 3) (.tmp 21)),nd (.store 3 (.tmp 4) (ci 0)),nd (.store 39 (.tmp 5) (ci 0))] true)
def d94_7:Code :=
  .ret
def e94_0:Code :=
  (.region 1 #[m 8 4 20,o 9 (.binOp .neq 20 (.tmp 8) (.const .nilIface) 20) 4] false)
def e94_1:Code :=
  (.cond (.tmp 9)
 (.seq (.region 2 #[m 11 4 20,o 12 (.typeAssert (.tmp 11) 20 189 true) 190,m 10 12 190,o 13 (.extract (.tmp 10) 0) 189,o 14 (.extract (.tmp 10) 1) 4,o 5 (.alloc 189) 0,nd (.store 189 (.tmp 5) (.tmp 13)),o 6 (.assign (.tmp 14)) 4] false)
 (.seq (.seq (.region 3 #[m 15 6 4,o 16 (.unOp .not 4 (.tmp 15)) 4] false)
 (.cond (.tmp 16)
 (.region 4 #[m 17 4 20,nd (.panic (.tmp 17))] false)
 .skip))
 (.region 5 #[o 18 (.build 29 #[]) 29,fa 19 189 5 0,ld 20 19 3,fa 21 189 5 1,ld 22 21 39,nd (.store 29 (.tmp 0) (.tmp 18)),nd (.store 3 (.tmp 1) (ci 0)),nd (.store 3 (.tmp 2) (.tmp 20)),nd (.store 39 (.tmp 3) (.tmp 22))] true)))
 .skip)
def fn94:AFn:={ ntmps:=22,results:=[.cell 2 29,.cell 3 3,.cell 4 3,.cell 5 39],body:=.refuse "",keep:=fun | 0 => some [0,2,3,4,5] | 1 => some [0,2,3,4,5,9] | 2 => some [2,3,4,5] | 3 => some [0,2,3,4,5] | 4 => some [0,2,3,4,5,6] | 5 => some [2,3,4,5] | 6 => some [2,3,4,5] | _ => none,head:=fun  | _ => none,opn:=opnT,dyn:=fun | 6 => [(1,2)] | _ => [] }
def gfn94:AFn:={ ntmps:=23,results:=[],body:=.refuse "",keep:=fun | 0 => some [0,1,2,3,4] | 1 => some [0,1,2,3,4,9] | 2 => some [0,1,2,3,4,5,6] | 3 => some [0,1,2,3,4,5,16] | 4 => some [0,1,2,3,5] | 5 => some [] | _ => none,head:=fun  | _ => none,opn:=opnT,dyn:=fun | 5 => [(2,5),(4,5),(2,6),(4,6),(4,7)] | _ => [] }
def grd94:Grd:={ pre:=[d94_0,d94_1,d94_2],t:=11,caps:=[2,3,4,5],post:=[d94_4,d94_5,d94_6,d94_7],g:=132,rs:=[4,7],gfn:=gfn94,gpost:=[e94_0,e94_1] }
def c95:Code :=
  (.seq (.region 0 #[o 1 (.box 29 (.tmp 0)) 0,o 2 (.assign (.const (.slice none 0 0))) 26,o 3 (.assign (ci 0)) 39] false)
 (.seq (.seq (.region 1 #[ld 6 1 29,cl 7 22 #[.tmp 6] #[29] 39,o 4 (.assign (.tmp 7)) 39] false)
 (.seq (.region 2 #[m 8 4 39,o 9 (.binOp .neq 39 (.tmp 8) (ci 0) 39) 4] false)
 (.cond (.tmp 9)
 (.seq (.region 3 #[m 10 4 39,o 2 (.assign (.const (.slice none 0 0))) 26,o 3 (.assign (.tmp 10)) 39] false)
 .ret)
 .skip)))
 (.seq (.region 4 #[ld 11 1 29,cl 12 134 #[.tmp 11] #[29] 3,o 5 (.assign (.tmp 12)) 3] false)
 (.seq (.seq (.region 5 #[m 13 5 3,o 14 (.binOp .gtr 3 (.tmp 13) (ci 1048576) 3) 4] false)
 (.cond (.tmp 14)
 (.seq (.region 6 #[o 2 (.assign (.const (.slice none 0 0))) 26,o 3 (.assign (ci 3)) 39] false)
 .ret)
 .skip))
 (.seq (.region 7 #[m 15 5 3,o 16 (.makeSlice 26 (ci 0) (.tmp 15)) 26,ld 17 1 29,cl 18 135 #[.tmp 16,.tmp 17] #[26,29] 26,o 2 (.assign (.tmp 18)) 26,o 3 (.assign (ci 0)) 39] true)
 .ret)))))
def kp95:Nat → Option (List Nat)
  | 0 => some [1]
  | 1 => some [1,4]
  | 2 => some [1,4,9]
  | 3 => some [2,3]
  | 4 => some [1,5]
  | 5 => some [1,5,14]
  | 6 => some [2,3]
  | 7 => some [2,3]
  | _ => none
def fn95:AFn:={ ntmps:=19,results:=[.tmp 2,.tmp 3],body:=c95,keep:=kp95,head:=fun  | _ => none,opn:=opnT,dyn:=fun | 7 => [(3,3)] | _ => [] }
def c96:Code :=
  (.seq (.region 0 #[o 2 (.assign (ci 0)) 3,o 3 (.assign (ci 0)) 39] false)
 (.seq (.block 0 (.seq (.region 1 #[m 8 0 26,o 9 (.call { callee:=.builtin .len,args:=#[.tmp 8],argTypes:=#[26] }) 3,o 10 (.binOp .eql 3 (.tmp 9) (ci 0) 3) 4,m 11 10 4,gd 12 (.move (.tmp 0)) 26 11 false,gd 13 (.call { callee:=.value (.func 130),args:=#[.tmp 12],argTypes:=#[26] }) 4 11 false,o 14 (.pick (.tmp 11) (.const (.bool true)) (.tmp 13)) 4,o 7 (.assign (.tmp 14)) 4] false)
 (.cond (.tmp 7)
 (.seq (.region 2 #[o 2 (.assign (ci 0)) 3,o 3 (.assign (ci 11)) 39] false)
 .ret)
 (.seq (.region 3 #[m 16 0 26,o 17 (.call { callee:=.builtin .len,args:=#[.tmp 16],argTypes:=#[26] }) 3,o 18 (.binOp .gtr 3 (.tmp 17) (ci 8) 3) 4,o 15 (.assign (.tmp 18)) 4] false)
 (.cond (.tmp 15)
 (.seq (.region 4 #[o 2 (.assign (ci 0)) 3,o 3 (.assign (ci 3)) 39] false)
 .ret)
 .skip)))))
 (.seq (.region 5 #[m 19 0 26,o 20 (.indexAddr 26 (.tmp 19) (ci 0)) 0,ld 21 20 5,o 22 (.convert 5 197 (.tmp 21)) 197,o 23 (.convert 197 3 (.tmp 22)) 3,o 4 (.assign (.tmp 23)) 3] false)
 (.seq (.seq (.region 6 #[m 24 0 26,o 25 (.slice 26 (.tmp 24) (some (ci 1)) none none) 26,o 26 (.call { callee:=.builtin .len,args:=#[.tmp 25],argTypes:=#[26] }) 3,o 27 (.move (ci 0)) 3] false)
 (.block 1 (.loop (.seq (.region 7 #[o 28 (.binOp .lss 3 (.tmp 27) (.tmp 26) 3) 0] false)
 (.seq (.cond (.tmp 28)
 .skip
 (.exit 1))
 (.seq (.block 2 (.seq (.region 8 #[o 29 (.indexAddr 26 (.tmp 25) (.tmp 27)) 0,ld 30 29 5,o 6 (.assign (.tmp 30)) 5] false)
 (.region 9 #[m 31 4 3,o 32 (.binOp .shl 3 (.tmp 31) (.const (.int .u64 8)) 168) 3,m 33 6 5,o 34 (.convert 5 3 (.tmp 33)) 3,o 35 (.binOp .or 3 (.tmp 32) (.tmp 34) 3) 3,o 4 (.assign (.tmp 35)) 3] false)))
 (.region 10 #[o 36 (.binOp .add 3 (.tmp 27) (ci 1) 3) 3,m 27 36 3] false)))))))
 (.seq (.region 11 #[m 37 4 3,o 2 (.assign (.tmp 37)) 3,o 3 (.assign (ci 0)) 39] false)
 .ret)))))
def kp96:Nat → Option (List Nat)
  | 0 => some [0]
  | 1 => some [0,7]
  | 2 => some [2,3]
  | 3 => some [0,15]
  | 4 => some [2,3]
  | 5 => some [0,4]
  | 6 => some [4,25,26,27]
  | 7 => some [4,25,26,27,28]
  | 8 => some [4,6,25,26,27]
  | 9 => some [4,25,26,27]
  | 10 => some [4,25,26,27]
  | 11 => some [2,3]
  | _ => none
def fn96:AFn:={ ntmps:=38,results:=[.tmp 2,.tmp 3],body:=c96,keep:=kp96,head:=fun | 7 => some [4,25,26,27] | _ => none,opn:=fun _ => none,dyn:=fun _ => [] }
def c97:Code :=
  (.seq (.region 0 #[o 2 (.assign (.const (.bool false))) 4] false)
 (.seq (.region 1 #[m 3 0 3,o 4 (.binOp .geq 3 (.tmp 3) (ci 0) 3) 4,m 5 4 4,gd 6 (.move (.tmp 0)) 3 5 true,gd 7 (.binOp .leq 3 (.tmp 6) (ci 2147483647) 3) 4 5 true,o 8 (.pick (.tmp 5) (.tmp 7) (.const (.bool false))) 4,o 2 (.assign (.tmp 8)) 4] false)
 .ret))
def kp97:Nat → Option (List Nat)
  | 0 => some [0]
  | 1 => some [2]
  | _ => none
def fn97:AFn:={ ntmps:=9,results:=[.tmp 2],body:=c97,keep:=kp97,head:=fun  | _ => none,opn:=fun _ => none,dyn:=fun _ => [] }
def c102:Code :=
  (.seq (.region 0 #[o 2 (.box 29 (.tmp 0)) 0,o 3 (.box 41 (.tmp 1)) 0,o 4 (.assign (ci 0)) 3,o 5 (.assign (ci 0)) 39] false)
 (.seq (.seq (.region 1 #[fa 8 41 3 1,ld 9 8 39,o 10 (.binOp .eql 39 (.tmp 9) (ci 0) 39) 4] false)
 (.cond (.tmp 10)
 (.seq (.region 2 #[o 4 (.assign (ci 0)) 3,o 5 (.assign (ci 0)) 39] false)
 .ret)
 .skip))
 (.seq (.region 3 #[ld 12 2 29,fa 13 41 3 0,ld 14 13 38,cl 15 140 #[.tmp 12,.tmp 14] #[29,38] 96,m 11 15 96,o 16 (.extract (.tmp 11) 0) 3,o 17 (.extract (.tmp 11) 1) 39,o 6 (.assign (.tmp 16)) 3,o 7 (.assign (.tmp 17)) 39] false)
 (.seq (.region 4 #[m 18 6 3,fa 19 41 3 1,ld 20 19 39,o 4 (.assign (.tmp 18)) 3,o 5 (.assign (.tmp 20)) 39] true)
 .ret))))
def kp102:Nat → Option (List Nat)
  | 0 => some [2,3]
  | 1 => some [2,3,10]
  | 2 => some [4,5]
  | 3 => some [3,6]
  | 4 => some [4,5]
  | _ => none
def fn102:AFn:={ ntmps:=21,results:=[.tmp 4,.tmp 5],body:=c102,keep:=kp102,head:=fun  | _ => none,opn:=fun _ => none,dyn:=fun _ => [] }
def c112:Code :=
  (.seq (.region 0 #[o 2 (.assign (.const (.slice none 0 0))) 26] false)
 (.seq (.region 1 #[m 4 0 23,o 5 (.binOp .rem 23 (.tmp 4) (.const (.int .u32 128)) 23) 23,o 6 (.convert 23 5 (.tmp 5)) 5,o 7 (.buildSlice 26 1 #[(0,.tmp 6)]) 26,o 3 (.assign (.tmp 7)) 26] false)
 (.seq (.seq (.region 2 #[m 8 0 23,o 9 (.binOp .quo 23 (.tmp 8) (.const (.int .u32 128)) 23) 23,o 0 (.assign (.tmp 9)) 23] false)
 (.block 0 (.loop (.seq (.seq (.region 3 #[m 10 0 23,o 11 (.binOp .gtr 23 (.tmp 10) (.const (.int .u32 0)) 23) 4] false)
 (.cond (.tmp 11)
 .skip
 (.exit 0)))
 (.seq (.block 1 (.region 5 #[m 14 0 23,o 15 (.binOp .rem 23 (.tmp 14) (.const (.int .u32 128)) 23) 23,o 16 (.binOp .add 23 (.const (.int .u32 128)) (.tmp 15) 23) 23,o 17 (.convert 23 5 (.tmp 16)) 5,o 18 (.buildSlice 26 1 #[(0,.tmp 17)]) 26,m 19 3 26,o 20 (.call { callee:=.builtin .append,args:=#[.tmp 18,.tmp 19],argTypes:=#[26,26] }) 26,o 3 (.assign (.tmp 20)) 26] false))
 (.region 4 #[m 12 0 23,o 13 (.binOp .quo 23 (.tmp 12) (.const (.int .u32 128)) 23) 23,o 0 (.assign (.tmp 13)) 23] false))))))
 (.seq (.region 6 #[m 21 3 26,o 2 (.assign (.tmp 21)) 26] false)
 .ret))))
def kp112:Nat → Option (List Nat)
  | 0 => some [0]
  | 1 => some [0,3]
  | 2 => some [0,3]
  | 3 => some [0,3,11]
  | 4 => some [0,3]
  | 5 => some [0,3]
  | 6 => some [2]
  | _ => none
def fn112:AFn:={ ntmps:=22,results:=[.tmp 2],body:=c112,keep:=kp112,head:=fun | 3 => some [0,3] | _ => none,opn:=fun _ => none,dyn:=fun _ => [] }
def c113:Code :=
  (.seq (.region 0 #[o 2 (.assign (.const (.slice none 0 0))) 38] false)
 (.seq (.region 1 #[m 3 0 38,m 4 0 38,o 5 (.call { callee:=.builtin .len,args:=#[.tmp 4],argTypes:=#[38] }) 3,m 6 0 38,o 7 (.call { callee:=.builtin .len,args:=#[.tmp 6],argTypes:=#[38] }) 3,o 8 (.slice 38 (.tmp 3) none (some (.tmp 5)) (some (.tmp 7))) 38,o 2 (.assign (.tmp 8)) 38] false)
 .ret))
def kp113:Nat → Option (List Nat)
  | 0 => some [0]
  | 1 => some [2]
  | _ => none
def fn113:AFn:={ ntmps:=9,results:=[.tmp 2],body:=c113,keep:=kp113,head:=fun  | _ => none,opn:=fun _ => none,dyn:=fun _ => [] }
def c114:Code :=
  (.seq (.region 0 #[o 4 (.alloc 41) 0] false)
 (.seq (.region 1 #[m 5 1 38,cl 6 113 #[.tmp 5] #[38] 38,m 7 0 39,o 8 (.build 41 #[(0,.tmp 6),(1,.tmp 7)]) 41,nd (.store 41 (.tmp 4) (.tmp 8))] false)
 .ret))
def kp114:Nat → Option (List Nat)
  | 0 => some [0,1,4]
  | 1 => some [4]
  | _ => none
def fn114:AFn:={ ntmps:=9,results:=[.cell 4 41],body:=c114,keep:=kp114,head:=fun  | _ => none,opn:=fun _ => none,dyn:=fun _ => [] }
def c115:Code :=
  (.seq (.region 0 #[o 2 (.box 75 (.tmp 0)) 0,o 3 (.box 29 (.tmp 1)) 0,o 4 (.assign (.const (.bool false))) 4] false)
 (.seq (.region 1 #[fa 5 75 2 1,ld 6 5 4,m 7 6 4,gd 8 (.fieldAddr 75 (.tmp 2) 0) 0 7 false,gd 9 (.load 25 (.tmp 8)) 25 7 false,gd 10 (.fieldAddr 29 (.tmp 3) 0) 0 7 false,gd 11 (.load 25 (.tmp 10)) 25 7 false,gd 12 (.binOp .eql 25 (.tmp 9) (.tmp 11) 25) 4 7 false,o 13 (.pick (.tmp 7) (.const (.bool true)) (.tmp 12)) 4,o 4 (.assign (.tmp 13)) 4] false)
 .ret))
def kp115:Nat → Option (List Nat)
  | 0 => some [2,3]
  | 1 => some [4]
  | _ => none
def fn115:AFn:={ ntmps:=14,results:=[.tmp 4],body:=c115,keep:=kp115,head:=fun  | _ => none,opn:=fun _ => none,dyn:=fun _ => [] }
def c119:Code :=
  (.seq (.region 0 #[o 2 (.box 29 (.tmp 0)) 0,o 3 (.box 174 (.tmp 1)) 0,o 4 (.assign (ci 0)) 39] false)
 (.seq (.region 1 #[o 5 (.alloc 174) 0] false)
 (.seq (.region 2 #[o 6 (.makeFunc (.func 152) #[] #[.tmp 3,.tmp 5]) 174,nd (.store 174 (.tmp 5) (.tmp 6))] false)
 (.seq (.region 3 #[ld 7 5 174,ld 8 2 29,o 9 (.call { callee:=.value (.tmp 7),args:=#[.tmp 8,.const (.int .i64 1)],argTypes:=#[29,3] }) 39,o 4 (.assign (.tmp 9)) 39] false)
 .ret))))
def kp119:Nat → Option (List Nat)
  | 0 => some [2,3]
  | 1 => some [2,3,5]
  | 2 => some [2,5]
  | 3 => some [4]
  | _ => none
def fn119:AFn:={ ntmps:=10,results:=[.tmp 4],body:=c119,keep:=kp119,head:=fun  | _ => none,opn:=opnT,dyn:=fun _ => [] }
def c120:Code :=
  (.seq (.region 0 #[o 4 (.box 29 (.tmp 0)) 0,o 6 (.assign (ci 0)) 39] false)
 (.seq (.seq (.region 1 #[fa 8 29 4 0,ld 9 8 25,cl 10 121 #[.tmp 9] #[25] 39,o 7 (.assign (.tmp 10)) 39] false)
 (.seq (.region 2 #[m 11 7 39,o 12 (.binOp .neq 39 (.tmp 11) (ci 0) 39) 4] false)
 (.cond (.tmp 12)
 (.seq (.region 3 #[m 13 7 39,o 6 (.assign (.tmp 13)) 39] false)
 .ret)
 .skip)))
 (.seq (.block 0 (.seq (.region 4 #[fa 15 29 4 0,fa 16 25 15 1,ld 17 16 4,m 18 17 4,gd 19 (.fieldAddr 29 (.tmp 4) 1) 0 18 true,gd 20 (.load 26 (.tmp 19)) 26 18 true,gd 21 (.call { callee:=.builtin .len,args:=#[.tmp 20],argTypes:=#[26] }) 3 18 true,gd 22 (.binOp .gtr 3 (.tmp 21) (ci 0) 3) 4 18 true,o 23 (.pick (.tmp 18) (.tmp 22) (.const (.bool false))) 4,m 24 23 4,gd 25 (.fieldAddr 29 (.tmp 4) 0) 0 24 false,gd 26 (.fieldAddr 25 (.tmp 25) 1) 0 24 false,gd 27 (.load 4 (.tmp 26)) 4 24 false,gd 28 (.unOp .not 4 (.tmp 27)) 4 24 false,gd 29 (.move (.tmp 28)) 4 24 false,gd 30 (.fieldAddr 29 (.tmp 4) 2) 0 29 true,gd 31 (.load 27 (.tmp 30)) 27 29 true,gd 32 (.call { callee:=.builtin .len,args:=#[.tmp 31],argTypes:=#[27] }) 3 29 true,gd 33 (.binOp .gtr 3 (.tmp 32) (ci 0) 3) 4 29 true,gd 34 (.pick (.tmp 29) (.tmp 33) (.const (.bool false))) 4 24 false,o 35 (.pick (.tmp 24) (.const (.bool true)) (.tmp 34)) 4,o 14 (.assign (.tmp 35)) 4] false)
 (.cond (.tmp 14)
 (.seq (.region 5 #[o 6 (.assign (ci 1)) 39] false)
 .ret)
 (.seq (.region 6 #[m 37 1 3,o 38 (.binOp .gtr 3 (.tmp 37) (ci 16) 3) 4,o 36 (.assign (.tmp 38)) 4] false)
 (.cond (.tmp 36)
 (.seq (.region 7 #[o 6 (.assign (ci 12)) 39] false)
 .ret)
 (.seq (.region 8 #[ld 40 2 3,o 41 (.binOp .eql 3 (.tmp 40) (ci 8192) 3) 4,o 39 (.assign (.tmp 41)) 4] false)
 (.cond (.tmp 39)
 (.seq (.region 9 #[o 6 (.assign (ci 3)) 39] false)
 .ret)
 .skip)))))))
 (.seq (.region 10 #[ld 42 2 3,o 43 (.binOp .add 3 (.tmp 42) (ci 1) 3) 3,nd (.store 3 (.tmp 2) (.tmp 43))] false)
 (.seq (.region 11 #[ld 44 3 3,m 45 1 3,o 46 (.call { callee:=.builtin .max,args:=#[.tmp 44,.tmp 45],argTypes:=#[3,3] }) 3,nd (.store 3 (.tmp 3) (.tmp 46))] false)
 (.seq (.region 12 #[o 6 (.assign (ci 0)) 39] false)
 .ret))))))
def kp120:Nat → Option (List Nat)
  | 0 => some [1,2,3,4]
  | 1 => some [1,2,3,4,7]
  | 2 => some [1,2,3,4,7,12]
  | 3 => some [6]
  | 4 => some [1,2,3,14]
  | 5 => some [6]
  | 6 => some [1,2,3,36]
  | 7 => some [6]
  | 8 => some [1,2,3,39]
  | 9 => some [6]
  | 10 => some [1,3]
  | 11 => some []
  | 12 => some [6]
  | _ => none
def fn120:AFn:={ ntmps:=47,results:=[.tmp 6],body:=c120,keep:=kp120,head:=fun  | _ => none,opn:=fun _ => none,dyn:=fun _ => [] }
def c121:Code :=
  (.seq (.region 0 #[o 1 (.box 25 (.tmp 0)) 0,o 2 (.assign (ci 0)) 39] false)
 (.seq (.seq (.region 1 #[fa 3 25 1 0,ld 4 3 22,o 5 (.binOp .gtr 22 (.tmp 4) (.const (.int .u8 3)) 22) 4,m 6 5 4,gd 7 (.fieldAddr 25 (.tmp 1) 2) 0 6 false,gd 8 (.load 23 (.tmp 7)) 23 6 false,gd 9 (.binOp .gtr 23 (.tmp 8) (.const (.int .u32 268435455)) 23) 4 6 false,o 10 (.pick (.tmp 6) (.const (.bool true)) (.tmp 9)) 4] false)
 (.cond (.tmp 10)
 (.seq (.region 2 #[o 2 (.assign (ci 1)) 39] false)
 .ret)
 .skip))
 (.seq (.seq (.region 3 #[fa 11 25 1 0,ld 12 11 22,o 13 (.binOp .neq 22 (.tmp 12) (.const (.int .u8 0)) 22) 4] false)
 (.cond (.tmp 13)
 (.seq (.region 4 #[o 2 (.assign (ci 0)) 39] false)
 .ret)
 .skip))
 (.seq (.seq (.region 5 #[fa 14 25 1 2,ld 15 14 23] false)
 (.block 0 (.seq (.region 6 #[o 17 (.binOp .eql 23 (.tmp 15) (.const (.int .u32 0)) 23) 4,o 16 (.assign (.tmp 17)) 4] false)
 (.cond (.tmp 16)
 (.seq (.region 7 #[o 2 (.assign (ci 9)) 39] false)
 .ret)
 (.seq (.seq (.region 8 #[o 19 (.binOp .eql 23 (.tmp 15) (.const (.int .u32 16)) 23) 4,o 18 (.assign (.tmp 19)) 4] false)
 (.cond (.tmp 18)
 .skip
 (.region 9 #[o 20 (.binOp .eql 23 (.tmp 15) (.const (.int .u32 17)) 23) 4,o 18 (.assign (.tmp 20)) 4] false)))
 (.cond (.tmp 18)
 (.seq (.region 10 #[fa 21 25 1 1,ld 22 21 4,o 23 (.unOp .not 4 (.tmp 22)) 4] false)
 (.cond (.tmp 23)
 (.seq (.region 11 #[o 2 (.assign (ci 9)) 39] false)
 .ret)
 .skip))
 .skip))))))
 (.seq (.region 12 #[o 2 (.assign (ci 0)) 39] false)
 .ret)))))
def kp121:Nat → Option (List Nat)
  | 0 => some [1]
  | 1 => some [1,10]
  | 2 => some [2]
  | 3 => some [1,13]
  | 4 => some [2]
  | 5 => some [1,15]
  | 6 => some [1,15,16]
  | 7 => some [2]
  | 8 => some [1,15,18]
  | 9 => some [1,18]
  | 10 => some [23]
  | 11 => some [2]
  | 12 => some [2]
  | _ => none
def fn121:AFn:={ ntmps:=24,results:=[.tmp 2],body:=c121,keep:=kp121,head:=fun  | _ => none,opn:=fun _ => none,dyn:=fun _ => [] }
def c127:Code :=
  (.seq (.region 0 #[o 6 (.assign (.const (.slice none 0 0))) 27,o 7 (.assign (ci 0)) 3] false)
 (.seq (.region 1 #[o 8 (.assign (.const (.slice none 0 0))) 27] false)
 (.seq (.block 0 (.loop (.seq (.seq (.region 2 #[m 11 1 3,m 12 0 26,o 13 (.call { callee:=.builtin .len,args:=#[.tmp 12],argTypes:=#[26] }) 3,o 14 (.binOp .lss 3 (.tmp 11) (.tmp 13) 3) 4,m 15 14 4,gd 16 (.move (.tmp 1)) 3 15 true,gd 17 (.binOp .lss 3 (.tmp 16) (ci 40) 3) 4 15 true,o 18 (.pick (.tmp 15) (.tmp 17) (.const (.bool false))) 4] false)
 (.cond (.tmp 18)
 .skip
 (.exit 0)))
 (.block 1 (.seq (.region 3 #[m 19 0 26,m 20 1 3,o 21 (.indexAddr 26 (.tmp 19) (.tmp 20)) 0,ld 22 21 5,o 9 (.assign (.tmp 22)) 5] false)
 (.seq (.region 4 #[m 23 1 3,o 24 (.binOp .add 3 (.tmp 23) (ci 1) 3) 3,o 1 (.assign (.tmp 24)) 3] false)
 (.seq (.seq (.region 5 #[m 25 9 5,o 26 (.binOp .rem 5 (.tmp 25) (.const (.int .u8 16)) 5) 5,o 27 (.binOp .eql 5 (.tmp 26) (.const (.int .u8 15)) 5) 4] false)
 (.cond (.tmp 27)
 (.seq (.region 6 #[m 28 8 27,m 29 1 3,o 6 (.assign (.tmp 28)) 27,o 7 (.assign (.tmp 29)) 3] false)
 .ret)
 .skip))
 (.seq (.region 7 #[m 30 9 5,cl 31 128 #[.tmp 30] #[5] 25,o 32 (.build 29 #[(0,.tmp 31)]) 29,o 10 (.alloc 29) 0,nd (.store 29 (.tmp 10) (.tmp 32))] false)
 (.seq (.seq (.region 8 #[fa 33 29 10 0,fa 34 25 33 1,ld 35 34 4] false)
 (.cond (.tmp 35)
 (.seq (.seq (.region 9 #[m 36 2 3,o 37 (.binOp .eql 3 (.tmp 36) (ci 5) 3) 4] false)
 (.cond (.tmp 37)
 (.exit 1)
 .skip))
 (.region 10 #[m 39 0 26,m 40 1 3,m 41 2 3,o 42 (.binOp .add 3 (.tmp 41) (ci 1) 3) 3,cl 43 127 #[.tmp 39,.tmp 40,.tmp 42] #[26,3,3] 180,m 38 43 180,o 44 (.extract (.tmp 38) 0) 27,o 45 (.extract (.tmp 38) 1) 3,fa 46 29 10 2,nd (.store 27 (.tmp 46) (.tmp 44)),o 1 (.assign (.tmp 45)) 3] false))
 (.seq (.region 11 #[fa 47 29 10 0,fa 48 25 47 0,ld 49 48 22,o 50 (.binOp .eql 22 (.tmp 49) (.const (.int .u8 0)) 22) 4,m 51 50 4,gd 52 (.fieldAddr 29 (.tmp 10) 0) 0 51 true,gd 53 (.fieldAddr 25 (.tmp 52) 2) 0 51 true,gd 54 (.load 23 (.tmp 53)) 23 51 true,gd 55 (.binOp .eql 23 (.tmp 54) (.const (.int .u32 1)) 23) 4 51 true,o 56 (.pick (.tmp 51) (.tmp 55) (.const (.bool false))) 4] false)
 (.cond (.tmp 56)
 (.region 12 #[⟨some 57,.buildSlice 26 1 #[(0,.const (.int .u8 255))],26, "",fz,none⟩,fa 58 29 10 1,nd (.store 26 (.tmp 58) (.tmp 57))] false)
 (.seq (.region 13 #[fa 59 29 10 0,fa 60 25 59 0,ld 61 60 22,o 62 (.binOp .eql 22 (.tmp 61) (.const (.int .u8 0)) 22) 4,m 63 62 4,gd 64 (.fieldAddr 29 (.tmp 10) 0) 0 63 true,gd 65 (.fieldAddr 25 (.tmp 64) 2) 0 63 true,gd 66 (.load 23 (.tmp 65)) 23 63 true,gd 67 (.binOp .eql 23 (.tmp 66) (.const (.int .u32 2)) 23) 4 63 true,o 68 (.pick (.tmp 63) (.tmp 67) (.const (.bool false))) 4] false)
 (.cond (.tmp 68)
 (.region 14 #[m 69 9 5,o 70 (.binOp .quo 5 (.tmp 69) (.const (.int .u8 8)) 5) 5,⟨some 71,.buildSlice 26 1 #[(0,.tmp 70)],26, "",fz,none⟩,fa 72 29 10 1,nd (.store 26 (.tmp 72) (.tmp 71))] false)
 (.region 15 #[m 73 9 5,o 74 (.convert 5 3 (.tmp 73)) 3,m 75 9 5,o 76 (.binOp .quo 5 (.tmp 75) (.const (.int .u8 64)) 5) 5,o 77 (.convert 5 3 (.tmp 76)) 3,o 78 (.binOp .mul 3 (.tmp 74) (.tmp 77) 3) 3,⟨some 79,.makeSlice 26 (.tmp 78) (.tmp 78),26, "",fz,none⟩,fa 80 29 10 1,nd (.store 26 (.tmp 80) (.tmp 79))] false)))))))
 (.region 16 #[m 81 8 27,ld 82 10 29,o 83 (.buildSlice 27 1 #[(0,.tmp 82)]) 27,o 84 (.call { callee:=.builtin .append,args:=#[.tmp 81,.tmp 83],argTypes:=#[27,27] }) 27,o 8 (.assign (.tmp 84)) 27] false))))))))))
 (.seq (.region 17 #[m 85 8 27,m 86 1 3,o 6 (.assign (.tmp 85)) 27,o 7 (.assign (.tmp 86)) 3] false)
 .ret))))
def kp127:Nat → Option (List Nat)
  | 0 => some [0,1,2]
  | 1 => some [0,1,2,8]
  | 2 => some [0,1,2,8,18]
  | 3 => some [0,1,2,8,9]
  | 4 => some [0,1,2,8,9]
  | 5 => some [0,1,2,8,9,27]
  | 6 => some [6,7]
  | 7 => some [0,1,2,8,9,10]
  | 8 => some [0,1,2,8,9,10,35]
  | 9 => some [0,1,2,8,10,37]
  | 10 => some [0,1,2,8,10]
  | 11 => some [0,1,2,8,9,10,56]
  | 12 => some [0,1,2,8,10]
  | 13 => some [0,1,2,8,9,10,68]
  | 14 => some [0,1,2,8,10]
  | 15 => some [0,1,2,8,10]
  | 16 => some [0,1,2,8]
  | 17 => some [6,7]
  | _ => none
def fn127:AFn:={ ntmps:=87,results:=[.tmp 6,.tmp 7],body:=c127,keep:=kp127,head:=fun | 2 => some [0,1,2,8] | _ => none,opn:=fun _ => none,dyn:=fun | 1000000 => [(57,0),(71,0),(79,0)] | _ => [] }
def c128:Code :=
  (.seq (.region 0 #[o 2 (.alloc 25) 0] false)
 (.seq (.seq (.region 1 #[m 3 0 5,o 4 (.binOp .rem 5 (.tmp 3) (.const (.int .u8 8)) 5) 5] false)
 (.block 0 (.seq (.region 2 #[o 6 (.binOp .eql 5 (.tmp 4) (.const (.int .u8 0)) 5) 4,o 5 (.assign (.tmp 6)) 4] false)
 (.cond (.tmp 5)
 (.seq (.region 3 #[o 7 (.build 25 #[(1,.const (.bool true)),(2,.const (.int .u32 16))]) 25,nd (.store 25 (.tmp 2) (.tmp 7))] false)
 .ret)
 (.seq (.region 4 #[o 9 (.binOp .eql 5 (.tmp 4) (.const (.int .u8 1)) 5) 4,o 8 (.assign (.tmp 9)) 4] false)
 (.cond (.tmp 8)
 (.seq (.region 5 #[o 10 (.build 25 #[(1,.const (.bool true)),(2,.const (.int .u32 17))]) 25,nd (.store 25 (.tmp 2) (.tmp 10))] false)
 .ret)
 (.seq (.region 6 #[o 12 (.binOp .eql 5 (.tmp 4) (.const (.int .u8 2)) 5) 4,o 11 (.assign (.tmp 12)) 4] false)
 (.cond (.tmp 11)
 (.seq (.region 7 #[m 13 0 5,o 14 (.binOp .quo 5 (.tmp 13) (.const (.int .u8 8)) 5) 5,o 15 (.binOp .rem 5 (.tmp 14) (.const (.int .u8 4)) 5) 5,o 16 (.convert 5 23 (.tmp 15)) 23,o 17 (.binOp .mul 23 (.tmp 16) (.const (.int .u32 12)) 23) 23,o 18 (.build 25 #[(0,.const (.int .u8 2)),(1,.const (.bool true)),(2,.tmp 17)]) 25,nd (.store 25 (.tmp 2) (.tmp 18))] false)
 .ret)
 (.seq (.region 8 #[o 20 (.binOp .eql 5 (.tmp 4) (.const (.int .u8 3)) 5) 4,o 19 (.assign (.tmp 20)) 4] false)
 (.cond (.tmp 19)
 (.seq (.region 9 #[m 21 0 5,o 22 (.binOp .quo 5 (.tmp 21) (.const (.int .u8 8)) 5) 5,o 23 (.binOp .rem 5 (.tmp 22) (.const (.int .u8 4)) 5) 5,o 24 (.convert 5 23 (.tmp 23)) 23,o 25 (.build 25 #[(0,.const (.int .u8 2)),(2,.tmp 24)]) 25,nd (.store 25 (.tmp 2) (.tmp 25))] false)
 .ret)
 (.seq (.region 10 #[o 27 (.binOp .eql 5 (.tmp 4) (.const (.int .u8 4)) 5) 4,o 26 (.assign (.tmp 27)) 4] false)
 (.cond (.tmp 26)
 (.seq (.region 11 #[o 28 (.build 25 #[(2,.const (.int .u32 1))]) 25,nd (.store 25 (.tmp 2) (.tmp 28))] false)
 .ret)
 (.seq (.region 12 #[o 30 (.binOp .eql 5 (.tmp 4) (.const (.int .u8 5)) 5) 4,o 29 (.assign (.tmp 30)) 4] false)
 (.cond (.tmp 29)
 (.seq (.region 13 #[o 31 (.build 25 #[(2,.const (.int .u32 4))]) 25,nd (.store 25 (.tmp 2) (.tmp 31))] false)
 .ret)
 .skip))))))))))))))
 (.seq (.region 14 #[o 32 (.build 25 #[(2,.const (.int .u32 2))]) 25,nd (.store 25 (.tmp 2) (.tmp 32))] false)
 .ret)))
def kp128:Nat → Option (List Nat)
  | 0 => some [0,2]
  | 1 => some [0,2,4]
  | 2 => some [0,2,4,5]
  | 3 => some [2]
  | 4 => some [0,2,4,8]
  | 5 => some [2]
  | 6 => some [0,2,4,11]
  | 7 => some [2]
  | 8 => some [0,2,4,19]
  | 9 => some [2]
  | 10 => some [2,4,26]
  | 11 => some [2]
  | 12 => some [2,29]
  | 13 => some [2]
  | 14 => some [2]
  | _ => none
def fn128:AFn:={ ntmps:=33,results:=[.cell 2 25],body:=c128,keep:=kp128,head:=fun  | _ => none,opn:=fun _ => none,dyn:=fun _ => [] }
def c130:Code :=
  (.seq (.region 0 #[o 2 (.assign (.const (.bool false))) 4] false)
 (.seq (.region 1 #[m 3 0 26,o 4 (.call { callee:=.builtin .len,args:=#[.tmp 3],argTypes:=#[26] }) 3,o 5 (.binOp .gtr 3 (.tmp 4) (ci 1) 3) 4,m 6 5 4,gd 7 (.move (.tmp 0)) 26 6 true,gd 8 (.indexAddr 26 (.tmp 7) (ci 0)) 0 6 true,gd 9 (.load 5 (.tmp 8)) 5 6 true,gd 10 (.binOp .eql 5 (.tmp 9) (.const (.int .u8 0)) 5) 4 6 true,gd 11 (.move (.tmp 10)) 4 6 true,gd 12 (.move (.tmp 0)) 26 11 true,gd 13 (.indexAddr 26 (.tmp 12) (ci 1)) 0 11 true,gd 14 (.load 5 (.tmp 13)) 5 11 true,gd 15 (.binOp .lss 5 (.tmp 14) (.const (.int .u8 128)) 5) 4 11 true,gd 16 (.pick (.tmp 11) (.tmp 15) (.const (.bool false))) 4 6 true,gd 17 (.move (.tmp 16)) 4 6 true,gd 18 (.move (.tmp 0)) 26 17 false,gd 19 (.indexAddr 26 (.tmp 18) (ci 0)) 0 17 false,gd 20 (.load 5 (.tmp 19)) 5 17 false,gd 21 (.binOp .eql 5 (.tmp 20) (.const (.int .u8 255)) 5) 4 17 false,gd 22 (.move (.tmp 21)) 4 17 false,gd 23 (.move (.tmp 0)) 26 22 true,gd 24 (.indexAddr 26 (.tmp 23) (ci 1)) 0 22 true,gd 25 (.load 5 (.tmp 24)) 5 22 true,gd 26 (.binOp .geq 5 (.tmp 25) (.const (.int .u8 128)) 5) 4 22 true,gd 27 (.pick (.tmp 22) (.tmp 26) (.const (.bool false))) 4 17 false,gd 28 (.pick (.tmp 17) (.const (.bool true)) (.tmp 27)) 4 6 true,o 29 (.pick (.tmp 6) (.tmp 28) (.const (.bool false))) 4,o 2 (.assign (.tmp 29)) 4] false)
 .ret))
def kp130:Nat → Option (List Nat)
  | 0 => some [0]
  | 1 => some [2]
  | _ => none
def fn130:AFn:={ ntmps:=30,results:=[.tmp 2],body:=c130,keep:=kp130,head:=fun  | _ => none,opn:=fun _ => none,dyn:=fun _ => [] }
def c131:Code :=
  (.seq (.region 0 #[o 2 (.assign (.const (.slice none 0 0))) 26] false)
 (.seq (.region 1 #[m 3 0 26,m 4 0 26,o 5 (.call { callee:=.builtin .len,args:=#[.tmp 4],argTypes:=#[26] }) 3,m 6 0 26,o 7 (.call { callee:=.builtin .len,args:=#[.tmp 6],argTypes:=#[26] }) 3,o 8 (.slice 26 (.tmp 3) none (some (.tmp 5)) (some (.tmp 7))) 26,o 2 (.assign (.tmp 8)) 26] false)
 .ret))
def kp131:Nat → Option (List Nat)
  | 0 => some [0]
  | 1 => some [2]
  | _ => none
def fn131:AFn:={ ntmps:=9,results:=[.tmp 2],body:=c131,keep:=kp131,head:=fun  | _ => none,opn:=fun _ => none,dyn:=fun _ => [] }
def c132:Code :=
  (.seq (.region 0 #[o 7 (.call { callee:=.builtin .recover,args:=#[],argTypes:=#[] }) 20,o 4 (.assign (.tmp 7)) 20] false)
 (.seq (.region 1 #[m 8 4 20,o 9 (.binOp .neq 20 (.tmp 8) (.const .nilIface) 20) 4] false)
 (.cond (.tmp 9)
 (.seq (.region 2 #[m 11 4 20,o 12 (.typeAssert (.tmp 11) 20 189 true) 190,m 10 12 190,o 13 (.extract (.tmp 10) 0) 189,o 14 (.extract (.tmp 10) 1) 4,o 5 (.alloc 189) 0,nd (.store 189 (.tmp 5) (.tmp 13)),o 6 (.assign (.tmp 14)) 4] false)
 (.seq (.seq (.region 3 #[m 15 6 4,o 16 (.unOp .not 4 (.tmp 15)) 4] false)
 (.cond (.tmp 16)
 (.region 4 #[m 17 4 20,nd (.panic (.tmp 17))] false)
 .skip))
 (.region 5 #[o 18 (.build 29 #[]) 29,fa 19 189 5 0,ld 20 19 3,fa 21 189 5 1,ld 22 21 39,nd (.store 29 (.tmp 0) (.tmp 18)),nd (.store 3 (.tmp 1) (ci 0)),nd (.store 3 (.tmp 2) (.tmp 20)),nd (.store 39 (.tmp 3) (.tmp 22))] true)))
 .skip)))
def kp132:Nat → Option (List Nat)
  | 0 => some [0,1,2,3,4]
  | 1 => some [0,1,2,3,4,9]
  | 2 => some [0,1,2,3,4,5,6]
  | 3 => some [0,1,2,3,4,5,16]
  | 4 => some [0,1,2,3,5]
  | 5 => some []
  | _ => none
def fn132:AFn:={ ntmps:=23,results:=[],body:=c132,keep:=kp132,head:=fun  | _ => none,opn:=fun _ => none,dyn:=fun | 5 => [(2,5),(4,5),(2,6),(4,6),(4,7)] | _ => [] }
def c133:Code :=
  (.seq (.region 0 #[o 8 (.alloc 29) 0,o 9 (.assign (ci 0)) 3] false)
 (.seq (.region 1 #[m 17 0 216,o 18 (.nilCheck (.tmp 17)) 0,fa 19 192 18 0,ld 20 19 26,m 21 1 3,m 22 2 3,o 23 (.slice 26 (.tmp 20) (some (.tmp 21)) (some (.tmp 22)) none) 26,cl 24 153 #[.tmp 23] #[26] 217,m 16 24 217,o 25 (.extract (.tmp 16) 0) 25,o 26 (.extract (.tmp 16) 1) 3,o 27 (.extract (.tmp 16) 2) 39,o 10 (.alloc 25) 0,nd (.store 25 (.tmp 10) (.tmp 25)),o 11 (.assign (.tmp 26)) 3,o 12 (.assign (.tmp 27)) 39] false)
 (.seq (.block 0 (.seq (.region 2 #[m 29 12 39,o 30 (.binOp .eql 39 (.tmp 29) (ci 7) 39) 4,o 28 (.assign (.tmp 30)) 4] false)
 (.cond (.tmp 28)
 (.region 3 #[m 31 2 3,m 32 12 39,o 33 (.build 189 #[(0,.tmp 31),(1,.tmp 32)]) 189,o 34 (.makeInterface 189 (.tmp 33)) 20,nd (.panic (.tmp 34))] false)
 (.seq (.region 4 #[m 36 12 39,o 37 (.binOp .neq 39 (.tmp 36) (ci 0) 39) 4,o 35 (.assign (.tmp 37)) 4] false)
 (.cond (.tmp 35)
 (.region 5 #[m 38 1 3,m 39 12 39,o 40 (.build 189 #[(0,.tmp 38),(1,.tmp 39)]) 189,o 41 (.makeInterface 189 (.tmp 40)) 20,nd (.panic (.tmp 41))] false)
 (.seq (.region 6 #[m 43 3 3,o 44 (.binOp .gtr 3 (.tmp 43) (ci 16) 3) 4,o 42 (.assign (.tmp 44)) 4] false)
 (.cond (.tmp 42)
 (.region 7 #[m 45 1 3,o 46 (.build 189 #[(0,.tmp 45),(1,.const (.int .i64 12))]) 189,o 47 (.makeInterface 189 (.tmp 46)) 20,nd (.panic (.tmp 47))] false)
 (.seq (.region 8 #[m 49 0 216,o 50 (.nilCheck (.tmp 49)) 0,fa 51 192 50 1,ld 52 51 3,o 53 (.binOp .eql 3 (.tmp 52) (ci 8192) 3) 4,o 48 (.assign (.tmp 53)) 4] false)
 (.cond (.tmp 48)
 (.region 9 #[m 54 1 3,o 55 (.build 189 #[(0,.tmp 54),(1,.const (.int .i64 3))]) 189,o 56 (.makeInterface 189 (.tmp 55)) 20,nd (.panic (.tmp 56))] false)
 .skip)))))))))
 (.seq (.region 10 #[m 57 0 216,o 58 (.nilCheck (.tmp 57)) 0,fa 59 192 58 1,ld 60 59 3,o 61 (.binOp .add 3 (.tmp 60) (ci 1) 3) 3,o 62 (.nilCheck (.tmp 57)) 0,fa 63 192 62 1,nd (.store 3 (.tmp 63) (.tmp 61))] false)
 (.seq (.region 11 #[m 64 1 3,m 65 11 3,o 66 (.binOp .add 3 (.tmp 64) (.tmp 65) 3) 3,o 1 (.assign (.tmp 66)) 3] false)
 (.seq (.region 12 #[m 68 0 216,o 69 (.nilCheck (.tmp 68)) 0,fa 70 192 69 0,ld 71 70 26,m 72 1 3,m 73 2 3,o 74 (.slice 26 (.tmp 71) (some (.tmp 72)) (some (.tmp 73)) none) 26,cl 75 154 #[.tmp 74] #[26] 89,m 67 75 89,o 76 (.extract (.tmp 67) 0) 3,o 77 (.extract (.tmp 67) 1) 3,o 78 (.extract (.tmp 67) 2) 39,o 13 (.assign (.tmp 76)) 3,o 11 (.assign (.tmp 77)) 3,o 12 (.assign (.tmp 78)) 39] false)
 (.seq (.block 1 (.seq (.region 13 #[m 80 12 39,o 81 (.binOp .eql 39 (.tmp 80) (ci 7) 39) 4,o 79 (.assign (.tmp 81)) 4] false)
 (.cond (.tmp 79)
 (.region 14 #[m 82 2 3,m 83 12 39,o 84 (.build 189 #[(0,.tmp 82),(1,.tmp 83)]) 189,o 85 (.makeInterface 189 (.tmp 84)) 20,nd (.panic (.tmp 85))] false)
 (.seq (.region 15 #[m 87 12 39,o 88 (.binOp .neq 39 (.tmp 87) (ci 0) 39) 4,o 86 (.assign (.tmp 88)) 4] false)
 (.cond (.tmp 86)
 (.region 16 #[m 89 1 3,m 90 12 39,o 91 (.build 189 #[(0,.tmp 89),(1,.tmp 90)]) 189,o 92 (.makeInterface 189 (.tmp 91)) 20,nd (.panic (.tmp 92))] false)
 (.seq (.region 17 #[m 94 13 3,m 95 2 3,m 96 1 3,o 97 (.binOp .sub 3 (.tmp 95) (.tmp 96) 3) 3,m 98 11 3,o 99 (.binOp .sub 3 (.tmp 97) (.tmp 98) 3) 3,o 100 (.binOp .gtr 3 (.tmp 94) (.tmp 99) 3) 4,o 93 (.assign (.tmp 100)) 4] false)
 (.cond (.tmp 93)
 (.region 18 #[m 101 2 3,o 102 (.build 189 #[(0,.tmp 101),(1,.const (.int .i64 7))]) 189,o 103 (.makeInterface 189 (.tmp 102)) 20,nd (.panic (.tmp 103))] false)
 .skip)))))))
 (.seq (.region 19 #[m 104 1 3,m 105 11 3,o 106 (.binOp .add 3 (.tmp 104) (.tmp 105) 3) 3,o 1 (.assign (.tmp 106)) 3] false)
 (.seq (.region 20 #[m 107 1 3,m 108 13 3,o 109 (.binOp .add 3 (.tmp 107) (.tmp 108) 3) 3,o 2 (.assign (.tmp 109)) 3] false)
 (.seq (.region 21 #[ld 110 10 25,o 111 (.build 29 #[(0,.tmp 110)]) 29,o 14 (.alloc 29) 0,nd (.store 29 (.tmp 14) (.tmp 111))] false)
 (.seq (.seq (.region 22 #[fa 112 25 10 1,ld 113 112 4,o 114 (.unOp .not 4 (.tmp 113)) 4] false)
 (.cond (.tmp 114)
 (.seq (.region 23 #[m 115 0 216,o 116 (.nilCheck (.tmp 115)) 0,fa 117 192 116 0,ld 118 117 26,m 119 1 3,m 120 2 3,o 121 (.slice 26 (.tmp 118) (some (.tmp 119)) (some (.tmp 120)) none) 26,cl 122 155 #[.tmp 121] #[26] 26,cl 123 131 #[.tmp 122] #[26] 26,fa 124 29 14 1,nd (.store 26 (.tmp 124) (.tmp 123))] false)
 (.seq (.region 24 #[ld 125 14 29,m 126 2 3,nd (.store 29 (.tmp 8) (.tmp 125)),o 9 (.assign (.tmp 126)) 3] false)
 .ret))
 .skip))
 (.seq (.block 2 (.loop (.seq (.seq (.region 25 #[m 127 1 3,m 128 2 3,o 129 (.binOp .lss 3 (.tmp 127) (.tmp 128) 3) 4] false)
 (.cond (.tmp 129)
 .skip
 (.exit 2)))
 (.block 3 (.seq (.region 26 #[o 15 (.alloc 29) 0] false)
 (.seq (.region 27 #[m 131 0 216,m 132 1 3,m 133 2 3,m 134 3 3,o 135 (.binOp .add 3 (.tmp 134) (ci 1) 3) 3,cl 136 133 #[.tmp 131,.tmp 132,.tmp 133,.tmp 135] #[216,3,3,3] 193,m 130 136 193,o 137 (.extract (.tmp 130) 0) 29,o 138 (.extract (.tmp 130) 1) 3,nd (.store 29 (.tmp 15) (.tmp 137)),o 1 (.assign (.tmp 138)) 3] false)
 (.region 28 #[fa 139 29 14 2,ld 140 139 27,ld 141 15 29,o 142 (.buildSlice 27 1 #[(0,.tmp 141)]) 27,o 143 (.call { callee:=.builtin .append,args:=#[.tmp 140,.tmp 142],argTypes:=#[27,27] }) 27,fa 144 29 14 2,nd (.store 27 (.tmp 144) (.tmp 143))] false)))))))
 (.seq (.region 29 #[fa 145 29 14 2,ld 146 145 27,cl 147 90 #[.tmp 146] #[27] 27,fa 148 29 14 2,nd (.store 27 (.tmp 148) (.tmp 147))] false)
 (.seq (.region 30 #[ld 149 14 29,m 150 2 3,nd (.store 29 (.tmp 8) (.tmp 149)),o 9 (.assign (.tmp 150)) 3] false)
 .ret))))))))))))))
def kp133:Nat → Option (List Nat)
  | 0 => some [0,1,2,3,8]
  | 1 => some [0,1,2,3,8,10,11,12]
  | 2 => some [0,1,2,3,8,10,11,12,28]
  | 3 => some [0,1,2,3,8,10,11]
  | 4 => some [0,1,2,3,8,10,11,12,35]
  | 5 => some [0,1,2,3,8,10,11]
  | 6 => some [0,1,2,3,8,10,11,42]
  | 7 => some [0,1,2,3,8,10,11]
  | 8 => some [0,1,2,3,8,10,11,48]
  | 9 => some [0,1,2,3,8,10,11]
  | 10 => some [0,1,2,3,8,10,11]
  | 11 => some [0,1,2,3,8,10]
  | 12 => some [0,1,2,3,8,10,11,12,13]
  | 13 => some [0,1,2,3,8,10,11,12,13,79]
  | 14 => some [0,1,3,8,10,11,13]
  | 15 => some [0,1,2,3,8,10,11,12,13,86]
  | 16 => some [0,1,3,8,10,11,13]
  | 17 => some [0,1,2,3,8,10,11,13,93]
  | 18 => some [0,1,3,8,10,11,13]
  | 19 => some [0,1,3,8,10,13]
  | 20 => some [0,1,2,3,8,10]
  | 21 => some [0,1,2,3,8,10,14]
  | 22 => some [0,1,2,3,8,14,114]
  | 23 => some [2,8,14]
  | 24 => some [8,9]
  | 25 => some [0,1,2,3,8,14,129]
  | 26 => some [0,1,2,3,8,14,15]
  | 27 => some [0,1,2,3,8,14,15]
  | 28 => some [0,1,2,3,8,14]
  | 29 => some [2,8,14]
  | 30 => some [8,9]
  | _ => none
def fn133:AFn:={ ntmps:=151,results:=[.cell 8 29,.tmp 9],body:=c133,keep:=kp133,head:=fun | 25 => some [0,1,2,3,8,14] | _ => none,opn:=opnT,dyn:=fun _ => [] }
def c134:Code :=
  (.seq (.region 0 #[o 1 (.box 29 (.tmp 0)) 0,o 2 (.assign (ci 0)) 3] false)
 (.seq (.region 1 #[ld 4 1 29,cl 5 156 #[.tmp 4] #[29] 3,o 3 (.assign (.tmp 5)) 3] false)
 (.seq (.seq (.region 2 #[m 6 3 3,o 7 (.binOp .gtr 3 (.tmp 6) (ci 1048576) 3) 4] false)
 (.cond (.tmp 7)
 (.seq (.region 3 #[m 8 3 3,o 2 (.assign (.tmp 8)) 3] false)
 .ret)
 .skip))
 (.seq (.region 4 #[fa 9 29 1 0,ld 10 9 25,cl 11 158 #[.tmp 10] #[25] 3,m 12 3 3,cl 13 157 #[.tmp 11,.tmp 12] #[3,3] 3,o 2 (.assign (.tmp 13)) 3] false)
 .ret))))
def kp134:Nat → Option (List Nat)
  | 0 => some [1]
  | 1 => some [1,3]
  | 2 => some [1,3,7]
  | 3 => some [2]
  | 4 => some [2]
  | _ => none
def fn134:AFn:={ ntmps:=14,results:=[.tmp 2],body:=c134,keep:=kp134,head:=fun  | _ => none,opn:=fun _ => none,dyn:=fun _ => [] }
def c135:Code :=
  (.seq (.region 0 #[o 3 (.box 29 (.tmp 1)) 0,o 4 (.assign (.const (.slice none 0 0))) 26] false)
 (.seq (.region 1 #[fa 12 29 3 0,ld 13 12 25,cl 14 159 #[.tmp 13] #[25] 94,m 11 14 94,o 15 (.extract (.tmp 11) 0) 26,o 16 (.extract (.tmp 11) 1) 39,o 5 (.assign (.tmp 15)) 26,o 6 (.assign (.tmp 16)) 39] false)
 (.seq (.region 2 #[ld 18 3 29,cl 19 156 #[.tmp 18] #[29] 3,cl 20 160 #[.tmp 19] #[3] 94,m 17 20 94,o 21 (.extract (.tmp 17) 0) 26,o 22 (.extract (.tmp 17) 1) 39,o 7 (.assign (.tmp 21)) 26,o 8 (.assign (.tmp 22)) 39] false)
 (.seq (.region 3 #[m 23 0 26,m 24 5 26,o 25 (.call { callee:=.builtin .append,args:=#[.tmp 23,.tmp 24],argTypes:=#[26,26] }) 26,m 26 7 26,o 27 (.call { callee:=.builtin .append,args:=#[.tmp 25,.tmp 26],argTypes:=#[26,26] }) 26,o 0 (.assign (.tmp 27)) 26] false)
 (.seq (.region 4 #[m 28 0 26,fa 29 29 3 1,ld 30 29 26,o 31 (.call { callee:=.builtin .append,args:=#[.tmp 28,.tmp 30],argTypes:=#[26,26] }) 26,o 0 (.assign (.tmp 31)) 26] false)
 (.seq (.seq (.region 5 #[fa 32 29 3 2,ld 33 32 27,o 34 (.call { callee:=.builtin .len,args:=#[.tmp 33],argTypes:=#[27] }) 3,o 35 (.move (ci 0)) 3] false)
 (.block 0 (.loop (.seq (.region 6 #[o 36 (.binOp .lss 3 (.tmp 35) (.tmp 34) 3) 0] false)
 (.seq (.cond (.tmp 36)
 .skip
 (.exit 0))
 (.seq (.block 1 (.seq (.region 7 #[o 37 (.indexAddr 27 (.tmp 33) (.tmp 35)) 0,ld 38 37 29,o 10 (.alloc 29) 0,nd (.store 29 (.tmp 10) (.tmp 38))] false)
 (.region 8 #[m 39 0 26,ld 40 10 29,cl 41 135 #[.tmp 39,.tmp 40] #[26,29] 26,o 0 (.assign (.tmp 41)) 26] false)))
 (.region 9 #[o 42 (.binOp .add 3 (.tmp 35) (ci 1) 3) 3,m 35 42 3] false)))))))
 (.seq (.region 10 #[m 43 0 26,o 4 (.assign (.tmp 43)) 26] false)
 .ret)))))))
def kp135:Nat → Option (List Nat)
  | 0 => some [0,3]
  | 1 => some [0,3,5]
  | 2 => some [0,3,5,7]
  | 3 => some [0,3]
  | 4 => some [0,3]
  | 5 => some [0,33,34,35]
  | 6 => some [0,33,34,35,36]
  | 7 => some [0,10,33,34,35]
  | 8 => some [0,33,34,35]
  | 9 => some [0,33,34,35]
  | 10 => some [4]
  | _ => none
def fn135:AFn:={ ntmps:=44,results:=[.tmp 4],body:=c135,keep:=kp135,head:=fun | 6 => some [0,33,34,35] | _ => none,opn:=opnT,dyn:=fun _ => [] }
def c140:Code :=
  (.seq (.region 0 #[o 2 (.box 29 (.tmp 0)) 0,o 4 (.assign (ci 0)) 3,o 5 (.assign (ci 0)) 39] false)
 (.seq (.seq (.region 1 #[ld 14 2 29,cl 15 95 #[.tmp 14] #[29] 94,m 13 15 94,o 16 (.extract (.tmp 13) 0) 26,o 17 (.extract (.tmp 13) 1) 39,o 6 (.assign (.tmp 16)) 26,o 7 (.assign (.tmp 17)) 39] false)
 (.seq (.region 2 #[m 18 7 39,o 19 (.binOp .neq 39 (.tmp 18) (ci 0) 39) 4] false)
 (.cond (.tmp 19)
 (.seq (.region 3 #[m 20 7 39,o 4 (.assign (ci 0)) 3,o 5 (.assign (.tmp 20)) 39] false)
 .ret)
 .skip)))
 (.seq (.region 4 #[o 8 (.assign (ci 0)) 3] false)
 (.seq (.seq (.region 5 #[m 21 1 38,o 22 (.call { callee:=.builtin .len,args:=#[.tmp 21],argTypes:=#[38] }) 3,o 23 (.move (ci 0)) 3] false)
 (.block 0 (.loop (.seq (.region 6 #[o 24 (.binOp .lss 3 (.tmp 23) (.tmp 22) 3) 0] false)
 (.seq (.cond (.tmp 24)
 .skip
 (.exit 0))
 (.seq (.block 1 (.seq (.region 7 #[o 25 (.indexAddr 38 (.tmp 21) (.tmp 23)) 0,ld 26 25 3,o 10 (.assign (.tmp 26)) 3] false)
 (.seq (.region 8 #[ld 28 2 29,m 29 10 3,cl 30 147 #[.tmp 28,.tmp 29] #[29,3] 208,m 27 30 208,o 31 (.extract (.tmp 27) 0) 29,o 32 (.extract (.tmp 27) 1) 4,o 11 (.alloc 29) 0,nd (.store 29 (.tmp 11) (.tmp 31)),o 12 (.assign (.tmp 32)) 4] false)
 (.seq (.seq (.region 9 #[m 33 12 4,o 34 (.unOp .not 4 (.tmp 33)) 4] false)
 (.cond (.tmp 34)
 (.seq (.region 10 #[o 4 (.assign (ci 0)) 3,o 5 (.assign (ci 19)) 39] false)
 .ret)
 .skip))
 (.seq (.region 11 #[m 35 8 3,ld 36 2 29,⟨some 37,.buildSlice 27 1 #[(0,.tmp 36)],27, "",fz,none⟩,cl 38 161 #[.tmp 37] #[27] 3,fa 39 29 2 2,ld 40 39 27,m 41 10 3,o 42 (.slice 27 (.tmp 40) (some (.tmp 41)) none none) 27,cl 43 161 #[.tmp 42] #[27] 3,o 44 (.binOp .sub 3 (.tmp 38) (.tmp 43) 3) 3,o 45 (.binOp .add 3 (.tmp 35) (.tmp 44) 3) 3,o 8 (.assign (.tmp 45)) 3] true)
 (.region 12 #[ld 46 11 29,nd (.store 29 (.tmp 2) (.tmp 46))] false))))))
 (.region 13 #[o 47 (.binOp .add 3 (.tmp 23) (ci 1) 3) 3,m 23 47 3] false)))))))
 (.seq (.region 14 #[m 48 8 3,o 4 (.assign (.tmp 48)) 3,o 5 (.assign (ci 0)) 39] false)
 .ret)))))
def kp140:Nat → Option (List Nat)
  | 0 => some [1,2]
  | 1 => some [1,2,7]
  | 2 => some [1,2,7,19]
  | 3 => some [4,5]
  | 4 => some [1,2,8]
  | 5 => some [2,8,21,22,23]
  | 6 => some [2,8,21,22,23,24]
  | 7 => some [2,8,10,21,22,23]
  | 8 => some [2,8,10,11,12,21,22,23]
  | 9 => some [2,8,10,11,21,22,23,34]
  | 10 => some [4,5]
  | 11 => some [2,8,11,21,22,23]
  | 12 => some [2,8,21,22,23]
  | 13 => some [2,8,21,22,23]
  | 14 => some [4,5]
  | _ => none
def fn140:AFn:={ ntmps:=49,results:=[.tmp 4,.tmp 5],body:=c140,keep:=kp140,head:=fun | 6 => some [2,8,21,22,23] | _ => none,opn:=fun _ => none,dyn:=fun _ => [] }
def c147:Code :=
  (.seq (.region 0 #[o 2 (.box 29 (.tmp 0)) 0,o 4 (.alloc 29) 0,o 5 (.assign (.const (.bool false))) 4] false)
 (.seq (.seq (.region 1 #[m 6 1 3,o 7 (.binOp .lss 3 (.tmp 6) (ci 0) 3) 4,m 8 7 4,gd 9 (.move (.tmp 1)) 3 8 false,gd 10 (.fieldAddr 29 (.tmp 2) 2) 0 8 false,gd 11 (.load 27 (.tmp 10)) 27 8 false,gd 12 (.call { callee:=.builtin .len,args:=#[.tmp 11],argTypes:=#[27] }) 3 8 false,gd 13 (.binOp .geq 3 (.tmp 9) (.tmp 12) 3) 4 8 false,o 14 (.pick (.tmp 8) (.const (.bool true)) (.tmp 13)) 4] false)
 (.cond (.tmp 14)
 (.seq (.region 2 #[o 15 (.build 29 #[]) 29,nd (.store 29 (.tmp 4) (.tmp 15)),o 5 (.assign (.const (.bool false))) 4] false)
 .ret)
 .skip))
 (.seq (.region 3 #[fa 16 29 2 2,ld 17 16 27,m 18 1 3,o 19 (.indexAddr 27 (.tmp 17) (.tmp 18)) 0,ld 20 19 29,nd (.store 29 (.tmp 4) (.tmp 20)),o 5 (.assign (.const (.bool true))) 4] false)
 .ret)))
def kp147:Nat → Option (List Nat)
  | 0 => some [1,2,4]
  | 1 => some [1,2,4,14]
  | 2 => some [4,5]
  | 3 => some [4,5]
  | _ => none
def fn147:AFn:={ ntmps:=21,results:=[.cell 4 29,.tmp 5],body:=c147,keep:=kp147,head:=fun  | _ => none,opn:=fun _ => none,dyn:=fun _ => [] }
def c152:Code :=
  (.seq (.region 0 #[o 4 (.box 29 (.tmp 0)) 0,o 6 (.assign (ci 0)) 39] false)
 (.seq (.seq (.region 1 #[ld 11 2 174,ld 12 4 29,m 13 1 3,o 14 (.call { callee:=.value (.tmp 11),args:=#[.tmp 12,.tmp 13],argTypes:=#[29,3] }) 39,o 7 (.assign (.tmp 14)) 39] false)
 (.seq (.region 2 #[m 15 7 39,o 16 (.binOp .neq 39 (.tmp 15) (ci 0) 39) 4] false)
 (.cond (.tmp 16)
 (.seq (.region 3 #[m 17 7 39,o 6 (.assign (.tmp 17)) 39] false)
 .ret)
 .skip)))
 (.seq (.seq (.region 4 #[fa 18 29 4 2,ld 19 18 27,o 20 (.call { callee:=.builtin .len,args:=#[.tmp 19],argTypes:=#[27] }) 3,o 21 (.move (ci 0)) 3] false)
 (.block 0 (.loop (.seq (.region 5 #[o 22 (.binOp .lss 3 (.tmp 21) (.tmp 20) 3) 0] false)
 (.seq (.cond (.tmp 22)
 .skip
 (.exit 0))
 (.seq (.block 1 (.seq (.region 6 #[o 23 (.indexAddr 27 (.tmp 19) (.tmp 21)) 0,ld 24 23 29,o 9 (.alloc 29) 0,nd (.store 29 (.tmp 9) (.tmp 24))] false)
 (.seq (.region 7 #[ld 25 3 174,ld 26 9 29,m 27 1 3,o 28 (.binOp .add 3 (.tmp 27) (ci 1) 3) 3,o 29 (.call { callee:=.value (.tmp 25),args:=#[.tmp 26,.tmp 28],argTypes:=#[29,3] }) 39,o 10 (.assign (.tmp 29)) 39] false)
 (.seq (.region 8 #[m 30 10 39,o 31 (.binOp .neq 39 (.tmp 30) (ci 0) 39) 4] false)
 (.cond (.tmp 31)
 (.seq (.region 9 #[m 32 10 39,o 6 (.assign (.tmp 32)) 39] false)
 .ret)
 .skip)))))
 (.region 10 #[o 33 (.binOp .add 3 (.tmp 21) (ci 1) 3) 3,m 21 33 3] false)))))))
 (.seq (.region 11 #[o 6 (.assign (ci 0)) 39] false)
 .ret))))
def kp152:Nat → Option (List Nat)
  | 0 => some [1,2,3,4]
  | 1 => some [1,3,4,7]
  | 2 => some [1,3,4,7,16]
  | 3 => some [6]
  | 4 => some [1,3,19,20,21]
  | 5 => some [1,3,19,20,21,22]
  | 6 => some [1,3,9,19,20,21]
  | 7 => some [1,3,10,19,20,21]
  | 8 => some [1,3,10,19,20,21,31]
  | 9 => some [6]
  | 10 => some [1,3,19,20,21]
  | 11 => some [6]
  | _ => none
def fn152:AFn:={ ntmps:=34,results:=[.tmp 6],body:=c152,keep:=kp152,head:=fun | 5 => some [1,3,19,20,21] | _ => none,opn:=opnT,dyn:=fun _ => [] }
def c153:Code :=
  (.seq (.region 0 #[o 2 (.alloc 25) 0,o 3 (.assign (ci 0)) 3,o 4 (.assign (ci 0)) 39] false)
 (.seq (.seq (.region 1 #[m 5 0 26,o 6 (.call { callee:=.builtin .len,args:=#[.tmp 5],argTypes:=#[26] }) 3,o 7 (.binOp .eql 3 (.tmp 6) (ci 0) 3) 4] false)
 (.cond (.tmp 7)
 (.seq (.region 2 #[o 8 (.build 25 #[]) 25,nd (.store 25 (.tmp 2) (.tmp 8)),o 3 (.assign (ci 0)) 3,o 4 (.assign (ci 7)) 39] false)
 .ret)
 .skip))
 (.seq (.region 3 #[m 9 0 26,o 10 (.indexAddr 26 (.tmp 9) (ci 0)) 0,ld 11 10 5,o 12 (.binOp .shr 5 (.tmp 11) (.const (.int .u64 6)) 168) 5,m 13 0 26,o 14 (.indexAddr 26 (.tmp 13) (ci 0)) 0,ld 15 14 5,o 16 (.binOp .and 5 (.tmp 15) (.const (.int .u8 32)) 5) 5,o 17 (.binOp .neq 5 (.tmp 16) (.const (.int .u8 0)) 5) 4,m 18 0 26,o 19 (.indexAddr 26 (.tmp 18) (ci 0)) 0,ld 20 19 5,o 21 (.binOp .and 5 (.tmp 20) (.const (.int .u8 31)) 5) 5,o 22 (.convert 5 23 (.tmp 21)) 23,o 23 (.build 25 #[(0,.tmp 12),(1,.tmp 17),(2,.tmp 22)]) 25,nd (.store 25 (.tmp 2) (.tmp 23))] true)
 (.seq (.region 4 #[o 3 (.assign (ci 1)) 3] false)
 (.seq (.seq (.region 5 #[fa 24 25 2 2,ld 25 24 23,o 26 (.binOp .eql 23 (.tmp 25) (.const (.int .u32 31)) 23) 4] false)
 (.cond (.tmp 26)
 (.region 6 #[m 28 0 26,cl 29 167 #[.tmp 28] #[26] 227,m 27 29 227,o 30 (.extract (.tmp 27) 0) 23,o 31 (.extract (.tmp 27) 1) 3,o 32 (.extract (.tmp 27) 2) 39,fa 33 25 2 2,nd (.store 23 (.tmp 33) (.tmp 30)),o 3 (.assign (.tmp 31)) 3,o 4 (.assign (.tmp 32)) 39] false)
 .skip))
 (.seq (.seq (.region 7 #[m 34 4 39,o 35 (.binOp .eql 39 (.tmp 34) (ci 0) 39) 4] false)
 (.cond (.tmp 35)
 (.region 8 #[ld 36 2 25,cl 37 121 #[.tmp 36] #[25] 39,o 4 (.assign (.tmp 37)) 39] false)
 .skip))
 (.seq (.seq (.region 9 #[m 38 4 39,o 39 (.binOp .neq 39 (.tmp 38) (ci 0) 39) 4] false)
 (.cond (.tmp 39)
 (.seq (.region 10 #[o 40 (.build 25 #[]) 25,m 41 4 39,nd (.store 25 (.tmp 2) (.tmp 40)),o 3 (.assign (ci 0)) 3,o 4 (.assign (.tmp 41)) 39] false)
 .ret)
 .skip))
 (.seq (.region 11 #[ld 42 2 25,m 43 3 3,nd (.store 25 (.tmp 2) (.tmp 42)),o 3 (.assign (.tmp 43)) 3,o 4 (.assign (ci 0)) 39] false)
 .ret))))))))
def kp153:Nat → Option (List Nat)
  | 0 => some [0,2,4]
  | 1 => some [0,2,4,7]
  | 2 => some [2,3,4]
  | 3 => some [0,2,4]
  | 4 => some [0,2,3,4]
  | 5 => some [0,2,3,4,26]
  | 6 => some [2,3,4]
  | 7 => some [2,3,4,35]
  | 8 => some [2,3,4]
  | 9 => some [2,3,4,39]
  | 10 => some [2,3,4]
  | 11 => some [2,3,4]
  | _ => none
def fn153:AFn:={ ntmps:=44,results:=[.cell 2 25,.tmp 3,.tmp 4],body:=c153,keep:=kp153,head:=fun  | _ => none,opn:=fun _ => none,dyn:=fun _ => [] }
def c154:Code :=
  (.seq (.region 0 #[o 2 (.assign (ci 0)) 3,o 3 (.assign (ci 0)) 3,o 4 (.assign (ci 0)) 39] false)
 (.seq (.seq (.region 1 #[m 7 0 26,o 8 (.call { callee:=.builtin .len,args:=#[.tmp 7],argTypes:=#[26] }) 3,o 9 (.binOp .eql 3 (.tmp 8) (ci 0) 3) 4] false)
 (.cond (.tmp 9)
 (.seq (.region 2 #[o 2 (.assign (ci 0)) 3,o 3 (.assign (ci 0)) 3,o 4 (.assign (ci 7)) 39] false)
 .ret)
 .skip))
 (.seq (.seq (.region 3 #[m 10 0 26,o 11 (.indexAddr 26 (.tmp 10) (ci 0)) 0,ld 12 11 5,o 13 (.binOp .leq 5 (.tmp 12) (.const (.int .u8 127)) 5) 4] false)
 (.cond (.tmp 13)
 (.seq (.region 4 #[m 14 0 26,o 15 (.indexAddr 26 (.tmp 14) (ci 0)) 0,ld 16 15 5,o 17 (.convert 5 3 (.tmp 16)) 3,o 2 (.assign (.tmp 17)) 3,o 3 (.assign (ci 1)) 3,o 4 (.assign (ci 0)) 39] false)
 .ret)
 .skip))
 (.seq (.region 5 #[o 5 (.alloc 230) 0] false)
 (.seq (.region 6 #[m 18 0 26,o 19 (.indexAddr 26 (.tmp 18) (ci 0)) 0,ld 20 19 5,o 21 (.convert 5 3 (.tmp 20)) 3,o 22 (.binOp .sub 3 (.tmp 21) (ci 128) 3) 3,o 6 (.assign (.tmp 22)) 3] false)
 (.seq (.block 0 (.seq (.region 7 #[m 24 6 3,o 25 (.binOp .eql 3 (.tmp 24) (ci 0) 3) 4,m 26 25 4,gd 27 (.move (.tmp 6)) 3 26 false,gd 28 (.binOp .gtr 3 (.tmp 27) (ci 3) 3) 4 26 false,o 29 (.pick (.tmp 26) (.const (.bool true)) (.tmp 28)) 4,o 23 (.assign (.tmp 29)) 4] false)
 (.cond (.tmp 23)
 (.seq (.region 8 #[o 2 (.assign (ci 0)) 3,o 3 (.assign (ci 0)) 3,o 4 (.assign (ci 10)) 39] false)
 .ret)
 (.seq (.region 9 #[m 31 0 26,o 32 (.call { callee:=.builtin .len,args:=#[.tmp 31],argTypes:=#[26] }) 3,m 33 6 3,o 34 (.binOp .leq 3 (.tmp 32) (.tmp 33) 3) 4,o 30 (.assign (.tmp 34)) 4] false)
 (.cond (.tmp 30)
 (.seq (.region 10 #[o 2 (.assign (ci 0)) 3,o 3 (.assign (ci 0)) 3,o 4 (.assign (ci 7)) 39] false)
 .ret)
 .skip)))))
 (.seq (.region 11 #[m 35 6 3,o 36 (.binOp .sub 3 (ci 3) (.tmp 35) 3) 3,o 37 (.slice 230 (.tmp 5) (some (.tmp 36)) none none) 26,m 38 0 26,o 39 (.slice 26 (.tmp 38) (some (ci 1)) none none) 26,o 40 (.call { callee:=.builtin .copy,args:=#[.tmp 37,.tmp 39],argTypes:=#[26,26] }) 3] true)
 (.seq (.region 12 #[o 41 (.indexAddr 230 (.tmp 5) (ci 0)) 0,ld 42 41 5,o 43 (.convert 5 3 (.tmp 42)) 3,o 44 (.binOp .shl 3 (.tmp 43) (.const (.int .u64 16)) 168) 3,o 45 (.indexAddr 230 (.tmp 5) (ci 1)) 0,ld 46 45 5,o 47 (.convert 5 3 (.tmp 46)) 3,o 48 (.binOp .shl 3 (.tmp 47) (.const (.int .u64 8)) 168) 3,o 49 (.binOp .or 3 (.tmp 44) (.tmp 48) 3) 3,o 50 (.indexAddr 230 (.tmp 5) (ci 2)) 0,ld 51 50 5,o 52 (.convert 5 3 (.tmp 51)) 3,o 53 (.binOp .or 3 (.tmp 49) (.tmp 52) 3) 3,o 2 (.assign (.tmp 53)) 3] false)
 (.seq (.seq (.region 13 #[m 54 0 26,o 55 (.indexAddr 26 (.tmp 54) (ci 1)) 0,ld 56 55 5,o 57 (.binOp .eql 5 (.tmp 56) (.const (.int .u8 0)) 5) 4,m 58 57 4,gd 59 (.move (.tmp 2)) 3 58 false,gd 60 (.binOp .leq 3 (.tmp 59) (ci 127) 3) 4 58 false,o 61 (.pick (.tmp 58) (.const (.bool true)) (.tmp 60)) 4] false)
 (.cond (.tmp 61)
 (.seq (.region 14 #[o 2 (.assign (ci 0)) 3,o 3 (.assign (ci 0)) 3,o 4 (.assign (ci 10)) 39] false)
 .ret)
 .skip))
 (.seq (.region 15 #[m 62 2 3,m 63 6 3,o 64 (.binOp .add 3 (.tmp 63) (ci 1) 3) 3,o 2 (.assign (.tmp 62)) 3,o 3 (.assign (.tmp 64)) 3,o 4 (.assign (ci 0)) 39] false)
 .ret))))))))))
def kp154:Nat → Option (List Nat)
  | 0 => some [0]
  | 1 => some [0,9]
  | 2 => some [2,3,4]
  | 3 => some [0,13]
  | 4 => some [2,3,4]
  | 5 => some [0,5]
  | 6 => some [0,5,6]
  | 7 => some [0,5,6,23]
  | 8 => some [2,3,4]
  | 9 => some [0,5,6,30]
  | 10 => some [2,3,4]
  | 11 => some [0,5,6]
  | 12 => some [0,2,6]
  | 13 => some [2,6,61]
  | 14 => some [2,3,4]
  | 15 => some [2,3,4]
  | _ => none
def fn154:AFn:={ ntmps:=65,results:=[.tmp 2,.tmp 3,.tmp 4],body:=c154,keep:=kp154,head:=fun  | _ => none,opn:=fun _ => none,dyn:=fun _ => [] }
def c155:Code :=
  (.seq (.region 0 #[o 2 (.assign (.const (.slice none 0 0))) 26] false)
 (.seq (.seq (.region 1 #[m 3 0 26,o 4 (.binOp .eql 26 (.tmp 3) (.const (.slice none 0 0)) 26) 4] false)
 (.cond (.tmp 4)
 (.seq (.region 2 #[o 2 (.assign (.const (.slice none 0 0))) 26] false)
 .ret)
 .skip))
 (.seq (.region 3 #[o 5 (.buildSlice 26 0 #[]) 26,m 6 0 26,o 7 (.call { callee:=.builtin .append,args:=#[.tmp 5,.tmp 6],argTypes:=#[26,26] }) 26,o 2 (.assign (.tmp 7)) 26] false)
 .ret)))
def kp155:Nat → Option (List Nat)
  | 0 => some [0]
  | 1 => some [0,4]
  | 2 => some [2]
  | 3 => some [2]
  | _ => none
def fn155:AFn:={ ntmps:=8,results:=[.tmp 2],body:=c155,keep:=kp155,head:=fun  | _ => none,opn:=fun _ => none,dyn:=fun _ => [] }
def c156:Code :=
  (.seq (.region 0 #[o 1 (.box 29 (.tmp 0)) 0,o 2 (.assign (ci 0)) 3] false)
 (.seq (.seq (.region 1 #[fa 6 29 1 0,fa 7 25 6 1,ld 8 7 4,o 9 (.unOp .not 4 (.tmp 8)) 4] false)
 (.cond (.tmp 9)
 (.seq (.region 2 #[fa 10 29 1 1,ld 11 10 26,o 12 (.call { callee:=.builtin .len,args:=#[.tmp 11],argTypes:=#[26] }) 3,o 2 (.assign (.tmp 12)) 3] false)
 .ret)
 .skip))
 (.seq (.region 3 #[o 3 (.assign (ci 0)) 3] false)
 (.seq (.seq (.region 4 #[fa 13 29 1 2,ld 14 13 27,o 15 (.call { callee:=.builtin .len,args:=#[.tmp 14],argTypes:=#[27] }) 3,o 16 (.move (ci 0)) 3] false)
 (.block 0 (.loop (.seq (.region 5 #[o 17 (.binOp .lss 3 (.tmp 16) (.tmp 15) 3) 0] false)
 (.seq (.cond (.tmp 17)
 .skip
 (.exit 0))
 (.seq (.block 1 (.seq (.region 6 #[o 18 (.indexAddr 27 (.tmp 14) (.tmp 16)) 0,ld 19 18 29,o 5 (.alloc 29) 0,nd (.store 29 (.tmp 5) (.tmp 19))] false)
 (.region 7 #[m 20 3 3,ld 21 5 29,cl 22 134 #[.tmp 21] #[29] 3,o 23 (.binOp .add 3 (.tmp 20) (.tmp 22) 3) 3,o 24 (.call { callee:=.builtin .min,args:=#[.tmp 23,.const (.int .i64 1048577)],argTypes:=#[3,3] }) 3,o 3 (.assign (.tmp 24)) 3] false)))
 (.region 8 #[o 25 (.binOp .add 3 (.tmp 16) (ci 1) 3) 3,m 16 25 3] false)))))))
 (.seq (.region 9 #[m 26 3 3,o 2 (.assign (.tmp 26)) 3] false)
 .ret)))))
def kp156:Nat → Option (List Nat)
  | 0 => some [1]
  | 1 => some [1,9]
  | 2 => some [2]
  | 3 => some [1,3]
  | 4 => some [3,14,15,16]
  | 5 => some [3,14,15,16,17]
  | 6 => some [3,5,14,15,16]
  | 7 => some [3,14,15,16]
  | 8 => some [3,14,15,16]
  | 9 => some [2]
  | _ => none
def fn156:AFn:={ ntmps:=27,results:=[.tmp 2],body:=c156,keep:=kp156,head:=fun | 5 => some [3,14,15,16] | _ => none,opn:=fun _ => none,dyn:=fun _ => [] }
def c157:Code :=
  (.seq (.region 0 #[o 4 (.assign (ci 0)) 3] false)
 (.seq (.seq (.region 1 #[m 5 0 3,o 6 (.binOp .lss 3 (.tmp 5) (ci 1) 3) 4,m 7 6 4,gd 8 (.move (.tmp 0)) 3 7 false,gd 9 (.binOp .gtr 3 (.tmp 8) (ci 5) 3) 4 7 false,o 10 (.pick (.tmp 7) (.const (.bool true)) (.tmp 9)) 4,m 11 10 4,gd 12 (.move (.tmp 1)) 3 11 false,gd 13 (.call { callee:=.value (.func 168),args:=#[.tmp 12],argTypes:=#[3] }) 3 11 false,gd 14 (.binOp .eql 3 (.tmp 13) (ci 0) 3) 4 11 false,o 15 (.pick (.tmp 11) (.const (.bool true)) (.tmp 14)) 4] false)
 (.cond (.tmp 15)
 (.seq (.region 2 #[o 4 (.assign (ci 0)) 3] false)
 .ret)
 .skip))
 (.seq (.region 3 #[m 16 0 3,m 17 1 3,cl 18 168 #[.tmp 17] #[3] 3,o 19 (.binOp .add 3 (.tmp 16) (.tmp 18) 3) 3,m 20 1 3,o 21 (.binOp .add 3 (.tmp 19) (.tmp 20) 3) 3,o 4 (.assign (.tmp 21)) 3] false)
 .ret)))
def kp157:Nat → Option (List Nat)
  | 0 => some [0,1]
  | 1 => some [0,1,15]
  | 2 => some [4]
  | 3 => some [4]
  | _ => none
def fn157:AFn:={ ntmps:=22,results:=[.tmp 4],body:=c157,keep:=kp157,head:=fun  | _ => none,opn:=fun _ => none,dyn:=fun _ => [] }
def c158:Code :=
  (.seq (.region 0 #[o 1 (.box 25 (.tmp 0)) 0,o 2 (.assign (ci 0)) 3] false)
 (.seq (.region 1 #[ld 6 1 25,cl 7 159 #[.tmp 6] #[25] 94,m 5 7 94,o 8 (.extract (.tmp 5) 0) 26,o 9 (.extract (.tmp 5) 1) 39,o 3 (.assign (.tmp 8)) 26,o 4 (.assign (.tmp 9)) 39] false)
 (.seq (.region 2 #[m 10 3 26,o 11 (.call { callee:=.builtin .len,args:=#[.tmp 10],argTypes:=#[26] }) 3,o 2 (.assign (.tmp 11)) 3] false)
 .ret)))
def kp158:Nat → Option (List Nat)
  | 0 => some [1]
  | 1 => some [3]
  | 2 => some [2]
  | _ => none
def fn158:AFn:={ ntmps:=12,results:=[.tmp 2],body:=c158,keep:=kp158,head:=fun  | _ => none,opn:=fun _ => none,dyn:=fun _ => [] }
def c159:Code :=
  (.seq (.region 0 #[o 1 (.box 25 (.tmp 0)) 0,o 2 (.assign (.const (.slice none 0 0))) 26,o 3 (.assign (ci 0)) 39] false)
 (.seq (.seq (.region 1 #[ld 8 1 25,cl 9 121 #[.tmp 8] #[25] 39,o 4 (.assign (.tmp 9)) 39] false)
 (.seq (.region 2 #[m 10 4 39,o 11 (.binOp .neq 39 (.tmp 10) (ci 0) 39) 4] false)
 (.cond (.tmp 11)
 (.seq (.region 3 #[m 12 4 39,o 2 (.assign (.const (.slice none 0 0))) 26,o 3 (.assign (.tmp 12)) 39] false)
 .ret)
 .skip)))
 (.seq (.region 4 #[fa 13 25 1 0,ld 14 13 22,o 15 (.binOp .shl 5 (.tmp 14) (.const (.int .u64 6)) 168) 5,o 5 (.assign (.tmp 15)) 5] false)
 (.seq (.seq (.region 5 #[fa 16 25 1 1,ld 17 16 4] false)
 (.cond (.tmp 17)
 (.region 6 #[m 18 5 5,o 19 (.binOp .or 5 (.tmp 18) (.const (.int .u8 32)) 5) 5,o 5 (.assign (.tmp 19)) 5] false)
 .skip))
 (.seq (.seq (.region 7 #[fa 20 25 1 2,ld 21 20 23,o 22 (.binOp .lss 23 (.tmp 21) (.const (.int .u32 31)) 23) 4] false)
 (.cond (.tmp 22)
 (.seq (.region 8 #[m 23 5 5,fa 24 25 1 2,ld 25 24 23,o 26 (.convert 23 5 (.tmp 25)) 5,o 27 (.binOp .or 5 (.tmp 23) (.tmp 26) 5) 5,o 28 (.buildSlice 26 1 #[(0,.tmp 27)]) 26,o 2 (.assign (.tmp 28)) 26,o 3 (.assign (ci 0)) 39] false)
 .ret)
 .skip))
 (.seq (.region 9 #[m 29 5 5,o 30 (.binOp .or 5 (.tmp 29) (.const (.int .u8 31)) 5) 5,o 31 (.buildSlice 26 1 #[(0,.tmp 30)]) 26,o 6 (.alloc 26) 0,nd (.store 26 (.tmp 6) (.tmp 31))] false)
 (.seq (.seq (.region 10 #[fa 32 25 1 2,ld 33 32 23,cl 34 169 #[.tmp 33] #[23] 214] false)
 (.block 0 (.refuse "")))
 (.seq (.region 13 #[ld 40 6 26,cl 41 131 #[.tmp 40] #[26] 26,o 2 (.assign (.tmp 41)) 26,o 3 (.assign (ci 0)) 39] false)
 .ret))))))))
def kp159:Nat → Option (List Nat)
  | 0 => some [1,35]
  | 1 => some [1,4,35]
  | 2 => some [1,4,11,35]
  | 3 => some [2,3]
  | 4 => some [1,5,35]
  | 5 => some [1,5,17,35]
  | 6 => some [1,5,35]
  | 7 => some [1,5,22,35]
  | 8 => some [2,3]
  | 9 => some [1,6,35]
  | 10 => some [6,34,35]
  | 11 => some [6,7,35]
  | 12 => some [6,35]
  | 13 => some [2,3]
  | _ => none
def fn159:AFn:={ ntmps:=42,results:=[.tmp 2,.tmp 3],body:=c159,keep:=kp159,head:=fun  | _ => none,opn:=fun _ => none,dyn:=fun _ => [] }
def c160:Code :=
  (.seq (.region 0 #[o 2 (.assign (.const (.slice none 0 0))) 26,o 3 (.assign (ci 0)) 39] false)
 (.seq (.block 0 (.seq (.region 1 #[m 6 0 3,o 7 (.binOp .lss 3 (.tmp 6) (ci 0) 3) 4,o 5 (.assign (.tmp 7)) 4] false)
 (.cond (.tmp 5)
 (.seq (.region 2 #[o 2 (.assign (.const (.slice none 0 0))) 26,o 3 (.assign (ci 1)) 39] false)
 .ret)
 (.seq (.region 3 #[m 9 0 3,o 10 (.binOp .gtr 3 (.tmp 9) (ci 16777215) 3) 4,o 8 (.assign (.tmp 10)) 4] false)
 (.cond (.tmp 8)
 (.seq (.region 4 #[o 2 (.assign (.const (.slice none 0 0))) 26,o 3 (.assign (ci 3)) 39] false)
 .ret)
 (.seq (.region 5 #[m 12 0 3,o 13 (.binOp .leq 3 (.tmp 12) (ci 127) 3) 4,o 11 (.assign (.tmp 13)) 4] false)
 (.cond (.tmp 11)
 (.seq (.region 6 #[m 14 0 3,o 15 (.convert 3 5 (.tmp 14)) 5,o 16 (.buildSlice 26 1 #[(0,.tmp 15)]) 26,o 2 (.assign (.tmp 16)) 26,o 3 (.assign (ci 0)) 39] false)
 .ret)
 .skip)))))))
 (.seq (.region 7 #[o 17 (.buildSlice 26 1 #[(0,.const (.int .u8 0))]) 26,o 4 (.assign (.tmp 17)) 26] false)
 (.seq (.block 1 (.seq (.block 4 (.seq (.block 3 (.seq (.block 2 (.seq (.seq (.seq (.region 8 #[m 19 0 3,o 20 (.binOp .gtr 3 (.tmp 19) (ci 65535) 3) 4,o 18 (.assign (.tmp 20)) 4] false)
 (.cond (.tmp 18)
 (.exit 2)
 .skip))
 (.seq (.region 9 #[m 22 0 3,o 23 (.binOp .gtr 3 (.tmp 22) (ci 255) 3) 4,o 21 (.assign (.tmp 23)) 4] false)
 (.cond (.tmp 21)
 (.exit 3)
 .skip)))
 (.exit 4)))
 (.region 10 #[m 24 4 26,m 25 0 3,o 26 (.binOp .shr 3 (.tmp 25) (.const (.int .u64 16)) 168) 3,o 27 (.convert 3 5 (.tmp 26)) 5,o 28 (.buildSlice 26 1 #[(0,.tmp 27)]) 26,o 29 (.call { callee:=.builtin .append,args:=#[.tmp 24,.tmp 28],argTypes:=#[26,26] }) 26,o 4 (.assign (.tmp 29)) 26] false)))
 (.region 11 #[m 30 4 26,m 31 0 3,o 32 (.binOp .shr 3 (.tmp 31) (.const (.int .u64 8)) 168) 3,o 33 (.convert 3 5 (.tmp 32)) 5,o 34 (.buildSlice 26 1 #[(0,.tmp 33)]) 26,o 35 (.call { callee:=.builtin .append,args:=#[.tmp 30,.tmp 34],argTypes:=#[26,26] }) 26,o 4 (.assign (.tmp 35)) 26] false)))
 (.seq (.region 12 #[m 36 4 26,m 37 0 3,o 38 (.convert 3 5 (.tmp 37)) 5,o 39 (.buildSlice 26 1 #[(0,.tmp 38)]) 26,o 40 (.call { callee:=.builtin .append,args:=#[.tmp 36,.tmp 39],argTypes:=#[26,26] }) 26,o 4 (.assign (.tmp 40)) 26] false)
 (.exit 1))))
 (.seq (.region 13 #[m 41 4 26,m 42 4 26,o 43 (.call { callee:=.builtin .len,args:=#[.tmp 42],argTypes:=#[26] }) 3,o 44 (.binOp .sub 3 (.tmp 43) (ci 1) 3) 3,o 45 (.convert 3 5 (.tmp 44)) 5,o 46 (.binOp .add 5 (.const (.int .u8 128)) (.tmp 45) 5) 5,o 47 (.indexAddr 26 (.tmp 41) (ci 0)) 0,nd (.store 5 (.tmp 47) (.tmp 46))] false)
 (.seq (.region 14 #[m 48 4 26,cl 49 131 #[.tmp 48] #[26] 26,o 2 (.assign (.tmp 49)) 26,o 3 (.assign (ci 0)) 39] false)
 .ret))))))
def kp160:Nat → Option (List Nat)
  | 0 => some [0]
  | 1 => some [0,5]
  | 2 => some [2,3]
  | 3 => some [0,8]
  | 4 => some [2,3]
  | 5 => some [0,11]
  | 6 => some [2,3]
  | 7 => some [0,4]
  | 8 => some [0,4,18]
  | 9 => some [0,4,21]
  | 10 => some [0,4]
  | 11 => some [0,4]
  | 12 => some [4]
  | 13 => some [4]
  | 14 => some [2,3]
  | _ => none
def fn160:AFn:={ ntmps:=50,results:=[.tmp 2,.tmp 3],body:=c160,keep:=kp160,head:=fun  | _ => none,opn:=fun _ => none,dyn:=fun _ => [] }
def c161:Code :=
  (.seq (.region 0 #[o 2 (.assign (ci 0)) 3] false)
 (.seq (.seq (.region 1 #[m 7 0 27,o 8 (.call { callee:=.builtin .len,args:=#[.tmp 7],argTypes:=#[27] }) 3,o 9 (.move (ci 0)) 3] false)
 (.block 0 (.loop (.seq (.region 2 #[o 10 (.binOp .lss 3 (.tmp 9) (.tmp 8) 3) 0] false)
 (.seq (.cond (.tmp 10)
 .skip
 (.exit 0))
 (.seq (.block 1 (.seq (.region 3 #[o 11 (.indexAddr 27 (.tmp 7) (.tmp 9)) 0,ld 12 11 29,o 4 (.alloc 29) 0,nd (.store 29 (.tmp 4) (.tmp 12))] false)
 (.seq (.region 4 #[ld 14 4 29,cl 15 95 #[.tmp 14] #[29] 94,m 13 15 94,o 16 (.extract (.tmp 13) 0) 26,o 17 (.extract (.tmp 13) 1) 39,o 5 (.assign (.tmp 16)) 26,o 6 (.assign (.tmp 17)) 39] false)
 (.region 5 #[m 18 2 3,m 19 5 26,o 20 (.call { callee:=.builtin .len,args:=#[.tmp 19],argTypes:=#[26] }) 3,o 21 (.binOp .add 3 (.tmp 18) (.tmp 20) 3) 3,o 2 (.assign (.tmp 21)) 3] false))))
 (.region 6 #[o 22 (.binOp .add 3 (.tmp 9) (ci 1) 3) 3,m 9 22 3] false)))))))
 (.seq (.region 7 #[m 23 2 3,o 2 (.assign (.tmp 23)) 3] false)
 .ret)))
def kp161:Nat → Option (List Nat)
  | 0 => some [0,2]
  | 1 => some [2,7,8,9]
  | 2 => some [2,7,8,9,10]
  | 3 => some [2,4,7,8,9]
  | 4 => some [2,5,7,8,9]
  | 5 => some [2,7,8,9]
  | 6 => some [2,7,8,9]
  | 7 => some [2]
  | _ => none
def fn161:AFn:={ ntmps:=24,results:=[.tmp 2],body:=c161,keep:=kp161,head:=fun | 2 => some [2,7,8,9] | _ => none,opn:=fun _ => none,dyn:=fun _ => [] }
def c167:Code :=
  (.seq (.region 0 #[o 2 (.assign (.const (.int .u32 0))) 23,o 3 (.assign (ci 0)) 3,o 4 (.assign (ci 0)) 39] false)
 (.seq (.seq (.region 1 #[o 3 (.assign (ci 1)) 3] false)
 (.block 0 (.loop (.seq (.block 1 (.seq (.seq (.region 3 #[m 8 3 3,m 9 0 26,o 10 (.call { callee:=.builtin .len,args:=#[.tmp 9],argTypes:=#[26] }) 3,o 11 (.binOp .eql 3 (.tmp 8) (.tmp 10) 3) 4] false)
 (.cond (.tmp 11)
 (.seq (.region 4 #[o 2 (.assign (.const (.int .u32 0))) 23,o 3 (.assign (ci 0)) 3,o 4 (.assign (ci 7)) 39] false)
 .ret)
 .skip))
 (.seq (.region 5 #[m 12 0 26,m 13 3 3,o 14 (.indexAddr 26 (.tmp 12) (.tmp 13)) 0,ld 15 14 5,o 5 (.assign (.tmp 15)) 5] false)
 (.seq (.seq (.region 6 #[m 16 3 3,o 17 (.binOp .eql 3 (.tmp 16) (ci 1) 3) 4,m 18 17 4,gd 19 (.move (.tmp 5)) 5 18 true,gd 20 (.binOp .eql 5 (.tmp 19) (.const (.int .u8 128)) 5) 4 18 true,o 21 (.pick (.tmp 18) (.tmp 20) (.const (.bool false))) 4,m 22 21 4,gd 23 (.move (.tmp 3)) 3 22 false,gd 24 (.binOp .eql 3 (.tmp 23) (ci 4) 3) 4 22 false,gd 25 (.move (.tmp 24)) 4 22 false,gd 26 (.move (.tmp 5)) 5 25 true,gd 27 (.binOp .geq 5 (.tmp 26) (.const (.int .u8 128)) 5) 4 25 true,gd 28 (.pick (.tmp 25) (.tmp 27) (.const (.bool false))) 4 22 false,o 29 (.pick (.tmp 22) (.const (.bool true)) (.tmp 28)) 4] false)
 (.cond (.tmp 29)
 (.seq (.region 7 #[o 2 (.assign (.const (.int .u32 0))) 23,o 3 (.assign (ci 0)) 3,o 4 (.assign (ci 9)) 39] false)
 .ret)
 .skip))
 (.seq (.region 8 #[m 30 2 23,o 31 (.binOp .shl 23 (.tmp 30) (.const (.int .u64 7)) 168) 23,m 32 5 5,o 33 (.binOp .and 5 (.tmp 32) (.const (.int .u8 127)) 5) 5,o 34 (.convert 5 23 (.tmp 33)) 23,o 35 (.binOp .or 23 (.tmp 31) (.tmp 34) 23) 23,o 2 (.assign (.tmp 35)) 23] false)
 (.seq (.region 9 #[m 36 5 5,o 37 (.binOp .lss 5 (.tmp 36) (.const (.int .u8 128)) 5) 4] false)
 (.cond (.tmp 37)
 (.exit 0)
 .skip)))))))
 (.region 2 #[m 6 3 3,o 7 (.binOp .add 3 (.tmp 6) (ci 1) 3) 3,o 3 (.assign (.tmp 7)) 3] false)))))
 (.seq (.seq (.region 10 #[m 38 2 23,o 39 (.binOp .lss 23 (.tmp 38) (.const (.int .u32 31)) 23) 4] false)
 (.cond (.tmp 39)
 (.seq (.region 11 #[o 2 (.assign (.const (.int .u32 0))) 23,o 3 (.assign (ci 0)) 3,o 4 (.assign (ci 9)) 39] false)
 .ret)
 .skip))
 (.seq (.region 12 #[m 40 2 23,m 41 3 3,o 42 (.binOp .add 3 (.tmp 41) (ci 1) 3) 3,o 2 (.assign (.tmp 40)) 23,o 3 (.assign (.tmp 42)) 3,o 4 (.assign (ci 0)) 39] false)
 .ret))))
def kp167:Nat → Option (List Nat)
  | 0 => some [0,2]
  | 1 => some [0,2,3]
  | 2 => some [0,2,3]
  | 3 => some [0,2,3,11]
  | 4 => some [2,3,4]
  | 5 => some [0,2,3,5]
  | 6 => some [0,2,3,5,29]
  | 7 => some [2,3,4]
  | 8 => some [0,2,3,5]
  | 9 => some [0,2,3,37]
  | 10 => some [2,3,39]
  | 11 => some [2,3,4]
  | 12 => some [2,3,4]
  | _ => none
def fn167:AFn:={ ntmps:=43,results:=[.tmp 2,.tmp 3,.tmp 4],body:=c167,keep:=kp167,head:=fun | 3 => some [0,2,3] | _ => none,opn:=fun _ => none,dyn:=fun _ => [] }
def c168:Code :=
  (.seq (.region 0 #[o 2 (.assign (ci 0)) 3] false)
 (.seq (.region 1 #[m 6 0 3,cl 7 160 #[.tmp 6] #[3] 94,m 5 7 94,o 8 (.extract (.tmp 5) 0) 26,o 9 (.extract (.tmp 5) 1) 39,o 3 (.assign (.tmp 8)) 26,o 4 (.assign (.tmp 9)) 39] false)
 (.seq (.region 2 #[m 10 3 26,o 11 (.call { callee:=.builtin .len,args:=#[.tmp 10],argTypes:=#[26] }) 3,o 2 (.assign (.tmp 11)) 3] false)
 .ret)))
def kp168:Nat → Option (List Nat)
  | 0 => some [0]
  | 1 => some [3]
  | 2 => some [2]
  | _ => none
def fn168:AFn:={ ntmps:=12,results:=[.tmp 2],body:=c168,keep:=kp168,head:=fun  | _ => none,opn:=fun _ => none,dyn:=fun _ => [] }
def c169:Code :=
  (.seq (.region 0 #[o 1 (.box 23 (.tmp 0)) 0,o 2 (.assign (.const .nilFunc)) 214] false)
 (.seq (.region 1 #[o 3 (.makeFunc (.func 181) #[] #[.tmp 1]) 213,o 2 (.assign (.tmp 3)) 214] false)
 .ret))
def kp169:Nat → Option (List Nat)
  | 0 => some [1]
  | 1 => some [2]
  | _ => none
def fn169:AFn:={ ntmps:=4,results:=[.tmp 2],body:=c169,keep:=kp169,head:=fun  | _ => none,opn:=fun _ => none,dyn:=fun _ => [] }
def c181:Code :=
  (.seq (.region 0 #[o 3 (.assign (ci 0)) 3] false)
 (.seq (.block 0 (.loop (.seq (.seq (.region 1 #[ld 5 1 23,m 6 3 3,o 7 (.binOp .add 3 (.tmp 6) (ci 7) 3) 3,o 8 (.binOp .shr 23 (.tmp 5) (.tmp 7) 3) 23,o 9 (.binOp .gtr 23 (.tmp 8) (.const (.int .u32 0)) 23) 4] false)
 (.cond (.tmp 9)
 .skip
 (.exit 0)))
 (.block 1 (.region 2 #[m 10 3 3,o 11 (.binOp .add 3 (.tmp 10) (ci 7) 3) 3,o 3 (.assign (.tmp 11)) 3] false)))))
 (.block 2 (.loop (.seq (.seq (.region 3 #[m 12 3 3,o 13 (.binOp .geq 3 (.tmp 12) (ci 0) 3) 4] false)
 (.cond (.tmp 13)
 .skip
 (.exit 2)))
 (.seq (.block 3 (.seq (.region 5 #[ld 16 1 23,m 17 3 3,o 18 (.binOp .shr 23 (.tmp 16) (.tmp 17) 3) 23,o 19 (.convert 23 5 (.tmp 18)) 5,o 20 (.binOp .and 5 (.tmp 19) (.const (.int .u8 127)) 5) 5,o 4 (.assign (.tmp 20)) 5] false)
 (.seq (.seq (.region 6 #[m 21 3 3,o 22 (.binOp .gtr 3 (.tmp 21) (ci 0) 3) 4] false)
 (.cond (.tmp 22)
 (.region 7 #[m 23 4 5,o 24 (.binOp .or 5 (.tmp 23) (.const (.int .u8 128)) 5) 5,o 4 (.assign (.tmp 24)) 5] false)
 .skip))
 (.seq (.region 8 #[m 25 0 226,m 26 4 5,o 27 (.call { callee:=.value (.tmp 25),args:=#[.tmp 26],argTypes:=#[5] }) 4,o 28 (.unOp .not 4 (.tmp 27)) 4] false)
 (.cond (.tmp 28)
 .ret
 .skip)))))
 (.region 4 #[m 14 3 3,o 15 (.binOp .sub 3 (.tmp 14) (ci 7) 3) 3,o 3 (.assign (.tmp 15)) 3] false)))))))
def kp181:Nat → Option (List Nat)
  | 0 => some [0,1,3]
  | 1 => some [0,1,3,9]
  | 2 => some [0,1,3]
  | 3 => some [0,1,3,13]
  | 4 => some [0,1,3]
  | 5 => some [0,1,3,4]
  | 6 => some [0,1,3,4,22]
  | 7 => some [0,1,3,4]
  | 8 => some [0,1,3,28]
  | _ => none
def fn181:AFn:={ ntmps:=29,results:=[],body:=c181,keep:=kp181,head:=fun | 1 => some [0,1,3] | 3 => some [0,1,3] | _ => none,opn:=opnT,dyn:=fun _ => [] }
def fnTab:List (Option AFn):=[none,none,none,none,none,none,none,none,none,some fn9,some fn10,none,none,none,none,none,none,none,none,none,some fn20,none,some fn22,none,none,none,none,none,none,none,none,none,none,none,none,some fn35,some fn36,none,none,none,some fn40,some fn41,some fn42,some fn43,some fn44,some fn45,some fn46,some fn47,some fn48,some fn49,some fn50,some fn51,some fn52,some fn53,none,none,none,none,none,none,none,none,none,none,none,some fn65,none,none,none,some fn69,none,none,none,some fn73,none,none,none,none,none,none,none,none,some fn82,none,none,some fn85,some fn86,some fn87,some fn88,some fn89,some fn90,some fn91,some fn92,some fn93,some fn94,some fn95,some fn96,some fn97,none,none,none,none,some fn102,none,none,none,none,none,none,none,none,none,some fn112,some fn113,some fn114,some fn115,none,none,none,some fn119,some fn120,some fn121,none,none,none,none,none,some fn127,some fn128,none,some fn130,some fn131,some fn132,some fn133,some fn134,some fn135,none,none,none,none,some fn140,none,none,none,none,none,none,some fn147,none,none,none,none,some fn152,some fn153,some fn154,some fn155,some fn156,some fn157,some fn158,some fn159,some fn160,some fn161,none,none,none,none,none,some fn167,some fn168,some fn169,none,none,none,none,none,none,none,none,none,none,none,some fn181]
def grdT:FuncId → Option Grd
  | 94 => some grd94
  | _ => none
def tyTab:List (Option TyI):=[
  none,
  some ⟨.func,1,8,[.nilf],false⟩,
  some ⟨.int .i64,1,8,[.int .i64 0],false⟩,
  some ⟨.int .i64,1,8,[.int .i64 0],false⟩,
  some ⟨.bool,1,1,[.bool false],false⟩,
  some ⟨.int .u8,1,1,[.int .u8 0],false⟩,
  some ⟨.int .u8,1,1,[.int .u8 0],false⟩,
  some ⟨.strct [(0,2),(1,3),(2,4),(3,6)],4,24,[.int .i64 0,.int .i64 0,.bool false,.int .u8 0],false⟩,
  some ⟨.strct [(0,2),(1,3),(2,4),(3,6)],4,24,[.int .i64 0,.int .i64 0,.bool false,.int .u8 0],false⟩,
  some ⟨.str,1,16,[.str []],false⟩,
  some ⟨.str,1,16,[.str []],false⟩,
  some ⟨.str,1,16,[.str []],false⟩,
  some ⟨.int .u64,1,8,[.int .u64 0],false⟩,
  some ⟨.strct [(0,9),(1,12)],2,24,[.str [],.int .u64 0],false⟩,
  some ⟨.strct [(0,9),(1,12)],2,24,[.str [],.int .u64 0],false⟩,
  some ⟨.ptr 253,1,8,[.nilp],false⟩,
  some ⟨.ptr 256,1,8,[.nilp],false⟩,
  some ⟨.ptr 265,1,8,[.nilp],false⟩,
  some ⟨.strct [(0,17)],1,8,[.nilp],false⟩,
  some ⟨.strct [(0,17)],1,8,[.nilp],false⟩,
  some ⟨.iface true,1,16,[.nili],false⟩,
  some ⟨.int .i32,1,4,[.int .i32 0],false⟩,
  some ⟨.int .u8,1,1,[.int .u8 0],false⟩,
  some ⟨.int .u32,1,4,[.int .u32 0],false⟩,
  some ⟨.strct [(0,22),(1,4),(2,23)],3,8,[.int .u8 0,.bool false,.int .u32 0],false⟩,
  some ⟨.strct [(0,22),(1,4),(2,23)],3,8,[.int .u8 0,.bool false,.int .u32 0],true⟩,
  some ⟨.slice 5,1,24,[.sl true [] (some 0)],false⟩,
  some ⟨.slice 29,1,24,[.sl true [] (some 0)],false⟩,
  some ⟨.strct [(0,25),(3,26),(4,27)],5,56,[.int .u8 0,.bool false,.int .u32 0,.sl true [] (some 0),.sl true [] (some 0)],false⟩,
  some ⟨.strct [(0,25),(3,26),(4,27)],5,56,[.int .u8 0,.bool false,.int .u32 0,.sl true [] (some 0),.sl true [] (some 0)],false⟩,
  some ⟨.func,1,8,[.nilf],false⟩,
  some ⟨.ptr 3,1,8,[.nilp],false⟩,
  some ⟨.func,1,8,[.nilf],false⟩,
  some ⟨.arr 16 23,16,64,[.int .u32 0,.int .u32 0,.int .u32 0,.int .u32 0,.int .u32 0,.int .u32 0,.int .u32 0,.int .u32 0,.int .u32 0,.int .u32 0,.int .u32 0,.int .u32 0,.int .u32 0,.int .u32 0,.int .u32 0,.int .u32 0],false⟩,
  some ⟨.strct [(0,5),(1,33)],17,68,[.int .u8 0,.int .u32 0,.int .u32 0,.int .u32 0,.int .u32 0,.int .u32 0,.int .u32 0,.int .u32 0,.int .u32 0,.int .u32 0,.int .u32 0,.int .u32 0,.int .u32 0,.int .u32 0,.int .u32 0,.int .u32 0,.int .u32 0],false⟩,
  some ⟨.strct [(0,5),(1,33)],17,68,[.int .u8 0,.int .u32 0,.int .u32 0,.int .u32 0,.int .u32 0,.int .u32 0,.int .u32 0,.int .u32 0,.int .u32 0,.int .u32 0,.int .u32 0,.int .u32 0,.int .u32 0,.int .u32 0,.int .u32 0,.int .u32 0,.int .u32 0],true⟩,
  some ⟨.strct [(0,35),(17,4),(18,29)],23,128,[.int .u8 0,.int .u32 0,.int .u32 0,.int .u32 0,.int .u32 0,.int .u32 0,.int .u32 0,.int .u32 0,.int .u32 0,.int .u32 0,.int .u32 0,.int .u32 0,.int .u32 0,.int .u32 0,.int .u32 0,.int .u32 0,.int .u32 0,.bool false,.int .u8 0,.bool false,.int .u32 0,.sl true [] (some 0),.sl true [] (some 0)],false⟩,
  some ⟨.strct [(0,35),(17,4),(18,29)],23,128,[.int .u8 0,.int .u32 0,.int .u32 0,.int .u32 0,.int .u32 0,.int .u32 0,.int .u32 0,.int .u32 0,.int .u32 0,.int .u32 0,.int .u32 0,.int .u32 0,.int .u32 0,.int .u32 0,.int .u32 0,.int .u32 0,.int .u32 0,.bool false,.int .u8 0,.bool false,.int .u32 0,.sl true [] (some 0),.sl true [] (some 0)],false⟩,
  some ⟨.slice 3,1,24,[.sl true [] (some 0)],false⟩,
  some ⟨.int .i64,1,8,[.int .i64 0],false⟩,
  some ⟨.strct [(0,38),(1,39)],2,32,[.sl true [] (some 0),.int .i64 0],false⟩,
  some ⟨.strct [(0,38),(1,39)],2,32,[.sl true [] (some 0),.int .i64 0],false⟩,
  none,
  some ⟨.func,1,8,[.nilf],false⟩,
  some ⟨.func,1,8,[.nilf],false⟩,
  some ⟨.func,1,8,[.nilf],false⟩,
  none,
  some ⟨.func,1,8,[.nilf],false⟩,
  some ⟨.func,1,8,[.nilf],false⟩,
  some ⟨.func,1,8,[.nilf],false⟩,
  some ⟨.func,1,8,[.nilf],false⟩,
  some ⟨.func,1,8,[.nilf],false⟩,
  some ⟨.func,1,8,[.nilf],false⟩,
  some ⟨.func,1,8,[.nilf],false⟩,
  some ⟨.func,1,8,[.nilf],false⟩,
  some ⟨.func,1,8,[.nilf],false⟩,
  some ⟨.strct [(0,37),(23,26),(24,3)],25,160,[.int .u8 0,.int .u32 0,.int .u32 0,.int .u32 0,.int .u32 0,.int .u32 0,.int .u32 0,.int .u32 0,.int .u32 0,.int .u32 0,.int .u32 0,.int .u32 0,.int .u32 0,.int .u32 0,.int .u32 0,.int .u32 0,.int .u32 0,.bool false,.int .u8 0,.bool false,.int .u32 0,.sl true [] (some 0),.sl true [] (some 0),.sl true [] (some 0),.int .i64 0],false⟩,
  some ⟨.strct [(0,37),(23,26),(24,3)],25,160,[.int .u8 0,.int .u32 0,.int .u32 0,.int .u32 0,.int .u32 0,.int .u32 0,.int .u32 0,.int .u32 0,.int .u32 0,.int .u32 0,.int .u32 0,.int .u32 0,.int .u32 0,.int .u32 0,.int .u32 0,.int .u32 0,.int .u32 0,.bool false,.int .u8 0,.bool false,.int .u32 0,.sl true [] (some 0),.sl true [] (some 0),.sl true [] (some 0),.int .i64 0],false⟩,
  some ⟨.func,1,8,[.nilf],false⟩,
  some ⟨.func,1,8,[.nilf],false⟩,
  some ⟨.func,1,8,[.nilf],false⟩,
  some ⟨.strct [(0,5),(1,26),(2,26),(3,5)],4,64,[.int .u8 0,.sl true [] (some 0),.sl true [] (some 0),.int .u8 0],false⟩,
  some ⟨.strct [(0,5),(1,26),(2,26),(3,5)],4,64,[.int .u8 0,.sl true [] (some 0),.sl true [] (some 0),.int .u8 0],false⟩,
  some ⟨.func,1,8,[.nilf],false⟩,
  some ⟨.func,1,8,[.nilf],false⟩,
  some ⟨.func,1,8,[.nilf],false⟩,
  some ⟨.func,1,8,[.nilf],false⟩,
  some ⟨.func,1,8,[.nilf],false⟩,
  some ⟨.func,1,8,[.nilf],false⟩,
  none,
  some ⟨.func,1,8,[.nilf],false⟩,
  some ⟨.func,1,8,[.nilf],false⟩,
  none,
  some ⟨.func,1,8,[.nilf],false⟩,
  some ⟨.strct [(0,25),(3,4),(4,4)],5,12,[.int .u8 0,.bool false,.int .u32 0,.bool false,.bool false],false⟩,
  some ⟨.strct [(0,25),(3,4),(4,4)],5,12,[.int .u8 0,.bool false,.int .u32 0,.bool false,.bool false],false⟩,
  some ⟨.slice 75,1,24,[.sl true [] (some 0)],false⟩,
  none,
  some ⟨.func,1,8,[.nilf],false⟩,
  some ⟨.func,1,8,[.nilf],false⟩,
  some ⟨.func,1,8,[.nilf],false⟩,
  some ⟨.strct [(0,3),(1,3)],2,16,[.int .i64 0,.int .i64 0],false⟩,
  some ⟨.strct [(0,3),(1,3)],2,16,[.int .i64 0,.int .i64 0],true⟩,
  none,
  some ⟨.func,1,8,[.nilf],false⟩,
  some ⟨.func,1,8,[.nilf],false⟩,
  some ⟨.func,1,8,[.nilf],false⟩,
  none,
  some ⟨.func,1,8,[.nilf],false⟩,
  none,
  some ⟨.func,1,8,[.nilf],false⟩,
  none,
  some ⟨.func,1,8,[.nilf],false⟩,
  some ⟨.func,1,8,[.nilf],false⟩,
  none,
  some ⟨.func,1,8,[.nilf],false⟩,
  none,
  some ⟨.func,1,8,[.nilf],false⟩,
  some ⟨.func,1,8,[.nilf],false⟩,
  some ⟨.func,1,8,[.nilf],false⟩,
  some ⟨.slice 116,1,24,[.sl true [] (some 0)],false⟩,
  none,
  some ⟨.func,1,8,[.nilf],false⟩,
  some ⟨.func,1,8,[.nilf],false⟩,
  some ⟨.func,1,8,[.nilf],false⟩,
  some ⟨.slice 161,1,24,[.sl true [] (some 0)],false⟩,
  some ⟨.strct [(0,105)],1,24,[.sl true [] (some 0)],false⟩,
  some ⟨.strct [(0,105)],1,24,[.sl true [] (some 0)],false⟩,
  some ⟨.func,1,8,[.nilf],false⟩,
  some ⟨.func,1,8,[.nilf],false⟩,
  some ⟨.func,1,8,[.nilf],false⟩,
  some ⟨.func,1,8,[.nilf],false⟩,
  some ⟨.func,1,8,[.nilf],false⟩,
  some ⟨.slice 35,1,24,[.sl true [] (some 0)],false⟩,
  some ⟨.func,1,8,[.nilf],false⟩,
  some ⟨.strct [(0,35),(17,35)],34,136,[.int .u8 0,.int .u32 0,.int .u32 0,.int .u32 0,.int .u32 0,.int .u32 0,.int .u32 0,.int .u32 0,.int .u32 0,.int .u32 0,.int .u32 0,.int .u32 0,.int .u32 0,.int .u32 0,.int .u32 0,.int .u32 0,.int .u32 0,.int .u8 0,.int .u32 0,.int .u32 0,.int .u32 0,.int .u32 0,.int .u32 0,.int .u32 0,.int .u32 0,.int .u32 0,.int .u32 0,.int .u32 0,.int .u32 0,.int .u32 0,.int .u32 0,.int .u32 0,.int .u32 0,.int .u32 0],false⟩,
  some ⟨.strct [(0,35),(17,35)],34,136,[.int .u8 0,.int .u32 0,.int .u32 0,.int .u32 0,.int .u32 0,.int .u32 0,.int .u32 0,.int .u32 0,.int .u32 0,.int .u32 0,.int .u32 0,.int .u32 0,.int .u32 0,.int .u32 0,.int .u32 0,.int .u32 0,.int .u32 0,.int .u8 0,.int .u32 0,.int .u32 0,.int .u32 0,.int .u32 0,.int .u32 0,.int .u32 0,.int .u32 0,.int .u32 0,.int .u32 0,.int .u32 0,.int .u32 0,.int .u32 0,.int .u32 0,.int .u32 0,.int .u32 0,.int .u32 0],true⟩,
  some ⟨.func,1,8,[.nilf],false⟩,
  some ⟨.func,1,8,[.nilf],false⟩,
  none,
  some ⟨.func,1,8,[.nilf],false⟩,
  some ⟨.func,1,8,[.nilf],false⟩,
  some ⟨.func,1,8,[.nilf],false⟩,
  some ⟨.func,1,8,[.nilf],false⟩,
  some ⟨.slice 23,1,24,[.sl true [] (some 0)],false⟩,
  none,
  some ⟨.func,1,8,[.nilf],false⟩,
  some ⟨.func,1,8,[.nilf],false⟩,
  some ⟨.func,1,8,[.nilf],false⟩,
  some ⟨.func,1,8,[.nilf],false⟩,
  some ⟨.strct [(0,26)],1,24,[.sl true [] (some 0)],false⟩,
  some ⟨.strct [(0,26)],1,24,[.sl true [] (some 0)],false⟩,
  some ⟨.func,1,8,[.nilf],false⟩,
  some ⟨.func,1,8,[.nilf],false⟩,
  some ⟨.func,1,8,[.nilf],false⟩,
  some ⟨.func,1,8,[.nilf],false⟩,
  some ⟨.func,1,8,[.nilf],false⟩,
  some ⟨.func,1,8,[.nilf],false⟩,
  some ⟨.func,1,8,[.nilf],false⟩,
  some ⟨.func,1,8,[.nilf],false⟩,
  some ⟨.func,1,8,[.nilf],false⟩,
  some ⟨.arr 2 31,2,16,[.nilp,.nilp],false⟩,
  some ⟨.arr 2 3,2,16,[.int .i64 0,.int .i64 0],false⟩,
  some ⟨.func,1,8,[.nilf],false⟩,
  some ⟨.func,1,8,[.nilf],false⟩,
  some ⟨.func,1,8,[.nilf],false⟩,
  some ⟨.func,1,8,[.nilf],false⟩,
  some ⟨.func,1,8,[.nilf],false⟩,
  none,
  some ⟨.func,1,8,[.nilf],false⟩,
  some ⟨.func,1,8,[.nilf],false⟩,
  some ⟨.func,1,8,[.nilf],false⟩,
  some ⟨.func,1,8,[.nilf],false⟩,
  some ⟨.func,1,8,[.nilf],false⟩,
  some ⟨.func,1,8,[.nilf],false⟩,
  none,
  some ⟨.func,1,8,[.nilf],false⟩,
  some ⟨.func,1,8,[.nilf],false⟩,
  some ⟨.func,1,8,[.nilf],false⟩,
  some ⟨.func,1,8,[.nilf],false⟩,
  some ⟨.func,1,8,[.nilf],false⟩,
  some ⟨.arr 2 5,2,2,[.int .u8 0,.int .u8 0],false⟩,
  some ⟨.func,1,8,[.nilf],false⟩,
  some ⟨.func,1,8,[.nilf],false⟩,
  some ⟨.func,1,8,[.nilf],false⟩,
  some ⟨.func,1,8,[.nilf],false⟩,
  some ⟨.func,1,8,[.nilf],false⟩,
  some ⟨.int .u64,1,8,[.int .u64 0],false⟩,
  some ⟨.int .u64,1,8,[.int .u64 0],false⟩,
  some ⟨.func,1,8,[.nilf],false⟩,
  some ⟨.func,1,8,[.nilf],false⟩,
  some ⟨.func,1,8,[.nilf],false⟩,
  some ⟨.func,1,8,[.nilf],false⟩,
  some ⟨.func,1,8,[.nilf],false⟩,
  some ⟨.func,1,8,[.nilf],false⟩,
  some ⟨.func,1,8,[.nilf],false⟩,
  some ⟨.func,1,8,[.nilf],false⟩,
  some ⟨.func,1,8,[.nilf],false⟩,
  some ⟨.func,1,8,[.nilf],false⟩,
  some ⟨.slice 178,1,24,[.sl true [] (some 0)],false⟩,
  none,
  some ⟨.func,1,8,[.nilf],false⟩,
  some ⟨.func,1,8,[.nilf],false⟩,
  some ⟨.func,1,8,[.nilf],false⟩,
  some ⟨.arr 8 5,8,8,[.int .u8 0,.int .u8 0,.int .u8 0,.int .u8 0,.int .u8 0,.int .u8 0,.int .u8 0,.int .u8 0],false⟩,
  some ⟨.arr 8 5,8,8,[.int .u8 0,.int .u8 0,.int .u8 0,.int .u8 0,.int .u8 0,.int .u8 0,.int .u8 0,.int .u8 0],false⟩,
  some ⟨.func,1,8,[.nilf],false⟩,
  none,
  some ⟨.strct [(0,3),(1,39)],2,16,[.int .i64 0,.int .i64 0],false⟩,
  some ⟨.strct [(0,3),(1,39)],2,16,[.int .i64 0,.int .i64 0],false⟩,
  none,
  some ⟨.strct [(0,26),(1,3)],2,32,[.sl true [] (some 0),.int .i64 0],false⟩,
  some ⟨.strct [(0,26),(1,3)],2,32,[.sl true [] (some 0),.int .i64 0],false⟩,
  none,
  some ⟨.func,1,8,[.nilf],false⟩,
  some ⟨.func,1,8,[.nilf],false⟩,
  some ⟨.func,1,8,[.nilf],false⟩,
  some ⟨.int .i8,1,1,[.int .i8 0],false⟩,
  none,
  none,
  some ⟨.func,1,8,[.nilf],false⟩,
  some ⟨.func,1,8,[.nilf],false⟩,
  some ⟨.arr 2 35,34,136,[.int .u8 0,.int .u32 0,.int .u32 0,.int .u32 0,.int .u32 0,.int .u32 0,.int .u32 0,.int .u32 0,.int .u32 0,.int .u32 0,.int .u32 0,.int .u32 0,.int .u32 0,.int .u32 0,.int .u32 0,.int .u32 0,.int .u32 0,.int .u8 0,.int .u32 0,.int .u32 0,.int .u32 0,.int .u32 0,.int .u32 0,.int .u32 0,.int .u32 0,.int .u32 0,.int .u32 0,.int .u32 0,.int .u32 0,.int .u32 0,.int .u32 0,.int .u32 0,.int .u32 0,.int .u32 0],false⟩,
  some ⟨.func,1,8,[.nilf],false⟩,
  some ⟨.func,1,8,[.nilf],false⟩,
  some ⟨.func,1,8,[.nilf],false⟩,
  some ⟨.func,1,8,[.nilf],false⟩,
  some ⟨.func,1,8,[.nilf],false⟩,
  none,
  some ⟨.func,1,8,[.nilf],false⟩,
  some ⟨.func,1,8,[.nilf],false⟩,
  some ⟨.func,1,8,[.nilf],false⟩,
  some ⟨.ptr 35,1,8,[.nilp],false⟩,
  some ⟨.func,1,8,[.nilf],false⟩,
  some ⟨.func,1,8,[.nilf],false⟩,
  some ⟨.func,1,8,[.nilf],false⟩,
  some ⟨.ptr 192,1,8,[.nilp],false⟩,
  none,
  some ⟨.func,1,8,[.nilf],false⟩,
  some ⟨.func,1,8,[.nilf],false⟩,
  some ⟨.func,1,8,[.nilf],false⟩,
  some ⟨.arr 2 212,2,16,[.nilp,.nilp],false⟩,
  some ⟨.func,1,8,[.nilf],false⟩,
  some ⟨.func,1,8,[.nilf],false⟩,
  some ⟨.func,1,8,[.nilf],false⟩,
  some ⟨.func,1,8,[.nilf],false⟩,
  some ⟨.func,1,8,[.nilf],false⟩,
  none,
  some ⟨.func,1,8,[.nilf],false⟩,
  some ⟨.arr 3 5,3,3,[.int .u8 0,.int .u8 0,.int .u8 0],false⟩,
  some ⟨.arr 3 5,3,3,[.int .u8 0,.int .u8 0,.int .u8 0],false⟩,
  some ⟨.func,1,8,[.nilf],false⟩,
  some ⟨.int .i64,1,8,[.int .i64 0],false⟩,
  none,
  some ⟨.func,1,8,[.nilf],false⟩,
  some ⟨.func,1,8,[.nilf],false⟩,
  some ⟨.func,1,8,[.nilf],false⟩,
  none,
  some ⟨.func,1,8,[.nilf],false⟩,
  some ⟨.func,1,8,[.nilf],false⟩,
  some ⟨.func,1,8,[.nilf],false⟩,
  some ⟨.func,1,8,[.nilf],false⟩,
  some ⟨.int .u64,1,8,[.int .u64 0],false⟩,
  some ⟨.func,1,8,[.nilf],false⟩,
  some ⟨.func,1,8,[.nilf],false⟩,
  some ⟨.func,1,8,[.nilf],false⟩,
  some ⟨.func,1,8,[.nilf],false⟩,
  some ⟨.func,1,8,[.nilf],false⟩,
  some ⟨.ptr 242,1,8,[.nilp],false⟩,
  none,
  some ⟨.func,1,8,[.nilf],false⟩,
  some ⟨.func,1,8,[.nilf],false⟩,
  some ⟨.strct [(0,17),(1,17),(2,17),(3,9)],4,40,[.nilp,.nilp,.nilp,.str []],false⟩,
  some ⟨.strct [(0,17),(1,17),(2,17),(3,9)],4,40,[.nilp,.nilp,.nilp,.str []],false⟩,
  some ⟨.arr 0 16,0,0,[],false⟩,
  some ⟨.strct [(0,254)],0,0,[],false⟩,
  some ⟨.strct [(0,254)],0,0,[],false⟩,
  some ⟨.func,1,8,[.nilf],false⟩,
  some ⟨.int .u8,1,1,[.int .u8 0],false⟩,
  some ⟨.int .u8,1,1,[.int .u8 0],false⟩,
  some ⟨.func,1,8,[.nilf],false⟩,
  some ⟨.ptr 5,1,8,[.nilp],false⟩,
  some ⟨.int .i32,1,4,[.int .i32 0],false⟩,
  some ⟨.int .i32,1,4,[.int .i32 0],false⟩,
  some ⟨.strct [(0,12),(1,12),(2,23),(3,258),(4,5),(5,5),(6,259),(7,260),(8,261),(9,262),(10,263)],11,48,[.int .u64 0,.int .u64 0,.int .u32 0,.int .u8 0,.int .u8 0,.int .u8 0,.int .u8 0,.nilf,.nilp,.int .i32 0,.int .i32 0],false⟩,
  some ⟨.strct [(0,12),(1,12),(2,23),(3,258),(4,5),(5,5),(6,259),(7,260),(8,261),(9,262),(10,263)],11,48,[.int .u64 0,.int .u64 0,.int .u32 0,.int .u8 0,.int .u8 0,.int .u8 0,.int .u8 0,.nilf,.nilp,.int .i32 0,.int .i32 0],false⟩,
  none]
def E:Env:={ fn:=getT fnTab,ty:=getT tyTab,prim:=primT,grd:=grdT,ext:=fun i => false,glob:=fun | 3 => some [.int .u8 0,.bool true,.int .u32 16] | 4 => some [.int .u8 0,.bool false,.int .u32 2] | _ => none }
@[simp] theorem E_ext (i):E.ext i=false:=id rfl
def E0:Env:={ E with prim:=fun _ => none }
@[simp] theorem E_prim (i):E.prim i=primT i:=rfl
@[simp] theorem E_glob3:E.glob 3=some [.int .u8 0,.bool true,.int .u32 16]:=rfl
@[simp] theorem E_glob4:E.glob 4=some [.int .u8 0,.bool false,.int .u32 2]:=rfl
@[simp] theorem ntmps_9:fn9.ntmps=58:=rfl
@[simp] theorem results_9:fn9.results=[.tmp 2]:=rfl
theorem body_9:fn9.body=c9:=rfl
@[simp] theorem dyn_9:fn9.dyn=fun _ => []:=id rfl
@[simp] theorem opn_9:fn9.opn=opnT:=id rfl
@[simp] theorem keep_9 (i):fn9.keep i=kp9 i:=rfl
attribute [simp] kp9
@[simp] theorem ntmps_10:fn10.ntmps=166:=rfl
@[simp] theorem results_10:fn10.results=[.tmp 2]:=rfl
theorem body_10:fn10.body=c10:=rfl
@[simp] theorem dyn_10:fn10.dyn=fun _ => []:=id rfl
@[simp] theorem opn_10:fn10.opn=fun _ => none:=id rfl
@[simp] theorem keep_10 (i):fn10.keep i=kp10 i:=rfl
attribute [simp] kp10
@[simp] theorem ntmps_20:fn20.ntmps=48:=rfl
@[simp] theorem results_20:fn20.results=[.tmp 4]:=rfl
theorem body_20:fn20.body=c20:=rfl
@[simp] theorem dyn_20:fn20.dyn=fun _ => []:=id rfl
@[simp] theorem opn_20:fn20.opn=fun _ => none:=id rfl
@[simp] theorem keep_20 (i):fn20.keep i=kp20 i:=rfl
attribute [simp] kp20
@[simp] theorem head_20_4:fn20.head 4=some [2,3,5]:=rfl
@[simp] theorem ntmps_22:fn22.ntmps=13:=rfl
@[simp] theorem results_22:fn22.results=[.tmp 2]:=rfl
theorem body_22:fn22.body=c22:=rfl
@[simp] theorem dyn_22:fn22.dyn=fun _ => []:=id rfl
@[simp] theorem opn_22:fn22.opn=fun _ => none:=id rfl
@[simp] theorem keep_22 (i):fn22.keep i=kp22 i:=rfl
attribute [simp] kp22
@[simp] theorem ntmps_35:fn35.ntmps=17:=rfl
@[simp] theorem results_35:fn35.results=[.cell 4 41]:=rfl
theorem body_35:fn35.body=c35:=rfl
@[simp] theorem dyn_35:fn35.dyn=fun _ => []:=id rfl
@[simp] theorem opn_35:fn35.opn=fun _ => none:=id rfl
@[simp] theorem keep_35 (i):fn35.keep i=kp35 i:=rfl
attribute [simp] kp35
@[simp] theorem ntmps_36:fn36.ntmps=83:=rfl
@[simp] theorem results_36:fn36.results=[.tmp 6,.cell 7 41]:=rfl
theorem body_36:fn36.body=c36:=rfl
@[simp] theorem dyn_36:fn36.dyn=fun _ => []:=id rfl
@[simp] theorem opn_36:fn36.opn=fun _ => none:=id rfl
@[simp] theorem keep_36 (i):fn36.keep i=kp36 i:=rfl
attribute [simp] kp36
@[simp] theorem head_36_8:fn36.head 8=some [2,3,7,8,9,10]:=rfl
@[simp] theorem ntmps_40:fn40.ntmps=51:=rfl
@[simp] theorem results_40:fn40.results=[.tmp 6]:=rfl
theorem body_40:fn40.body=c40:=rfl
@[simp] theorem dyn_40:fn40.dyn=fun _ => []:=id rfl
@[simp] theorem opn_40:fn40.opn=opnT:=id rfl
@[simp] theorem keep_40 (i):fn40.keep i=kp40 i:=rfl
attribute [simp] kp40
@[simp] theorem head_40_5:fn40.head 5=some [1,2,3,7]:=rfl
@[simp] theorem ntmps_41:fn41.ntmps=148:=rfl
@[simp] theorem results_41:fn41.results=[.tmp 0]:=rfl
theorem body_41:fn41.body=c41:=rfl
@[simp] theorem dyn_41:fn41.dyn=fun _ => []:=id rfl
@[simp] theorem opn_41:fn41.opn=fun _ => none:=id rfl
@[simp] theorem keep_41 (i):fn41.keep i=kp41 i:=rfl
attribute [simp] kp41
@[simp] theorem ntmps_42:fn42.ntmps=83:=rfl
@[simp] theorem results_42:fn42.results=[.cell 2 82,.cell 3 41]:=rfl
theorem body_42:fn42.body=c42:=rfl
@[simp] theorem dyn_42_4:fn42.dyn 4=[]:=id rfl
@[simp] theorem dyn_42_6:fn42.dyn 6=[(1,2)]:=id rfl
@[simp] theorem dyn_42_14:fn42.dyn 14=[]:=id rfl
@[simp] theorem opn_42:fn42.opn=fun _ => none:=id rfl
@[simp] theorem keep_42 (i):fn42.keep i=kp42 i:=rfl
attribute [simp] kp42
@[simp] theorem head_42_11:fn42.head 11=some [1,2,3,5,7,44,45]:=rfl
@[simp] theorem ntmps_43:fn43.ntmps=101:=rfl
@[simp] theorem results_43:fn43.results=[.cell 2 82,.cell 3 41]:=rfl
theorem body_43:fn43.body=c43:=rfl
@[simp] theorem dyn_43_4:fn43.dyn 4=[]:=id rfl
@[simp] theorem dyn_43_9:fn43.dyn 9=[(1,2)]:=id rfl
@[simp] theorem dyn_43_12:fn43.dyn 12=[]:=id rfl
@[simp] theorem dyn_43_14:fn43.dyn 14=[]:=id rfl
@[simp] theorem dyn_43_16:fn43.dyn 16=[]:=id rfl
@[simp] theorem dyn_43_18:fn43.dyn 18=[]:=id rfl
@[simp] theorem dyn_43_20:fn43.dyn 20=[]:=id rfl
@[simp] theorem dyn_43_21:fn43.dyn 21=[(1,2)]:=id rfl
@[simp] theorem opn_43:fn43.opn=fun _ => none:=id rfl
@[simp] theorem keep_43 (i):fn43.keep i=kp43 i:=rfl
attribute [simp] kp43
@[simp] theorem ntmps_44:fn44.ntmps=47:=rfl
@[simp] theorem results_44:fn44.results=[.tmp 4]:=rfl
theorem body_44:fn44.body=c44:=rfl
@[simp] theorem dyn_44:fn44.dyn=fun _ => []:=id rfl
@[simp] theorem opn_44:fn44.opn=fun _ => none:=id rfl
@[simp] theorem keep_44 (i):fn44.keep i=kp44 i:=rfl
attribute [simp] kp44
@[simp] theorem head_44_4:fn44.head 4=some [2,3,5]:=rfl
@[simp] theorem ntmps_45:fn45.ntmps=43:=rfl
@[simp] theorem results_45:fn45.results=[.cell 2 29,.tmp 3]:=rfl
theorem body_45:fn45.body=c45:=rfl
@[simp] theorem dyn_45:fn45.dyn=fun _ => []:=id rfl
@[simp] theorem opn_45:fn45.opn=fun _ => none:=id rfl
@[simp] theorem keep_45 (i):fn45.keep i=kp45 i:=rfl
attribute [simp] kp45
@[simp] theorem head_45_6:fn45.head 6=some [2,5,20,21]:=rfl
@[simp] theorem ntmps_46:fn46.ntmps=29:=rfl
@[simp] theorem results_46:fn46.results=[.tmp 2]:=rfl
theorem body_46:fn46.body=c46:=rfl
@[simp] theorem dyn_46:fn46.dyn=fun _ => []:=id rfl
@[simp] theorem opn_46:fn46.opn=fun _ => none:=id rfl
@[simp] theorem keep_46 (i):fn46.keep i=kp46 i:=rfl
attribute [simp] kp46
@[simp] theorem ntmps_47:fn47.ntmps=10:=rfl
@[simp] theorem results_47:fn47.results=[.cell 2 82,.tmp 3,.tmp 4]:=rfl
theorem body_47:fn47.body=c47:=rfl
@[simp] theorem dyn_47:fn47.dyn=fun _ => []:=id rfl
@[simp] theorem opn_47:fn47.opn=opnT:=id rfl
@[simp] theorem keep_47 (i):fn47.keep i=kp47 i:=rfl
attribute [simp] kp47
@[simp] theorem ntmps_48:fn48.ntmps=10:=rfl
@[simp] theorem results_48:fn48.results=[.tmp 2,.tmp 3,.tmp 4]:=rfl
theorem body_48:fn48.body=c48:=rfl
@[simp] theorem dyn_48:fn48.dyn=fun _ => []:=id rfl
@[simp] theorem opn_48:fn48.opn=opnT:=id rfl
@[simp] theorem keep_48 (i):fn48.keep i=kp48 i:=rfl
attribute [simp] kp48
@[simp] theorem ntmps_49:fn49.ntmps=27:=rfl
@[simp] theorem results_49:fn49.results=[.cell 2 29,.tmp 3,.tmp 4]:=rfl
theorem body_49:fn49.body=c49:=rfl
@[simp] theorem dyn_49:fn49.dyn=fun _ => []:=id rfl
@[simp] theorem opn_49:fn49.opn=fun _ => none:=id rfl
@[simp] theorem keep_49 (i):fn49.keep i=kp49 i:=rfl
attribute [simp] kp49
@[simp] theorem ntmps_50:fn50.ntmps=66:=rfl
@[simp] theorem results_50:fn50.results=[.tmp 4]:=rfl
theorem body_50:fn50.body=c50:=rfl
@[simp] theorem dyn_50:fn50.dyn=fun _ => []:=id rfl
@[simp] theorem opn_50:fn50.opn=fun _ => none:=id rfl
@[simp] theorem keep_50 (i):fn50.keep i=kp50 i:=rfl
attribute [simp] kp50
@[simp] theorem head_50_3:fn50.head 3=some [1,2,5,6]:=rfl
@[simp] theorem head_50_9:fn50.head 9=some [1,2,5,6,7,8]:=rfl
@[simp] theorem ntmps_51:fn51.ntmps=18:=rfl
@[simp] theorem results_51:fn51.results=[.tmp 2,.tmp 3]:=rfl
theorem body_51:fn51.body=c51:=rfl
@[simp] theorem dyn_51:fn51.dyn=fun _ => []:=id rfl
@[simp] theorem opn_51:fn51.opn=fun _ => none:=id rfl
@[simp] theorem keep_51 (i):fn51.keep i=kp51 i:=rfl
attribute [simp] kp51
@[simp] theorem ntmps_52:fn52.ntmps=19:=rfl
@[simp] theorem results_52:fn52.results=[.tmp 2,.tmp 3]:=rfl
theorem body_52:fn52.body=c52:=rfl
@[simp] theorem dyn_52:fn52.dyn=fun _ => []:=id rfl
@[simp] theorem opn_52:fn52.opn=fun _ => none:=id rfl
@[simp] theorem keep_52 (i):fn52.keep i=kp52 i:=rfl
attribute [simp] kp52
@[simp] theorem ntmps_53:fn53.ntmps=14:=rfl
@[simp] theorem results_53:fn53.results=[.tmp 2,.tmp 3]:=rfl
theorem body_53:fn53.body=c53:=rfl
@[simp] theorem dyn_53:fn53.dyn=fun _ => []:=id rfl
@[simp] theorem opn_53:fn53.opn=fun _ => none:=id rfl
@[simp] theorem keep_53 (i):fn53.keep i=kp53 i:=rfl
attribute [simp] kp53
@[simp] theorem ntmps_65:fn65.ntmps=88:=rfl
@[simp] theorem results_65:fn65.results=[.tmp 2]:=rfl
theorem body_65:fn65.body=c65:=rfl
@[simp] theorem dyn_65:fn65.dyn=fun _ => []:=id rfl
@[simp] theorem opn_65:fn65.opn=fun _ => none:=id rfl
@[simp] theorem keep_65 (i):fn65.keep i=kp65 i:=rfl
attribute [simp] kp65
@[simp] theorem head_65_3:fn65.head 3=some [1,3,4]:=rfl
@[simp] theorem head_65_17:fn65.head 17=some [3,6,8,9]:=rfl
@[simp] theorem ntmps_69:fn69.ntmps=83:=rfl
@[simp] theorem results_69:fn69.results=[.tmp 6,.cell 7 41]:=rfl
theorem body_69:fn69.body=c69:=rfl
@[simp] theorem dyn_69:fn69.dyn=fun _ => []:=id rfl
@[simp] theorem opn_69:fn69.opn=opnT:=id rfl
@[simp] theorem keep_69 (i):fn69.keep i=kp69 i:=rfl
attribute [simp] kp69
@[simp] theorem head_69_8:fn69.head 8=some [3,7,8,9,27,28,29]:=rfl
@[simp] theorem ntmps_73:fn73.ntmps=13:=rfl
@[simp] theorem results_73:fn73.results=[.tmp 2,.cell 3 3,.cell 4 3]:=rfl
theorem body_73:fn73.body=c73:=rfl
@[simp] theorem dyn_73_4:fn73.dyn 4=[(1,3)]:=id rfl
@[simp] theorem opn_73:fn73.opn=opnT:=id rfl
@[simp] theorem keep_73 (i):fn73.keep i=kp73 i:=rfl
attribute [simp] kp73
@[simp] theorem ntmps_82:fn82.ntmps=27:=rfl
@[simp] theorem results_82:fn82.results=[.cell 4 41]:=rfl
theorem body_82:fn82.body=c82:=rfl
@[simp] theorem dyn_82:fn82.dyn=fun _ => []:=id rfl
@[simp] theorem opn_82:fn82.opn=fun _ => none:=id rfl
@[simp] theorem keep_82 (i):fn82.keep i=kp82 i:=rfl
attribute [simp] kp82
@[simp] theorem ntmps_85:fn85.ntmps=29:=rfl
@[simp] theorem results_85:fn85.results=[.tmp 2]:=rfl
theorem body_85:fn85.body=c85:=rfl
@[simp] theorem dyn_85:fn85.dyn=fun _ => []:=id rfl
@[simp] theorem opn_85:fn85.opn=fun _ => none:=id rfl
@[simp] theorem keep_85 (i):fn85.keep i=kp85 i:=rfl
attribute [simp] kp85
@[simp] theorem head_85_3:fn85.head 3=some [3,10,11]:=rfl
@[simp] theorem ntmps_86:fn86.ntmps=23:=rfl
@[simp] theorem results_86:fn86.results=[.tmp 4]:=rfl
theorem body_86:fn86.body=c86:=rfl
@[simp] theorem dyn_86:fn86.dyn=fun _ => []:=id rfl
@[simp] theorem opn_86:fn86.opn=fun _ => none:=id rfl
@[simp] theorem keep_86 (i):fn86.keep i=kp86 i:=rfl
attribute [simp] kp86
@[simp] theorem ntmps_87:fn87.ntmps=6:=rfl
@[simp] theorem results_87:fn87.results=[.cell 2 25]:=rfl
theorem body_87:fn87.body=c87:=rfl
@[simp] theorem dyn_87:fn87.dyn=fun _ => []:=id rfl
@[simp] theorem opn_87:fn87.opn=fun _ => none:=id rfl
@[simp] theorem keep_87 (i):fn87.keep i=kp87 i:=rfl
attribute [simp] kp87
@[simp] theorem ntmps_88:fn88.ntmps=22:=rfl
@[simp] theorem results_88:fn88.results=[.tmp 2,.tmp 3]:=rfl
theorem body_88:fn88.body=c88:=rfl
@[simp] theorem dyn_88:fn88.dyn=fun _ => []:=id rfl
@[simp] theorem opn_88:fn88.opn=fun _ => none:=id rfl
@[simp] theorem keep_88 (i):fn88.keep i=kp88 i:=rfl
attribute [simp] kp88
@[simp] theorem ntmps_89:fn89.ntmps=25:=rfl
@[simp] theorem results_89:fn89.results=[.tmp 2]:=rfl
theorem body_89:fn89.body=c89:=rfl
@[simp] theorem dyn_89:fn89.dyn=fun _ => []:=id rfl
@[simp] theorem opn_89:fn89.opn=fun _ => none:=id rfl
@[simp] theorem keep_89 (i):fn89.keep i=kp89 i:=rfl
attribute [simp] kp89
@[simp] theorem head_89_3:fn89.head 3=some [0,3,6]:=rfl
@[simp] theorem head_89_8:fn89.head 8=some [5]:=rfl
@[simp] theorem ntmps_90:fn90.ntmps=9:=rfl
@[simp] theorem results_90:fn90.results=[.tmp 2]:=rfl
theorem body_90:fn90.body=c90:=rfl
@[simp] theorem dyn_90:fn90.dyn=fun _ => []:=id rfl
@[simp] theorem opn_90:fn90.opn=fun _ => none:=id rfl
@[simp] theorem keep_90 (i):fn90.keep i=kp90 i:=rfl
attribute [simp] kp90
@[simp] theorem ntmps_91:fn91.ntmps=35:=rfl
@[simp] theorem results_91:fn91.results=[.cell 4 82,.tmp 5,.tmp 6]:=rfl
theorem body_91:fn91.body=c91:=rfl
@[simp] theorem dyn_91:fn91.dyn=fun _ => []:=id rfl
@[simp] theorem opn_91:fn91.opn=opnT:=id rfl
@[simp] theorem keep_91 (i):fn91.keep i=kp91 i:=rfl
attribute [simp] kp91
@[simp] theorem ntmps_92:fn92.ntmps=35:=rfl
@[simp] theorem results_92:fn92.results=[.tmp 4,.tmp 5,.tmp 6]:=rfl
theorem body_92:fn92.body=c92:=rfl
@[simp] theorem dyn_92:fn92.dyn=fun _ => []:=id rfl
@[simp] theorem opn_92:fn92.opn=opnT:=id rfl
@[simp] theorem keep_92 (i):fn92.keep i=kp92 i:=rfl
attribute [simp] kp92
@[simp] theorem ntmps_93:fn93.ntmps=20:=rfl
@[simp] theorem results_93:fn93.results=[.tmp 2,.cell 3 41]:=rfl
theorem body_93:fn93.body=c93:=rfl
@[simp] theorem dyn_93:fn93.dyn=fun _ => []:=id rfl
@[simp] theorem opn_93:fn93.opn=fun _ => none:=id rfl
@[simp] theorem keep_93 (i):fn93.keep i=kp93 i:=rfl
attribute [simp] kp93
@[simp] theorem ntmps_94:fn94.ntmps=22:=rfl
@[simp] theorem results_94:fn94.results=[.cell 2 29,.cell 3 3,.cell 4 3,.cell 5 39]:=rfl
@[simp] theorem dyn_94_6:fn94.dyn 6=[(1,2)]:=id rfl
@[simp] theorem opn_94:fn94.opn=opnT:=id rfl
@[simp] theorem keep_94_0:fn94.keep 0=some [0,2,3,4,5]:=rfl
@[simp] theorem keep_94_1:fn94.keep 1=some [0,2,3,4,5,9]:=rfl
@[simp] theorem keep_94_2:fn94.keep 2=some [2,3,4,5]:=rfl
@[simp] theorem keep_94_3:fn94.keep 3=some [0,2,3,4,5]:=rfl
@[simp] theorem keep_94_4:fn94.keep 4=some [0,2,3,4,5,6]:=rfl
@[simp] theorem keep_94_5:fn94.keep 5=some [2,3,4,5]:=rfl
@[simp] theorem keep_94_6:fn94.keep 6=some [2,3,4,5]:=rfl
@[simp] theorem ntmps_95:fn95.ntmps=19:=rfl
@[simp] theorem results_95:fn95.results=[.tmp 2,.tmp 3]:=rfl
theorem body_95:fn95.body=c95:=rfl
@[simp] theorem dyn_95_7:fn95.dyn 7=[(3,3)]:=id rfl
@[simp] theorem opn_95:fn95.opn=opnT:=id rfl
@[simp] theorem keep_95 (i):fn95.keep i=kp95 i:=rfl
attribute [simp] kp95
@[simp] theorem ntmps_96:fn96.ntmps=38:=rfl
@[simp] theorem results_96:fn96.results=[.tmp 2,.tmp 3]:=rfl
theorem body_96:fn96.body=c96:=rfl
@[simp] theorem dyn_96:fn96.dyn=fun _ => []:=id rfl
@[simp] theorem opn_96:fn96.opn=fun _ => none:=id rfl
@[simp] theorem keep_96 (i):fn96.keep i=kp96 i:=rfl
attribute [simp] kp96
@[simp] theorem head_96_7:fn96.head 7=some [4,25,26,27]:=rfl
@[simp] theorem ntmps_97:fn97.ntmps=9:=rfl
@[simp] theorem results_97:fn97.results=[.tmp 2]:=rfl
theorem body_97:fn97.body=c97:=rfl
@[simp] theorem dyn_97:fn97.dyn=fun _ => []:=id rfl
@[simp] theorem opn_97:fn97.opn=fun _ => none:=id rfl
@[simp] theorem keep_97 (i):fn97.keep i=kp97 i:=rfl
attribute [simp] kp97
@[simp] theorem ntmps_102:fn102.ntmps=21:=rfl
@[simp] theorem results_102:fn102.results=[.tmp 4,.tmp 5]:=rfl
theorem body_102:fn102.body=c102:=rfl
@[simp] theorem dyn_102:fn102.dyn=fun _ => []:=id rfl
@[simp] theorem opn_102:fn102.opn=fun _ => none:=id rfl
@[simp] theorem keep_102 (i):fn102.keep i=kp102 i:=rfl
attribute [simp] kp102
@[simp] theorem ntmps_112:fn112.ntmps=22:=rfl
@[simp] theorem results_112:fn112.results=[.tmp 2]:=rfl
theorem body_112:fn112.body=c112:=rfl
@[simp] theorem dyn_112:fn112.dyn=fun _ => []:=id rfl
@[simp] theorem opn_112:fn112.opn=fun _ => none:=id rfl
@[simp] theorem keep_112 (i):fn112.keep i=kp112 i:=rfl
attribute [simp] kp112
@[simp] theorem head_112_3:fn112.head 3=some [0,3]:=rfl
@[simp] theorem ntmps_113:fn113.ntmps=9:=rfl
@[simp] theorem results_113:fn113.results=[.tmp 2]:=rfl
theorem body_113:fn113.body=c113:=rfl
@[simp] theorem dyn_113:fn113.dyn=fun _ => []:=id rfl
@[simp] theorem opn_113:fn113.opn=fun _ => none:=id rfl
@[simp] theorem keep_113 (i):fn113.keep i=kp113 i:=rfl
attribute [simp] kp113
@[simp] theorem ntmps_114:fn114.ntmps=9:=rfl
@[simp] theorem results_114:fn114.results=[.cell 4 41]:=rfl
theorem body_114:fn114.body=c114:=rfl
@[simp] theorem dyn_114:fn114.dyn=fun _ => []:=id rfl
@[simp] theorem opn_114:fn114.opn=fun _ => none:=id rfl
@[simp] theorem keep_114 (i):fn114.keep i=kp114 i:=rfl
attribute [simp] kp114
@[simp] theorem ntmps_115:fn115.ntmps=14:=rfl
@[simp] theorem results_115:fn115.results=[.tmp 4]:=rfl
theorem body_115:fn115.body=c115:=rfl
@[simp] theorem dyn_115:fn115.dyn=fun _ => []:=id rfl
@[simp] theorem opn_115:fn115.opn=fun _ => none:=id rfl
@[simp] theorem keep_115 (i):fn115.keep i=kp115 i:=rfl
attribute [simp] kp115
@[simp] theorem ntmps_119:fn119.ntmps=10:=rfl
@[simp] theorem results_119:fn119.results=[.tmp 4]:=rfl
theorem body_119:fn119.body=c119:=rfl
@[simp] theorem dyn_119:fn119.dyn=fun _ => []:=id rfl
@[simp] theorem opn_119:fn119.opn=opnT:=id rfl
@[simp] theorem keep_119 (i):fn119.keep i=kp119 i:=rfl
attribute [simp] kp119
@[simp] theorem ntmps_120:fn120.ntmps=47:=rfl
@[simp] theorem results_120:fn120.results=[.tmp 6]:=rfl
theorem body_120:fn120.body=c120:=rfl
@[simp] theorem dyn_120:fn120.dyn=fun _ => []:=id rfl
@[simp] theorem opn_120:fn120.opn=fun _ => none:=id rfl
@[simp] theorem keep_120 (i):fn120.keep i=kp120 i:=rfl
attribute [simp] kp120
@[simp] theorem ntmps_121:fn121.ntmps=24:=rfl
@[simp] theorem results_121:fn121.results=[.tmp 2]:=rfl
theorem body_121:fn121.body=c121:=rfl
@[simp] theorem dyn_121:fn121.dyn=fun _ => []:=id rfl
@[simp] theorem opn_121:fn121.opn=fun _ => none:=id rfl
@[simp] theorem keep_121 (i):fn121.keep i=kp121 i:=rfl
attribute [simp] kp121
@[simp] theorem ntmps_127:fn127.ntmps=87:=rfl
@[simp] theorem results_127:fn127.results=[.tmp 6,.tmp 7]:=rfl
theorem body_127:fn127.body=c127:=rfl
@[simp] theorem opn_127:fn127.opn=fun _ => none:=id rfl
@[simp] theorem keep_127 (i):fn127.keep i=kp127 i:=rfl
attribute [simp] kp127
@[simp] theorem head_127_2:fn127.head 2=some [0,1,2,8]:=rfl
@[simp] theorem ntmps_128:fn128.ntmps=33:=rfl
@[simp] theorem results_128:fn128.results=[.cell 2 25]:=rfl
theorem body_128:fn128.body=c128:=rfl
@[simp] theorem dyn_128:fn128.dyn=fun _ => []:=id rfl
@[simp] theorem opn_128:fn128.opn=fun _ => none:=id rfl
@[simp] theorem keep_128 (i):fn128.keep i=kp128 i:=rfl
attribute [simp] kp128
@[simp] theorem ntmps_130:fn130.ntmps=30:=rfl
@[simp] theorem results_130:fn130.results=[.tmp 2]:=rfl
theorem body_130:fn130.body=c130:=rfl
@[simp] theorem dyn_130:fn130.dyn=fun _ => []:=id rfl
@[simp] theorem opn_130:fn130.opn=fun _ => none:=id rfl
@[simp] theorem keep_130 (i):fn130.keep i=kp130 i:=rfl
attribute [simp] kp130
@[simp] theorem ntmps_131:fn131.ntmps=9:=rfl
@[simp] theorem results_131:fn131.results=[.tmp 2]:=rfl
theorem body_131:fn131.body=c131:=rfl
@[simp] theorem dyn_131:fn131.dyn=fun _ => []:=id rfl
@[simp] theorem opn_131:fn131.opn=fun _ => none:=id rfl
@[simp] theorem keep_131 (i):fn131.keep i=kp131 i:=rfl
attribute [simp] kp131
@[simp] theorem ntmps_132:fn132.ntmps=23:=rfl
@[simp] theorem results_132:fn132.results=[]:=rfl
theorem body_132:fn132.body=c132:=rfl
@[simp] theorem dyn_132_5:fn132.dyn 5=[(2,5),(4,5),(2,6),(4,6),(4,7)]:=id rfl
@[simp] theorem opn_132:fn132.opn=fun _ => none:=id rfl
@[simp] theorem keep_132 (i):fn132.keep i=kp132 i:=rfl
attribute [simp] kp132
@[simp] theorem ntmps_133:fn133.ntmps=151:=rfl
@[simp] theorem results_133:fn133.results=[.cell 8 29,.tmp 9]:=rfl
theorem body_133:fn133.body=c133:=rfl
@[simp] theorem dyn_133:fn133.dyn=fun _ => []:=id rfl
@[simp] theorem opn_133:fn133.opn=opnT:=id rfl
@[simp] theorem keep_133 (i):fn133.keep i=kp133 i:=rfl
attribute [simp] kp133
@[simp] theorem head_133_25:fn133.head 25=some [0,1,2,3,8,14]:=rfl
@[simp] theorem ntmps_134:fn134.ntmps=14:=rfl
@[simp] theorem results_134:fn134.results=[.tmp 2]:=rfl
theorem body_134:fn134.body=c134:=rfl
@[simp] theorem dyn_134:fn134.dyn=fun _ => []:=id rfl
@[simp] theorem opn_134:fn134.opn=fun _ => none:=id rfl
@[simp] theorem keep_134 (i):fn134.keep i=kp134 i:=rfl
attribute [simp] kp134
@[simp] theorem ntmps_135:fn135.ntmps=44:=rfl
@[simp] theorem results_135:fn135.results=[.tmp 4]:=rfl
theorem body_135:fn135.body=c135:=rfl
@[simp] theorem dyn_135:fn135.dyn=fun _ => []:=id rfl
@[simp] theorem opn_135:fn135.opn=opnT:=id rfl
@[simp] theorem keep_135 (i):fn135.keep i=kp135 i:=rfl
attribute [simp] kp135
@[simp] theorem head_135_6:fn135.head 6=some [0,33,34,35]:=rfl
@[simp] theorem ntmps_140:fn140.ntmps=49:=rfl
@[simp] theorem results_140:fn140.results=[.tmp 4,.tmp 5]:=rfl
theorem body_140:fn140.body=c140:=rfl
@[simp] theorem dyn_140:fn140.dyn=fun _ => []:=id rfl
@[simp] theorem opn_140:fn140.opn=fun _ => none:=id rfl
@[simp] theorem keep_140 (i):fn140.keep i=kp140 i:=rfl
attribute [simp] kp140
@[simp] theorem head_140_6:fn140.head 6=some [2,8,21,22,23]:=rfl
@[simp] theorem ntmps_147:fn147.ntmps=21:=rfl
@[simp] theorem results_147:fn147.results=[.cell 4 29,.tmp 5]:=rfl
theorem body_147:fn147.body=c147:=rfl
@[simp] theorem dyn_147:fn147.dyn=fun _ => []:=id rfl
@[simp] theorem opn_147:fn147.opn=fun _ => none:=id rfl
@[simp] theorem keep_147 (i):fn147.keep i=kp147 i:=rfl
attribute [simp] kp147
@[simp] theorem ntmps_152:fn152.ntmps=34:=rfl
@[simp] theorem results_152:fn152.results=[.tmp 6]:=rfl
theorem body_152:fn152.body=c152:=rfl
@[simp] theorem dyn_152:fn152.dyn=fun _ => []:=id rfl
@[simp] theorem opn_152:fn152.opn=opnT:=id rfl
@[simp] theorem keep_152 (i):fn152.keep i=kp152 i:=rfl
attribute [simp] kp152
@[simp] theorem head_152_5:fn152.head 5=some [1,3,19,20,21]:=rfl
@[simp] theorem ntmps_153:fn153.ntmps=44:=rfl
@[simp] theorem results_153:fn153.results=[.cell 2 25,.tmp 3,.tmp 4]:=rfl
theorem body_153:fn153.body=c153:=rfl
@[simp] theorem dyn_153:fn153.dyn=fun _ => []:=id rfl
@[simp] theorem opn_153:fn153.opn=fun _ => none:=id rfl
@[simp] theorem keep_153 (i):fn153.keep i=kp153 i:=rfl
attribute [simp] kp153
@[simp] theorem ntmps_154:fn154.ntmps=65:=rfl
@[simp] theorem results_154:fn154.results=[.tmp 2,.tmp 3,.tmp 4]:=rfl
theorem body_154:fn154.body=c154:=rfl
@[simp] theorem dyn_154:fn154.dyn=fun _ => []:=id rfl
@[simp] theorem opn_154:fn154.opn=fun _ => none:=id rfl
@[simp] theorem keep_154 (i):fn154.keep i=kp154 i:=rfl
attribute [simp] kp154
@[simp] theorem ntmps_155:fn155.ntmps=8:=rfl
@[simp] theorem results_155:fn155.results=[.tmp 2]:=rfl
theorem body_155:fn155.body=c155:=rfl
@[simp] theorem dyn_155:fn155.dyn=fun _ => []:=id rfl
@[simp] theorem opn_155:fn155.opn=fun _ => none:=id rfl
@[simp] theorem keep_155 (i):fn155.keep i=kp155 i:=rfl
attribute [simp] kp155
@[simp] theorem ntmps_156:fn156.ntmps=27:=rfl
@[simp] theorem results_156:fn156.results=[.tmp 2]:=rfl
theorem body_156:fn156.body=c156:=rfl
@[simp] theorem dyn_156:fn156.dyn=fun _ => []:=id rfl
@[simp] theorem opn_156:fn156.opn=fun _ => none:=id rfl
@[simp] theorem keep_156 (i):fn156.keep i=kp156 i:=rfl
attribute [simp] kp156
@[simp] theorem head_156_5:fn156.head 5=some [3,14,15,16]:=rfl
@[simp] theorem ntmps_157:fn157.ntmps=22:=rfl
@[simp] theorem results_157:fn157.results=[.tmp 4]:=rfl
theorem body_157:fn157.body=c157:=rfl
@[simp] theorem dyn_157:fn157.dyn=fun _ => []:=id rfl
@[simp] theorem opn_157:fn157.opn=fun _ => none:=id rfl
@[simp] theorem keep_157 (i):fn157.keep i=kp157 i:=rfl
attribute [simp] kp157
@[simp] theorem ntmps_158:fn158.ntmps=12:=rfl
@[simp] theorem results_158:fn158.results=[.tmp 2]:=rfl
theorem body_158:fn158.body=c158:=rfl
@[simp] theorem dyn_158:fn158.dyn=fun _ => []:=id rfl
@[simp] theorem opn_158:fn158.opn=fun _ => none:=id rfl
@[simp] theorem keep_158 (i):fn158.keep i=kp158 i:=rfl
attribute [simp] kp158
@[simp] theorem ntmps_159:fn159.ntmps=42:=rfl
@[simp] theorem results_159:fn159.results=[.tmp 2,.tmp 3]:=rfl
theorem body_159:fn159.body=c159:=rfl
@[simp] theorem dyn_159:fn159.dyn=fun _ => []:=id rfl
@[simp] theorem opn_159:fn159.opn=fun _ => none:=id rfl
@[simp] theorem keep_159 (i):fn159.keep i=kp159 i:=rfl
attribute [simp] kp159
@[simp] theorem ntmps_160:fn160.ntmps=50:=rfl
@[simp] theorem results_160:fn160.results=[.tmp 2,.tmp 3]:=rfl
theorem body_160:fn160.body=c160:=rfl
@[simp] theorem dyn_160:fn160.dyn=fun _ => []:=id rfl
@[simp] theorem opn_160:fn160.opn=fun _ => none:=id rfl
@[simp] theorem keep_160 (i):fn160.keep i=kp160 i:=rfl
attribute [simp] kp160
@[simp] theorem ntmps_161:fn161.ntmps=24:=rfl
@[simp] theorem results_161:fn161.results=[.tmp 2]:=rfl
theorem body_161:fn161.body=c161:=rfl
@[simp] theorem dyn_161:fn161.dyn=fun _ => []:=id rfl
@[simp] theorem opn_161:fn161.opn=fun _ => none:=id rfl
@[simp] theorem keep_161 (i):fn161.keep i=kp161 i:=rfl
attribute [simp] kp161
@[simp] theorem head_161_2:fn161.head 2=some [2,7,8,9]:=rfl
@[simp] theorem ntmps_167:fn167.ntmps=43:=rfl
@[simp] theorem results_167:fn167.results=[.tmp 2,.tmp 3,.tmp 4]:=rfl
theorem body_167:fn167.body=c167:=rfl
@[simp] theorem dyn_167:fn167.dyn=fun _ => []:=id rfl
@[simp] theorem opn_167:fn167.opn=fun _ => none:=id rfl
@[simp] theorem keep_167 (i):fn167.keep i=kp167 i:=rfl
attribute [simp] kp167
@[simp] theorem head_167_3:fn167.head 3=some [0,2,3]:=rfl
@[simp] theorem ntmps_168:fn168.ntmps=12:=rfl
@[simp] theorem results_168:fn168.results=[.tmp 2]:=rfl
theorem body_168:fn168.body=c168:=rfl
@[simp] theorem dyn_168:fn168.dyn=fun _ => []:=id rfl
@[simp] theorem opn_168:fn168.opn=fun _ => none:=id rfl
@[simp] theorem keep_168 (i):fn168.keep i=kp168 i:=rfl
attribute [simp] kp168
@[simp] theorem ntmps_169:fn169.ntmps=4:=rfl
@[simp] theorem results_169:fn169.results=[.tmp 2]:=rfl
theorem body_169:fn169.body=c169:=rfl
@[simp] theorem dyn_169:fn169.dyn=fun _ => []:=id rfl
@[simp] theorem opn_169:fn169.opn=fun _ => none:=id rfl
@[simp] theorem keep_169 (i):fn169.keep i=kp169 i:=rfl
attribute [simp] kp169
@[simp] theorem ntmps_181:fn181.ntmps=29:=rfl
@[simp] theorem results_181:fn181.results=[]:=rfl
theorem body_181:fn181.body=c181:=rfl
@[simp] theorem dyn_181:fn181.dyn=fun _ => []:=id rfl
@[simp] theorem opn_181:fn181.opn=opnT:=id rfl
@[simp] theorem keep_181 (i):fn181.keep i=kp181 i:=rfl
attribute [simp] kp181
@[simp] theorem head_181_1:fn181.head 1=some [0,1,3]:=rfl
@[simp] theorem head_181_3:fn181.head 3=some [0,1,3]:=rfl
@[simp] theorem E_fn9:E.fn 9=some fn9:=rfl
@[simp] theorem E_grd9:E.grd 9=none:=id rfl
@[simp] theorem opnT_9:opnT 9=none:=id rfl
@[simp] theorem E_fn10:E.fn 10=some fn10:=rfl
@[simp] theorem E_grd10:E.grd 10=none:=id rfl
@[simp] theorem opnT_10:opnT 10=none:=id rfl
@[simp] theorem E_fn20:E.fn 20=some fn20:=rfl
@[simp] theorem E_grd20:E.grd 20=none:=id rfl
@[simp] theorem opnT_20:opnT 20=none:=id rfl
@[simp] theorem E_fn22:E.fn 22=some fn22:=rfl
@[simp] theorem E_grd22:E.grd 22=none:=id rfl
@[simp] theorem opnT_22:opnT 22=none:=id rfl
@[simp] theorem E_fn35:E.fn 35=some fn35:=rfl
@[simp] theorem E_grd35:E.grd 35=none:=id rfl
@[simp] theorem opnT_35:opnT 35=none:=id rfl
@[simp] theorem E_fn36:E.fn 36=some fn36:=rfl
@[simp] theorem E_grd36:E.grd 36=none:=id rfl
@[simp] theorem opnT_36:opnT 36=none:=id rfl
@[simp] theorem E_fn40:E.fn 40=some fn40:=rfl
@[simp] theorem E_grd40:E.grd 40=none:=id rfl
@[simp] theorem opnT_40:opnT 40=some ([false,true,false],true):=id rfl
@[simp] theorem E_fn41:E.fn 41=some fn41:=rfl
@[simp] theorem E_grd41:E.grd 41=none:=id rfl
@[simp] theorem opnT_41:opnT 41=none:=id rfl
@[simp] theorem E_fn42:E.fn 42=some fn42:=rfl
@[simp] theorem E_grd42:E.grd 42=none:=id rfl
@[simp] theorem opnT_42:opnT 42=none:=id rfl
@[simp] theorem E_fn43:E.fn 43=some fn43:=rfl
@[simp] theorem E_grd43:E.grd 43=none:=id rfl
@[simp] theorem opnT_43:opnT 43=none:=id rfl
@[simp] theorem E_fn44:E.fn 44=some fn44:=rfl
@[simp] theorem E_grd44:E.grd 44=none:=id rfl
@[simp] theorem opnT_44:opnT 44=none:=id rfl
@[simp] theorem E_fn45:E.fn 45=some fn45:=rfl
@[simp] theorem E_grd45:E.grd 45=none:=id rfl
@[simp] theorem opnT_45:opnT 45=none:=id rfl
@[simp] theorem E_fn46:E.fn 46=some fn46:=rfl
@[simp] theorem E_grd46:E.grd 46=none:=id rfl
@[simp] theorem opnT_46:opnT 46=none:=id rfl
@[simp] theorem E_fn47:E.fn 47=some fn47:=rfl
@[simp] theorem E_grd47:E.grd 47=none:=id rfl
@[simp] theorem opnT_47:opnT 47=none:=id rfl
@[simp] theorem E_fn48:E.fn 48=some fn48:=rfl
@[simp] theorem E_grd48:E.grd 48=none:=id rfl
@[simp] theorem opnT_48:opnT 48=none:=id rfl
@[simp] theorem E_fn49:E.fn 49=some fn49:=rfl
@[simp] theorem E_grd49:E.grd 49=none:=id rfl
@[simp] theorem opnT_49:opnT 49=none:=id rfl
@[simp] theorem E_fn50:E.fn 50=some fn50:=rfl
@[simp] theorem E_grd50:E.grd 50=none:=id rfl
@[simp] theorem opnT_50:opnT 50=none:=id rfl
@[simp] theorem E_fn51:E.fn 51=some fn51:=rfl
@[simp] theorem E_grd51:E.grd 51=none:=id rfl
@[simp] theorem opnT_51:opnT 51=none:=id rfl
@[simp] theorem E_fn52:E.fn 52=some fn52:=rfl
@[simp] theorem E_grd52:E.grd 52=none:=id rfl
@[simp] theorem opnT_52:opnT 52=none:=id rfl
@[simp] theorem E_fn53:E.fn 53=some fn53:=rfl
@[simp] theorem E_grd53:E.grd 53=none:=id rfl
@[simp] theorem opnT_53:opnT 53=none:=id rfl
@[simp] theorem E_fn65:E.fn 65=some fn65:=rfl
@[simp] theorem E_grd65:E.grd 65=none:=id rfl
@[simp] theorem opnT_65:opnT 65=none:=id rfl
@[simp] theorem E_fn69:E.fn 69=some fn69:=rfl
@[simp] theorem E_grd69:E.grd 69=none:=id rfl
@[simp] theorem opnT_69:opnT 69=none:=id rfl
@[simp] theorem E_fn73:E.fn 73=some fn73:=rfl
@[simp] theorem E_grd73:E.grd 73=none:=id rfl
@[simp] theorem opnT_73:opnT 73=none:=id rfl
@[simp] theorem E_fn82:E.fn 82=some fn82:=rfl
@[simp] theorem E_grd82:E.grd 82=none:=id rfl
@[simp] theorem opnT_82:opnT 82=none:=id rfl
@[simp] theorem E_fn85:E.fn 85=some fn85:=rfl
@[simp] theorem E_grd85:E.grd 85=none:=id rfl
@[simp] theorem opnT_85:opnT 85=none:=id rfl
@[simp] theorem E_fn86:E.fn 86=some fn86:=rfl
@[simp] theorem E_grd86:E.grd 86=none:=id rfl
@[simp] theorem opnT_86:opnT 86=none:=id rfl
@[simp] theorem E_fn87:E.fn 87=some fn87:=rfl
@[simp] theorem E_grd87:E.grd 87=none:=id rfl
@[simp] theorem opnT_87:opnT 87=none:=id rfl
@[simp] theorem E_fn88:E.fn 88=some fn88:=rfl
@[simp] theorem E_grd88:E.grd 88=none:=id rfl
@[simp] theorem opnT_88:opnT 88=none:=id rfl
@[simp] theorem E_fn89:E.fn 89=some fn89:=rfl
@[simp] theorem E_grd89:E.grd 89=none:=id rfl
@[simp] theorem opnT_89:opnT 89=none:=id rfl
@[simp] theorem E_fn90:E.fn 90=some fn90:=rfl
@[simp] theorem E_grd90:E.grd 90=none:=id rfl
@[simp] theorem opnT_90:opnT 90=none:=id rfl
@[simp] theorem E_fn91:E.fn 91=some fn91:=rfl
@[simp] theorem E_grd91:E.grd 91=none:=id rfl
@[simp] theorem opnT_91:opnT 91=some ([false,true],true):=id rfl
@[simp] theorem E_fn92:E.fn 92=some fn92:=rfl
@[simp] theorem E_grd92:E.grd 92=none:=id rfl
@[simp] theorem opnT_92:opnT 92=some ([false,true],true):=id rfl
@[simp] theorem E_fn93:E.fn 93=some fn93:=rfl
@[simp] theorem E_grd93:E.grd 93=none:=id rfl
@[simp] theorem opnT_93:opnT 93=none:=id rfl
@[simp] theorem E_fn94:E.fn 94=some fn94:=rfl
@[simp] theorem E_grd94:E.grd 94=some grd94:=id rfl
@[simp] theorem opnT_94:opnT 94=none:=id rfl
@[simp] theorem E_fn95:E.fn 95=some fn95:=rfl
@[simp] theorem E_grd95:E.grd 95=none:=id rfl
@[simp] theorem opnT_95:opnT 95=none:=id rfl
@[simp] theorem E_fn96:E.fn 96=some fn96:=rfl
@[simp] theorem E_grd96:E.grd 96=none:=id rfl
@[simp] theorem opnT_96:opnT 96=none:=id rfl
@[simp] theorem E_fn97:E.fn 97=some fn97:=rfl
@[simp] theorem E_grd97:E.grd 97=none:=id rfl
@[simp] theorem opnT_97:opnT 97=none:=id rfl
@[simp] theorem E_fn102:E.fn 102=some fn102:=rfl
@[simp] theorem E_grd102:E.grd 102=none:=id rfl
@[simp] theorem opnT_102:opnT 102=none:=id rfl
@[simp] theorem E_fn112:E.fn 112=some fn112:=rfl
@[simp] theorem E_grd112:E.grd 112=none:=id rfl
@[simp] theorem opnT_112:opnT 112=none:=id rfl
@[simp] theorem E_fn113:E.fn 113=some fn113:=rfl
@[simp] theorem E_grd113:E.grd 113=none:=id rfl
@[simp] theorem opnT_113:opnT 113=none:=id rfl
@[simp] theorem E_fn114:E.fn 114=some fn114:=rfl
@[simp] theorem E_grd114:E.grd 114=none:=id rfl
@[simp] theorem opnT_114:opnT 114=none:=id rfl
@[simp] theorem E_fn115:E.fn 115=some fn115:=rfl
@[simp] theorem E_grd115:E.grd 115=none:=id rfl
@[simp] theorem opnT_115:opnT 115=none:=id rfl
@[simp] theorem E_fn119:E.fn 119=some fn119:=rfl
@[simp] theorem E_grd119:E.grd 119=none:=id rfl
@[simp] theorem opnT_119:opnT 119=some ([false,true],true):=id rfl
@[simp] theorem E_fn120:E.fn 120=some fn120:=rfl
@[simp] theorem E_grd120:E.grd 120=none:=id rfl
@[simp] theorem opnT_120:opnT 120=some ([false,false,true,true],true):=id rfl
@[simp] theorem E_fn121:E.fn 121=some fn121:=rfl
@[simp] theorem E_grd121:E.grd 121=none:=id rfl
@[simp] theorem opnT_121:opnT 121=none:=id rfl
@[simp] theorem E_fn127:E.fn 127=some fn127:=rfl
@[simp] theorem E_grd127:E.grd 127=none:=id rfl
@[simp] theorem opnT_127:opnT 127=none:=id rfl
@[simp] theorem E_fn128:E.fn 128=some fn128:=rfl
@[simp] theorem E_grd128:E.grd 128=none:=id rfl
@[simp] theorem opnT_128:opnT 128=none:=id rfl
@[simp] theorem E_fn130:E.fn 130=some fn130:=rfl
@[simp] theorem E_grd130:E.grd 130=none:=id rfl
@[simp] theorem opnT_130:opnT 130=none:=id rfl
@[simp] theorem E_fn131:E.fn 131=some fn131:=rfl
@[simp] theorem E_grd131:E.grd 131=none:=id rfl
@[simp] theorem opnT_131:opnT 131=none:=id rfl
@[simp] theorem E_fn132:E.fn 132=some fn132:=rfl
@[simp] theorem E_grd132:E.grd 132=none:=id rfl
@[simp] theorem opnT_132:opnT 132=some ([true,true,true,true],true):=id rfl
@[simp] theorem E_fn133:E.fn 133=some fn133:=rfl
@[simp] theorem E_grd133:E.grd 133=none:=id rfl
@[simp] theorem opnT_133:opnT 133=some ([true,false,false,false],true):=id rfl
@[simp] theorem E_fn134:E.fn 134=some fn134:=rfl
@[simp] theorem E_grd134:E.grd 134=none:=id rfl
@[simp] theorem opnT_134:opnT 134=none:=id rfl
@[simp] theorem E_fn135:E.fn 135=some fn135:=rfl
@[simp] theorem E_grd135:E.grd 135=none:=id rfl
@[simp] theorem opnT_135:opnT 135=some ([true,false],false):=id rfl
@[simp] theorem E_fn140:E.fn 140=some fn140:=rfl
@[simp] theorem E_grd140:E.grd 140=none:=id rfl
@[simp] theorem opnT_140:opnT 140=none:=id rfl
@[simp] theorem E_fn147:E.fn 147=some fn147:=rfl
@[simp] theorem E_grd147:E.grd 147=none:=id rfl
@[simp] theorem opnT_147:opnT 147=none:=id rfl
@[simp] theorem E_fn152:E.fn 152=some fn152:=rfl
@[simp] theorem E_grd152:E.grd 152=none:=id rfl
@[simp] theorem opnT_152:opnT 152=some ([false,false,true,true],true):=id rfl
@[simp] theorem E_fn153:E.fn 153=some fn153:=rfl
@[simp] theorem E_grd153:E.grd 153=none:=id rfl
@[simp] theorem opnT_153:opnT 153=none:=id rfl
@[simp] theorem E_fn154:E.fn 154=some fn154:=rfl
@[simp] theorem E_grd154:E.grd 154=none:=id rfl
@[simp] theorem opnT_154:opnT 154=none:=id rfl
@[simp] theorem E_fn155:E.fn 155=some fn155:=rfl
@[simp] theorem E_grd155:E.grd 155=none:=id rfl
@[simp] theorem opnT_155:opnT 155=none:=id rfl
@[simp] theorem E_fn156:E.fn 156=some fn156:=rfl
@[simp] theorem E_grd156:E.grd 156=none:=id rfl
@[simp] theorem opnT_156:opnT 156=none:=id rfl
@[simp] theorem E_fn157:E.fn 157=some fn157:=rfl
@[simp] theorem E_grd157:E.grd 157=none:=id rfl
@[simp] theorem opnT_157:opnT 157=none:=id rfl
@[simp] theorem E_fn158:E.fn 158=some fn158:=rfl
@[simp] theorem E_grd158:E.grd 158=none:=id rfl
@[simp] theorem opnT_158:opnT 158=none:=id rfl
@[simp] theorem E_fn159:E.fn 159=some fn159:=rfl
@[simp] theorem E_grd159:E.grd 159=none:=id rfl
@[simp] theorem opnT_159:opnT 159=none:=id rfl
@[simp] theorem E_fn160:E.fn 160=some fn160:=rfl
@[simp] theorem E_grd160:E.grd 160=none:=id rfl
@[simp] theorem opnT_160:opnT 160=none:=id rfl
@[simp] theorem E_fn161:E.fn 161=some fn161:=rfl
@[simp] theorem E_grd161:E.grd 161=none:=id rfl
@[simp] theorem opnT_161:opnT 161=none:=id rfl
@[simp] theorem E_fn167:E.fn 167=some fn167:=rfl
@[simp] theorem E_grd167:E.grd 167=none:=id rfl
@[simp] theorem opnT_167:opnT 167=none:=id rfl
@[simp] theorem E_fn168:E.fn 168=some fn168:=rfl
@[simp] theorem E_grd168:E.grd 168=none:=id rfl
@[simp] theorem opnT_168:opnT 168=none:=id rfl
@[simp] theorem E_fn169:E.fn 169=some fn169:=rfl
@[simp] theorem E_grd169:E.grd 169=none:=id rfl
@[simp] theorem opnT_169:opnT 169=none:=id rfl
@[simp] theorem E_fn181:E.fn 181=some fn181:=rfl
@[simp] theorem E_grd181:E.grd 181=none:=id rfl
@[simp] theorem opnT_181:opnT 181=some ([true,true],true):=id rfl
@[simp] theorem E_ty1:E.ty 1=some ⟨.func,1,8,[.nilf],false⟩:=rfl
@[simp] theorem E_ty2:E.ty 2=some ⟨.int .i64,1,8,[.int .i64 0],false⟩:=rfl
@[simp] theorem E_ty3:E.ty 3=some ⟨.int .i64,1,8,[.int .i64 0],false⟩:=rfl
@[simp] theorem E_ty4:E.ty 4=some ⟨.bool,1,1,[.bool false],false⟩:=rfl
@[simp] theorem E_ty5:E.ty 5=some ⟨.int .u8,1,1,[.int .u8 0],false⟩:=rfl
@[simp] theorem E_ty6:E.ty 6=some ⟨.int .u8,1,1,[.int .u8 0],false⟩:=rfl
@[simp] theorem E_ty7:E.ty 7=some ⟨.strct [(0,2),(1,3),(2,4),(3,6)],4,24,[.int .i64 0,.int .i64 0,.bool false,.int .u8 0],false⟩:=rfl
@[simp] theorem E_ty8:E.ty 8=some ⟨.strct [(0,2),(1,3),(2,4),(3,6)],4,24,[.int .i64 0,.int .i64 0,.bool false,.int .u8 0],false⟩:=rfl
@[simp] theorem E_ty9:E.ty 9=some ⟨.str,1,16,[.str []],false⟩:=rfl
@[simp] theorem E_ty10:E.ty 10=some ⟨.str,1,16,[.str []],false⟩:=rfl
@[simp] theorem E_ty11:E.ty 11=some ⟨.str,1,16,[.str []],false⟩:=rfl
@[simp] theorem E_ty12:E.ty 12=some ⟨.int .u64,1,8,[.int .u64 0],false⟩:=rfl
@[simp] theorem E_ty13:E.ty 13=some ⟨.strct [(0,9),(1,12)],2,24,[.str [],.int .u64 0],false⟩:=rfl
@[simp] theorem E_ty14:E.ty 14=some ⟨.strct [(0,9),(1,12)],2,24,[.str [],.int .u64 0],false⟩:=rfl
@[simp] theorem E_ty15:E.ty 15=some ⟨.ptr 253,1,8,[.nilp],false⟩:=rfl
@[simp] theorem E_ty16:E.ty 16=some ⟨.ptr 256,1,8,[.nilp],false⟩:=rfl
@[simp] theorem E_ty17:E.ty 17=some ⟨.ptr 265,1,8,[.nilp],false⟩:=rfl
@[simp] theorem E_ty18:E.ty 18=some ⟨.strct [(0,17)],1,8,[.nilp],false⟩:=rfl
@[simp] theorem E_ty19:E.ty 19=some ⟨.strct [(0,17)],1,8,[.nilp],false⟩:=rfl
@[simp] theorem E_ty20:E.ty 20=some ⟨.iface true,1,16,[.nili],false⟩:=rfl
@[simp] theorem E_ty21:E.ty 21=some ⟨.int .i32,1,4,[.int .i32 0],false⟩:=rfl
@[simp] theorem E_ty22:E.ty 22=some ⟨.int .u8,1,1,[.int .u8 0],false⟩:=rfl
@[simp] theorem E_ty23:E.ty 23=some ⟨.int .u32,1,4,[.int .u32 0],false⟩:=rfl
@[simp] theorem E_ty24:E.ty 24=some ⟨.strct [(0,22),(1,4),(2,23)],3,8,[.int .u8 0,.bool false,.int .u32 0],false⟩:=rfl
@[simp] theorem E_ty25:E.ty 25=some ⟨.strct [(0,22),(1,4),(2,23)],3,8,[.int .u8 0,.bool false,.int .u32 0],true⟩:=rfl
@[simp] theorem E_ty26:E.ty 26=some ⟨.slice 5,1,24,[.sl true [] (some 0)],false⟩:=rfl
@[simp] theorem E_ty27:E.ty 27=some ⟨.slice 29,1,24,[.sl true [] (some 0)],false⟩:=rfl
@[simp] theorem E_ty28:E.ty 28=some ⟨.strct [(0,25),(3,26),(4,27)],5,56,[.int .u8 0,.bool false,.int .u32 0,.sl true [] (some 0),.sl true [] (some 0)],false⟩:=rfl
@[simp] theorem E_ty29:E.ty 29=some ⟨.strct [(0,25),(3,26),(4,27)],5,56,[.int .u8 0,.bool false,.int .u32 0,.sl true [] (some 0),.sl true [] (some 0)],false⟩:=rfl
@[simp] theorem E_ty30:E.ty 30=some ⟨.func,1,8,[.nilf],false⟩:=rfl
@[simp] theorem E_ty31:E.ty 31=some ⟨.ptr 3,1,8,[.nilp],false⟩:=rfl
@[simp] theorem E_ty32:E.ty 32=some ⟨.func,1,8,[.nilf],false⟩:=rfl
@[simp] theorem E_ty33:E.ty 33=some ⟨.arr 16 23,16,64,[.int .u32 0,.int .u32 0,.int .u32 0,.int .u32 0,.int .u32 0,.int .u32 0,.int .u32 0,.int .u32 0,.int .u32 0,.int .u32 0,.int .u32 0,.int .u32 0,.int .u32 0,.int .u32 0,.int .u32 0,.int .u32 0],false⟩:=rfl
@[simp] theorem E_ty34:E.ty 34=some ⟨.strct [(0,5),(1,33)],17,68,[.int .u8 0,.int .u32 0,.int .u32 0,.int .u32 0,.int .u32 0,.int .u32 0,.int .u32 0,.int .u32 0,.int .u32 0,.int .u32 0,.int .u32 0,.int .u32 0,.int .u32 0,.int .u32 0,.int .u32 0,.int .u32 0,.int .u32 0],false⟩:=rfl
@[simp] theorem E_ty35:E.ty 35=some ⟨.strct [(0,5),(1,33)],17,68,[.int .u8 0,.int .u32 0,.int .u32 0,.int .u32 0,.int .u32 0,.int .u32 0,.int .u32 0,.int .u32 0,.int .u32 0,.int .u32 0,.int .u32 0,.int .u32 0,.int .u32 0,.int .u32 0,.int .u32 0,.int .u32 0,.int .u32 0],true⟩:=rfl
@[simp] theorem E_ty36:E.ty 36=some ⟨.strct [(0,35),(17,4),(18,29)],23,128,[.int .u8 0,.int .u32 0,.int .u32 0,.int .u32 0,.int .u32 0,.int .u32 0,.int .u32 0,.int .u32 0,.int .u32 0,.int .u32 0,.int .u32 0,.int .u32 0,.int .u32 0,.int .u32 0,.int .u32 0,.int .u32 0,.int .u32 0,.bool false,.int .u8 0,.bool false,.int .u32 0,.sl true [] (some 0),.sl true [] (some 0)],false⟩:=rfl
@[simp] theorem E_ty37:E.ty 37=some ⟨.strct [(0,35),(17,4),(18,29)],23,128,[.int .u8 0,.int .u32 0,.int .u32 0,.int .u32 0,.int .u32 0,.int .u32 0,.int .u32 0,.int .u32 0,.int .u32 0,.int .u32 0,.int .u32 0,.int .u32 0,.int .u32 0,.int .u32 0,.int .u32 0,.int .u32 0,.int .u32 0,.bool false,.int .u8 0,.bool false,.int .u32 0,.sl true [] (some 0),.sl true [] (some 0)],false⟩:=rfl
@[simp] theorem E_ty38:E.ty 38=some ⟨.slice 3,1,24,[.sl true [] (some 0)],false⟩:=rfl
@[simp] theorem E_ty39:E.ty 39=some ⟨.int .i64,1,8,[.int .i64 0],false⟩:=rfl
@[simp] theorem E_ty40:E.ty 40=some ⟨.strct [(0,38),(1,39)],2,32,[.sl true [] (some 0),.int .i64 0],false⟩:=rfl
@[simp] theorem E_ty41:E.ty 41=some ⟨.strct [(0,38),(1,39)],2,32,[.sl true [] (some 0),.int .i64 0],false⟩:=rfl
@[simp] theorem E_ty43:E.ty 43=some ⟨.func,1,8,[.nilf],false⟩:=rfl
@[simp] theorem E_ty44:E.ty 44=some ⟨.func,1,8,[.nilf],false⟩:=rfl
@[simp] theorem E_ty45:E.ty 45=some ⟨.func,1,8,[.nilf],false⟩:=rfl
@[simp] theorem E_ty47:E.ty 47=some ⟨.func,1,8,[.nilf],false⟩:=rfl
@[simp] theorem E_ty48:E.ty 48=some ⟨.func,1,8,[.nilf],false⟩:=rfl
@[simp] theorem E_ty49:E.ty 49=some ⟨.func,1,8,[.nilf],false⟩:=rfl
@[simp] theorem E_ty50:E.ty 50=some ⟨.func,1,8,[.nilf],false⟩:=rfl
@[simp] theorem E_ty51:E.ty 51=some ⟨.func,1,8,[.nilf],false⟩:=rfl
@[simp] theorem E_ty52:E.ty 52=some ⟨.func,1,8,[.nilf],false⟩:=rfl
@[simp] theorem E_ty53:E.ty 53=some ⟨.func,1,8,[.nilf],false⟩:=rfl
@[simp] theorem E_ty54:E.ty 54=some ⟨.func,1,8,[.nilf],false⟩:=rfl
@[simp] theorem E_ty55:E.ty 55=some ⟨.func,1,8,[.nilf],false⟩:=rfl
@[simp] theorem E_ty56:E.ty 56=some ⟨.strct [(0,37),(23,26),(24,3)],25,160,[.int .u8 0,.int .u32 0,.int .u32 0,.int .u32 0,.int .u32 0,.int .u32 0,.int .u32 0,.int .u32 0,.int .u32 0,.int .u32 0,.int .u32 0,.int .u32 0,.int .u32 0,.int .u32 0,.int .u32 0,.int .u32 0,.int .u32 0,.bool false,.int .u8 0,.bool false,.int .u32 0,.sl true [] (some 0),.sl true [] (some 0),.sl true [] (some 0),.int .i64 0],false⟩:=rfl
@[simp] theorem E_ty57:E.ty 57=some ⟨.strct [(0,37),(23,26),(24,3)],25,160,[.int .u8 0,.int .u32 0,.int .u32 0,.int .u32 0,.int .u32 0,.int .u32 0,.int .u32 0,.int .u32 0,.int .u32 0,.int .u32 0,.int .u32 0,.int .u32 0,.int .u32 0,.int .u32 0,.int .u32 0,.int .u32 0,.int .u32 0,.bool false,.int .u8 0,.bool false,.int .u32 0,.sl true [] (some 0),.sl true [] (some 0),.sl true [] (some 0),.int .i64 0],false⟩:=rfl
@[simp] theorem E_ty58:E.ty 58=some ⟨.func,1,8,[.nilf],false⟩:=rfl
@[simp] theorem E_ty59:E.ty 59=some ⟨.func,1,8,[.nilf],false⟩:=rfl
@[simp] theorem E_ty60:E.ty 60=some ⟨.func,1,8,[.nilf],false⟩:=rfl
@[simp] theorem E_ty61:E.ty 61=some ⟨.strct [(0,5),(1,26),(2,26),(3,5)],4,64,[.int .u8 0,.sl true [] (some 0),.sl true [] (some 0),.int .u8 0],false⟩:=rfl
@[simp] theorem E_ty62:E.ty 62=some ⟨.strct [(0,5),(1,26),(2,26),(3,5)],4,64,[.int .u8 0,.sl true [] (some 0),.sl true [] (some 0),.int .u8 0],false⟩:=rfl
@[simp] theorem E_ty63:E.ty 63=some ⟨.func,1,8,[.nilf],false⟩:=rfl
@[simp] theorem E_ty64:E.ty 64=some ⟨.func,1,8,[.nilf],false⟩:=rfl
@[simp] theorem E_ty65:E.ty 65=some ⟨.func,1,8,[.nilf],false⟩:=rfl
@[simp] theorem E_ty66:E.ty 66=some ⟨.func,1,8,[.nilf],false⟩:=rfl
@[simp] theorem E_ty67:E.ty 67=some ⟨.func,1,8,[.nilf],false⟩:=rfl
@[simp] theorem E_ty68:E.ty 68=some ⟨.func,1,8,[.nilf],false⟩:=rfl
@[simp] theorem E_ty70:E.ty 70=some ⟨.func,1,8,[.nilf],false⟩:=rfl
@[simp] theorem E_ty71:E.ty 71=some ⟨.func,1,8,[.nilf],false⟩:=rfl
@[simp] theorem E_ty73:E.ty 73=some ⟨.func,1,8,[.nilf],false⟩:=rfl
@[simp] theorem E_ty74:E.ty 74=some ⟨.strct [(0,25),(3,4),(4,4)],5,12,[.int .u8 0,.bool false,.int .u32 0,.bool false,.bool false],false⟩:=rfl
@[simp] theorem E_ty75:E.ty 75=some ⟨.strct [(0,25),(3,4),(4,4)],5,12,[.int .u8 0,.bool false,.int .u32 0,.bool false,.bool false],false⟩:=rfl
@[simp] theorem E_ty76:E.ty 76=some ⟨.slice 75,1,24,[.sl true [] (some 0)],false⟩:=rfl
@[simp] theorem E_ty78:E.ty 78=some ⟨.func,1,8,[.nilf],false⟩:=rfl
@[simp] theorem E_ty79:E.ty 79=some ⟨.func,1,8,[.nilf],false⟩:=rfl
@[simp] theorem E_ty80:E.ty 80=some ⟨.func,1,8,[.nilf],false⟩:=rfl
@[simp] theorem E_ty81:E.ty 81=some ⟨.strct [(0,3),(1,3)],2,16,[.int .i64 0,.int .i64 0],false⟩:=rfl
@[simp] theorem E_ty82:E.ty 82=some ⟨.strct [(0,3),(1,3)],2,16,[.int .i64 0,.int .i64 0],true⟩:=rfl
@[simp] theorem E_ty84:E.ty 84=some ⟨.func,1,8,[.nilf],false⟩:=rfl
@[simp] theorem E_ty85:E.ty 85=some ⟨.func,1,8,[.nilf],false⟩:=rfl
@[simp] theorem E_ty86:E.ty 86=some ⟨.func,1,8,[.nilf],false⟩:=rfl
@[simp] theorem E_ty88:E.ty 88=some ⟨.func,1,8,[.nilf],false⟩:=rfl
@[simp] theorem E_ty90:E.ty 90=some ⟨.func,1,8,[.nilf],false⟩:=rfl
@[simp] theorem E_ty92:E.ty 92=some ⟨.func,1,8,[.nilf],false⟩:=rfl
@[simp] theorem E_ty93:E.ty 93=some ⟨.func,1,8,[.nilf],false⟩:=rfl
@[simp] theorem E_ty95:E.ty 95=some ⟨.func,1,8,[.nilf],false⟩:=rfl
@[simp] theorem E_ty97:E.ty 97=some ⟨.func,1,8,[.nilf],false⟩:=rfl
@[simp] theorem E_ty98:E.ty 98=some ⟨.func,1,8,[.nilf],false⟩:=rfl
@[simp] theorem E_ty99:E.ty 99=some ⟨.func,1,8,[.nilf],false⟩:=rfl
@[simp] theorem E_ty100:E.ty 100=some ⟨.slice 116,1,24,[.sl true [] (some 0)],false⟩:=rfl
@[simp] theorem E_ty102:E.ty 102=some ⟨.func,1,8,[.nilf],false⟩:=rfl
@[simp] theorem E_ty103:E.ty 103=some ⟨.func,1,8,[.nilf],false⟩:=rfl
@[simp] theorem E_ty104:E.ty 104=some ⟨.func,1,8,[.nilf],false⟩:=rfl
@[simp] theorem E_ty105:E.ty 105=some ⟨.slice 161,1,24,[.sl true [] (some 0)],false⟩:=rfl
@[simp] theorem E_ty106:E.ty 106=some ⟨.strct [(0,105)],1,24,[.sl true [] (some 0)],false⟩:=rfl
@[simp] theorem E_ty107:E.ty 107=some ⟨.strct [(0,105)],1,24,[.sl true [] (some 0)],false⟩:=rfl
@[simp] theorem E_ty108:E.ty 108=some ⟨.func,1,8,[.nilf],false⟩:=rfl
@[simp] theorem E_ty109:E.ty 109=some ⟨.func,1,8,[.nilf],false⟩:=rfl
@[simp] theorem E_ty110:E.ty 110=some ⟨.func,1,8,[.nilf],false⟩:=rfl
@[simp] theorem E_ty111:E.ty 111=some ⟨.func,1,8,[.nilf],false⟩:=rfl
@[simp] theorem E_ty112:E.ty 112=some ⟨.func,1,8,[.nilf],false⟩:=rfl
@[simp] theorem E_ty113:E.ty 113=some ⟨.slice 35,1,24,[.sl true [] (some 0)],false⟩:=rfl
@[simp] theorem E_ty114:E.ty 114=some ⟨.func,1,8,[.nilf],false⟩:=rfl
@[simp] theorem E_ty115:E.ty 115=some ⟨.strct [(0,35),(17,35)],34,136,[.int .u8 0,.int .u32 0,.int .u32 0,.int .u32 0,.int .u32 0,.int .u32 0,.int .u32 0,.int .u32 0,.int .u32 0,.int .u32 0,.int .u32 0,.int .u32 0,.int .u32 0,.int .u32 0,.int .u32 0,.int .u32 0,.int .u32 0,.int .u8 0,.int .u32 0,.int .u32 0,.int .u32 0,.int .u32 0,.int .u32 0,.int .u32 0,.int .u32 0,.int .u32 0,.int .u32 0,.int .u32 0,.int .u32 0,.int .u32 0,.int .u32 0,.int .u32 0,.int .u32 0,.int .u32 0],false⟩:=rfl
@[simp] theorem E_ty116:E.ty 116=some ⟨.strct [(0,35),(17,35)],34,136,[.int .u8 0,.int .u32 0,.int .u32 0,.int .u32 0,.int .u32 0,.int .u32 0,.int .u32 0,.int .u32 0,.int .u32 0,.int .u32 0,.int .u32 0,.int .u32 0,.int .u32 0,.int .u32 0,.int .u32 0,.int .u32 0,.int .u32 0,.int .u8 0,.int .u32 0,.int .u32 0,.int .u32 0,.int .u32 0,.int .u32 0,.int .u32 0,.int .u32 0,.int .u32 0,.int .u32 0,.int .u32 0,.int .u32 0,.int .u32 0,.int .u32 0,.int .u32 0,.int .u32 0,.int .u32 0],true⟩:=rfl
@[simp] theorem E_ty117:E.ty 117=some ⟨.func,1,8,[.nilf],false⟩:=rfl
@[simp] theorem E_ty118:E.ty 118=some ⟨.func,1,8,[.nilf],false⟩:=rfl
@[simp] theorem E_ty120:E.ty 120=some ⟨.func,1,8,[.nilf],false⟩:=rfl
@[simp] theorem E_ty121:E.ty 121=some ⟨.func,1,8,[.nilf],false⟩:=rfl
@[simp] theorem E_ty122:E.ty 122=some ⟨.func,1,8,[.nilf],false⟩:=rfl
@[simp] theorem E_ty123:E.ty 123=some ⟨.func,1,8,[.nilf],false⟩:=rfl
@[simp] theorem E_ty124:E.ty 124=some ⟨.slice 23,1,24,[.sl true [] (some 0)],false⟩:=rfl
@[simp] theorem E_ty126:E.ty 126=some ⟨.func,1,8,[.nilf],false⟩:=rfl
@[simp] theorem E_ty127:E.ty 127=some ⟨.func,1,8,[.nilf],false⟩:=rfl
@[simp] theorem E_ty128:E.ty 128=some ⟨.func,1,8,[.nilf],false⟩:=rfl
@[simp] theorem E_ty129:E.ty 129=some ⟨.func,1,8,[.nilf],false⟩:=rfl
@[simp] theorem E_ty130:E.ty 130=some ⟨.strct [(0,26)],1,24,[.sl true [] (some 0)],false⟩:=rfl
@[simp] theorem E_ty131:E.ty 131=some ⟨.strct [(0,26)],1,24,[.sl true [] (some 0)],false⟩:=rfl
@[simp] theorem E_ty132:E.ty 132=some ⟨.func,1,8,[.nilf],false⟩:=rfl
@[simp] theorem E_ty133:E.ty 133=some ⟨.func,1,8,[.nilf],false⟩:=rfl
@[simp] theorem E_ty134:E.ty 134=some ⟨.func,1,8,[.nilf],false⟩:=rfl
@[simp] theorem E_ty135:E.ty 135=some ⟨.func,1,8,[.nilf],false⟩:=rfl
@[simp] theorem E_ty136:E.ty 136=some ⟨.func,1,8,[.nilf],false⟩:=rfl
@[simp] theorem E_ty137:E.ty 137=some ⟨.func,1,8,[.nilf],false⟩:=rfl
@[simp] theorem E_ty138:E.ty 138=some ⟨.func,1,8,[.nilf],false⟩:=rfl
@[simp] theorem E_ty139:E.ty 139=some ⟨.func,1,8,[.nilf],false⟩:=rfl
@[simp] theorem E_ty140:E.ty 140=some ⟨.func,1,8,[.nilf],false⟩:=rfl
@[simp] theorem E_ty141:E.ty 141=some ⟨.arr 2 31,2,16,[.nilp,.nilp],false⟩:=rfl
@[simp] theorem E_ty142:E.ty 142=some ⟨.arr 2 3,2,16,[.int .i64 0,.int .i64 0],false⟩:=rfl
@[simp] theorem E_ty143:E.ty 143=some ⟨.func,1,8,[.nilf],false⟩:=rfl
@[simp] theorem E_ty144:E.ty 144=some ⟨.func,1,8,[.nilf],false⟩:=rfl
@[simp] theorem E_ty145:E.ty 145=some ⟨.func,1,8,[.nilf],false⟩:=rfl
@[simp] theorem E_ty146:E.ty 146=some ⟨.func,1,8,[.nilf],false⟩:=rfl
@[simp] theorem E_ty147:E.ty 147=some ⟨.func,1,8,[.nilf],false⟩:=rfl
@[simp] theorem E_ty149:E.ty 149=some ⟨.func,1,8,[.nilf],false⟩:=rfl
@[simp] theorem E_ty150:E.ty 150=some ⟨.func,1,8,[.nilf],false⟩:=rfl
@[simp] theorem E_ty151:E.ty 151=some ⟨.func,1,8,[.nilf],false⟩:=rfl
@[simp] theorem E_ty152:E.ty 152=some ⟨.func,1,8,[.nilf],false⟩:=rfl
@[simp] theorem E_ty153:E.ty 153=some ⟨.func,1,8,[.nilf],false⟩:=rfl
@[simp] theorem E_ty154:E.ty 154=some ⟨.func,1,8,[.nilf],false⟩:=rfl
@[simp] theorem E_ty156:E.ty 156=some ⟨.func,1,8,[.nilf],false⟩:=rfl
@[simp] theorem E_ty157:E.ty 157=some ⟨.func,1,8,[.nilf],false⟩:=rfl
@[simp] theorem E_ty158:E.ty 158=some ⟨.func,1,8,[.nilf],false⟩:=rfl
@[simp] theorem E_ty159:E.ty 159=some ⟨.func,1,8,[.nilf],false⟩:=rfl
@[simp] theorem E_ty160:E.ty 160=some ⟨.func,1,8,[.nilf],false⟩:=rfl
@[simp] theorem E_ty161:E.ty 161=some ⟨.arr 2 5,2,2,[.int .u8 0,.int .u8 0],false⟩:=rfl
@[simp] theorem E_ty162:E.ty 162=some ⟨.func,1,8,[.nilf],false⟩:=rfl
@[simp] theorem E_ty163:E.ty 163=some ⟨.func,1,8,[.nilf],false⟩:=rfl
@[simp] theorem E_ty164:E.ty 164=some ⟨.func,1,8,[.nilf],false⟩:=rfl
@[simp] theorem E_ty165:E.ty 165=some ⟨.func,1,8,[.nilf],false⟩:=rfl
@[simp] theorem E_ty166:E.ty 166=some ⟨.func,1,8,[.nilf],false⟩:=rfl
@[simp] theorem E_ty167:E.ty 167=some ⟨.int .u64,1,8,[.int .u64 0],false⟩:=rfl
@[simp] theorem E_ty168:E.ty 168=some ⟨.int .u64,1,8,[.int .u64 0],false⟩:=rfl
@[simp] theorem E_ty169:E.ty 169=some ⟨.func,1,8,[.nilf],false⟩:=rfl
@[simp] theorem E_ty170:E.ty 170=some ⟨.func,1,8,[.nilf],false⟩:=rfl
@[simp] theorem E_ty171:E.ty 171=some ⟨.func,1,8,[.nilf],false⟩:=rfl
@[simp] theorem E_ty172:E.ty 172=some ⟨.func,1,8,[.nilf],false⟩:=rfl
@[simp] theorem E_ty173:E.ty 173=some ⟨.func,1,8,[.nilf],false⟩:=rfl
@[simp] theorem E_ty174:E.ty 174=some ⟨.func,1,8,[.nilf],false⟩:=rfl
@[simp] theorem E_ty175:E.ty 175=some ⟨.func,1,8,[.nilf],false⟩:=rfl
@[simp] theorem E_ty176:E.ty 176=some ⟨.func,1,8,[.nilf],false⟩:=rfl
@[simp] theorem E_ty177:E.ty 177=some ⟨.func,1,8,[.nilf],false⟩:=rfl
@[simp] theorem E_ty178:E.ty 178=some ⟨.func,1,8,[.nilf],false⟩:=rfl
@[simp] theorem E_ty179:E.ty 179=some ⟨.slice 178,1,24,[.sl true [] (some 0)],false⟩:=rfl
@[simp] theorem E_ty181:E.ty 181=some ⟨.func,1,8,[.nilf],false⟩:=rfl
@[simp] theorem E_ty182:E.ty 182=some ⟨.func,1,8,[.nilf],false⟩:=rfl
@[simp] theorem E_ty183:E.ty 183=some ⟨.func,1,8,[.nilf],false⟩:=rfl
@[simp] theorem E_ty184:E.ty 184=some ⟨.arr 8 5,8,8,[.int .u8 0,.int .u8 0,.int .u8 0,.int .u8 0,.int .u8 0,.int .u8 0,.int .u8 0,.int .u8 0],false⟩:=rfl
@[simp] theorem E_ty185:E.ty 185=some ⟨.arr 8 5,8,8,[.int .u8 0,.int .u8 0,.int .u8 0,.int .u8 0,.int .u8 0,.int .u8 0,.int .u8 0,.int .u8 0],false⟩:=rfl
@[simp] theorem E_ty186:E.ty 186=some ⟨.func,1,8,[.nilf],false⟩:=rfl
@[simp] theorem E_ty188:E.ty 188=some ⟨.strct [(0,3),(1,39)],2,16,[.int .i64 0,.int .i64 0],false⟩:=rfl
@[simp] theorem E_ty189:E.ty 189=some ⟨.strct [(0,3),(1,39)],2,16,[.int .i64 0,.int .i64 0],false⟩:=rfl
@[simp] theorem E_ty191:E.ty 191=some ⟨.strct [(0,26),(1,3)],2,32,[.sl true [] (some 0),.int .i64 0],false⟩:=rfl
@[simp] theorem E_ty192:E.ty 192=some ⟨.strct [(0,26),(1,3)],2,32,[.sl true [] (some 0),.int .i64 0],false⟩:=rfl
@[simp] theorem E_ty194:E.ty 194=some ⟨.func,1,8,[.nilf],false⟩:=rfl
@[simp] theorem E_ty195:E.ty 195=some ⟨.func,1,8,[.nilf],false⟩:=rfl
@[simp] theorem E_ty196:E.ty 196=some ⟨.func,1,8,[.nilf],false⟩:=rfl
@[simp] theorem E_ty197:E.ty 197=some ⟨.int .i8,1,1,[.int .i8 0],false⟩:=rfl
@[simp] theorem E_ty200:E.ty 200=some ⟨.func,1,8,[.nilf],false⟩:=rfl
@[simp] theorem E_ty201:E.ty 201=some ⟨.func,1,8,[.nilf],false⟩:=rfl
@[simp] theorem E_ty202:E.ty 202=some ⟨.arr 2 35,34,136,[.int .u8 0,.int .u32 0,.int .u32 0,.int .u32 0,.int .u32 0,.int .u32 0,.int .u32 0,.int .u32 0,.int .u32 0,.int .u32 0,.int .u32 0,.int .u32 0,.int .u32 0,.int .u32 0,.int .u32 0,.int .u32 0,.int .u32 0,.int .u8 0,.int .u32 0,.int .u32 0,.int .u32 0,.int .u32 0,.int .u32 0,.int .u32 0,.int .u32 0,.int .u32 0,.int .u32 0,.int .u32 0,.int .u32 0,.int .u32 0,.int .u32 0,.int .u32 0,.int .u32 0,.int .u32 0],false⟩:=rfl
@[simp] theorem E_ty203:E.ty 203=some ⟨.func,1,8,[.nilf],false⟩:=rfl
@[simp] theorem E_ty204:E.ty 204=some ⟨.func,1,8,[.nilf],false⟩:=rfl
@[simp] theorem E_ty205:E.ty 205=some ⟨.func,1,8,[.nilf],false⟩:=rfl
@[simp] theorem E_ty206:E.ty 206=some ⟨.func,1,8,[.nilf],false⟩:=rfl
@[simp] theorem E_ty207:E.ty 207=some ⟨.func,1,8,[.nilf],false⟩:=rfl
@[simp] theorem E_ty209:E.ty 209=some ⟨.func,1,8,[.nilf],false⟩:=rfl
@[simp] theorem E_ty210:E.ty 210=some ⟨.func,1,8,[.nilf],false⟩:=rfl
@[simp] theorem E_ty211:E.ty 211=some ⟨.func,1,8,[.nilf],false⟩:=rfl
@[simp] theorem E_ty212:E.ty 212=some ⟨.ptr 35,1,8,[.nilp],false⟩:=rfl
@[simp] theorem E_ty213:E.ty 213=some ⟨.func,1,8,[.nilf],false⟩:=rfl
@[simp] theorem E_ty214:E.ty 214=some ⟨.func,1,8,[.nilf],false⟩:=rfl
@[simp] theorem E_ty215:E.ty 215=some ⟨.func,1,8,[.nilf],false⟩:=rfl
@[simp] theorem E_ty216:E.ty 216=some ⟨.ptr 192,1,8,[.nilp],false⟩:=rfl
@[simp] theorem E_ty218:E.ty 218=some ⟨.func,1,8,[.nilf],false⟩:=rfl
@[simp] theorem E_ty219:E.ty 219=some ⟨.func,1,8,[.nilf],false⟩:=rfl
@[simp] theorem E_ty220:E.ty 220=some ⟨.func,1,8,[.nilf],false⟩:=rfl
@[simp] theorem E_ty221:E.ty 221=some ⟨.arr 2 212,2,16,[.nilp,.nilp],false⟩:=rfl
@[simp] theorem E_ty222:E.ty 222=some ⟨.func,1,8,[.nilf],false⟩:=rfl
@[simp] theorem E_ty223:E.ty 223=some ⟨.func,1,8,[.nilf],false⟩:=rfl
@[simp] theorem E_ty224:E.ty 224=some ⟨.func,1,8,[.nilf],false⟩:=rfl
@[simp] theorem E_ty225:E.ty 225=some ⟨.func,1,8,[.nilf],false⟩:=rfl
@[simp] theorem E_ty226:E.ty 226=some ⟨.func,1,8,[.nilf],false⟩:=rfl
@[simp] theorem E_ty228:E.ty 228=some ⟨.func,1,8,[.nilf],false⟩:=rfl
@[simp] theorem E_ty229:E.ty 229=some ⟨.arr 3 5,3,3,[.int .u8 0,.int .u8 0,.int .u8 0],false⟩:=rfl
@[simp] theorem E_ty230:E.ty 230=some ⟨.arr 3 5,3,3,[.int .u8 0,.int .u8 0,.int .u8 0],false⟩:=rfl
@[simp] theorem E_ty231:E.ty 231=some ⟨.func,1,8,[.nilf],false⟩:=rfl
@[simp] theorem E_ty232:E.ty 232=some ⟨.int .i64,1,8,[.int .i64 0],false⟩:=rfl
@[simp] theorem E_ty234:E.ty 234=some ⟨.func,1,8,[.nilf],false⟩:=rfl
@[simp] theorem E_ty235:E.ty 235=some ⟨.func,1,8,[.nilf],false⟩:=rfl
@[simp] theorem E_ty236:E.ty 236=some ⟨.func,1,8,[.nilf],false⟩:=rfl
@[simp] theorem E_ty238:E.ty 238=some ⟨.func,1,8,[.nilf],false⟩:=rfl
@[simp] theorem E_ty239:E.ty 239=some ⟨.func,1,8,[.nilf],false⟩:=rfl
@[simp] theorem E_ty240:E.ty 240=some ⟨.func,1,8,[.nilf],false⟩:=rfl
@[simp] theorem E_ty241:E.ty 241=some ⟨.func,1,8,[.nilf],false⟩:=rfl
@[simp] theorem E_ty242:E.ty 242=some ⟨.int .u64,1,8,[.int .u64 0],false⟩:=rfl
@[simp] theorem E_ty243:E.ty 243=some ⟨.func,1,8,[.nilf],false⟩:=rfl
@[simp] theorem E_ty244:E.ty 244=some ⟨.func,1,8,[.nilf],false⟩:=rfl
@[simp] theorem E_ty245:E.ty 245=some ⟨.func,1,8,[.nilf],false⟩:=rfl
@[simp] theorem E_ty246:E.ty 246=some ⟨.func,1,8,[.nilf],false⟩:=rfl
@[simp] theorem E_ty247:E.ty 247=some ⟨.func,1,8,[.nilf],false⟩:=rfl
@[simp] theorem E_ty248:E.ty 248=some ⟨.ptr 242,1,8,[.nilp],false⟩:=rfl
@[simp] theorem E_ty250:E.ty 250=some ⟨.func,1,8,[.nilf],false⟩:=rfl
@[simp] theorem E_ty251:E.ty 251=some ⟨.func,1,8,[.nilf],false⟩:=rfl
@[simp] theorem E_ty252:E.ty 252=some ⟨.strct [(0,17),(1,17),(2,17),(3,9)],4,40,[.nilp,.nilp,.nilp,.str []],false⟩:=rfl
@[simp] theorem E_ty253:E.ty 253=some ⟨.strct [(0,17),(1,17),(2,17),(3,9)],4,40,[.nilp,.nilp,.nilp,.str []],false⟩:=rfl
@[simp] theorem E_ty254:E.ty 254=some ⟨.arr 0 16,0,0,[],false⟩:=rfl
@[simp] theorem E_ty255:E.ty 255=some ⟨.strct [(0,254)],0,0,[],false⟩:=rfl
@[simp] theorem E_ty256:E.ty 256=some ⟨.strct [(0,254)],0,0,[],false⟩:=rfl
@[simp] theorem E_ty257:E.ty 257=some ⟨.func,1,8,[.nilf],false⟩:=rfl
@[simp] theorem E_ty258:E.ty 258=some ⟨.int .u8,1,1,[.int .u8 0],false⟩:=rfl
@[simp] theorem E_ty259:E.ty 259=some ⟨.int .u8,1,1,[.int .u8 0],false⟩:=rfl
@[simp] theorem E_ty260:E.ty 260=some ⟨.func,1,8,[.nilf],false⟩:=rfl
@[simp] theorem E_ty261:E.ty 261=some ⟨.ptr 5,1,8,[.nilp],false⟩:=rfl
@[simp] theorem E_ty262:E.ty 262=some ⟨.int .i32,1,4,[.int .i32 0],false⟩:=rfl
@[simp] theorem E_ty263:E.ty 263=some ⟨.int .i32,1,4,[.int .i32 0],false⟩:=rfl
@[simp] theorem E_ty264:E.ty 264=some ⟨.strct [(0,12),(1,12),(2,23),(3,258),(4,5),(5,5),(6,259),(7,260),(8,261),(9,262),(10,263)],11,48,[.int .u64 0,.int .u64 0,.int .u32 0,.int .u8 0,.int .u8 0,.int .u8 0,.int .u8 0,.nilf,.nilp,.int .i32 0,.int .i32 0],false⟩:=rfl
@[simp] theorem E_ty265:E.ty 265=some ⟨.strct [(0,12),(1,12),(2,23),(3,258),(4,5),(5,5),(6,259),(7,260),(8,261),(9,262),(10,263)],11,48,[.int .u64 0,.int .u64 0,.int .u32 0,.int .u8 0,.int .u8 0,.int .u8 0,.int .u8 0,.nilf,.nilp,.int .i32 0,.int .i32 0],false⟩:=rfl
end TabE
