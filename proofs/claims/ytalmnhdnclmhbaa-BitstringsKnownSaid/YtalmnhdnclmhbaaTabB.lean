/- The tables of this translation for the evaluator: written by gen2.py. No conditions. -/
import Derived.Test.YtalmnhdnclmhbaaB2
set_option linter.unusedVariables false
set_option maxRecDepth 100000
namespace TabB
open Go Ab
abbrev o (d:Nat) (x:Op) (t:TypeId):Oper:=⟨some d,x,t, "",#[],none⟩
abbrev m (d i:Nat) (t:TypeId):Oper:=⟨some d,.move (.tmp i),t, "",#[],none⟩
abbrev ci (z:Int):Operand:=.const (.int .i64 z)
abbrev ld (d i t:Nat):Oper:=⟨some d,.load t (.tmp i),t, "",#[],none⟩
abbrev fa (d t i f:Nat):Oper:=⟨some d,.fieldAddr t (.tmp i) f,0, "",#[],none⟩
abbrev cl (d f:Nat) (a:Array Operand) (s:Array TypeId) (t:TypeId):Oper:=⟨some d,.call { callee:=.value (.func f),args:=a,argTypes:=s },t, "",#[],none⟩
abbrev gd (d:Nat) (x:Op) (t:TypeId) (g:Nat) (b:Bool):Oper:=⟨some d,x,t, "",#[],some (g,b)⟩
abbrev nd (x:Op):Oper:=⟨none,x,0, "",#[],none⟩
def opnT:FuncId → Option (List Bool × Bool)
  | _ => none
def c8:Code :=
  (.seq (.region 0 #[o 2 (.assign (.const (.bool false))) 4] false)
 (.seq (.seq (.region 1 #[m 8 0 22,o 9 (.call { callee:=.builtin .len,args:=#[.tmp 8],argTypes:=#[22] }) 3,o 10 (.binOp .gtr 3 (.tmp 9) (ci 60) 3) 4] false)
 (.cond (.tmp 10)
 (.seq (.region 2 #[cl 11 21 #[] #[] 4,o 2 (.assign (.tmp 11)) 4] false)
 .ret)
 .skip))
 (.seq (.region 3 #[m 13 0 22,cl 14 22 #[.tmp 13] #[22] 40,m 12 14 40,o 15 (.extract (.tmp 12) 0) 39,o 16 (.extract (.tmp 12) 1) 3,o 3 (.assign (.tmp 15)) 39,o 4 (.assign (.tmp 16)) 3] false)
 (.seq (.seq (.region 4 #[m 17 0 22,m 18 3 39,cl 19 24 #[.tmp 18] #[39] 22,m 20 3 39,o 21 (.call { callee:=.builtin .len,args:=#[.tmp 20],argTypes:=#[39] }) 3,m 22 4 3,cl 23 23 #[.tmp 17,.tmp 19,.tmp 21,.tmp 22] #[22,22,3,3] 4,o 24 (.unOp .not 4 (.tmp 23)) 4] false)
 (.cond (.tmp 24)
 (.seq (.region 5 #[o 2 (.assign (.const (.bool false))) 4] false)
 .ret)
 .skip))
 (.seq (.seq (.region 6 #[m 25 4 3,o 26 (.binOp .eql 3 (.tmp 25) (ci 0) 3) 4] false)
 (.cond (.tmp 26)
 (.seq (.region 7 #[m 28 3 39,cl 29 24 #[.tmp 28] #[39] 22,m 30 3 39,o 31 (.call { callee:=.builtin .len,args:=#[.tmp 30],argTypes:=#[39] }) 3,cl 32 25 #[.tmp 29,.tmp 31] #[22,3] 24,m 27 32 24,o 33 (.extract (.tmp 27) 0) 22,o 34 (.extract (.tmp 27) 1) 23,o 5 (.assign (.tmp 33)) 22,o 6 (.assign (.tmp 34)) 23] false)
 (.seq (.region 8 #[m 35 5 22,m 36 6 23,m 37 0 22,cl 38 26 #[.tmp 35,.tmp 36,.tmp 37,.const (.int .i64 0)] #[22,23,22,3] 4,o 39 (.unOp .not 4 (.tmp 38)) 4] false)
 (.cond (.tmp 39)
 (.seq (.region 9 #[o 2 (.assign (.const (.bool false))) 4] false)
 .ret)
 .skip)))
 .skip))
 (.seq (.region 10 #[m 41 0 22,cl 42 27 #[.tmp 41] #[22] 46,m 40 42 46,o 43 (.extract (.tmp 40) 0) 45,o 44 (.extract (.tmp 40) 1) 3,o 7 (.assign (.tmp 43)) 45,o 4 (.assign (.tmp 44)) 3] false)
 (.seq (.region 11 #[m 45 0 22,m 46 7 45,m 47 4 3,cl 48 28 #[.tmp 45,.tmp 46,.tmp 47] #[22,45,3] 4,m 49 48 4,gd 50 (.move (.tmp 4)) 3 49 true,gd 51 (.binOp .neq 3 (.tmp 50) (ci 0) 3) 4 49 true,gd 52 (.move (.tmp 51)) 4 49 true,gd 53 (.move (.tmp 7)) 45 52 false,gd 54 (.call { callee:=.value (.func 29),args:=#[.tmp 53],argTypes:=#[45] }) 22 52 false,gd 55 (.convert 22 9 (.tmp 54)) 9 52 false,gd 56 (.move (.tmp 0)) 22 52 false,gd 57 (.convert 22 9 (.tmp 56)) 9 52 false,gd 58 (.binOp .eql 9 (.tmp 55) (.tmp 57) 9) 4 52 false,gd 59 (.pick (.tmp 52) (.const (.bool true)) (.tmp 58)) 4 49 true,o 60 (.pick (.tmp 49) (.tmp 59) (.const (.bool false))) 4,m 61 60 4,gd 62 (.call { callee:=.value (.func 21),args:=#[],argTypes:=#[] }) 4 61 true,o 63 (.pick (.tmp 61) (.tmp 62) (.const (.bool false))) 4,o 2 (.assign (.tmp 63)) 4] true)
 .ret)))))))
def kp8:Nat → Option (List Nat)
  | 0 => some [0]
  | 1 => some [0,10]
  | 2 => some [2]
  | 3 => some [0,3,4]
  | 4 => some [0,3,4,24]
  | 5 => some [2]
  | 6 => some [0,3,26]
  | 7 => some [0,5,6]
  | 8 => some [0,39]
  | 9 => some [2]
  | 10 => some [0,4,7]
  | 11 => some [2]
  | _ => none
def fn8:AFn:={ ntmps:=64,results:=[.tmp 2],body:=c8,keep:=kp8,head:=fun  | _ => none,opn:=fun _ => none,dyn:=fun _ => [] }
def c9:Code :=
  (.seq (.region 0 #[o 4 (.assign (.const (.bool false))) 4] false)
 (.seq (.region 1 #[m 8 0 45,cl 9 29 #[.tmp 8] #[45] 22,o 5 (.assign (.tmp 9)) 22] false)
 (.seq (.region 2 #[m 10 0 45,m 11 1 5,o 12 (.binOp .rem 5 (.tmp 11) (.const (.int .u8 64)) 5) 5,o 13 (.binOp .shl 45 (.const (.int .u64 1)) (.tmp 12) 5) 45,o 14 (.binOp .or 45 (.tmp 10) (.tmp 13) 45) 45,o 6 (.assign (.tmp 14)) 45] false)
 (.seq (.region 3 #[m 15 6 45,cl 16 29 #[.tmp 15] #[45] 22,o 7 (.assign (.tmp 16)) 22] false)
 (.seq (.region 4 #[m 17 5 22,m 18 0 45,cl 19 30 #[.tmp 18] #[45] 22,cl 20 26 #[.tmp 17,.const (.int .i64 0),.tmp 19,.const (.int .i64 0)] #[22,23,22,3] 4,m 21 20 4,gd 22 (.move (.tmp 5)) 22 21 true,gd 23 (.move (.tmp 0)) 45 21 true,gd 24 (.call { callee:=.value (.func 28),args:=#[.tmp 22,.tmp 23,.const (.int .i64 0)],argTypes:=#[22,45,3] }) 4 21 true,o 25 (.pick (.tmp 21) (.tmp 24) (.const (.bool false))) 4,m 26 25 4,gd 27 (.move (.tmp 7)) 22 26 true,gd 28 (.move (.tmp 6)) 45 26 true,gd 29 (.call { callee:=.value (.func 28),args:=#[.tmp 27,.tmp 28,.const (.int .i64 0)],argTypes:=#[22,45,3] }) 4 26 true,o 30 (.pick (.tmp 26) (.tmp 29) (.const (.bool false))) 4,m 31 30 4,gd 32 (.move (.tmp 5)) 22 31 true,gd 33 (.call { callee:=.builtin .len,args:=#[.tmp 32],argTypes:=#[22] }) 3 31 true,gd 34 (.move (.tmp 7)) 22 31 true,gd 35 (.call { callee:=.builtin .len,args:=#[.tmp 34],argTypes:=#[22] }) 3 31 true,gd 36 (.binOp .leq 3 (.tmp 33) (.tmp 35) 3) 4 31 true,o 37 (.pick (.tmp 31) (.tmp 36) (.const (.bool false))) 4,m 38 37 4,gd 39 (.move (.tmp 5)) 22 38 true,gd 40 (.call { callee:=.builtin .len,args:=#[.tmp 39],argTypes:=#[22] }) 3 38 true,gd 41 (.move (.tmp 7)) 22 38 true,gd 42 (.call { callee:=.builtin .len,args:=#[.tmp 41],argTypes:=#[22] }) 3 38 true,gd 43 (.binOp .lss 3 (.tmp 40) (.tmp 42) 3) 4 38 true,gd 44 (.move (.tmp 43)) 4 38 true,gd 45 (.move (.tmp 5)) 22 44 false,gd 46 (.indexAddr 22 (.tmp 45) (ci 0)) 0 44 false,gd 47 (.load 5 (.tmp 46)) 5 44 false,gd 48 (.move (.tmp 7)) 22 44 false,gd 49 (.indexAddr 22 (.tmp 48) (ci 0)) 0 44 false,gd 50 (.load 5 (.tmp 49)) 5 44 false,gd 51 (.binOp .geq 5 (.tmp 47) (.tmp 50) 5) 4 44 false,gd 52 (.pick (.tmp 44) (.const (.bool true)) (.tmp 51)) 4 38 true,o 53 (.pick (.tmp 38) (.tmp 52) (.const (.bool false))) 4,m 54 53 4,gd 55 (.call { callee:=.value (.func 21),args:=#[],argTypes:=#[] }) 4 54 true,o 56 (.pick (.tmp 54) (.tmp 55) (.const (.bool false))) 4,o 4 (.assign (.tmp 56)) 4] true)
 .ret)))))
def kp9:Nat → Option (List Nat)
  | 0 => some [0,1]
  | 1 => some [0,1,5]
  | 2 => some [0,5,6]
  | 3 => some [0,5,6,7]
  | 4 => some [4]
  | _ => none
def fn9:AFn:={ ntmps:=57,results:=[.tmp 4],body:=c9,keep:=kp9,head:=fun  | _ => none,opn:=fun _ => none,dyn:=fun _ => [] }
def c10:Code :=
  (.seq (.region 0 #[o 0 (.assign (.const (.bool false))) 4] false)
 (.seq (.seq (.region 1 #[o 1 (.assign (ci 0)) 3] false)
 (.block 0 (.loop (.seq (.seq (.region 2 #[m 20 1 3,o 21 (.binOp .lss 3 (.tmp 20) (ci 256) 3) 4] false)
 (.cond (.tmp 21)
 .skip
 (.exit 0)))
 (.seq (.block 1 (.seq (.region 4 #[m 24 1 3,o 25 (.convert 3 5 (.tmp 24)) 5,⟨some 26,.buildSlice 22 1 #[(0,.tmp 25)],22, "",fz,none⟩,cl 27 8 #[.tmp 26] #[22] 4,o 28 (.unOp .not 4 (.tmp 27)) 4,m 29 28 4,gd 30 (.move (.tmp 1)) 3 29 false,gd 31 (.convert 3 5 (.tmp 30)) 5 29 false,⟨some 32,.buildSlice 22 2 #[(0,.tmp 31),(1,.const (.int .u8 128))],22, "",fz,some (29,false)⟩,gd 33 (.call { callee:=.value (.func 8),args:=#[.tmp 32],argTypes:=#[22] }) 4 29 false,gd 34 (.unOp .not 4 (.tmp 33)) 4 29 false,o 35 (.pick (.tmp 29) (.const (.bool true)) (.tmp 34)) 4,m 36 35 4,gd 37 (.move (.tmp 1)) 3 36 false,gd 38 (.binOp .rem 3 (.tmp 37) (ci 8) 3) 3 36 false,gd 39 (.convert 3 5 (.tmp 38)) 5 36 false,gd 40 (.move (.tmp 1)) 3 36 false,gd 41 (.convert 3 5 (.tmp 40)) 5 36 false,⟨some 42,.buildSlice 22 3 #[(0,.tmp 39),(1,.const (.int .u8 255)),(2,.tmp 41)],22, "",fz,some (36,false)⟩,gd 43 (.call { callee:=.value (.func 8),args:=#[.tmp 42],argTypes:=#[22] }) 4 36 false,gd 44 (.unOp .not 4 (.tmp 43)) 4 36 false,o 45 (.pick (.tmp 36) (.const (.bool true)) (.tmp 44)) 4,m 46 45 4,gd 47 (.move (.tmp 1)) 3 46 false,gd 48 (.convert 3 45 (.tmp 47)) 45 46 false,gd 49 (.binOp .shl 45 (.tmp 48) (.const (.int .u64 56)) 51) 45 46 false,gd 50 (.move (.tmp 1)) 3 46 false,gd 51 (.convert 3 5 (.tmp 50)) 5 46 false,gd 52 (.call { callee:=.value (.func 9),args:=#[.tmp 49,.tmp 51],argTypes:=#[45,5] }) 4 46 false,gd 53 (.unOp .not 4 (.tmp 52)) 4 46 false,o 54 (.pick (.tmp 46) (.const (.bool true)) (.tmp 53)) 4] false)
 (.cond (.tmp 54)
 (.seq (.region 5 #[o 0 (.assign (.const (.bool false))) 4] false)
 .ret)
 .skip)))
 (.region 3 #[m 22 1 3,o 23 (.binOp .add 3 (.tmp 22) (ci 1) 3) 3,o 1 (.assign (.tmp 23)) 3] false))))))
 (.seq (.region 6 #[o 55 (.makeSlice 22 (ci 65537) (ci 65537)) 22,o 2 (.assign (.tmp 55)) 22] false)
 (.seq (.region 7 #[m 57 2 22,o 58 (.slice 22 (.tmp 57) none (some (ci 65536)) none) 22,cl 59 25 #[.tmp 58,.const (.int .i64 524288)] #[22,3] 24,m 56 59 24,o 60 (.extract (.tmp 56) 0) 22,o 61 (.extract (.tmp 56) 1) 23,o 3 (.assign (.tmp 60)) 22,o 4 (.assign (.tmp 61)) 23] false)
 (.seq (.region 8 #[m 63 2 22,cl 64 25 #[.tmp 63,.const (.int .i64 524289)] #[22,3] 24,m 62 64 24,o 65 (.extract (.tmp 62) 0) 22,o 66 (.extract (.tmp 62) 1) 23,o 5 (.assign (.tmp 65)) 22,o 6 (.assign (.tmp 66)) 23] false)
 (.seq (.region 9 #[m 68 3 22,cl 69 31 #[.tmp 68] #[22] 52,m 67 69 52,o 70 (.extract (.tmp 67) 0) 22,o 71 (.extract (.tmp 67) 1) 3,o 72 (.extract (.tmp 67) 2) 23,o 7 (.assign (.tmp 70)) 22,o 8 (.assign (.tmp 71)) 3,o 9 (.assign (.tmp 72)) 23] false)
 (.seq (.region 10 #[m 74 2 22,cl 75 31 #[.tmp 74] #[22] 52,m 73 75 52,o 76 (.extract (.tmp 73) 0) 22,o 77 (.extract (.tmp 73) 1) 3,o 78 (.extract (.tmp 73) 2) 23,o 10 (.assign (.tmp 76)) 22,o 11 (.assign (.tmp 77)) 3,o 12 (.assign (.tmp 78)) 23] false)
 (.seq (.region 11 #[o 80 (.buildSlice 22 1 #[(0,.const (.int .u8 0))]) 22,m 81 2 22,o 82 (.call { callee:=.builtin .append,args:=#[.tmp 80,.tmp 81],argTypes:=#[22,22] }) 22,cl 83 31 #[.tmp 82] #[22] 52,m 79 83 52,o 84 (.extract (.tmp 79) 0) 22,o 85 (.extract (.tmp 79) 1) 3,o 86 (.extract (.tmp 79) 2) 23,o 13 (.assign (.tmp 84)) 22,o 14 (.assign (.tmp 85)) 3,o 15 (.assign (.tmp 86)) 23] false)
 (.seq (.seq (.region 12 #[m 87 4 23,o 88 (.binOp .neq 23 (.tmp 87) (ci 0) 23) 4,m 89 88 4,gd 90 (.move (.tmp 3)) 22 89 false,gd 91 (.call { callee:=.builtin .len,args:=#[.tmp 90],argTypes:=#[22] }) 3 89 false,gd 92 (.binOp .neq 3 (.tmp 91) (ci 65537) 3) 4 89 false,o 93 (.pick (.tmp 89) (.const (.bool true)) (.tmp 92)) 4,m 94 93 4,gd 95 (.move (.tmp 6)) 23 94 false,gd 96 (.binOp .neq 23 (.tmp 95) (ci 3) 23) 4 94 false,o 97 (.pick (.tmp 94) (.const (.bool true)) (.tmp 96)) 4,m 98 97 4,gd 99 (.move (.tmp 9)) 23 98 false,gd 100 (.binOp .neq 23 (.tmp 99) (ci 0) 23) 4 98 false,o 101 (.pick (.tmp 98) (.const (.bool true)) (.tmp 100)) 4,m 102 101 4,gd 103 (.move (.tmp 8)) 3 102 false,gd 104 (.binOp .neq 3 (.tmp 103) (ci 524288) 3) 4 102 false,o 105 (.pick (.tmp 102) (.const (.bool true)) (.tmp 104)) 4,m 106 105 4,gd 107 (.move (.tmp 7)) 22 106 false,gd 108 (.call { callee:=.builtin .len,args:=#[.tmp 107],argTypes:=#[22] }) 3 106 false,gd 109 (.binOp .neq 3 (.tmp 108) (ci 65536) 3) 4 106 false,o 110 (.pick (.tmp 106) (.const (.bool true)) (.tmp 109)) 4,m 111 110 4,gd 112 (.move (.tmp 12)) 23 111 false,gd 113 (.binOp .neq 23 (.tmp 112) (ci 0) 23) 4 111 false,o 114 (.pick (.tmp 111) (.const (.bool true)) (.tmp 113)) 4,m 115 114 4,gd 116 (.move (.tmp 11)) 3 115 false,gd 117 (.binOp .neq 3 (.tmp 116) (ci 524288) 3) 4 115 false,o 118 (.pick (.tmp 115) (.const (.bool true)) (.tmp 117)) 4,m 119 118 4,gd 120 (.move (.tmp 15)) 23 119 false,gd 121 (.binOp .neq 23 (.tmp 120) (ci 3) 23) 4 119 false,o 122 (.pick (.tmp 119) (.const (.bool true)) (.tmp 121)) 4] false)
 (.cond (.tmp 122)
 (.seq (.region 13 #[o 0 (.assign (.const (.bool false))) 4] false)
 .ret)
 .skip))
 (.seq (.region 14 #[m 124 2 22,o 125 (.slice 22 (.tmp 124) none (some (ci 65536)) none) 22,cl 126 32 #[.tmp 125] #[22] 60,m 123 126 60,o 127 (.extract (.tmp 123) 0) 59,o 128 (.extract (.tmp 123) 1) 23,o 16 (.alloc 59) 0,nd (.store 59 (.tmp 16) (.tmp 127)),o 4 (.assign (.tmp 128)) 23] false)
 (.seq (.region 15 #[m 130 2 22,cl 131 32 #[.tmp 130] #[22] 60,m 129 131 60,o 132 (.extract (.tmp 129) 0) 59,o 133 (.extract (.tmp 129) 1) 23,o 6 (.assign (.tmp 133)) 23] false)
 (.seq (.region 16 #[ld 135 16 59,cl 136 33 #[.tmp 135] #[59] 24,m 134 136 24,o 137 (.extract (.tmp 134) 0) 22,o 138 (.extract (.tmp 134) 1) 23,o 17 (.assign (.tmp 137)) 22,o 9 (.assign (.tmp 138)) 23] false)
 (.seq (.region 17 #[o 140 (.build 56 #[(2,.const (.int .u32 4))]) 56,m 141 2 22,o 142 (.build 59 #[(0,.tmp 140),(1,.tmp 141)]) 59,cl 143 33 #[.tmp 142] #[59] 24,m 139 143 24,o 144 (.extract (.tmp 139) 0) 22,o 145 (.extract (.tmp 139) 1) 23,o 12 (.assign (.tmp 145)) 23] false)
 (.seq (.seq (.region 18 #[m 146 4 23,o 147 (.binOp .neq 23 (.tmp 146) (ci 0) 23) 4,m 148 147 4,gd 149 (.move (.tmp 6)) 23 148 false,gd 150 (.binOp .neq 23 (.tmp 149) (ci 3) 23) 4 148 false,o 151 (.pick (.tmp 148) (.const (.bool true)) (.tmp 150)) 4,m 152 151 4,gd 153 (.move (.tmp 9)) 23 152 false,gd 154 (.binOp .neq 23 (.tmp 153) (ci 0) 23) 4 152 false,o 155 (.pick (.tmp 152) (.const (.bool true)) (.tmp 154)) 4,m 156 155 4,gd 157 (.move (.tmp 17)) 22 156 false,gd 158 (.call { callee:=.builtin .len,args:=#[.tmp 157],argTypes:=#[22] }) 3 156 false,gd 159 (.binOp .neq 3 (.tmp 158) (ci 65536) 3) 4 156 false,o 160 (.pick (.tmp 156) (.const (.bool true)) (.tmp 159)) 4,m 161 160 4,gd 162 (.move (.tmp 12)) 23 161 false,gd 163 (.binOp .neq 23 (.tmp 162) (ci 3) 23) 4 161 false,o 164 (.pick (.tmp 161) (.const (.bool true)) (.tmp 163)) 4] false)
 (.cond (.tmp 164)
 (.seq (.region 19 #[o 0 (.assign (.const (.bool false))) 4] false)
 .ret)
 .skip))
 (.seq (.region 20 #[cl 165 29 #[.const (.int .u64 18446744073709551615)] #[45] 22,o 18 (.assign (.tmp 165)) 22] false)
 (.seq (.region 21 #[o 166 (.buildSlice 22 1 #[(0,.const (.int .u8 7))]) 22,m 167 18 22,o 168 (.slice 22 (.tmp 167) (some (ci 1)) none none) 22,o 169 (.call { callee:=.builtin .append,args:=#[.tmp 166,.tmp 168],argTypes:=#[22,22] }) 22,o 170 (.buildSlice 22 1 #[(0,.const (.int .u8 128))]) 22,o 171 (.call { callee:=.builtin .append,args:=#[.tmp 169,.tmp 170],argTypes:=#[22,22] }) 22,o 19 (.assign (.tmp 171)) 22] false)
 (.seq (.region 22 #[m 172 18 22,o 173 (.call { callee:=.builtin .len,args:=#[.tmp 172],argTypes:=#[22] }) 3,o 174 (.binOp .eql 3 (.tmp 173) (ci 9) 3) 4,m 175 174 4,gd 176 (.move (.tmp 18)) 22 175 true,gd 177 (.indexAddr 22 (.tmp 176) (ci 0)) 0 175 true,gd 178 (.load 5 (.tmp 177)) 5 175 true,gd 179 (.binOp .eql 5 (.tmp 178) (.const (.int .u8 0)) 5) 4 175 true,o 180 (.pick (.tmp 175) (.tmp 179) (.const (.bool false))) 4,m 181 180 4,gd 182 (.move (.tmp 18)) 22 181 true,gd 183 (.call { callee:=.value (.func 28),args:=#[.tmp 182,.const (.int .u64 18446744073709551615),.const (.int .i64 0)],argTypes:=#[22,45,3] }) 4 181 true,o 184 (.pick (.tmp 181) (.tmp 183) (.const (.bool false))) 4,m 185 184 4,gd 186 (.move (.tmp 19)) 22 185 true,gd 187 (.call { callee:=.value (.func 28),args:=#[.tmp 186,.const (.int .u64 0),.const (.int .i64 3)],argTypes:=#[22,45,3] }) 4 185 true,o 188 (.pick (.tmp 185) (.tmp 187) (.const (.bool false))) 4,m 189 188 4,gd 190 (.buildSlice 22 1 #[(0,.const (.int .u8 6))]) 22 189 true,gd 191 (.move (.tmp 19)) 22 189 true,gd 192 (.slice 22 (.tmp 191) (some (ci 1)) none none) 22 189 true,gd 193 (.call { callee:=.builtin .append,args:=#[.tmp 190,.tmp 192],argTypes:=#[22,22] }) 22 189 true,gd 194 (.call { callee:=.value (.func 28),args:=#[.tmp 193,.const (.int .u64 0),.const (.int .i64 11)],argTypes:=#[22,45,3] }) 4 189 true,o 195 (.pick (.tmp 189) (.tmp 194) (.const (.bool false))) 4,m 196 195 4,gd 197 (.buildSlice 22 1 #[(0,.const (.int .u8 0))]) 22 196 true,gd 198 (.move (.tmp 2)) 22 196 true,gd 199 (.call { callee:=.builtin .append,args:=#[.tmp 197,.tmp 198],argTypes:=#[22,22] }) 22 196 true,gd 200 (.call { callee:=.value (.func 28),args:=#[.tmp 199,.const (.int .u64 0),.const (.int .i64 11)],argTypes:=#[22,45,3] }) 4 196 true,o 201 (.pick (.tmp 196) (.tmp 200) (.const (.bool false))) 4,m 202 201 4,gd 203 (.call { callee:=.value (.func 21),args:=#[],argTypes:=#[] }) 4 202 true,o 204 (.pick (.tmp 202) (.tmp 203) (.const (.bool false))) 4,o 0 (.assign (.tmp 204)) 4] false)
 .ret)))))))))))))))))
def kp10:Nat → Option (List Nat)
  | 0 => some []
  | 1 => some [1]
  | 2 => some [1,21]
  | 3 => some [1]
  | 4 => some [1,54]
  | 5 => some [0]
  | 6 => some [2]
  | 7 => some [2,3,4]
  | 8 => some [2,3,4,6]
  | 9 => some [2,3,4,6,7,8,9]
  | 10 => some [2,3,4,6,7,8,9,11,12]
  | 11 => some [2,3,4,6,7,8,9,11,12,15]
  | 12 => some [2,122]
  | 13 => some [0]
  | 14 => some [2,4,16]
  | 15 => some [2,4,6,16]
  | 16 => some [2,4,6,9,17]
  | 17 => some [2,4,6,9,12,17]
  | 18 => some [2,164]
  | 19 => some [0]
  | 20 => some [2,18]
  | 21 => some [2,18,19]
  | 22 => some [0]
  | _ => none
def fn10:AFn:={ ntmps:=205,results:=[.tmp 0],body:=c10,keep:=kp10,head:=fun | 2 => some [1] | _ => none,opn:=fun _ => none,dyn:=fun _ => [] }
def c11:Code :=
  (.seq (.region 0 #[o 2 (.box 64 (.tmp 0)) 0,o 4 (.assign (.const (.bool false))) 4] false)
 (.seq (.region 1 #[ld 17 2 64,cl 18 34 #[.tmp 17] #[64] 39,o 5 (.assign (.tmp 18)) 39] false)
 (.seq (.region 2 #[m 19 5 39,cl 20 24 #[.tmp 19] #[39] 22,m 21 5 39,o 22 (.call { callee:=.builtin .len,args:=#[.tmp 21],argTypes:=#[39] }) 3,o 6 (.assign (.tmp 20)) 22,o 7 (.assign (.tmp 22)) 3] false)
 (.seq (.region 3 #[m 23 5 39,cl 24 35 #[.tmp 23] #[39] 22,o 8 (.assign (.tmp 24)) 22] false)
 (.seq (.region 4 #[m 26 6 22,m 27 7 3,cl 28 25 #[.tmp 26,.tmp 27] #[22,3] 24,m 25 28 24,o 29 (.extract (.tmp 25) 0) 22,o 30 (.extract (.tmp 25) 1) 23,o 9 (.assign (.tmp 29)) 22,o 10 (.assign (.tmp 30)) 23] false)
 (.seq (.seq (.region 5 #[m 31 6 22,m 32 7 3,cl 33 36 #[.tmp 31,.tmp 32] #[22,3] 23,o 34 (.binOp .neq 23 (.tmp 33) (ci 0) 23) 4,m 35 34 4,gd 36 (.move (.tmp 9)) 22 35 false,gd 37 (.move (.tmp 10)) 23 35 false,gd 38 (.move (.tmp 8)) 22 35 false,gd 39 (.call { callee:=.value (.func 26),args:=#[.tmp 36,.tmp 37,.tmp 38,.const (.int .i64 0)],argTypes:=#[22,23,22,3] }) 4 35 false,gd 40 (.unOp .not 4 (.tmp 39)) 4 35 false,o 41 (.pick (.tmp 35) (.const (.bool true)) (.tmp 40)) 4,m 42 41 4,gd 43 (.move (.tmp 8)) 22 42 false,gd 44 (.move (.tmp 6)) 22 42 false,gd 45 (.move (.tmp 7)) 3 42 false,gd 46 (.call { callee:=.value (.func 23),args:=#[.tmp 43,.tmp 44,.tmp 45,.const (.int .i64 0)],argTypes:=#[22,22,3,3] }) 4 42 false,gd 47 (.unOp .not 4 (.tmp 46)) 4 42 false,o 48 (.pick (.tmp 42) (.const (.bool true)) (.tmp 47)) 4] false)
 (.cond (.tmp 48)
 (.seq (.region 6 #[o 4 (.assign (.const (.bool false))) 4] false)
 .ret)
 .skip))
 (.seq (.region 7 #[m 50 6 22,m 51 7 3,cl 52 37 #[.tmp 50,.tmp 51] #[22,3] 60,m 49 52 60,o 53 (.extract (.tmp 49) 0) 59,o 54 (.extract (.tmp 49) 1) 23,o 11 (.alloc 59) 0,nd (.store 59 (.tmp 11) (.tmp 53)),o 12 (.assign (.tmp 54)) 23] false)
 (.seq (.region 8 #[ld 56 11 59,cl 57 38 #[.tmp 56] #[59] 52,m 55 57 52,o 58 (.extract (.tmp 55) 0) 22,o 59 (.extract (.tmp 55) 1) 3,o 60 (.extract (.tmp 55) 2) 23,o 13 (.assign (.tmp 58)) 22,o 14 (.assign (.tmp 59)) 3,o 15 (.assign (.tmp 60)) 23] false)
 (.seq (.seq (.region 9 #[ld 61 11 59,m 62 12 23,m 63 8 22,cl 64 39 #[.tmp 61,.tmp 62,.const (.int .u32 3),.tmp 63] #[59,23,31,22] 4,o 65 (.unOp .not 4 (.tmp 64)) 4,m 66 65 4,gd 67 (.move (.tmp 13)) 22 66 false,gd 68 (.move (.tmp 15)) 23 66 false,gd 69 (.move (.tmp 6)) 22 66 false,gd 70 (.call { callee:=.value (.func 26),args:=#[.tmp 67,.tmp 68,.tmp 69,.const (.int .i64 0)],argTypes:=#[22,23,22,3] }) 4 66 false,gd 71 (.unOp .not 4 (.tmp 70)) 4 66 false,o 72 (.pick (.tmp 66) (.const (.bool true)) (.tmp 71)) 4,m 73 72 4,gd 74 (.move (.tmp 14)) 3 73 false,gd 75 (.move (.tmp 7)) 3 73 false,gd 76 (.binOp .neq 3 (.tmp 74) (.tmp 75) 3) 4 73 false,o 77 (.pick (.tmp 73) (.const (.bool true)) (.tmp 76)) 4] false)
 (.cond (.tmp 77)
 (.seq (.region 10 #[o 4 (.assign (.const (.bool false))) 4] false)
 .ret)
 .skip))
 (.seq (.seq (.region 11 #[o 16 (.assign (ci 0)) 3] false)
 (.block 0 (.loop (.seq (.seq (.region 12 #[m 78 16 3,m 79 7 3,o 80 (.binOp .lss 3 (.tmp 78) (.tmp 79) 3) 4] false)
 (.cond (.tmp 80)
 .skip
 (.exit 0)))
 (.seq (.block 1 (.seq (.region 14 #[m 83 6 22,m 84 7 3,m 85 16 3,cl 86 40 #[.tmp 83,.tmp 84,.tmp 85] #[22,3,3] 4,m 87 5 39,m 88 16 3,o 89 (.indexAddr 39 (.tmp 87) (.tmp 88)) 0,ld 90 89 3,o 91 (.binOp .eql 3 (.tmp 90) (ci 1) 3) 4,o 92 (.binOp .neq 4 (.tmp 86) (.tmp 91) 4) 4] true)
 (.cond (.tmp 92)
 (.seq (.region 15 #[o 4 (.assign (.const (.bool false))) 4] false)
 .ret)
 .skip)))
 (.region 13 #[m 81 16 3,o 82 (.binOp .add 3 (.tmp 81) (ci 1) 3) 3,o 16 (.assign (.tmp 82)) 3] false))))))
 (.seq (.region 16 #[m 93 1 3,o 94 (.binOp .geq 3 (.tmp 93) (ci 0) 3) 4,m 95 94 4,gd 96 (.move (.tmp 1)) 3 95 true,gd 97 (.move (.tmp 7)) 3 95 true,gd 98 (.binOp .lss 3 (.tmp 96) (.tmp 97) 3) 4 95 true,o 99 (.pick (.tmp 95) (.tmp 98) (.const (.bool false))) 4,m 100 99 4,gd 101 (.move (.tmp 6)) 22 100 false,gd 102 (.move (.tmp 7)) 3 100 false,gd 103 (.move (.tmp 1)) 3 100 false,gd 104 (.call { callee:=.value (.func 40),args:=#[.tmp 101,.tmp 102,.tmp 103],argTypes:=#[22,3,3] }) 4 100 false,gd 105 (.unOp .not 4 (.tmp 104)) 4 100 false,o 106 (.pick (.tmp 100) (.const (.bool true)) (.tmp 105)) 4,m 107 106 4,gd 108 (.call { callee:=.value (.func 21),args:=#[],argTypes:=#[] }) 4 107 true,o 109 (.pick (.tmp 107) (.tmp 108) (.const (.bool false))) 4,o 4 (.assign (.tmp 109)) 4] false)
 .ret)))))))))))
def kp11:Nat → Option (List Nat)
  | 0 => some [1,2]
  | 1 => some [1,5]
  | 2 => some [1,5,6,7]
  | 3 => some [1,5,6,7,8]
  | 4 => some [1,5,6,7,8,9,10]
  | 5 => some [1,5,6,7,8,48]
  | 6 => some [4]
  | 7 => some [1,5,6,7,8,11,12]
  | 8 => some [1,5,6,7,8,11,12,13,14,15]
  | 9 => some [1,5,6,7,77]
  | 10 => some [4]
  | 11 => some [1,5,6,7,16]
  | 12 => some [1,5,6,7,16,80]
  | 13 => some [1,5,6,7,16]
  | 14 => some [1,5,6,7,16,92]
  | 15 => some [4]
  | 16 => some [4]
  | _ => none
def fn11:AFn:={ ntmps:=110,results:=[.tmp 4],body:=c11,keep:=kp11,head:=fun | 12 => some [1,5,6,7,16] | _ => none,opn:=fun _ => none,dyn:=fun _ => [] }
def c12:Code :=
  (.seq (.region 0 #[o 5 (.box 59 (.tmp 2)) 0,o 6 (.assign (.const (.bool false))) 4] false)
 (.seq (.seq (.region 1 #[m 23 0 22,o 24 (.call { callee:=.builtin .len,args:=#[.tmp 23],argTypes:=#[22] }) 3,o 25 (.binOp .gtr 3 (.tmp 24) (ci 60) 3) 4,m 26 25 4,gd 27 (.fieldAddr 59 (.tmp 5) 1) 0 26 false,gd 28 (.load 22 (.tmp 27)) 22 26 false,gd 29 (.call { callee:=.builtin .len,args:=#[.tmp 28],argTypes:=#[22] }) 3 26 false,gd 30 (.binOp .gtr 3 (.tmp 29) (ci 60) 3) 4 26 false,o 31 (.pick (.tmp 26) (.const (.bool true)) (.tmp 30)) 4] false)
 (.cond (.tmp 31)
 (.seq (.region 2 #[cl 32 21 #[] #[] 4,o 6 (.assign (.tmp 32)) 4] false)
 .ret)
 .skip))
 (.seq (.region 3 #[m 33 0 22,m 34 1 3,cl 35 41 #[.tmp 33,.tmp 34] #[22,3] 3,o 7 (.assign (.tmp 35)) 3] false)
 (.seq (.seq (.region 4 #[m 36 0 22,m 37 1 3,cl 38 36 #[.tmp 36,.tmp 37] #[22,3] 23,m 39 7 3,o 40 (.binOp .neq 3 (.tmp 38) (.tmp 39) 3) 4] false)
 (.cond (.tmp 40)
 (.seq (.region 5 #[o 6 (.assign (.const (.bool false))) 4] false)
 .ret)
 .skip))
 (.seq (.seq (.region 6 #[m 41 7 3,o 42 (.binOp .neq 3 (.tmp 41) (ci 0) 3) 4] false)
 (.cond (.tmp 42)
 (.seq (.region 7 #[m 44 0 22,m 45 1 3,cl 46 25 #[.tmp 44,.tmp 45] #[22,3] 24,m 43 46 24,o 47 (.extract (.tmp 43) 0) 22,o 48 (.extract (.tmp 43) 1) 23,o 8 (.assign (.tmp 47)) 22,o 9 (.assign (.tmp 48)) 23] false)
 (.seq (.region 8 #[m 50 0 22,m 51 1 3,cl 52 37 #[.tmp 50,.tmp 51] #[22,3] 60,m 49 52 60,o 53 (.extract (.tmp 49) 0) 59,o 54 (.extract (.tmp 49) 1) 23,o 10 (.alloc 59) 0,nd (.store 59 (.tmp 10) (.tmp 53)),o 11 (.assign (.tmp 54)) 23] false)
 (.seq (.region 9 #[m 55 8 22,m 56 9 23,m 57 7 3,cl 58 26 #[.tmp 55,.tmp 56,.const (.slice none 0 0),.tmp 57] #[22,23,22,3] 4,o 59 (.unOp .not 4 (.tmp 58)) 4,m 60 59 4,gd 61 (.move (.tmp 11)) 23 60 false,gd 62 (.move (.tmp 7)) 3 60 false,gd 63 (.binOp .neq 3 (.tmp 61) (.tmp 62) 3) 4 60 false,o 64 (.pick (.tmp 60) (.const (.bool true)) (.tmp 63)) 4,m 65 64 4,gd 66 (.fieldAddr 59 (.tmp 10) 1) 0 65 false,gd 67 (.load 22 (.tmp 66)) 22 65 false,gd 68 (.call { callee:=.builtin .len,args:=#[.tmp 67],argTypes:=#[22] }) 3 65 false,gd 69 (.binOp .gtr 3 (.tmp 68) (ci 0) 3) 4 65 false,o 70 (.pick (.tmp 65) (.const (.bool true)) (.tmp 69)) 4,m 71 70 4,gd 72 (.move (.tmp 0)) 22 71 false,gd 73 (.move (.tmp 1)) 3 71 false,gd 74 (.call { callee:=.value (.func 40),args:=#[.tmp 72,.tmp 73,.const (.int .i64 0)],argTypes:=#[22,3,3] }) 4 71 false,o 75 (.pick (.tmp 71) (.const (.bool true)) (.tmp 74)) 4] false)
 (.cond (.tmp 75)
 (.seq (.region 10 #[o 6 (.assign (.const (.bool false))) 4] false)
 .ret)
 .skip))))
 .skip))
 (.seq (.region 11 #[fa 77 59 5 1,ld 78 77 22,cl 79 22 #[.tmp 78] #[22] 40,m 76 79 40,o 80 (.extract (.tmp 76) 0) 39,o 81 (.extract (.tmp 76) 1) 3,o 12 (.assign (.tmp 80)) 39,o 13 (.assign (.tmp 81)) 3] false)
 (.seq (.seq (.region 12 #[fa 82 59 5 2,ld 83 82 57,o 84 (.call { callee:=.builtin .len,args:=#[.tmp 83],argTypes:=#[57] }) 3,o 85 (.binOp .gtr 3 (.tmp 84) (ci 0) 3) 4] false)
 (.cond (.tmp 85)
 (.region 13 #[o 12 (.assign (.const (.slice none 0 0))) 39,o 13 (.assign (ci 1)) 3] false)
 .skip))
 (.seq (.region 14 #[o 86 (.build 56 #[(2,.const (.int .u32 3))]) 56,o 87 (.build 56 #[(2,.const (.int .u32 4))]) 56,o 14 (.alloc 56) 0,o 15 (.alloc 56) 0,nd (.store 56 (.tmp 14) (.tmp 86)),nd (.store 56 (.tmp 15) (.tmp 87))] false)
 (.seq (.seq (.region 15 #[fa 88 59 5 0,ld 89 88 56,ld 90 14 56,o 91 (.binOp .neq 56 (.tmp 89) (.tmp 90) 56) 4] false)
 (.cond (.tmp 91)
 (.region 16 #[o 12 (.assign (.const (.slice none 0 0))) 39,o 13 (.assign (ci 9)) 3] false)
 .skip))
 (.seq (.region 17 #[ld 93 5 59,cl 94 38 #[.tmp 93] #[59] 52,m 92 94 52,o 95 (.extract (.tmp 92) 0) 22,o 96 (.extract (.tmp 92) 1) 3,o 97 (.extract (.tmp 92) 2) 23,o 16 (.assign (.tmp 95)) 22,o 17 (.assign (.tmp 96)) 3,o 18 (.assign (.tmp 97)) 23] false)
 (.seq (.seq (.region 18 #[m 98 16 22,m 99 18 23,m 100 12 39,cl 101 24 #[.tmp 100] #[39] 22,m 102 13 3,cl 103 26 #[.tmp 98,.tmp 99,.tmp 101,.tmp 102] #[22,23,22,3] 4,o 104 (.unOp .not 4 (.tmp 103)) 4,m 105 104 4,gd 106 (.move (.tmp 17)) 3 105 false,gd 107 (.move (.tmp 12)) 39 105 false,gd 108 (.call { callee:=.builtin .len,args:=#[.tmp 107],argTypes:=#[39] }) 3 105 false,gd 109 (.binOp .neq 3 (.tmp 106) (.tmp 108) 3) 4 105 false,o 110 (.pick (.tmp 105) (.const (.bool true)) (.tmp 109)) 4] false)
 (.cond (.tmp 110)
 (.seq (.region 19 #[o 6 (.assign (.const (.bool false))) 4] false)
 .ret)
 .skip))
 (.seq (.region 20 #[ld 112 5 59,cl 113 33 #[.tmp 112] #[59] 24,m 111 113 24,o 114 (.extract (.tmp 111) 0) 22,o 115 (.extract (.tmp 111) 1) 23,o 19 (.assign (.tmp 114)) 22,o 20 (.assign (.tmp 115)) 23] false)
 (.seq (.seq (.region 21 #[fa 116 59 5 0,ld 117 116 56,ld 118 15 56,o 119 (.binOp .neq 56 (.tmp 117) (.tmp 118) 56) 4] false)
 (.cond (.tmp 119)
 (.seq (.region 22 #[m 120 19 22,m 121 20 23,cl 122 26 #[.tmp 120,.tmp 121,.const (.slice none 0 0),.const (.int .i64 9)] #[22,23,22,3] 4,m 123 122 4,gd 124 (.call { callee:=.value (.func 21),args:=#[],argTypes:=#[] }) 4 123 true,o 125 (.pick (.tmp 123) (.tmp 124) (.const (.bool false))) 4,o 6 (.assign (.tmp 125)) 4] false)
 .ret)
 .skip))
 (.seq (.seq (.region 23 #[fa 126 59 5 2,ld 127 126 57,o 128 (.call { callee:=.builtin .len,args:=#[.tmp 127],argTypes:=#[57] }) 3,o 129 (.binOp .gtr 3 (.tmp 128) (ci 0) 3) 4] false)
 (.cond (.tmp 129)
 (.seq (.region 24 #[m 130 19 22,m 131 20 23,cl 132 26 #[.tmp 130,.tmp 131,.const (.slice none 0 0),.const (.int .i64 1)] #[22,23,22,3] 4,m 133 132 4,gd 134 (.call { callee:=.value (.func 21),args:=#[],argTypes:=#[] }) 4 133 true,o 135 (.pick (.tmp 133) (.tmp 134) (.const (.bool false))) 4,o 6 (.assign (.tmp 135)) 4] false)
 .ret)
 .skip))
 (.seq (.region 25 #[m 137 19 22,cl 138 32 #[.tmp 137] #[22] 60,m 136 138 60,o 139 (.extract (.tmp 136) 0) 59,o 140 (.extract (.tmp 136) 1) 23,o 21 (.alloc 59) 0,nd (.store 59 (.tmp 21) (.tmp 139)),o 22 (.assign (.tmp 140)) 23] false)
 (.seq (.region 26 #[m 141 19 22,m 142 20 23,fa 143 59 5 1,ld 144 143 22,cl 145 26 #[.tmp 141,.tmp 142,.tmp 144,.const (.int .i64 0)] #[22,23,22,3] 4,m 146 145 4,gd 147 (.load 59 (.tmp 21)) 59 146 true,gd 148 (.move (.tmp 22)) 23 146 true,gd 149 (.fieldAddr 59 (.tmp 5) 1) 0 146 true,gd 150 (.load 22 (.tmp 149)) 22 146 true,gd 151 (.call { callee:=.value (.func 39),args:=#[.tmp 147,.tmp 148,.const (.int .u32 4),.tmp 150],argTypes:=#[59,23,31,22] }) 4 146 true,o 152 (.pick (.tmp 146) (.tmp 151) (.const (.bool false))) 4,m 153 152 4,gd 154 (.call { callee:=.value (.func 21),args:=#[],argTypes:=#[] }) 4 153 true,o 155 (.pick (.tmp 153) (.tmp 154) (.const (.bool false))) 4,o 6 (.assign (.tmp 155)) 4] false)
 .ret))))))))))))))))
def kp12:Nat → Option (List Nat)
  | 0 => some [0,1,5]
  | 1 => some [0,1,5,31]
  | 2 => some [6]
  | 3 => some [0,1,5,7]
  | 4 => some [0,1,5,7,40]
  | 5 => some [6]
  | 6 => some [0,1,5,7,42]
  | 7 => some [0,1,5,7,8,9]
  | 8 => some [0,1,5,7,8,9,10,11]
  | 9 => some [5,75]
  | 10 => some [6]
  | 11 => some [5,12,13]
  | 12 => some [5,12,13,85]
  | 13 => some [5,12,13]
  | 14 => some [5,12,13,14,15]
  | 15 => some [5,12,13,15,91]
  | 16 => some [5,12,13,15]
  | 17 => some [5,12,13,15,16,17,18]
  | 18 => some [5,15,110]
  | 19 => some [6]
  | 20 => some [5,15,19,20]
  | 21 => some [5,19,20,119]
  | 22 => some [6]
  | 23 => some [5,19,20,129]
  | 24 => some [6]
  | 25 => some [5,19,20,21,22]
  | 26 => some [6]
  | _ => none
def fn12:AFn:={ ntmps:=156,results:=[.tmp 6],body:=c12,keep:=kp12,head:=fun  | _ => none,opn:=fun _ => none,dyn:=fun _ => [] }
def c21:Code :=
  (.seq (.region 0 #[o 0 (.assign (.const (.bool false))) 4] false)
 (.seq (.region 1 #[cl 18 25 #[.const (.slice none 0 0),.const (.int .i64 0)] #[22,3] 24,m 17 18 24,o 19 (.extract (.tmp 17) 0) 22,o 20 (.extract (.tmp 17) 1) 23,o 1 (.assign (.tmp 19)) 22,o 2 (.assign (.tmp 20)) 23] false)
 (.seq (.region 2 #[⟨some 22,.buildSlice 22 1 #[(0,.const (.int .u8 160))],22, "",fz,none⟩,cl 23 25 #[.tmp 22,.const (.int .i64 3)] #[22,3] 24,m 21 23 24,o 24 (.extract (.tmp 21) 0) 22,o 25 (.extract (.tmp 21) 1) 23,o 3 (.assign (.tmp 24)) 22,o 4 (.assign (.tmp 25)) 23] false)
 (.seq (.region 3 #[⟨some 27,.buildSlice 22 1 #[(0,.const (.int .u8 161))],22, "",fz,none⟩,cl 28 25 #[.tmp 27,.const (.int .i64 3)] #[22,3] 24,m 26 28 24,o 29 (.extract (.tmp 26) 0) 22,o 30 (.extract (.tmp 26) 1) 23,o 5 (.assign (.tmp 29)) 22,o 6 (.assign (.tmp 30)) 23] false)
 (.seq (.region 4 #[⟨some 32,.buildSlice 22 1 #[(0,.const (.int .u8 160))],22, "",fz,none⟩,cl 33 25 #[.tmp 32,.const (.int .i64 9)] #[22,3] 24,m 31 33 24,o 34 (.extract (.tmp 31) 0) 22,o 35 (.extract (.tmp 31) 1) 23,o 7 (.assign (.tmp 34)) 22,o 8 (.assign (.tmp 35)) 23] false)
 (.seq (.seq (.region 5 #[m 36 1 22,m 37 2 23,⟨some 38,.buildSlice 22 1 #[(0,.const (.int .u8 0))],22, "",fz,none⟩,cl 39 26 #[.tmp 36,.tmp 37,.tmp 38,.const (.int .i64 0)] #[22,23,22,3] 4,o 40 (.unOp .not 4 (.tmp 39)) 4,m 41 40 4,gd 42 (.move (.tmp 3)) 22 41 false,gd 43 (.move (.tmp 4)) 23 41 false,⟨some 44,.buildSlice 22 2 #[(0,.const (.int .u8 5)),(1,.const (.int .u8 160))],22, "",fz,some (41,false)⟩,gd 45 (.call { callee:=.value (.func 26),args:=#[.tmp 42,.tmp 43,.tmp 44,.const (.int .i64 0)],argTypes:=#[22,23,22,3] }) 4 41 false,gd 46 (.unOp .not 4 (.tmp 45)) 4 41 false,o 47 (.pick (.tmp 41) (.const (.bool true)) (.tmp 46)) 4,m 48 47 4,gd 49 (.move (.tmp 5)) 22 48 false,gd 50 (.move (.tmp 6)) 23 48 false,gd 51 (.call { callee:=.value (.func 26),args:=#[.tmp 49,.tmp 50,.const (.slice none 0 0),.const (.int .i64 1)],argTypes:=#[22,23,22,3] }) 4 48 false,gd 52 (.unOp .not 4 (.tmp 51)) 4 48 false,o 53 (.pick (.tmp 48) (.const (.bool true)) (.tmp 52)) 4,m 54 53 4,gd 55 (.move (.tmp 7)) 22 54 false,gd 56 (.move (.tmp 8)) 23 54 false,gd 57 (.call { callee:=.value (.func 26),args:=#[.tmp 55,.tmp 56,.const (.slice none 0 0),.const (.int .i64 1)],argTypes:=#[22,23,22,3] }) 4 54 false,gd 58 (.unOp .not 4 (.tmp 57)) 4 54 false,o 59 (.pick (.tmp 54) (.const (.bool true)) (.tmp 58)) 4] false)
 (.cond (.tmp 59)
 (.seq (.region 6 #[o 0 (.assign (.const (.bool false))) 4] false)
 .ret)
 .skip))
 (.seq (.seq (.region 7 #[⟨some 60,.buildSlice 22 2 #[(0,.const (.int .u8 5)),(1,.const (.int .u8 160))],22, "",fz,none⟩,⟨some 61,.buildSlice 22 1 #[(0,.const (.int .u8 160))],22, "",fz,none⟩,cl 62 23 #[.tmp 60,.tmp 61,.const (.int .i64 3),.const (.int .i64 0)] #[22,22,3,3] 4,o 63 (.unOp .not 4 (.tmp 62)) 4,m 64 63 4,⟨some 65,.buildSlice 22 1 #[(0,.const (.int .u8 0))],22, "",fz,some (64,false)⟩,gd 66 (.call { callee:=.value (.func 23),args:=#[.tmp 65,.const (.slice none 0 0),.const (.int .i64 0),.const (.int .i64 0)],argTypes:=#[22,22,3,3] }) 4 64 false,gd 67 (.unOp .not 4 (.tmp 66)) 4 64 false,o 68 (.pick (.tmp 64) (.const (.bool true)) (.tmp 67)) 4,m 69 68 4,⟨some 70,.buildSlice 22 1 #[(0,.const (.int .u8 5))],22, "",fz,some (69,false)⟩,gd 71 (.call { callee:=.value (.func 23),args:=#[.tmp 70,.const (.slice none 0 0),.const (.int .i64 0),.const (.int .i64 11)],argTypes:=#[22,22,3,3] }) 4 69 false,gd 72 (.unOp .not 4 (.tmp 71)) 4 69 false,o 73 (.pick (.tmp 69) (.const (.bool true)) (.tmp 72)) 4,m 74 73 4,⟨some 75,.buildSlice 22 2 #[(0,.const (.int .u8 8)),(1,.const (.int .u8 0))],22, "",fz,some (74,false)⟩,gd 76 (.call { callee:=.value (.func 23),args:=#[.tmp 75,.const (.slice none 0 0),.const (.int .i64 0),.const (.int .i64 11)],argTypes:=#[22,22,3,3] }) 4 74 false,gd 77 (.unOp .not 4 (.tmp 76)) 4 74 false,o 78 (.pick (.tmp 74) (.const (.bool true)) (.tmp 77)) 4,m 79 78 4,⟨some 80,.buildSlice 22 2 #[(0,.const (.int .u8 1)),(1,.const (.int .u8 1))],22, "",fz,some (79,false)⟩,gd 81 (.call { callee:=.value (.func 23),args:=#[.tmp 80,.const (.slice none 0 0),.const (.int .i64 0),.const (.int .i64 11)],argTypes:=#[22,22,3,3] }) 4 79 false,gd 82 (.unOp .not 4 (.tmp 81)) 4 79 false,o 83 (.pick (.tmp 79) (.const (.bool true)) (.tmp 82)) 4,m 84 83 4,gd 85 (.call { callee:=.value (.func 23),args:=#[.const (.slice none 0 0),.const (.slice none 0 0),.const (.int .i64 0),.const (.int .i64 11)],argTypes:=#[22,22,3,3] }) 4 84 false,gd 86 (.unOp .not 4 (.tmp 85)) 4 84 false,o 87 (.pick (.tmp 84) (.const (.bool true)) (.tmp 86)) 4] false)
 (.cond (.tmp 87)
 (.seq (.region 8 #[o 0 (.assign (.const (.bool false))) 4] false)
 .ret)
 .skip))
 (.seq (.seq (.region 9 #[⟨some 88,.buildSlice 22 1 #[(0,.const (.int .u8 160))],22, "",fz,none⟩,cl 89 40 #[.tmp 88,.const (.int .i64 3),.const (.int .i64 0)] #[22,3,3] 4,o 90 (.unOp .not 4 (.tmp 89)) 4,m 91 90 4,⟨some 92,.buildSlice 22 1 #[(0,.const (.int .u8 160))],22, "",fz,some (91,false)⟩,gd 93 (.call { callee:=.value (.func 40),args:=#[.tmp 92,.const (.int .i64 3),.const (.int .i64 1)],argTypes:=#[22,3,3] }) 4 91 false,o 94 (.pick (.tmp 91) (.const (.bool true)) (.tmp 93)) 4,m 95 94 4,⟨some 96,.buildSlice 22 1 #[(0,.const (.int .u8 160))],22, "",fz,some (95,false)⟩,gd 97 (.call { callee:=.value (.func 40),args:=#[.tmp 96,.const (.int .i64 3),.const (.int .i64 3)],argTypes:=#[22,3,3] }) 4 95 false,o 98 (.pick (.tmp 95) (.const (.bool true)) (.tmp 97)) 4,m 99 98 4,gd 100 (.call { callee:=.value (.func 29),args:=#[.const (.int .u64 0)],argTypes:=#[45] }) 22 99 false,gd 101 (.convert 22 9 (.tmp 100)) 9 99 false,gd 102 (.binOp .neq 9 (.tmp 101) (.const (.string { data:=#[0] })) 9) 4 99 false,o 103 (.pick (.tmp 99) (.const (.bool true)) (.tmp 102)) 4,m 104 103 4,gd 105 (.call { callee:=.value (.func 29),args:=#[.const (.int .u64 33)],argTypes:=#[45] }) 22 104 false,gd 106 (.convert 22 9 (.tmp 105)) 9 104 false,gd 107 (.binOp .neq 9 (.tmp 106) (.const (.string { data:=#[2,132] })) 9) 4 104 false,o 108 (.pick (.tmp 104) (.const (.bool true)) (.tmp 107)) 4,m 109 108 4,⟨some 110,.buildSlice 22 2 #[(0,.const (.int .u8 2)),(1,.const (.int .u8 132))],22, "",fz,some (109,false)⟩,gd 111 (.call { callee:=.value (.func 28),args:=#[.tmp 110,.const (.int .u64 33),.const (.int .i64 0)],argTypes:=#[22,45,3] }) 4 109 false,gd 112 (.unOp .not 4 (.tmp 111)) 4 109 false,o 113 (.pick (.tmp 109) (.const (.bool true)) (.tmp 112)) 4,m 114 113 4,⟨some 115,.buildSlice 22 2 #[(0,.const (.int .u8 1)),(1,.const (.int .u8 132))],22, "",fz,some (114,false)⟩,gd 116 (.call { callee:=.value (.func 28),args:=#[.tmp 115,.const (.int .u64 0),.const (.int .i64 11)],argTypes:=#[22,45,3] }) 4 114 false,gd 117 (.unOp .not 4 (.tmp 116)) 4 114 false,o 118 (.pick (.tmp 114) (.const (.bool true)) (.tmp 117)) 4,m 119 118 4,⟨some 120,.buildSlice 22 2 #[(0,.const (.int .u8 0)),(1,.const (.int .u8 0))],22, "",fz,some (119,false)⟩,gd 121 (.call { callee:=.value (.func 28),args:=#[.tmp 120,.const (.int .u64 0),.const (.int .i64 11)],argTypes:=#[22,45,3] }) 4 119 false,gd 122 (.unOp .not 4 (.tmp 121)) 4 119 false,o 123 (.pick (.tmp 119) (.const (.bool true)) (.tmp 122)) 4] false)
 (.cond (.tmp 123)
 (.seq (.region 10 #[o 0 (.assign (.const (.bool false))) 4] false)
 .ret)
 .skip))
 (.seq (.region 11 #[⟨some 125,.buildSlice 22 2 #[(0,.const (.int .u8 5)),(1,.const (.int .u8 6))],22, "",fz,none⟩,cl 126 32 #[.tmp 125] #[22] 60,m 124 126 60,o 127 (.extract (.tmp 124) 0) 59,o 128 (.extract (.tmp 124) 1) 23,o 9 (.alloc 59) 0,nd (.store 59 (.tmp 9) (.tmp 127)),o 10 (.assign (.tmp 128)) 23] false)
 (.seq (.region 12 #[ld 130 9 59,cl 131 33 #[.tmp 130] #[59] 24,m 129 131 24,o 132 (.extract (.tmp 129) 0) 22,o 133 (.extract (.tmp 129) 1) 23,o 11 (.assign (.tmp 132)) 22,o 12 (.assign (.tmp 133)) 23] false)
 (.seq (.region 13 #[⟨some 135,.buildSlice 22 1 #[(0,.const (.int .u8 160))],22, "",fz,none⟩,cl 136 37 #[.tmp 135,.const (.int .i64 3)] #[22,3] 60,m 134 136 60,o 137 (.extract (.tmp 134) 0) 59,o 138 (.extract (.tmp 134) 1) 23,o 13 (.alloc 59) 0,nd (.store 59 (.tmp 13) (.tmp 137)),o 14 (.assign (.tmp 138)) 23] false)
 (.seq (.region 14 #[ld 140 13 59,cl 141 33 #[.tmp 140] #[59] 24,m 139 141 24,o 142 (.extract (.tmp 139) 0) 22,o 143 (.extract (.tmp 139) 1) 23,o 15 (.assign (.tmp 142)) 22,o 16 (.assign (.tmp 143)) 23] false)
 (.seq (.region 15 #[ld 144 9 59,m 145 10 23,⟨some 146,.buildSlice 22 2 #[(0,.const (.int .u8 5)),(1,.const (.int .u8 6))],22, "",fz,none⟩,cl 147 39 #[.tmp 144,.tmp 145,.const (.int .u32 4),.tmp 146] #[59,23,31,22] 4,m 148 147 4,gd 149 (.move (.tmp 11)) 22 148 true,gd 150 (.move (.tmp 12)) 23 148 true,⟨some 151,.buildSlice 22 2 #[(0,.const (.int .u8 5)),(1,.const (.int .u8 6))],22, "",fz,some (148,true)⟩,gd 152 (.call { callee:=.value (.func 26),args:=#[.tmp 149,.tmp 150,.tmp 151,.const (.int .i64 0)],argTypes:=#[22,23,22,3] }) 4 148 true,o 153 (.pick (.tmp 148) (.tmp 152) (.const (.bool false))) 4,m 154 153 4,gd 155 (.move (.tmp 14)) 23 154 true,gd 156 (.binOp .eql 23 (.tmp 155) (ci 0) 23) 4 154 true,o 157 (.pick (.tmp 154) (.tmp 156) (.const (.bool false))) 4,m 158 157 4,gd 159 (.move (.tmp 16)) 23 158 true,gd 160 (.binOp .eql 23 (.tmp 159) (ci 9) 23) 4 158 true,o 161 (.pick (.tmp 158) (.tmp 160) (.const (.bool false))) 4,o 0 (.assign (.tmp 161)) 4] false)
 .ret)))))))))))))
def kp21:Nat → Option (List Nat)
  | 0 => some []
  | 1 => some [1,2]
  | 2 => some [1,2,3,4]
  | 3 => some [1,2,3,4,5,6]
  | 4 => some [1,2,3,4,5,6,7,8]
  | 5 => some [59]
  | 6 => some [0]
  | 7 => some [87]
  | 8 => some [0]
  | 9 => some [123]
  | 10 => some [0]
  | 11 => some [9,10]
  | 12 => some [9,10,11,12]
  | 13 => some [9,10,11,12,13,14]
  | 14 => some [9,10,11,12,14,16]
  | 15 => some [0]
  | _ => none
def fn21:AFn:={ ntmps:=162,results:=[.tmp 0],body:=c21,keep:=kp21,head:=fun  | _ => none,opn:=fun _ => none,dyn:=fun _ => [] }
def c22:Code :=
  (.seq (.region 0 #[o 2 (.assign (.const (.slice none 0 0))) 39,o 3 (.assign (ci 0)) 3] false)
 (.seq (.seq (.region 1 #[m 7 0 22,o 8 (.call { callee:=.builtin .len,args:=#[.tmp 7],argTypes:=#[22] }) 3,o 9 (.binOp .eql 3 (.tmp 8) (ci 0) 3) 4,m 10 9 4,gd 11 (.move (.tmp 0)) 22 10 false,gd 12 (.indexAddr 22 (.tmp 11) (ci 0)) 0 10 false,gd 13 (.load 5 (.tmp 12)) 5 10 false,gd 14 (.binOp .gtr 5 (.tmp 13) (.const (.int .u8 7)) 5) 4 10 false,o 15 (.pick (.tmp 10) (.const (.bool true)) (.tmp 14)) 4,m 16 15 4,gd 17 (.move (.tmp 0)) 22 16 false,gd 18 (.call { callee:=.builtin .len,args:=#[.tmp 17],argTypes:=#[22] }) 3 16 false,gd 19 (.binOp .sub 3 (.tmp 18) (ci 1) 3) 3 16 false,gd 20 (.binOp .mul 3 (ci 8) (.tmp 19) 3) 3 16 false,gd 21 (.move (.tmp 0)) 22 16 false,gd 22 (.indexAddr 22 (.tmp 21) (ci 0)) 0 16 false,gd 23 (.load 5 (.tmp 22)) 5 16 false,gd 24 (.convert 5 3 (.tmp 23)) 3 16 false,gd 25 (.binOp .lss 3 (.tmp 20) (.tmp 24) 3) 4 16 false,o 26 (.pick (.tmp 16) (.const (.bool true)) (.tmp 25)) 4] false)
 (.cond (.tmp 26)
 (.seq (.region 2 #[o 2 (.assign (.const (.slice none 0 0))) 39,o 3 (.assign (ci 11)) 3] false)
 .ret)
 .skip))
 (.seq (.region 3 #[m 27 0 22,o 28 (.slice 22 (.tmp 27) (some (ci 1)) none none) 22,cl 29 45 #[.tmp 28] #[22] 39,o 4 (.assign (.tmp 29)) 39] false)
 (.seq (.region 4 #[m 30 4 39,o 31 (.call { callee:=.builtin .len,args:=#[.tmp 30],argTypes:=#[39] }) 3,m 32 0 22,o 33 (.indexAddr 22 (.tmp 32) (ci 0)) 0,ld 34 33 5,o 35 (.convert 5 3 (.tmp 34)) 3,o 36 (.binOp .sub 3 (.tmp 31) (.tmp 35) 3) 3,o 5 (.assign (.tmp 36)) 3] false)
 (.seq (.seq (.region 5 #[m 37 5 3,o 6 (.assign (.tmp 37)) 3] false)
 (.block 0 (.loop (.seq (.seq (.region 6 #[m 38 6 3,m 39 4 39,o 40 (.call { callee:=.builtin .len,args:=#[.tmp 39],argTypes:=#[39] }) 3,o 41 (.binOp .lss 3 (.tmp 38) (.tmp 40) 3) 4] false)
 (.cond (.tmp 41)
 .skip
 (.exit 0)))
 (.seq (.block 1 (.seq (.region 8 #[m 44 4 39,m 45 6 3,o 46 (.indexAddr 39 (.tmp 44) (.tmp 45)) 0,ld 47 46 3,o 48 (.binOp .neq 3 (.tmp 47) (ci 0) 3) 4] false)
 (.cond (.tmp 48)
 (.seq (.region 9 #[o 2 (.assign (.const (.slice none 0 0))) 39,o 3 (.assign (ci 11)) 3] false)
 .ret)
 .skip)))
 (.region 7 #[m 42 6 3,o 43 (.binOp .add 3 (.tmp 42) (ci 1) 3) 3,o 6 (.assign (.tmp 43)) 3] false))))))
 (.seq (.seq (.region 10 #[m 49 5 3,o 50 (.binOp .gtr 3 (.tmp 49) (ci 524288) 3) 4] false)
 (.cond (.tmp 50)
 (.seq (.region 11 #[o 2 (.assign (.const (.slice none 0 0))) 39,o 3 (.assign (ci 3)) 3] false)
 .ret)
 .skip))
 (.seq (.region 12 #[m 51 4 39,m 52 5 3,o 53 (.slice 39 (.tmp 51) none (some (.tmp 52)) none) 39,o 2 (.assign (.tmp 53)) 39,o 3 (.assign (ci 0)) 3] false)
 .ret)))))))
def kp22:Nat → Option (List Nat)
  | 0 => some [0]
  | 1 => some [0,26]
  | 2 => some [2,3]
  | 3 => some [0,4]
  | 4 => some [4,5]
  | 5 => some [4,5,6]
  | 6 => some [4,5,6,41]
  | 7 => some [4,5,6]
  | 8 => some [4,5,6,48]
  | 9 => some [2,3]
  | 10 => some [4,5,50]
  | 11 => some [2,3]
  | 12 => some [2,3]
  | _ => none
def fn22:AFn:={ ntmps:=54,results:=[.tmp 2,.tmp 3],body:=c22,keep:=kp22,head:=fun | 6 => some [4,5,6] | _ => none,opn:=fun _ => none,dyn:=fun _ => [] }
def c23:Code :=
  (.seq (.region 0 #[o 8 (.assign (.const (.bool false))) 4] false)
 (.seq (.region 1 #[m 13 0 22,cl 14 31 #[.tmp 13] #[22] 52,m 12 14 52,o 15 (.extract (.tmp 12) 0) 22,o 16 (.extract (.tmp 12) 1) 3,o 17 (.extract (.tmp 12) 2) 23,o 9 (.assign (.tmp 15)) 22,o 10 (.assign (.tmp 16)) 3,o 11 (.assign (.tmp 17)) 23] false)
 (.seq (.region 2 #[m 18 9 22,m 19 11 23,m 20 1 22,m 21 3 3,cl 22 26 #[.tmp 18,.tmp 19,.tmp 20,.tmp 21] #[22,23,22,3] 4,m 23 22 4,gd 24 (.move (.tmp 10)) 3 23 true,gd 25 (.move (.tmp 2)) 3 23 true,gd 26 (.binOp .eql 3 (.tmp 24) (.tmp 25) 3) 4 23 true,o 27 (.pick (.tmp 23) (.tmp 26) (.const (.bool false))) 4,o 8 (.assign (.tmp 27)) 4] false)
 .ret)))
def kp23:Nat → Option (List Nat)
  | 0 => some [0,1,2,3]
  | 1 => some [1,2,3,9,10,11]
  | 2 => some [8]
  | _ => none
def fn23:AFn:={ ntmps:=28,results:=[.tmp 8],body:=c23,keep:=kp23,head:=fun  | _ => none,opn:=fun _ => none,dyn:=fun _ => [] }
def c24:Code :=
  (.seq (.region 0 #[o 2 (.assign (.const (.slice none 0 0))) 22] false)
 (.seq (.region 1 #[o 3 (.assign (.const (.slice none 0 0))) 22] false)
 (.seq (.seq (.region 2 #[o 4 (.assign (ci 0)) 3] false)
 (.block 0 (.loop (.seq (.seq (.region 3 #[m 7 4 3,m 8 0 39,o 9 (.call { callee:=.builtin .len,args:=#[.tmp 8],argTypes:=#[39] }) 3,o 10 (.binOp .lss 3 (.tmp 7) (.tmp 9) 3) 4] false)
 (.cond (.tmp 10)
 .skip
 (.exit 0)))
 (.seq (.block 1 (.seq (.region 5 #[o 5 (.assign (ci 0)) 3] false)
 (.seq (.seq (.region 6 #[o 6 (.assign (ci 0)) 3] false)
 (.block 2 (.loop (.seq (.seq (.region 7 #[m 13 6 3,o 14 (.binOp .lss 3 (.tmp 13) (ci 8) 3) 4] false)
 (.cond (.tmp 14)
 .skip
 (.exit 2)))
 (.seq (.block 3 (.seq (.region 9 #[m 17 5 3,o 18 (.binOp .mul 3 (ci 2) (.tmp 17) 3) 3,o 5 (.assign (.tmp 18)) 3] false)
 (.seq (.region 10 #[m 19 4 3,m 20 6 3,o 21 (.binOp .add 3 (.tmp 19) (.tmp 20) 3) 3,m 22 0 39,o 23 (.call { callee:=.builtin .len,args:=#[.tmp 22],argTypes:=#[39] }) 3,o 24 (.binOp .lss 3 (.tmp 21) (.tmp 23) 3) 4] false)
 (.cond (.tmp 24)
 (.region 11 #[m 25 5 3,m 26 0 39,m 27 4 3,m 28 6 3,o 29 (.binOp .add 3 (.tmp 27) (.tmp 28) 3) 3,o 30 (.indexAddr 39 (.tmp 26) (.tmp 29)) 0,ld 31 30 3,o 32 (.binOp .add 3 (.tmp 25) (.tmp 31) 3) 3,o 5 (.assign (.tmp 32)) 3] false)
 .skip))))
 (.region 8 #[m 15 6 3,o 16 (.binOp .add 3 (.tmp 15) (ci 1) 3) 3,o 6 (.assign (.tmp 16)) 3] false))))))
 (.region 12 #[m 33 3 22,m 34 5 3,o 35 (.convert 3 5 (.tmp 34)) 5,o 36 (.buildSlice 22 1 #[(0,.tmp 35)]) 22,o 37 (.call { callee:=.builtin .append,args:=#[.tmp 33,.tmp 36],argTypes:=#[22,22] }) 22,o 3 (.assign (.tmp 37)) 22] false))))
 (.region 4 #[m 11 4 3,o 12 (.binOp .add 3 (.tmp 11) (ci 8) 3) 3,o 4 (.assign (.tmp 12)) 3] false))))))
 (.seq (.region 13 #[m 38 3 22,o 2 (.assign (.tmp 38)) 22] false)
 .ret))))
def kp24:Nat → Option (List Nat)
  | 0 => some [0]
  | 1 => some [0,3]
  | 2 => some [0,3,4]
  | 3 => some [0,3,4,10]
  | 4 => some [0,3,4]
  | 5 => some [0,3,4,5]
  | 6 => some [0,3,4,5,6]
  | 7 => some [0,3,4,5,6,14]
  | 8 => some [0,3,4,5,6]
  | 9 => some [0,3,4,5,6]
  | 10 => some [0,3,4,5,6,24]
  | 11 => some [0,3,4,5,6]
  | 12 => some [0,3,4]
  | 13 => some [2]
  | _ => none
def fn24:AFn:={ ntmps:=39,results:=[.tmp 2],body:=c24,keep:=kp24,head:=fun | 3 => some [0,3,4] | 7 => some [0,3,4,5,6] | _ => none,opn:=fun _ => none,dyn:=fun _ => [] }
def c25:Code :=
  (.seq (.region 0 #[o 4 (.assign (.const (.slice none 0 0))) 22,o 5 (.assign (ci 0)) 23] false)
 (.seq (.seq (.region 1 #[m 7 0 22,m 8 1 3,cl 9 36 #[.tmp 7,.tmp 8] #[22,3] 23,o 6 (.assign (.tmp 9)) 23] false)
 (.seq (.region 2 #[m 10 6 23,o 11 (.binOp .neq 23 (.tmp 10) (ci 0) 23) 4] false)
 (.cond (.tmp 11)
 (.seq (.region 3 #[m 12 6 23,o 4 (.assign (.const (.slice none 0 0))) 22,o 5 (.assign (.tmp 12)) 23] false)
 .ret)
 .skip)))
 (.seq (.region 4 #[m 13 1 3,cl 14 47 #[.tmp 13] #[3] 3,o 15 (.convert 3 5 (.tmp 14)) 5,⟨some 16,.buildSlice 22 1 #[(0,.tmp 15)],22, "",fz,none⟩,m 17 0 22,cl 18 46 #[.tmp 16,.tmp 17] #[22,22] 22,o 4 (.assign (.tmp 18)) 22,o 5 (.assign (ci 0)) 23] false)
 .ret)))
def kp25:Nat → Option (List Nat)
  | 0 => some [0,1]
  | 1 => some [0,1,6]
  | 2 => some [0,1,6,11]
  | 3 => some [4,5]
  | 4 => some [4,5]
  | _ => none
def fn25:AFn:={ ntmps:=19,results:=[.tmp 4,.tmp 5],body:=c25,keep:=kp25,head:=fun  | _ => none,opn:=fun _ => none,dyn:=fun _ => [] }
def c26:Code :=
  (.seq (.region 0 #[o 8 (.assign (.const (.bool false))) 4] false)
 (.seq (.region 1 #[m 9 1 23,m 10 3 3,o 11 (.binOp .eql 3 (.tmp 9) (.tmp 10) 3) 4,m 12 11 4,gd 13 (.move (.tmp 0)) 22 12 true,gd 14 (.convert 22 9 (.tmp 13)) 9 12 true,gd 15 (.move (.tmp 2)) 22 12 true,gd 16 (.convert 22 9 (.tmp 15)) 9 12 true,gd 17 (.binOp .eql 9 (.tmp 14) (.tmp 16) 9) 4 12 true,o 18 (.pick (.tmp 12) (.tmp 17) (.const (.bool false))) 4,m 19 18 4,gd 20 (.move (.tmp 0)) 22 19 true,gd 21 (.call { callee:=.builtin .cap,args:=#[.tmp 20],argTypes:=#[22] }) 3 19 true,gd 22 (.move (.tmp 0)) 22 19 true,gd 23 (.call { callee:=.builtin .len,args:=#[.tmp 22],argTypes:=#[22] }) 3 19 true,gd 24 (.binOp .eql 3 (.tmp 21) (.tmp 23) 3) 4 19 true,o 25 (.pick (.tmp 19) (.tmp 24) (.const (.bool false))) 4,o 8 (.assign (.tmp 25)) 4] false)
 .ret))
def kp26:Nat → Option (List Nat)
  | 0 => some [0,1,2,3]
  | 1 => some [8]
  | _ => none
def fn26:AFn:={ ntmps:=26,results:=[.tmp 8],body:=c26,keep:=kp26,head:=fun  | _ => none,opn:=fun _ => none,dyn:=fun _ => [] }
def c27:Code :=
  (.seq (.region 0 #[o 2 (.assign (.const (.int .u64 0))) 45,o 3 (.assign (ci 0)) 3] false)
 (.seq (.region 1 #[m 9 0 22,cl 10 22 #[.tmp 9] #[22] 40,m 8 10 40,o 11 (.extract (.tmp 8) 0) 39,o 12 (.extract (.tmp 8) 1) 3,o 4 (.assign (.tmp 11)) 39,o 5 (.assign (.tmp 12)) 3] false)
 (.seq (.seq (.region 2 #[m 13 5 3,o 14 (.binOp .neq 3 (.tmp 13) (ci 0) 3) 4] false)
 (.cond (.tmp 14)
 (.seq (.region 3 #[m 15 5 3,o 2 (.assign (.const (.int .u64 0))) 45,o 3 (.assign (.tmp 15)) 3] false)
 .ret)
 .skip))
 (.seq (.seq (.region 4 #[m 16 4 39,o 17 (.call { callee:=.builtin .len,args:=#[.tmp 16],argTypes:=#[39] }) 3,o 18 (.binOp .gtr 3 (.tmp 17) (ci 0) 3) 4,m 19 18 4,gd 20 (.move (.tmp 4)) 39 19 true,gd 21 (.move (.tmp 4)) 39 19 true,gd 22 (.call { callee:=.builtin .len,args:=#[.tmp 21],argTypes:=#[39] }) 3 19 true,gd 23 (.binOp .sub 3 (.tmp 22) (ci 1) 3) 3 19 true,gd 24 (.indexAddr 39 (.tmp 20) (.tmp 23)) 0 19 true,gd 25 (.load 3 (.tmp 24)) 3 19 true,gd 26 (.binOp .eql 3 (.tmp 25) (ci 0) 3) 4 19 true,o 27 (.pick (.tmp 19) (.tmp 26) (.const (.bool false))) 4] false)
 (.cond (.tmp 27)
 (.seq (.region 5 #[o 2 (.assign (.const (.int .u64 0))) 45,o 3 (.assign (ci 11)) 3] false)
 .ret)
 .skip))
 (.seq (.seq (.region 6 #[m 28 4 39,o 29 (.call { callee:=.builtin .len,args:=#[.tmp 28],argTypes:=#[39] }) 3,o 30 (.binOp .gtr 3 (.tmp 29) (ci 64) 3) 4] false)
 (.cond (.tmp 30)
 (.seq (.region 7 #[o 2 (.assign (.const (.int .u64 0))) 45,o 3 (.assign (ci 3)) 3] false)
 .ret)
 .skip))
 (.seq (.region 8 #[o 6 (.assign (.const (.int .u64 0))) 45] false)
 (.seq (.seq (.region 9 #[m 31 4 39,o 32 (.call { callee:=.builtin .len,args:=#[.tmp 31],argTypes:=#[39] }) 3,o 33 (.binOp .sub 3 (.tmp 32) (ci 1) 3) 3,o 7 (.assign (.tmp 33)) 3] false)
 (.block 0 (.loop (.seq (.seq (.region 10 #[m 34 7 3,o 35 (.binOp .geq 3 (.tmp 34) (ci 0) 3) 4] false)
 (.cond (.tmp 35)
 .skip
 (.exit 0)))
 (.seq (.block 1 (.region 12 #[m 38 6 45,o 39 (.binOp .mul 45 (.const (.int .u64 2)) (.tmp 38) 45) 45,m 40 4 39,m 41 7 3,o 42 (.indexAddr 39 (.tmp 40) (.tmp 41)) 0,ld 43 42 3,o 44 (.convert 3 45 (.tmp 43)) 45,o 45 (.binOp .add 45 (.tmp 39) (.tmp 44) 45) 45,o 6 (.assign (.tmp 45)) 45] false))
 (.region 11 #[m 36 7 3,o 37 (.binOp .sub 3 (.tmp 36) (ci 1) 3) 3,o 7 (.assign (.tmp 37)) 3] false))))))
 (.seq (.region 13 #[m 46 6 45,o 2 (.assign (.tmp 46)) 45,o 3 (.assign (ci 0)) 3] false)
 .ret))))))))
def kp27:Nat → Option (List Nat)
  | 0 => some [0]
  | 1 => some [4,5]
  | 2 => some [4,5,14]
  | 3 => some [2,3]
  | 4 => some [4,27]
  | 5 => some [2,3]
  | 6 => some [4,30]
  | 7 => some [2,3]
  | 8 => some [4,6]
  | 9 => some [4,6,7]
  | 10 => some [4,6,7,35]
  | 11 => some [4,6,7]
  | 12 => some [4,6,7]
  | 13 => some [2,3]
  | _ => none
def fn27:AFn:={ ntmps:=47,results:=[.tmp 2,.tmp 3],body:=c27,keep:=kp27,head:=fun | 10 => some [4,6,7] | _ => none,opn:=fun _ => none,dyn:=fun _ => [] }
def c28:Code :=
  (.seq (.region 0 #[o 6 (.assign (.const (.bool false))) 4] false)
 (.seq (.region 1 #[m 10 0 22,cl 11 48 #[.tmp 10] #[22] 80,m 9 11 80,o 12 (.extract (.tmp 9) 0) 45,o 13 (.extract (.tmp 9) 1) 23,o 7 (.assign (.tmp 12)) 45,o 8 (.assign (.tmp 13)) 23] false)
 (.seq (.region 2 #[m 14 7 45,m 15 1 45,o 16 (.binOp .eql 45 (.tmp 14) (.tmp 15) 45) 4,m 17 16 4,gd 18 (.move (.tmp 8)) 23 17 true,gd 19 (.move (.tmp 2)) 3 17 true,gd 20 (.binOp .eql 3 (.tmp 18) (.tmp 19) 3) 4 17 true,o 21 (.pick (.tmp 17) (.tmp 20) (.const (.bool false))) 4,o 6 (.assign (.tmp 21)) 4] false)
 .ret)))
def kp28:Nat → Option (List Nat)
  | 0 => some [0,1,2]
  | 1 => some [1,2,7,8]
  | 2 => some [6]
  | _ => none
def fn28:AFn:={ ntmps:=22,results:=[.tmp 6],body:=c28,keep:=kp28,head:=fun  | _ => none,opn:=fun _ => none,dyn:=fun _ => [] }
def c29:Code :=
  (.seq (.region 0 #[o 2 (.assign (.const (.slice none 0 0))) 22] false)
 (.seq (.region 1 #[m 6 0 45,cl 7 49 #[.tmp 6] #[45] 3,o 3 (.assign (.tmp 7)) 3] false)
 (.seq (.region 2 #[m 8 3 3,o 9 (.binOp .add 3 (.tmp 8) (ci 7) 3) 3,o 10 (.binOp .quo 3 (.tmp 9) (ci 8) 3) 3,o 11 (.makeSlice 22 (.tmp 10) (.tmp 10)) 22,o 4 (.assign (.tmp 11)) 22] false)
 (.seq (.seq (.region 3 #[m 12 3 3,o 13 (.move (ci 0)) 3] false)
 (.block 0 (.loop (.seq (.region 4 #[o 14 (.binOp .lss 3 (.tmp 13) (.tmp 12) 3) 4] false)
 (.seq (.cond (.tmp 14)
 .skip
 (.exit 0))
 (.seq (.block 1 (.seq (.region 5 #[m 15 13 3,o 5 (.assign (.tmp 15)) 3] false)
 (.seq (.region 6 #[m 16 0 45,m 17 5 3,o 18 (.binOp .shr 45 (.tmp 16) (.tmp 17) 3) 45,o 19 (.binOp .and 45 (.tmp 18) (.const (.int .u64 1)) 45) 45,o 20 (.binOp .eql 45 (.tmp 19) (.const (.int .u64 1)) 45) 4] false)
 (.cond (.tmp 20)
 (.region 7 #[m 21 4 22,m 22 5 3,o 23 (.binOp .quo 3 (.tmp 22) (ci 8) 3) 3,o 24 (.indexAddr 22 (.tmp 21) (.tmp 23)) 0,ld 25 24 5,m 26 5 3,o 27 (.binOp .rem 3 (.tmp 26) (ci 8) 3) 3,o 28 (.binOp .shr 5 (.const (.int .u8 128)) (.tmp 27) 3) 5,o 29 (.binOp .or 5 (.tmp 25) (.tmp 28) 5) 5,o 30 (.indexAddr 22 (.tmp 21) (.tmp 23)) 0,nd (.store 5 (.tmp 30) (.tmp 29))] true)
 .skip))))
 (.region 8 #[o 31 (.binOp .add 3 (.tmp 13) (ci 1) 3) 3,m 13 31 3] false)))))))
 (.seq (.region 9 #[m 32 3 3,cl 33 47 #[.tmp 32] #[3] 3,o 34 (.convert 3 5 (.tmp 33)) 5,⟨some 35,.buildSlice 22 1 #[(0,.tmp 34)],22, "",fz,none⟩,m 36 4 22,cl 37 46 #[.tmp 35,.tmp 36] #[22,22] 22,o 2 (.assign (.tmp 37)) 22] false)
 .ret)))))
def kp29:Nat → Option (List Nat)
  | 0 => some [0]
  | 1 => some [0,3]
  | 2 => some [0,3,4]
  | 3 => some [0,3,4,12,13]
  | 4 => some [0,3,4,12,13,14]
  | 5 => some [0,3,4,5,12,13]
  | 6 => some [0,3,4,5,12,13,20]
  | 7 => some [0,3,4,12,13]
  | 8 => some [0,3,4,12,13]
  | 9 => some [2]
  | _ => none
def fn29:AFn:={ ntmps:=38,results:=[.tmp 2],body:=c29,keep:=kp29,head:=fun | 4 => some [0,3,4,12,13] | _ => none,opn:=fun _ => none,dyn:=fun _ => [] }
def c30:Code :=
  (.seq (.region 0 #[o 2 (.assign (.const (.slice none 0 0))) 22] false)
 (.seq (.region 1 #[o 3 (.assign (.const (.slice none 0 0))) 39] false)
 (.seq (.block 0 (.loop (.seq (.seq (.region 2 #[m 4 0 45,o 5 (.binOp .gtr 45 (.tmp 4) (.const (.int .u64 0)) 45) 4] false)
 (.cond (.tmp 5)
 .skip
 (.exit 0)))
 (.block 1 (.seq (.region 3 #[m 6 3 39,m 7 0 45,o 8 (.binOp .rem 45 (.tmp 7) (.const (.int .u64 2)) 45) 45,o 9 (.convert 45 3 (.tmp 8)) 3,o 10 (.buildSlice 39 1 #[(0,.tmp 9)]) 39,o 11 (.call { callee:=.builtin .append,args:=#[.tmp 6,.tmp 10],argTypes:=#[39,39] }) 39,o 3 (.assign (.tmp 11)) 39] false)
 (.region 4 #[m 12 0 45,o 13 (.binOp .quo 45 (.tmp 12) (.const (.int .u64 2)) 45) 45,o 0 (.assign (.tmp 13)) 45] false))))))
 (.seq (.region 5 #[m 14 3 39,cl 15 35 #[.tmp 14] #[39] 22,o 2 (.assign (.tmp 15)) 22] false)
 .ret))))
def kp30:Nat → Option (List Nat)
  | 0 => some [0]
  | 1 => some [0,3]
  | 2 => some [0,3,5]
  | 3 => some [0,3]
  | 4 => some [0,3]
  | 5 => some [2]
  | _ => none
def fn30:AFn:={ ntmps:=16,results:=[.tmp 2],body:=c30,keep:=kp30,head:=fun | 2 => some [0,3] | _ => none,opn:=fun _ => none,dyn:=fun _ => [] }
def c31:Code :=
  (.seq (.region 0 #[o 2 (.assign (.const (.slice none 0 0))) 22,o 3 (.assign (ci 0)) 3,o 4 (.assign (ci 0)) 23] false)
 (.seq (.seq (.region 1 #[m 5 0 22,o 6 (.call { callee:=.builtin .len,args:=#[.tmp 5],argTypes:=#[22] }) 3,o 7 (.binOp .eql 3 (.tmp 6) (ci 0) 3) 4,m 8 7 4,gd 9 (.move (.tmp 0)) 22 8 false,gd 10 (.indexAddr 22 (.tmp 9) (ci 0)) 0 8 false,gd 11 (.load 5 (.tmp 10)) 5 8 false,gd 12 (.binOp .gtr 5 (.tmp 11) (.const (.int .u8 7)) 5) 4 8 false,o 13 (.pick (.tmp 8) (.const (.bool true)) (.tmp 12)) 4,m 14 13 4,gd 15 (.move (.tmp 0)) 22 14 false,gd 16 (.indexAddr 22 (.tmp 15) (ci 0)) 0 14 false,gd 17 (.load 5 (.tmp 16)) 5 14 false,gd 18 (.binOp .gtr 5 (.tmp 17) (.const (.int .u8 0)) 5) 4 14 false,gd 19 (.move (.tmp 18)) 4 14 false,gd 20 (.move (.tmp 0)) 22 19 true,gd 21 (.call { callee:=.builtin .len,args:=#[.tmp 20],argTypes:=#[22] }) 3 19 true,gd 22 (.binOp .eql 3 (.tmp 21) (ci 1) 3) 4 19 true,gd 23 (.pick (.tmp 19) (.tmp 22) (.const (.bool false))) 4 14 false,o 24 (.pick (.tmp 14) (.const (.bool true)) (.tmp 23)) 4] false)
 (.cond (.tmp 24)
 (.seq (.region 2 #[o 2 (.assign (.const (.slice none 0 0))) 22,o 3 (.assign (ci 0)) 3,o 4 (.assign (ci 11)) 23] false)
 .ret)
 .skip))
 (.seq (.seq (.region 3 #[m 25 0 22,o 26 (.call { callee:=.builtin .len,args:=#[.tmp 25],argTypes:=#[22] }) 3,o 27 (.binOp .gtr 3 (.tmp 26) (ci 1) 3) 4,m 28 27 4,gd 29 (.move (.tmp 0)) 22 28 true,gd 30 (.move (.tmp 0)) 22 28 true,gd 31 (.call { callee:=.builtin .len,args:=#[.tmp 30],argTypes:=#[22] }) 3 28 true,gd 32 (.binOp .sub 3 (.tmp 31) (ci 1) 3) 3 28 true,gd 33 (.indexAddr 22 (.tmp 29) (.tmp 32)) 0 28 true,gd 34 (.load 5 (.tmp 33)) 5 28 true,gd 35 (.move (.tmp 0)) 22 28 true,gd 36 (.indexAddr 22 (.tmp 35) (ci 0)) 0 28 true,gd 37 (.load 5 (.tmp 36)) 5 28 true,gd 38 (.binOp .shl 5 (.const (.int .u8 1)) (.tmp 37) 5) 5 28 true,gd 39 (.binOp .sub 5 (.tmp 38) (.const (.int .u8 1)) 5) 5 28 true,gd 40 (.binOp .and 5 (.tmp 34) (.tmp 39) 5) 5 28 true,gd 41 (.binOp .neq 5 (.tmp 40) (.const (.int .u8 0)) 5) 4 28 true,o 42 (.pick (.tmp 28) (.tmp 41) (.const (.bool false))) 4] true)
 (.cond (.tmp 42)
 (.seq (.region 4 #[o 2 (.assign (.const (.slice none 0 0))) 22,o 3 (.assign (ci 0)) 3,o 4 (.assign (ci 11)) 23] false)
 .ret)
 .skip))
 (.seq (.region 5 #[m 43 0 22,o 44 (.call { callee:=.builtin .len,args:=#[.tmp 43],argTypes:=#[22] }) 3,o 45 (.binOp .sub 3 (.tmp 44) (ci 1) 3) 3,o 46 (.binOp .mul 3 (ci 8) (.tmp 45) 3) 3,m 47 0 22,o 48 (.indexAddr 22 (.tmp 47) (ci 0)) 0,ld 49 48 5,o 50 (.convert 5 3 (.tmp 49)) 3,o 51 (.binOp .sub 3 (.tmp 46) (.tmp 50) 3) 3,o 3 (.assign (.tmp 51)) 3] false)
 (.seq (.seq (.region 6 #[m 52 3 3,o 53 (.binOp .gtr 3 (.tmp 52) (ci 524288) 3) 4] false)
 (.cond (.tmp 53)
 (.seq (.region 7 #[o 2 (.assign (.const (.slice none 0 0))) 22,o 3 (.assign (ci 0)) 3,o 4 (.assign (ci 3)) 23] false)
 .ret)
 .skip))
 (.seq (.region 8 #[m 54 0 22,o 55 (.slice 22 (.tmp 54) (some (ci 1)) none none) 22,cl 56 46 #[.tmp 55,.const (.slice none 0 0)] #[22,22] 22,m 57 3 3,o 2 (.assign (.tmp 56)) 22,o 3 (.assign (.tmp 57)) 3,o 4 (.assign (ci 0)) 23] false)
 .ret))))))
def kp31:Nat → Option (List Nat)
  | 0 => some [0]
  | 1 => some [0,24]
  | 2 => some [2,3,4]
  | 3 => some [0,42]
  | 4 => some [2,3,4]
  | 5 => some [0,3]
  | 6 => some [0,3,53]
  | 7 => some [2,3,4]
  | 8 => some [2,3,4]
  | _ => none
def fn31:AFn:={ ntmps:=58,results:=[.tmp 2,.tmp 3,.tmp 4],body:=c31,keep:=kp31,head:=fun  | _ => none,opn:=fun _ => none,dyn:=fun _ => [] }
def c32:Code :=
  (.seq (.region 0 #[o 2 (.alloc 59) 0,o 3 (.assign (ci 0)) 23] false)
 (.seq (.seq (.region 1 #[m 4 0 22,o 5 (.call { callee:=.builtin .len,args:=#[.tmp 4],argTypes:=#[22] }) 3,o 6 (.binOp .gtr 3 (.tmp 5) (ci 65536) 3) 4] false)
 (.cond (.tmp 6)
 (.seq (.region 2 #[o 7 (.build 59 #[]) 59,nd (.store 59 (.tmp 2) (.tmp 7)),o 3 (.assign (ci 3)) 23] false)
 .ret)
 .skip))
 (.seq (.region 3 #[o 8 (.build 56 #[(2,.const (.int .u32 4))]) 56,m 9 0 22,cl 10 46 #[.tmp 9,.const (.slice none 0 0)] #[22,22] 22,o 11 (.build 59 #[(0,.tmp 8),(1,.tmp 10)]) 59,nd (.store 59 (.tmp 2) (.tmp 11)),o 3 (.assign (ci 0)) 23] false)
 .ret)))
def kp32:Nat → Option (List Nat)
  | 0 => some [0,2]
  | 1 => some [0,2,6]
  | 2 => some [2,3]
  | 3 => some [2,3]
  | _ => none
def fn32:AFn:={ ntmps:=12,results:=[.cell 2 59,.tmp 3],body:=c32,keep:=kp32,head:=fun  | _ => none,opn:=fun _ => none,dyn:=fun _ => [] }
def c33:Code :=
  (.seq (.region 0 #[o 1 (.box 59 (.tmp 0)) 0,o 2 (.assign (.const (.slice none 0 0))) 22,o 3 (.assign (ci 0)) 23] false)
 (.seq (.region 1 #[ld 7 1 59,cl 8 50 #[.tmp 7,.const (.int .u32 4)] #[59,31] 24,m 6 8 24,o 9 (.extract (.tmp 6) 0) 22,o 10 (.extract (.tmp 6) 1) 23,o 4 (.assign (.tmp 9)) 22,o 5 (.assign (.tmp 10)) 23] false)
 (.seq (.block 0 (.seq (.region 2 #[m 12 5 23,o 13 (.binOp .neq 23 (.tmp 12) (ci 0) 23) 4,o 11 (.assign (.tmp 13)) 4] false)
 (.cond (.tmp 11)
 (.seq (.region 3 #[m 14 5 23,o 2 (.assign (.const (.slice none 0 0))) 22,o 3 (.assign (.tmp 14)) 23] false)
 .ret)
 (.seq (.region 4 #[m 16 4 22,o 17 (.call { callee:=.builtin .len,args:=#[.tmp 16],argTypes:=#[22] }) 3,o 18 (.binOp .gtr 3 (.tmp 17) (ci 65536) 3) 4,o 15 (.assign (.tmp 18)) 4] false)
 (.cond (.tmp 15)
 (.seq (.region 5 #[o 2 (.assign (.const (.slice none 0 0))) 22,o 3 (.assign (ci 3)) 23] false)
 .ret)
 .skip)))))
 (.seq (.region 6 #[m 19 4 22,cl 20 46 #[.tmp 19,.const (.slice none 0 0)] #[22,22] 22,o 2 (.assign (.tmp 20)) 22,o 3 (.assign (ci 0)) 23] false)
 .ret))))
def kp33:Nat → Option (List Nat)
  | 0 => some [1]
  | 1 => some [4,5]
  | 2 => some [4,5,11]
  | 3 => some [2,3]
  | 4 => some [4,15]
  | 5 => some [2,3]
  | 6 => some [2,3]
  | _ => none
def fn33:AFn:={ ntmps:=21,results:=[.tmp 2,.tmp 3],body:=c33,keep:=kp33,head:=fun  | _ => none,opn:=fun _ => none,dyn:=fun _ => [] }
def c34:Code :=
  (.seq (.region 0 #[o 1 (.box 64 (.tmp 0)) 0,o 2 (.assign (.const (.slice none 0 0))) 39] false)
 (.seq (.region 1 #[o 3 (.assign (.const (.slice none 0 0))) 39] false)
 (.seq (.seq (.region 2 #[o 4 (.assign (ci 0)) 3] false)
 (.block 0 (.loop (.seq (.seq (.region 3 #[m 5 4 3,fa 6 64 1 0,ld 7 6 22,o 8 (.call { callee:=.builtin .len,args:=#[.tmp 7],argTypes:=#[22] }) 3,o 9 (.binOp .lss 3 (.tmp 5) (.tmp 8) 3) 4,m 10 9 4,gd 11 (.move (.tmp 4)) 3 10 true,gd 12 (.binOp .lss 3 (.tmp 11) (ci 300) 3) 4 10 true,o 13 (.pick (.tmp 10) (.tmp 12) (.const (.bool false))) 4] false)
 (.cond (.tmp 13)
 .skip
 (.exit 0)))
 (.seq (.block 1 (.region 5 #[m 16 3 39,fa 17 64 1 0,ld 18 17 22,m 19 4 3,o 20 (.indexAddr 22 (.tmp 18) (.tmp 19)) 0,ld 21 20 5,o 22 (.binOp .rem 5 (.tmp 21) (.const (.int .u8 2)) 5) 5,o 23 (.convert 5 3 (.tmp 22)) 3,o 24 (.buildSlice 39 1 #[(0,.tmp 23)]) 39,o 25 (.call { callee:=.builtin .append,args:=#[.tmp 16,.tmp 24],argTypes:=#[39,39] }) 39,o 3 (.assign (.tmp 25)) 39] false))
 (.region 4 #[m 14 4 3,o 15 (.binOp .add 3 (.tmp 14) (ci 1) 3) 3,o 4 (.assign (.tmp 15)) 3] false))))))
 (.seq (.region 6 #[m 26 3 39,o 2 (.assign (.tmp 26)) 39] false)
 .ret))))
def kp34:Nat → Option (List Nat)
  | 0 => some [1]
  | 1 => some [1,3]
  | 2 => some [1,3,4]
  | 3 => some [1,3,4,13]
  | 4 => some [1,3,4]
  | 5 => some [1,3,4]
  | 6 => some [2]
  | _ => none
def fn34:AFn:={ ntmps:=27,results:=[.tmp 2],body:=c34,keep:=kp34,head:=fun | 3 => some [1,3,4] | _ => none,opn:=fun _ => none,dyn:=fun _ => [] }
def c35:Code :=
  (.seq (.region 0 #[o 2 (.assign (.const (.slice none 0 0))) 22] false)
 (.seq (.region 1 #[m 4 0 39,cl 5 24 #[.tmp 4] #[39] 22,o 3 (.assign (.tmp 5)) 22] false)
 (.seq (.region 2 #[m 6 3 22,o 7 (.call { callee:=.builtin .len,args:=#[.tmp 6],argTypes:=#[22] }) 3,o 8 (.binOp .mul 3 (ci 8) (.tmp 7) 3) 3,m 9 0 39,o 10 (.call { callee:=.builtin .len,args:=#[.tmp 9],argTypes:=#[39] }) 3,o 11 (.binOp .sub 3 (.tmp 8) (.tmp 10) 3) 3,o 12 (.convert 3 5 (.tmp 11)) 5,o 13 (.buildSlice 22 1 #[(0,.tmp 12)]) 22,m 14 3 22,o 15 (.call { callee:=.builtin .append,args:=#[.tmp 13,.tmp 14],argTypes:=#[22,22] }) 22,o 2 (.assign (.tmp 15)) 22] false)
 .ret)))
def kp35:Nat → Option (List Nat)
  | 0 => some [0]
  | 1 => some [0,3]
  | 2 => some [2]
  | _ => none
def fn35:AFn:={ ntmps:=16,results:=[.tmp 2],body:=c35,keep:=kp35,head:=fun  | _ => none,opn:=fun _ => none,dyn:=fun _ => [] }
def c36:Code :=
  (.seq (.region 0 #[o 4 (.assign (ci 0)) 23] false)
 (.seq (.block 0 (.seq (.region 1 #[m 6 1 3,o 7 (.binOp .lss 3 (.tmp 6) (ci 0) 3) 4,o 5 (.assign (.tmp 7)) 4] false)
 (.cond (.tmp 5)
 (.seq (.region 2 #[o 4 (.assign (ci 1)) 23] false)
 .ret)
 (.seq (.region 3 #[m 9 1 3,o 10 (.binOp .gtr 3 (.tmp 9) (ci 524288) 3) 4,o 8 (.assign (.tmp 10)) 4] false)
 (.cond (.tmp 8)
 (.seq (.region 4 #[o 4 (.assign (ci 3)) 23] false)
 .ret)
 (.seq (.region 5 #[m 12 0 22,o 13 (.call { callee:=.builtin .len,args:=#[.tmp 12],argTypes:=#[22] }) 3,m 14 1 3,o 15 (.binOp .add 3 (.tmp 14) (ci 7) 3) 3,o 16 (.binOp .quo 3 (.tmp 15) (ci 8) 3) 3,o 17 (.binOp .neq 3 (.tmp 13) (.tmp 16) 3) 4,m 18 17 4,gd 19 (.move (.tmp 1)) 3 18 false,gd 20 (.binOp .gtr 3 (.tmp 19) (ci 0) 3) 4 18 false,gd 21 (.move (.tmp 20)) 4 18 false,gd 22 (.move (.tmp 0)) 22 21 true,gd 23 (.move (.tmp 0)) 22 21 true,gd 24 (.call { callee:=.builtin .len,args:=#[.tmp 23],argTypes:=#[22] }) 3 21 true,gd 25 (.binOp .sub 3 (.tmp 24) (ci 1) 3) 3 21 true,gd 26 (.indexAddr 22 (.tmp 22) (.tmp 25)) 0 21 true,gd 27 (.load 5 (.tmp 26)) 5 21 true,gd 28 (.move (.tmp 1)) 3 21 true,gd 29 (.call { callee:=.value (.func 47),args:=#[.tmp 28],argTypes:=#[3] }) 3 21 true,gd 30 (.binOp .shl 5 (.const (.int .u8 1)) (.tmp 29) 3) 5 21 true,gd 31 (.binOp .sub 5 (.tmp 30) (.const (.int .u8 1)) 5) 5 21 true,gd 32 (.binOp .and 5 (.tmp 27) (.tmp 31) 5) 5 21 true,gd 33 (.binOp .neq 5 (.tmp 32) (.const (.int .u8 0)) 5) 4 21 true,gd 34 (.pick (.tmp 21) (.tmp 33) (.const (.bool false))) 4 18 false,o 35 (.pick (.tmp 18) (.const (.bool true)) (.tmp 34)) 4,o 11 (.assign (.tmp 35)) 4] true)
 (.cond (.tmp 11)
 (.seq (.region 6 #[o 4 (.assign (ci 1)) 23] false)
 .ret)
 .skip)))))))
 (.seq (.region 7 #[o 4 (.assign (ci 0)) 23] false)
 .ret)))
def kp36:Nat → Option (List Nat)
  | 0 => some [0,1]
  | 1 => some [0,1,5]
  | 2 => some [4]
  | 3 => some [0,1,8]
  | 4 => some [4]
  | 5 => some [11]
  | 6 => some [4]
  | 7 => some [4]
  | _ => none
def fn36:AFn:={ ntmps:=36,results:=[.tmp 4],body:=c36,keep:=kp36,head:=fun  | _ => none,opn:=fun _ => none,dyn:=fun _ => [] }
def c37:Code :=
  (.seq (.region 0 #[o 4 (.alloc 59) 0,o 5 (.assign (ci 0)) 23] false)
 (.seq (.region 1 #[m 9 0 22,m 10 1 3,cl 11 25 #[.tmp 9,.tmp 10] #[22,3] 24,m 8 11 24,o 12 (.extract (.tmp 8) 0) 22,o 13 (.extract (.tmp 8) 1) 23,o 6 (.assign (.tmp 12)) 22,o 7 (.assign (.tmp 13)) 23] false)
 (.seq (.seq (.region 2 #[m 14 7 23,o 15 (.binOp .neq 23 (.tmp 14) (ci 0) 23) 4] false)
 (.cond (.tmp 15)
 (.seq (.region 3 #[o 16 (.build 59 #[]) 59,m 17 7 23,nd (.store 59 (.tmp 4) (.tmp 16)),o 5 (.assign (.tmp 17)) 23] false)
 .ret)
 .skip))
 (.seq (.region 4 #[o 18 (.build 56 #[(2,.const (.int .u32 3))]) 56,m 19 6 22,o 20 (.build 59 #[(0,.tmp 18),(1,.tmp 19)]) 59,nd (.store 59 (.tmp 4) (.tmp 20)),o 5 (.assign (ci 0)) 23] false)
 .ret))))
def kp37:Nat → Option (List Nat)
  | 0 => some [0,1,4]
  | 1 => some [4,6,7]
  | 2 => some [4,6,7,15]
  | 3 => some [4,5]
  | 4 => some [4,5]
  | _ => none
def fn37:AFn:={ ntmps:=21,results:=[.cell 4 59,.tmp 5],body:=c37,keep:=kp37,head:=fun  | _ => none,opn:=fun _ => none,dyn:=fun _ => [] }
def c38:Code :=
  (.seq (.region 0 #[o 1 (.box 59 (.tmp 0)) 0,o 2 (.assign (.const (.slice none 0 0))) 22,o 3 (.assign (ci 0)) 3,o 4 (.assign (ci 0)) 23] false)
 (.seq (.region 1 #[ld 7 1 59,cl 8 50 #[.tmp 7,.const (.int .u32 3)] #[59,31] 24,m 6 8 24,o 9 (.extract (.tmp 6) 0) 22,o 10 (.extract (.tmp 6) 1) 23,o 5 (.assign (.tmp 9)) 22,o 4 (.assign (.tmp 10)) 23] false)
 (.seq (.seq (.region 2 #[m 11 4 23,o 12 (.binOp .neq 23 (.tmp 11) (ci 0) 23) 4] false)
 (.cond (.tmp 12)
 (.seq (.region 3 #[m 13 4 23,o 2 (.assign (.const (.slice none 0 0))) 22,o 3 (.assign (ci 0)) 3,o 4 (.assign (.tmp 13)) 23] false)
 .ret)
 .skip))
 (.seq (.region 4 #[m 14 5 22,cl 15 31 #[.tmp 14] #[22] 52,o 16 (.extract (.tmp 15) 0) 22,o 17 (.extract (.tmp 15) 1) 3,o 18 (.extract (.tmp 15) 2) 23,o 2 (.assign (.tmp 16)) 22,o 3 (.assign (.tmp 17)) 3,o 4 (.assign (.tmp 18)) 23] false)
 .ret))))
def kp38:Nat → Option (List Nat)
  | 0 => some [1]
  | 1 => some [4,5]
  | 2 => some [4,5,12]
  | 3 => some [2,3,4]
  | 4 => some [2,3,4]
  | _ => none
def fn38:AFn:={ ntmps:=19,results:=[.tmp 2,.tmp 3,.tmp 4],body:=c38,keep:=kp38,head:=fun  | _ => none,opn:=fun _ => none,dyn:=fun _ => [] }
def c39:Code :=
  (.seq (.region 0 #[o 4 (.box 59 (.tmp 0)) 0,o 8 (.assign (.const (.bool false))) 4] false)
 (.seq (.region 1 #[m 10 2 31,o 11 (.build 56 #[(2,.tmp 10)]) 56,o 9 (.alloc 56) 0,nd (.store 56 (.tmp 9) (.tmp 11))] false)
 (.seq (.region 2 #[m 12 1 23,o 13 (.binOp .eql 23 (.tmp 12) (ci 0) 23) 4,m 14 13 4,gd 15 (.fieldAddr 59 (.tmp 4) 0) 0 14 true,gd 16 (.load 56 (.tmp 15)) 56 14 true,gd 17 (.load 56 (.tmp 9)) 56 14 true,gd 18 (.binOp .eql 56 (.tmp 16) (.tmp 17) 56) 4 14 true,o 19 (.pick (.tmp 14) (.tmp 18) (.const (.bool false))) 4,m 20 19 4,gd 21 (.fieldAddr 59 (.tmp 4) 2) 0 20 true,gd 22 (.load 57 (.tmp 21)) 57 20 true,gd 23 (.call { callee:=.builtin .len,args:=#[.tmp 22],argTypes:=#[57] }) 3 20 true,gd 24 (.binOp .eql 3 (.tmp 23) (ci 0) 3) 4 20 true,o 25 (.pick (.tmp 20) (.tmp 24) (.const (.bool false))) 4,m 26 25 4,gd 27 (.fieldAddr 59 (.tmp 4) 1) 0 26 true,gd 28 (.load 22 (.tmp 27)) 22 26 true,gd 29 (.move (.tmp 3)) 22 26 true,gd 30 (.call { callee:=.value (.func 26),args:=#[.tmp 28,.const (.int .i64 0),.tmp 29,.const (.int .i64 0)],argTypes:=#[22,23,22,3] }) 4 26 true,o 31 (.pick (.tmp 26) (.tmp 30) (.const (.bool false))) 4,o 8 (.assign (.tmp 31)) 4] false)
 .ret)))
def kp39:Nat → Option (List Nat)
  | 0 => some [1,2,3,4]
  | 1 => some [1,3,4,9]
  | 2 => some [8]
  | _ => none
def fn39:AFn:={ ntmps:=32,results:=[.tmp 8],body:=c39,keep:=kp39,head:=fun  | _ => none,opn:=fun _ => none,dyn:=fun _ => [] }
def c40:Code :=
  (.seq (.region 0 #[o 6 (.assign (.const (.bool false))) 4] false)
 (.seq (.seq (.region 1 #[m 7 0 22,m 8 1 3,cl 9 36 #[.tmp 7,.tmp 8] #[22,3] 23,o 10 (.binOp .neq 23 (.tmp 9) (ci 0) 23) 4,m 11 10 4,gd 12 (.move (.tmp 2)) 3 11 false,gd 13 (.binOp .lss 3 (.tmp 12) (ci 0) 3) 4 11 false,o 14 (.pick (.tmp 11) (.const (.bool true)) (.tmp 13)) 4,m 15 14 4,gd 16 (.move (.tmp 2)) 3 15 false,gd 17 (.move (.tmp 1)) 3 15 false,gd 18 (.binOp .geq 3 (.tmp 16) (.tmp 17) 3) 4 15 false,o 19 (.pick (.tmp 15) (.const (.bool true)) (.tmp 18)) 4] false)
 (.cond (.tmp 19)
 (.seq (.region 2 #[o 6 (.assign (.const (.bool false))) 4] false)
 .ret)
 .skip))
 (.seq (.region 3 #[m 20 0 22,m 21 2 3,o 22 (.binOp .quo 3 (.tmp 21) (ci 8) 3) 3,o 23 (.indexAddr 22 (.tmp 20) (.tmp 22)) 0,ld 24 23 5,m 25 2 3,o 26 (.binOp .rem 3 (.tmp 25) (ci 8) 3) 3,o 27 (.binOp .sub 3 (ci 7) (.tmp 26) 3) 3,o 28 (.binOp .shr 5 (.tmp 24) (.tmp 27) 3) 5,o 29 (.binOp .and 5 (.tmp 28) (.const (.int .u8 1)) 5) 5,o 30 (.binOp .eql 5 (.tmp 29) (.const (.int .u8 1)) 5) 4,o 6 (.assign (.tmp 30)) 4] false)
 .ret)))
def kp40:Nat → Option (List Nat)
  | 0 => some [0,1,2]
  | 1 => some [0,2,19]
  | 2 => some [6]
  | 3 => some [6]
  | _ => none
def fn40:AFn:={ ntmps:=31,results:=[.tmp 6],body:=c40,keep:=kp40,head:=fun  | _ => none,opn:=fun _ => none,dyn:=fun _ => [] }
def c41:Code :=
  (.seq (.region 0 #[o 4 (.assign (ci 0)) 3] false)
 (.seq (.seq (.region 1 #[m 7 1 3,o 8 (.binOp .lss 3 (.tmp 7) (ci 0) 3) 4] false)
 (.cond (.tmp 8)
 (.seq (.region 2 #[o 4 (.assign (ci 1)) 3] false)
 .ret)
 .skip))
 (.seq (.seq (.region 3 #[m 9 1 3,o 10 (.binOp .gtr 3 (.tmp 9) (ci 524288) 3) 4] false)
 (.cond (.tmp 10)
 (.seq (.region 4 #[o 4 (.assign (ci 3)) 3] false)
 .ret)
 .skip))
 (.seq (.seq (.region 5 #[m 11 0 22,o 12 (.call { callee:=.builtin .len,args:=#[.tmp 11],argTypes:=#[22] }) 3,o 13 (.binOp .mul 3 (ci 8) (.tmp 12) 3) 3,m 14 1 3,o 15 (.binOp .sub 3 (.tmp 13) (.tmp 14) 3) 3,o 16 (.binOp .lss 3 (.tmp 15) (ci 0) 3) 4,m 17 16 4,gd 18 (.move (.tmp 0)) 22 17 false,gd 19 (.call { callee:=.builtin .len,args:=#[.tmp 18],argTypes:=#[22] }) 3 17 false,gd 20 (.binOp .mul 3 (ci 8) (.tmp 19) 3) 3 17 false,gd 21 (.move (.tmp 1)) 3 17 false,gd 22 (.binOp .sub 3 (.tmp 20) (.tmp 21) 3) 3 17 false,gd 23 (.binOp .gtr 3 (.tmp 22) (ci 7) 3) 4 17 false,o 24 (.pick (.tmp 17) (.const (.bool true)) (.tmp 23)) 4] false)
 (.cond (.tmp 24)
 (.seq (.region 6 #[o 4 (.assign (ci 1)) 3] false)
 .ret)
 .skip))
 (.seq (.region 7 #[m 25 0 22,cl 26 45 #[.tmp 25] #[22] 39,o 5 (.assign (.tmp 26)) 39] false)
 (.seq (.seq (.region 8 #[m 27 1 3,o 6 (.assign (.tmp 27)) 3] false)
 (.block 0 (.loop (.seq (.seq (.region 9 #[m 28 6 3,m 29 5 39,o 30 (.call { callee:=.builtin .len,args:=#[.tmp 29],argTypes:=#[39] }) 3,o 31 (.binOp .lss 3 (.tmp 28) (.tmp 30) 3) 4] false)
 (.cond (.tmp 31)
 .skip
 (.exit 0)))
 (.seq (.block 1 (.seq (.region 11 #[m 34 5 39,m 35 6 3,o 36 (.indexAddr 39 (.tmp 34) (.tmp 35)) 0,ld 37 36 3,o 38 (.binOp .neq 3 (.tmp 37) (ci 0) 3) 4] false)
 (.cond (.tmp 38)
 (.seq (.region 12 #[o 4 (.assign (ci 1)) 3] false)
 .ret)
 .skip)))
 (.region 10 #[m 32 6 3,o 33 (.binOp .add 3 (.tmp 32) (ci 1) 3) 3,o 6 (.assign (.tmp 33)) 3] false))))))
 (.seq (.region 13 #[o 4 (.assign (ci 0)) 3] false)
 .ret)))))))
def kp41:Nat → Option (List Nat)
  | 0 => some [0,1]
  | 1 => some [0,1,8]
  | 2 => some [4]
  | 3 => some [0,1,10]
  | 4 => some [4]
  | 5 => some [0,1,24]
  | 6 => some [4]
  | 7 => some [1,5]
  | 8 => some [5,6]
  | 9 => some [5,6,31]
  | 10 => some [5,6]
  | 11 => some [5,6,38]
  | 12 => some [4]
  | 13 => some [4]
  | _ => none
def fn41:AFn:={ ntmps:=39,results:=[.tmp 4],body:=c41,keep:=kp41,head:=fun | 9 => some [5,6] | _ => none,opn:=fun _ => none,dyn:=fun _ => [] }
def c45:Code :=
  (.seq (.region 0 #[o 2 (.assign (.const (.slice none 0 0))) 39] false)
 (.seq (.region 1 #[o 3 (.assign (.const (.slice none 0 0))) 39] false)
 (.seq (.seq (.region 2 #[o 4 (.assign (ci 0)) 3] false)
 (.block 0 (.loop (.seq (.seq (.region 3 #[m 6 4 3,m 7 0 22,o 8 (.call { callee:=.builtin .len,args:=#[.tmp 7],argTypes:=#[22] }) 3,o 9 (.binOp .lss 3 (.tmp 6) (.tmp 8) 3) 4] false)
 (.cond (.tmp 9)
 .skip
 (.exit 0)))
 (.seq (.block 1 (.seq (.region 5 #[o 5 (.assign (ci 128)) 3] false)
 (.block 2 (.loop (.seq (.seq (.region 6 #[m 12 5 3,o 13 (.binOp .gtr 3 (.tmp 12) (ci 0) 3) 4] false)
 (.cond (.tmp 13)
 .skip
 (.exit 2)))
 (.seq (.block 3 (.region 8 #[m 16 3 39,m 17 0 22,m 18 4 3,o 19 (.indexAddr 22 (.tmp 17) (.tmp 18)) 0,ld 20 19 5,o 21 (.convert 5 3 (.tmp 20)) 3,m 22 5 3,o 23 (.binOp .quo 3 (.tmp 21) (.tmp 22) 3) 3,o 24 (.binOp .rem 3 (.tmp 23) (ci 2) 3) 3,o 25 (.buildSlice 39 1 #[(0,.tmp 24)]) 39,o 26 (.call { callee:=.builtin .append,args:=#[.tmp 16,.tmp 25],argTypes:=#[39,39] }) 39,o 3 (.assign (.tmp 26)) 39] false))
 (.region 7 #[m 14 5 3,o 15 (.binOp .quo 3 (.tmp 14) (ci 2) 3) 3,o 5 (.assign (.tmp 15)) 3] false)))))))
 (.region 4 #[m 10 4 3,o 11 (.binOp .add 3 (.tmp 10) (ci 1) 3) 3,o 4 (.assign (.tmp 11)) 3] false))))))
 (.seq (.region 9 #[m 27 3 39,o 2 (.assign (.tmp 27)) 39] false)
 .ret))))
def kp45:Nat → Option (List Nat)
  | 0 => some [0]
  | 1 => some [0,3]
  | 2 => some [0,3,4]
  | 3 => some [0,3,4,9]
  | 4 => some [0,3,4]
  | 5 => some [0,3,4,5]
  | 6 => some [0,3,4,5,13]
  | 7 => some [0,3,4,5]
  | 8 => some [0,3,4,5]
  | 9 => some [2]
  | _ => none
def fn45:AFn:={ ntmps:=28,results:=[.tmp 2],body:=c45,keep:=kp45,head:=fun | 3 => some [0,3,4] | 6 => some [0,3,4,5] | _ => none,opn:=fun _ => none,dyn:=fun _ => [] }
def c46:Code :=
  (.seq (.region 0 #[o 4 (.assign (.const (.slice none 0 0))) 22] false)
 (.seq (.region 1 #[m 7 0 22,o 8 (.call { callee:=.builtin .len,args:=#[.tmp 7],argTypes:=#[22] }) 3,m 9 1 22,o 10 (.call { callee:=.builtin .len,args:=#[.tmp 9],argTypes:=#[22] }) 3,o 11 (.binOp .add 3 (.tmp 8) (.tmp 10) 3) 3,o 12 (.makeSlice 22 (.tmp 11) (.tmp 11)) 22,o 5 (.assign (.tmp 12)) 22] false)
 (.seq (.region 2 #[m 13 5 22,m 14 0 22,o 15 (.call { callee:=.builtin .copy,args:=#[.tmp 13,.tmp 14],argTypes:=#[22,22] }) 3,o 6 (.assign (.tmp 15)) 3] false)
 (.seq (.region 3 #[m 16 6 3,m 17 5 22,m 18 6 3,o 19 (.slice 22 (.tmp 17) (some (.tmp 18)) none none) 22,m 20 1 22,o 21 (.call { callee:=.builtin .copy,args:=#[.tmp 19,.tmp 20],argTypes:=#[22,22] }) 3,o 22 (.binOp .add 3 (.tmp 16) (.tmp 21) 3) 3,o 6 (.assign (.tmp 22)) 3] false)
 (.seq (.region 4 #[m 23 5 22,m 24 6 3,m 25 6 3,o 26 (.slice 22 (.tmp 23) none (some (.tmp 24)) (some (.tmp 25))) 22,o 4 (.assign (.tmp 26)) 22] false)
 .ret)))))
def kp46:Nat → Option (List Nat)
  | 0 => some [0,1]
  | 1 => some [0,1,5]
  | 2 => some [1,5,6]
  | 3 => some [5,6]
  | 4 => some [4]
  | _ => none
def fn46:AFn:={ ntmps:=27,results:=[.tmp 4],body:=c46,keep:=kp46,head:=fun  | _ => none,opn:=fun _ => none,dyn:=fun _ => [] }
def c47:Code :=
  (.seq (.region 0 #[o 2 (.assign (ci 0)) 3] false)
 (.seq (.region 1 #[m 3 0 3,o 4 (.binOp .rem 3 (.tmp 3) (ci 8) 3) 3,o 5 (.binOp .sub 3 (ci 8) (.tmp 4) 3) 3,o 6 (.binOp .rem 3 (.tmp 5) (ci 8) 3) 3,o 2 (.assign (.tmp 6)) 3] false)
 .ret))
def kp47:Nat → Option (List Nat)
  | 0 => some [0]
  | 1 => some [2]
  | _ => none
def fn47:AFn:={ ntmps:=7,results:=[.tmp 2],body:=c47,keep:=kp47,head:=fun  | _ => none,opn:=fun _ => none,dyn:=fun _ => [] }
def c48:Code :=
  (.seq (.region 0 #[o 2 (.assign (.const (.int .u64 0))) 45,o 3 (.assign (ci 0)) 23] false)
 (.seq (.region 1 #[m 10 0 22,cl 11 31 #[.tmp 10] #[22] 52,m 9 11 52,o 12 (.extract (.tmp 9) 0) 22,o 13 (.extract (.tmp 9) 1) 3,o 14 (.extract (.tmp 9) 2) 23,o 4 (.assign (.tmp 12)) 22,o 5 (.assign (.tmp 13)) 3,o 6 (.assign (.tmp 14)) 23] false)
 (.seq (.block 0 (.seq (.region 2 #[m 16 6 23,o 17 (.binOp .eql 23 (.tmp 16) (ci 11) 23) 4,m 18 17 4,gd 19 (.move (.tmp 6)) 23 18 false,gd 20 (.binOp .eql 23 (.tmp 19) (ci 0) 23) 4 18 false,gd 21 (.move (.tmp 20)) 4 18 false,gd 22 (.move (.tmp 5)) 3 21 true,gd 23 (.binOp .gtr 3 (.tmp 22) (ci 0) 3) 4 21 true,gd 24 (.pick (.tmp 21) (.tmp 23) (.const (.bool false))) 4 18 false,gd 25 (.move (.tmp 24)) 4 18 false,gd 26 (.move (.tmp 4)) 22 25 true,gd 27 (.move (.tmp 5)) 3 25 true,gd 28 (.move (.tmp 5)) 3 25 true,gd 29 (.binOp .sub 3 (.tmp 28) (ci 1) 3) 3 25 true,gd 30 (.call { callee:=.value (.func 40),args:=#[.tmp 26,.tmp 27,.tmp 29],argTypes:=#[22,3,3] }) 4 25 true,gd 31 (.unOp .not 4 (.tmp 30)) 4 25 true,gd 32 (.pick (.tmp 25) (.tmp 31) (.const (.bool false))) 4 18 false,o 33 (.pick (.tmp 18) (.const (.bool true)) (.tmp 32)) 4,o 15 (.assign (.tmp 33)) 4] false)
 (.cond (.tmp 15)
 (.seq (.region 3 #[o 2 (.assign (.const (.int .u64 0))) 45,o 3 (.assign (ci 11)) 23] false)
 .ret)
 (.seq (.region 4 #[m 35 6 23,o 36 (.binOp .eql 23 (.tmp 35) (ci 3) 23) 4,m 37 36 4,gd 38 (.move (.tmp 0)) 22 37 true,gd 39 (.move (.tmp 0)) 22 37 true,gd 40 (.call { callee:=.builtin .len,args:=#[.tmp 39],argTypes:=#[22] }) 3 37 true,gd 41 (.binOp .sub 3 (.tmp 40) (ci 1) 3) 3 37 true,gd 42 (.indexAddr 22 (.tmp 38) (.tmp 41)) 0 37 true,gd 43 (.load 5 (.tmp 42)) 5 37 true,gd 44 (.move (.tmp 0)) 22 37 true,gd 45 (.indexAddr 22 (.tmp 44) (ci 0)) 0 37 true,gd 46 (.load 5 (.tmp 45)) 5 37 true,gd 47 (.binOp .shr 5 (.tmp 43) (.tmp 46) 5) 5 37 true,gd 48 (.binOp .and 5 (.tmp 47) (.const (.int .u8 1)) 5) 5 37 true,gd 49 (.binOp .eql 5 (.tmp 48) (.const (.int .u8 0)) 5) 4 37 true,o 50 (.pick (.tmp 37) (.tmp 49) (.const (.bool false))) 4,o 34 (.assign (.tmp 50)) 4] true)
 (.cond (.tmp 34)
 (.seq (.region 5 #[o 2 (.assign (.const (.int .u64 0))) 45,o 3 (.assign (ci 11)) 23] false)
 .ret)
 (.seq (.region 6 #[m 52 6 23,o 53 (.binOp .neq 23 (.tmp 52) (ci 0) 23) 4,m 54 53 4,gd 55 (.move (.tmp 5)) 3 54 false,gd 56 (.binOp .gtr 3 (.tmp 55) (ci 64) 3) 4 54 false,o 57 (.pick (.tmp 54) (.const (.bool true)) (.tmp 56)) 4,o 51 (.assign (.tmp 57)) 4] false)
 (.cond (.tmp 51)
 (.seq (.region 7 #[o 2 (.assign (.const (.int .u64 0))) 45,o 3 (.assign (ci 3)) 23] false)
 .ret)
 .skip)))))))
 (.seq (.region 8 #[o 7 (.assign (.const (.int .u64 0))) 45] false)
 (.seq (.seq (.region 9 #[m 58 5 3,o 59 (.move (ci 0)) 3] false)
 (.block 1 (.loop (.seq (.region 10 #[o 60 (.binOp .lss 3 (.tmp 59) (.tmp 58) 3) 4] false)
 (.seq (.cond (.tmp 60)
 .skip
 (.exit 1))
 (.seq (.block 2 (.seq (.region 11 #[m 61 59 3,o 8 (.assign (.tmp 61)) 3] false)
 (.seq (.region 12 #[m 62 4 22,m 63 5 3,m 64 8 3,cl 65 40 #[.tmp 62,.tmp 63,.tmp 64] #[22,3,3] 4] false)
 (.cond (.tmp 65)
 (.region 13 #[m 66 7 45,m 67 8 3,o 68 (.binOp .shl 45 (.const (.int .u64 1)) (.tmp 67) 3) 45,o 69 (.binOp .or 45 (.tmp 66) (.tmp 68) 45) 45,o 7 (.assign (.tmp 69)) 45] false)
 .skip))))
 (.region 14 #[o 70 (.binOp .add 3 (.tmp 59) (ci 1) 3) 3,m 59 70 3] false)))))))
 (.seq (.region 15 #[m 71 7 45,o 2 (.assign (.tmp 71)) 45,o 3 (.assign (ci 0)) 23] false)
 .ret))))))
def kp48:Nat → Option (List Nat)
  | 0 => some [0]
  | 1 => some [0,4,5,6]
  | 2 => some [0,4,5,6,15]
  | 3 => some [2,3]
  | 4 => some [4,5,6,34]
  | 5 => some [2,3]
  | 6 => some [4,5,51]
  | 7 => some [2,3]
  | 8 => some [4,5,7]
  | 9 => some [4,5,7,58,59]
  | 10 => some [4,5,7,58,59,60]
  | 11 => some [4,5,7,8,58,59]
  | 12 => some [4,5,7,8,58,59,65]
  | 13 => some [4,5,7,58,59]
  | 14 => some [4,5,7,58,59]
  | 15 => some [2,3]
  | _ => none
def fn48:AFn:={ ntmps:=72,results:=[.tmp 2,.tmp 3],body:=c48,keep:=kp48,head:=fun | 10 => some [4,5,7,58,59] | _ => none,opn:=fun _ => none,dyn:=fun _ => [] }
def c49:Code :=
  (.seq (.region 0 #[o 2 (.assign (ci 0)) 3] false)
 (.seq (.seq (.region 1 #[m 3 0 45,o 4 (.binOp .geq 45 (.tmp 3) (.const (.int .u64 4294967296)) 45) 4] false)
 (.cond (.tmp 4)
 (.seq (.region 2 #[m 5 0 45,o 6 (.binOp .shr 45 (.tmp 5) (.const (.int .u64 32)) 51) 45,o 0 (.assign (.tmp 6)) 45] false)
 (.region 3 #[o 2 (.assign (ci 32)) 3] false))
 .skip))
 (.seq (.seq (.region 4 #[m 7 0 45,o 8 (.binOp .geq 45 (.tmp 7) (.const (.int .u64 65536)) 45) 4] false)
 (.cond (.tmp 8)
 (.seq (.region 5 #[m 9 0 45,o 10 (.binOp .shr 45 (.tmp 9) (.const (.int .u64 16)) 51) 45,o 0 (.assign (.tmp 10)) 45] false)
 (.region 6 #[m 11 2 3,o 12 (.binOp .add 3 (.tmp 11) (ci 16) 3) 3,o 2 (.assign (.tmp 12)) 3] false))
 .skip))
 (.seq (.seq (.region 7 #[m 13 0 45,o 14 (.binOp .geq 45 (.tmp 13) (.const (.int .u64 256)) 45) 4] false)
 (.cond (.tmp 14)
 (.seq (.region 8 #[m 15 0 45,o 16 (.binOp .shr 45 (.tmp 15) (.const (.int .u64 8)) 51) 45,o 0 (.assign (.tmp 16)) 45] false)
 (.region 9 #[m 17 2 3,o 18 (.binOp .add 3 (.tmp 17) (ci 8) 3) 3,o 2 (.assign (.tmp 18)) 3] false))
 .skip))
 (.seq (.region 10 #[m 19 2 3,m 20 0 45,o 21 (.convert 45 5 (.tmp 20)) 5,o 22 (.index 9 (.const (.string { data:=#[0,1,2,2,3,3,3,3,4,4,4,4,4,4,4,4,5,5,5,5,5,5,5,5,5,5,5,5,5,5,5,5,6,6,6,6,6,6,6,6,6,6,6,6,6,6,6,6,6,6,6,6,6,6,6,6,6,6,6,6,6,6,6,6,7,7,7,7,7,7,7,7,7,7,7,7,7,7,7,7,7,7,7,7,7,7,7,7,7,7,7,7,7,7,7,7,7,7,7,7,7,7,7,7,7,7,7,7,7,7,7,7,7,7,7,7,7,7,7,7,7,7,7,7,7,7,7,7,8,8,8,8,8,8,8,8,8,8,8,8,8,8,8,8,8,8,8,8,8,8,8,8,8,8,8,8,8,8,8,8,8,8,8,8,8,8,8,8,8,8,8,8,8,8,8,8,8,8,8,8,8,8,8,8,8,8,8,8,8,8,8,8,8,8,8,8,8,8,8,8,8,8,8,8,8,8,8,8,8,8,8,8,8,8,8,8,8,8,8,8,8,8,8,8,8,8,8,8,8,8,8,8,8,8,8,8,8,8,8,8,8,8,8,8,8,8,8,8,8,8,8,8,8,8,8,8] })) (.tmp 21)) 5,o 23 (.convert 5 3 (.tmp 22)) 3,o 24 (.binOp .add 3 (.tmp 19) (.tmp 23) 3) 3,o 2 (.assign (.tmp 24)) 3] false)
 .ret)))))
def kp49:Nat → Option (List Nat)
  | 0 => some [0,2]
  | 1 => some [0,2,4]
  | 2 => some [0]
  | 3 => some [0,2]
  | 4 => some [0,2,8]
  | 5 => some [0,2]
  | 6 => some [0,2]
  | 7 => some [0,2,14]
  | 8 => some [0,2]
  | 9 => some [0,2]
  | 10 => some [2]
  | _ => none
def fn49:AFn:={ ntmps:=25,results:=[.tmp 2],body:=c49,keep:=kp49,head:=fun  | _ => none,opn:=fun _ => none,dyn:=fun _ => [] }
def c50:Code :=
  (.seq (.region 0 #[o 2 (.box 59 (.tmp 0)) 0,o 4 (.assign (.const (.slice none 0 0))) 22,o 5 (.assign (ci 0)) 23] false)
 (.seq (.block 0 (.seq (.region 1 #[fa 7 59 2 0,ld 8 7 56,m 9 1 31,o 10 (.build 56 #[(2,.tmp 9)]) 56,o 11 (.binOp .neq 56 (.tmp 8) (.tmp 10) 56) 4,o 6 (.assign (.tmp 11)) 4] false)
 (.cond (.tmp 6)
 (.seq (.region 2 #[o 4 (.assign (.const (.slice none 0 0))) 22,o 5 (.assign (ci 9)) 23] false)
 .ret)
 (.seq (.region 3 #[fa 13 59 2 2,ld 14 13 57,o 15 (.call { callee:=.builtin .len,args:=#[.tmp 14],argTypes:=#[57] }) 3,o 16 (.binOp .gtr 3 (.tmp 15) (ci 0) 3) 4,o 12 (.assign (.tmp 16)) 4] false)
 (.cond (.tmp 12)
 (.seq (.region 4 #[o 4 (.assign (.const (.slice none 0 0))) 22,o 5 (.assign (ci 1)) 23] false)
 .ret)
 .skip)))))
 (.seq (.region 5 #[fa 17 59 2 1,ld 18 17 22,o 4 (.assign (.tmp 18)) 22,o 5 (.assign (ci 0)) 23] false)
 .ret)))
def kp50:Nat → Option (List Nat)
  | 0 => some [1,2]
  | 1 => some [2,6]
  | 2 => some [4,5]
  | 3 => some [2,12]
  | 4 => some [4,5]
  | 5 => some [4,5]
  | _ => none
def fn50:AFn:={ ntmps:=19,results:=[.tmp 4,.tmp 5],body:=c50,keep:=kp50,head:=fun  | _ => none,opn:=fun _ => none,dyn:=fun _ => [] }
def fnTab:List (Option AFn):=[none,none,none,none,none,none,none,none,some fn8,some fn9,some fn10,some fn11,some fn12,none,none,none,none,none,none,none,none,some fn21,some fn22,some fn23,some fn24,some fn25,some fn26,some fn27,some fn28,some fn29,some fn30,some fn31,some fn32,some fn33,some fn34,some fn35,some fn36,some fn37,some fn38,some fn39,some fn40,some fn41,none,none,none,some fn45,some fn46,some fn47,some fn48,some fn49,some fn50]
def grdT:FuncId → Option Grd
  | _ => none
def tyTab:List (Option TyI):=[
  none,
  some ⟨.func,1,8,[.nilf],false⟩,
  some ⟨.int .i64,1,8,[.int .i64 0],false⟩,
  some ⟨.int .i64,1,8,[.int .i64 0],false⟩,
  some ⟨.bool,1,1,[.bool false],false⟩,
  some ⟨.int .u8,1,1,[.int .u8 0],false⟩,
  some ⟨.int .u8,1,1,[.int .u8 0],false⟩,
  some ⟨.strct [(0,2),(1,3),(2,4),(3,6)],4,24,[.int .i64 0,.int .i64 0,.bool false,.int .u8 0],false⟩,
  some ⟨.strct [(0,2),(1,3),(2,4),(3,6)],4,24,[.int .i64 0,.int .i64 0,.bool false,.int .u8 0],false⟩,
  some ⟨.str,1,16,[.str []],false⟩,
  some ⟨.str,1,16,[.str []],false⟩,
  some ⟨.str,1,16,[.str []],false⟩,
  some ⟨.int .u64,1,8,[.int .u64 0],false⟩,
  some ⟨.strct [(0,9),(1,12)],2,24,[.str [],.int .u64 0],false⟩,
  some ⟨.strct [(0,9),(1,12)],2,24,[.str [],.int .u64 0],false⟩,
  some ⟨.ptr 88,1,8,[.nilp],false⟩,
  some ⟨.ptr 91,1,8,[.nilp],false⟩,
  some ⟨.ptr 100,1,8,[.nilp],false⟩,
  some ⟨.strct [(0,17)],1,8,[.nilp],false⟩,
  some ⟨.strct [(0,17)],1,8,[.nilp],false⟩,
  some ⟨.iface true,1,16,[.nili],false⟩,
  some ⟨.int .i32,1,4,[.int .i32 0],false⟩,
  some ⟨.slice 5,1,24,[.sl true [] (some 0)],false⟩,
  some ⟨.int .i64,1,8,[.int .i64 0],false⟩,
  none,
  some ⟨.func,1,8,[.nilf],false⟩,
  some ⟨.func,1,8,[.nilf],false⟩,
  some ⟨.func,1,8,[.nilf],false⟩,
  some ⟨.func,1,8,[.nilf],false⟩,
  some ⟨.func,1,8,[.nilf],false⟩,
  some ⟨.func,1,8,[.nilf],false⟩,
  some ⟨.int .u32,1,4,[.int .u32 0],false⟩,
  some ⟨.func,1,8,[.nilf],false⟩,
  some ⟨.func,1,8,[.nilf],false⟩,
  none,
  some ⟨.func,1,8,[.nilf],false⟩,
  some ⟨.func,1,8,[.nilf],false⟩,
  some ⟨.func,1,8,[.nilf],false⟩,
  some ⟨.func,1,8,[.nilf],false⟩,
  some ⟨.slice 3,1,24,[.sl true [] (some 0)],false⟩,
  none,
  some ⟨.func,1,8,[.nilf],false⟩,
  some ⟨.func,1,8,[.nilf],false⟩,
  some ⟨.func,1,8,[.nilf],false⟩,
  some ⟨.func,1,8,[.nilf],false⟩,
  some ⟨.int .u64,1,8,[.int .u64 0],false⟩,
  none,
  some ⟨.func,1,8,[.nilf],false⟩,
  some ⟨.func,1,8,[.nilf],false⟩,
  some ⟨.func,1,8,[.nilf],false⟩,
  some ⟨.func,1,8,[.nilf],false⟩,
  some ⟨.int .u64,1,8,[.int .u64 0],false⟩,
  none,
  some ⟨.func,1,8,[.nilf],false⟩,
  some ⟨.int .u8,1,1,[.int .u8 0],false⟩,
  some ⟨.strct [(0,54),(1,4),(2,31)],3,8,[.int .u8 0,.bool false,.int .u32 0],false⟩,
  some ⟨.strct [(0,54),(1,4),(2,31)],3,8,[.int .u8 0,.bool false,.int .u32 0],true⟩,
  some ⟨.slice 59,1,24,[.sl true [] (some 0)],false⟩,
  some ⟨.strct [(0,56),(3,22),(4,57)],5,56,[.int .u8 0,.bool false,.int .u32 0,.sl true [] (some 0),.sl true [] (some 0)],false⟩,
  some ⟨.strct [(0,56),(3,22),(4,57)],5,56,[.int .u8 0,.bool false,.int .u32 0,.sl true [] (some 0),.sl true [] (some 0)],false⟩,
  none,
  some ⟨.func,1,8,[.nilf],false⟩,
  some ⟨.func,1,8,[.nilf],false⟩,
  some ⟨.strct [(0,22)],1,24,[.sl true [] (some 0)],false⟩,
  some ⟨.strct [(0,22)],1,24,[.sl true [] (some 0)],false⟩,
  some ⟨.func,1,8,[.nilf],false⟩,
  some ⟨.func,1,8,[.nilf],false⟩,
  some ⟨.func,1,8,[.nilf],false⟩,
  some ⟨.func,1,8,[.nilf],false⟩,
  some ⟨.func,1,8,[.nilf],false⟩,
  some ⟨.func,1,8,[.nilf],false⟩,
  some ⟨.func,1,8,[.nilf],false⟩,
  some ⟨.func,1,8,[.nilf],false⟩,
  some ⟨.func,1,8,[.nilf],false⟩,
  some ⟨.func,1,8,[.nilf],false⟩,
  some ⟨.func,1,8,[.nilf],false⟩,
  none,
  some ⟨.func,1,8,[.nilf],false⟩,
  some ⟨.func,1,8,[.nilf],false⟩,
  some ⟨.func,1,8,[.nilf],false⟩,
  none,
  some ⟨.func,1,8,[.nilf],false⟩,
  some ⟨.func,1,8,[.nilf],false⟩,
  some ⟨.func,1,8,[.nilf],false⟩,
  some ⟨.arr 3 5,3,3,[.int .u8 0,.int .u8 0,.int .u8 0],false⟩,
  some ⟨.arr 3 5,3,3,[.int .u8 0,.int .u8 0,.int .u8 0],false⟩,
  some ⟨.func,1,8,[.nilf],false⟩,
  some ⟨.strct [(0,17),(1,17),(2,17),(3,9)],4,40,[.nilp,.nilp,.nilp,.str []],false⟩,
  some ⟨.strct [(0,17),(1,17),(2,17),(3,9)],4,40,[.nilp,.nilp,.nilp,.str []],false⟩,
  some ⟨.arr 0 16,0,0,[],false⟩,
  some ⟨.strct [(0,89)],0,0,[],false⟩,
  some ⟨.strct [(0,89)],0,0,[],false⟩,
  some ⟨.func,1,8,[.nilf],false⟩,
  some ⟨.int .u8,1,1,[.int .u8 0],false⟩,
  some ⟨.int .u8,1,1,[.int .u8 0],false⟩,
  some ⟨.func,1,8,[.nilf],false⟩,
  some ⟨.ptr 5,1,8,[.nilp],false⟩,
  some ⟨.int .i32,1,4,[.int .i32 0],false⟩,
  some ⟨.int .i32,1,4,[.int .i32 0],false⟩,
  some ⟨.strct [(0,12),(1,12),(2,31),(3,93),(4,5),(5,5),(6,94),(7,95),(8,96),(9,97),(10,98)],11,48,[.int .u64 0,.int .u64 0,.int .u32 0,.int .u8 0,.int .u8 0,.int .u8 0,.int .u8 0,.nilf,.nilp,.int .i32 0,.int .i32 0],false⟩,
  some ⟨.strct [(0,12),(1,12),(2,31),(3,93),(4,5),(5,5),(6,94),(7,95),(8,96),(9,97),(10,98)],11,48,[.int .u64 0,.int .u64 0,.int .u32 0,.int .u8 0,.int .u8 0,.int .u8 0,.int .u8 0,.nilf,.nilp,.int .i32 0,.int .i32 0],false⟩,
  none]
def E:Env:={ fn:=getT fnTab,ty:=getT tyTab,prim:=fun _ => none,grd:=grdT,ext:=fun i => false,glob:=fun _ => none }
@[simp] theorem E_ext (i):E.ext i=false:=id rfl
@[simp] theorem E_prim (i):E.prim i=none:=rfl
@[simp] theorem E_glob (i):E.glob i=none:=rfl
@[simp] theorem ntmps_8:fn8.ntmps=64:=rfl
@[simp] theorem results_8:fn8.results=[.tmp 2]:=rfl
theorem body_8:fn8.body=c8:=rfl
@[simp] theorem dyn_8:fn8.dyn=fun _ => []:=id rfl
@[simp] theorem opn_8:fn8.opn=fun _ => none:=id rfl
@[simp] theorem keep_8 (i):fn8.keep i=kp8 i:=rfl
attribute [simp] kp8
@[simp] theorem ntmps_9:fn9.ntmps=57:=rfl
@[simp] theorem results_9:fn9.results=[.tmp 4]:=rfl
theorem body_9:fn9.body=c9:=rfl
@[simp] theorem dyn_9:fn9.dyn=fun _ => []:=id rfl
@[simp] theorem opn_9:fn9.opn=fun _ => none:=id rfl
@[simp] theorem keep_9 (i):fn9.keep i=kp9 i:=rfl
attribute [simp] kp9
@[simp] theorem ntmps_10:fn10.ntmps=205:=rfl
@[simp] theorem results_10:fn10.results=[.tmp 0]:=rfl
theorem body_10:fn10.body=c10:=rfl
@[simp] theorem dyn_10:fn10.dyn=fun _ => []:=id rfl
@[simp] theorem opn_10:fn10.opn=fun _ => none:=id rfl
@[simp] theorem keep_10 (i):fn10.keep i=kp10 i:=rfl
attribute [simp] kp10
@[simp] theorem head_10_2:fn10.head 2=some [1]:=rfl
@[simp] theorem ntmps_11:fn11.ntmps=110:=rfl
@[simp] theorem results_11:fn11.results=[.tmp 4]:=rfl
theorem body_11:fn11.body=c11:=rfl
@[simp] theorem dyn_11:fn11.dyn=fun _ => []:=id rfl
@[simp] theorem opn_11:fn11.opn=fun _ => none:=id rfl
@[simp] theorem keep_11 (i):fn11.keep i=kp11 i:=rfl
attribute [simp] kp11
@[simp] theorem head_11_12:fn11.head 12=some [1,5,6,7,16]:=rfl
@[simp] theorem ntmps_12:fn12.ntmps=156:=rfl
@[simp] theorem results_12:fn12.results=[.tmp 6]:=rfl
theorem body_12:fn12.body=c12:=rfl
@[simp] theorem dyn_12:fn12.dyn=fun _ => []:=id rfl
@[simp] theorem opn_12:fn12.opn=fun _ => none:=id rfl
@[simp] theorem keep_12 (i):fn12.keep i=kp12 i:=rfl
attribute [simp] kp12
@[simp] theorem ntmps_21:fn21.ntmps=162:=rfl
@[simp] theorem results_21:fn21.results=[.tmp 0]:=rfl
theorem body_21:fn21.body=c21:=rfl
@[simp] theorem dyn_21:fn21.dyn=fun _ => []:=id rfl
@[simp] theorem opn_21:fn21.opn=fun _ => none:=id rfl
@[simp] theorem keep_21 (i):fn21.keep i=kp21 i:=rfl
attribute [simp] kp21
@[simp] theorem ntmps_22:fn22.ntmps=54:=rfl
@[simp] theorem results_22:fn22.results=[.tmp 2,.tmp 3]:=rfl
theorem body_22:fn22.body=c22:=rfl
@[simp] theorem dyn_22:fn22.dyn=fun _ => []:=id rfl
@[simp] theorem opn_22:fn22.opn=fun _ => none:=id rfl
@[simp] theorem keep_22 (i):fn22.keep i=kp22 i:=rfl
attribute [simp] kp22
@[simp] theorem head_22_6:fn22.head 6=some [4,5,6]:=rfl
@[simp] theorem ntmps_23:fn23.ntmps=28:=rfl
@[simp] theorem results_23:fn23.results=[.tmp 8]:=rfl
theorem body_23:fn23.body=c23:=rfl
@[simp] theorem dyn_23:fn23.dyn=fun _ => []:=id rfl
@[simp] theorem opn_23:fn23.opn=fun _ => none:=id rfl
@[simp] theorem keep_23 (i):fn23.keep i=kp23 i:=rfl
attribute [simp] kp23
@[simp] theorem ntmps_24:fn24.ntmps=39:=rfl
@[simp] theorem results_24:fn24.results=[.tmp 2]:=rfl
theorem body_24:fn24.body=c24:=rfl
@[simp] theorem dyn_24:fn24.dyn=fun _ => []:=id rfl
@[simp] theorem opn_24:fn24.opn=fun _ => none:=id rfl
@[simp] theorem keep_24 (i):fn24.keep i=kp24 i:=rfl
attribute [simp] kp24
@[simp] theorem head_24_3:fn24.head 3=some [0,3,4]:=rfl
@[simp] theorem head_24_7:fn24.head 7=some [0,3,4,5,6]:=rfl
@[simp] theorem ntmps_25:fn25.ntmps=19:=rfl
@[simp] theorem results_25:fn25.results=[.tmp 4,.tmp 5]:=rfl
theorem body_25:fn25.body=c25:=rfl
@[simp] theorem dyn_25:fn25.dyn=fun _ => []:=id rfl
@[simp] theorem opn_25:fn25.opn=fun _ => none:=id rfl
@[simp] theorem keep_25 (i):fn25.keep i=kp25 i:=rfl
attribute [simp] kp25
@[simp] theorem ntmps_26:fn26.ntmps=26:=rfl
@[simp] theorem results_26:fn26.results=[.tmp 8]:=rfl
theorem body_26:fn26.body=c26:=rfl
@[simp] theorem dyn_26:fn26.dyn=fun _ => []:=id rfl
@[simp] theorem opn_26:fn26.opn=fun _ => none:=id rfl
@[simp] theorem keep_26 (i):fn26.keep i=kp26 i:=rfl
attribute [simp] kp26
@[simp] theorem ntmps_27:fn27.ntmps=47:=rfl
@[simp] theorem results_27:fn27.results=[.tmp 2,.tmp 3]:=rfl
theorem body_27:fn27.body=c27:=rfl
@[simp] theorem dyn_27:fn27.dyn=fun _ => []:=id rfl
@[simp] theorem opn_27:fn27.opn=fun _ => none:=id rfl
@[simp] theorem keep_27 (i):fn27.keep i=kp27 i:=rfl
attribute [simp] kp27
@[simp] theorem head_27_10:fn27.head 10=some [4,6,7]:=rfl
@[simp] theorem ntmps_28:fn28.ntmps=22:=rfl
@[simp] theorem results_28:fn28.results=[.tmp 6]:=rfl
theorem body_28:fn28.body=c28:=rfl
@[simp] theorem dyn_28:fn28.dyn=fun _ => []:=id rfl
@[simp] theorem opn_28:fn28.opn=fun _ => none:=id rfl
@[simp] theorem keep_28 (i):fn28.keep i=kp28 i:=rfl
attribute [simp] kp28
@[simp] theorem ntmps_29:fn29.ntmps=38:=rfl
@[simp] theorem results_29:fn29.results=[.tmp 2]:=rfl
theorem body_29:fn29.body=c29:=rfl
@[simp] theorem dyn_29:fn29.dyn=fun _ => []:=id rfl
@[simp] theorem opn_29:fn29.opn=fun _ => none:=id rfl
@[simp] theorem keep_29 (i):fn29.keep i=kp29 i:=rfl
attribute [simp] kp29
@[simp] theorem head_29_4:fn29.head 4=some [0,3,4,12,13]:=rfl
@[simp] theorem ntmps_30:fn30.ntmps=16:=rfl
@[simp] theorem results_30:fn30.results=[.tmp 2]:=rfl
theorem body_30:fn30.body=c30:=rfl
@[simp] theorem dyn_30:fn30.dyn=fun _ => []:=id rfl
@[simp] theorem opn_30:fn30.opn=fun _ => none:=id rfl
@[simp] theorem keep_30 (i):fn30.keep i=kp30 i:=rfl
attribute [simp] kp30
@[simp] theorem head_30_2:fn30.head 2=some [0,3]:=rfl
@[simp] theorem ntmps_31:fn31.ntmps=58:=rfl
@[simp] theorem results_31:fn31.results=[.tmp 2,.tmp 3,.tmp 4]:=rfl
theorem body_31:fn31.body=c31:=rfl
@[simp] theorem dyn_31:fn31.dyn=fun _ => []:=id rfl
@[simp] theorem opn_31:fn31.opn=fun _ => none:=id rfl
@[simp] theorem keep_31 (i):fn31.keep i=kp31 i:=rfl
attribute [simp] kp31
@[simp] theorem ntmps_32:fn32.ntmps=12:=rfl
@[simp] theorem results_32:fn32.results=[.cell 2 59,.tmp 3]:=rfl
theorem body_32:fn32.body=c32:=rfl
@[simp] theorem dyn_32:fn32.dyn=fun _ => []:=id rfl
@[simp] theorem opn_32:fn32.opn=fun _ => none:=id rfl
@[simp] theorem keep_32 (i):fn32.keep i=kp32 i:=rfl
attribute [simp] kp32
@[simp] theorem ntmps_33:fn33.ntmps=21:=rfl
@[simp] theorem results_33:fn33.results=[.tmp 2,.tmp 3]:=rfl
theorem body_33:fn33.body=c33:=rfl
@[simp] theorem dyn_33:fn33.dyn=fun _ => []:=id rfl
@[simp] theorem opn_33:fn33.opn=fun _ => none:=id rfl
@[simp] theorem keep_33 (i):fn33.keep i=kp33 i:=rfl
attribute [simp] kp33
@[simp] theorem ntmps_34:fn34.ntmps=27:=rfl
@[simp] theorem results_34:fn34.results=[.tmp 2]:=rfl
theorem body_34:fn34.body=c34:=rfl
@[simp] theorem dyn_34:fn34.dyn=fun _ => []:=id rfl
@[simp] theorem opn_34:fn34.opn=fun _ => none:=id rfl
@[simp] theorem keep_34 (i):fn34.keep i=kp34 i:=rfl
attribute [simp] kp34
@[simp] theorem head_34_3:fn34.head 3=some [1,3,4]:=rfl
@[simp] theorem ntmps_35:fn35.ntmps=16:=rfl
@[simp] theorem results_35:fn35.results=[.tmp 2]:=rfl
theorem body_35:fn35.body=c35:=rfl
@[simp] theorem dyn_35:fn35.dyn=fun _ => []:=id rfl
@[simp] theorem opn_35:fn35.opn=fun _ => none:=id rfl
@[simp] theorem keep_35 (i):fn35.keep i=kp35 i:=rfl
attribute [simp] kp35
@[simp] theorem ntmps_36:fn36.ntmps=36:=rfl
@[simp] theorem results_36:fn36.results=[.tmp 4]:=rfl
theorem body_36:fn36.body=c36:=rfl
@[simp] theorem dyn_36:fn36.dyn=fun _ => []:=id rfl
@[simp] theorem opn_36:fn36.opn=fun _ => none:=id rfl
@[simp] theorem keep_36 (i):fn36.keep i=kp36 i:=rfl
attribute [simp] kp36
@[simp] theorem ntmps_37:fn37.ntmps=21:=rfl
@[simp] theorem results_37:fn37.results=[.cell 4 59,.tmp 5]:=rfl
theorem body_37:fn37.body=c37:=rfl
@[simp] theorem dyn_37:fn37.dyn=fun _ => []:=id rfl
@[simp] theorem opn_37:fn37.opn=fun _ => none:=id rfl
@[simp] theorem keep_37 (i):fn37.keep i=kp37 i:=rfl
attribute [simp] kp37
@[simp] theorem ntmps_38:fn38.ntmps=19:=rfl
@[simp] theorem results_38:fn38.results=[.tmp 2,.tmp 3,.tmp 4]:=rfl
theorem body_38:fn38.body=c38:=rfl
@[simp] theorem dyn_38:fn38.dyn=fun _ => []:=id rfl
@[simp] theorem opn_38:fn38.opn=fun _ => none:=id rfl
@[simp] theorem keep_38 (i):fn38.keep i=kp38 i:=rfl
attribute [simp] kp38
@[simp] theorem ntmps_39:fn39.ntmps=32:=rfl
@[simp] theorem results_39:fn39.results=[.tmp 8]:=rfl
theorem body_39:fn39.body=c39:=rfl
@[simp] theorem dyn_39:fn39.dyn=fun _ => []:=id rfl
@[simp] theorem opn_39:fn39.opn=fun _ => none:=id rfl
@[simp] theorem keep_39 (i):fn39.keep i=kp39 i:=rfl
attribute [simp] kp39
@[simp] theorem ntmps_40:fn40.ntmps=31:=rfl
@[simp] theorem results_40:fn40.results=[.tmp 6]:=rfl
theorem body_40:fn40.body=c40:=rfl
@[simp] theorem dyn_40:fn40.dyn=fun _ => []:=id rfl
@[simp] theorem opn_40:fn40.opn=fun _ => none:=id rfl
@[simp] theorem keep_40 (i):fn40.keep i=kp40 i:=rfl
attribute [simp] kp40
@[simp] theorem ntmps_41:fn41.ntmps=39:=rfl
@[simp] theorem results_41:fn41.results=[.tmp 4]:=rfl
theorem body_41:fn41.body=c41:=rfl
@[simp] theorem dyn_41:fn41.dyn=fun _ => []:=id rfl
@[simp] theorem opn_41:fn41.opn=fun _ => none:=id rfl
@[simp] theorem keep_41 (i):fn41.keep i=kp41 i:=rfl
attribute [simp] kp41
@[simp] theorem head_41_9:fn41.head 9=some [5,6]:=rfl
@[simp] theorem ntmps_45:fn45.ntmps=28:=rfl
@[simp] theorem results_45:fn45.results=[.tmp 2]:=rfl
theorem body_45:fn45.body=c45:=rfl
@[simp] theorem dyn_45:fn45.dyn=fun _ => []:=id rfl
@[simp] theorem opn_45:fn45.opn=fun _ => none:=id rfl
@[simp] theorem keep_45 (i):fn45.keep i=kp45 i:=rfl
attribute [simp] kp45
@[simp] theorem head_45_3:fn45.head 3=some [0,3,4]:=rfl
@[simp] theorem head_45_6:fn45.head 6=some [0,3,4,5]:=rfl
@[simp] theorem ntmps_46:fn46.ntmps=27:=rfl
@[simp] theorem results_46:fn46.results=[.tmp 4]:=rfl
theorem body_46:fn46.body=c46:=rfl
@[simp] theorem dyn_46:fn46.dyn=fun _ => []:=id rfl
@[simp] theorem opn_46:fn46.opn=fun _ => none:=id rfl
@[simp] theorem keep_46 (i):fn46.keep i=kp46 i:=rfl
attribute [simp] kp46
@[simp] theorem ntmps_47:fn47.ntmps=7:=rfl
@[simp] theorem results_47:fn47.results=[.tmp 2]:=rfl
theorem body_47:fn47.body=c47:=rfl
@[simp] theorem dyn_47:fn47.dyn=fun _ => []:=id rfl
@[simp] theorem opn_47:fn47.opn=fun _ => none:=id rfl
@[simp] theorem keep_47 (i):fn47.keep i=kp47 i:=rfl
attribute [simp] kp47
@[simp] theorem ntmps_48:fn48.ntmps=72:=rfl
@[simp] theorem results_48:fn48.results=[.tmp 2,.tmp 3]:=rfl
theorem body_48:fn48.body=c48:=rfl
@[simp] theorem dyn_48:fn48.dyn=fun _ => []:=id rfl
@[simp] theorem opn_48:fn48.opn=fun _ => none:=id rfl
@[simp] theorem keep_48 (i):fn48.keep i=kp48 i:=rfl
attribute [simp] kp48
@[simp] theorem head_48_10:fn48.head 10=some [4,5,7,58,59]:=rfl
@[simp] theorem ntmps_49:fn49.ntmps=25:=rfl
@[simp] theorem results_49:fn49.results=[.tmp 2]:=rfl
theorem body_49:fn49.body=c49:=rfl
@[simp] theorem dyn_49:fn49.dyn=fun _ => []:=id rfl
@[simp] theorem opn_49:fn49.opn=fun _ => none:=id rfl
@[simp] theorem keep_49 (i):fn49.keep i=kp49 i:=rfl
attribute [simp] kp49
@[simp] theorem ntmps_50:fn50.ntmps=19:=rfl
@[simp] theorem results_50:fn50.results=[.tmp 4,.tmp 5]:=rfl
theorem body_50:fn50.body=c50:=rfl
@[simp] theorem dyn_50:fn50.dyn=fun _ => []:=id rfl
@[simp] theorem opn_50:fn50.opn=fun _ => none:=id rfl
@[simp] theorem keep_50 (i):fn50.keep i=kp50 i:=rfl
attribute [simp] kp50
@[simp] theorem E_fn8:E.fn 8=some fn8:=rfl
@[simp] theorem E_grd8:E.grd 8=none:=id rfl
@[simp] theorem opnT_8:opnT 8=none:=id rfl
@[simp] theorem E_fn9:E.fn 9=some fn9:=rfl
@[simp] theorem E_grd9:E.grd 9=none:=id rfl
@[simp] theorem opnT_9:opnT 9=none:=id rfl
@[simp] theorem E_fn10:E.fn 10=some fn10:=rfl
@[simp] theorem E_grd10:E.grd 10=none:=id rfl
@[simp] theorem opnT_10:opnT 10=none:=id rfl
@[simp] theorem E_fn11:E.fn 11=some fn11:=rfl
@[simp] theorem E_grd11:E.grd 11=none:=id rfl
@[simp] theorem opnT_11:opnT 11=none:=id rfl
@[simp] theorem E_fn12:E.fn 12=some fn12:=rfl
@[simp] theorem E_grd12:E.grd 12=none:=id rfl
@[simp] theorem opnT_12:opnT 12=none:=id rfl
@[simp] theorem E_fn21:E.fn 21=some fn21:=rfl
@[simp] theorem E_grd21:E.grd 21=none:=id rfl
@[simp] theorem opnT_21:opnT 21=none:=id rfl
@[simp] theorem E_fn22:E.fn 22=some fn22:=rfl
@[simp] theorem E_grd22:E.grd 22=none:=id rfl
@[simp] theorem opnT_22:opnT 22=none:=id rfl
@[simp] theorem E_fn23:E.fn 23=some fn23:=rfl
@[simp] theorem E_grd23:E.grd 23=none:=id rfl
@[simp] theorem opnT_23:opnT 23=none:=id rfl
@[simp] theorem E_fn24:E.fn 24=some fn24:=rfl
@[simp] theorem E_grd24:E.grd 24=none:=id rfl
@[simp] theorem opnT_24:opnT 24=none:=id rfl
@[simp] theorem E_fn25:E.fn 25=some fn25:=rfl
@[simp] theorem E_grd25:E.grd 25=none:=id rfl
@[simp] theorem opnT_25:opnT 25=none:=id rfl
@[simp] theorem E_fn26:E.fn 26=some fn26:=rfl
@[simp] theorem E_grd26:E.grd 26=none:=id rfl
@[simp] theorem opnT_26:opnT 26=none:=id rfl
@[simp] theorem E_fn27:E.fn 27=some fn27:=rfl
@[simp] theorem E_grd27:E.grd 27=none:=id rfl
@[simp] theorem opnT_27:opnT 27=none:=id rfl
@[simp] theorem E_fn28:E.fn 28=some fn28:=rfl
@[simp] theorem E_grd28:E.grd 28=none:=id rfl
@[simp] theorem opnT_28:opnT 28=none:=id rfl
@[simp] theorem E_fn29:E.fn 29=some fn29:=rfl
@[simp] theorem E_grd29:E.grd 29=none:=id rfl
@[simp] theorem opnT_29:opnT 29=none:=id rfl
@[simp] theorem E_fn30:E.fn 30=some fn30:=rfl
@[simp] theorem E_grd30:E.grd 30=none:=id rfl
@[simp] theorem opnT_30:opnT 30=none:=id rfl
@[simp] theorem E_fn31:E.fn 31=some fn31:=rfl
@[simp] theorem E_grd31:E.grd 31=none:=id rfl
@[simp] theorem opnT_31:opnT 31=none:=id rfl
@[simp] theorem E_fn32:E.fn 32=some fn32:=rfl
@[simp] theorem E_grd32:E.grd 32=none:=id rfl
@[simp] theorem opnT_32:opnT 32=none:=id rfl
@[simp] theorem E_fn33:E.fn 33=some fn33:=rfl
@[simp] theorem E_grd33:E.grd 33=none:=id rfl
@[simp] theorem opnT_33:opnT 33=none:=id rfl
@[simp] theorem E_fn34:E.fn 34=some fn34:=rfl
@[simp] theorem E_grd34:E.grd 34=none:=id rfl
@[simp] theorem opnT_34:opnT 34=none:=id rfl
@[simp] theorem E_fn35:E.fn 35=some fn35:=rfl
@[simp] theorem E_grd35:E.grd 35=none:=id rfl
@[simp] theorem opnT_35:opnT 35=none:=id rfl
@[simp] theorem E_fn36:E.fn 36=some fn36:=rfl
@[simp] theorem E_grd36:E.grd 36=none:=id rfl
@[simp] theorem opnT_36:opnT 36=none:=id rfl
@[simp] theorem E_fn37:E.fn 37=some fn37:=rfl
@[simp] theorem E_grd37:E.grd 37=none:=id rfl
@[simp] theorem opnT_37:opnT 37=none:=id rfl
@[simp] theorem E_fn38:E.fn 38=some fn38:=rfl
@[simp] theorem E_grd38:E.grd 38=none:=id rfl
@[simp] theorem opnT_38:opnT 38=none:=id rfl
@[simp] theorem E_fn39:E.fn 39=some fn39:=rfl
@[simp] theorem E_grd39:E.grd 39=none:=id rfl
@[simp] theorem opnT_39:opnT 39=none:=id rfl
@[simp] theorem E_fn40:E.fn 40=some fn40:=rfl
@[simp] theorem E_grd40:E.grd 40=none:=id rfl
@[simp] theorem opnT_40:opnT 40=none:=id rfl
@[simp] theorem E_fn41:E.fn 41=some fn41:=rfl
@[simp] theorem E_grd41:E.grd 41=none:=id rfl
@[simp] theorem opnT_41:opnT 41=none:=id rfl
@[simp] theorem E_fn45:E.fn 45=some fn45:=rfl
@[simp] theorem E_grd45:E.grd 45=none:=id rfl
@[simp] theorem opnT_45:opnT 45=none:=id rfl
@[simp] theorem E_fn46:E.fn 46=some fn46:=rfl
@[simp] theorem E_grd46:E.grd 46=none:=id rfl
@[simp] theorem opnT_46:opnT 46=none:=id rfl
@[simp] theorem E_fn47:E.fn 47=some fn47:=rfl
@[simp] theorem E_grd47:E.grd 47=none:=id rfl
@[simp] theorem opnT_47:opnT 47=none:=id rfl
@[simp] theorem E_fn48:E.fn 48=some fn48:=rfl
@[simp] theorem E_grd48:E.grd 48=none:=id rfl
@[simp] theorem opnT_48:opnT 48=none:=id rfl
@[simp] theorem E_fn49:E.fn 49=some fn49:=rfl
@[simp] theorem E_grd49:E.grd 49=none:=id rfl
@[simp] theorem opnT_49:opnT 49=none:=id rfl
@[simp] theorem E_fn50:E.fn 50=some fn50:=rfl
@[simp] theorem E_grd50:E.grd 50=none:=id rfl
@[simp] theorem opnT_50:opnT 50=none:=id rfl
@[simp] theorem E_ty1:E.ty 1=some ⟨.func,1,8,[.nilf],false⟩:=rfl
@[simp] theorem E_ty2:E.ty 2=some ⟨.int .i64,1,8,[.int .i64 0],false⟩:=rfl
@[simp] theorem E_ty3:E.ty 3=some ⟨.int .i64,1,8,[.int .i64 0],false⟩:=rfl
@[simp] theorem E_ty4:E.ty 4=some ⟨.bool,1,1,[.bool false],false⟩:=rfl
@[simp] theorem E_ty5:E.ty 5=some ⟨.int .u8,1,1,[.int .u8 0],false⟩:=rfl
@[simp] theorem E_ty6:E.ty 6=some ⟨.int .u8,1,1,[.int .u8 0],false⟩:=rfl
@[simp] theorem E_ty7:E.ty 7=some ⟨.strct [(0,2),(1,3),(2,4),(3,6)],4,24,[.int .i64 0,.int .i64 0,.bool false,.int .u8 0],false⟩:=rfl
@[simp] theorem E_ty8:E.ty 8=some ⟨.strct [(0,2),(1,3),(2,4),(3,6)],4,24,[.int .i64 0,.int .i64 0,.bool false,.int .u8 0],false⟩:=rfl
@[simp] theorem E_ty9:E.ty 9=some ⟨.str,1,16,[.str []],false⟩:=rfl
@[simp] theorem E_ty10:E.ty 10=some ⟨.str,1,16,[.str []],false⟩:=rfl
@[simp] theorem E_ty11:E.ty 11=some ⟨.str,1,16,[.str []],false⟩:=rfl
@[simp] theorem E_ty12:E.ty 12=some ⟨.int .u64,1,8,[.int .u64 0],false⟩:=rfl
@[simp] theorem E_ty13:E.ty 13=some ⟨.strct [(0,9),(1,12)],2,24,[.str [],.int .u64 0],false⟩:=rfl
@[simp] theorem E_ty14:E.ty 14=some ⟨.strct [(0,9),(1,12)],2,24,[.str [],.int .u64 0],false⟩:=rfl
@[simp] theorem E_ty15:E.ty 15=some ⟨.ptr 88,1,8,[.nilp],false⟩:=rfl
@[simp] theorem E_ty16:E.ty 16=some ⟨.ptr 91,1,8,[.nilp],false⟩:=rfl
@[simp] theorem E_ty17:E.ty 17=some ⟨.ptr 100,1,8,[.nilp],false⟩:=rfl
@[simp] theorem E_ty18:E.ty 18=some ⟨.strct [(0,17)],1,8,[.nilp],false⟩:=rfl
@[simp] theorem E_ty19:E.ty 19=some ⟨.strct [(0,17)],1,8,[.nilp],false⟩:=rfl
@[simp] theorem E_ty20:E.ty 20=some ⟨.iface true,1,16,[.nili],false⟩:=rfl
@[simp] theorem E_ty21:E.ty 21=some ⟨.int .i32,1,4,[.int .i32 0],false⟩:=rfl
@[simp] theorem E_ty22:E.ty 22=some ⟨.slice 5,1,24,[.sl true [] (some 0)],false⟩:=rfl
@[simp] theorem E_ty23:E.ty 23=some ⟨.int .i64,1,8,[.int .i64 0],false⟩:=rfl
@[simp] theorem E_ty25:E.ty 25=some ⟨.func,1,8,[.nilf],false⟩:=rfl
@[simp] theorem E_ty26:E.ty 26=some ⟨.func,1,8,[.nilf],false⟩:=rfl
@[simp] theorem E_ty27:E.ty 27=some ⟨.func,1,8,[.nilf],false⟩:=rfl
@[simp] theorem E_ty28:E.ty 28=some ⟨.func,1,8,[.nilf],false⟩:=rfl
@[simp] theorem E_ty29:E.ty 29=some ⟨.func,1,8,[.nilf],false⟩:=rfl
@[simp] theorem E_ty30:E.ty 30=some ⟨.func,1,8,[.nilf],false⟩:=rfl
@[simp] theorem E_ty31:E.ty 31=some ⟨.int .u32,1,4,[.int .u32 0],false⟩:=rfl
@[simp] theorem E_ty32:E.ty 32=some ⟨.func,1,8,[.nilf],false⟩:=rfl
@[simp] theorem E_ty33:E.ty 33=some ⟨.func,1,8,[.nilf],false⟩:=rfl
@[simp] theorem E_ty35:E.ty 35=some ⟨.func,1,8,[.nilf],false⟩:=rfl
@[simp] theorem E_ty36:E.ty 36=some ⟨.func,1,8,[.nilf],false⟩:=rfl
@[simp] theorem E_ty37:E.ty 37=some ⟨.func,1,8,[.nilf],false⟩:=rfl
@[simp] theorem E_ty38:E.ty 38=some ⟨.func,1,8,[.nilf],false⟩:=rfl
@[simp] theorem E_ty39:E.ty 39=some ⟨.slice 3,1,24,[.sl true [] (some 0)],false⟩:=rfl
@[simp] theorem E_ty41:E.ty 41=some ⟨.func,1,8,[.nilf],false⟩:=rfl
@[simp] theorem E_ty42:E.ty 42=some ⟨.func,1,8,[.nilf],false⟩:=rfl
@[simp] theorem E_ty43:E.ty 43=some ⟨.func,1,8,[.nilf],false⟩:=rfl
@[simp] theorem E_ty44:E.ty 44=some ⟨.func,1,8,[.nilf],false⟩:=rfl
@[simp] theorem E_ty45:E.ty 45=some ⟨.int .u64,1,8,[.int .u64 0],false⟩:=rfl
@[simp] theorem E_ty47:E.ty 47=some ⟨.func,1,8,[.nilf],false⟩:=rfl
@[simp] theorem E_ty48:E.ty 48=some ⟨.func,1,8,[.nilf],false⟩:=rfl
@[simp] theorem E_ty49:E.ty 49=some ⟨.func,1,8,[.nilf],false⟩:=rfl
@[simp] theorem E_ty50:E.ty 50=some ⟨.func,1,8,[.nilf],false⟩:=rfl
@[simp] theorem E_ty51:E.ty 51=some ⟨.int .u64,1,8,[.int .u64 0],false⟩:=rfl
@[simp] theorem E_ty53:E.ty 53=some ⟨.func,1,8,[.nilf],false⟩:=rfl
@[simp] theorem E_ty54:E.ty 54=some ⟨.int .u8,1,1,[.int .u8 0],false⟩:=rfl
@[simp] theorem E_ty55:E.ty 55=some ⟨.strct [(0,54),(1,4),(2,31)],3,8,[.int .u8 0,.bool false,.int .u32 0],false⟩:=rfl
@[simp] theorem E_ty56:E.ty 56=some ⟨.strct [(0,54),(1,4),(2,31)],3,8,[.int .u8 0,.bool false,.int .u32 0],true⟩:=rfl
@[simp] theorem E_ty57:E.ty 57=some ⟨.slice 59,1,24,[.sl true [] (some 0)],false⟩:=rfl
@[simp] theorem E_ty58:E.ty 58=some ⟨.strct [(0,56),(3,22),(4,57)],5,56,[.int .u8 0,.bool false,.int .u32 0,.sl true [] (some 0),.sl true [] (some 0)],false⟩:=rfl
@[simp] theorem E_ty59:E.ty 59=some ⟨.strct [(0,56),(3,22),(4,57)],5,56,[.int .u8 0,.bool false,.int .u32 0,.sl true [] (some 0),.sl true [] (some 0)],false⟩:=rfl
@[simp] theorem E_ty61:E.ty 61=some ⟨.func,1,8,[.nilf],false⟩:=rfl
@[simp] theorem E_ty62:E.ty 62=some ⟨.func,1,8,[.nilf],false⟩:=rfl
@[simp] theorem E_ty63:E.ty 63=some ⟨.strct [(0,22)],1,24,[.sl true [] (some 0)],false⟩:=rfl
@[simp] theorem E_ty64:E.ty 64=some ⟨.strct [(0,22)],1,24,[.sl true [] (some 0)],false⟩:=rfl
@[simp] theorem E_ty65:E.ty 65=some ⟨.func,1,8,[.nilf],false⟩:=rfl
@[simp] theorem E_ty66:E.ty 66=some ⟨.func,1,8,[.nilf],false⟩:=rfl
@[simp] theorem E_ty67:E.ty 67=some ⟨.func,1,8,[.nilf],false⟩:=rfl
@[simp] theorem E_ty68:E.ty 68=some ⟨.func,1,8,[.nilf],false⟩:=rfl
@[simp] theorem E_ty69:E.ty 69=some ⟨.func,1,8,[.nilf],false⟩:=rfl
@[simp] theorem E_ty70:E.ty 70=some ⟨.func,1,8,[.nilf],false⟩:=rfl
@[simp] theorem E_ty71:E.ty 71=some ⟨.func,1,8,[.nilf],false⟩:=rfl
@[simp] theorem E_ty72:E.ty 72=some ⟨.func,1,8,[.nilf],false⟩:=rfl
@[simp] theorem E_ty73:E.ty 73=some ⟨.func,1,8,[.nilf],false⟩:=rfl
@[simp] theorem E_ty74:E.ty 74=some ⟨.func,1,8,[.nilf],false⟩:=rfl
@[simp] theorem E_ty75:E.ty 75=some ⟨.func,1,8,[.nilf],false⟩:=rfl
@[simp] theorem E_ty77:E.ty 77=some ⟨.func,1,8,[.nilf],false⟩:=rfl
@[simp] theorem E_ty78:E.ty 78=some ⟨.func,1,8,[.nilf],false⟩:=rfl
@[simp] theorem E_ty79:E.ty 79=some ⟨.func,1,8,[.nilf],false⟩:=rfl
@[simp] theorem E_ty81:E.ty 81=some ⟨.func,1,8,[.nilf],false⟩:=rfl
@[simp] theorem E_ty82:E.ty 82=some ⟨.func,1,8,[.nilf],false⟩:=rfl
@[simp] theorem E_ty83:E.ty 83=some ⟨.func,1,8,[.nilf],false⟩:=rfl
@[simp] theorem E_ty84:E.ty 84=some ⟨.arr 3 5,3,3,[.int .u8 0,.int .u8 0,.int .u8 0],false⟩:=rfl
@[simp] theorem E_ty85:E.ty 85=some ⟨.arr 3 5,3,3,[.int .u8 0,.int .u8 0,.int .u8 0],false⟩:=rfl
@[simp] theorem E_ty86:E.ty 86=some ⟨.func,1,8,[.nilf],false⟩:=rfl
@[simp] theorem E_ty87:E.ty 87=some ⟨.strct [(0,17),(1,17),(2,17),(3,9)],4,40,[.nilp,.nilp,.nilp,.str []],false⟩:=rfl
@[simp] theorem E_ty88:E.ty 88=some ⟨.strct [(0,17),(1,17),(2,17),(3,9)],4,40,[.nilp,.nilp,.nilp,.str []],false⟩:=rfl
@[simp] theorem E_ty89:E.ty 89=some ⟨.arr 0 16,0,0,[],false⟩:=rfl
@[simp] theorem E_ty90:E.ty 90=some ⟨.strct [(0,89)],0,0,[],false⟩:=rfl
@[simp] theorem E_ty91:E.ty 91=some ⟨.strct [(0,89)],0,0,[],false⟩:=rfl
@[simp] theorem E_ty92:E.ty 92=some ⟨.func,1,8,[.nilf],false⟩:=rfl
@[simp] theorem E_ty93:E.ty 93=some ⟨.int .u8,1,1,[.int .u8 0],false⟩:=rfl
@[simp] theorem E_ty94:E.ty 94=some ⟨.int .u8,1,1,[.int .u8 0],false⟩:=rfl
@[simp] theorem E_ty95:E.ty 95=some ⟨.func,1,8,[.nilf],false⟩:=rfl
@[simp] theorem E_ty96:E.ty 96=some ⟨.ptr 5,1,8,[.nilp],false⟩:=rfl
@[simp] theorem E_ty97:E.ty 97=some ⟨.int .i32,1,4,[.int .i32 0],false⟩:=rfl
@[simp] theorem E_ty98:E.ty 98=some ⟨.int .i32,1,4,[.int .i32 0],false⟩:=rfl
@[simp] theorem E_ty99:E.ty 99=some ⟨.strct [(0,12),(1,12),(2,31),(3,93),(4,5),(5,5),(6,94),(7,95),(8,96),(9,97),(10,98)],11,48,[.int .u64 0,.int .u64 0,.int .u32 0,.int .u8 0,.int .u8 0,.int .u8 0,.int .u8 0,.nilf,.nilp,.int .i32 0,.int .i32 0],false⟩:=rfl
@[simp] theorem E_ty100:E.ty 100=some ⟨.strct [(0,12),(1,12),(2,31),(3,93),(4,5),(5,5),(6,94),(7,95),(8,96),(9,97),(10,98)],11,48,[.int .u64 0,.int .u64 0,.int .u32 0,.int .u8 0,.int .u8 0,.int .u8 0,.int .u8 0,.nilf,.nilp,.int .i32 0,.int .i32 0],false⟩:=rfl
end TabB
