/- The tables are the translation's: written by gen2.py. No conditions. -/
import Derived.Test.YtbiildmljbcmeaaDoorTabE
import Derived.Test.YtbiildmljbcmeaaDoorB40
import Derived.Test.YtbiildmljbcmeaaDoorB38
import Derived.Test.YtbiildmljbcmeaaDoorProg
import Derived.KernelRfl
set_option maxRecDepth 100000
set_option maxHeartbeats 4000000
namespace TabE
open Go Ab Go.Proofs
theorem ok9:FnOK Tryd.prog 9 fn9:=.of (by kernel_rfl)
theorem ok10:FnOK Tryd.prog 10 fn10:=.of (by kernel_rfl)
theorem ok20:FnOK Tryd.prog 20 fn20:=.of (by kernel_rfl)
theorem ok22:FnOK Tryd.prog 22 fn22:=.of (by kernel_rfl)
theorem ok35:FnOK Tryd.prog 35 fn35:=.of (by kernel_rfl)
theorem ok36:FnOK Tryd.prog 36 fn36:=.of (by kernel_rfl)
theorem ok40:FnOK Tryd.prog 40 fn40:=.of (by kernel_rfl)
theorem ok41:FnOK Tryd.prog 41 fn41:=.of (by kernel_rfl)
theorem ok42:FnOK Tryd.prog 42 fn42:=.of (by kernel_rfl)
theorem ok43:FnOK Tryd.prog 43 fn43:=.of (by kernel_rfl)
theorem ok44:FnOK Tryd.prog 44 fn44:=.of (by kernel_rfl)
theorem ok45:FnOK Tryd.prog 45 fn45:=.of (by kernel_rfl)
theorem ok46:FnOK Tryd.prog 46 fn46:=.of (by kernel_rfl)
theorem ok47:FnOK Tryd.prog 47 fn47:=.of (by kernel_rfl)
theorem ok48:FnOK Tryd.prog 48 fn48:=.of (by kernel_rfl)
theorem ok49:FnOK Tryd.prog 49 fn49:=.of (by kernel_rfl)
theorem ok50:FnOK Tryd.prog 50 fn50:=.of (by kernel_rfl)
theorem ok51:FnOK Tryd.prog 51 fn51:=.of (by kernel_rfl)
theorem ok52:FnOK Tryd.prog 52 fn52:=.of (by kernel_rfl)
theorem ok53:FnOK Tryd.prog 53 fn53:=.of (by kernel_rfl)
theorem ok65:FnOK Tryd.prog 65 fn65:=.of (by kernel_rfl)
theorem ok69:FnOK Tryd.prog 69 fn69:=.of (by kernel_rfl)
theorem ok73:FnOK Tryd.prog 73 fn73:=.of (by kernel_rfl)
theorem ok82:FnOK Tryd.prog 82 fn82:=.of (by kernel_rfl)
theorem ok85:FnOK Tryd.prog 85 fn85:=.of (by kernel_rfl)
theorem ok86:FnOK Tryd.prog 86 fn86:=.of (by kernel_rfl)
theorem ok87:FnOK Tryd.prog 87 fn87:=.of (by kernel_rfl)
theorem ok88:FnOK Tryd.prog 88 fn88:=.of (by kernel_rfl)
theorem ok89:FnOK Tryd.prog 89 fn89:=.of (by kernel_rfl)
theorem ok90:FnOK Tryd.prog 90 fn90:=.of (by kernel_rfl)
theorem ok91:FnOK Tryd.prog 91 fn91:=.of (by kernel_rfl)
theorem ok92:FnOK Tryd.prog 92 fn92:=.of (by kernel_rfl)
theorem ok93:FnOK Tryd.prog 93 fn93:=.of (by kernel_rfl)
theorem ok95:FnOK Tryd.prog 95 fn95:=.of (by kernel_rfl)
theorem ok96:FnOK Tryd.prog 96 fn96:=.of (by kernel_rfl)
theorem ok97:FnOK Tryd.prog 97 fn97:=.of (by kernel_rfl)
theorem ok102:FnOK Tryd.prog 102 fn102:=.of (by kernel_rfl)
theorem ok112:FnOK Tryd.prog 112 fn112:=.of (by kernel_rfl)
theorem ok113:FnOK Tryd.prog 113 fn113:=.of (by kernel_rfl)
theorem ok114:FnOK Tryd.prog 114 fn114:=.of (by kernel_rfl)
theorem ok115:FnOK Tryd.prog 115 fn115:=.of (by kernel_rfl)
theorem ok119:FnOK Tryd.prog 119 fn119:=.of (by kernel_rfl)
theorem ok120:FnOK Tryd.prog 120 fn120:=.of (by kernel_rfl)
theorem ok121:FnOK Tryd.prog 121 fn121:=.of (by kernel_rfl)
theorem ok127:FnOK Tryd.prog 127 fn127:=.of (by kernel_rfl)
theorem ok128:FnOK Tryd.prog 128 fn128:=.of (by kernel_rfl)
theorem ok130:FnOK Tryd.prog 130 fn130:=.of (by kernel_rfl)
theorem ok131:FnOK Tryd.prog 131 fn131:=.of (by kernel_rfl)
theorem ok132:FnOK Tryd.prog 132 fn132:=.of (by kernel_rfl)
theorem ok133:FnOK Tryd.prog 133 fn133:=.of (by kernel_rfl)
theorem ok134:FnOK Tryd.prog 134 fn134:=.of (by kernel_rfl)
theorem ok135:FnOK Tryd.prog 135 fn135:=.of (by kernel_rfl)
theorem ok140:FnOK Tryd.prog 140 fn140:=.of (by kernel_rfl)
theorem ok147:FnOK Tryd.prog 147 fn147:=.of (by kernel_rfl)
theorem ok152:FnOK Tryd.prog 152 fn152:=.of (by kernel_rfl)
theorem ok153:FnOK Tryd.prog 153 fn153:=.of (by kernel_rfl)
theorem ok154:FnOK Tryd.prog 154 fn154:=.of (by kernel_rfl)
theorem ok155:FnOK Tryd.prog 155 fn155:=.of (by kernel_rfl)
theorem ok156:FnOK Tryd.prog 156 fn156:=.of (by kernel_rfl)
theorem ok157:FnOK Tryd.prog 157 fn157:=.of (by kernel_rfl)
theorem ok158:FnOK Tryd.prog 158 fn158:=.of (by kernel_rfl)
theorem ok159:FnOK Tryd.prog 159 fn159:=.of (by kernel_rfl)
theorem ok160:FnOK Tryd.prog 160 fn160:=.of (by kernel_rfl)
theorem ok161:FnOK Tryd.prog 161 fn161:=.of (by kernel_rfl)
theorem ok167:FnOK Tryd.prog 167 fn167:=.of (by kernel_rfl)
theorem ok168:FnOK Tryd.prog 168 fn168:=.of (by kernel_rfl)
theorem ok169:FnOK Tryd.prog 169 fn169:=.of (by kernel_rfl)
theorem ok181:FnOK Tryd.prog 181 fn181:=.of (by kernel_rfl)
theorem gk94:GrdOK Tryd.prog 94 fn94 grd94:=.of 3 (by kernel_rfl) (by kernel_rfl)
theorem allFn:AllFn Tryd.prog E.grd 0 fnTab:=⟨⟨fun _ => ok9,fun gd h => no_some (show (none:Option Grd)=some gd from h)⟩,⟨fun _ => ok10,fun gd h => no_some (show (none:Option Grd)=some gd from h)⟩,⟨fun _ => ok20,fun gd h => no_some (show (none:Option Grd)=some gd from h)⟩,⟨fun _ => ok22,fun gd h => no_some (show (none:Option Grd)=some gd from h)⟩,⟨fun _ => ok35,fun gd h => no_some (show (none:Option Grd)=some gd from h)⟩,⟨fun _ => ok36,fun gd h => no_some (show (none:Option Grd)=some gd from h)⟩,⟨fun _ => ok40,fun gd h => no_some (show (none:Option Grd)=some gd from h)⟩,⟨fun _ => ok41,fun gd h => no_some (show (none:Option Grd)=some gd from h)⟩,⟨fun _ => ok42,fun gd h => no_some (show (none:Option Grd)=some gd from h)⟩,⟨fun _ => ok43,fun gd h => no_some (show (none:Option Grd)=some gd from h)⟩,⟨fun _ => ok44,fun gd h => no_some (show (none:Option Grd)=some gd from h)⟩,⟨fun _ => ok45,fun gd h => no_some (show (none:Option Grd)=some gd from h)⟩,⟨fun _ => ok46,fun gd h => no_some (show (none:Option Grd)=some gd from h)⟩,⟨fun _ => ok47,fun gd h => no_some (show (none:Option Grd)=some gd from h)⟩,⟨fun _ => ok48,fun gd h => no_some (show (none:Option Grd)=some gd from h)⟩,⟨fun _ => ok49,fun gd h => no_some (show (none:Option Grd)=some gd from h)⟩,⟨fun _ => ok50,fun gd h => no_some (show (none:Option Grd)=some gd from h)⟩,⟨fun _ => ok51,fun gd h => no_some (show (none:Option Grd)=some gd from h)⟩,⟨fun _ => ok52,fun gd h => no_some (show (none:Option Grd)=some gd from h)⟩,⟨fun _ => ok53,fun gd h => no_some (show (none:Option Grd)=some gd from h)⟩,⟨fun _ => ok65,fun gd h => no_some (show (none:Option Grd)=some gd from h)⟩,⟨fun _ => ok69,fun gd h => no_some (show (none:Option Grd)=some gd from h)⟩,⟨fun _ => ok73,fun gd h => no_some (show (none:Option Grd)=some gd from h)⟩,⟨fun _ => ok82,fun gd h => no_some (show (none:Option Grd)=some gd from h)⟩,⟨fun _ => ok85,fun gd h => no_some (show (none:Option Grd)=some gd from h)⟩,⟨fun _ => ok86,fun gd h => no_some (show (none:Option Grd)=some gd from h)⟩,⟨fun _ => ok87,fun gd h => no_some (show (none:Option Grd)=some gd from h)⟩,⟨fun _ => ok88,fun gd h => no_some (show (none:Option Grd)=some gd from h)⟩,⟨fun _ => ok89,fun gd h => no_some (show (none:Option Grd)=some gd from h)⟩,⟨fun _ => ok90,fun gd h => no_some (show (none:Option Grd)=some gd from h)⟩,⟨fun _ => ok91,fun gd h => no_some (show (none:Option Grd)=some gd from h)⟩,⟨fun _ => ok92,fun gd h => no_some (show (none:Option Grd)=some gd from h)⟩,⟨fun _ => ok93,fun gd h => no_some (show (none:Option Grd)=some gd from h)⟩,⟨fun h => no_none (show some grd94=none from h),fun gd h => (Option.some.inj (show some grd94=some gd from h)) ▸ gk94⟩,⟨fun _ => ok95,fun gd h => no_some (show (none:Option Grd)=some gd from h)⟩,⟨fun _ => ok96,fun gd h => no_some (show (none:Option Grd)=some gd from h)⟩,⟨fun _ => ok97,fun gd h => no_some (show (none:Option Grd)=some gd from h)⟩,⟨fun _ => ok102,fun gd h => no_some (show (none:Option Grd)=some gd from h)⟩,⟨fun _ => ok112,fun gd h => no_some (show (none:Option Grd)=some gd from h)⟩,⟨fun _ => ok113,fun gd h => no_some (show (none:Option Grd)=some gd from h)⟩,⟨fun _ => ok114,fun gd h => no_some (show (none:Option Grd)=some gd from h)⟩,⟨fun _ => ok115,fun gd h => no_some (show (none:Option Grd)=some gd from h)⟩,⟨fun _ => ok119,fun gd h => no_some (show (none:Option Grd)=some gd from h)⟩,⟨fun _ => ok120,fun gd h => no_some (show (none:Option Grd)=some gd from h)⟩,⟨fun _ => ok121,fun gd h => no_some (show (none:Option Grd)=some gd from h)⟩,⟨fun _ => ok127,fun gd h => no_some (show (none:Option Grd)=some gd from h)⟩,⟨fun _ => ok128,fun gd h => no_some (show (none:Option Grd)=some gd from h)⟩,⟨fun _ => ok130,fun gd h => no_some (show (none:Option Grd)=some gd from h)⟩,⟨fun _ => ok131,fun gd h => no_some (show (none:Option Grd)=some gd from h)⟩,⟨fun _ => ok132,fun gd h => no_some (show (none:Option Grd)=some gd from h)⟩,⟨fun _ => ok133,fun gd h => no_some (show (none:Option Grd)=some gd from h)⟩,⟨fun _ => ok134,fun gd h => no_some (show (none:Option Grd)=some gd from h)⟩,⟨fun _ => ok135,fun gd h => no_some (show (none:Option Grd)=some gd from h)⟩,⟨fun _ => ok140,fun gd h => no_some (show (none:Option Grd)=some gd from h)⟩,⟨fun _ => ok147,fun gd h => no_some (show (none:Option Grd)=some gd from h)⟩,⟨fun _ => ok152,fun gd h => no_some (show (none:Option Grd)=some gd from h)⟩,⟨fun _ => ok153,fun gd h => no_some (show (none:Option Grd)=some gd from h)⟩,⟨fun _ => ok154,fun gd h => no_some (show (none:Option Grd)=some gd from h)⟩,⟨fun _ => ok155,fun gd h => no_some (show (none:Option Grd)=some gd from h)⟩,⟨fun _ => ok156,fun gd h => no_some (show (none:Option Grd)=some gd from h)⟩,⟨fun _ => ok157,fun gd h => no_some (show (none:Option Grd)=some gd from h)⟩,⟨fun _ => ok158,fun gd h => no_some (show (none:Option Grd)=some gd from h)⟩,⟨fun _ => ok159,fun gd h => no_some (show (none:Option Grd)=some gd from h)⟩,⟨fun _ => ok160,fun gd h => no_some (show (none:Option Grd)=some gd from h)⟩,⟨fun _ => ok161,fun gd h => no_some (show (none:Option Grd)=some gd from h)⟩,⟨fun _ => ok167,fun gd h => no_some (show (none:Option Grd)=some gd from h)⟩,⟨fun _ => ok168,fun gd h => no_some (show (none:Option Grd)=some gd from h)⟩,⟨fun _ => ok169,fun gd h => no_some (show (none:Option Grd)=some gd from h)⟩,⟨fun _ => ok181,fun gd h => no_some (show (none:Option Grd)=some gd from h)⟩,trivial⟩
theorem tySums_ok:tySums Tryd.prog 0 tyTab=tyTold tyTab:=by kernel_rfl
theorem tyFit_ok:tyFit tyTab=true:=by kernel_rfl
theorem cmpOK:∀ t ∈ cmps 0 tyTab,CmpOK Tryd.prog t.1 t.2:=by
  have e:cmps 0 tyTab=[(25,[.int .u8 0,.bool false,.int .u32 0]),(35,[.int .u8 0,.int .u32 0,.int .u32 0,.int .u32 0,.int .u32 0,.int .u32 0,.int .u32 0,.int .u32 0,.int .u32 0,.int .u32 0,.int .u32 0,.int .u32 0,.int .u32 0,.int .u32 0,.int .u32 0,.int .u32 0,.int .u32 0]),(82,[.int .i64 0,.int .i64 0]),(116,[.int .u8 0,.int .u32 0,.int .u32 0,.int .u32 0,.int .u32 0,.int .u32 0,.int .u32 0,.int .u32 0,.int .u32 0,.int .u32 0,.int .u32 0,.int .u32 0,.int .u32 0,.int .u32 0,.int .u32 0,.int .u32 0,.int .u32 0,.int .u8 0,.int .u32 0,.int .u32 0,.int .u32 0,.int .u32 0,.int .u32 0,.int .u32 0,.int .u32 0,.int .u32 0,.int .u32 0,.int .u32 0,.int .u32 0,.int .u32 0,.int .u32 0,.int .u32 0,.int .u32 0,.int .u32 0])]:=by kernel_rfl
  rw [e]
  intro t ht
  simp only [List.mem_cons,List.not_mem_nil,or_false] at ht
  rcases ht with rfl | rfl | rfl | rfl
  exact CmpOK.of (l:=[false,true,false]) 20 (by decide) (by kernel_rfl) (by kernel_rfl) (by kernel_rfl) (by kernel_rfl)
  exact CmpOK.of (l:=[false,false,false,false,false,false,false,false,false,false,false,false,false,false,false,false,false]) 20 (by decide) (by kernel_rfl) (by kernel_rfl) (by kernel_rfl) (by kernel_rfl)
  exact CmpOK.of (l:=[false,false]) 20 (by decide) (by kernel_rfl) (by kernel_rfl) (by kernel_rfl) (by kernel_rfl)
  exact CmpOK.of (l:=[false,false,false,false,false,false,false,false,false,false,false,false,false,false,false,false,false,false,false,false,false,false,false,false,false,false,false,false,false,false,false,false,false,false]) 20 (by decide) (by kernel_rfl) (by kernel_rfl) (by kernel_rfl) (by kernel_rfl)
theorem mixed:Tryd.prog.follows .mixedOrders=true:=by kernel_rfl
theorem extOK:∀ f,E.ext f=true → ExtOK Tryd.prog f:=by
  intro f h
  cases h
theorem fnsOK0:FnsOK Tryd.prog E0:=.of rfl allFn (fun f p h => by cases h)
theorem env0:EnvOK Tryd.prog E0:=.of rfl tySums_ok tyFit_ok cmpOK extOK
theorem env:EnvOK Tryd.prog E:=.of rfl tySums_ok tyFit_ok cmpOK extOK
end TabE
