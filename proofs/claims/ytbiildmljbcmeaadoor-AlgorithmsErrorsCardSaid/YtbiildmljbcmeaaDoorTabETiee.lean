/- The tables are the translation's: written by gen2.py. No conditions. -/
import Derived.Test.YtbiildmljbcmeaaDoorTabEe
import Derived.Test.YtbiildmljbcmeaaDoorB40e
import Derived.Test.YtbiildmljbcmeaaDoorB38e
import Derived.Test.YtbiildmljbcmeaaDoorProg
import Derived.KernelRfl
set_option maxRecDepth 100000
set_option maxHeartbeats 4000000
namespace TabE
open Go Ab Go.Proofs
theorem ok3:FnOK Tryd.prog 3 fn3:=.of (by kernel_rfl)
theorem ok4:FnOK Tryd.prog 4 fn4:=.of (by kernel_rfl)
theorem ok13:FnOK Tryd.prog 13 fn13:=.of (by kernel_rfl)
theorem ok14:FnOK Tryd.prog 14 fn14:=.of (by kernel_rfl)
theorem ok15:FnOK Tryd.prog 15 fn15:=.of (by kernel_rfl)
theorem ok16:FnOK Tryd.prog 16 fn16:=.of (by kernel_rfl)
theorem ok17:FnOK Tryd.prog 17 fn17:=.of (by kernel_rfl)
theorem ok18:FnOK Tryd.prog 18 fn18:=.of (by kernel_rfl)
theorem ok19:FnOK Tryd.prog 19 fn19:=.of (by kernel_rfl)
theorem ok20:FnOK Tryd.prog 20 fn20:=.of (by kernel_rfl)
theorem ok21:FnOK Tryd.prog 21 fn21:=.of (by kernel_rfl)
theorem ok22:FnOK Tryd.prog 22 fn22:=.of (by kernel_rfl)
theorem ok23:FnOK Tryd.prog 23 fn23:=.of (by kernel_rfl)
theorem ok24:FnOK Tryd.prog 24 fn24:=.of (by kernel_rfl)
theorem ok25:FnOK Tryd.prog 25 fn25:=.of (by kernel_rfl)
theorem ok26:FnOK Tryd.prog 26 fn26:=.of (by kernel_rfl)
theorem ok27:FnOK Tryd.prog 27 fn27:=.of (by kernel_rfl)
theorem ok28:FnOK Tryd.prog 28 fn28:=.of (by kernel_rfl)
theorem ok29:FnOK Tryd.prog 29 fn29:=.of (by kernel_rfl)
theorem ok30:FnOK Tryd.prog 30 fn30:=.of (by kernel_rfl)
theorem ok35:FnOK Tryd.prog 35 fn35:=.of (by kernel_rfl)
theorem ok36:FnOK Tryd.prog 36 fn36:=.of (by kernel_rfl)
theorem ok39:FnOK Tryd.prog 39 fn39:=.of (by kernel_rfl)
theorem ok65:FnOK Tryd.prog 65 fn65:=.of (by kernel_rfl)
theorem ok66:FnOK Tryd.prog 66 fn66:=.of (by kernel_rfl)
theorem ok67:FnOK Tryd.prog 67 fn67:=.of (by kernel_rfl)
theorem ok68:FnOK Tryd.prog 68 fn68:=.of (by kernel_rfl)
theorem ok69:FnOK Tryd.prog 69 fn69:=.of (by kernel_rfl)
theorem ok70:FnOK Tryd.prog 70 fn70:=.of (by kernel_rfl)
theorem ok71:FnOK Tryd.prog 71 fn71:=.of (by kernel_rfl)
theorem ok72:FnOK Tryd.prog 72 fn72:=.of (by kernel_rfl)
theorem ok73:FnOK Tryd.prog 73 fn73:=.of (by kernel_rfl)
theorem ok74:FnOK Tryd.prog 74 fn74:=.of (by kernel_rfl)
theorem ok75:FnOK Tryd.prog 75 fn75:=.of (by kernel_rfl)
theorem ok76:FnOK Tryd.prog 76 fn76:=.of (by kernel_rfl)
theorem ok77:FnOK Tryd.prog 77 fn77:=.of (by kernel_rfl)
theorem ok78:FnOK Tryd.prog 78 fn78:=.of (by kernel_rfl)
theorem ok79:FnOK Tryd.prog 79 fn79:=.of (by kernel_rfl)
theorem ok90:FnOK Tryd.prog 90 fn90:=.of (by kernel_rfl)
theorem ok112:FnOK Tryd.prog 112 fn112:=.of (by kernel_rfl)
theorem ok113:FnOK Tryd.prog 113 fn113:=.of (by kernel_rfl)
theorem ok114:FnOK Tryd.prog 114 fn114:=.of (by kernel_rfl)
theorem ok115:FnOK Tryd.prog 115 fn115:=.of (by kernel_rfl)
theorem ok116:FnOK Tryd.prog 116 fn116:=.of (by kernel_rfl)
theorem ok117:FnOK Tryd.prog 117 fn117:=.of (by kernel_rfl)
theorem ok118:FnOK Tryd.prog 118 fn118:=.of (by kernel_rfl)
theorem ok119:FnOK Tryd.prog 119 fn119:=.of (by kernel_rfl)
theorem ok120:FnOK Tryd.prog 120 fn120:=.of (by kernel_rfl)
theorem ok121:FnOK Tryd.prog 121 fn121:=.of (by kernel_rfl)
theorem ok122:FnOK Tryd.prog 122 fn122:=.of (by kernel_rfl)
theorem ok123:FnOK Tryd.prog 123 fn123:=.of (by kernel_rfl)
theorem ok124:FnOK Tryd.prog 124 fn124:=.of (by kernel_rfl)
theorem ok125:FnOK Tryd.prog 125 fn125:=.of (by kernel_rfl)
theorem ok126:FnOK Tryd.prog 126 fn126:=.of (by kernel_rfl)
theorem ok127:FnOK Tryd.prog 127 fn127:=.of (by kernel_rfl)
theorem ok128:FnOK Tryd.prog 128 fn128:=.of (by kernel_rfl)
theorem ok131:FnOK Tryd.prog 131 fn131:=.of (by kernel_rfl)
theorem ok147:FnOK Tryd.prog 147 fn147:=.of (by kernel_rfl)
theorem ok148:FnOK Tryd.prog 148 fn148:=.of (by kernel_rfl)
theorem ok149:FnOK Tryd.prog 149 fn149:=.of (by kernel_rfl)
theorem ok150:FnOK Tryd.prog 150 fn150:=.of (by kernel_rfl)
theorem ok151:FnOK Tryd.prog 151 fn151:=.of (by kernel_rfl)
theorem ok152:FnOK Tryd.prog 152 fn152:=.of (by kernel_rfl)
theorem ok154:FnOK Tryd.prog 154 fn154:=.of (by kernel_rfl)
theorem ok157:FnOK Tryd.prog 157 fn157:=.of (by kernel_rfl)
theorem ok159:FnOK Tryd.prog 159 fn159:=.of (by kernel_rfl)
theorem ok160:FnOK Tryd.prog 160 fn160:=.of (by kernel_rfl)
theorem ok165:FnOK Tryd.prog 165 fn165:=.of (by kernel_rfl)
theorem ok166:FnOK Tryd.prog 166 fn166:=.of (by kernel_rfl)
theorem ok168:FnOK Tryd.prog 168 fn168:=.of (by kernel_rfl)
theorem ok169:FnOK Tryd.prog 169 fn169:=.of (by kernel_rfl)
theorem ok181:FnOK Tryd.prog 181 fn181:=.of (by kernel_rfl)
theorem allFn:AllFn Tryd.prog E.grd 0 fnTab:=⟨⟨fun _ => ok3,fun gd h => no_some (show (none:Option Grd)=some gd from h)⟩,⟨fun _ => ok4,fun gd h => no_some (show (none:Option Grd)=some gd from h)⟩,⟨fun _ => ok13,fun gd h => no_some (show (none:Option Grd)=some gd from h)⟩,⟨fun _ => ok14,fun gd h => no_some (show (none:Option Grd)=some gd from h)⟩,⟨fun _ => ok15,fun gd h => no_some (show (none:Option Grd)=some gd from h)⟩,⟨fun _ => ok16,fun gd h => no_some (show (none:Option Grd)=some gd from h)⟩,⟨fun _ => ok17,fun gd h => no_some (show (none:Option Grd)=some gd from h)⟩,⟨fun _ => ok18,fun gd h => no_some (show (none:Option Grd)=some gd from h)⟩,⟨fun _ => ok19,fun gd h => no_some (show (none:Option Grd)=some gd from h)⟩,⟨fun _ => ok20,fun gd h => no_some (show (none:Option Grd)=some gd from h)⟩,⟨fun _ => ok21,fun gd h => no_some (show (none:Option Grd)=some gd from h)⟩,⟨fun _ => ok22,fun gd h => no_some (show (none:Option Grd)=some gd from h)⟩,⟨fun _ => ok23,fun gd h => no_some (show (none:Option Grd)=some gd from h)⟩,⟨fun _ => ok24,fun gd h => no_some (show (none:Option Grd)=some gd from h)⟩,⟨fun _ => ok25,fun gd h => no_some (show (none:Option Grd)=some gd from h)⟩,⟨fun _ => ok26,fun gd h => no_some (show (none:Option Grd)=some gd from h)⟩,⟨fun _ => ok27,fun gd h => no_some (show (none:Option Grd)=some gd from h)⟩,⟨fun _ => ok28,fun gd h => no_some (show (none:Option Grd)=some gd from h)⟩,⟨fun _ => ok29,fun gd h => no_some (show (none:Option Grd)=some gd from h)⟩,⟨fun _ => ok30,fun gd h => no_some (show (none:Option Grd)=some gd from h)⟩,⟨fun _ => ok35,fun gd h => no_some (show (none:Option Grd)=some gd from h)⟩,⟨fun _ => ok36,fun gd h => no_some (show (none:Option Grd)=some gd from h)⟩,⟨fun _ => ok39,fun gd h => no_some (show (none:Option Grd)=some gd from h)⟩,⟨fun _ => ok65,fun gd h => no_some (show (none:Option Grd)=some gd from h)⟩,⟨fun _ => ok66,fun gd h => no_some (show (none:Option Grd)=some gd from h)⟩,⟨fun _ => ok67,fun gd h => no_some (show (none:Option Grd)=some gd from h)⟩,⟨fun _ => ok68,fun gd h => no_some (show (none:Option Grd)=some gd from h)⟩,⟨fun _ => ok69,fun gd h => no_some (show (none:Option Grd)=some gd from h)⟩,⟨fun _ => ok70,fun gd h => no_some (show (none:Option Grd)=some gd from h)⟩,⟨fun _ => ok71,fun gd h => no_some (show (none:Option Grd)=some gd from h)⟩,⟨fun _ => ok72,fun gd h => no_some (show (none:Option Grd)=some gd from h)⟩,⟨fun _ => ok73,fun gd h => no_some (show (none:Option Grd)=some gd from h)⟩,⟨fun _ => ok74,fun gd h => no_some (show (none:Option Grd)=some gd from h)⟩,⟨fun _ => ok75,fun gd h => no_some (show (none:Option Grd)=some gd from h)⟩,⟨fun _ => ok76,fun gd h => no_some (show (none:Option Grd)=some gd from h)⟩,⟨fun _ => ok77,fun gd h => no_some (show (none:Option Grd)=some gd from h)⟩,⟨fun _ => ok78,fun gd h => no_some (show (none:Option Grd)=some gd from h)⟩,⟨fun _ => ok79,fun gd h => no_some (show (none:Option Grd)=some gd from h)⟩,⟨fun _ => ok90,fun gd h => no_some (show (none:Option Grd)=some gd from h)⟩,⟨fun _ => ok112,fun gd h => no_some (show (none:Option Grd)=some gd from h)⟩,⟨fun _ => ok113,fun gd h => no_some (show (none:Option Grd)=some gd from h)⟩,⟨fun _ => ok114,fun gd h => no_some (show (none:Option Grd)=some gd from h)⟩,⟨fun _ => ok115,fun gd h => no_some (show (none:Option Grd)=some gd from h)⟩,⟨fun _ => ok116,fun gd h => no_some (show (none:Option Grd)=some gd from h)⟩,⟨fun _ => ok117,fun gd h => no_some (show (none:Option Grd)=some gd from h)⟩,⟨fun _ => ok118,fun gd h => no_some (show (none:Option Grd)=some gd from h)⟩,⟨fun _ => ok119,fun gd h => no_some (show (none:Option Grd)=some gd from h)⟩,⟨fun _ => ok120,fun gd h => no_some (show (none:Option Grd)=some gd from h)⟩,⟨fun _ => ok121,fun gd h => no_some (show (none:Option Grd)=some gd from h)⟩,⟨fun _ => ok122,fun gd h => no_some (show (none:Option Grd)=some gd from h)⟩,⟨fun _ => ok123,fun gd h => no_some (show (none:Option Grd)=some gd from h)⟩,⟨fun _ => ok124,fun gd h => no_some (show (none:Option Grd)=some gd from h)⟩,⟨fun _ => ok125,fun gd h => no_some (show (none:Option Grd)=some gd from h)⟩,⟨fun _ => ok126,fun gd h => no_some (show (none:Option Grd)=some gd from h)⟩,⟨fun _ => ok127,fun gd h => no_some (show (none:Option Grd)=some gd from h)⟩,⟨fun _ => ok128,fun gd h => no_some (show (none:Option Grd)=some gd from h)⟩,⟨fun _ => ok131,fun gd h => no_some (show (none:Option Grd)=some gd from h)⟩,⟨fun _ => ok147,fun gd h => no_some (show (none:Option Grd)=some gd from h)⟩,⟨fun _ => ok148,fun gd h => no_some (show (none:Option Grd)=some gd from h)⟩,⟨fun _ => ok149,fun gd h => no_some (show (none:Option Grd)=some gd from h)⟩,⟨fun _ => ok150,fun gd h => no_some (show (none:Option Grd)=some gd from h)⟩,⟨fun _ => ok151,fun gd h => no_some (show (none:Option Grd)=some gd from h)⟩,⟨fun _ => ok152,fun gd h => no_some (show (none:Option Grd)=some gd from h)⟩,⟨fun _ => ok154,fun gd h => no_some (show (none:Option Grd)=some gd from h)⟩,⟨fun _ => ok157,fun gd h => no_some (show (none:Option Grd)=some gd from h)⟩,⟨fun _ => ok159,fun gd h => no_some (show (none:Option Grd)=some gd from h)⟩,⟨fun _ => ok160,fun gd h => no_some (show (none:Option Grd)=some gd from h)⟩,⟨fun _ => ok165,fun gd h => no_some (show (none:Option Grd)=some gd from h)⟩,⟨fun _ => ok166,fun gd h => no_some (show (none:Option Grd)=some gd from h)⟩,⟨fun _ => ok168,fun gd h => no_some (show (none:Option Grd)=some gd from h)⟩,⟨fun _ => ok169,fun gd h => no_some (show (none:Option Grd)=some gd from h)⟩,⟨fun _ => ok181,fun gd h => no_some (show (none:Option Grd)=some gd from h)⟩,trivial⟩
theorem tySums_ok:tySums Tryd.prog 0 tyTab=tyTold tyTab:=by kernel_rfl
theorem tyFit_ok:tyFit tyTab=true:=by kernel_rfl
theorem cmpOK:∀ t ∈ cmps 0 tyTab,CmpOK Tryd.prog t.1 t.2:=by
  have e:cmps 0 tyTab=[(25,[.int .u8 0,.bool false,.int .u32 0]),(35,[.int .u8 0,.int .u32 0,.int .u32 0,.int .u32 0,.int .u32 0,.int .u32 0,.int .u32 0,.int .u32 0,.int .u32 0,.int .u32 0,.int .u32 0,.int .u32 0,.int .u32 0,.int .u32 0,.int .u32 0,.int .u32 0,.int .u32 0]),(82,[.int .i64 0,.int .i64 0]),(116,[.int .u8 0,.int .u32 0,.int .u32 0,.int .u32 0,.int .u32 0,.int .u32 0,.int .u32 0,.int .u32 0,.int .u32 0,.int .u32 0,.int .u32 0,.int .u32 0,.int .u32 0,.int .u32 0,.int .u32 0,.int .u32 0,.int .u32 0,.int .u8 0,.int .u32 0,.int .u32 0,.int .u32 0,.int .u32 0,.int .u32 0,.int .u32 0,.int .u32 0,.int .u32 0,.int .u32 0,.int .u32 0,.int .u32 0,.int .u32 0,.int .u32 0,.int .u32 0,.int .u32 0,.int .u32 0])]:=by kernel_rfl
  rw [e]
  intro t ht
  simp only [List.mem_cons,List.not_mem_nil,or_false] at ht
  rcases ht with rfl | rfl | rfl | rfl
  exact CmpOK.of (l:=[false,true,false]) 20 (by decide) (by kernel_rfl) (by kernel_rfl) (by kernel_rfl) (by kernel_rfl)
  exact CmpOK.of (l:=[false,false,false,false,false,false,false,false,false,false,false,false,false,false,false,false,false]) 20 (by decide) (by kernel_rfl) (by kernel_rfl) (by kernel_rfl) (by kernel_rfl)
  exact CmpOK.of (l:=[false,false]) 20 (by decide) (by kernel_rfl) (by kernel_rfl) (by kernel_rfl) (by kernel_rfl)
  exact CmpOK.of (l:=[false,false,false,false,false,false,false,false,false,false,false,false,false,false,false,false,false,false,false,false,false,false,false,false,false,false,false,false,false,false,false,false,false,false]) 20 (by decide) (by kernel_rfl) (by kernel_rfl) (by kernel_rfl) (by kernel_rfl)
theorem mixed:Tryd.prog.follows .mixedOrders=true:=by kernel_rfl
theorem extOK:∀ f,E.ext f=true → ExtOK Tryd.prog f:=by
  intro f h
  cases h
theorem fnsOK0:FnsOK Tryd.prog E0:=.of rfl allFn (fun f p h => by cases h)
theorem env0:EnvOK Tryd.prog E0:=.of rfl tySums_ok tyFit_ok cmpOK extOK
theorem env:EnvOK Tryd.prog E:=.of rfl tySums_ok tyFit_ok cmpOK extOK
end TabE
