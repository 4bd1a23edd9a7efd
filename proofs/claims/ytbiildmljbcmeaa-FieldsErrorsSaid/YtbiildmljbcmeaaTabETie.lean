/- The tables are the translation's: written by gen2.py. No conditions. -/
import Derived.Test.YtbiildmljbcmeaaTabE
import Derived.Test.YtbiildmljbcmeaaB40
import Derived.Test.YtbiildmljbcmeaaB38
import Derived.Test.YtbiildmljbcmeaaProg
import Derived.KernelRfl
set_option maxRecDepth 100000
set_option maxHeartbeats 4000000
namespace TabE
open Go Ab Go.Proofs
theorem ok8:FnOK Try.prog 8 fn8:=.of (by kernel_rfl)
theorem ok9:FnOK Try.prog 9 fn9:=.of (by kernel_rfl)
theorem ok16:FnOK Try.prog 16 fn16:=.of (by kernel_rfl)
theorem ok18:FnOK Try.prog 18 fn18:=.of (by kernel_rfl)
theorem ok20:FnOK Try.prog 20 fn20:=.of (by kernel_rfl)
theorem ok21:FnOK Try.prog 21 fn21:=.of (by kernel_rfl)
theorem ok22:FnOK Try.prog 22 fn22:=.of (by kernel_rfl)
theorem ok24:FnOK Try.prog 24 fn24:=.of (by kernel_rfl)
theorem ok25:FnOK Try.prog 25 fn25:=.of (by kernel_rfl)
theorem ok26:FnOK Try.prog 26 fn26:=.of (by kernel_rfl)
theorem ok27:FnOK Try.prog 27 fn27:=.of (by kernel_rfl)
theorem ok28:FnOK Try.prog 28 fn28:=.of (by kernel_rfl)
theorem ok29:FnOK Try.prog 29 fn29:=.of (by kernel_rfl)
theorem ok30:FnOK Try.prog 30 fn30:=.of (by kernel_rfl)
theorem ok32:FnOK Try.prog 32 fn32:=.of (by kernel_rfl)
theorem ok34:FnOK Try.prog 34 fn34:=.of (by kernel_rfl)
theorem ok35:FnOK Try.prog 35 fn35:=.of (by kernel_rfl)
theorem ok36:FnOK Try.prog 36 fn36:=.of (by kernel_rfl)
theorem ok37:FnOK Try.prog 37 fn37:=.of (by kernel_rfl)
theorem ok38:FnOK Try.prog 38 fn38:=.of (by kernel_rfl)
theorem ok39:FnOK Try.prog 39 fn39:=.of (by kernel_rfl)
theorem ok40:FnOK Try.prog 40 fn40:=.of (by kernel_rfl)
theorem ok41:FnOK Try.prog 41 fn41:=.of (by kernel_rfl)
theorem ok43:FnOK Try.prog 43 fn43:=.of (by kernel_rfl)
theorem ok44:FnOK Try.prog 44 fn44:=.of (by kernel_rfl)
theorem ok45:FnOK Try.prog 45 fn45:=.of (by kernel_rfl)
theorem ok46:FnOK Try.prog 46 fn46:=.of (by kernel_rfl)
theorem ok47:FnOK Try.prog 47 fn47:=.of (by kernel_rfl)
theorem ok48:FnOK Try.prog 48 fn48:=.of (by kernel_rfl)
theorem ok49:FnOK Try.prog 49 fn49:=.of (by kernel_rfl)
theorem ok50:FnOK Try.prog 50 fn50:=.of (by kernel_rfl)
theorem ok51:FnOK Try.prog 51 fn51:=.of (by kernel_rfl)
theorem ok52:FnOK Try.prog 52 fn52:=.of (by kernel_rfl)
theorem ok53:FnOK Try.prog 53 fn53:=.of (by kernel_rfl)
theorem ok54:FnOK Try.prog 54 fn54:=.of (by kernel_rfl)
theorem ok55:FnOK Try.prog 55 fn55:=.of (by kernel_rfl)
theorem ok56:FnOK Try.prog 56 fn56:=.of (by kernel_rfl)
theorem ok57:FnOK Try.prog 57 fn57:=.of (by kernel_rfl)
theorem ok58:FnOK Try.prog 58 fn58:=.of (by kernel_rfl)
theorem ok59:FnOK Try.prog 59 fn59:=.of (by kernel_rfl)
theorem ok61:FnOK Try.prog 61 fn61:=.of (by kernel_rfl)
theorem ok62:FnOK Try.prog 62 fn62:=.of (by kernel_rfl)
theorem ok63:FnOK Try.prog 63 fn63:=.of (by kernel_rfl)
theorem ok64:FnOK Try.prog 64 fn64:=.of (by kernel_rfl)
theorem ok65:FnOK Try.prog 65 fn65:=.of (by kernel_rfl)
theorem ok66:FnOK Try.prog 66 fn66:=.of (by kernel_rfl)
theorem ok67:FnOK Try.prog 67 fn67:=.of (by kernel_rfl)
theorem ok69:FnOK Try.prog 69 fn69:=.of (by kernel_rfl)
theorem ok70:FnOK Try.prog 70 fn70:=.of (by kernel_rfl)
theorem ok71:FnOK Try.prog 71 fn71:=.of (by kernel_rfl)
theorem ok72:FnOK Try.prog 72 fn72:=.of (by kernel_rfl)
theorem ok73:FnOK Try.prog 73 fn73:=.of (by kernel_rfl)
theorem ok74:FnOK Try.prog 74 fn74:=.of (by kernel_rfl)
theorem ok75:FnOK Try.prog 75 fn75:=.of (by kernel_rfl)
theorem ok76:FnOK Try.prog 76 fn76:=.of (by kernel_rfl)
theorem ok77:FnOK Try.prog 77 fn77:=.of (by kernel_rfl)
theorem ok78:FnOK Try.prog 78 fn78:=.of (by kernel_rfl)
theorem ok79:FnOK Try.prog 79 fn79:=.of (by kernel_rfl)
theorem ok80:FnOK Try.prog 80 fn80:=.of (by kernel_rfl)
theorem ok81:FnOK Try.prog 81 fn81:=.of (by kernel_rfl)
theorem ok82:FnOK Try.prog 82 fn82:=.of (by kernel_rfl)
theorem ok83:FnOK Try.prog 83 fn83:=.of (by kernel_rfl)
theorem ok84:FnOK Try.prog 84 fn84:=.of (by kernel_rfl)
theorem ok85:FnOK Try.prog 85 fn85:=.of (by kernel_rfl)
theorem ok86:FnOK Try.prog 86 fn86:=.of (by kernel_rfl)
theorem ok87:FnOK Try.prog 87 fn87:=.of (by kernel_rfl)
theorem ok89:FnOK Try.prog 89 fn89:=.of (by kernel_rfl)
theorem ok90:FnOK Try.prog 90 fn90:=.of (by kernel_rfl)
theorem ok91:FnOK Try.prog 91 fn91:=.of (by kernel_rfl)
theorem ok92:FnOK Try.prog 92 fn92:=.of (by kernel_rfl)
theorem ok93:FnOK Try.prog 93 fn93:=.of (by kernel_rfl)
theorem ok94:FnOK Try.prog 94 fn94:=.of (by kernel_rfl)
theorem ok95:FnOK Try.prog 95 fn95:=.of (by kernel_rfl)
theorem ok96:FnOK Try.prog 96 fn96:=.of (by kernel_rfl)
theorem ok97:FnOK Try.prog 97 fn97:=.of (by kernel_rfl)
theorem ok98:FnOK Try.prog 98 fn98:=.of (by kernel_rfl)
theorem ok99:FnOK Try.prog 99 fn99:=.of (by kernel_rfl)
theorem ok100:FnOK Try.prog 100 fn100:=.of (by kernel_rfl)
theorem ok101:FnOK Try.prog 101 fn101:=.of (by kernel_rfl)
theorem ok102:FnOK Try.prog 102 fn102:=.of (by kernel_rfl)
theorem ok103:FnOK Try.prog 103 fn103:=.of (by kernel_rfl)
theorem ok104:FnOK Try.prog 104 fn104:=.of (by kernel_rfl)
theorem ok105:FnOK Try.prog 105 fn105:=.of (by kernel_rfl)
theorem ok107:FnOK Try.prog 107 fn107:=.of (by kernel_rfl)
theorem ok108:FnOK Try.prog 108 fn108:=.of (by kernel_rfl)
theorem ok109:FnOK Try.prog 109 fn109:=.of (by kernel_rfl)
theorem ok110:FnOK Try.prog 110 fn110:=.of (by kernel_rfl)
theorem ok111:FnOK Try.prog 111 fn111:=.of (by kernel_rfl)
theorem ok112:FnOK Try.prog 112 fn112:=.of (by kernel_rfl)
theorem ok113:FnOK Try.prog 113 fn113:=.of (by kernel_rfl)
theorem ok114:FnOK Try.prog 114 fn114:=.of (by kernel_rfl)
theorem gk23:GrdOK Try.prog 23 fn23 grd23:=.of 3 (by kernel_rfl) (by kernel_rfl)
theorem allFn:AllFn Try.prog E.grd 0 fnTab:=⟨⟨fun _ => ok8,fun gd h => no_some (show (none:Option Grd)=some gd from h)⟩,⟨fun _ => ok9,fun gd h => no_some (show (none:Option Grd)=some gd from h)⟩,⟨fun _ => ok16,fun gd h => no_some (show (none:Option Grd)=some gd from h)⟩,⟨fun _ => ok18,fun gd h => no_some (show (none:Option Grd)=some gd from h)⟩,⟨fun _ => ok20,fun gd h => no_some (show (none:Option Grd)=some gd from h)⟩,⟨fun _ => ok21,fun gd h => no_some (show (none:Option Grd)=some gd from h)⟩,⟨fun _ => ok22,fun gd h => no_some (show (none:Option Grd)=some gd from h)⟩,⟨fun h => no_none (show some grd23=none from h),fun gd h => (Option.some.inj (show some grd23=some gd from h)) ▸ gk23⟩,⟨fun _ => ok24,fun gd h => no_some (show (none:Option Grd)=some gd from h)⟩,⟨fun _ => ok25,fun gd h => no_some (show (none:Option Grd)=some gd from h)⟩,⟨fun _ => ok26,fun gd h => no_some (show (none:Option Grd)=some gd from h)⟩,⟨fun _ => ok27,fun gd h => no_some (show (none:Option Grd)=some gd from h)⟩,⟨fun _ => ok28,fun gd h => no_some (show (none:Option Grd)=some gd from h)⟩,⟨fun _ => ok29,fun gd h => no_some (show (none:Option Grd)=some gd from h)⟩,⟨fun _ => ok30,fun gd h => no_some (show (none:Option Grd)=some gd from h)⟩,⟨fun _ => ok32,fun gd h => no_some (show (none:Option Grd)=some gd from h)⟩,⟨fun _ => ok34,fun gd h => no_some (show (none:Option Grd)=some gd from h)⟩,⟨fun _ => ok35,fun gd h => no_some (show (none:Option Grd)=some gd from h)⟩,⟨fun _ => ok36,fun gd h => no_some (show (none:Option Grd)=some gd from h)⟩,⟨fun _ => ok37,fun gd h => no_some (show (none:Option Grd)=some gd from h)⟩,⟨fun _ => ok38,fun gd h => no_some (show (none:Option Grd)=some gd from h)⟩,⟨fun _ => ok39,fun gd h => no_some (show (none:Option Grd)=some gd from h)⟩,⟨fun _ => ok40,fun gd h => no_some (show (none:Option Grd)=some gd from h)⟩,⟨fun _ => ok41,fun gd h => no_some (show (none:Option Grd)=some gd from h)⟩,⟨fun _ => ok43,fun gd h => no_some (show (none:Option Grd)=some gd from h)⟩,⟨fun _ => ok44,fun gd h => no_some (show (none:Option Grd)=some gd from h)⟩,⟨fun _ => ok45,fun gd h => no_some (show (none:Option Grd)=some gd from h)⟩,⟨fun _ => ok46,fun gd h => no_some (show (none:Option Grd)=some gd from h)⟩,⟨fun _ => ok47,fun gd h => no_some (show (none:Option Grd)=some gd from h)⟩,⟨fun _ => ok48,fun gd h => no_some (show (none:Option Grd)=some gd from h)⟩,⟨fun _ => ok49,fun gd h => no_some (show (none:Option Grd)=some gd from h)⟩,⟨fun _ => ok50,fun gd h => no_some (show (none:Option Grd)=some gd from h)⟩,⟨fun _ => ok51,fun gd h => no_some (show (none:Option Grd)=some gd from h)⟩,⟨fun _ => ok52,fun gd h => no_some (show (none:Option Grd)=some gd from h)⟩,⟨fun _ => ok53,fun gd h => no_some (show (none:Option Grd)=some gd from h)⟩,⟨fun _ => ok54,fun gd h => no_some (show (none:Option Grd)=some gd from h)⟩,⟨fun _ => ok55,fun gd h => no_some (show (none:Option Grd)=some gd from h)⟩,⟨fun _ => ok56,fun gd h => no_some (show (none:Option Grd)=some gd from h)⟩,⟨fun _ => ok57,fun gd h => no_some (show (none:Option Grd)=some gd from h)⟩,⟨fun _ => ok58,fun gd h => no_some (show (none:Option Grd)=some gd from h)⟩,⟨fun _ => ok59,fun gd h => no_some (show (none:Option Grd)=some gd from h)⟩,⟨fun _ => ok61,fun gd h => no_some (show (none:Option Grd)=some gd from h)⟩,⟨fun _ => ok62,fun gd h => no_some (show (none:Option Grd)=some gd from h)⟩,⟨fun _ => ok63,fun gd h => no_some (show (none:Option Grd)=some gd from h)⟩,⟨fun _ => ok64,fun gd h => no_some (show (none:Option Grd)=some gd from h)⟩,⟨fun _ => ok65,fun gd h => no_some (show (none:Option Grd)=some gd from h)⟩,⟨fun _ => ok66,fun gd h => no_some (show (none:Option Grd)=some gd from h)⟩,⟨fun _ => ok67,fun gd h => no_some (show (none:Option Grd)=some gd from h)⟩,⟨fun _ => ok69,fun gd h => no_some (show (none:Option Grd)=some gd from h)⟩,⟨fun _ => ok70,fun gd h => no_some (show (none:Option Grd)=some gd from h)⟩,⟨fun _ => ok71,fun gd h => no_some (show (none:Option Grd)=some gd from h)⟩,⟨fun _ => ok72,fun gd h => no_some (show (none:Option Grd)=some gd from h)⟩,⟨fun _ => ok73,fun gd h => no_some (show (none:Option Grd)=some gd from h)⟩,⟨fun _ => ok74,fun gd h => no_some (show (none:Option Grd)=some gd from h)⟩,⟨fun _ => ok75,fun gd h => no_some (show (none:Option Grd)=some gd from h)⟩,⟨fun _ => ok76,fun gd h => no_some (show (none:Option Grd)=some gd from h)⟩,⟨fun _ => ok77,fun gd h => no_some (show (none:Option Grd)=some gd from h)⟩,⟨fun _ => ok78,fun gd h => no_some (show (none:Option Grd)=some gd from h)⟩,⟨fun _ => ok79,fun gd h => no_some (show (none:Option Grd)=some gd from h)⟩,⟨fun _ => ok80,fun gd h => no_some (show (none:Option Grd)=some gd from h)⟩,⟨fun _ => ok81,fun gd h => no_some (show (none:Option Grd)=some gd from h)⟩,⟨fun _ => ok82,fun gd h => no_some (show (none:Option Grd)=some gd from h)⟩,⟨fun _ => ok83,fun gd h => no_some (show (none:Option Grd)=some gd from h)⟩,⟨fun _ => ok84,fun gd h => no_some (show (none:Option Grd)=some gd from h)⟩,⟨fun _ => ok85,fun gd h => no_some (show (none:Option Grd)=some gd from h)⟩,⟨fun _ => ok86,fun gd h => no_some (show (none:Option Grd)=some gd from h)⟩,⟨fun _ => ok87,fun gd h => no_some (show (none:Option Grd)=some gd from h)⟩,⟨fun _ => ok89,fun gd h => no_some (show (none:Option Grd)=some gd from h)⟩,⟨fun _ => ok90,fun gd h => no_some (show (none:Option Grd)=some gd from h)⟩,⟨fun _ => ok91,fun gd h => no_some (show (none:Option Grd)=some gd from h)⟩,⟨fun _ => ok92,fun gd h => no_some (show (none:Option Grd)=some gd from h)⟩,⟨fun _ => ok93,fun gd h => no_some (show (none:Option Grd)=some gd from h)⟩,⟨fun _ => ok94,fun gd h => no_some (show (none:Option Grd)=some gd from h)⟩,⟨fun _ => ok95,fun gd h => no_some (show (none:Option Grd)=some gd from h)⟩,⟨fun _ => ok96,fun gd h => no_some (show (none:Option Grd)=some gd from h)⟩,⟨fun _ => ok97,fun gd h => no_some (show (none:Option Grd)=some gd from h)⟩,⟨fun _ => ok98,fun gd h => no_some (show (none:Option Grd)=some gd from h)⟩,⟨fun _ => ok99,fun gd h => no_some (show (none:Option Grd)=some gd from h)⟩,⟨fun _ => ok100,fun gd h => no_some (show (none:Option Grd)=some gd from h)⟩,⟨fun _ => ok101,fun gd h => no_some (show (none:Option Grd)=some gd from h)⟩,⟨fun _ => ok102,fun gd h => no_some (show (none:Option Grd)=some gd from h)⟩,⟨fun _ => ok103,fun gd h => no_some (show (none:Option Grd)=some gd from h)⟩,⟨fun _ => ok104,fun gd h => no_some (show (none:Option Grd)=some gd from h)⟩,⟨fun _ => ok105,fun gd h => no_some (show (none:Option Grd)=some gd from h)⟩,⟨fun _ => ok107,fun gd h => no_some (show (none:Option Grd)=some gd from h)⟩,⟨fun _ => ok108,fun gd h => no_some (show (none:Option Grd)=some gd from h)⟩,⟨fun _ => ok109,fun gd h => no_some (show (none:Option Grd)=some gd from h)⟩,⟨fun _ => ok110,fun gd h => no_some (show (none:Option Grd)=some gd from h)⟩,⟨fun _ => ok111,fun gd h => no_some (show (none:Option Grd)=some gd from h)⟩,⟨fun _ => ok112,fun gd h => no_some (show (none:Option Grd)=some gd from h)⟩,⟨fun _ => ok113,fun gd h => no_some (show (none:Option Grd)=some gd from h)⟩,⟨fun _ => ok114,fun gd h => no_some (show (none:Option Grd)=some gd from h)⟩,trivial⟩
theorem tySums_ok:tySums Try.prog 0 tyTab=tyTold tyTab:=by kernel_rfl
theorem tyFit_ok:tyFit tyTab=true:=by kernel_rfl
theorem cmpOK:∀ t ∈ cmps 0 tyTab,CmpOK Try.prog t.1 t.2:=by
  have e:cmps 0 tyTab=[(27,[.int .u8 0,.bool false,.int .u32 0])]:=by kernel_rfl
  rw [e]
  intro t ht
  simp only [List.mem_cons,List.not_mem_nil,or_false] at ht
  subst ht
  exact CmpOK.of (l:=[false,true,false]) 20 (by decide) (by kernel_rfl) (by kernel_rfl) (by kernel_rfl) (by kernel_rfl)
theorem mixed:Try.prog.follows .mixedOrders=true:=by kernel_rfl
theorem extOK:∀ f,E.ext f=true → ExtOK Try.prog f:=by
  intro f h
  have e:f=106:=by simpa using h
  subst e
  exact ⟨Try.f106,by kernel_rfl,by kernel_rfl,by kernel_rfl,by kernel_rfl,by kernel_rfl⟩
theorem fnsOK0:FnsOK Try.prog E0:=.of rfl allFn (fun f p h => by cases h)
theorem env0:EnvOK Try.prog E0:=.of rfl tySums_ok tyFit_ok cmpOK extOK
theorem env:EnvOK Try.prog E:=.of rfl tySums_ok tyFit_ok cmpOK extOK
end TabE
