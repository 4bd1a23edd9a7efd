/- The tables are the translation's: written by gen2.py. No conditions. -/
import Derived.Test.YtalmnhdnclmhbaaTabB
import Derived.Test.YtalmnhdnclmhbaaB30
import Derived.Test.YtalmnhdnclmhbaaB38
import Derived.Test.YtalmnhdnclmhbaaProg
import Derived.KernelRfl
set_option maxRecDepth 100000
set_option maxHeartbeats 4000000
namespace TabB
open Go Ab Go.Proofs
theorem ok8:FnOK Try.prog 8 fn8:=.of (by kernel_rfl)
theorem ok9:FnOK Try.prog 9 fn9:=.of (by kernel_rfl)
theorem ok10:FnOK Try.prog 10 fn10:=.of (by kernel_rfl)
theorem ok11:FnOK Try.prog 11 fn11:=.of (by kernel_rfl)
theorem ok12:FnOK Try.prog 12 fn12:=.of (by kernel_rfl)
theorem ok21:FnOK Try.prog 21 fn21:=.of (by kernel_rfl)
theorem ok22:FnOK Try.prog 22 fn22:=.of (by kernel_rfl)
theorem ok23:FnOK Try.prog 23 fn23:=.of (by kernel_rfl)
theorem ok24:FnOK Try.prog 24 fn24:=.of (by kernel_rfl)
theorem ok25:FnOK Try.prog 25 fn25:=.of (by kernel_rfl)
theorem ok26:FnOK Try.prog 26 fn26:=.of (by kernel_rfl)
theorem ok27:FnOK Try.prog 27 fn27:=.of (by kernel_rfl)
theorem ok28:FnOK Try.prog 28 fn28:=.of (by kernel_rfl)
theorem ok29:FnOK Try.prog 29 fn29:=.of (by kernel_rfl)
theorem ok30:FnOK Try.prog 30 fn30:=.of (by kernel_rfl)
theorem ok31:FnOK Try.prog 31 fn31:=.of (by kernel_rfl)
theorem ok32:FnOK Try.prog 32 fn32:=.of (by kernel_rfl)
theorem ok33:FnOK Try.prog 33 fn33:=.of (by kernel_rfl)
theorem ok34:FnOK Try.prog 34 fn34:=.of (by kernel_rfl)
theorem ok35:FnOK Try.prog 35 fn35:=.of (by kernel_rfl)
theorem ok36:FnOK Try.prog 36 fn36:=.of (by kernel_rfl)
theorem ok37:FnOK Try.prog 37 fn37:=.of (by kernel_rfl)
theorem ok38:FnOK Try.prog 38 fn38:=.of (by kernel_rfl)
theorem ok39:FnOK Try.prog 39 fn39:=.of (by kernel_rfl)
theorem ok40:FnOK Try.prog 40 fn40:=.of (by kernel_rfl)
theorem ok41:FnOK Try.prog 41 fn41:=.of (by kernel_rfl)
theorem ok45:FnOK Try.prog 45 fn45:=.of (by kernel_rfl)
theorem ok46:FnOK Try.prog 46 fn46:=.of (by kernel_rfl)
theorem ok47:FnOK Try.prog 47 fn47:=.of (by kernel_rfl)
theorem ok48:FnOK Try.prog 48 fn48:=.of (by kernel_rfl)
theorem ok49:FnOK Try.prog 49 fn49:=.of (by kernel_rfl)
theorem ok50:FnOK Try.prog 50 fn50:=.of (by kernel_rfl)
theorem allFn:AllFn Try.prog E.grd 0 fnTab:=⟨⟨fun _ => ok8,fun gd h => no_some (show (none:Option Grd)=some gd from h)⟩,⟨fun _ => ok9,fun gd h => no_some (show (none:Option Grd)=some gd from h)⟩,⟨fun _ => ok10,fun gd h => no_some (show (none:Option Grd)=some gd from h)⟩,⟨fun _ => ok11,fun gd h => no_some (show (none:Option Grd)=some gd from h)⟩,⟨fun _ => ok12,fun gd h => no_some (show (none:Option Grd)=some gd from h)⟩,⟨fun _ => ok21,fun gd h => no_some (show (none:Option Grd)=some gd from h)⟩,⟨fun _ => ok22,fun gd h => no_some (show (none:Option Grd)=some gd from h)⟩,⟨fun _ => ok23,fun gd h => no_some (show (none:Option Grd)=some gd from h)⟩,⟨fun _ => ok24,fun gd h => no_some (show (none:Option Grd)=some gd from h)⟩,⟨fun _ => ok25,fun gd h => no_some (show (none:Option Grd)=some gd from h)⟩,⟨fun _ => ok26,fun gd h => no_some (show (none:Option Grd)=some gd from h)⟩,⟨fun _ => ok27,fun gd h => no_some (show (none:Option Grd)=some gd from h)⟩,⟨fun _ => ok28,fun gd h => no_some (show (none:Option Grd)=some gd from h)⟩,⟨fun _ => ok29,fun gd h => no_some (show (none:Option Grd)=some gd from h)⟩,⟨fun _ => ok30,fun gd h => no_some (show (none:Option Grd)=some gd from h)⟩,⟨fun _ => ok31,fun gd h => no_some (show (none:Option Grd)=some gd from h)⟩,⟨fun _ => ok32,fun gd h => no_some (show (none:Option Grd)=some gd from h)⟩,⟨fun _ => ok33,fun gd h => no_some (show (none:Option Grd)=some gd from h)⟩,⟨fun _ => ok34,fun gd h => no_some (show (none:Option Grd)=some gd from h)⟩,⟨fun _ => ok35,fun gd h => no_some (show (none:Option Grd)=some gd from h)⟩,⟨fun _ => ok36,fun gd h => no_some (show (none:Option Grd)=some gd from h)⟩,⟨fun _ => ok37,fun gd h => no_some (show (none:Option Grd)=some gd from h)⟩,⟨fun _ => ok38,fun gd h => no_some (show (none:Option Grd)=some gd from h)⟩,⟨fun _ => ok39,fun gd h => no_some (show (none:Option Grd)=some gd from h)⟩,⟨fun _ => ok40,fun gd h => no_some (show (none:Option Grd)=some gd from h)⟩,⟨fun _ => ok41,fun gd h => no_some (show (none:Option Grd)=some gd from h)⟩,⟨fun _ => ok45,fun gd h => no_some (show (none:Option Grd)=some gd from h)⟩,⟨fun _ => ok46,fun gd h => no_some (show (none:Option Grd)=some gd from h)⟩,⟨fun _ => ok47,fun gd h => no_some (show (none:Option Grd)=some gd from h)⟩,⟨fun _ => ok48,fun gd h => no_some (show (none:Option Grd)=some gd from h)⟩,⟨fun _ => ok49,fun gd h => no_some (show (none:Option Grd)=some gd from h)⟩,⟨fun _ => ok50,fun gd h => no_some (show (none:Option Grd)=some gd from h)⟩,trivial⟩
theorem tySums_ok:tySums Try.prog 0 tyTab=tyTold tyTab:=by kernel_rfl
theorem tyFit_ok:tyFit tyTab=true:=by kernel_rfl
theorem cmpOK:∀ t ∈ cmps 0 tyTab,CmpOK Try.prog t.1 t.2:=by
  have e:cmps 0 tyTab=[(56,[.int .u8 0,.bool false,.int .u32 0])]:=by kernel_rfl
  rw [e]
  intro t ht
  simp only [List.mem_cons,List.not_mem_nil,or_false] at ht
  subst ht
  exact CmpOK.of (l:=[false,true,false]) 20 (by decide) (by kernel_rfl) (by kernel_rfl) (by kernel_rfl) (by kernel_rfl)
theorem mixed:Try.prog.follows .mixedOrders=true:=by kernel_rfl
theorem extOK:∀ f,E.ext f=true → ExtOK Try.prog f:=by
  intro f h
  cases h
theorem fnsOK:FnsOK Try.prog E:=.of rfl allFn (fun f p h => by cases h)
theorem env:EnvOK Try.prog E:=.of rfl tySums_ok tyFit_ok cmpOK extOK
end TabB
