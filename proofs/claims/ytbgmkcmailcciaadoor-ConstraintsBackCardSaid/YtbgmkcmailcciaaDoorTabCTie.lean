/- The tables are the translation's: written by gen2.py. No conditions. -/
import Derived.Test.YtbgmkcmailcciaaDoorTabC
import Derived.Test.YtbgmkcmailcciaaDoorB30
import Derived.Test.YtbgmkcmailcciaaDoorB38
import Derived.Test.YtbgmkcmailcciaaDoorProg
import Derived.KernelRfl
set_option maxRecDepth 100000
set_option maxHeartbeats 4000000
namespace TabC
open Go Ab Go.Proofs

theorem ok3 : FnOK Tryd.prog 3 fn3 := .of (by kernel_rfl)
theorem ok4 : FnOK Tryd.prog 4 fn4 := .of (by kernel_rfl)
theorem ok5 : FnOK Tryd.prog 5 fn5 := .of (by kernel_rfl)
theorem ok6 : FnOK Tryd.prog 6 fn6 := .of (by kernel_rfl)
theorem ok7 : FnOK Tryd.prog 7 fn7 := .of (by kernel_rfl)
theorem ok8 : FnOK Tryd.prog 8 fn8 := .of (by kernel_rfl)
theorem ok9 : FnOK Tryd.prog 9 fn9 := .of (by kernel_rfl)
theorem ok10 : FnOK Tryd.prog 10 fn10 := .of (by kernel_rfl)
theorem ok11 : FnOK Tryd.prog 11 fn11 := .of (by kernel_rfl)
theorem ok12 : FnOK Tryd.prog 12 fn12 := .of (by kernel_rfl)
theorem ok13 : FnOK Tryd.prog 13 fn13 := .of (by kernel_rfl)
theorem ok14 : FnOK Tryd.prog 14 fn14 := .of (by kernel_rfl)
theorem ok15 : FnOK Tryd.prog 15 fn15 := .of (by kernel_rfl)
theorem ok16 : FnOK Tryd.prog 16 fn16 := .of (by kernel_rfl)
theorem ok17 : FnOK Tryd.prog 17 fn17 := .of (by kernel_rfl)
theorem ok18 : FnOK Tryd.prog 18 fn18 := .of (by kernel_rfl)
theorem ok19 : FnOK Tryd.prog 19 fn19 := .of (by kernel_rfl)
theorem ok20 : FnOK Tryd.prog 20 fn20 := .of (by kernel_rfl)
theorem ok21 : FnOK Tryd.prog 21 fn21 := .of (by kernel_rfl)
theorem ok22 : FnOK Tryd.prog 22 fn22 := .of (by kernel_rfl)
theorem ok23 : FnOK Tryd.prog 23 fn23 := .of (by kernel_rfl)
theorem ok24 : FnOK Tryd.prog 24 fn24 := .of (by kernel_rfl)
theorem ok25 : FnOK Tryd.prog 25 fn25 := .of (by kernel_rfl)
theorem ok26 : FnOK Tryd.prog 26 fn26 := .of (by kernel_rfl)
theorem ok27 : FnOK Tryd.prog 27 fn27 := .of (by kernel_rfl)
theorem ok28 : FnOK Tryd.prog 28 fn28 := .of (by kernel_rfl)
theorem ok29 : FnOK Tryd.prog 29 fn29 := .of (by kernel_rfl)
theorem ok30 : FnOK Tryd.prog 30 fn30 := .of (by kernel_rfl)
theorem ok31 : FnOK Tryd.prog 31 fn31 := .of (by kernel_rfl)
theorem ok32 : FnOK Tryd.prog 32 fn32 := .of (by kernel_rfl)
theorem ok33 : FnOK Tryd.prog 33 fn33 := .of (by kernel_rfl)
theorem ok34 : FnOK Tryd.prog 34 fn34 := .of (by kernel_rfl)
theorem ok35 : FnOK Tryd.prog 35 fn35 := .of (by kernel_rfl)
theorem ok36 : FnOK Tryd.prog 36 fn36 := .of (by kernel_rfl)
theorem ok37 : FnOK Tryd.prog 37 fn37 := .of (by kernel_rfl)
theorem ok38 : FnOK Tryd.prog 38 fn38 := .of (by kernel_rfl)
theorem ok39 : FnOK Tryd.prog 39 fn39 := .of (by kernel_rfl)
theorem ok40 : FnOK Tryd.prog 40 fn40 := .of (by kernel_rfl)
theorem ok41 : FnOK Tryd.prog 41 fn41 := .of (by kernel_rfl)
theorem ok42 : FnOK Tryd.prog 42 fn42 := .of (by kernel_rfl)
theorem ok43 : FnOK Tryd.prog 43 fn43 := .of (by kernel_rfl)
theorem ok44 : FnOK Tryd.prog 44 fn44 := .of (by kernel_rfl)
theorem ok45 : FnOK Tryd.prog 45 fn45 := .of (by kernel_rfl)
theorem ok46 : FnOK Tryd.prog 46 fn46 := .of (by kernel_rfl)
theorem ok47 : FnOK Tryd.prog 47 fn47 := .of (by kernel_rfl)
theorem ok49 : FnOK Tryd.prog 49 fn49 := .of (by kernel_rfl)
theorem ok50 : FnOK Tryd.prog 50 fn50 := .of (by kernel_rfl)
theorem ok51 : FnOK Tryd.prog 51 fn51 := .of (by kernel_rfl)
theorem ok52 : FnOK Tryd.prog 52 fn52 := .of (by kernel_rfl)
theorem ok53 : FnOK Tryd.prog 53 fn53 := .of (by kernel_rfl)
theorem ok54 : FnOK Tryd.prog 54 fn54 := .of (by kernel_rfl)
theorem ok55 : FnOK Tryd.prog 55 fn55 := .of (by kernel_rfl)
theorem ok56 : FnOK Tryd.prog 56 fn56 := .of (by kernel_rfl)
theorem ok57 : FnOK Tryd.prog 57 fn57 := .of (by kernel_rfl)
theorem ok58 : FnOK Tryd.prog 58 fn58 := .of (by kernel_rfl)
theorem ok59 : FnOK Tryd.prog 59 fn59 := .of (by kernel_rfl)
theorem ok60 : FnOK Tryd.prog 60 fn60 := .of (by kernel_rfl)
theorem ok61 : FnOK Tryd.prog 61 fn61 := .of (by kernel_rfl)
theorem ok62 : FnOK Tryd.prog 62 fn62 := .of (by kernel_rfl)
theorem ok63 : FnOK Tryd.prog 63 fn63 := .of (by kernel_rfl)
theorem ok64 : FnOK Tryd.prog 64 fn64 := .of (by kernel_rfl)
theorem ok65 : FnOK Tryd.prog 65 fn65 := .of (by kernel_rfl)
theorem ok66 : FnOK Tryd.prog 66 fn66 := .of (by kernel_rfl)
theorem ok67 : FnOK Tryd.prog 67 fn67 := .of (by kernel_rfl)
theorem ok68 : FnOK Tryd.prog 68 fn68 := .of (by kernel_rfl)
theorem ok69 : FnOK Tryd.prog 69 fn69 := .of (by kernel_rfl)
theorem ok70 : FnOK Tryd.prog 70 fn70 := .of (by kernel_rfl)
theorem ok71 : FnOK Tryd.prog 71 fn71 := .of (by kernel_rfl)
theorem ok72 : FnOK Tryd.prog 72 fn72 := .of (by kernel_rfl)
theorem ok73 : FnOK Tryd.prog 73 fn73 := .of (by kernel_rfl)
theorem ok74 : FnOK Tryd.prog 74 fn74 := .of (by kernel_rfl)
theorem ok75 : FnOK Tryd.prog 75 fn75 := .of (by kernel_rfl)
theorem ok76 : FnOK Tryd.prog 76 fn76 := .of (by kernel_rfl)
theorem ok77 : FnOK Tryd.prog 77 fn77 := .of (by kernel_rfl)
theorem ok78 : FnOK Tryd.prog 78 fn78 := .of (by kernel_rfl)
theorem ok79 : FnOK Tryd.prog 79 fn79 := .of (by kernel_rfl)
theorem ok80 : FnOK Tryd.prog 80 fn80 := .of (by kernel_rfl)
theorem ok81 : FnOK Tryd.prog 81 fn81 := .of (by kernel_rfl)
theorem ok82 : FnOK Tryd.prog 82 fn82 := .of (by kernel_rfl)
theorem gk48 : GrdOK Tryd.prog 48 fn48 grd48 := .of 3 (by kernel_rfl) (by kernel_rfl)
theorem allFn : AllFn Tryd.prog E.grd 0 fnTab := ⟨⟨fun _ => ok3, fun gd h => no_some (show (none : Option Grd) = some gd from h)⟩, ⟨fun _ => ok4, fun gd h => no_some (show (none : Option Grd) = some gd from h)⟩, ⟨fun _ => ok5, fun gd h => no_some (show (none : Option Grd) = some gd from h)⟩, ⟨fun _ => ok6, fun gd h => no_some (show (none : Option Grd) = some gd from h)⟩, ⟨fun _ => ok7, fun gd h => no_some (show (none : Option Grd) = some gd from h)⟩, ⟨fun _ => ok8, fun gd h => no_some (show (none : Option Grd) = some gd from h)⟩, ⟨fun _ => ok9, fun gd h => no_some (show (none : Option Grd) = some gd from h)⟩, ⟨fun _ => ok10, fun gd h => no_some (show (none : Option Grd) = some gd from h)⟩, ⟨fun _ => ok11, fun gd h => no_some (show (none : Option Grd) = some gd from h)⟩, ⟨fun _ => ok12, fun gd h => no_some (show (none : Option Grd) = some gd from h)⟩, ⟨fun _ => ok13, fun gd h => no_some (show (none : Option Grd) = some gd from h)⟩, ⟨fun _ => ok14, fun gd h => no_some (show (none : Option Grd) = some gd from h)⟩, ⟨fun _ => ok15, fun gd h => no_some (show (none : Option Grd) = some gd from h)⟩, ⟨fun _ => ok16, fun gd h => no_some (show (none : Option Grd) = some gd from h)⟩, ⟨fun _ => ok17, fun gd h => no_some (show (none : Option Grd) = some gd from h)⟩, ⟨fun _ => ok18, fun gd h => no_some (show (none : Option Grd) = some gd from h)⟩, ⟨fun _ => ok19, fun gd h => no_some (show (none : Option Grd) = some gd from h)⟩, ⟨fun _ => ok20, fun gd h => no_some (show (none : Option Grd) = some gd from h)⟩, ⟨fun _ => ok21, fun gd h => no_some (show (none : Option Grd) = some gd from h)⟩, ⟨fun _ => ok22, fun gd h => no_some (show (none : Option Grd) = some gd from h)⟩, ⟨fun _ => ok23, fun gd h => no_some (show (none : Option Grd) = some gd from h)⟩, ⟨fun _ => ok24, fun gd h => no_some (show (none : Option Grd) = some gd from h)⟩, ⟨fun _ => ok25, fun gd h => no_some (show (none : Option Grd) = some gd from h)⟩, ⟨fun _ => ok26, fun gd h => no_some (show (none : Option Grd) = some gd from h)⟩, ⟨fun _ => ok27, fun gd h => no_some (show (none : Option Grd) = some gd from h)⟩, ⟨fun _ => ok28, fun gd h => no_some (show (none : Option Grd) = some gd from h)⟩, ⟨fun _ => ok29, fun gd h => no_some (show (none : Option Grd) = some gd from h)⟩, ⟨fun _ => ok30, fun gd h => no_some (show (none : Option Grd) = some gd from h)⟩, ⟨fun _ => ok31, fun gd h => no_some (show (none : Option Grd) = some gd from h)⟩, ⟨fun _ => ok32, fun gd h => no_some (show (none : Option Grd) = some gd from h)⟩, ⟨fun _ => ok33, fun gd h => no_some (show (none : Option Grd) = some gd from h)⟩, ⟨fun _ => ok34, fun gd h => no_some (show (none : Option Grd) = some gd from h)⟩, ⟨fun _ => ok35, fun gd h => no_some (show (none : Option Grd) = some gd from h)⟩, ⟨fun _ => ok36, fun gd h => no_some (show (none : Option Grd) = some gd from h)⟩, ⟨fun _ => ok37, fun gd h => no_some (show (none : Option Grd) = some gd from h)⟩, ⟨fun _ => ok38, fun gd h => no_some (show (none : Option Grd) = some gd from h)⟩, ⟨fun _ => ok39, fun gd h => no_some (show (none : Option Grd) = some gd from h)⟩, ⟨fun _ => ok40, fun gd h => no_some (show (none : Option Grd) = some gd from h)⟩, ⟨fun _ => ok41, fun gd h => no_some (show (none : Option Grd) = some gd from h)⟩, ⟨fun _ => ok42, fun gd h => no_some (show (none : Option Grd) = some gd from h)⟩, ⟨fun _ => ok43, fun gd h => no_some (show (none : Option Grd) = some gd from h)⟩, ⟨fun _ => ok44, fun gd h => no_some (show (none : Option Grd) = some gd from h)⟩, ⟨fun _ => ok45, fun gd h => no_some (show (none : Option Grd) = some gd from h)⟩, ⟨fun _ => ok46, fun gd h => no_some (show (none : Option Grd) = some gd from h)⟩, ⟨fun _ => ok47, fun gd h => no_some (show (none : Option Grd) = some gd from h)⟩, ⟨fun h => no_none (show some grd48 = none from h), fun gd h => (Option.some.inj (show some grd48 = some gd from h)) ▸ gk48⟩, ⟨fun _ => ok49, fun gd h => no_some (show (none : Option Grd) = some gd from h)⟩, ⟨fun _ => ok50, fun gd h => no_some (show (none : Option Grd) = some gd from h)⟩, ⟨fun _ => ok51, fun gd h => no_some (show (none : Option Grd) = some gd from h)⟩, ⟨fun _ => ok52, fun gd h => no_some (show (none : Option Grd) = some gd from h)⟩, ⟨fun _ => ok53, fun gd h => no_some (show (none : Option Grd) = some gd from h)⟩, ⟨fun _ => ok54, fun gd h => no_some (show (none : Option Grd) = some gd from h)⟩, ⟨fun _ => ok55, fun gd h => no_some (show (none : Option Grd) = some gd from h)⟩, ⟨fun _ => ok56, fun gd h => no_some (show (none : Option Grd) = some gd from h)⟩, ⟨fun _ => ok57, fun gd h => no_some (show (none : Option Grd) = some gd from h)⟩, ⟨fun _ => ok58, fun gd h => no_some (show (none : Option Grd) = some gd from h)⟩, ⟨fun _ => ok59, fun gd h => no_some (show (none : Option Grd) = some gd from h)⟩, ⟨fun _ => ok60, fun gd h => no_some (show (none : Option Grd) = some gd from h)⟩, ⟨fun _ => ok61, fun gd h => no_some (show (none : Option Grd) = some gd from h)⟩, ⟨fun _ => ok62, fun gd h => no_some (show (none : Option Grd) = some gd from h)⟩, ⟨fun _ => ok63, fun gd h => no_some (show (none : Option Grd) = some gd from h)⟩, ⟨fun _ => ok64, fun gd h => no_some (show (none : Option Grd) = some gd from h)⟩, ⟨fun _ => ok65, fun gd h => no_some (show (none : Option Grd) = some gd from h)⟩, ⟨fun _ => ok66, fun gd h => no_some (show (none : Option Grd) = some gd from h)⟩, ⟨fun _ => ok67, fun gd h => no_some (show (none : Option Grd) = some gd from h)⟩, ⟨fun _ => ok68, fun gd h => no_some (show (none : Option Grd) = some gd from h)⟩, ⟨fun _ => ok69, fun gd h => no_some (show (none : Option Grd) = some gd from h)⟩, ⟨fun _ => ok70, fun gd h => no_some (show (none : Option Grd) = some gd from h)⟩, ⟨fun _ => ok71, fun gd h => no_some (show (none : Option Grd) = some gd from h)⟩, ⟨fun _ => ok72, fun gd h => no_some (show (none : Option Grd) = some gd from h)⟩, ⟨fun _ => ok73, fun gd h => no_some (show (none : Option Grd) = some gd from h)⟩, ⟨fun _ => ok74, fun gd h => no_some (show (none : Option Grd) = some gd from h)⟩, ⟨fun _ => ok75, fun gd h => no_some (show (none : Option Grd) = some gd from h)⟩, ⟨fun _ => ok76, fun gd h => no_some (show (none : Option Grd) = some gd from h)⟩, ⟨fun _ => ok77, fun gd h => no_some (show (none : Option Grd) = some gd from h)⟩, ⟨fun _ => ok78, fun gd h => no_some (show (none : Option Grd) = some gd from h)⟩, ⟨fun _ => ok79, fun gd h => no_some (show (none : Option Grd) = some gd from h)⟩, ⟨fun _ => ok80, fun gd h => no_some (show (none : Option Grd) = some gd from h)⟩, ⟨fun _ => ok81, fun gd h => no_some (show (none : Option Grd) = some gd from h)⟩, ⟨fun _ => ok82, fun gd h => no_some (show (none : Option Grd) = some gd from h)⟩, trivial⟩
theorem tySums_ok : tySums Tryd.prog 0 tyTab = tyTold tyTab := by kernel_rfl
theorem tyFit_ok : tyFit tyTab = true := by kernel_rfl
theorem cmpOK : ∀ t ∈ cmps 0 tyTab, CmpOK Tryd.prog t.1 t.2 := by
  have e : cmps 0 tyTab = [(25, [.int .i64 0, .int .i64 0]), (29, [.int .u8 0, .bool false, .int .u32 0])] := by kernel_rfl
  rw [e]
  intro t ht
  simp only [List.mem_cons, List.not_mem_nil, or_false] at ht
  rcases ht with rfl | rfl
  exact CmpOK.of (l := [false, false]) 20 (by decide) (by kernel_rfl) (by kernel_rfl) (by kernel_rfl) (by kernel_rfl)
  exact CmpOK.of (l := [false, true, false]) 20 (by decide) (by kernel_rfl) (by kernel_rfl) (by kernel_rfl) (by kernel_rfl)
theorem mixed : Tryd.prog.follows .mixedOrders = true := by kernel_rfl
theorem extOK : ∀ f, E.ext f = true → ExtOK Tryd.prog f := by
  intro f h
  cases h
theorem fnsOK : FnsOK Tryd.prog E := .of rfl allFn (fun f p h => by cases h)
theorem env : EnvOK Tryd.prog E := .of rfl tySums_ok tyFit_ok cmpOK extOK
end TabC
