/- The tables of this translation for the evaluator: written by gen2.py. No conditions. -/
import Derived.Test.YtbiildmljbcmeaaTabEa
import Derived.Test.YtbiildmljbcmeaaTg
set_option linter.unusedVariables false
set_option maxRecDepth 100000
namespace TabE
open Go Ab
@[simp] theorem opn_55 : fn55.opn = fun _ => none := id rfl
@[simp] theorem keep_55_0 : fn55.keep 0 = some [0] := rfl
@[simp] theorem keep_55_1 : fn55.keep 1 = some [0] := rfl
@[simp] theorem ntmps_56 : fn56.ntmps = 50 := rfl
@[simp] theorem results_56 : fn56.results = [.cell 8 71] := rfl
theorem body_56 : fn56.body = c56 := rfl
@[simp] theorem dyn_56 : fn56.dyn = fun _ => [] := id rfl
@[simp] theorem opn_56 : fn56.opn = fun _ => none := id rfl
@[simp] theorem keep_56_0 : fn56.keep 0 = some [2, 3, 4, 5, 8] := rfl
@[simp] theorem keep_56_1 : fn56.keep 1 = some [2, 3, 4, 5, 8, 9] := rfl
@[simp] theorem keep_56_2 : fn56.keep 2 = some [2, 3, 4, 5, 8, 9, 13] := rfl
@[simp] theorem keep_56_3 : fn56.keep 3 = some [8] := rfl
@[simp] theorem keep_56_4 : fn56.keep 4 = some [2, 3, 8, 9, 22] := rfl
@[simp] theorem keep_56_5 : fn56.keep 5 = some [8] := rfl
@[simp] theorem keep_56_6 : fn56.keep 6 = some [2, 3, 8, 9, 28] := rfl
@[simp] theorem keep_56_7 : fn56.keep 7 = some [8] := rfl
@[simp] theorem keep_56_8 : fn56.keep 8 = some [3, 8, 9, 37] := rfl
@[simp] theorem keep_56_9 : fn56.keep 9 = some [8] := rfl
@[simp] theorem keep_56_10 : fn56.keep 10 = some [3, 8, 42] := rfl
@[simp] theorem keep_56_11 : fn56.keep 11 = some [8] := rfl
@[simp] theorem keep_56_12 : fn56.keep 12 = some [8] := rfl
@[simp] theorem ntmps_63 : fn63.ntmps = 49 := rfl
@[simp] theorem results_63 : fn63.results = [.tmp 4, .tmp 5] := rfl
theorem body_63 : fn63.body = c63 := rfl
@[simp] theorem dyn_63 : fn63.dyn = fun _ => [] := id rfl
@[simp] theorem opn_63 : fn63.opn = fun _ => none := id rfl
@[simp] theorem keep_63_0 : fn63.keep 0 = some [1, 2] := rfl
@[simp] theorem keep_63_1 : fn63.keep 1 = some [1, 2, 7] := rfl
@[simp] theorem keep_63_2 : fn63.keep 2 = some [1, 2, 7, 19] := rfl
@[simp] theorem keep_63_3 : fn63.keep 3 = some [4, 5] := rfl
@[simp] theorem keep_63_4 : fn63.keep 4 = some [1, 2, 8] := rfl
@[simp] theorem keep_63_5 : fn63.keep 5 = some [2, 8, 21, 22, 23] := rfl
@[simp] theorem keep_63_6 : fn63.keep 6 = some [2, 8, 21, 22, 23, 24] := rfl
@[simp] theorem keep_63_7 : fn63.keep 7 = some [2, 8, 10, 21, 22, 23] := rfl
@[simp] theorem keep_63_8 : fn63.keep 8 = some [2, 8, 10, 11, 12, 21, 22, 23] := rfl
@[simp] theorem keep_63_9 : fn63.keep 9 = some [2, 8, 10, 11, 21, 22, 23, 34] := rfl
@[simp] theorem keep_63_10 : fn63.keep 10 = some [4, 5] := rfl
@[simp] theorem keep_63_11 : fn63.keep 11 = some [2, 8, 11, 21, 22, 23] := rfl
@[simp] theorem keep_63_12 : fn63.keep 12 = some [2, 8, 21, 22, 23] := rfl
@[simp] theorem keep_63_13 : fn63.keep 13 = some [2, 8, 21, 22, 23] := rfl
@[simp] theorem keep_63_14 : fn63.keep 14 = some [4, 5] := rfl
@[simp] theorem head_63_6 : fn63.head 6 = some [2, 8, 21, 22, 23] := rfl
@[simp] theorem ntmps_67 : fn67.ntmps = 17 := rfl
@[simp] theorem results_67 : fn67.results = [.cell 4 71] := rfl
theorem body_67 : fn67.body = c67 := rfl
@[simp] theorem dyn_67 : fn67.dyn = fun _ => [] := id rfl
@[simp] theorem opn_67 : fn67.opn = fun _ => none := id rfl
@[simp] theorem keep_67_0 : fn67.keep 0 = some [0, 1, 4] := rfl
@[simp] theorem keep_67_1 : fn67.keep 1 = some [1, 4, 5] := rfl
@[simp] theorem keep_67_2 : fn67.keep 2 = some [1, 4, 5, 9] := rfl
@[simp] theorem keep_67_3 : fn67.keep 3 = some [4, 5] := rfl
@[simp] theorem keep_67_4 : fn67.keep 4 = some [4] := rfl
@[simp] theorem ntmps_69 : fn69.ntmps = 14 := rfl
@[simp] theorem results_69 : fn69.results = [.tmp 2] := rfl
theorem body_69 : fn69.body = c69 := rfl
@[simp] theorem dyn_69 : fn69.dyn = fun _ => [] := id rfl
@[simp] theorem opn_69 : fn69.opn = fun _ => none := id rfl
@[simp] theorem keep_69_0 : fn69.keep 0 = some [1] := rfl
@[simp] theorem keep_69_1 : fn69.keep 1 = some [1, 3] := rfl
@[simp] theorem keep_69_2 : fn69.keep 2 = some [1, 3, 7] := rfl
@[simp] theorem keep_69_3 : fn69.keep 3 = some [2] := rfl
@[simp] theorem keep_69_4 : fn69.keep 4 = some [2] := rfl
@[simp] theorem ntmps_70 : fn70.ntmps = 44 := rfl
@[simp] theorem results_70 : fn70.results = [.tmp 4] := rfl
theorem body_70 : fn70.body = c70 := rfl
@[simp] theorem dyn_70 : fn70.dyn = fun _ => [] := id rfl
@[simp] theorem opn_70 : fn70.opn = opnT := id rfl
@[simp] theorem keep_70_0 : fn70.keep 0 = some [0, 3] := rfl
@[simp] theorem keep_70_1 : fn70.keep 1 = some [0, 3, 5] := rfl
@[simp] theorem keep_70_2 : fn70.keep 2 = some [0, 3, 5, 7] := rfl
@[simp] theorem keep_70_3 : fn70.keep 3 = some [0, 3] := rfl
@[simp] theorem keep_70_4 : fn70.keep 4 = some [0, 3] := rfl
@[simp] theorem keep_70_5 : fn70.keep 5 = some [0, 33, 34, 35] := rfl
@[simp] theorem keep_70_6 : fn70.keep 6 = some [0, 33, 34, 35, 36] := rfl
@[simp] theorem keep_70_7 : fn70.keep 7 = some [0, 10, 33, 34, 35] := rfl
@[simp] theorem keep_70_8 : fn70.keep 8 = some [0, 33, 34, 35] := rfl
@[simp] theorem keep_70_9 : fn70.keep 9 = some [0, 33, 34, 35] := rfl
@[simp] theorem keep_70_10 : fn70.keep 10 = some [4] := rfl
@[simp] theorem head_70_6 : fn70.head 6 = some [0, 33, 34, 35] := rfl
@[simp] theorem ntmps_71 : fn71.ntmps = 20 := rfl
@[simp] theorem results_71 : fn71.results = [.cell 2 27] := rfl
theorem body_71 : fn71.body = c71 := rfl
@[simp] theorem dyn_71 : fn71.dyn = fun _ => [] := id rfl
@[simp] theorem opn_71 : fn71.opn = fun _ => none := id rfl
@[simp] theorem keep_71_0 : fn71.keep 0 = some [1, 2] := rfl
@[simp] theorem keep_71_1 : fn71.keep 1 = some [2, 3] := rfl
@[simp] theorem keep_71_2 : fn71.keep 2 = some [2, 3, 17] := rfl
@[simp] theorem keep_71_3 : fn71.keep 3 = some [2, 3] := rfl
@[simp] theorem keep_71_4 : fn71.keep 4 = some [2] := rfl
@[simp] theorem ntmps_72 : fn72.ntmps = 23 := rfl
@[simp] theorem results_72 : fn72.results = [] := rfl
theorem body_72 : fn72.body = c72 := rfl
@[simp] theorem dyn_72_5 : fn72.dyn 5 = [(2, 5), (4, 5), (2, 6), (4, 6), (4, 7)] := id rfl

@[simp] theorem opn_72 : fn72.opn = fun _ => none := id rfl
@[simp] theorem keep_72_0 : fn72.keep 0 = some [0, 1, 2, 3, 4] := rfl
@[simp] theorem keep_72_1 : fn72.keep 1 = some [0, 1, 2, 3, 4, 9] := rfl
@[simp] theorem keep_72_2 : fn72.keep 2 = some [0, 1, 2, 3, 4, 5, 6] := rfl
@[simp] theorem keep_72_3 : fn72.keep 3 = some [0, 1, 2, 3, 4, 5, 16] := rfl
@[simp] theorem keep_72_4 : fn72.keep 4 = some [0, 1, 2, 3, 5] := rfl
@[simp] theorem keep_72_5 : fn72.keep 5 = some [] := rfl
@[simp] theorem ntmps_73 : fn73.ntmps = 151 := rfl
@[simp] theorem results_73 : fn73.results = [.cell 8 30, .tmp 9] := rfl
theorem body_73 : fn73.body = c73 := rfl
@[simp] theorem dyn_73 : fn73.dyn = fun _ => [] := id rfl
@[simp] theorem opn_73 : fn73.opn = opnT := id rfl
@[simp] theorem keep_73_0 : fn73.keep 0 = some [0, 1, 2, 3, 8] := rfl
@[simp] theorem keep_73_1 : fn73.keep 1 = some [0, 1, 2, 3, 8, 10, 11, 12] := rfl
@[simp] theorem keep_73_2 : fn73.keep 2 = some [0, 1, 2, 3, 8, 10, 11, 12, 28] := rfl
@[simp] theorem keep_73_3 : fn73.keep 3 = some [0, 1, 2, 3, 8, 10, 11] := rfl
@[simp] theorem keep_73_4 : fn73.keep 4 = some [0, 1, 2, 3, 8, 10, 11, 12, 35] := rfl
@[simp] theorem keep_73_5 : fn73.keep 5 = some [0, 1, 2, 3, 8, 10, 11] := rfl
@[simp] theorem keep_73_6 : fn73.keep 6 = some [0, 1, 2, 3, 8, 10, 11, 42] := rfl
@[simp] theorem keep_73_7 : fn73.keep 7 = some [0, 1, 2, 3, 8, 10, 11] := rfl
@[simp] theorem keep_73_8 : fn73.keep 8 = some [0, 1, 2, 3, 8, 10, 11, 48] := rfl
@[simp] theorem keep_73_9 : fn73.keep 9 = some [0, 1, 2, 3, 8, 10, 11] := rfl
@[simp] theorem keep_73_10 : fn73.keep 10 = some [0, 1, 2, 3, 8, 10, 11] := rfl
@[simp] theorem keep_73_11 : fn73.keep 11 = some [0, 1, 2, 3, 8, 10] := rfl
@[simp] theorem keep_73_12 : fn73.keep 12 = some [0, 1, 2, 3, 8, 10, 11, 12, 13] := rfl
@[simp] theorem keep_73_13 : fn73.keep 13 = some [0, 1, 2, 3, 8, 10, 11, 12, 13, 79] := rfl
@[simp] theorem keep_73_14 : fn73.keep 14 = some [0, 1, 3, 8, 10, 11, 13] := rfl
@[simp] theorem keep_73_15 : fn73.keep 15 = some [0, 1, 2, 3, 8, 10, 11, 12, 13, 86] := rfl
@[simp] theorem keep_73_16 : fn73.keep 16 = some [0, 1, 3, 8, 10, 11, 13] := rfl
@[simp] theorem keep_73_17 : fn73.keep 17 = some [0, 1, 2, 3, 8, 10, 11, 13, 93] := rfl
@[simp] theorem keep_73_18 : fn73.keep 18 = some [0, 1, 3, 8, 10, 11, 13] := rfl
@[simp] theorem keep_73_19 : fn73.keep 19 = some [0, 1, 3, 8, 10, 13] := rfl
@[simp] theorem keep_73_20 : fn73.keep 20 = some [0, 1, 2, 3, 8, 10] := rfl
@[simp] theorem keep_73_21 : fn73.keep 21 = some [0, 1, 2, 3, 8, 10, 14] := rfl
@[simp] theorem keep_73_22 : fn73.keep 22 = some [0, 1, 2, 3, 8, 14, 114] := rfl
@[simp] theorem keep_73_23 : fn73.keep 23 = some [2, 8, 14] := rfl
@[simp] theorem keep_73_24 : fn73.keep 24 = some [8, 9] := rfl
@[simp] theorem keep_73_25 : fn73.keep 25 = some [0, 1, 2, 3, 8, 14, 129] := rfl
@[simp] theorem keep_73_26 : fn73.keep 26 = some [0, 1, 2, 3, 8, 14, 15] := rfl
@[simp] theorem keep_73_27 : fn73.keep 27 = some [0, 1, 2, 3, 8, 14, 15] := rfl
@[simp] theorem keep_73_28 : fn73.keep 28 = some [0, 1, 2, 3, 8, 14] := rfl
@[simp] theorem keep_73_29 : fn73.keep 29 = some [2, 8, 14] := rfl
@[simp] theorem keep_73_30 : fn73.keep 30 = some [8, 9] := rfl
@[simp] theorem head_73_25 : fn73.head 25 = some [0, 1, 2, 3, 8, 14] := rfl
@[simp] theorem ntmps_74 : fn74.ntmps = 38 := rfl
@[simp] theorem results_74 : fn74.results = [.cell 2 30] := rfl
theorem body_74 : fn74.body = c74 := rfl
@[simp] theorem dyn_74 : fn74.dyn = fun _ => [] := id rfl
@[simp] theorem opn_74 : fn74.opn = fun _ => none := id rfl
@[simp] theorem keep_74_0 : fn74.keep 0 = some [1, 2] := rfl
@[simp] theorem keep_74_1 : fn74.keep 1 = some [1, 2, 3] := rfl
@[simp] theorem keep_74_2 : fn74.keep 2 = some [1, 2, 3, 16] := rfl
@[simp] theorem keep_74_3 : fn74.keep 3 = some [1, 2, 3] := rfl
@[simp] theorem keep_74_4 : fn74.keep 4 = some [2, 3, 23, 24, 25] := rfl
@[simp] theorem keep_74_5 : fn74.keep 5 = some [2, 3, 23, 24, 25, 26] := rfl
@[simp] theorem keep_74_6 : fn74.keep 6 = some [2, 3, 4, 5, 23, 24, 25] := rfl
@[simp] theorem keep_74_7 : fn74.keep 7 = some [2, 3, 23, 24, 25] := rfl
@[simp] theorem keep_74_8 : fn74.keep 8 = some [2, 3, 23, 24, 25] := rfl
@[simp] theorem keep_74_9 : fn74.keep 9 = some [2] := rfl
@[simp] theorem head_74_5 : fn74.head 5 = some [2, 3, 23, 24, 25] := rfl
@[simp] theorem ntmps_75 : fn75.ntmps = 13 := rfl
@[simp] theorem results_75 : fn75.results = [.tmp 2, .cell 3 3, .cell 4 3] := rfl
theorem body_75 : fn75.body = c75 := rfl
@[simp] theorem dyn_75_4 : fn75.dyn 4 = [(1, 3)] := id rfl

@[simp] theorem opn_75 : fn75.opn = opnT := id rfl
@[simp] theorem keep_75_0 : fn75.keep 0 = some [1, 3, 4] := rfl
@[simp] theorem keep_75_1 : fn75.keep 1 = some [2, 3, 4] := rfl
@[simp] theorem keep_75_2 : fn75.keep 2 = some [2, 3, 4, 9] := rfl
@[simp] theorem keep_75_3 : fn75.keep 3 = some [2, 3, 4] := rfl
@[simp] theorem keep_75_4 : fn75.keep 4 = some [2, 3, 4] := rfl
@[simp] theorem ntmps_76 : fn76.ntmps = 31 := rfl
@[simp] theorem results_76 : fn76.results = [.tmp 2] := rfl
theorem body_76 : fn76.body = c76 := rfl
@[simp] theorem dyn_76 : fn76.dyn = fun _ => [] := id rfl
@[simp] theorem opn_76 : fn76.opn = fun _ => none := id rfl
@[simp] theorem keep_76_0 : fn76.keep 0 = some [1] := rfl
@[simp] theorem keep_76_1 : fn76.keep 1 = some [1, 3] := rfl
@[simp] theorem keep_76_2 : fn76.keep 2 = some [1, 3, 9] := rfl
@[simp] theorem keep_76_3 : fn76.keep 3 = some [1, 3] := rfl
@[simp] theorem keep_76_4 : fn76.keep 4 = some [1, 3, 14] := rfl
@[simp] theorem keep_76_5 : fn76.keep 5 = some [2] := rfl
@[simp] theorem keep_76_6 : fn76.keep 6 = some [2] := rfl
@[simp] theorem ntmps_77 : fn77.ntmps = 26 := rfl
@[simp] theorem results_77 : fn77.results = [.tmp 2] := rfl
theorem body_77 : fn77.body = c77 := rfl
@[simp] theorem dyn_77 : fn77.dyn = fun _ => [] := id rfl
@[simp] theorem opn_77 : fn77.opn = fun _ => none := id rfl
@[simp] theorem keep_77_0 : fn77.keep 0 = some [0] := rfl
@[simp] theorem keep_77_1 : fn77.keep 1 = some [0, 5] := rfl
@[simp] theorem keep_77_2 : fn77.keep 2 = some [2] := rfl
@[simp] theorem keep_77_3 : fn77.keep 3 = some [0, 3] := rfl
@[simp] theorem keep_77_4 : fn77.keep 4 = some [0, 3, 10] := rfl
@[simp] theorem keep_77_5 : fn77.keep 5 = some [0, 3] := rfl
@[simp] theorem keep_77_6 : fn77.keep 6 = some [0, 3] := rfl
@[simp] theorem keep_77_7 : fn77.keep 7 = some [2] := rfl
@[simp] theorem head_77_4 : fn77.head 4 = some [0, 3] := rfl
@[simp] theorem ntmps_78 : fn78.ntmps = 24 := rfl
@[simp] theorem results_78 : fn78.results = [.tmp 4] := rfl
theorem body_78 : fn78.body = c78 := rfl
@[simp] theorem dyn_78 : fn78.dyn = fun _ => [] := id rfl
@[simp] theorem opn_78 : fn78.opn = opnT := id rfl
@[simp] theorem keep_78_0 : fn78.keep 0 = some [2, 3] := rfl
@[simp] theorem keep_78_1 : fn78.keep 1 = some [4] := rfl
@[simp] theorem ntmps_79 : fn79.ntmps = 8 := rfl
@[simp] theorem results_79 : fn79.results = [.tmp 4] := rfl
theorem body_79 : fn79.body = c79 := rfl
@[simp] theorem dyn_79 : fn79.dyn = fun _ => [] := id rfl
@[simp] theorem opn_79 : fn79.opn = fun _ => none := id rfl
@[simp] theorem keep_79_0 : fn79.keep 0 = some [0, 1] := rfl
@[simp] theorem keep_79_1 : fn79.keep 1 = some [4] := rfl
@[simp] theorem ntmps_80 : fn80.ntmps = 34 := rfl
@[simp] theorem results_80 : fn80.results = [.tmp 2] := rfl
theorem body_80 : fn80.body = c80 := rfl
@[simp] theorem dyn_80 : fn80.dyn = fun _ => [] := id rfl
@[simp] theorem opn_80 : fn80.opn = fun _ => none := id rfl
@[simp] theorem keep_80_0 : fn80.keep 0 = some [1] := rfl
@[simp] theorem keep_80_1 : fn80.keep 1 = some [1, 10] := rfl
@[simp] theorem keep_80_2 : fn80.keep 2 = some [2] := rfl
@[simp] theorem keep_80_3 : fn80.keep 3 = some [33] := rfl
@[simp] theorem keep_80_4 : fn80.keep 4 = some [2] := rfl
@[simp] theorem keep_80_5 : fn80.keep 5 = some [2] := rfl
@[simp] theorem ntmps_81 : fn81.ntmps = 87 := rfl
@[simp] theorem results_81 : fn81.results = [.tmp 6, .tmp 7] := rfl
theorem body_81 : fn81.body = c81 := rfl

@[simp] theorem opn_81 : fn81.opn = fun _ => none := id rfl
@[simp] theorem keep_81_0 : fn81.keep 0 = some [0, 1, 2] := rfl
@[simp] theorem keep_81_1 : fn81.keep 1 = some [0, 1, 2, 8] := rfl
@[simp] theorem keep_81_2 : fn81.keep 2 = some [0, 1, 2, 8, 18] := rfl
@[simp] theorem keep_81_3 : fn81.keep 3 = some [0, 1, 2, 8, 9] := rfl
@[simp] theorem keep_81_4 : fn81.keep 4 = some [0, 1, 2, 8, 9] := rfl
@[simp] theorem keep_81_5 : fn81.keep 5 = some [0, 1, 2, 8, 9, 27] := rfl
@[simp] theorem keep_81_6 : fn81.keep 6 = some [6, 7] := rfl
@[simp] theorem keep_81_7 : fn81.keep 7 = some [0, 1, 2, 8, 9, 10] := rfl
@[simp] theorem keep_81_8 : fn81.keep 8 = some [0, 1, 2, 8, 9, 10, 35] := rfl
@[simp] theorem keep_81_9 : fn81.keep 9 = some [0, 1, 2, 8, 10, 37] := rfl
@[simp] theorem keep_81_10 : fn81.keep 10 = some [0, 1, 2, 8, 10] := rfl
@[simp] theorem keep_81_11 : fn81.keep 11 = some [0, 1, 2, 8, 9, 10, 56] := rfl
@[simp] theorem keep_81_12 : fn81.keep 12 = some [0, 1, 2, 8, 10] := rfl
@[simp] theorem keep_81_13 : fn81.keep 13 = some [0, 1, 2, 8, 9, 10, 68] := rfl
@[simp] theorem keep_81_14 : fn81.keep 14 = some [0, 1, 2, 8, 10] := rfl
@[simp] theorem keep_81_15 : fn81.keep 15 = some [0, 1, 2, 8, 10] := rfl
@[simp] theorem keep_81_16 : fn81.keep 16 = some [0, 1, 2, 8] := rfl
@[simp] theorem keep_81_17 : fn81.keep 17 = some [6, 7] := rfl
@[simp] theorem head_81_2 : fn81.head 2 = some [0, 1, 2, 8] := rfl
@[simp] theorem ntmps_82 : fn82.ntmps = 9 := rfl
@[simp] theorem results_82 : fn82.results = [.cell 4 71] := rfl
theorem body_82 : fn82.body = c82 := rfl
@[simp] theorem dyn_82 : fn82.dyn = fun _ => [] := id rfl
@[simp] theorem opn_82 : fn82.opn = fun _ => none := id rfl
@[simp] theorem keep_82_0 : fn82.keep 0 = some [0, 1, 4] := rfl
@[simp] theorem keep_82_1 : fn82.keep 1 = some [4] := rfl
@[simp] theorem ntmps_83 : fn83.ntmps = 14 := rfl
@[simp] theorem results_83 : fn83.results = [.tmp 4] := rfl
theorem body_83 : fn83.body = c83 := rfl
@[simp] theorem dyn_83 : fn83.dyn = fun _ => [] := id rfl
@[simp] theorem opn_83 : fn83.opn = fun _ => none := id rfl
@[simp] theorem keep_83_0 : fn83.keep 0 = some [2, 3] := rfl
@[simp] theorem keep_83_1 : fn83.keep 1 = some [4] := rfl
@[simp] theorem ntmps_84 : fn84.ntmps = 88 := rfl
@[simp] theorem results_84 : fn84.results = [.tmp 2] := rfl
theorem body_84 : fn84.body = c84 := rfl
@[simp] theorem dyn_84 : fn84.dyn = fun _ => [] := id rfl
@[simp] theorem opn_84 : fn84.opn = fun _ => none := id rfl
@[simp] theorem keep_84_0 : fn84.keep 0 = some [1] := rfl
@[simp] theorem keep_84_1 : fn84.keep 1 = some [1, 3] := rfl
@[simp] theorem keep_84_2 : fn84.keep 2 = some [1, 3, 4] := rfl
@[simp] theorem keep_84_3 : fn84.keep 3 = some [1, 3, 4, 17] := rfl
@[simp] theorem keep_84_4 : fn84.keep 4 = some [1, 3, 4] := rfl
@[simp] theorem keep_84_5 : fn84.keep 5 = some [1, 3, 4] := rfl
@[simp] theorem keep_84_6 : fn84.keep 6 = some [1, 3, 5] := rfl
@[simp] theorem keep_84_7 : fn84.keep 7 = some [1, 3, 5, 34] := rfl
@[simp] theorem keep_84_8 : fn84.keep 8 = some [1, 3, 5] := rfl
@[simp] theorem keep_84_9 : fn84.keep 9 = some [1, 3, 6] := rfl
@[simp] theorem keep_84_10 : fn84.keep 10 = some [1, 3, 6, 48] := rfl
@[simp] theorem keep_84_11 : fn84.keep 11 = some [3, 6] := rfl
@[simp] theorem keep_84_12 : fn84.keep 12 = some [3, 6, 7] := rfl
@[simp] theorem keep_84_13 : fn84.keep 13 = some [3, 6, 7, 58] := rfl
@[simp] theorem keep_84_14 : fn84.keep 14 = some [3, 6] := rfl
@[simp] theorem keep_84_15 : fn84.keep 15 = some [3, 6, 7, 8] := rfl
@[simp] theorem keep_84_16 : fn84.keep 16 = some [3, 6, 8, 9] := rfl
@[simp] theorem keep_84_17 : fn84.keep 17 = some [3, 6, 8, 9, 66] := rfl
@[simp] theorem keep_84_18 : fn84.keep 18 = some [3, 6, 8, 9] := rfl
@[simp] theorem keep_84_19 : fn84.keep 19 = some [3, 6, 8, 9] := rfl
@[simp] theorem keep_84_20 : fn84.keep 20 = some [3, 6, 8] := rfl
@[simp] theorem keep_84_21 : fn84.keep 21 = some [3, 6] := rfl
@[simp] theorem keep_84_22 : fn84.keep 22 = some [2] := rfl
@[simp] theorem head_84_3 : fn84.head 3 = some [1, 3, 4] := rfl
@[simp] theorem head_84_17 : fn84.head 17 = some [3, 6, 8, 9] := rfl
@[simp] theorem ntmps_85 : fn85.ntmps = 21 := rfl
@[simp] theorem results_85 : fn85.results = [.cell 4 30, .tmp 5] := rfl
theorem body_85 : fn85.body = c85 := rfl
@[simp] theorem dyn_85 : fn85.dyn = fun _ => [] := id rfl
@[simp] theorem opn_85 : fn85.opn = fun _ => none := id rfl
@[simp] theorem keep_85_0 : fn85.keep 0 = some [1, 2, 4] := rfl
@[simp] theorem keep_85_1 : fn85.keep 1 = some [1, 2, 4, 14] := rfl
@[simp] theorem keep_85_2 : fn85.keep 2 = some [4, 5] := rfl
@[simp] theorem keep_85_3 : fn85.keep 3 = some [4, 5] := rfl
@[simp] theorem ntmps_87 : fn87.ntmps = 24 := rfl
@[simp] theorem results_87 : fn87.results = [.tmp 2] := rfl
theorem body_87 : fn87.body = c87 := rfl
@[simp] theorem dyn_87 : fn87.dyn = fun _ => [] := id rfl
@[simp] theorem opn_87 : fn87.opn = fun _ => none := id rfl
@[simp] theorem keep_87_0 : fn87.keep 0 = some [0, 2] := rfl
@[simp] theorem keep_87_1 : fn87.keep 1 = some [2, 7, 8, 9] := rfl
@[simp] theorem keep_87_2 : fn87.keep 2 = some [2, 7, 8, 9, 10] := rfl
@[simp] theorem keep_87_3 : fn87.keep 3 = some [2, 4, 7, 8, 9] := rfl
@[simp] theorem keep_87_4 : fn87.keep 4 = some [2, 5, 7, 8, 9] := rfl
@[simp] theorem keep_87_5 : fn87.keep 5 = some [2, 7, 8, 9] := rfl
@[simp] theorem keep_87_6 : fn87.keep 6 = some [2, 7, 8, 9] := rfl
@[simp] theorem keep_87_7 : fn87.keep 7 = some [2] := rfl
@[simp] theorem head_87_2 : fn87.head 2 = some [2, 7, 8, 9] := rfl
@[simp] theorem ntmps_89 : fn89.ntmps = 59 := rfl
@[simp] theorem results_89 : fn89.results = [.tmp 2, .tmp 3, .tmp 4] := rfl
theorem body_89 : fn89.body = c89 := rfl
@[simp] theorem dyn_89 : fn89.dyn = fun _ => [] := id rfl
@[simp] theorem opn_89 : fn89.opn = fun _ => none := id rfl
@[simp] theorem keep_89_0 : fn89.keep 0 = some [0] := rfl
@[simp] theorem keep_89_1 : fn89.keep 1 = some [0, 10] := rfl
@[simp] theorem keep_89_2 : fn89.keep 2 = some [2, 3, 4] := rfl
@[simp] theorem keep_89_3 : fn89.keep 3 = some [0, 14] := rfl
@[simp] theorem keep_89_4 : fn89.keep 4 = some [2, 3, 4] := rfl
@[simp] theorem keep_89_5 : fn89.keep 5 = some [0, 5] := rfl
@[simp] theorem keep_89_6 : fn89.keep 6 = some [0, 5, 29] := rfl
@[simp] theorem keep_89_7 : fn89.keep 7 = some [2, 3, 4] := rfl
@[simp] theorem keep_89_8 : fn89.keep 8 = some [0, 5, 34] := rfl
@[simp] theorem keep_89_9 : fn89.keep 9 = some [2, 3, 4] := rfl
@[simp] theorem keep_89_10 : fn89.keep 10 = some [0, 5, 6] := rfl
@[simp] theorem keep_89_11 : fn89.keep 11 = some [0, 5, 6, 7] := rfl
@[simp] theorem keep_89_12 : fn89.keep 12 = some [0, 5, 6, 7, 37] := rfl
@[simp] theorem keep_89_13 : fn89.keep 13 = some [0, 5, 6, 7] := rfl
@[simp] theorem keep_89_14 : fn89.keep 14 = some [0, 5, 6, 7] := rfl
@[simp] theorem keep_89_15 : fn89.keep 15 = some [5, 6, 55] := rfl
@[simp] theorem keep_89_16 : fn89.keep 16 = some [2, 3, 4] := rfl
@[simp] theorem keep_89_17 : fn89.keep 17 = some [2, 3, 4] := rfl
@[simp] theorem head_89_12 : fn89.head 12 = some [0, 5, 6, 7] := rfl
@[simp] theorem ntmps_90 : fn90.ntmps = 27 := rfl
@[simp] theorem results_90 : fn90.results = [.tmp 2] := rfl
theorem body_90 : fn90.body = c90 := rfl
@[simp] theorem dyn_90 : fn90.dyn = fun _ => [] := id rfl
@[simp] theorem opn_90 : fn90.opn = fun _ => none := id rfl
@[simp] theorem keep_90_0 : fn90.keep 0 = some [1] := rfl
@[simp] theorem keep_90_1 : fn90.keep 1 = some [1, 9] := rfl
@[simp] theorem keep_90_2 : fn90.keep 2 = some [2] := rfl
@[simp] theorem keep_90_3 : fn90.keep 3 = some [1, 3] := rfl
@[simp] theorem keep_90_4 : fn90.keep 4 = some [3, 14, 15, 16] := rfl
@[simp] theorem keep_90_5 : fn90.keep 5 = some [3, 14, 15, 16, 17] := rfl
@[simp] theorem keep_90_6 : fn90.keep 6 = some [3, 5, 14, 15, 16] := rfl
@[simp] theorem keep_90_7 : fn90.keep 7 = some [3, 14, 15, 16] := rfl
@[simp] theorem keep_90_8 : fn90.keep 8 = some [3, 14, 15, 16] := rfl
@[simp] theorem keep_90_9 : fn90.keep 9 = some [2] := rfl
@[simp] theorem head_90_5 : fn90.head 5 = some [3, 14, 15, 16] := rfl
@[simp] theorem ntmps_91 : fn91.ntmps = 22 := rfl
@[simp] theorem results_91 : fn91.results = [.tmp 4] := rfl
theorem body_91 : fn91.body = c91 := rfl
@[simp] theorem dyn_91 : fn91.dyn = fun _ => [] := id rfl
@[simp] theorem opn_91 : fn91.opn = fun _ => none := id rfl
@[simp] theorem keep_91_0 : fn91.keep 0 = some [0, 1] := rfl
@[simp] theorem keep_91_1 : fn91.keep 1 = some [0, 1, 15] := rfl
@[simp] theorem keep_91_2 : fn91.keep 2 = some [4] := rfl
@[simp] theorem keep_91_3 : fn91.keep 3 = some [4] := rfl
@[simp] theorem ntmps_92 : fn92.ntmps = 12 := rfl
@[simp] theorem results_92 : fn92.results = [.tmp 2] := rfl
theorem body_92 : fn92.body = c92 := rfl
@[simp] theorem dyn_92 : fn92.dyn = fun _ => [] := id rfl
@[simp] theorem opn_92 : fn92.opn = fun _ => none := id rfl
@[simp] theorem keep_92_0 : fn92.keep 0 = some [1] := rfl
@[simp] theorem keep_92_1 : fn92.keep 1 = some [3] := rfl
@[simp] theorem keep_92_2 : fn92.keep 2 = some [2] := rfl
@[simp] theorem ntmps_93 : fn93.ntmps = 42 := rfl
@[simp] theorem results_93 : fn93.results = [.tmp 2, .tmp 3] := rfl
theorem body_93 : fn93.body = c93 := rfl
@[simp] theorem dyn_93 : fn93.dyn = fun _ => [] := id rfl
@[simp] theorem opn_93 : fn93.opn = fun _ => none := id rfl
@[simp] theorem keep_93_0 : fn93.keep 0 = some [1, 35] := rfl
@[simp] theorem keep_93_1 : fn93.keep 1 = some [1, 4, 35] := rfl
@[simp] theorem keep_93_2 : fn93.keep 2 = some [1, 4, 11, 35] := rfl
@[simp] theorem keep_93_3 : fn93.keep 3 = some [2, 3] := rfl
@[simp] theorem keep_93_4 : fn93.keep 4 = some [1, 5, 35] := rfl
@[simp] theorem keep_93_5 : fn93.keep 5 = some [1, 5, 17, 35] := rfl
@[simp] theorem keep_93_6 : fn93.keep 6 = some [1, 5, 35] := rfl
@[simp] theorem keep_93_7 : fn93.keep 7 = some [1, 5, 22, 35] := rfl
@[simp] theorem keep_93_8 : fn93.keep 8 = some [2, 3] := rfl
@[simp] theorem keep_93_9 : fn93.keep 9 = some [1, 6, 35] := rfl
@[simp] theorem keep_93_10 : fn93.keep 10 = some [6, 34, 35] := rfl
@[simp] theorem keep_93_11 : fn93.keep 11 = some [6, 7, 35] := rfl
@[simp] theorem keep_93_12 : fn93.keep 12 = some [6, 35] := rfl
@[simp] theorem keep_93_13 : fn93.keep 13 = some [2, 3] := rfl
@[simp] theorem ntmps_94 : fn94.ntmps = 50 := rfl
@[simp] theorem results_94 : fn94.results = [.tmp 2, .tmp 3] := rfl
theorem body_94 : fn94.body = c94 := rfl
@[simp] theorem dyn_94 : fn94.dyn = fun _ => [] := id rfl
@[simp] theorem opn_94 : fn94.opn = fun _ => none := id rfl
@[simp] theorem keep_94_0 : fn94.keep 0 = some [0] := rfl
@[simp] theorem keep_94_1 : fn94.keep 1 = some [0, 5] := rfl
@[simp] theorem keep_94_2 : fn94.keep 2 = some [2, 3] := rfl
@[simp] theorem keep_94_3 : fn94.keep 3 = some [0, 8] := rfl
@[simp] theorem keep_94_4 : fn94.keep 4 = some [2, 3] := rfl
@[simp] theorem keep_94_5 : fn94.keep 5 = some [0, 11] := rfl
@[simp] theorem keep_94_6 : fn94.keep 6 = some [2, 3] := rfl
@[simp] theorem keep_94_7 : fn94.keep 7 = some [0, 4] := rfl
@[simp] theorem keep_94_8 : fn94.keep 8 = some [0, 4, 18] := rfl
@[simp] theorem keep_94_9 : fn94.keep 9 = some [0, 4, 21] := rfl
@[simp] theorem keep_94_10 : fn94.keep 10 = some [0, 4] := rfl
@[simp] theorem keep_94_11 : fn94.keep 11 = some [0, 4] := rfl
@[simp] theorem keep_94_12 : fn94.keep 12 = some [4] := rfl
@[simp] theorem keep_94_13 : fn94.keep 13 = some [4] := rfl
@[simp] theorem keep_94_14 : fn94.keep 14 = some [2, 3] := rfl
@[simp] theorem ntmps_95 : fn95.ntmps = 44 := rfl
@[simp] theorem results_95 : fn95.results = [.cell 2 27, .tmp 3, .tmp 4] := rfl
theorem body_95 : fn95.body = c95 := rfl
@[simp] theorem dyn_95 : fn95.dyn = fun _ => [] := id rfl
@[simp] theorem opn_95 : fn95.opn = fun _ => none := id rfl
@[simp] theorem keep_95_0 : fn95.keep 0 = some [0, 2, 4] := rfl
@[simp] theorem keep_95_1 : fn95.keep 1 = some [0, 2, 4, 7] := rfl
@[simp] theorem keep_95_2 : fn95.keep 2 = some [2, 3, 4] := rfl
@[simp] theorem keep_95_3 : fn95.keep 3 = some [0, 2, 4] := rfl
@[simp] theorem keep_95_4 : fn95.keep 4 = some [0, 2, 3, 4] := rfl
@[simp] theorem keep_95_5 : fn95.keep 5 = some [0, 2, 3, 4, 26] := rfl
@[simp] theorem keep_95_6 : fn95.keep 6 = some [2, 3, 4] := rfl
@[simp] theorem keep_95_7 : fn95.keep 7 = some [2, 3, 4, 35] := rfl
@[simp] theorem keep_95_8 : fn95.keep 8 = some [2, 3, 4] := rfl
@[simp] theorem keep_95_9 : fn95.keep 9 = some [2, 3, 4, 39] := rfl
@[simp] theorem keep_95_10 : fn95.keep 10 = some [2, 3, 4] := rfl
@[simp] theorem keep_95_11 : fn95.keep 11 = some [2, 3, 4] := rfl
@[simp] theorem ntmps_96 : fn96.ntmps = 65 := rfl
@[simp] theorem results_96 : fn96.results = [.tmp 2, .tmp 3, .tmp 4] := rfl
theorem body_96 : fn96.body = c96 := rfl
@[simp] theorem dyn_96 : fn96.dyn = fun _ => [] := id rfl
@[simp] theorem opn_96 : fn96.opn = fun _ => none := id rfl
@[simp] theorem keep_96_0 : fn96.keep 0 = some [0] := rfl
@[simp] theorem keep_96_1 : fn96.keep 1 = some [0, 9] := rfl
@[simp] theorem keep_96_2 : fn96.keep 2 = some [2, 3, 4] := rfl
@[simp] theorem keep_96_3 : fn96.keep 3 = some [0, 13] := rfl
@[simp] theorem keep_96_4 : fn96.keep 4 = some [2, 3, 4] := rfl
@[simp] theorem keep_96_5 : fn96.keep 5 = some [0, 5] := rfl
@[simp] theorem keep_96_6 : fn96.keep 6 = some [0, 5, 6] := rfl
@[simp] theorem keep_96_7 : fn96.keep 7 = some [0, 5, 6, 23] := rfl
@[simp] theorem keep_96_8 : fn96.keep 8 = some [2, 3, 4] := rfl
@[simp] theorem keep_96_9 : fn96.keep 9 = some [0, 5, 6, 30] := rfl
@[simp] theorem keep_96_10 : fn96.keep 10 = some [2, 3, 4] := rfl
@[simp] theorem keep_96_11 : fn96.keep 11 = some [0, 5, 6] := rfl
@[simp] theorem keep_96_12 : fn96.keep 12 = some [0, 2, 6] := rfl
@[simp] theorem keep_96_13 : fn96.keep 13 = some [2, 6, 61] := rfl
@[simp] theorem keep_96_14 : fn96.keep 14 = some [2, 3, 4] := rfl
@[simp] theorem keep_96_15 : fn96.keep 15 = some [2, 3, 4] := rfl
@[simp] theorem ntmps_97 : fn97.ntmps = 9 := rfl
@[simp] theorem results_97 : fn97.results = [.tmp 2] := rfl
theorem body_97 : fn97.body = c97 := rfl
@[simp] theorem dyn_97 : fn97.dyn = fun _ => [] := id rfl
@[simp] theorem opn_97 : fn97.opn = fun _ => none := id rfl
@[simp] theorem keep_97_0 : fn97.keep 0 = some [0] := rfl
@[simp] theorem keep_97_1 : fn97.keep 1 = some [2] := rfl
@[simp] theorem ntmps_98 : fn98.ntmps = 8 := rfl
@[simp] theorem results_98 : fn98.results = [.tmp 2] := rfl
theorem body_98 : fn98.body = c98 := rfl
@[simp] theorem dyn_98 : fn98.dyn = fun _ => [] := id rfl
@[simp] theorem opn_98 : fn98.opn = fun _ => none := id rfl
@[simp] theorem keep_98_0 : fn98.keep 0 = some [0] := rfl
@[simp] theorem keep_98_1 : fn98.keep 1 = some [0, 4] := rfl
@[simp] theorem keep_98_2 : fn98.keep 2 = some [2] := rfl
@[simp] theorem keep_98_3 : fn98.keep 3 = some [2] := rfl
@[simp] theorem ntmps_99 : fn99.ntmps = 9 := rfl
@[simp] theorem results_99 : fn99.results = [.tmp 2] := rfl
theorem body_99 : fn99.body = c99 := rfl
@[simp] theorem dyn_99 : fn99.dyn = fun _ => [] := id rfl
@[simp] theorem opn_99 : fn99.opn = fun _ => none := id rfl
@[simp] theorem keep_99_0 : fn99.keep 0 = some [0] := rfl
@[simp] theorem keep_99_1 : fn99.keep 1 = some [2] := rfl
@[simp] theorem ntmps_100 : fn100.ntmps = 10 := rfl
@[simp] theorem results_100 : fn100.results = [.tmp 4] := rfl
theorem body_100 : fn100.body = c100 := rfl
@[simp] theorem dyn_100 : fn100.dyn = fun _ => [] := id rfl
@[simp] theorem opn_100 : fn100.opn = opnT := id rfl
@[simp] theorem keep_100_0 : fn100.keep 0 = some [2, 3] := rfl
@[simp] theorem keep_100_1 : fn100.keep 1 = some [2, 3, 5] := rfl
@[simp] theorem keep_100_2 : fn100.keep 2 = some [2, 5] := rfl
@[simp] theorem keep_100_3 : fn100.keep 3 = some [4] := rfl
@[simp] theorem ntmps_101 : fn101.ntmps = 47 := rfl
@[simp] theorem results_101 : fn101.results = [.tmp 6] := rfl
theorem body_101 : fn101.body = c101 := rfl
@[simp] theorem dyn_101 : fn101.dyn = fun _ => [] := id rfl
@[simp] theorem opn_101 : fn101.opn = fun _ => none := id rfl
@[simp] theorem keep_101_0 : fn101.keep 0 = some [1, 2, 3, 4] := rfl
@[simp] theorem keep_101_1 : fn101.keep 1 = some [1, 2, 3, 4, 7] := rfl
@[simp] theorem keep_101_2 : fn101.keep 2 = some [1, 2, 3, 4, 7, 12] := rfl
@[simp] theorem keep_101_3 : fn101.keep 3 = some [6] := rfl
@[simp] theorem keep_101_4 : fn101.keep 4 = some [1, 2, 3, 14] := rfl
@[simp] theorem keep_101_5 : fn101.keep 5 = some [6] := rfl
@[simp] theorem keep_101_6 : fn101.keep 6 = some [1, 2, 3, 36] := rfl
@[simp] theorem keep_101_7 : fn101.keep 7 = some [6] := rfl
@[simp] theorem keep_101_8 : fn101.keep 8 = some [1, 2, 3, 39] := rfl
@[simp] theorem keep_101_9 : fn101.keep 9 = some [6] := rfl
@[simp] theorem keep_101_10 : fn101.keep 10 = some [1, 3] := rfl
@[simp] theorem keep_101_11 : fn101.keep 11 = some [] := rfl
@[simp] theorem keep_101_12 : fn101.keep 12 = some [6] := rfl
@[simp] theorem ntmps_102 : fn102.ntmps = 24 := rfl
@[simp] theorem results_102 : fn102.results = [.tmp 2] := rfl
theorem body_102 : fn102.body = c102 := rfl
@[simp] theorem dyn_102 : fn102.dyn = fun _ => [] := id rfl
@[simp] theorem opn_102 : fn102.opn = fun _ => none := id rfl
@[simp] theorem keep_102_0 : fn102.keep 0 = some [1] := rfl
@[simp] theorem keep_102_1 : fn102.keep 1 = some [1, 10] := rfl
@[simp] theorem keep_102_2 : fn102.keep 2 = some [2] := rfl
@[simp] theorem keep_102_3 : fn102.keep 3 = some [1, 13] := rfl
@[simp] theorem keep_102_4 : fn102.keep 4 = some [2] := rfl
@[simp] theorem keep_102_5 : fn102.keep 5 = some [1, 15] := rfl
@[simp] theorem keep_102_6 : fn102.keep 6 = some [1, 15, 16] := rfl
@[simp] theorem keep_102_7 : fn102.keep 7 = some [2] := rfl
@[simp] theorem keep_102_8 : fn102.keep 8 = some [1, 15, 18] := rfl
@[simp] theorem keep_102_9 : fn102.keep 9 = some [1, 18] := rfl
@[simp] theorem keep_102_10 : fn102.keep 10 = some [23] := rfl
@[simp] theorem keep_102_11 : fn102.keep 11 = some [2] := rfl
@[simp] theorem keep_102_12 : fn102.keep 12 = some [2] := rfl
@[simp] theorem ntmps_103 : fn103.ntmps = 22 := rfl
@[simp] theorem results_103 : fn103.results = [.tmp 2] := rfl
theorem body_103 : fn103.body = c103 := rfl
@[simp] theorem dyn_103 : fn103.dyn = fun _ => [] := id rfl
@[simp] theorem opn_103 : fn103.opn = fun _ => none := id rfl
@[simp] theorem keep_103_0 : fn103.keep 0 = some [0] := rfl
@[simp] theorem keep_103_1 : fn103.keep 1 = some [0, 3] := rfl
@[simp] theorem keep_103_2 : fn103.keep 2 = some [0, 3] := rfl
@[simp] theorem keep_103_3 : fn103.keep 3 = some [0, 3, 11] := rfl
@[simp] theorem keep_103_4 : fn103.keep 4 = some [0, 3] := rfl
@[simp] theorem keep_103_5 : fn103.keep 5 = some [0, 3] := rfl
@[simp] theorem keep_103_6 : fn103.keep 6 = some [2] := rfl
@[simp] theorem head_103_3 : fn103.head 3 = some [0, 3] := rfl
@[simp] theorem ntmps_104 : fn104.ntmps = 10 := rfl
@[simp] theorem results_104 : fn104.results = [.tmp 4] := rfl
theorem body_104 : fn104.body = c104 := rfl
@[simp] theorem dyn_104 : fn104.dyn = fun _ => [] := id rfl
@[simp] theorem opn_104 : fn104.opn = fun _ => none := id rfl
@[simp] theorem keep_104_0 : fn104.keep 0 = some [0, 1] := rfl
@[simp] theorem keep_104_1 : fn104.keep 1 = some [4] := rfl
@[simp] theorem ntmps_105 : fn105.ntmps = 32 := rfl
@[simp] theorem results_105 : fn105.results = [.tmp 6] := rfl
theorem body_105 : fn105.body = c105 := rfl
@[simp] theorem dyn_105 : fn105.dyn = fun _ => [] := id rfl
@[simp] theorem opn_105 : fn105.opn = opnT := id rfl
@[simp] theorem keep_105_0 : fn105.keep 0 = some [0, 1, 2] := rfl
@[simp] theorem keep_105_1 : fn105.keep 1 = some [0, 1, 2, 14] := rfl
@[simp] theorem keep_105_2 : fn105.keep 2 = some [6] := rfl
@[simp] theorem keep_105_3 : fn105.keep 3 = some [1, 2, 15, 16, 17] := rfl
@[simp] theorem keep_105_4 : fn105.keep 4 = some [1, 2, 15, 16, 17, 18] := rfl
@[simp] theorem keep_105_5 : fn105.keep 5 = some [1, 2, 7, 8, 15, 16, 17] := rfl
@[simp] theorem keep_105_6 : fn105.keep 6 = some [1, 2, 8, 9, 15, 16, 17] := rfl
@[simp] theorem keep_105_7 : fn105.keep 7 = some [1, 2, 15, 16, 17, 30] := rfl
@[simp] theorem keep_105_8 : fn105.keep 8 = some [6] := rfl
@[simp] theorem keep_105_9 : fn105.keep 9 = some [1, 2, 15, 16, 17] := rfl
@[simp] theorem keep_105_10 : fn105.keep 10 = some [6] := rfl
@[simp] theorem head_105_4 : fn105.head 4 = some [1, 2, 15, 16, 17] := rfl
@[simp] theorem ntmps_107 : fn107.ntmps = 9 := rfl
@[simp] theorem results_107 : fn107.results = [.tmp 2] := rfl
theorem body_107 : fn107.body = c107 := rfl
@[simp] theorem dyn_107 : fn107.dyn = fun _ => [] := id rfl
@[simp] theorem opn_107 : fn107.opn = fun _ => none := id rfl
@[simp] theorem keep_107_0 : fn107.keep 0 = some [0] := rfl
@[simp] theorem keep_107_1 : fn107.keep 1 = some [2] := rfl
@[simp] theorem ntmps_108 : fn108.ntmps = 22 := rfl
@[simp] theorem results_108 : fn108.results = [.tmp 2] := rfl
theorem body_108 : fn108.body = c108 := rfl
@[simp] theorem dyn_108 : fn108.dyn = fun _ => [] := id rfl
@[simp] theorem opn_108 : fn108.opn = fun _ => none := id rfl
@[simp] theorem keep_108_0 : fn108.keep 0 = some [0] := rfl
@[simp] theorem keep_108_1 : fn108.keep 1 = some [0, 3] := rfl
@[simp] theorem keep_108_2 : fn108.keep 2 = some [0, 3] := rfl
@[simp] theorem keep_108_3 : fn108.keep 3 = some [0, 3, 11] := rfl
@[simp] theorem keep_108_4 : fn108.keep 4 = some [0, 3] := rfl
@[simp] theorem keep_108_5 : fn108.keep 5 = some [0, 3] := rfl
@[simp] theorem keep_108_6 : fn108.keep 6 = some [2] := rfl
@[simp] theorem head_108_3 : fn108.head 3 = some [0, 3] := rfl
@[simp] theorem ntmps_110 : fn110.ntmps = 12 := rfl
@[simp] theorem results_110 : fn110.results = [.tmp 2] := rfl
theorem body_110 : fn110.body = c110 := rfl
@[simp] theorem dyn_110 : fn110.dyn = fun _ => [] := id rfl
@[simp] theorem opn_110 : fn110.opn = fun _ => none := id rfl
@[simp] theorem keep_110_0 : fn110.keep 0 = some [0] := rfl
@[simp] theorem keep_110_1 : fn110.keep 1 = some [3] := rfl
@[simp] theorem keep_110_2 : fn110.keep 2 = some [2] := rfl
@[simp] theorem ntmps_111 : fn111.ntmps = 4 := rfl
@[simp] theorem results_111 : fn111.results = [.tmp 2] := rfl
theorem body_111 : fn111.body = c111 := rfl
@[simp] theorem dyn_111 : fn111.dyn = fun _ => [] := id rfl
@[simp] theorem opn_111 : fn111.opn = fun _ => none := id rfl
@[simp] theorem keep_111_0 : fn111.keep 0 = some [1] := rfl
@[simp] theorem keep_111_1 : fn111.keep 1 = some [2] := rfl
@[simp] theorem ntmps_112 : fn112.ntmps = 43 := rfl
@[simp] theorem results_112 : fn112.results = [.tmp 2, .tmp 3, .tmp 4] := rfl
theorem body_112 : fn112.body = c112 := rfl
@[simp] theorem dyn_112 : fn112.dyn = fun _ => [] := id rfl
@[simp] theorem opn_112 : fn112.opn = fun _ => none := id rfl
@[simp] theorem keep_112_0 : fn112.keep 0 = some [0, 2] := rfl
@[simp] theorem keep_112_1 : fn112.keep 1 = some [0, 2, 3] := rfl
@[simp] theorem keep_112_2 : fn112.keep 2 = some [0, 2, 3] := rfl
@[simp] theorem keep_112_3 : fn112.keep 3 = some [0, 2, 3, 11] := rfl
@[simp] theorem keep_112_4 : fn112.keep 4 = some [2, 3, 4] := rfl
@[simp] theorem keep_112_5 : fn112.keep 5 = some [0, 2, 3, 5] := rfl
@[simp] theorem keep_112_6 : fn112.keep 6 = some [0, 2, 3, 5, 29] := rfl
@[simp] theorem keep_112_7 : fn112.keep 7 = some [2, 3, 4] := rfl
@[simp] theorem keep_112_8 : fn112.keep 8 = some [0, 2, 3, 5] := rfl
@[simp] theorem keep_112_9 : fn112.keep 9 = some [0, 2, 3, 37] := rfl
@[simp] theorem keep_112_10 : fn112.keep 10 = some [2, 3, 39] := rfl
@[simp] theorem keep_112_11 : fn112.keep 11 = some [2, 3, 4] := rfl
@[simp] theorem keep_112_12 : fn112.keep 12 = some [2, 3, 4] := rfl
@[simp] theorem head_112_3 : fn112.head 3 = some [0, 2, 3] := rfl
@[simp] theorem ntmps_113 : fn113.ntmps = 34 := rfl
@[simp] theorem results_113 : fn113.results = [.tmp 6] := rfl
theorem body_113 : fn113.body = c113 := rfl
@[simp] theorem dyn_113 : fn113.dyn = fun _ => [] := id rfl
@[simp] theorem opn_113 : fn113.opn = opnT := id rfl
@[simp] theorem keep_113_0 : fn113.keep 0 = some [1, 2, 3, 4] := rfl
@[simp] theorem keep_113_1 : fn113.keep 1 = some [1, 3, 4, 7] := rfl
@[simp] theorem keep_113_2 : fn113.keep 2 = some [1, 3, 4, 7, 16] := rfl
@[simp] theorem keep_113_3 : fn113.keep 3 = some [6] := rfl
@[simp] theorem keep_113_4 : fn113.keep 4 = some [1, 3, 19, 20, 21] := rfl
@[simp] theorem keep_113_5 : fn113.keep 5 = some [1, 3, 19, 20, 21, 22] := rfl
@[simp] theorem keep_113_6 : fn113.keep 6 = some [1, 3, 9, 19, 20, 21] := rfl
@[simp] theorem keep_113_7 : fn113.keep 7 = some [1, 3, 10, 19, 20, 21] := rfl
@[simp] theorem keep_113_8 : fn113.keep 8 = some [1, 3, 10, 19, 20, 21, 31] := rfl
@[simp] theorem keep_113_9 : fn113.keep 9 = some [6] := rfl
@[simp] theorem keep_113_10 : fn113.keep 10 = some [1, 3, 19, 20, 21] := rfl
@[simp] theorem keep_113_11 : fn113.keep 11 = some [6] := rfl
@[simp] theorem head_113_5 : fn113.head 5 = some [1, 3, 19, 20, 21] := rfl
@[simp] theorem ntmps_114 : fn114.ntmps = 29 := rfl
@[simp] theorem results_114 : fn114.results = [] := rfl
theorem body_114 : fn114.body = c114 := rfl
@[simp] theorem dyn_114 : fn114.dyn = fun _ => [] := id rfl
@[simp] theorem opn_114 : fn114.opn = opnT := id rfl
@[simp] theorem keep_114_0 : fn114.keep 0 = some [0, 1, 3] := rfl
@[simp] theorem keep_114_1 : fn114.keep 1 = some [0, 1, 3, 9] := rfl
@[simp] theorem keep_114_2 : fn114.keep 2 = some [0, 1, 3] := rfl
@[simp] theorem keep_114_3 : fn114.keep 3 = some [0, 1, 3, 13] := rfl
@[simp] theorem keep_114_4 : fn114.keep 4 = some [0, 1, 3] := rfl
@[simp] theorem keep_114_5 : fn114.keep 5 = some [0, 1, 3, 4] := rfl
@[simp] theorem keep_114_6 : fn114.keep 6 = some [0, 1, 3, 4, 22] := rfl
@[simp] theorem keep_114_7 : fn114.keep 7 = some [0, 1, 3, 4] := rfl
@[simp] theorem keep_114_8 : fn114.keep 8 = some [0, 1, 3, 28] := rfl
@[simp] theorem head_114_1 : fn114.head 1 = some [0, 1, 3] := rfl
@[simp] theorem head_114_3 : fn114.head 3 = some [0, 1, 3] := rfl
@[simp] theorem E_fn8 : E.fn 8 = some fn8 := rfl
@[simp] theorem E_grd8 : E.grd 8 = none := id rfl
@[simp] theorem opnT_8 : opnT 8 = none := id rfl
@[simp] theorem E_fn9 : E.fn 9 = some fn9 := rfl
@[simp] theorem E_grd9 : E.grd 9 = none := id rfl
@[simp] theorem opnT_9 : opnT 9 = none := id rfl
@[simp] theorem E_fn12 : E.fn 12 = some fn12 := rfl
@[simp] theorem E_grd12 : E.grd 12 = none := id rfl
@[simp] theorem opnT_12 : opnT 12 = none := id rfl
@[simp] theorem E_fn18 : E.fn 18 = some fn18 := rfl
@[simp] theorem E_grd18 : E.grd 18 = none := id rfl
@[simp] theorem opnT_18 : opnT 18 = none := id rfl
@[simp] theorem E_fn20 : E.fn 20 = some fn20 := rfl
@[simp] theorem E_grd20 : E.grd 20 = none := id rfl
@[simp] theorem opnT_20 : opnT 20 = none := id rfl
@[simp] theorem E_fn21 : E.fn 21 = some fn21 := rfl
@[simp] theorem E_grd21 : E.grd 21 = none := id rfl
@[simp] theorem opnT_21 : opnT 21 = none := id rfl
@[simp] theorem E_fn22 : E.fn 22 = some fn22 := rfl
@[simp] theorem E_grd22 : E.grd 22 = none := id rfl
@[simp] theorem opnT_22 : opnT 22 = none := id rfl
@[simp] theorem E_fn23 : E.fn 23 = some fn23 := rfl
@[simp] theorem E_grd23 : E.grd 23 = some grd23 := id rfl
@[simp] theorem opnT_23 : opnT 23 = none := id rfl
@[simp] theorem E_fn24 : E.fn 24 = some fn24 := rfl
@[simp] theorem E_grd24 : E.grd 24 = none := id rfl
@[simp] theorem opnT_24 : opnT 24 = none := id rfl
@[simp] theorem E_fn25 : E.fn 25 = some fn25 := rfl
@[simp] theorem E_grd25 : E.grd 25 = none := id rfl
@[simp] theorem opnT_25 : opnT 25 = none := id rfl
@[simp] theorem E_fn26 : E.fn 26 = some fn26 := rfl
@[simp] theorem E_grd26 : E.grd 26 = none := id rfl
@[simp] theorem opnT_26 : opnT 26 = none := id rfl
@[simp] theorem E_fn27 : E.fn 27 = some fn27 := rfl
@[simp] theorem E_grd27 : E.grd 27 = none := id rfl
@[simp] theorem opnT_27 : opnT 27 = none := id rfl
@[simp] theorem E_fn28 : E.fn 28 = some fn28 := rfl
@[simp] theorem E_grd28 : E.grd 28 = none := id rfl
@[simp] theorem opnT_28 : opnT 28 = none := id rfl
@[simp] theorem E_fn29 : E.fn 29 = some fn29 := rfl
@[simp] theorem E_grd29 : E.grd 29 = none := id rfl
@[simp] theorem opnT_29 : opnT 29 = none := id rfl
@[simp] theorem E_fn30 : E.fn 30 = some fn30 := rfl
@[simp] theorem E_grd30 : E.grd 30 = none := id rfl
@[simp] theorem opnT_30 : opnT 30 = none := id rfl
@[simp] theorem E_fn32 : E.fn 32 = some fn32 := rfl
@[simp] theorem E_grd32 : E.grd 32 = none := id rfl
@[simp] theorem opnT_32 : opnT 32 = none := id rfl
@[simp] theorem E_fn34 : E.fn 34 = some fn34 := rfl
@[simp] theorem E_grd34 : E.grd 34 = none := id rfl
@[simp] theorem opnT_34 : opnT 34 = none := id rfl
@[simp] theorem E_fn35 : E.fn 35 = some fn35 := rfl
@[simp] theorem E_grd35 : E.grd 35 = none := id rfl
@[simp] theorem opnT_35 : opnT 35 = none := id rfl
@[simp] theorem E_fn36 : E.fn 36 = some fn36 := rfl
@[simp] theorem E_grd36 : E.grd 36 = none := id rfl
@[simp] theorem opnT_36 : opnT 36 = none := id rfl
@[simp] theorem E_fn37 : E.fn 37 = some fn37 := rfl
@[simp] theorem E_grd37 : E.grd 37 = none := id rfl
@[simp] theorem opnT_37 : opnT 37 = none := id rfl
@[simp] theorem E_fn38 : E.fn 38 = some fn38 := rfl
@[simp] theorem E_grd38 : E.grd 38 = none := id rfl
@[simp] theorem opnT_38 : opnT 38 = none := id rfl
@[simp] theorem E_fn39 : E.fn 39 = some fn39 := rfl
@[simp] theorem E_grd39 : E.grd 39 = none := id rfl
@[simp] theorem opnT_39 : opnT 39 = none := id rfl
@[simp] theorem E_fn40 : E.fn 40 = some fn40 := rfl
@[simp] theorem E_grd40 : E.grd 40 = none := id rfl
@[simp] theorem opnT_40 : opnT 40 = none := id rfl
@[simp] theorem E_fn41 : E.fn 41 = some fn41 := rfl
@[simp] theorem E_grd41 : E.grd 41 = none := id rfl
@[simp] theorem opnT_41 : opnT 41 = none := id rfl
@[simp] theorem E_fn42 : E.fn 42 = some fn42 := rfl
@[simp] theorem E_grd42 : E.grd 42 = none := id rfl
@[simp] theorem opnT_42 : opnT 42 = none := id rfl
@[simp] theorem E_fn44 : E.fn 44 = some fn44 := rfl
@[simp] theorem E_grd44 : E.grd 44 = none := id rfl
@[simp] theorem opnT_44 : opnT 44 = none := id rfl
@[simp] theorem E_fn45 : E.fn 45 = some fn45 := rfl
@[simp] theorem E_grd45 : E.grd 45 = none := id rfl
@[simp] theorem opnT_45 : opnT 45 = none := id rfl
@[simp] theorem E_fn47 : E.fn 47 = some fn47 := rfl
@[simp] theorem E_grd47 : E.grd 47 = none := id rfl
@[simp] theorem opnT_47 : opnT 47 = none := id rfl
@[simp] theorem E_fn48 : E.fn 48 = some fn48 := rfl
@[simp] theorem E_grd48 : E.grd 48 = none := id rfl
@[simp] theorem opnT_48 : opnT 48 = none := id rfl
@[simp] theorem E_fn49 : E.fn 49 = some fn49 := rfl
@[simp] theorem E_grd49 : E.grd 49 = none := id rfl
@[simp] theorem opnT_49 : opnT 49 = none := id rfl
@[simp] theorem E_fn50 : E.fn 50 = some fn50 := rfl
@[simp] theorem E_grd50 : E.grd 50 = none := id rfl
@[simp] theorem opnT_50 : opnT 50 = none := id rfl
@[simp] theorem E_fn51 : E.fn 51 = some fn51 := rfl
@[simp] theorem E_grd51 : E.grd 51 = none := id rfl
@[simp] theorem opnT_51 : opnT 51 = none := id rfl
@[simp] theorem E_fn52 : E.fn 52 = some fn52 := rfl
@[simp] theorem E_grd52 : E.grd 52 = none := id rfl
@[simp] theorem opnT_52 : opnT 52 = none := id rfl
@[simp] theorem E_fn53 : E.fn 53 = some fn53 := rfl
@[simp] theorem E_grd53 : E.grd 53 = none := id rfl
@[simp] theorem opnT_53 : opnT 53 = none := id rfl
@[simp] theorem E_fn54 : E.fn 54 = some fn54 := rfl
@[simp] theorem E_grd54 : E.grd 54 = none := id rfl
@[simp] theorem opnT_54 : opnT 54 = none := id rfl
@[simp] theorem E_fn55 : E.fn 55 = some fn55 := rfl
@[simp] theorem E_grd55 : E.grd 55 = none := id rfl
@[simp] theorem opnT_55 : opnT 55 = none := id rfl
@[simp] theorem E_fn56 : E.fn 56 = some fn56 := rfl
@[simp] theorem E_grd56 : E.grd 56 = none := id rfl
@[simp] theorem opnT_56 : opnT 56 = none := id rfl
@[simp] theorem E_fn63 : E.fn 63 = some fn63 := rfl
@[simp] theorem E_grd63 : E.grd 63 = none := id rfl
@[simp] theorem opnT_63 : opnT 63 = none := id rfl
@[simp] theorem E_fn67 : E.fn 67 = some fn67 := rfl
@[simp] theorem E_grd67 : E.grd 67 = none := id rfl
@[simp] theorem opnT_67 : opnT 67 = none := id rfl
@[simp] theorem E_fn69 : E.fn 69 = some fn69 := rfl
@[simp] theorem E_grd69 : E.grd 69 = none := id rfl
@[simp] theorem opnT_69 : opnT 69 = none := id rfl
@[simp] theorem E_fn70 : E.fn 70 = some fn70 := rfl
@[simp] theorem E_grd70 : E.grd 70 = none := id rfl
@[simp] theorem opnT_70 : opnT 70 = some ([true, false], false) := id rfl
@[simp] theorem E_fn71 : E.fn 71 = some fn71 := rfl
@[simp] theorem E_grd71 : E.grd 71 = none := id rfl
@[simp] theorem opnT_71 : opnT 71 = none := id rfl
@[simp] theorem E_fn72 : E.fn 72 = some fn72 := rfl
@[simp] theorem E_grd72 : E.grd 72 = none := id rfl
@[simp] theorem opnT_72 : opnT 72 = some ([true, true, true, true], true) := id rfl
@[simp] theorem E_fn73 : E.fn 73 = some fn73 := rfl
@[simp] theorem E_grd73 : E.grd 73 = none := id rfl
@[simp] theorem opnT_73 : opnT 73 = some ([true, false, false, false], true) := id rfl
@[simp] theorem E_fn74 : E.fn 74 = some fn74 := rfl
@[simp] theorem E_grd74 : E.grd 74 = none := id rfl
@[simp] theorem opnT_74 : opnT 74 = none := id rfl
@[simp] theorem E_fn75 : E.fn 75 = some fn75 := rfl
@[simp] theorem E_grd75 : E.grd 75 = none := id rfl
@[simp] theorem opnT_75 : opnT 75 = none := id rfl
@[simp] theorem E_fn76 : E.fn 76 = some fn76 := rfl
@[simp] theorem E_grd76 : E.grd 76 = none := id rfl
@[simp] theorem opnT_76 : opnT 76 = some ([false], false) := id rfl
@[simp] theorem E_fn77 : E.fn 77 = some fn77 := rfl
@[simp] theorem E_grd77 : E.grd 77 = none := id rfl
@[simp] theorem opnT_77 : opnT 77 = none := id rfl
@[simp] theorem E_fn78 : E.fn 78 = some fn78 := rfl
@[simp] theorem E_grd78 : E.grd 78 = none := id rfl
@[simp] theorem opnT_78 : opnT 78 = none := id rfl
@[simp] theorem E_fn79 : E.fn 79 = some fn79 := rfl
@[simp] theorem E_grd79 : E.grd 79 = none := id rfl
@[simp] theorem opnT_79 : opnT 79 = none := id rfl
@[simp] theorem E_fn80 : E.fn 80 = some fn80 := rfl
@[simp] theorem E_grd80 : E.grd 80 = none := id rfl
@[simp] theorem opnT_80 : opnT 80 = none := id rfl
@[simp] theorem E_fn81 : E.fn 81 = some fn81 := rfl
@[simp] theorem E_grd81 : E.grd 81 = none := id rfl
@[simp] theorem opnT_81 : opnT 81 = none := id rfl
@[simp] theorem E_fn82 : E.fn 82 = some fn82 := rfl
@[simp] theorem E_grd82 : E.grd 82 = none := id rfl
@[simp] theorem opnT_82 : opnT 82 = none := id rfl
@[simp] theorem E_fn83 : E.fn 83 = some fn83 := rfl
@[simp] theorem E_grd83 : E.grd 83 = none := id rfl
@[simp] theorem opnT_83 : opnT 83 = none := id rfl
@[simp] theorem E_fn84 : E.fn 84 = some fn84 := rfl
@[simp] theorem E_grd84 : E.grd 84 = none := id rfl
@[simp] theorem opnT_84 : opnT 84 = none := id rfl
@[simp] theorem E_fn85 : E.fn 85 = some fn85 := rfl
@[simp] theorem E_grd85 : E.grd 85 = none := id rfl
@[simp] theorem opnT_85 : opnT 85 = none := id rfl
@[simp] theorem E_fn87 : E.fn 87 = some fn87 := rfl
@[simp] theorem E_grd87 : E.grd 87 = none := id rfl
@[simp] theorem opnT_87 : opnT 87 = none := id rfl
@[simp] theorem E_fn89 : E.fn 89 = some fn89 := rfl
@[simp] theorem E_grd89 : E.grd 89 = none := id rfl
@[simp] theorem opnT_89 : opnT 89 = none := id rfl
@[simp] theorem E_fn90 : E.fn 90 = some fn90 := rfl
@[simp] theorem E_grd90 : E.grd 90 = none := id rfl
@[simp] theorem opnT_90 : opnT 90 = none := id rfl
@[simp] theorem E_fn91 : E.fn 91 = some fn91 := rfl
@[simp] theorem E_grd91 : E.grd 91 = none := id rfl
@[simp] theorem opnT_91 : opnT 91 = none := id rfl
@[simp] theorem E_fn92 : E.fn 92 = some fn92 := rfl
@[simp] theorem E_grd92 : E.grd 92 = none := id rfl
@[simp] theorem opnT_92 : opnT 92 = none := id rfl
@[simp] theorem E_fn93 : E.fn 93 = some fn93 := rfl
@[simp] theorem E_grd93 : E.grd 93 = none := id rfl
@[simp] theorem opnT_93 : opnT 93 = none := id rfl
@[simp] theorem E_fn94 : E.fn 94 = some fn94 := rfl
@[simp] theorem E_grd94 : E.grd 94 = none := id rfl
@[simp] theorem opnT_94 : opnT 94 = none := id rfl
@[simp] theorem E_fn95 : E.fn 95 = some fn95 := rfl
@[simp] theorem E_grd95 : E.grd 95 = none := id rfl
@[simp] theorem opnT_95 : opnT 95 = none := id rfl
@[simp] theorem E_fn96 : E.fn 96 = some fn96 := rfl
@[simp] theorem E_grd96 : E.grd 96 = none := id rfl
@[simp] theorem opnT_96 : opnT 96 = none := id rfl
@[simp] theorem E_fn97 : E.fn 97 = some fn97 := rfl
@[simp] theorem E_grd97 : E.grd 97 = none := id rfl
@[simp] theorem opnT_97 : opnT 97 = none := id rfl
@[simp] theorem E_fn98 : E.fn 98 = some fn98 := rfl
@[simp] theorem E_grd98 : E.grd 98 = none := id rfl
@[simp] theorem opnT_98 : opnT 98 = none := id rfl
@[simp] theorem E_fn99 : E.fn 99 = some fn99 := rfl
@[simp] theorem E_grd99 : E.grd 99 = none := id rfl
@[simp] theorem opnT_99 : opnT 99 = none := id rfl
@[simp] theorem E_fn100 : E.fn 100 = some fn100 := rfl
@[simp] theorem E_grd100 : E.grd 100 = none := id rfl
@[simp] theorem opnT_100 : opnT 100 = some ([false, true], true) := id rfl
@[simp] theorem E_fn101 : E.fn 101 = some fn101 := rfl
@[simp] theorem E_grd101 : E.grd 101 = none := id rfl
@[simp] theorem opnT_101 : opnT 101 = some ([false, false, true, true], true) := id rfl
@[simp] theorem E_fn102 : E.fn 102 = some fn102 := rfl
@[simp] theorem E_grd102 : E.grd 102 = none := id rfl
@[simp] theorem opnT_102 : opnT 102 = none := id rfl
@[simp] theorem E_fn103 : E.fn 103 = some fn103 := rfl
@[simp] theorem E_grd103 : E.grd 103 = none := id rfl
@[simp] theorem opnT_103 : opnT 103 = none := id rfl
@[simp] theorem E_fn104 : E.fn 104 = some fn104 := rfl
@[simp] theorem E_grd104 : E.grd 104 = none := id rfl
@[simp] theorem opnT_104 : opnT 104 = none := id rfl
@[simp] theorem E_fn105 : E.fn 105 = some fn105 := rfl
@[simp] theorem E_grd105 : E.grd 105 = none := id rfl
@[simp] theorem opnT_105 : opnT 105 = some ([false, false, true], true) := id rfl
@[simp] theorem E_fn107 : E.fn 107 = some fn107 := rfl
@[simp] theorem E_grd107 : E.grd 107 = none := id rfl
@[simp] theorem opnT_107 : opnT 107 = none := id rfl
@[simp] theorem E_fn108 : E.fn 108 = some fn108 := rfl
@[simp] theorem E_grd108 : E.grd 108 = none := id rfl
@[simp] theorem opnT_108 : opnT 108 = none := id rfl
@[simp] theorem E_fn110 : E.fn 110 = some fn110 := rfl
@[simp] theorem E_grd110 : E.grd 110 = none := id rfl
@[simp] theorem opnT_110 : opnT 110 = none := id rfl
@[simp] theorem E_fn111 : E.fn 111 = some fn111 := rfl
@[simp] theorem E_grd111 : E.grd 111 = none := id rfl
@[simp] theorem opnT_111 : opnT 111 = none := id rfl
@[simp] theorem E_fn112 : E.fn 112 = some fn112 := rfl
@[simp] theorem E_grd112 : E.grd 112 = none := id rfl
@[simp] theorem opnT_112 : opnT 112 = none := id rfl
@[simp] theorem E_fn113 : E.fn 113 = some fn113 := rfl
@[simp] theorem E_grd113 : E.grd 113 = none := id rfl
@[simp] theorem opnT_113 : opnT 113 = some ([false, false, true, true], true) := id rfl
@[simp] theorem E_fn114 : E.fn 114 = some fn114 := rfl
@[simp] theorem E_grd114 : E.grd 114 = none := id rfl
@[simp] theorem opnT_114 : opnT 114 = some ([true, true], true) := id rfl
@[simp] theorem E_ty1 : E.ty 1 = some ⟨.func, 1, 8, [.nilf], false⟩ := rfl
@[simp] theorem E_ty2 : E.ty 2 = some ⟨.int .i64, 1, 8, [.int .i64 0], false⟩ := rfl
@[simp] theorem E_ty3 : E.ty 3 = some ⟨.int .i64, 1, 8, [.int .i64 0], false⟩ := rfl
@[simp] theorem E_ty4 : E.ty 4 = some ⟨.bool, 1, 1, [.bool false], false⟩ := rfl
@[simp] theorem E_ty5 : E.ty 5 = some ⟨.int .u8, 1, 1, [.int .u8 0], false⟩ := rfl
@[simp] theorem E_ty6 : E.ty 6 = some ⟨.int .u8, 1, 1, [.int .u8 0], false⟩ := rfl
@[simp] theorem E_ty7 : E.ty 7 = some ⟨.strct [(0, 2), (1, 3), (2, 4), (3, 6)], 4, 24, [.int .i64 0, .int .i64 0, .bool false, .int .u8 0], false⟩ := rfl
@[simp] theorem E_ty8 : E.ty 8 = some ⟨.strct [(0, 2), (1, 3), (2, 4), (3, 6)], 4, 24, [.int .i64 0, .int .i64 0, .bool false, .int .u8 0], false⟩ := rfl
@[simp] theorem E_ty9 : E.ty 9 = some ⟨.str, 1, 16, [.str []], false⟩ := rfl
@[simp] theorem E_ty10 : E.ty 10 = some ⟨.str, 1, 16, [.str []], false⟩ := rfl
@[simp] theorem E_ty11 : E.ty 11 = some ⟨.str, 1, 16, [.str []], false⟩ := rfl
@[simp] theorem E_ty12 : E.ty 12 = some ⟨.int .u64, 1, 8, [.int .u64 0], false⟩ := rfl
@[simp] theorem E_ty13 : E.ty 13 = some ⟨.strct [(0, 9), (1, 12)], 2, 24, [.str [], .int .u64 0], false⟩ := rfl
@[simp] theorem E_ty14 : E.ty 14 = some ⟨.strct [(0, 9), (1, 12)], 2, 24, [.str [], .int .u64 0], false⟩ := rfl
@[simp] theorem E_ty15 : E.ty 15 = some ⟨.ptr 162, 1, 8, [.nilp], false⟩ := rfl
@[simp] theorem E_ty16 : E.ty 16 = some ⟨.ptr 165, 1, 8, [.nilp], false⟩ := rfl
@[simp] theorem E_ty17 : E.ty 17 = some ⟨.ptr 174, 1, 8, [.nilp], false⟩ := rfl
@[simp] theorem E_ty18 : E.ty 18 = some ⟨.strct [(0, 17)], 1, 8, [.nilp], false⟩ := rfl
@[simp] theorem E_ty19 : E.ty 19 = some ⟨.strct [(0, 17)], 1, 8, [.nilp], false⟩ := rfl
@[simp] theorem E_ty20 : E.ty 20 = some ⟨.iface true, 1, 16, [.nili], false⟩ := rfl
@[simp] theorem E_ty21 : E.ty 21 = some ⟨.int .i32, 1, 4, [.int .i32 0], false⟩ := rfl
@[simp] theorem E_ty22 : E.ty 22 = some ⟨.slice 5, 1, 24, [.sl true [] (some 0)], false⟩ := rfl
@[simp] theorem E_ty23 : E.ty 23 = some ⟨.func, 1, 8, [.nilf], false⟩ := rfl
@[simp] theorem E_ty24 : E.ty 24 = some ⟨.int .u8, 1, 1, [.int .u8 0], false⟩ := rfl
@[simp] theorem E_ty25 : E.ty 25 = some ⟨.int .u32, 1, 4, [.int .u32 0], false⟩ := rfl
@[simp] theorem E_ty26 : E.ty 26 = some ⟨.strct [(0, 24), (1, 4), (2, 25)], 3, 8, [.int .u8 0, .bool false, .int .u32 0], false⟩ := rfl
@[simp] theorem E_ty27 : E.ty 27 = some ⟨.strct [(0, 24), (1, 4), (2, 25)], 3, 8, [.int .u8 0, .bool false, .int .u32 0], true⟩ := rfl
@[simp] theorem E_ty28 : E.ty 28 = some ⟨.slice 30, 1, 24, [.sl true [] (some 0)], false⟩ := rfl
@[simp] theorem E_ty29 : E.ty 29 = some ⟨.strct [(0, 27), (3, 22), (4, 28)], 5, 56, [.int .u8 0, .bool false, .int .u32 0, .sl true [] (some 0), .sl true [] (some 0)], false⟩ := rfl
@[simp] theorem E_ty30 : E.ty 30 = some ⟨.strct [(0, 27), (3, 22), (4, 28)], 5, 56, [.int .u8 0, .bool false, .int .u32 0, .sl true [] (some 0), .sl true [] (some 0)], false⟩ := rfl
@[simp] theorem E_ty32 : E.ty 32 = some ⟨.func, 1, 8, [.nilf], false⟩ := rfl
@[simp] theorem E_ty33 : E.ty 33 = some ⟨.func, 1, 8, [.nilf], false⟩ := rfl
@[simp] theorem E_ty34 : E.ty 34 = some ⟨.int .i64, 1, 8, [.int .i64 0], false⟩ := rfl
@[simp] theorem E_ty36 : E.ty 36 = some ⟨.func, 1, 8, [.nilf], false⟩ := rfl
@[simp] theorem E_ty37 : E.ty 37 = some ⟨.func, 1, 8, [.nilf], false⟩ := rfl
@[simp] theorem E_ty38 : E.ty 38 = some ⟨.slice 107, 1, 24, [.sl true [] (some 0)], false⟩ := rfl
@[simp] theorem E_ty39 : E.ty 39 = some ⟨.strct [(0, 38)], 1, 24, [.sl true [] (some 0)], false⟩ := rfl
@[simp] theorem E_ty40 : E.ty 40 = some ⟨.strct [(0, 38)], 1, 24, [.sl true [] (some 0)], false⟩ := rfl
@[simp] theorem E_ty41 : E.ty 41 = some ⟨.int .u16, 1, 2, [.int .u16 0], false⟩ := rfl
@[simp] theorem E_ty42 : E.ty 42 = some ⟨.func, 1, 8, [.nilf], false⟩ := rfl
@[simp] theorem E_ty44 : E.ty 44 = some ⟨.func, 1, 8, [.nilf], false⟩ := rfl
@[simp] theorem E_ty45 : E.ty 45 = some ⟨.func, 1, 8, [.nilf], false⟩ := rfl
@[simp] theorem E_ty46 : E.ty 46 = some ⟨.func, 1, 8, [.nilf], false⟩ := rfl
@[simp] theorem E_ty47 : E.ty 47 = some ⟨.slice 3, 1, 24, [.sl true [] (some 0)], false⟩ := rfl
@[simp] theorem E_ty49 : E.ty 49 = some ⟨.func, 1, 8, [.nilf], false⟩ := rfl
@[simp] theorem E_ty50 : E.ty 50 = some ⟨.func, 1, 8, [.nilf], false⟩ := rfl
@[simp] theorem E_ty51 : E.ty 51 = some ⟨.func, 1, 8, [.nilf], false⟩ := rfl
@[simp] theorem E_ty52 : E.ty 52 = some ⟨.func, 1, 8, [.nilf], false⟩ := rfl
@[simp] theorem E_ty53 : E.ty 53 = some ⟨.func, 1, 8, [.nilf], false⟩ := rfl
@[simp] theorem E_ty54 : E.ty 54 = some ⟨.func, 1, 8, [.nilf], false⟩ := rfl
@[simp] theorem E_ty55 : E.ty 55 = some ⟨.func, 1, 8, [.nilf], false⟩ := rfl
@[simp] theorem E_ty57 : E.ty 57 = some ⟨.func, 1, 8, [.nilf], false⟩ := rfl
@[simp] theorem E_ty58 : E.ty 58 = some ⟨.func, 1, 8, [.nilf], false⟩ := rfl
@[simp] theorem E_ty59 : E.ty 59 = some ⟨.func, 1, 8, [.nilf], false⟩ := rfl
@[simp] theorem E_ty60 : E.ty 60 = some ⟨.func, 1, 8, [.nilf], false⟩ := rfl
@[simp] theorem E_ty61 : E.ty 61 = some ⟨.func, 1, 8, [.nilf], false⟩ := rfl
@[simp] theorem E_ty63 : E.ty 63 = some ⟨.func, 1, 8, [.nilf], false⟩ := rfl
@[simp] theorem E_ty64 : E.ty 64 = some ⟨.strct [(0, 22)], 1, 24, [.sl true [] (some 0)], false⟩ := rfl
@[simp] theorem E_ty65 : E.ty 65 = some ⟨.strct [(0, 22)], 1, 24, [.sl true [] (some 0)], false⟩ := rfl
@[simp] theorem E_ty66 : E.ty 66 = some ⟨.slice 125, 1, 24, [.sl true [] (some 0)], false⟩ := rfl
@[simp] theorem E_ty67 : E.ty 67 = some ⟨.slice 78, 1, 24, [.sl true [] (some 0)], false⟩ := rfl
@[simp] theorem E_ty68 : E.ty 68 = some ⟨.func, 1, 8, [.nilf], false⟩ := rfl
@[simp] theorem E_ty69 : E.ty 69 = some ⟨.func, 1, 8, [.nilf], false⟩ := rfl
@[simp] theorem E_ty70 : E.ty 70 = some ⟨.strct [(0, 47), (1, 34)], 2, 32, [.sl true [] (some 0), .int .i64 0], false⟩ := rfl
@[simp] theorem E_ty71 : E.ty 71 = some ⟨.strct [(0, 47), (1, 34)], 2, 32, [.sl true [] (some 0), .int .i64 0], false⟩ := rfl
@[simp] theorem E_ty73 : E.ty 73 = some ⟨.func, 1, 8, [.nilf], false⟩ := rfl
@[simp] theorem E_ty74 : E.ty 74 = some ⟨.func, 1, 8, [.nilf], false⟩ := rfl
@[simp] theorem E_ty75 : E.ty 75 = some ⟨.func, 1, 8, [.nilf], false⟩ := rfl
@[simp] theorem E_ty76 : E.ty 76 = some ⟨.func, 1, 8, [.nilf], false⟩ := rfl
@[simp] theorem E_ty77 : E.ty 77 = some ⟨.strct [(0, 27), (3, 4), (4, 4)], 5, 12, [.int .u8 0, .bool false, .int .u32 0, .bool false, .bool false], false⟩ := rfl
@[simp] theorem E_ty78 : E.ty 78 = some ⟨.strct [(0, 27), (3, 4), (4, 4)], 5, 12, [.int .u8 0, .bool false, .int .u32 0, .bool false, .bool false], false⟩ := rfl
@[simp] theorem E_ty79 : E.ty 79 = some ⟨.func, 1, 8, [.nilf], false⟩ := rfl
@[simp] theorem E_ty80 : E.ty 80 = some ⟨.func, 1, 8, [.nilf], false⟩ := rfl
@[simp] theorem E_ty81 : E.ty 81 = some ⟨.func, 1, 8, [.nilf], false⟩ := rfl
@[simp] theorem E_ty82 : E.ty 82 = some ⟨.arr 2 3, 2, 16, [.int .i64 0, .int .i64 0], false⟩ := rfl
@[simp] theorem E_ty83 : E.ty 83 = some ⟨.func, 1, 8, [.nilf], false⟩ := rfl
@[simp] theorem E_ty85 : E.ty 85 = some ⟨.func, 1, 8, [.nilf], false⟩ := rfl
@[simp] theorem E_ty86 : E.ty 86 = some ⟨.func, 1, 8, [.nilf], false⟩ := rfl
@[simp] theorem E_ty87 : E.ty 87 = some ⟨.func, 1, 8, [.nilf], false⟩ := rfl
@[simp] theorem E_ty88 : E.ty 88 = some ⟨.func, 1, 8, [.nilf], false⟩ := rfl
@[simp] theorem E_ty89 : E.ty 89 = some ⟨.func, 1, 8, [.nilf], false⟩ := rfl
@[simp] theorem E_ty90 : E.ty 90 = some ⟨.func, 1, 8, [.nilf], false⟩ := rfl
@[simp] theorem E_ty92 : E.ty 92 = some ⟨.func, 1, 8, [.nilf], false⟩ := rfl
@[simp] theorem E_ty93 : E.ty 93 = some ⟨.func, 1, 8, [.nilf], false⟩ := rfl
@[simp] theorem E_ty94 : E.ty 94 = some ⟨.func, 1, 8, [.nilf], false⟩ := rfl
@[simp] theorem E_ty95 : E.ty 95 = some ⟨.func, 1, 8, [.nilf], false⟩ := rfl
@[simp] theorem E_ty96 : E.ty 96 = some ⟨.func, 1, 8, [.nilf], false⟩ := rfl
@[simp] theorem E_ty97 : E.ty 97 = some ⟨.ptr 3, 1, 8, [.nilp], false⟩ := rfl
@[simp] theorem E_ty98 : E.ty 98 = some ⟨.func, 1, 8, [.nilf], false⟩ := rfl
@[simp] theorem E_ty99 : E.ty 99 = some ⟨.func, 1, 8, [.nilf], false⟩ := rfl
@[simp] theorem E_ty100 : E.ty 100 = some ⟨.func, 1, 8, [.nilf], false⟩ := rfl
@[simp] theorem E_ty102 : E.ty 102 = some ⟨.func, 1, 8, [.nilf], false⟩ := rfl
@[simp] theorem E_ty103 : E.ty 103 = some ⟨.func, 1, 8, [.nilf], false⟩ := rfl
@[simp] theorem E_ty104 : E.ty 104 = some ⟨.strct [(0, 5), (1, 5), (2, 25)], 3, 8, [.int .u8 0, .int .u8 0, .int .u32 0], false⟩ := rfl
@[simp] theorem E_ty105 : E.ty 105 = some ⟨.strct [(0, 5), (1, 5), (2, 25)], 3, 8, [.int .u8 0, .int .u8 0, .int .u32 0], false⟩ := rfl
@[simp] theorem E_ty106 : E.ty 106 = some ⟨.strct [(0, 5), (1, 5), (2, 105), (5, 22)], 6, 40, [.int .u8 0, .int .u8 0, .int .u8 0, .int .u8 0, .int .u32 0, .sl true [] (some 0)], false⟩ := rfl
@[simp] theorem E_ty107 : E.ty 107 = some ⟨.strct [(0, 5), (1, 5), (2, 105), (5, 22)], 6, 40, [.int .u8 0, .int .u8 0, .int .u8 0, .int .u8 0, .int .u32 0, .sl true [] (some 0)], false⟩ := rfl
@[simp] theorem E_ty108 : E.ty 108 = some ⟨.func, 1, 8, [.nilf], false⟩ := rfl
@[simp] theorem E_ty109 : E.ty 109 = some ⟨.strct [(0, 3), (1, 34)], 2, 16, [.int .i64 0, .int .i64 0], false⟩ := rfl
@[simp] theorem E_ty110 : E.ty 110 = some ⟨.strct [(0, 3), (1, 34)], 2, 16, [.int .i64 0, .int .i64 0], false⟩ := rfl
@[simp] theorem E_ty112 : E.ty 112 = some ⟨.strct [(0, 22), (1, 3)], 2, 32, [.sl true [] (some 0), .int .i64 0], false⟩ := rfl
@[simp] theorem E_ty113 : E.ty 113 = some ⟨.strct [(0, 22), (1, 3)], 2, 32, [.sl true [] (some 0), .int .i64 0], false⟩ := rfl
@[simp] theorem E_ty115 : E.ty 115 = some ⟨.func, 1, 8, [.nilf], false⟩ := rfl
@[simp] theorem E_ty117 : E.ty 117 = some ⟨.func, 1, 8, [.nilf], false⟩ := rfl
@[simp] theorem E_ty118 : E.ty 118 = some ⟨.func, 1, 8, [.nilf], false⟩ := rfl
@[simp] theorem E_ty119 : E.ty 119 = some ⟨.func, 1, 8, [.nilf], false⟩ := rfl
@[simp] theorem E_ty120 : E.ty 120 = some ⟨.func, 1, 8, [.nilf], false⟩ := rfl
@[simp] theorem E_ty121 : E.ty 121 = some ⟨.func, 1, 8, [.nilf], false⟩ := rfl
@[simp] theorem E_ty123 : E.ty 123 = some ⟨.func, 1, 8, [.nilf], false⟩ := rfl
@[simp] theorem E_ty124 : E.ty 124 = some ⟨.strct [(0, 5), (1, 5)], 2, 2, [.int .u8 0, .int .u8 0], false⟩ := rfl
@[simp] theorem E_ty125 : E.ty 125 = some ⟨.strct [(0, 5), (1, 5)], 2, 2, [.int .u8 0, .int .u8 0], false⟩ := rfl
@[simp] theorem E_ty126 : E.ty 126 = some ⟨.func, 1, 8, [.nilf], false⟩ := rfl
@[simp] theorem E_ty127 : E.ty 127 = some ⟨.func, 1, 8, [.nilf], false⟩ := rfl
@[simp] theorem E_ty128 : E.ty 128 = some ⟨.func, 1, 8, [.nilf], false⟩ := rfl
@[simp] theorem E_ty130 : E.ty 130 = some ⟨.func, 1, 8, [.nilf], false⟩ := rfl
@[simp] theorem E_ty132 : E.ty 132 = some ⟨.func, 1, 8, [.nilf], false⟩ := rfl
@[simp] theorem E_ty133 : E.ty 133 = some ⟨.func, 1, 8, [.nilf], false⟩ := rfl
@[simp] theorem E_ty134 : E.ty 134 = some ⟨.func, 1, 8, [.nilf], false⟩ := rfl
@[simp] theorem E_ty135 : E.ty 135 = some ⟨.func, 1, 8, [.nilf], false⟩ := rfl
@[simp] theorem E_ty136 : E.ty 136 = some ⟨.ptr 113, 1, 8, [.nilp], false⟩ := rfl
@[simp] theorem E_ty138 : E.ty 138 = some ⟨.func, 1, 8, [.nilf], false⟩ := rfl
@[simp] theorem E_ty140 : E.ty 140 = some ⟨.func, 1, 8, [.nilf], false⟩ := rfl
@[simp] theorem E_ty141 : E.ty 141 = some ⟨.func, 1, 8, [.nilf], false⟩ := rfl
@[simp] theorem E_ty142 : E.ty 142 = some ⟨.func, 1, 8, [.nilf], false⟩ := rfl
@[simp] theorem E_ty143 : E.ty 143 = some ⟨.func, 1, 8, [.nilf], false⟩ := rfl
@[simp] theorem E_ty144 : E.ty 144 = some ⟨.func, 1, 8, [.nilf], false⟩ := rfl
@[simp] theorem E_ty145 : E.ty 145 = some ⟨.func, 1, 8, [.nilf], false⟩ := rfl
@[simp] theorem E_ty146 : E.ty 146 = some ⟨.func, 1, 8, [.nilf], false⟩ := rfl
@[simp] theorem E_ty147 : E.ty 147 = some ⟨.func, 1, 8, [.nilf], false⟩ := rfl
@[simp] theorem E_ty148 : E.ty 148 = some ⟨.func, 1, 8, [.nilf], false⟩ := rfl
@[simp] theorem E_ty149 : E.ty 149 = some ⟨.func, 1, 8, [.nilf], false⟩ := rfl
@[simp] theorem E_ty150 : E.ty 150 = some ⟨.func, 1, 8, [.nilf], false⟩ := rfl
@[simp] theorem E_ty151 : E.ty 151 = some ⟨.int .u64, 1, 8, [.int .u64 0], false⟩ := rfl
@[simp] theorem E_ty152 : E.ty 152 = some ⟨.func, 1, 8, [.nilf], false⟩ := rfl
@[simp] theorem E_ty153 : E.ty 153 = some ⟨.func, 1, 8, [.nilf], false⟩ := rfl
@[simp] theorem E_ty154 : E.ty 154 = some ⟨.func, 1, 8, [.nilf], false⟩ := rfl
@[simp] theorem E_ty156 : E.ty 156 = some ⟨.func, 1, 8, [.nilf], false⟩ := rfl
@[simp] theorem E_ty157 : E.ty 157 = some ⟨.arr 3 5, 3, 3, [.int .u8 0, .int .u8 0, .int .u8 0], false⟩ := rfl
@[simp] theorem E_ty158 : E.ty 158 = some ⟨.arr 3 5, 3, 3, [.int .u8 0, .int .u8 0, .int .u8 0], false⟩ := rfl
@[simp] theorem E_ty159 : E.ty 159 = some ⟨.func, 1, 8, [.nilf], false⟩ := rfl
@[simp] theorem E_ty160 : E.ty 160 = some ⟨.func, 1, 8, [.nilf], false⟩ := rfl
@[simp] theorem E_ty161 : E.ty 161 = some ⟨.strct [(0, 17), (1, 17), (2, 17), (3, 9)], 4, 40, [.nilp, .nilp, .nilp, .str []], false⟩ := rfl
@[simp] theorem E_ty162 : E.ty 162 = some ⟨.strct [(0, 17), (1, 17), (2, 17), (3, 9)], 4, 40, [.nilp, .nilp, .nilp, .str []], false⟩ := rfl
@[simp] theorem E_ty163 : E.ty 163 = some ⟨.arr 0 16, 0, 0, [], false⟩ := rfl
@[simp] theorem E_ty164 : E.ty 164 = some ⟨.strct [(0, 163)], 0, 0, [], false⟩ := rfl
@[simp] theorem E_ty165 : E.ty 165 = some ⟨.strct [(0, 163)], 0, 0, [], false⟩ := rfl
@[simp] theorem E_ty166 : E.ty 166 = some ⟨.func, 1, 8, [.nilf], false⟩ := rfl
@[simp] theorem E_ty167 : E.ty 167 = some ⟨.int .u8, 1, 1, [.int .u8 0], false⟩ := rfl
@[simp] theorem E_ty168 : E.ty 168 = some ⟨.int .u8, 1, 1, [.int .u8 0], false⟩ := rfl
@[simp] theorem E_ty169 : E.ty 169 = some ⟨.func, 1, 8, [.nilf], false⟩ := rfl
@[simp] theorem E_ty170 : E.ty 170 = some ⟨.ptr 5, 1, 8, [.nilp], false⟩ := rfl
@[simp] theorem E_ty171 : E.ty 171 = some ⟨.int .i32, 1, 4, [.int .i32 0], false⟩ := rfl
@[simp] theorem E_ty172 : E.ty 172 = some ⟨.int .i32, 1, 4, [.int .i32 0], false⟩ := rfl
@[simp] theorem E_ty173 : E.ty 173 = some ⟨.strct [(0, 12), (1, 12), (2, 25), (3, 167), (4, 5), (5, 5), (6, 168), (7, 169), (8, 170), (9, 171), (10, 172)], 11, 48, [.int .u64 0, .int .u64 0, .int .u32 0, .int .u8 0, .int .u8 0, .int .u8 0, .int .u8 0, .nilf, .nilp, .int .i32 0, .int .i32 0], false⟩ := rfl
@[simp] theorem E_ty174 : E.ty 174 = some ⟨.strct [(0, 12), (1, 12), (2, 25), (3, 167), (4, 5), (5, 5), (6, 168), (7, 169), (8, 170), (9, 171), (10, 172)], 11, 48, [.int .u64 0, .int .u64 0, .int .u32 0, .int .u8 0, .int .u8 0, .int .u8 0, .int .u8 0, .nilf, .nilp, .int .i32 0, .int .i32 0], false⟩ := rfl

end TabE
