/- Closed facts about the program's types. No condition. -/
import Derived.Test.YtjeiboididfgmaaGreatDoorVj
import Derived.Test.YtjeiboididfgmaaGreatDoorProg
set_option linter.unusedVariables false
set_option linter.unusedSimpArgs false
set_option linter.defProp false
namespace Go.V
open Go Go.Proofs.Tryz
theorem ti2 : tiOf prog 2 = some ⟨.int .i64, 1, 8, .val (.int .i64 0)⟩ := by kernel_rfl
theorem td2 : tdAt prog 2 = some (.int .i64) := by kernel_rfl
theorem ti3 : tiOf prog 3 = some ⟨.int .i64, 1, 8, .val (.int .i64 0)⟩ := by kernel_rfl
theorem td3 : tdAt prog 3 = some (.int .i64) := by kernel_rfl
theorem ti4 : tiOf prog 4 = some ⟨.bool, 1, 1, .val (.bool false)⟩ := by kernel_rfl
theorem td4 : tdAt prog 4 = some (.bool) := by kernel_rfl
theorem ti5 : tiOf prog 5 = some ⟨.int .u8, 1, 1, .val (.int .u8 0)⟩ := by kernel_rfl
theorem td5 : tdAt prog 5 = some (.int .u8) := by kernel_rfl
theorem ti6 : tiOf prog 6 = some ⟨.int .u8, 1, 1, .val (.int .u8 0)⟩ := by kernel_rfl
theorem td6 : tdAt prog 6 = some (.int .u8) := by kernel_rfl
theorem ti7 : tiOf prog 7 = some ⟨.struct [(0, 1, false), (1, 1, false), (2, 1, false), (3, 1, false)], 4, 24, .agg [.val (.int .i64 0), .val (.int .i64 0), .val (.bool false), .val (.int .u8 0)]⟩ := by kernel_rfl
theorem td7 : tdAt prog 7 = some (.struct [(0, 1, false), (1, 1, false), (2, 1, false), (3, 1, false)]) := by kernel_rfl
theorem ti8 : tiOf prog 8 = some ⟨.struct [(0, 1, false), (1, 1, false), (2, 1, false), (3, 1, false)], 4, 24, .agg [.val (.int .i64 0), .val (.int .i64 0), .val (.bool false), .val (.int .u8 0)]⟩ := by kernel_rfl
theorem td8 : tdAt prog 8 = some (.struct [(0, 1, false), (1, 1, false), (2, 1, false), (3, 1, false)]) := by kernel_rfl
theorem ti9 : tiOf prog 9 = some ⟨.str, 1, 16, .val (.string ⟨#[]⟩)⟩ := by kernel_rfl
theorem td9 : tdAt prog 9 = some (.str) := by kernel_rfl
theorem ti10 : tiOf prog 10 = some ⟨.str, 1, 16, .val (.string ⟨#[]⟩)⟩ := by kernel_rfl
theorem td10 : tdAt prog 10 = some (.str) := by kernel_rfl
theorem ti11 : tiOf prog 11 = some ⟨.str, 1, 16, .val (.string ⟨#[]⟩)⟩ := by kernel_rfl
theorem td11 : tdAt prog 11 = some (.str) := by kernel_rfl
theorem ti12 : tiOf prog 12 = some ⟨.int .u64, 1, 8, .val (.int .u64 0)⟩ := by kernel_rfl
theorem td12 : tdAt prog 12 = some (.int .u64) := by kernel_rfl
theorem ti13 : tiOf prog 13 = some ⟨.struct [(0, 1, false), (1, 1, false)], 2, 24, .agg [.val (.string ⟨#[]⟩), .val (.int .u64 0)]⟩ := by kernel_rfl
theorem td13 : tdAt prog 13 = some (.struct [(0, 1, false), (1, 1, false)]) := by kernel_rfl
theorem ti14 : tiOf prog 14 = some ⟨.struct [(0, 1, false), (1, 1, false)], 2, 24, .agg [.val (.string ⟨#[]⟩), .val (.int .u64 0)]⟩ := by kernel_rfl
theorem td14 : tdAt prog 14 = some (.struct [(0, 1, false), (1, 1, false)]) := by kernel_rfl
theorem ti15 : tiOf prog 15 = some ⟨.ptr, 1, 8, .val (.pointer none)⟩ := by kernel_rfl
theorem td15 : tdAt prog 15 = some (.ptr) := by kernel_rfl
theorem ti16 : tiOf prog 16 = some ⟨.ptr, 1, 8, .val (.pointer none)⟩ := by kernel_rfl
theorem td16 : tdAt prog 16 = some (.ptr) := by kernel_rfl
theorem ti17 : tiOf prog 17 = some ⟨.ptr, 1, 8, .val (.pointer none)⟩ := by kernel_rfl
theorem td17 : tdAt prog 17 = some (.ptr) := by kernel_rfl
theorem ti18 : tiOf prog 18 = some ⟨.struct [(0, 1, false)], 1, 8, .agg [.val (.pointer none)]⟩ := by kernel_rfl
theorem td18 : tdAt prog 18 = some (.struct [(0, 1, false)]) := by kernel_rfl
theorem ti19 : tiOf prog 19 = some ⟨.struct [(0, 1, false)], 1, 8, .agg [.val (.pointer none)]⟩ := by kernel_rfl
theorem td19 : tdAt prog 19 = some (.struct [(0, 1, false)]) := by kernel_rfl
theorem ti20 : tiOf prog 20 = some ⟨.iface, 1, 16, .val .nilIface⟩ := by kernel_rfl
theorem td20 : tdAt prog 20 = some (.iface) := by kernel_rfl
theorem ti21 : tiOf prog 21 = some ⟨.int .i32, 1, 4, .val (.int .i32 0)⟩ := by kernel_rfl
theorem td21 : tdAt prog 21 = some (.int .i32) := by kernel_rfl
theorem ti22 : tiOf prog 22 = some ⟨.int .i64, 1, 8, .val (.int .i64 0)⟩ := by kernel_rfl
theorem td22 : tdAt prog 22 = some (.int .i64) := by kernel_rfl
theorem ti23 : tiOf prog 23 = some ⟨.slice 9 1, 1, 24, .nil0⟩ := by kernel_rfl
theorem td23 : tdAt prog 23 = some (.slice 9 1) := by kernel_rfl
theorem ti24 : tiOf prog 24 = some ⟨.slice 27 7, 1, 24, .nil0⟩ := by kernel_rfl
theorem td24 : tdAt prog 24 = some (.slice 27 7) := by kernel_rfl
theorem ti25 : tiOf prog 25 = some ⟨.slice 85 9, 1, 24, .nil0⟩ := by kernel_rfl
theorem td25 : tdAt prog 25 = some (.slice 85 9) := by kernel_rfl
theorem ti26 : tiOf prog 26 = some ⟨.struct [(0, 1, false), (1, 1, false), (2, 1, false), (3, 1, false), (4, 1, false), (5, 1, false), (6, 1, false)], 7, 120, .agg [.val (.int .i64 0), .val (.int .i64 0), .val (.string ⟨#[]⟩), .val (.string ⟨#[]⟩), .nil0, .nil0, .nil0]⟩ := by kernel_rfl
theorem td26 : tdAt prog 26 = some (.struct [(0, 1, false), (1, 1, false), (2, 1, false), (3, 1, false), (4, 1, false), (5, 1, false), (6, 1, false)]) := by kernel_rfl
theorem ti27 : tiOf prog 27 = some ⟨.struct [(0, 1, false), (1, 1, false), (2, 1, false), (3, 1, false), (4, 1, false), (5, 1, false), (6, 1, false)], 7, 120, .agg [.val (.int .i64 0), .val (.int .i64 0), .val (.string ⟨#[]⟩), .val (.string ⟨#[]⟩), .nil0, .nil0, .nil0]⟩ := by kernel_rfl
theorem td27 : tdAt prog 27 = some (.struct [(0, 1, false), (1, 1, false), (2, 1, false), (3, 1, false), (4, 1, false), (5, 1, false), (6, 1, false)]) := by kernel_rfl
theorem ti28 : tiOf prog 28 = some ⟨.int .i64, 1, 8, .val (.int .i64 0)⟩ := by kernel_rfl
theorem td28 : tdAt prog 28 = some (.int .i64) := by kernel_rfl
theorem ti60 : tiOf prog 60 = some ⟨.struct [(0, 1, false), (1, 1, false), (2, 7, true), (9, 7, true)], 16, 272, .agg [.val (.string ⟨#[]⟩), .val (.string ⟨#[]⟩), .val (.int .i64 0), .val (.int .i64 0), .val (.string ⟨#[]⟩), .val (.string ⟨#[]⟩), .nil0, .nil0, .nil0, .val (.int .i64 0), .val (.int .i64 0), .val (.string ⟨#[]⟩), .val (.string ⟨#[]⟩), .nil0, .nil0, .nil0]⟩ := by kernel_rfl
theorem td60 : tdAt prog 60 = some (.struct [(0, 1, false), (1, 1, false), (2, 7, true), (9, 7, true)]) := by kernel_rfl
theorem ti61 : tiOf prog 61 = some ⟨.struct [(0, 1, false), (1, 1, false), (2, 7, true), (9, 7, true)], 16, 272, .agg [.val (.string ⟨#[]⟩), .val (.string ⟨#[]⟩), .val (.int .i64 0), .val (.int .i64 0), .val (.string ⟨#[]⟩), .val (.string ⟨#[]⟩), .nil0, .nil0, .nil0, .val (.int .i64 0), .val (.int .i64 0), .val (.string ⟨#[]⟩), .val (.string ⟨#[]⟩), .nil0, .nil0, .nil0]⟩ := by kernel_rfl
theorem td61 : tdAt prog 61 = some (.struct [(0, 1, false), (1, 1, false), (2, 7, true), (9, 7, true)]) := by kernel_rfl
theorem ti67 : tiOf prog 67 = some ⟨.map 9 4, 1, 8, .val (.map none)⟩ := by kernel_rfl
theorem td67 : tdAt prog 67 = some (.map 9 4) := by kernel_rfl
theorem ti77 : tiOf prog 77 = some ⟨.ptr, 1, 8, .val (.pointer none)⟩ := by kernel_rfl
theorem td77 : tdAt prog 77 = some (.ptr) := by kernel_rfl
theorem ti79 : tiOf prog 79 = some ⟨.ptr, 1, 8, .val (.pointer none)⟩ := by kernel_rfl
theorem td79 : tdAt prog 79 = some (.ptr) := by kernel_rfl
theorem ti80 : tiOf prog 80 = some ⟨.struct [(0, 1, false), (1, 7, true), (8, 1, false), (9, 1, false), (10, 1, false)], 11, 160, .agg [.val (.string ⟨#[]⟩), .val (.int .i64 0), .val (.int .i64 0), .val (.string ⟨#[]⟩), .val (.string ⟨#[]⟩), .nil0, .nil0, .nil0, .val (.map none), .val (.map none), .val (.map none)]⟩ := by kernel_rfl
theorem td80 : tdAt prog 80 = some (.struct [(0, 1, false), (1, 7, true), (8, 1, false), (9, 1, false), (10, 1, false)]) := by kernel_rfl
theorem ti81 : tiOf prog 81 = some ⟨.struct [(0, 1, false), (1, 7, true), (8, 1, false), (9, 1, false), (10, 1, false)], 11, 160, .agg [.val (.string ⟨#[]⟩), .val (.int .i64 0), .val (.int .i64 0), .val (.string ⟨#[]⟩), .val (.string ⟨#[]⟩), .nil0, .nil0, .nil0, .val (.map none), .val (.map none), .val (.map none)]⟩ := by kernel_rfl
theorem td81 : tdAt prog 81 = some (.struct [(0, 1, false), (1, 7, true), (8, 1, false), (9, 1, false), (10, 1, false)]) := by kernel_rfl
theorem ti84 : tiOf prog 84 = some ⟨.struct [(0, 1, false), (1, 1, false), (2, 7, true)], 9, 160, .agg [.val (.string ⟨#[]⟩), .nil0, .val (.int .i64 0), .val (.int .i64 0), .val (.string ⟨#[]⟩), .val (.string ⟨#[]⟩), .nil0, .nil0, .nil0]⟩ := by kernel_rfl
theorem td84 : tdAt prog 84 = some (.struct [(0, 1, false), (1, 1, false), (2, 7, true)]) := by kernel_rfl
theorem ti85 : tiOf prog 85 = some ⟨.struct [(0, 1, false), (1, 1, false), (2, 7, true)], 9, 160, .agg [.val (.string ⟨#[]⟩), .nil0, .val (.int .i64 0), .val (.int .i64 0), .val (.string ⟨#[]⟩), .val (.string ⟨#[]⟩), .nil0, .nil0, .nil0]⟩ := by kernel_rfl
theorem td85 : tdAt prog 85 = some (.struct [(0, 1, false), (1, 1, false), (2, 7, true)]) := by kernel_rfl
theorem ti87 : tiOf prog 87 = some ⟨.func, 1, 8, .val .nilFunc⟩ := by kernel_rfl
theorem td87 : tdAt prog 87 = some (.func) := by kernel_rfl
theorem ti89 : tiOf prog 89 = some ⟨.func, 1, 8, .val .nilFunc⟩ := by kernel_rfl
theorem td89 : tdAt prog 89 = some (.func) := by kernel_rfl
theorem ti90 : tiOf prog 90 = some ⟨.struct [(0, 1, false)], 1, 8, .agg [.val .nilFunc]⟩ := by kernel_rfl
theorem td90 : tdAt prog 90 = some (.struct [(0, 1, false)]) := by kernel_rfl
theorem ti91 : tiOf prog 91 = some ⟨.struct [(0, 1, false)], 1, 8, .agg [.val .nilFunc]⟩ := by kernel_rfl
theorem td91 : tdAt prog 91 = some (.struct [(0, 1, false)]) := by kernel_rfl
theorem ti93 : tiOf prog 93 = some ⟨.map 4 67, 1, 8, .val (.map none)⟩ := by kernel_rfl
theorem td93 : tdAt prog 93 = some (.map 4 67) := by kernel_rfl
theorem ti102 : tiOf prog 102 = some ⟨.struct [(0, 1, false), (1, 1, false)], 2, 16, .agg [.val (.int .i64 0), .val (.int .i64 0)]⟩ := by kernel_rfl
theorem td102 : tdAt prog 102 = some (.struct [(0, 1, false), (1, 1, false)]) := by kernel_rfl
theorem ti103 : tiOf prog 103 = some ⟨.struct [(0, 1, false), (1, 1, false)], 2, 16, .agg [.val (.int .i64 0), .val (.int .i64 0)]⟩ := by kernel_rfl
theorem td103 : tdAt prog 103 = some (.struct [(0, 1, false), (1, 1, false)]) := by kernel_rfl
theorem ti111 : tiOf prog 111 = some ⟨.ptr, 1, 8, .val (.pointer none)⟩ := by kernel_rfl
theorem td111 : tdAt prog 111 = some (.ptr) := by kernel_rfl
theorem ti115 : tiOf prog 115 = some ⟨.func, 1, 8, .val .nilFunc⟩ := by kernel_rfl
theorem td115 : tdAt prog 115 = some (.func) := by kernel_rfl
theorem ti119 : tiOf prog 119 = some ⟨.struct [(0, 1, false), (1, 1, false)], 2, 48, .agg [.nil0, .nil0]⟩ := by kernel_rfl
theorem td119 : tdAt prog 119 = some (.struct [(0, 1, false), (1, 1, false)]) := by kernel_rfl
theorem ti120 : tiOf prog 120 = some ⟨.struct [(0, 1, false), (1, 1, false)], 2, 48, .agg [.nil0, .nil0]⟩ := by kernel_rfl
theorem td120 : tdAt prog 120 = some (.struct [(0, 1, false), (1, 1, false)]) := by kernel_rfl
theorem ti121 : tiOf prog 121 = some ⟨.struct [(0, 2, true), (2, 7, true)], 9, 168, .agg [.nil0, .nil0, .val (.int .i64 0), .val (.int .i64 0), .val (.string ⟨#[]⟩), .val (.string ⟨#[]⟩), .nil0, .nil0, .nil0]⟩ := by kernel_rfl
theorem td121 : tdAt prog 121 = some (.struct [(0, 2, true), (2, 7, true)]) := by kernel_rfl
theorem ti122 : tiOf prog 122 = some ⟨.struct [(0, 2, true), (2, 7, true)], 9, 168, .agg [.nil0, .nil0, .val (.int .i64 0), .val (.int .i64 0), .val (.string ⟨#[]⟩), .val (.string ⟨#[]⟩), .nil0, .nil0, .nil0]⟩ := by kernel_rfl
theorem td122 : tdAt prog 122 = some (.struct [(0, 2, true), (2, 7, true)]) := by kernel_rfl
theorem ti126 : tiOf prog 126 = some ⟨.struct [(0, 1, false)], 1, 8, .agg [.val (.int .i64 0)]⟩ := by kernel_rfl
theorem td126 : tdAt prog 126 = some (.struct [(0, 1, false)]) := by kernel_rfl
theorem ti127 : tiOf prog 127 = some ⟨.struct [(0, 1, false)], 1, 8, .agg [.val (.int .i64 0)]⟩ := by kernel_rfl
theorem td127 : tdAt prog 127 = some (.struct [(0, 1, false)]) := by kernel_rfl
theorem ti131 : tiOf prog 131 = some ⟨.struct [(0, 1, false), (1, 1, false), (2, 1, false)], 3, 24, .agg [.val (.int .i64 0), .val (.int .i64 0), .val (.bool false)]⟩ := by kernel_rfl
theorem td131 : tdAt prog 131 = some (.struct [(0, 1, false), (1, 1, false), (2, 1, false)]) := by kernel_rfl
theorem ti132 : tiOf prog 132 = some ⟨.struct [(0, 1, false), (1, 1, false), (2, 1, false)], 3, 24, .agg [.val (.int .i64 0), .val (.int .i64 0), .val (.bool false)]⟩ := by kernel_rfl
theorem td132 : tdAt prog 132 = some (.struct [(0, 1, false), (1, 1, false), (2, 1, false)]) := by kernel_rfl
theorem ti136 : tiOf prog 136 = some ⟨.ptr, 1, 8, .val (.pointer none)⟩ := by kernel_rfl
theorem td136 : tdAt prog 136 = some (.ptr) := by kernel_rfl
theorem ti138 : tiOf prog 138 = some ⟨.slice 122 9, 1, 24, .nil0⟩ := by kernel_rfl
theorem td138 : tdAt prog 138 = some (.slice 122 9) := by kernel_rfl
theorem ti139 : tiOf prog 139 = some ⟨.struct [(0, 2, true), (2, 2, true), (4, 1, false)], 5, 104, .agg [.nil0, .nil0, .nil0, .nil0, .val (.pointer none)]⟩ := by kernel_rfl
theorem td139 : tdAt prog 139 = some (.struct [(0, 2, true), (2, 2, true), (4, 1, false)]) := by kernel_rfl
theorem ti140 : tiOf prog 140 = some ⟨.struct [(0, 2, true), (2, 2, true), (4, 1, false)], 5, 104, .agg [.nil0, .nil0, .nil0, .nil0, .val (.pointer none)]⟩ := by kernel_rfl
theorem td140 : tdAt prog 140 = some (.struct [(0, 2, true), (2, 2, true), (4, 1, false)]) := by kernel_rfl
theorem ti141 : tiOf prog 141 = some ⟨.ptr, 1, 8, .val (.pointer none)⟩ := by kernel_rfl
theorem td141 : tdAt prog 141 = some (.ptr) := by kernel_rfl
theorem ti146 : tiOf prog 146 = some ⟨.struct [(0, 1, false), (1, 1, false), (2, 1, false), (3, 1, false)], 4, 48, .agg [.val (.string ⟨#[]⟩), .val (.string ⟨#[]⟩), .val (.bool false), .val (.pointer none)]⟩ := by kernel_rfl
theorem td146 : tdAt prog 146 = some (.struct [(0, 1, false), (1, 1, false), (2, 1, false), (3, 1, false)]) := by kernel_rfl
theorem ti147 : tiOf prog 147 = some ⟨.struct [(0, 1, false), (1, 1, false), (2, 1, false), (3, 1, false)], 4, 48, .agg [.val (.string ⟨#[]⟩), .val (.string ⟨#[]⟩), .val (.bool false), .val (.pointer none)]⟩ := by kernel_rfl
theorem td147 : tdAt prog 147 = some (.struct [(0, 1, false), (1, 1, false), (2, 1, false), (3, 1, false)]) := by kernel_rfl
theorem ti148 : tiOf prog 148 = some ⟨.struct [(0, 1, false), (1, 1, false), (2, 1, false), (3, 1, false), (4, 1, false), (5, 1, false), (6, 1, false), (7, 1, false)], 8, 144, .agg [.nil0, .nil0, .nil0, .nil0, .nil0, .val (.bool false), .val (.int .i64 0), .val (.int .i64 0)]⟩ := by kernel_rfl
theorem td148 : tdAt prog 148 = some (.struct [(0, 1, false), (1, 1, false), (2, 1, false), (3, 1, false), (4, 1, false), (5, 1, false), (6, 1, false), (7, 1, false)]) := by kernel_rfl
theorem ti149 : tiOf prog 149 = some ⟨.struct [(0, 1, false), (1, 1, false), (2, 1, false), (3, 1, false), (4, 1, false), (5, 1, false), (6, 1, false), (7, 1, false)], 8, 144, .agg [.nil0, .nil0, .nil0, .nil0, .nil0, .val (.bool false), .val (.int .i64 0), .val (.int .i64 0)]⟩ := by kernel_rfl
theorem td149 : tdAt prog 149 = some (.struct [(0, 1, false), (1, 1, false), (2, 1, false), (3, 1, false), (4, 1, false), (5, 1, false), (6, 1, false), (7, 1, false)]) := by kernel_rfl
theorem ti155 : tiOf prog 155 = some ⟨.struct [(0, 2, true), (2, 1, false)], 3, 56, .agg [.nil0, .nil0, .val (.pointer none)]⟩ := by kernel_rfl
theorem td155 : tdAt prog 155 = some (.struct [(0, 2, true), (2, 1, false)]) := by kernel_rfl
theorem ti156 : tiOf prog 156 = some ⟨.struct [(0, 2, true), (2, 1, false)], 3, 56, .agg [.nil0, .nil0, .val (.pointer none)]⟩ := by kernel_rfl
theorem td156 : tdAt prog 156 = some (.struct [(0, 2, true), (2, 1, false)]) := by kernel_rfl
theorem ti160 : tiOf prog 160 = some ⟨.int .i64, 1, 8, .val (.int .i64 0)⟩ := by kernel_rfl
theorem td160 : tdAt prog 160 = some (.int .i64) := by kernel_rfl
theorem ti162 : tiOf prog 162 = some ⟨.map 9 160, 1, 8, .val (.map none)⟩ := by kernel_rfl
theorem td162 : tdAt prog 162 = some (.map 9 160) := by kernel_rfl
theorem ti170 : tiOf prog 170 = some ⟨.slice 174 2, 1, 24, .nil0⟩ := by kernel_rfl
theorem td170 : tdAt prog 170 = some (.slice 174 2) := by kernel_rfl
theorem ti173 : tiOf prog 173 = some ⟨.struct [(0, 1, false), (1, 1, false)], 2, 32, .agg [.val (.string ⟨#[]⟩), .val (.string ⟨#[]⟩)]⟩ := by kernel_rfl
theorem td173 : tdAt prog 173 = some (.struct [(0, 1, false), (1, 1, false)]) := by kernel_rfl
theorem ti174 : tiOf prog 174 = some ⟨.struct [(0, 1, false), (1, 1, false)], 2, 32, .agg [.val (.string ⟨#[]⟩), .val (.string ⟨#[]⟩)]⟩ := by kernel_rfl
theorem td174 : tdAt prog 174 = some (.struct [(0, 1, false), (1, 1, false)]) := by kernel_rfl
theorem ti177 : tiOf prog 177 = some ⟨.slice 180 7, 1, 24, .nil0⟩ := by kernel_rfl
theorem td177 : tdAt prog 177 = some (.slice 180 7) := by kernel_rfl
theorem ti179 : tiOf prog 179 = some ⟨.struct [(0, 1, false), (1, 1, false), (2, 1, false), (3, 1, false), (4, 1, false), (5, 1, false), (6, 1, false)], 7, 56, .agg [.val (.int .i64 0), .val (.int .i64 0), .val (.int .i64 0), .val (.int .i64 0), .val (.bool false), .val (.int .i64 0), .val (.int .i64 0)]⟩ := by kernel_rfl
theorem td179 : tdAt prog 179 = some (.struct [(0, 1, false), (1, 1, false), (2, 1, false), (3, 1, false), (4, 1, false), (5, 1, false), (6, 1, false)]) := by kernel_rfl
theorem ti180 : tiOf prog 180 = some ⟨.struct [(0, 1, false), (1, 1, false), (2, 1, false), (3, 1, false), (4, 1, false), (5, 1, false), (6, 1, false)], 7, 56, .agg [.val (.int .i64 0), .val (.int .i64 0), .val (.int .i64 0), .val (.int .i64 0), .val (.bool false), .val (.int .i64 0), .val (.int .i64 0)]⟩ := by kernel_rfl
theorem td180 : tdAt prog 180 = some (.struct [(0, 1, false), (1, 1, false), (2, 1, false), (3, 1, false), (4, 1, false), (5, 1, false), (6, 1, false)]) := by kernel_rfl
theorem ti181 : tiOf prog 181 = some ⟨.ptr, 1, 8, .val (.pointer none)⟩ := by kernel_rfl
theorem td181 : tdAt prog 181 = some (.ptr) := by kernel_rfl
theorem ti186 : tiOf prog 186 = some ⟨.int .u64, 1, 8, .val (.int .u64 0)⟩ := by kernel_rfl
theorem td186 : tdAt prog 186 = some (.int .u64) := by kernel_rfl
theorem ti193 : tiOf prog 193 = some ⟨.struct [(0, 1, false), (1, 1, false), (2, 1, false), (3, 1, false), (4, 1, false), (5, 1, false), (6, 1, false), (7, 1, false), (8, 1, false)], 9, 72, .agg [.val (.int .i64 0), .val (.int .i64 0), .val (.int .i64 0), .val (.int .i64 0), .val (.int .i64 0), .val (.int .i64 0), .val (.bool false), .val (.int .i64 0), .val (.int .i64 0)]⟩ := by kernel_rfl
theorem td193 : tdAt prog 193 = some (.struct [(0, 1, false), (1, 1, false), (2, 1, false), (3, 1, false), (4, 1, false), (5, 1, false), (6, 1, false), (7, 1, false), (8, 1, false)]) := by kernel_rfl
theorem ti194 : tiOf prog 194 = some ⟨.struct [(0, 1, false), (1, 1, false), (2, 1, false), (3, 1, false), (4, 1, false), (5, 1, false), (6, 1, false), (7, 1, false), (8, 1, false)], 9, 72, .agg [.val (.int .i64 0), .val (.int .i64 0), .val (.int .i64 0), .val (.int .i64 0), .val (.int .i64 0), .val (.int .i64 0), .val (.bool false), .val (.int .i64 0), .val (.int .i64 0)]⟩ := by kernel_rfl
theorem td194 : tdAt prog 194 = some (.struct [(0, 1, false), (1, 1, false), (2, 1, false), (3, 1, false), (4, 1, false), (5, 1, false), (6, 1, false), (7, 1, false), (8, 1, false)]) := by kernel_rfl
theorem ti199 : tiOf prog 199 = some ⟨.int .i64, 1, 8, .val (.int .i64 0)⟩ := by kernel_rfl
theorem td199 : tdAt prog 199 = some (.int .i64) := by kernel_rfl
theorem ti207 : tiOf prog 207 = some ⟨.int .u32, 1, 4, .val (.int .u32 0)⟩ := by kernel_rfl
theorem td207 : tdAt prog 207 = some (.int .u32) := by kernel_rfl
theorem ti209 : tiOf prog 209 = some ⟨.int .u64, 1, 8, .val (.int .u64 0)⟩ := by kernel_rfl
theorem td209 : tdAt prog 209 = some (.int .u64) := by kernel_rfl
theorem ti213 : tiOf prog 213 = some ⟨.arr 24 5 1, 24, 24, .agg [.val (.int .u8 0), .val (.int .u8 0), .val (.int .u8 0), .val (.int .u8 0), .val (.int .u8 0), .val (.int .u8 0), .val (.int .u8 0), .val (.int .u8 0), .val (.int .u8 0), .val (.int .u8 0), .val (.int .u8 0), .val (.int .u8 0), .val (.int .u8 0), .val (.int .u8 0), .val (.int .u8 0), .val (.int .u8 0), .val (.int .u8 0), .val (.int .u8 0), .val (.int .u8 0), .val (.int .u8 0), .val (.int .u8 0), .val (.int .u8 0), .val (.int .u8 0), .val (.int .u8 0)]⟩ := by kernel_rfl
theorem td213 : tdAt prog 213 = some (.arr 24 5 1) := by kernel_rfl
theorem ti215 : tiOf prog 215 = some ⟨.slice 5 1, 1, 24, .nil0⟩ := by kernel_rfl
theorem td215 : tdAt prog 215 = some (.slice 5 1) := by kernel_rfl
theorem ti220 : tiOf prog 220 = some ⟨.int .u64, 1, 8, .val (.int .u64 0)⟩ := by kernel_rfl
theorem td220 : tdAt prog 220 = some (.int .u64) := by kernel_rfl
theorem ti224 : tiOf prog 224 = some ⟨.ptr, 1, 8, .val (.pointer none)⟩ := by kernel_rfl
theorem td224 : tdAt prog 224 = some (.ptr) := by kernel_rfl
theorem ti226 : tiOf prog 226 = some ⟨.slice 228 2, 1, 24, .nil0⟩ := by kernel_rfl
theorem td226 : tdAt prog 226 = some (.slice 228 2) := by kernel_rfl
theorem ti227 : tiOf prog 227 = some ⟨.struct [(0, 1, false), (1, 1, false)], 2, 16, .agg [.val (.int .i64 0), .val (.int .i64 0)]⟩ := by kernel_rfl
theorem td227 : tdAt prog 227 = some (.struct [(0, 1, false), (1, 1, false)]) := by kernel_rfl
theorem ti228 : tiOf prog 228 = some ⟨.struct [(0, 1, false), (1, 1, false)], 2, 16, .agg [.val (.int .i64 0), .val (.int .i64 0)]⟩ := by kernel_rfl
theorem td228 : tdAt prog 228 = some (.struct [(0, 1, false), (1, 1, false)]) := by kernel_rfl
theorem ti230 : tiOf prog 230 = some ⟨.ptr, 1, 8, .val (.pointer none)⟩ := by kernel_rfl
theorem td230 : tdAt prog 230 = some (.ptr) := by kernel_rfl
theorem ti233 : tiOf prog 233 = some ⟨.arr 20 209 1, 20, 160, .agg [.val (.int .u64 0), .val (.int .u64 0), .val (.int .u64 0), .val (.int .u64 0), .val (.int .u64 0), .val (.int .u64 0), .val (.int .u64 0), .val (.int .u64 0), .val (.int .u64 0), .val (.int .u64 0), .val (.int .u64 0), .val (.int .u64 0), .val (.int .u64 0), .val (.int .u64 0), .val (.int .u64 0), .val (.int .u64 0), .val (.int .u64 0), .val (.int .u64 0), .val (.int .u64 0), .val (.int .u64 0)]⟩ := by kernel_rfl
theorem td233 : tdAt prog 233 = some (.arr 20 209 1) := by kernel_rfl
theorem ti237 : tiOf prog 237 = some ⟨.ptr, 1, 8, .val (.pointer none)⟩ := by kernel_rfl
theorem td237 : tdAt prog 237 = some (.ptr) := by kernel_rfl
theorem ti240 : tiOf prog 240 = some ⟨.slice 246 3, 1, 24, .nil0⟩ := by kernel_rfl
theorem td240 : tdAt prog 240 = some (.slice 246 3) := by kernel_rfl
theorem ti241 : tiOf prog 241 = some ⟨.slice 249 3, 1, 24, .nil0⟩ := by kernel_rfl
theorem td241 : tdAt prog 241 = some (.slice 249 3) := by kernel_rfl
theorem ti242 : tiOf prog 242 = some ⟨.struct [(0, 1, false), (1, 1, false), (2, 1, false)], 3, 56, .agg [.nil0, .nil0, .val (.int .i64 0)]⟩ := by kernel_rfl
theorem td242 : tdAt prog 242 = some (.struct [(0, 1, false), (1, 1, false), (2, 1, false)]) := by kernel_rfl
theorem ti243 : tiOf prog 243 = some ⟨.struct [(0, 1, false), (1, 1, false), (2, 1, false)], 3, 56, .agg [.nil0, .nil0, .val (.int .i64 0)]⟩ := by kernel_rfl
theorem td243 : tdAt prog 243 = some (.struct [(0, 1, false), (1, 1, false), (2, 1, false)]) := by kernel_rfl
theorem ti244 : tiOf prog 244 = some ⟨.int .u16, 1, 2, .val (.int .u16 0)⟩ := by kernel_rfl
theorem td244 : tdAt prog 244 = some (.int .u16) := by kernel_rfl
theorem ti245 : tiOf prog 245 = some ⟨.struct [(0, 1, false), (1, 1, false), (2, 1, false)], 3, 6, .agg [.val (.int .u16 0), .val (.int .u16 0), .val (.int .u16 0)]⟩ := by kernel_rfl
theorem td245 : tdAt prog 245 = some (.struct [(0, 1, false), (1, 1, false), (2, 1, false)]) := by kernel_rfl
theorem ti246 : tiOf prog 246 = some ⟨.struct [(0, 1, false), (1, 1, false), (2, 1, false)], 3, 6, .agg [.val (.int .u16 0), .val (.int .u16 0), .val (.int .u16 0)]⟩ := by kernel_rfl
theorem td246 : tdAt prog 246 = some (.struct [(0, 1, false), (1, 1, false), (2, 1, false)]) := by kernel_rfl
theorem ti248 : tiOf prog 248 = some ⟨.struct [(0, 1, false), (1, 1, false), (2, 1, false)], 3, 12, .agg [.val (.int .u32 0), .val (.int .u32 0), .val (.int .u32 0)]⟩ := by kernel_rfl
theorem td248 : tdAt prog 248 = some (.struct [(0, 1, false), (1, 1, false), (2, 1, false)]) := by kernel_rfl
theorem ti249 : tiOf prog 249 = some ⟨.struct [(0, 1, false), (1, 1, false), (2, 1, false)], 3, 12, .agg [.val (.int .u32 0), .val (.int .u32 0), .val (.int .u32 0)]⟩ := by kernel_rfl
theorem td249 : tdAt prog 249 = some (.struct [(0, 1, false), (1, 1, false), (2, 1, false)]) := by kernel_rfl
theorem ti251 : tiOf prog 251 = some ⟨.ptr, 1, 8, .val (.pointer none)⟩ := by kernel_rfl
theorem td251 : tdAt prog 251 = some (.ptr) := by kernel_rfl
theorem ti252 : tiOf prog 252 = some ⟨.ptr, 1, 8, .val (.pointer none)⟩ := by kernel_rfl
theorem td252 : tdAt prog 252 = some (.ptr) := by kernel_rfl
theorem ti253 : tiOf prog 253 = some ⟨.arr 32 5 1, 32, 32, .agg [.val (.int .u8 0), .val (.int .u8 0), .val (.int .u8 0), .val (.int .u8 0), .val (.int .u8 0), .val (.int .u8 0), .val (.int .u8 0), .val (.int .u8 0), .val (.int .u8 0), .val (.int .u8 0), .val (.int .u8 0), .val (.int .u8 0), .val (.int .u8 0), .val (.int .u8 0), .val (.int .u8 0), .val (.int .u8 0), .val (.int .u8 0), .val (.int .u8 0), .val (.int .u8 0), .val (.int .u8 0), .val (.int .u8 0), .val (.int .u8 0), .val (.int .u8 0), .val (.int .u8 0), .val (.int .u8 0), .val (.int .u8 0), .val (.int .u8 0), .val (.int .u8 0), .val (.int .u8 0), .val (.int .u8 0), .val (.int .u8 0), .val (.int .u8 0)]⟩ := by kernel_rfl
theorem td253 : tdAt prog 253 = some (.arr 32 5 1) := by kernel_rfl
theorem ti255 : tiOf prog 255 = some ⟨.struct [(0, 1, false), (1, 1, false), (2, 1, false), (3, 1, false)], 4, 40, .agg [.val (.pointer none), .val (.pointer none), .val (.pointer none), .val (.string ⟨#[]⟩)]⟩ := by kernel_rfl
theorem td255 : tdAt prog 255 = some (.struct [(0, 1, false), (1, 1, false), (2, 1, false), (3, 1, false)]) := by kernel_rfl
theorem ti256 : tiOf prog 256 = some ⟨.struct [(0, 1, false), (1, 1, false), (2, 1, false), (3, 1, false)], 4, 40, .agg [.val (.pointer none), .val (.pointer none), .val (.pointer none), .val (.string ⟨#[]⟩)]⟩ := by kernel_rfl
theorem td256 : tdAt prog 256 = some (.struct [(0, 1, false), (1, 1, false), (2, 1, false), (3, 1, false)]) := by kernel_rfl
theorem ti257 : tiOf prog 257 = some ⟨.arr 0 16 1, 0, 0, .agg []⟩ := by kernel_rfl
theorem td257 : tdAt prog 257 = some (.arr 0 16 1) := by kernel_rfl
theorem ti258 : tiOf prog 258 = some ⟨.struct [(0, 0, true)], 0, 0, .agg []⟩ := by kernel_rfl
theorem td258 : tdAt prog 258 = some (.struct [(0, 0, true)]) := by kernel_rfl
theorem ti259 : tiOf prog 259 = some ⟨.struct [(0, 0, true)], 0, 0, .agg []⟩ := by kernel_rfl
theorem td259 : tdAt prog 259 = some (.struct [(0, 0, true)]) := by kernel_rfl
def TS := And.intro @ti2 <| And.intro @td2 <| And.intro @ti3 <| And.intro @td3 <| And.intro @ti4 <| And.intro @td4 <| And.intro @ti5 <| And.intro @td5 <| And.intro @ti6 <| And.intro @td6 <| And.intro @ti7 <| And.intro @td7 <| And.intro @ti8 <| And.intro @td8 <| And.intro @ti9 <| And.intro @td9 <| And.intro @ti10 <| And.intro @td10 <| And.intro @ti11 <| And.intro @td11 <| And.intro @ti12 <| And.intro @td12 <| And.intro @ti13 <| And.intro @td13 <| And.intro @ti14 <| And.intro @td14 <| And.intro @ti15 <| And.intro @td15 <| And.intro @ti16 <| And.intro @td16 <| And.intro @ti17 <| And.intro @td17 <| And.intro @ti18 <| And.intro @td18 <| And.intro @ti19 <| And.intro @td19 <| And.intro @ti20 <| And.intro @td20 <| And.intro @ti21 <| And.intro @td21 <| And.intro @ti22 <| And.intro @td22 <| And.intro @ti23 <| And.intro @td23 <| And.intro @ti24 <| And.intro @td24 <| And.intro @ti25 <| And.intro @td25 <| And.intro @ti26 <| And.intro @td26 <| And.intro @ti27 <| And.intro @td27 <| And.intro @ti28 <| And.intro @td28 <| And.intro @ti60 <| And.intro @td60 <| And.intro @ti61 <| And.intro @td61 <| And.intro @ti67 <| And.intro @td67 <| And.intro @ti77 <| And.intro @td77 <| And.intro @ti79 <| And.intro @td79 <| And.intro @ti80 <| And.intro @td80 <| And.intro @ti81 <| And.intro @td81 <| And.intro @ti84 <| And.intro @td84 <| And.intro @ti85 <| And.intro @td85 <| And.intro @ti87 <| And.intro @td87 <| And.intro @ti89 <| And.intro @td89 <| And.intro @ti90 <| And.intro @td90 <| And.intro @ti91 <| And.intro @td91 <| And.intro @ti93 <| And.intro @td93 <| And.intro @ti102 <| And.intro @td102 <| And.intro @ti103 <| And.intro @td103 <| And.intro @ti111 <| And.intro @td111 <| And.intro @ti115 <| And.intro @td115 <| And.intro @ti119 <| And.intro @td119 <| And.intro @ti120 <| And.intro @td120 <| And.intro @ti121 <| And.intro @td121 <| And.intro @ti122 <| And.intro @td122 <| And.intro @ti126 <| And.intro @td126 <| And.intro @ti127 <| And.intro @td127 <| And.intro @ti131 <| And.intro @td131 <| And.intro @ti132 <| And.intro @td132 <| And.intro @ti136 <| And.intro @td136 <| And.intro @ti138 <| And.intro @td138 <| And.intro @ti139 <| And.intro @td139 <| And.intro @ti140 <| And.intro @td140 <| And.intro @ti141 <| And.intro @td141 <| And.intro @ti146 <| And.intro @td146 <| And.intro @ti147 <| And.intro @td147 <| And.intro @ti148 <| And.intro @td148 <| And.intro @ti149 <| And.intro @td149 <| And.intro @ti155 <| And.intro @td155 <| And.intro @ti156 <| And.intro @td156 <| And.intro @ti160 <| And.intro @td160 <| And.intro @ti162 <| And.intro @td162 <| And.intro @ti170 <| And.intro @td170 <| And.intro @ti173 <| And.intro @td173 <| And.intro @ti174 <| And.intro @td174 <| And.intro @ti177 <| And.intro @td177 <| And.intro @ti179 <| And.intro @td179 <| And.intro @ti180 <| And.intro @td180 <| And.intro @ti181 <| And.intro @td181 <| And.intro @ti186 <| And.intro @td186 <| And.intro @ti193 <| And.intro @td193 <| And.intro @ti194 <| And.intro @td194 <| And.intro @ti199 <| And.intro @td199 <| And.intro @ti207 <| And.intro @td207 <| And.intro @ti209 <| And.intro @td209 <| And.intro @ti213 <| And.intro @td213 <| And.intro @ti215 <| And.intro @td215 <| And.intro @ti220 <| And.intro @td220 <| And.intro @ti224 <| And.intro @td224 <| And.intro @ti226 <| And.intro @td226 <| And.intro @ti227 <| And.intro @td227 <| And.intro @ti228 <| And.intro @td228 <| And.intro @ti230 <| And.intro @td230 <| And.intro @ti233 <| And.intro @td233 <| And.intro @ti237 <| And.intro @td237 <| And.intro @ti240 <| And.intro @td240 <| And.intro @ti241 <| And.intro @td241 <| And.intro @ti242 <| And.intro @td242 <| And.intro @ti243 <| And.intro @td243 <| And.intro @ti244 <| And.intro @td244 <| And.intro @ti245 <| And.intro @td245 <| And.intro @ti246 <| And.intro @td246 <| And.intro @ti248 <| And.intro @td248 <| And.intro @ti249 <| And.intro @td249 <| And.intro @ti251 <| And.intro @td251 <| And.intro @ti252 <| And.intro @td252 <| And.intro @ti253 <| And.intro @td253 <| And.intro @ti255 <| And.intro @td255 <| And.intro @ti256 <| And.intro @td256 <| And.intro @ti257 <| And.intro @td257 <| And.intro @ti258 <| And.intro @td258 <| And.intro @ti259 @td259
end Go.V
