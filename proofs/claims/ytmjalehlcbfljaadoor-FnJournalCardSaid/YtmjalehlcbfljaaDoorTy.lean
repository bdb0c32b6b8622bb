/- What the program's types are to the abstract machine: sizes, zero values, places of fields. -/
import Derived.Test.YtmjalehlcbfljaaDoorAmWk
import Derived.Test.YtmjalehlcbfljaaDoorProg
import Derived.KernelRfl
import Derived.Lib.LaidTab
import Derived.Lib.ItoaNum
set_option linter.unusedSectionVars false
set_option linter.defProp false
set_option linter.unusedVariables false
set_option linter.unusedSimpArgs false
set_option linter.unnecessarySimpa false
namespace Go.Proofs.YtmjalehlcbfljaaDoor
open Go Go.AM
theorem gpow10 : Tryd.prog.globalNamed "internal/strconv.uint64pow10" = some 0 := by kernel_rfl
instance : AM.Ground := ⟨1, fun w => Lib.TabIs Tryd.prog w "internal/strconv.uint64pow10" .u64 Lib.pow10Tab, fun w w' hh h => by
  unfold Lib.TabIs World.var? at h ⊢
  rw [gpow10] at h ⊢
  simp only [Option.bind_some] at h ⊢
  rw [hh 0 (by omega)]; exact h⟩
theorem mixed : Tryd.prog.follows .mixedOrders = true := by kernel_rfl
theorem ti1 : tinfo Tryd.prog 1 = some ⟨false, 1, 8, [.nilFunc]⟩ := by kernel_rfl
theorem ti2 : tinfo Tryd.prog 2 = some ⟨false, 1, 8, [.int .i64 0]⟩ := by kernel_rfl
theorem it2 : intT Tryd.prog 2 = some .i64 := by kernel_rfl
theorem ht2 : hasT Tryd.prog 2 = true := by kernel_rfl
theorem ti3 : tinfo Tryd.prog 3 = some ⟨false, 1, 8, [.int .i64 0]⟩ := by kernel_rfl
theorem it3 : intT Tryd.prog 3 = some .i64 := by kernel_rfl
theorem ht3 : hasT Tryd.prog 3 = true := by kernel_rfl
theorem ti4 : tinfo Tryd.prog 4 = some ⟨false, 1, 1, [.bool false]⟩ := by kernel_rfl
theorem ti5 : tinfo Tryd.prog 5 = some ⟨false, 1, 1, [.int .u8 0]⟩ := by kernel_rfl
theorem it5 : intT Tryd.prog 5 = some .u8 := by kernel_rfl
theorem ht5 : hasT Tryd.prog 5 = true := by kernel_rfl
theorem ti6 : tinfo Tryd.prog 6 = some ⟨false, 1, 1, [.int .u8 0]⟩ := by kernel_rfl
theorem it6 : intT Tryd.prog 6 = some .u8 := by kernel_rfl
theorem ht6 : hasT Tryd.prog 6 = true := by kernel_rfl
theorem ti7 : tinfo Tryd.prog 7 = some ⟨true, 4, 24, [.int .i64 0, .int .i64 0, .bool false, .int .u8 0]⟩ := by kernel_rfl
theorem fo7_0 : fieldOff Tryd.prog 7 0 = some 0 := by kernel_rfl
theorem fo7_1 : fieldOff Tryd.prog 7 1 = some 1 := by kernel_rfl
theorem fo7_2 : fieldOff Tryd.prog 7 2 = some 2 := by kernel_rfl
theorem fo7_3 : fieldOff Tryd.prog 7 3 = some 3 := by kernel_rfl
theorem pl7 : places Tryd.prog 7 = some [(0, 1), (1, 1), (2, 1), (3, 1)] := by kernel_rfl
theorem ti8 : tinfo Tryd.prog 8 = some ⟨true, 4, 24, [.int .i64 0, .int .i64 0, .bool false, .int .u8 0]⟩ := by kernel_rfl
theorem fo8_0 : fieldOff Tryd.prog 8 0 = some 0 := by kernel_rfl
theorem fo8_1 : fieldOff Tryd.prog 8 1 = some 1 := by kernel_rfl
theorem fo8_2 : fieldOff Tryd.prog 8 2 = some 2 := by kernel_rfl
theorem fo8_3 : fieldOff Tryd.prog 8 3 = some 3 := by kernel_rfl
theorem pl8 : places Tryd.prog 8 = some [(0, 1), (1, 1), (2, 1), (3, 1)] := by kernel_rfl
theorem ti9 : tinfo Tryd.prog 9 = some ⟨false, 1, 16, [.string ⟨#[]⟩]⟩ := by kernel_rfl
theorem st9 : isStrT Tryd.prog 9 = true := by kernel_rfl
theorem ti10 : tinfo Tryd.prog 10 = some ⟨false, 1, 16, [.string ⟨#[]⟩]⟩ := by kernel_rfl
theorem st10 : isStrT Tryd.prog 10 = true := by kernel_rfl
theorem ti11 : tinfo Tryd.prog 11 = some ⟨false, 1, 16, [.string ⟨#[]⟩]⟩ := by kernel_rfl
theorem st11 : isStrT Tryd.prog 11 = true := by kernel_rfl
theorem ti12 : tinfo Tryd.prog 12 = some ⟨false, 1, 8, [.int .u64 0]⟩ := by kernel_rfl
theorem it12 : intT Tryd.prog 12 = some .u64 := by kernel_rfl
theorem ht12 : hasT Tryd.prog 12 = true := by kernel_rfl
theorem ti13 : tinfo Tryd.prog 13 = some ⟨true, 2, 24, [.string ⟨#[]⟩, .int .u64 0]⟩ := by kernel_rfl
theorem fo13_0 : fieldOff Tryd.prog 13 0 = some 0 := by kernel_rfl
theorem fo13_1 : fieldOff Tryd.prog 13 1 = some 1 := by kernel_rfl
theorem pl13 : places Tryd.prog 13 = some [(0, 1), (1, 1)] := by kernel_rfl
theorem ti14 : tinfo Tryd.prog 14 = some ⟨true, 2, 24, [.string ⟨#[]⟩, .int .u64 0]⟩ := by kernel_rfl
theorem fo14_0 : fieldOff Tryd.prog 14 0 = some 0 := by kernel_rfl
theorem fo14_1 : fieldOff Tryd.prog 14 1 = some 1 := by kernel_rfl
theorem pl14 : places Tryd.prog 14 = some [(0, 1), (1, 1)] := by kernel_rfl
theorem ti15 : tinfo Tryd.prog 15 = some ⟨false, 1, 8, [.pointer none]⟩ := by kernel_rfl
theorem ti16 : tinfo Tryd.prog 16 = some ⟨false, 1, 8, [.pointer none]⟩ := by kernel_rfl
theorem ti17 : tinfo Tryd.prog 17 = some ⟨false, 1, 8, [.pointer none]⟩ := by kernel_rfl
theorem ti18 : tinfo Tryd.prog 18 = some ⟨true, 1, 8, [.pointer none]⟩ := by kernel_rfl
theorem fo18_0 : fieldOff Tryd.prog 18 0 = some 0 := by kernel_rfl
theorem pl18 : places Tryd.prog 18 = some [(0, 1)] := by kernel_rfl
theorem ti19 : tinfo Tryd.prog 19 = some ⟨true, 1, 8, [.pointer none]⟩ := by kernel_rfl
theorem fo19_0 : fieldOff Tryd.prog 19 0 = some 0 := by kernel_rfl
theorem pl19 : places Tryd.prog 19 = some [(0, 1)] := by kernel_rfl
theorem ti20 : tinfo Tryd.prog 20 = some ⟨false, 1, 16, [.nilIface]⟩ := by kernel_rfl
theorem ti21 : tinfo Tryd.prog 21 = some ⟨false, 1, 4, [.int .i32 0]⟩ := by kernel_rfl
theorem it21 : intT Tryd.prog 21 = some .i32 := by kernel_rfl
theorem ht21 : hasT Tryd.prog 21 = true := by kernel_rfl
theorem ti22 : tinfo Tryd.prog 22 = some ⟨false, 1, 24, [.slice none 0 0]⟩ := by kernel_rfl
theorem se22 : selem Tryd.prog 22 = some 5 := by kernel_rfl
theorem ti23 : tinfo Tryd.prog 23 = some ⟨false, 1, 8, [.nilFunc]⟩ := by kernel_rfl
theorem ti24 : tinfo Tryd.prog 24 = some ⟨false, 1, 24, [.slice none 0 0]⟩ := by kernel_rfl
theorem se24 : selem Tryd.prog 24 = some 9 := by kernel_rfl
theorem ti25 : tinfo Tryd.prog 25 = some ⟨false, 1, 8, [.nilFunc]⟩ := by kernel_rfl
theorem ti26 : tinfo Tryd.prog 26 = some ⟨false, 1, 24, [.slice none 0 0]⟩ := by kernel_rfl
theorem se26 : selem Tryd.prog 26 = some 67 := by kernel_rfl
theorem ti27 : tinfo Tryd.prog 27 = some ⟨true, 2, 48, [.slice none 0 0, .slice none 0 0]⟩ := by kernel_rfl
theorem fo27_0 : fieldOff Tryd.prog 27 0 = some 0 := by kernel_rfl
theorem fo27_1 : fieldOff Tryd.prog 27 1 = some 1 := by kernel_rfl
theorem pl27 : places Tryd.prog 27 = some [(0, 1), (1, 1)] := by kernel_rfl
theorem ti28 : tinfo Tryd.prog 28 = some ⟨true, 2, 48, [.slice none 0 0, .slice none 0 0]⟩ := by kernel_rfl
theorem fo28_0 : fieldOff Tryd.prog 28 0 = some 0 := by kernel_rfl
theorem fo28_1 : fieldOff Tryd.prog 28 1 = some 1 := by kernel_rfl
theorem pl28 : places Tryd.prog 28 = some [(0, 1), (1, 1)] := by kernel_rfl
theorem ti29 : tinfo Tryd.prog 29 = some ⟨false, 1, 8, [.nilFunc]⟩ := by kernel_rfl
theorem ti31 : tinfo Tryd.prog 31 = some ⟨false, 1, 8, [.nilFunc]⟩ := by kernel_rfl
theorem ti32 : tinfo Tryd.prog 32 = some ⟨false, 1, 8, [.nilFunc]⟩ := by kernel_rfl
theorem ti34 : tinfo Tryd.prog 34 = some ⟨false, 1, 8, [.nilFunc]⟩ := by kernel_rfl
theorem ti35 : tinfo Tryd.prog 35 = some ⟨false, 1, 8, [.pointer none]⟩ := by kernel_rfl
theorem ti36 : tinfo Tryd.prog 36 = some ⟨false, 1, 8, [.nilFunc]⟩ := by kernel_rfl
theorem ti37 : tinfo Tryd.prog 37 = some ⟨false, 1, 8, [.nilFunc]⟩ := by kernel_rfl
theorem ti38 : tinfo Tryd.prog 38 = some ⟨false, 1, 8, [.nilFunc]⟩ := by kernel_rfl
theorem ti39 : tinfo Tryd.prog 39 = some ⟨false, 1, 8, [.pointer none]⟩ := by kernel_rfl
theorem ti40 : tinfo Tryd.prog 40 = some ⟨false, 1, 8, [.nilFunc]⟩ := by kernel_rfl
theorem ti41 : tinfo Tryd.prog 41 = some ⟨false, 1, 8, [.pointer none]⟩ := by kernel_rfl
theorem ti42 : tinfo Tryd.prog 42 = some ⟨true, 2, 32, [.pointer none, .slice none 0 0]⟩ := by kernel_rfl
theorem fo42_0 : fieldOff Tryd.prog 42 0 = some 0 := by kernel_rfl
theorem fo42_1 : fieldOff Tryd.prog 42 1 = some 1 := by kernel_rfl
theorem pl42 : places Tryd.prog 42 = some [(0, 1), (1, 1)] := by kernel_rfl
theorem ti43 : tinfo Tryd.prog 43 = some ⟨true, 2, 32, [.pointer none, .slice none 0 0]⟩ := by kernel_rfl
theorem fo43_0 : fieldOff Tryd.prog 43 0 = some 0 := by kernel_rfl
theorem fo43_1 : fieldOff Tryd.prog 43 1 = some 1 := by kernel_rfl
theorem pl43 : places Tryd.prog 43 = some [(0, 1), (1, 1)] := by kernel_rfl
theorem ti44 : tinfo Tryd.prog 44 = some ⟨false, 1, 8, [.nilFunc]⟩ := by kernel_rfl
theorem ti45 : tinfo Tryd.prog 45 = some ⟨false, 1, 16, [.nilIface]⟩ := by kernel_rfl
theorem ti46 : tinfo Tryd.prog 46 = some ⟨false, 1, 16, [.nilIface]⟩ := by kernel_rfl
theorem ti48 : tinfo Tryd.prog 48 = some ⟨false, 1, 8, [.nilFunc]⟩ := by kernel_rfl
theorem ti49 : tinfo Tryd.prog 49 = some ⟨false, 1, 8, [.nilFunc]⟩ := by kernel_rfl
theorem ti50 : tinfo Tryd.prog 50 = some ⟨false, 1, 8, [.nilFunc]⟩ := by kernel_rfl
theorem ti51 : tinfo Tryd.prog 51 = some ⟨false, 1, 8, [.nilFunc]⟩ := by kernel_rfl
theorem ti52 : tinfo Tryd.prog 52 = some ⟨false, 1, 8, [.nilFunc]⟩ := by kernel_rfl
theorem ti54 : tinfo Tryd.prog 54 = some ⟨false, 1, 8, [.nilFunc]⟩ := by kernel_rfl
theorem ti55 : tinfo Tryd.prog 55 = some ⟨false, 1, 8, [.nilFunc]⟩ := by kernel_rfl
theorem ti56 : tinfo Tryd.prog 56 = some ⟨false, 1, 8, [.int .u64 0]⟩ := by kernel_rfl
theorem it56 : intT Tryd.prog 56 = some .u64 := by kernel_rfl
theorem ht56 : hasT Tryd.prog 56 = true := by kernel_rfl
theorem ti57 : tinfo Tryd.prog 57 = some ⟨true, 3, 40, [.slice none 0 0, .int .i64 0, .int .u64 0]⟩ := by kernel_rfl
theorem fo57_0 : fieldOff Tryd.prog 57 0 = some 0 := by kernel_rfl
theorem fo57_1 : fieldOff Tryd.prog 57 1 = some 1 := by kernel_rfl
theorem fo57_2 : fieldOff Tryd.prog 57 2 = some 2 := by kernel_rfl
theorem pl57 : places Tryd.prog 57 = some [(0, 1), (1, 1), (2, 1)] := by kernel_rfl
theorem ti58 : tinfo Tryd.prog 58 = some ⟨true, 3, 40, [.slice none 0 0, .int .i64 0, .int .u64 0]⟩ := by kernel_rfl
theorem fo58_0 : fieldOff Tryd.prog 58 0 = some 0 := by kernel_rfl
theorem fo58_1 : fieldOff Tryd.prog 58 1 = some 1 := by kernel_rfl
theorem fo58_2 : fieldOff Tryd.prog 58 2 = some 2 := by kernel_rfl
theorem pl58 : places Tryd.prog 58 = some [(0, 1), (1, 1), (2, 1)] := by kernel_rfl
theorem ti59 : tinfo Tryd.prog 59 = some ⟨false, 1, 8, [.nilFunc]⟩ := by kernel_rfl
theorem ti60 : tinfo Tryd.prog 60 = some ⟨false, 1, 8, [.nilFunc]⟩ := by kernel_rfl
theorem ti61 : tinfo Tryd.prog 61 = some ⟨false, 1, 8, [.nilFunc]⟩ := by kernel_rfl
theorem ti62 : tinfo Tryd.prog 62 = some ⟨true, 2, 16, [.int .i64 0, .int .i64 0]⟩ := by kernel_rfl
theorem fo62_0 : fieldOff Tryd.prog 62 0 = some 0 := by kernel_rfl
theorem fo62_1 : fieldOff Tryd.prog 62 1 = some 1 := by kernel_rfl
theorem pl62 : places Tryd.prog 62 = some [(0, 1), (1, 1)] := by kernel_rfl
theorem ti63 : tinfo Tryd.prog 63 = some ⟨true, 2, 16, [.int .i64 0, .int .i64 0]⟩ := by kernel_rfl
theorem fo63_0 : fieldOff Tryd.prog 63 0 = some 0 := by kernel_rfl
theorem fo63_1 : fieldOff Tryd.prog 63 1 = some 1 := by kernel_rfl
theorem pl63 : places Tryd.prog 63 = some [(0, 1), (1, 1)] := by kernel_rfl
theorem ti64 : tinfo Tryd.prog 64 = some ⟨true, 3, 24, [.int .i64 0, .int .i64 0, .int .i64 0]⟩ := by kernel_rfl
theorem fo64_0 : fieldOff Tryd.prog 64 0 = some 0 := by kernel_rfl
theorem fo64_1 : fieldOff Tryd.prog 64 1 = some 1 := by kernel_rfl
theorem fo64_2 : fieldOff Tryd.prog 64 2 = some 2 := by kernel_rfl
theorem pl64 : places Tryd.prog 64 = some [(0, 1), (1, 1), (2, 1)] := by kernel_rfl
theorem ti65 : tinfo Tryd.prog 65 = some ⟨true, 3, 24, [.int .i64 0, .int .i64 0, .int .i64 0]⟩ := by kernel_rfl
theorem fo65_0 : fieldOff Tryd.prog 65 0 = some 0 := by kernel_rfl
theorem fo65_1 : fieldOff Tryd.prog 65 1 = some 1 := by kernel_rfl
theorem fo65_2 : fieldOff Tryd.prog 65 2 = some 2 := by kernel_rfl
theorem pl65 : places Tryd.prog 65 = some [(0, 1), (1, 1), (2, 1)] := by kernel_rfl
theorem ti66 : tinfo Tryd.prog 66 = some ⟨true, 7, 56, [.int .i64 0, .int .i64 0, .int .i64 0, .int .i64 0, .int .i64 0, .int .i64 0, .int .i64 0]⟩ := by kernel_rfl
theorem fo66_0 : fieldOff Tryd.prog 66 0 = some 0 := by kernel_rfl
theorem fo66_1 : fieldOff Tryd.prog 66 1 = some 1 := by kernel_rfl
theorem fo66_2 : fieldOff Tryd.prog 66 2 = some 3 := by kernel_rfl
theorem fo66_3 : fieldOff Tryd.prog 66 3 = some 6 := by kernel_rfl
theorem pl66 : places Tryd.prog 66 = some [(0, 1), (1, 2), (3, 3), (6, 1)] := by kernel_rfl
theorem ti67 : tinfo Tryd.prog 67 = some ⟨true, 7, 56, [.int .i64 0, .int .i64 0, .int .i64 0, .int .i64 0, .int .i64 0, .int .i64 0, .int .i64 0]⟩ := by kernel_rfl
theorem fo67_0 : fieldOff Tryd.prog 67 0 = some 0 := by kernel_rfl
theorem fo67_1 : fieldOff Tryd.prog 67 1 = some 1 := by kernel_rfl
theorem fo67_2 : fieldOff Tryd.prog 67 2 = some 3 := by kernel_rfl
theorem fo67_3 : fieldOff Tryd.prog 67 3 = some 6 := by kernel_rfl
theorem pl67 : places Tryd.prog 67 = some [(0, 1), (1, 2), (3, 3), (6, 1)] := by kernel_rfl
theorem ti68 : tinfo Tryd.prog 68 = some ⟨false, 1, 8, [.nilFunc]⟩ := by kernel_rfl
theorem ti69 : tinfo Tryd.prog 69 = some ⟨false, 1, 8, [.nilFunc]⟩ := by kernel_rfl
theorem ti70 : tinfo Tryd.prog 70 = some ⟨false, 1, 8, [.pointer none]⟩ := by kernel_rfl
theorem ti71 : tinfo Tryd.prog 71 = some ⟨false, 1, 8, [.nilFunc]⟩ := by kernel_rfl
theorem ti72 : tinfo Tryd.prog 72 = some ⟨false, 1, 8, [.nilFunc]⟩ := by kernel_rfl
theorem ti73 : tinfo Tryd.prog 73 = some ⟨false, 1, 8, [.pointer none]⟩ := by kernel_rfl
theorem ti74 : tinfo Tryd.prog 74 = some ⟨false, 1, 8, [.int .u64 0]⟩ := by kernel_rfl
theorem it74 : intT Tryd.prog 74 = some .u64 := by kernel_rfl
theorem ht74 : hasT Tryd.prog 74 = true := by kernel_rfl
theorem ti75 : tinfo Tryd.prog 75 = some ⟨false, 1, 8, [.nilFunc]⟩ := by kernel_rfl
theorem ti76 : tinfo Tryd.prog 76 = some ⟨false, 1, 8, [.nilFunc]⟩ := by kernel_rfl
theorem ti77 : tinfo Tryd.prog 77 = some ⟨false, 1, 8, [.nilFunc]⟩ := by kernel_rfl
theorem ti78 : tinfo Tryd.prog 78 = some ⟨false, 1, 24, [.slice none 0 0]⟩ := by kernel_rfl
theorem se78 : selem Tryd.prog 78 = some 2 := by kernel_rfl
theorem ti79 : tinfo Tryd.prog 79 = some ⟨false, 1, 8, [.nilFunc]⟩ := by kernel_rfl
theorem ti80 : tinfo Tryd.prog 80 = some ⟨false, 1, 8, [.nilFunc]⟩ := by kernel_rfl
theorem ti82 : tinfo Tryd.prog 82 = some ⟨false, 1, 8, [.nilFunc]⟩ := by kernel_rfl
theorem ti83 : tinfo Tryd.prog 83 = some ⟨false, 1, 8, [.nilFunc]⟩ := by kernel_rfl
theorem ti85 : tinfo Tryd.prog 85 = some ⟨false, 1, 8, [.nilFunc]⟩ := by kernel_rfl
theorem ti86 : tinfo Tryd.prog 86 = some ⟨false, 1, 8, [.nilFunc]⟩ := by kernel_rfl
theorem ti88 : tinfo Tryd.prog 88 = some ⟨false, 1, 8, [.nilFunc]⟩ := by kernel_rfl
theorem ti89 : tinfo Tryd.prog 89 = some ⟨false, 1, 8, [.nilFunc]⟩ := by kernel_rfl
theorem ti90 : tinfo Tryd.prog 90 = some ⟨false, 1, 8, [.nilFunc]⟩ := by kernel_rfl
theorem ti91 : tinfo Tryd.prog 91 = some ⟨false, 1, 8, [.nilFunc]⟩ := by kernel_rfl
theorem ti93 : tinfo Tryd.prog 93 = some ⟨false, 1, 4, [.int .u32 0]⟩ := by kernel_rfl
theorem it93 : intT Tryd.prog 93 = some .u32 := by kernel_rfl
theorem ht93 : hasT Tryd.prog 93 = true := by kernel_rfl
theorem ti95 : tinfo Tryd.prog 95 = some ⟨false, 1, 8, [.nilFunc]⟩ := by kernel_rfl
theorem ti96 : tinfo Tryd.prog 96 = some ⟨false, 1, 8, [.nilFunc]⟩ := by kernel_rfl
theorem ti97 : tinfo Tryd.prog 97 = some ⟨false, 1, 8, [.nilFunc]⟩ := by kernel_rfl
theorem ti98 : tinfo Tryd.prog 98 = some ⟨false, 1, 8, [.nilFunc]⟩ := by kernel_rfl
theorem ti100 : tinfo Tryd.prog 100 = some ⟨false, 1, 8, [.nilFunc]⟩ := by kernel_rfl
theorem ti103 : tinfo Tryd.prog 103 = some ⟨true, 4, 40, [.pointer none, .pointer none, .pointer none, .string ⟨#[]⟩]⟩ := by kernel_rfl
theorem fo103_0 : fieldOff Tryd.prog 103 0 = some 0 := by kernel_rfl
theorem fo103_1 : fieldOff Tryd.prog 103 1 = some 1 := by kernel_rfl
theorem fo103_2 : fieldOff Tryd.prog 103 2 = some 2 := by kernel_rfl
theorem fo103_3 : fieldOff Tryd.prog 103 3 = some 3 := by kernel_rfl
theorem pl103 : places Tryd.prog 103 = some [(0, 1), (1, 1), (2, 1), (3, 1)] := by kernel_rfl
theorem ti104 : tinfo Tryd.prog 104 = some ⟨true, 4, 40, [.pointer none, .pointer none, .pointer none, .string ⟨#[]⟩]⟩ := by kernel_rfl
theorem fo104_0 : fieldOff Tryd.prog 104 0 = some 0 := by kernel_rfl
theorem fo104_1 : fieldOff Tryd.prog 104 1 = some 1 := by kernel_rfl
theorem fo104_2 : fieldOff Tryd.prog 104 2 = some 2 := by kernel_rfl
theorem fo104_3 : fieldOff Tryd.prog 104 3 = some 3 := by kernel_rfl
theorem pl104 : places Tryd.prog 104 = some [(0, 1), (1, 1), (2, 1), (3, 1)] := by kernel_rfl
theorem ti106 : tinfo Tryd.prog 106 = some ⟨true, 0, 0, []⟩ := by kernel_rfl
theorem pl106 : places Tryd.prog 106 = some [(0, 0)] := by kernel_rfl
theorem ti107 : tinfo Tryd.prog 107 = some ⟨true, 0, 0, []⟩ := by kernel_rfl
theorem pl107 : places Tryd.prog 107 = some [(0, 0)] := by kernel_rfl
theorem ti108 : tinfo Tryd.prog 108 = some ⟨false, 1, 1, [.int .u8 0]⟩ := by kernel_rfl
theorem it108 : intT Tryd.prog 108 = some .u8 := by kernel_rfl
theorem ht108 : hasT Tryd.prog 108 = true := by kernel_rfl
theorem ti109 : tinfo Tryd.prog 109 = some ⟨false, 1, 1, [.int .u8 0]⟩ := by kernel_rfl
theorem it109 : intT Tryd.prog 109 = some .u8 := by kernel_rfl
theorem ht109 : hasT Tryd.prog 109 = true := by kernel_rfl
theorem ti110 : tinfo Tryd.prog 110 = some ⟨false, 1, 8, [.nilFunc]⟩ := by kernel_rfl
theorem ti111 : tinfo Tryd.prog 111 = some ⟨false, 1, 4, [.int .i32 0]⟩ := by kernel_rfl
theorem it111 : intT Tryd.prog 111 = some .i32 := by kernel_rfl
theorem ht111 : hasT Tryd.prog 111 = true := by kernel_rfl
theorem ti112 : tinfo Tryd.prog 112 = some ⟨false, 1, 4, [.int .i32 0]⟩ := by kernel_rfl
theorem it112 : intT Tryd.prog 112 = some .i32 := by kernel_rfl
theorem ht112 : hasT Tryd.prog 112 = true := by kernel_rfl
theorem ti113 : tinfo Tryd.prog 113 = some ⟨true, 11, 48, [.int .u64 0, .int .u64 0, .int .u32 0, .int .u8 0, .int .u8 0, .int .u8 0, .int .u8 0, .nilFunc, .pointer none, .int .i32 0, .int .i32 0]⟩ := by kernel_rfl
theorem fo113_0 : fieldOff Tryd.prog 113 0 = some 0 := by kernel_rfl
theorem fo113_1 : fieldOff Tryd.prog 113 1 = some 1 := by kernel_rfl
theorem fo113_2 : fieldOff Tryd.prog 113 2 = some 2 := by kernel_rfl
theorem fo113_3 : fieldOff Tryd.prog 113 3 = some 3 := by kernel_rfl
theorem fo113_4 : fieldOff Tryd.prog 113 4 = some 4 := by kernel_rfl
theorem fo113_5 : fieldOff Tryd.prog 113 5 = some 5 := by kernel_rfl
theorem fo113_6 : fieldOff Tryd.prog 113 6 = some 6 := by kernel_rfl
theorem fo113_7 : fieldOff Tryd.prog 113 7 = some 7 := by kernel_rfl
theorem fo113_8 : fieldOff Tryd.prog 113 8 = some 8 := by kernel_rfl
theorem fo113_9 : fieldOff Tryd.prog 113 9 = some 9 := by kernel_rfl
theorem fo113_10 : fieldOff Tryd.prog 113 10 = some 10 := by kernel_rfl
theorem pl113 : places Tryd.prog 113 = some [(0, 1), (1, 1), (2, 1), (3, 1), (4, 1), (5, 1), (6, 1), (7, 1), (8, 1), (9, 1), (10, 1)] := by kernel_rfl
theorem ti114 : tinfo Tryd.prog 114 = some ⟨true, 11, 48, [.int .u64 0, .int .u64 0, .int .u32 0, .int .u8 0, .int .u8 0, .int .u8 0, .int .u8 0, .nilFunc, .pointer none, .int .i32 0, .int .i32 0]⟩ := by kernel_rfl
theorem fo114_0 : fieldOff Tryd.prog 114 0 = some 0 := by kernel_rfl
theorem fo114_1 : fieldOff Tryd.prog 114 1 = some 1 := by kernel_rfl
theorem fo114_2 : fieldOff Tryd.prog 114 2 = some 2 := by kernel_rfl
theorem fo114_3 : fieldOff Tryd.prog 114 3 = some 3 := by kernel_rfl
theorem fo114_4 : fieldOff Tryd.prog 114 4 = some 4 := by kernel_rfl
theorem fo114_5 : fieldOff Tryd.prog 114 5 = some 5 := by kernel_rfl
theorem fo114_6 : fieldOff Tryd.prog 114 6 = some 6 := by kernel_rfl
theorem fo114_7 : fieldOff Tryd.prog 114 7 = some 7 := by kernel_rfl
theorem fo114_8 : fieldOff Tryd.prog 114 8 = some 8 := by kernel_rfl
theorem fo114_9 : fieldOff Tryd.prog 114 9 = some 9 := by kernel_rfl
theorem fo114_10 : fieldOff Tryd.prog 114 10 = some 10 := by kernel_rfl
theorem pl114 : places Tryd.prog 114 = some [(0, 1), (1, 1), (2, 1), (3, 1), (4, 1), (5, 1), (6, 1), (7, 1), (8, 1), (9, 1), (10, 1)] := by kernel_rfl
theorem ti115 : tinfo Tryd.prog 115 = some ⟨false, 1, 8, [.nilFunc]⟩ := by kernel_rfl
theorem ti116 : tinfo Tryd.prog 116 = some ⟨false, 1, 8, [.nilFunc]⟩ := by kernel_rfl
theorem ti117 : tinfo Tryd.prog 117 = some ⟨false, 1, 8, [.nilFunc]⟩ := by kernel_rfl
/-- The types in one name. -/
def tys := (And.intro (And.intro (And.intro (And.intro (And.intro (And.intro (And.intro ti1
 (And.intro ti2
 it2))
 (And.intro (And.intro ht2
 ti3)
 (And.intro it3
 ht3)))
 (And.intro (And.intro ti4
 (And.intro ti5
 it5))
 (And.intro (And.intro ht5
 ti6)
 (And.intro it6
 ht6))))
 (And.intro (And.intro (And.intro ti7
 (And.intro fo7_0
 fo7_1))
 (And.intro (And.intro fo7_2
 fo7_3)
 (And.intro pl7
 ti8)))
 (And.intro (And.intro (And.intro fo8_0
 fo8_1)
 (And.intro fo8_2
 fo8_3))
 (And.intro (And.intro pl8
 ti9)
 (And.intro st9
 ti10)))))
 (And.intro (And.intro (And.intro (And.intro st10
 (And.intro ti11
 st11))
 (And.intro (And.intro ti12
 it12)
 (And.intro ht12
 ti13)))
 (And.intro (And.intro (And.intro fo13_0
 fo13_1)
 (And.intro pl13
 ti14))
 (And.intro (And.intro fo14_0
 fo14_1)
 (And.intro pl14
 ti15))))
 (And.intro (And.intro (And.intro ti16
 (And.intro ti17
 ti18))
 (And.intro (And.intro fo18_0
 pl18)
 (And.intro ti19
 fo19_0)))
 (And.intro (And.intro (And.intro pl19
 ti20)
 (And.intro ti21
 it21))
 (And.intro (And.intro ht21
 ti22)
 (And.intro se22
 ti23))))))
 (And.intro (And.intro (And.intro (And.intro (And.intro ti24
 (And.intro se24
 ti25))
 (And.intro (And.intro ti26
 se26)
 (And.intro ti27
 fo27_0)))
 (And.intro (And.intro fo27_1
 (And.intro pl27
 ti28))
 (And.intro (And.intro fo28_0
 fo28_1)
 (And.intro pl28
 ti29))))
 (And.intro (And.intro (And.intro ti31
 (And.intro ti32
 ti34))
 (And.intro (And.intro ti35
 ti36)
 (And.intro ti37
 ti38)))
 (And.intro (And.intro (And.intro ti39
 ti40)
 (And.intro ti41
 ti42))
 (And.intro (And.intro fo42_0
 fo42_1)
 (And.intro pl42
 ti43)))))
 (And.intro (And.intro (And.intro (And.intro fo43_0
 (And.intro fo43_1
 pl43))
 (And.intro (And.intro ti44
 ti45)
 (And.intro ti46
 ti48)))
 (And.intro (And.intro (And.intro ti49
 ti50)
 (And.intro ti51
 ti52))
 (And.intro (And.intro ti54
 ti55)
 (And.intro ti56
 it56))))
 (And.intro (And.intro (And.intro ht56
 (And.intro ti57
 fo57_0))
 (And.intro (And.intro fo57_1
 fo57_2)
 (And.intro pl57
 ti58)))
 (And.intro (And.intro (And.intro fo58_0
 fo58_1)
 (And.intro fo58_2
 pl58))
 (And.intro (And.intro ti59
 ti60)
 (And.intro ti61
 ti62)))))))
 (And.intro (And.intro (And.intro (And.intro (And.intro (And.intro fo62_0
 (And.intro fo62_1
 pl62))
 (And.intro (And.intro ti63
 fo63_0)
 (And.intro fo63_1
 pl63)))
 (And.intro (And.intro ti64
 (And.intro fo64_0
 fo64_1))
 (And.intro (And.intro fo64_2
 pl64)
 (And.intro ti65
 fo65_0))))
 (And.intro (And.intro (And.intro fo65_1
 (And.intro fo65_2
 pl65))
 (And.intro (And.intro ti66
 fo66_0)
 (And.intro fo66_1
 fo66_2)))
 (And.intro (And.intro (And.intro fo66_3
 pl66)
 (And.intro ti67
 fo67_0))
 (And.intro (And.intro fo67_1
 fo67_2)
 (And.intro fo67_3
 pl67)))))
 (And.intro (And.intro (And.intro (And.intro ti68
 (And.intro ti69
 ti70))
 (And.intro (And.intro ti71
 ti72)
 (And.intro ti73
 ti74)))
 (And.intro (And.intro (And.intro it74
 ht74)
 (And.intro ti75
 ti76))
 (And.intro (And.intro ti77
 ti78)
 (And.intro se78
 ti79))))
 (And.intro (And.intro (And.intro ti80
 (And.intro ti82
 ti83))
 (And.intro (And.intro ti85
 ti86)
 (And.intro ti88
 ti89)))
 (And.intro (And.intro (And.intro ti90
 ti91)
 (And.intro ti93
 it93))
 (And.intro (And.intro ht93
 ti95)
 (And.intro ti96
 ti97))))))
 (And.intro (And.intro (And.intro (And.intro (And.intro ti98
 (And.intro ti100
 ti103))
 (And.intro (And.intro fo103_0
 fo103_1)
 (And.intro fo103_2
 fo103_3)))
 (And.intro (And.intro (And.intro pl103
 ti104)
 (And.intro fo104_0
 fo104_1))
 (And.intro (And.intro fo104_2
 fo104_3)
 (And.intro pl104
 ti106))))
 (And.intro (And.intro (And.intro pl106
 (And.intro ti107
 pl107))
 (And.intro (And.intro ti108
 it108)
 (And.intro ht108
 ti109)))
 (And.intro (And.intro (And.intro it109
 ht109)
 (And.intro ti110
 ti111))
 (And.intro (And.intro it111
 ht111)
 (And.intro ti112
 it112)))))
 (And.intro (And.intro (And.intro (And.intro ht112
 (And.intro ti113
 fo113_0))
 (And.intro (And.intro fo113_1
 fo113_2)
 (And.intro fo113_3
 fo113_4)))
 (And.intro (And.intro (And.intro fo113_5
 fo113_6)
 (And.intro fo113_7
 fo113_8))
 (And.intro (And.intro fo113_9
 fo113_10)
 (And.intro pl113
 ti114))))
 (And.intro (And.intro (And.intro fo114_0
 (And.intro fo114_1
 fo114_2))
 (And.intro (And.intro fo114_3
 fo114_4)
 (And.intro fo114_5
 fo114_6)))
 (And.intro (And.intro (And.intro fo114_7
 fo114_8)
 (And.intro fo114_9
 fo114_10))
 (And.intro (And.intro pl114
 ti115)
 (And.intro ti116
 ti117))))))))
end Go.Proofs.YtmjalehlcbfljaaDoor
