/- What the walks ask of the translation's types, each by the kernel: printed by xg.py. -/
import Derived.Test.YtgegppbjpaeljaaDoorProg
import Derived.Test.YtgegppbjpaeljaaDoorD
namespace Go.Proofs.YtgegppbjpaeljaaDoor.Ty
open Go Go.X
theorem mixed : Tryd.prog.follows .mixedOrders = true := by kernel_rfl
theorem ts3 : TSize Tryd.prog 3 1 := fun w => by kernel_rfl
theorem ts4 : TSize Tryd.prog 4 1 := fun w => by kernel_rfl
theorem ts5 : TSize Tryd.prog 5 1 := fun w => by kernel_rfl
theorem ts9 : TSize Tryd.prog 9 1 := fun w => by kernel_rfl
theorem ts22 : TSize Tryd.prog 22 1 := fun w => by kernel_rfl
theorem ts24 : TSize Tryd.prog 24 1 := fun w => by kernel_rfl
theorem ts28 : TSize Tryd.prog 28 4 := fun w => by kernel_rfl
theorem ts33 : TSize Tryd.prog 33 1 := fun w => by kernel_rfl
theorem ts44 : TSize Tryd.prog 44 1 := fun w => by kernel_rfl
theorem ts46 : TSize Tryd.prog 46 2 := fun w => by kernel_rfl
theorem ts55 : TSize Tryd.prog 55 1 := fun w => by kernel_rfl
theorem ts66 : TSize Tryd.prog 66 1 := fun w => by kernel_rfl
theorem ts67 : TSize Tryd.prog 67 1 := fun w => by kernel_rfl
theorem ts75 : TSize Tryd.prog 75 1 := fun w => by kernel_rfl
theorem ts78 : TSize Tryd.prog 78 1 := fun w => by kernel_rfl
theorem ts80 : TSize Tryd.prog 80 1 := fun w => by kernel_rfl
theorem ts85 : TSize Tryd.prog 85 4 := fun w => by kernel_rfl
theorem ts93 : TSize Tryd.prog 93 4 := fun w => by kernel_rfl
theorem ts113 : TSize Tryd.prog 113 1 := fun w => by kernel_rfl
theorem ts114 : TSize Tryd.prog 114 1 := fun w => by kernel_rfl
theorem ts115 : TSize Tryd.prog 115 1 := fun w => by kernel_rfl
theorem tf3 : TFlat Tryd.prog 3 := fun w => by kernel_rfl
theorem tf4 : TFlat Tryd.prog 4 := fun w => by kernel_rfl
theorem tf5 : TFlat Tryd.prog 5 := fun w => by kernel_rfl
theorem tf9 : TFlat Tryd.prog 9 := fun w => by kernel_rfl
theorem tf22 : TFlat Tryd.prog 22 := fun w => by kernel_rfl
theorem tf24 : TFlat Tryd.prog 24 := fun w => by kernel_rfl
theorem tf33 : TFlat Tryd.prog 33 := fun w => by kernel_rfl
theorem tf44 : TFlat Tryd.prog 44 := fun w => by kernel_rfl
theorem tf55 : TFlat Tryd.prog 55 := fun w => by kernel_rfl
theorem tf66 : TFlat Tryd.prog 66 := fun w => by kernel_rfl
theorem tf67 : TFlat Tryd.prog 67 := fun w => by kernel_rfl
theorem tf75 : TFlat Tryd.prog 75 := fun w => by kernel_rfl
theorem tf78 : TFlat Tryd.prog 78 := fun w => by kernel_rfl
theorem tf113 : TFlat Tryd.prog 113 := fun w => by kernel_rfl
theorem tf114 : TFlat Tryd.prog 114 := fun w => by kernel_rfl
theorem tf115 : TFlat Tryd.prog 115 := fun w => by kernel_rfl
theorem ta28 : TAgg Tryd.prog 28 4 := ⟨fun w => by kernel_rfl, ts28⟩
theorem ta46 : TAgg Tryd.prog 46 2 := ⟨fun w => by kernel_rfl, ts46⟩
theorem ta85 : TAgg Tryd.prog 85 4 := ⟨fun w => by kernel_rfl, ts85⟩
theorem ta93 : TAgg Tryd.prog 93 4 := ⟨fun w => by kernel_rfl, ts93⟩
theorem tz3 : TZero Tryd.prog 3 (.int .i64 0) := fun w => by kernel_rfl
theorem tz22 : TZero Tryd.prog 22 (.slice none 0 0) := fun w => by kernel_rfl
theorem tz24 : TZero Tryd.prog 24 (.nilIface) := fun w => by kernel_rfl
theorem tz28 : TZero Tryd.prog 28 (.agg #[.int .i64 0, .int .i64 0, .int .i64 0, .int .i64 0]) := fun w => by kernel_rfl
theorem tz33 : TZero Tryd.prog 33 (.slice none 0 0) := fun w => by kernel_rfl
theorem tz44 : TZero Tryd.prog 44 (.slice none 0 0) := fun w => by kernel_rfl
theorem tz46 : TZero Tryd.prog 46 (.agg #[.int .i64 0, .slice none 0 0]) := fun w => by kernel_rfl
theorem tz55 : TZero Tryd.prog 55 (.slice none 0 0) := fun w => by kernel_rfl
theorem tz69 : TZero Tryd.prog 69 (.agg #[.pointer none, .slice none 0 0]) := fun w => by kernel_rfl
theorem tz78 : TZero Tryd.prog 78 (.int .i64 0) := fun w => by kernel_rfl
theorem tz80 : TZero Tryd.prog 80 (.agg #[.int .i64 0]) := fun w => by kernel_rfl
theorem tz85 : TZero Tryd.prog 85 (.agg #[.slice none 0 0, .slice none 0 0, .int .i64 0, .int .i64 0]) := fun w => by kernel_rfl
theorem tz93 : TZero Tryd.prog 93 (.agg #[.slice none 0 0, .slice none 0 0, .int .i64 0, .int .i64 0]) := fun w => by kernel_rfl
theorem tl22 : TSlice Tryd.prog 22 28 4 := ⟨fun w => by kernel_rfl, ts28⟩
theorem tl29 : TSlice Tryd.prog 29 9 1 := ⟨fun w => by kernel_rfl, ts9⟩
theorem tl33 : TSlice Tryd.prog 33 46 2 := ⟨fun w => by kernel_rfl, ts46⟩
theorem tl44 : TSlice Tryd.prog 44 3 1 := ⟨fun w => by kernel_rfl, ts3⟩
theorem tl55 : TSlice Tryd.prog 55 4 1 := ⟨fun w => by kernel_rfl, ts4⟩
theorem tl67 : TSlice Tryd.prog 67 5 1 := ⟨fun w => by kernel_rfl, ts5⟩
theorem tl72 : TSlice Tryd.prog 72 75 1 := ⟨fun w => by kernel_rfl, ts75⟩
theorem tg9 : TString Tryd.prog 9 := fun w => by kernel_rfl
theorem td28_0 : TField Tryd.prog 28 0 0 := fun a w => by kernel_rfl
theorem td28_1 : TField Tryd.prog 28 1 1 := fun a w => by kernel_rfl
theorem td28_2 : TField Tryd.prog 28 2 2 := fun a w => by kernel_rfl
theorem td28_3 : TField Tryd.prog 28 3 3 := fun a w => by kernel_rfl
theorem td46_0 : TField Tryd.prog 46 0 0 := fun a w => by kernel_rfl
theorem td46_1 : TField Tryd.prog 46 1 1 := fun a w => by kernel_rfl
theorem td69_0 : TField Tryd.prog 69 0 0 := fun a w => by kernel_rfl
theorem td69_1 : TField Tryd.prog 69 1 1 := fun a w => by kernel_rfl
theorem td80_0 : TField Tryd.prog 80 0 0 := fun a w => by kernel_rfl
theorem td83_0 : TField Tryd.prog 83 0 0 := fun a w => by kernel_rfl
theorem td83_1 : TField Tryd.prog 83 1 1 := fun a w => by kernel_rfl
theorem td83_2 : TField Tryd.prog 83 2 2 := fun a w => by kernel_rfl
theorem td85_0 : TField Tryd.prog 85 0 0 := fun a w => by kernel_rfl
theorem td85_1 : TField Tryd.prog 85 1 1 := fun a w => by kernel_rfl
theorem td85_2 : TField Tryd.prog 85 2 2 := fun a w => by kernel_rfl
theorem td85_3 : TField Tryd.prog 85 3 3 := fun a w => by kernel_rfl
theorem td91_0 : TField Tryd.prog 91 0 0 := fun a w => by kernel_rfl
theorem td91_1 : TField Tryd.prog 91 1 1 := fun a w => by kernel_rfl
theorem td91_2 : TField Tryd.prog 91 2 2 := fun a w => by kernel_rfl
theorem td91_3 : TField Tryd.prog 91 3 3 := fun a w => by kernel_rfl
theorem td93_0 : TField Tryd.prog 93 0 0 := fun a w => by kernel_rfl
theorem td93_1 : TField Tryd.prog 93 1 1 := fun a w => by kernel_rfl
theorem td93_2 : TField Tryd.prog 93 2 2 := fun a w => by kernel_rfl
theorem td93_3 : TField Tryd.prog 93 3 3 := fun a w => by kernel_rfl
theorem td117_0 : TField Tryd.prog 117 0 0 := fun a w => by kernel_rfl
theorem td117_1 : TField Tryd.prog 117 1 1 := fun a w => by kernel_rfl
theorem td117_2 : TField Tryd.prog 117 2 2 := fun a w => by kernel_rfl
theorem td117_3 : TField Tryd.prog 117 3 3 := fun a w => by kernel_rfl
theorem td117_4 : TField Tryd.prog 117 4 4 := fun a w => by kernel_rfl
theorem te9 : TEnters Tryd.prog 9 := fun args w => by kernel_rfl
theorem te10 : TEnters Tryd.prog 10 := fun args w => by kernel_rfl
theorem te11 : TEnters Tryd.prog 11 := fun args w => by kernel_rfl
theorem te12 : TEnters Tryd.prog 12 := fun args w => by kernel_rfl
theorem te13 : TEnters Tryd.prog 13 := fun args w => by kernel_rfl
theorem te14 : TEnters Tryd.prog 14 := fun args w => by kernel_rfl
theorem te15 : TEnters Tryd.prog 15 := fun args w => by kernel_rfl
theorem te16 : TEnters Tryd.prog 16 := fun args w => by kernel_rfl
theorem te17 : TEnters Tryd.prog 17 := fun args w => by kernel_rfl
theorem te18 : TEnters Tryd.prog 18 := fun args w => by kernel_rfl
theorem te19 : TEnters Tryd.prog 19 := fun args w => by kernel_rfl
theorem te20 : TEnters Tryd.prog 20 := fun args w => by kernel_rfl
theorem te21 : TEnters Tryd.prog 21 := fun args w => by kernel_rfl
theorem te22 : TEnters Tryd.prog 22 := fun args w => by kernel_rfl
theorem te23 : TEnters Tryd.prog 23 := fun args w => by kernel_rfl
theorem te24 : TEnters Tryd.prog 24 := fun args w => by kernel_rfl
theorem te25 : TEnters Tryd.prog 25 := fun args w => by kernel_rfl
theorem te26 : TEnters Tryd.prog 26 := fun args w => by kernel_rfl
theorem te27 : TEnters Tryd.prog 27 := fun args w => by kernel_rfl
theorem te28 : TEnters Tryd.prog 28 := fun args w => by kernel_rfl
theorem te29 : TEnters Tryd.prog 29 := fun args w => by kernel_rfl
theorem te30 : TEnters Tryd.prog 30 := fun args w => by kernel_rfl
theorem te31 : TEnters Tryd.prog 31 := fun args w => by kernel_rfl
theorem te32 : TEnters Tryd.prog 32 := fun args w => by kernel_rfl
theorem te33 : TEnters Tryd.prog 33 := fun args w => by kernel_rfl
theorem te34 : TEnters Tryd.prog 34 := fun args w => by kernel_rfl
theorem te35 : TEnters Tryd.prog 35 := fun args w => by kernel_rfl
theorem te36 : TEnters Tryd.prog 36 := fun args w => by kernel_rfl
theorem te37 : TEnters Tryd.prog 37 := fun args w => by kernel_rfl
theorem te38 : TEnters Tryd.prog 38 := fun args w => by kernel_rfl
theorem te39 : TEnters Tryd.prog 39 := fun args w => by kernel_rfl
theorem te40 : TEnters Tryd.prog 40 := fun args w => by kernel_rfl
theorem te41 : TEnters Tryd.prog 41 := fun args w => by kernel_rfl
theorem te42 : TEnters Tryd.prog 42 := fun args w => by kernel_rfl
theorem te43 : TEnters Tryd.prog 43 := fun args w => by kernel_rfl
theorem te44 : TEnters Tryd.prog 44 := fun args w => by kernel_rfl
theorem te45 : TEnters Tryd.prog 45 := fun args w => by kernel_rfl
theorem te46 : TEnters Tryd.prog 46 := fun args w => by kernel_rfl
theorem te47 : TEnters Tryd.prog 47 := fun args w => by kernel_rfl
theorem te48 : TEnters Tryd.prog 48 := fun args w => by kernel_rfl
theorem te49 : TEnters Tryd.prog 49 := fun args w => by kernel_rfl
theorem te50 : TEnters Tryd.prog 50 := fun args w => by kernel_rfl
theorem te51 : TEnters Tryd.prog 51 := fun args w => by kernel_rfl
theorem te52 : TEnters Tryd.prog 52 := fun args w => by kernel_rfl
theorem te53 : TEnters Tryd.prog 53 := fun args w => by kernel_rfl
theorem te54 : TEnters Tryd.prog 54 := fun args w => by kernel_rfl
theorem te56 : TEnters Tryd.prog 56 := fun args w => by kernel_rfl
theorem te57 : TEnters Tryd.prog 57 := fun args w => by kernel_rfl
theorem te58 : TEnters Tryd.prog 58 := fun args w => by kernel_rfl
theorem te59 : TEnters Tryd.prog 59 := fun args w => by kernel_rfl
theorem te60 : TEnters Tryd.prog 60 := fun args w => by kernel_rfl
theorem te61 : TEnters Tryd.prog 61 := fun args w => by kernel_rfl
theorem te62 : TEnters Tryd.prog 62 := fun args w => by kernel_rfl
theorem te63 : TEnters Tryd.prog 63 := fun args w => by kernel_rfl
theorem te64 : TEnters Tryd.prog 64 := fun args w => by kernel_rfl
theorem te65 : TEnters Tryd.prog 65 := fun args w => by kernel_rfl
theorem te66 : TEnters Tryd.prog 66 := fun args w => by kernel_rfl
theorem te67 : TEnters Tryd.prog 67 := fun args w => by kernel_rfl
theorem te68 : TEnters Tryd.prog 68 := fun args w => by kernel_rfl
theorem te69 : TEnters Tryd.prog 69 := fun args w => by kernel_rfl
theorem te70 : TEnters Tryd.prog 70 := fun args w => by kernel_rfl
theorem te71 : TEnters Tryd.prog 71 := fun args w => by kernel_rfl
theorem te72 : TEnters Tryd.prog 72 := fun args w => by kernel_rfl
theorem te73 : TEnters Tryd.prog 73 := fun args w => by kernel_rfl
theorem te74 : TEnters Tryd.prog 74 := fun args w => by kernel_rfl
theorem te75 : TEnters Tryd.prog 75 := fun args w => by kernel_rfl
theorem te78 : TEnters Tryd.prog 78 := fun args w => by kernel_rfl
theorem te83 : TEnters Tryd.prog 83 := fun args w => by kernel_rfl
theorem te84 : TEnters Tryd.prog 84 := fun args w => by kernel_rfl
theorem te85 : TEnters Tryd.prog 85 := fun args w => by kernel_rfl
theorem te86 : TEnters Tryd.prog 86 := fun args w => by kernel_rfl
theorem te87 : TEnters Tryd.prog 87 := fun args w => by kernel_rfl
theorem te88 : TEnters Tryd.prog 88 := fun args w => by kernel_rfl
theorem te89 : TEnters Tryd.prog 89 := fun args w => by kernel_rfl
theorem te90 : TEnters Tryd.prog 90 := fun args w => by kernel_rfl
theorem te91 : TEnters Tryd.prog 91 := fun args w => by kernel_rfl
theorem te92 : TEnters Tryd.prog 92 := fun args w => by kernel_rfl
theorem te93 : TEnters Tryd.prog 93 := fun args w => by kernel_rfl
theorem te94 : TEnters Tryd.prog 94 := fun args w => by kernel_rfl
theorem te95 : TEnters Tryd.prog 95 := fun args w => by kernel_rfl
theorem te100 : TEnters Tryd.prog 100 := fun args w => by kernel_rfl
theorem te104 : TEnters Tryd.prog 104 := fun args w => by kernel_rfl
theorem te105 : TEnters Tryd.prog 105 := fun args w => by kernel_rfl
theorem te106 : TEnters Tryd.prog 106 := fun args w => by kernel_rfl
theorem te108 : TEnters Tryd.prog 108 := fun args w => by kernel_rfl
theorem te120 : TEnters Tryd.prog 120 := fun args w => by kernel_rfl
theorem te121 : TEnters Tryd.prog 121 := fun args w => by kernel_rfl
end Go.Proofs.YtgegppbjpaeljaaDoor.Ty
