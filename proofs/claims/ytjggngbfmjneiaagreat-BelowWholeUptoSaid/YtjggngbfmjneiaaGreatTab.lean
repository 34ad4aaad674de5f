import Derived.Test.YtjggngbfmjneiaaGreatFB
import Derived.Test.YtjggngbfmjneiaaGreatProg
import Derived.KernelRfl
set_option linter.unusedVariables false
set_option linter.unusedSimpArgs false
namespace Go.Ab
open Go.Proofs
def tt1 : TI := { k := .other, size := 1, bytes := 8, zero := some (.d (.lit (.nilFunc))) }
theorem tt1_ok : tiOf Tryz.prog 1 = some tt1 := by kernel_rfl
def tt2 : TI := { k := .int .i64, size := 1, bytes := 8, zero := some (.d (.lit (.int .i64 0))) }
theorem tt2_ok : tiOf Tryz.prog 2 = some tt2 := by kernel_rfl
def tt3 : TI := { k := .int .i64, size := 1, bytes := 8, zero := some (.d (.lit (.int .i64 0))) }
theorem tt3_ok : tiOf Tryz.prog 3 = some tt3 := by kernel_rfl
def tt4 : TI := { k := .bool, size := 1, bytes := 1, zero := some (.d (.lit (.bool false))) }
theorem tt4_ok : tiOf Tryz.prog 4 = some tt4 := by kernel_rfl
def tt5 : TI := { k := .int .u8, size := 1, bytes := 1, zero := some (.d (.lit (.int .u8 0))) }
theorem tt5_ok : tiOf Tryz.prog 5 = some tt5 := by kernel_rfl
def tt7 : TI := { k := .struct [(0, 2), (1, 3), (2, 4), (3, 6)], size := 4, bytes := 24, zero := some (.agg [.d (.lit (.int .i64 0)), .d (.lit (.int .i64 0)), .d (.lit (.bool false)), .d (.lit (.int .u8 0))]) }
theorem tt7_ok : tiOf Tryz.prog 7 = some tt7 := by kernel_rfl
def tt9 : TI := { k := .str, size := 1, bytes := 16, zero := some (.d (.lit (.string ⟨#[]⟩))) }
theorem tt9_ok : tiOf Tryz.prog 9 = some tt9 := by kernel_rfl
def tt12 : TI := { k := .int .u64, size := 1, bytes := 8, zero := some (.d (.lit (.int .u64 0))) }
theorem tt12_ok : tiOf Tryz.prog 12 = some tt12 := by kernel_rfl
def tt13 : TI := { k := .struct [(0, 9), (1, 12)], size := 2, bytes := 24, zero := some (.agg [.d (.lit (.string ⟨#[]⟩)), .d (.lit (.int .u64 0))]) }
theorem tt13_ok : tiOf Tryz.prog 13 = some tt13 := by kernel_rfl
def tt15 : TI := { k := .other, size := 1, bytes := 8, zero := some (.d (.lit (.pointer none))) }
theorem tt15_ok : tiOf Tryz.prog 15 = some tt15 := by kernel_rfl
def tt16 : TI := { k := .other, size := 1, bytes := 8, zero := some (.d (.lit (.pointer none))) }
theorem tt16_ok : tiOf Tryz.prog 16 = some tt16 := by kernel_rfl
def tt17 : TI := { k := .other, size := 1, bytes := 8, zero := some (.d (.lit (.pointer none))) }
theorem tt17_ok : tiOf Tryz.prog 17 = some tt17 := by kernel_rfl
def tt18 : TI := { k := .struct [(0, 17)], size := 1, bytes := 8, zero := some (.agg [.d (.lit (.pointer none))]) }
theorem tt18_ok : tiOf Tryz.prog 18 = some tt18 := by kernel_rfl
def tt21 : TI := { k := .int .i32, size := 1, bytes := 4, zero := some (.d (.lit (.int .i32 0))) }
theorem tt21_ok : tiOf Tryz.prog 21 = some tt21 := by kernel_rfl
def tt22 : TI := { k := .slice 49, size := 1, bytes := 24, zero := some (.d (.lit (.slice none 0 0))) }
theorem tt22_ok : tiOf Tryz.prog 22 = some tt22 := by kernel_rfl
def tt23 : TI := { k := .slice 9, size := 1, bytes := 24, zero := some (.d (.lit (.slice none 0 0))) }
theorem tt23_ok : tiOf Tryz.prog 23 = some tt23 := by kernel_rfl
def tt24 : TI := { k := .slice 40, size := 1, bytes := 24, zero := some (.d (.lit (.slice none 0 0))) }
theorem tt24_ok : tiOf Tryz.prog 24 = some tt24 := by kernel_rfl
def tt25 : TI := { k := .slice 44, size := 1, bytes := 24, zero := some (.d (.lit (.slice none 0 0))) }
theorem tt25_ok : tiOf Tryz.prog 25 = some tt25 := by kernel_rfl
def tt26 : TI := { k := .struct [(0, 4), (1, 4), (2, 4), (3, 4), (4, 22), (5, 4), (6, 23), (7, 24), (8, 25)], size := 9, bytes := 112, zero := some (.agg [.d (.lit (.bool false)), .d (.lit (.bool false)), .d (.lit (.bool false)), .d (.lit (.bool false)), .d (.lit (.slice none 0 0)), .d (.lit (.bool false)), .d (.lit (.slice none 0 0)), .d (.lit (.slice none 0 0)), .d (.lit (.slice none 0 0))]) }
theorem tt26_ok : tiOf Tryz.prog 26 = some tt26 := by kernel_rfl
def tt27 : TI := { k := .struct [(0, 4), (1, 4), (2, 4), (3, 4), (4, 22), (5, 4), (6, 23), (7, 24), (8, 25)], size := 9, bytes := 112, zero := some (.agg [.d (.lit (.bool false)), .d (.lit (.bool false)), .d (.lit (.bool false)), .d (.lit (.bool false)), .d (.lit (.slice none 0 0)), .d (.lit (.bool false)), .d (.lit (.slice none 0 0)), .d (.lit (.slice none 0 0)), .d (.lit (.slice none 0 0))]) }
theorem tt27_ok : tiOf Tryz.prog 27 = some tt27 := by kernel_rfl
def tt28 : TI := { k := .other, size := 1, bytes := 8, zero := some (.d (.lit (.nilFunc))) }
theorem tt28_ok : tiOf Tryz.prog 28 = some tt28 := by kernel_rfl
def tt29 : TI := { k := .other, size := 1, bytes := 8, zero := some (.d (.lit (.nilFunc))) }
theorem tt29_ok : tiOf Tryz.prog 29 = some tt29 := by kernel_rfl
def tt30 : TI := { k := .other, size := 1, bytes := 8, zero := some (.d (.lit (.nilFunc))) }
theorem tt30_ok : tiOf Tryz.prog 30 = some tt30 := by kernel_rfl
def tt31 : TI := { k := .slice 33, size := 1, bytes := 24, zero := some (.d (.lit (.slice none 0 0))) }
theorem tt31_ok : tiOf Tryz.prog 31 = some tt31 := by kernel_rfl
def tt32 : TI := { k := .struct [(0, 3), (1, 9), (2, 9), (3, 31), (4, 23)], size := 5, bytes := 88, zero := some (.agg [.d (.lit (.int .i64 0)), .d (.lit (.string ⟨#[]⟩)), .d (.lit (.string ⟨#[]⟩)), .d (.lit (.slice none 0 0)), .d (.lit (.slice none 0 0))]) }
theorem tt32_ok : tiOf Tryz.prog 32 = some tt32 := by kernel_rfl
def tt33 : TI := { k := .struct [(0, 3), (1, 9), (2, 9), (3, 31), (4, 23)], size := 5, bytes := 88, zero := some (.agg [.d (.lit (.int .i64 0)), .d (.lit (.string ⟨#[]⟩)), .d (.lit (.string ⟨#[]⟩)), .d (.lit (.slice none 0 0)), .d (.lit (.slice none 0 0))]) }
theorem tt33_ok : tiOf Tryz.prog 33 = some tt33 := by kernel_rfl
def tt35 : TI := { k := .other, size := 1, bytes := 8, zero := some (.d (.lit (.nilFunc))) }
theorem tt35_ok : tiOf Tryz.prog 35 = some tt35 := by kernel_rfl
def tt36 : TI := { k := .other, size := 1, bytes := 8, zero := some (.d (.lit (.nilFunc))) }
theorem tt36_ok : tiOf Tryz.prog 36 = some tt36 := by kernel_rfl
def tt37 : TI := { k := .other, size := 1, bytes := 8, zero := some (.d (.lit (.nilFunc))) }
theorem tt37_ok : tiOf Tryz.prog 37 = some tt37 := by kernel_rfl
def tt38 : TI := { k := .other, size := 1, bytes := 8, zero := some (.d (.lit (.nilFunc))) }
theorem tt38_ok : tiOf Tryz.prog 38 = some tt38 := by kernel_rfl
def tt39 : TI := { k := .struct [(0, 27), (9, 3), (10, 3)], size := 11, bytes := 128, zero := some (.agg [.d (.lit (.bool false)), .d (.lit (.bool false)), .d (.lit (.bool false)), .d (.lit (.bool false)), .d (.lit (.slice none 0 0)), .d (.lit (.bool false)), .d (.lit (.slice none 0 0)), .d (.lit (.slice none 0 0)), .d (.lit (.slice none 0 0)), .d (.lit (.int .i64 0)), .d (.lit (.int .i64 0))]) }
theorem tt39_ok : tiOf Tryz.prog 39 = some tt39 := by kernel_rfl
def tt40 : TI := { k := .struct [(0, 27), (9, 3), (10, 3)], size := 11, bytes := 128, zero := some (.agg [.d (.lit (.bool false)), .d (.lit (.bool false)), .d (.lit (.bool false)), .d (.lit (.bool false)), .d (.lit (.slice none 0 0)), .d (.lit (.bool false)), .d (.lit (.slice none 0 0)), .d (.lit (.slice none 0 0)), .d (.lit (.slice none 0 0)), .d (.lit (.int .i64 0)), .d (.lit (.int .i64 0))]) }
theorem tt40_ok : tiOf Tryz.prog 40 = some tt40 := by kernel_rfl
def tt41 : TI := { k := .slice 27, size := 1, bytes := 24, zero := some (.d (.lit (.slice none 0 0))) }
theorem tt41_ok : tiOf Tryz.prog 41 = some tt41 := by kernel_rfl
def tt42 : TI := { k := .slice 4, size := 1, bytes := 24, zero := some (.d (.lit (.slice none 0 0))) }
theorem tt42_ok : tiOf Tryz.prog 42 = some tt42 := by kernel_rfl
def tt43 : TI := { k := .struct [(0, 23), (1, 41), (2, 42), (3, 27)], size := 12, bytes := 184, zero := some (.agg [.d (.lit (.slice none 0 0)), .d (.lit (.slice none 0 0)), .d (.lit (.slice none 0 0)), .d (.lit (.bool false)), .d (.lit (.bool false)), .d (.lit (.bool false)), .d (.lit (.bool false)), .d (.lit (.slice none 0 0)), .d (.lit (.bool false)), .d (.lit (.slice none 0 0)), .d (.lit (.slice none 0 0)), .d (.lit (.slice none 0 0))]) }
theorem tt43_ok : tiOf Tryz.prog 43 = some tt43 := by kernel_rfl
def tt44 : TI := { k := .struct [(0, 23), (1, 41), (2, 42), (3, 27)], size := 12, bytes := 184, zero := some (.agg [.d (.lit (.slice none 0 0)), .d (.lit (.slice none 0 0)), .d (.lit (.slice none 0 0)), .d (.lit (.bool false)), .d (.lit (.bool false)), .d (.lit (.bool false)), .d (.lit (.bool false)), .d (.lit (.slice none 0 0)), .d (.lit (.bool false)), .d (.lit (.slice none 0 0)), .d (.lit (.slice none 0 0)), .d (.lit (.slice none 0 0))]) }
theorem tt44_ok : tiOf Tryz.prog 44 = some tt44 := by kernel_rfl
def tt45 : TI := { k := .other, size := 1, bytes := 8, zero := some (.d (.lit (.nilFunc))) }
theorem tt45_ok : tiOf Tryz.prog 45 = some tt45 := by kernel_rfl
def tt46 : TI := { k := .other, size := 1, bytes := 8, zero := some (.d (.lit (.nilFunc))) }
theorem tt46_ok : tiOf Tryz.prog 46 = some tt46 := by kernel_rfl
def tt47 : TI := { k := .other, size := 1, bytes := 8, zero := some (.d (.lit (.nilFunc))) }
theorem tt47_ok : tiOf Tryz.prog 47 = some tt47 := by kernel_rfl
def tt48 : TI := { k := .struct [(0, 9), (1, 9)], size := 2, bytes := 32, zero := some (.agg [.d (.lit (.string ⟨#[]⟩)), .d (.lit (.string ⟨#[]⟩))]) }
theorem tt48_ok : tiOf Tryz.prog 48 = some tt48 := by kernel_rfl
def tt49 : TI := { k := .struct [(0, 9), (1, 9)], size := 2, bytes := 32, zero := some (.agg [.d (.lit (.string ⟨#[]⟩)), .d (.lit (.string ⟨#[]⟩))]) }
theorem tt49_ok : tiOf Tryz.prog 49 = some tt49 := by kernel_rfl
def tt50 : TI := { k := .other, size := 1, bytes := 8, zero := some (.d (.lit (.nilFunc))) }
theorem tt50_ok : tiOf Tryz.prog 50 = some tt50 := by kernel_rfl
def tt51 : TI := { k := .other, size := 1, bytes := 8, zero := some (.d (.lit (.nilFunc))) }
theorem tt51_ok : tiOf Tryz.prog 51 = some tt51 := by kernel_rfl
def tt52 : TI := { k := .other, size := 1, bytes := 8, zero := some (.d (.lit (.nilFunc))) }
theorem tt52_ok : tiOf Tryz.prog 52 = some tt52 := by kernel_rfl
def tt53 : TI := { k := .other, size := 1, bytes := 8, zero := some (.d (.lit (.nilFunc))) }
theorem tt53_ok : tiOf Tryz.prog 53 = some tt53 := by kernel_rfl
def tt54 : TI := { k := .other, size := 1, bytes := 8, zero := some (.d (.lit (.nilFunc))) }
theorem tt54_ok : tiOf Tryz.prog 54 = some tt54 := by kernel_rfl
def tt55 : TI := { k := .other, size := 1, bytes := 8, zero := some (.d (.lit (.nilFunc))) }
theorem tt55_ok : tiOf Tryz.prog 55 = some tt55 := by kernel_rfl
def tt56 : TI := { k := .other, size := 1, bytes := 8, zero := some (.d (.lit (.nilFunc))) }
theorem tt56_ok : tiOf Tryz.prog 56 = some tt56 := by kernel_rfl
def tt57 : TI := { k := .other, size := 1, bytes := 8, zero := some (.d (.lit (.nilFunc))) }
theorem tt57_ok : tiOf Tryz.prog 57 = some tt57 := by kernel_rfl
def tt58 : TI := { k := .struct [(0, 4), (1, 4), (2, 4), (3, 4), (4, 22), (5, 4), (6, 23), (7, 24), (8, 25)], size := 9, bytes := 112, zero := some (.agg [.d (.lit (.bool false)), .d (.lit (.bool false)), .d (.lit (.bool false)), .d (.lit (.bool false)), .d (.lit (.slice none 0 0)), .d (.lit (.bool false)), .d (.lit (.slice none 0 0)), .d (.lit (.slice none 0 0)), .d (.lit (.slice none 0 0))]) }
theorem tt58_ok : tiOf Tryz.prog 58 = some tt58 := by kernel_rfl
def tt59 : TI := { k := .arr 5 56, size := 5, bytes := 40, zero := some (.agg [.d (.lit (.nilFunc)), .d (.lit (.nilFunc)), .d (.lit (.nilFunc)), .d (.lit (.nilFunc)), .d (.lit (.nilFunc))]) }
theorem tt59_ok : tiOf Tryz.prog 59 = some tt59 := by kernel_rfl
def tt60 : TI := { k := .other, size := 1, bytes := 8, zero := some (.d (.lit (.nilFunc))) }
theorem tt60_ok : tiOf Tryz.prog 60 = some tt60 := by kernel_rfl
def tt61 : TI := { k := .other, size := 1, bytes := 8, zero := some (.d (.lit (.nilFunc))) }
theorem tt61_ok : tiOf Tryz.prog 61 = some tt61 := by kernel_rfl
def tt62 : TI := { k := .other, size := 1, bytes := 8, zero := some (.d (.lit (.nilFunc))) }
theorem tt62_ok : tiOf Tryz.prog 62 = some tt62 := by kernel_rfl
def tt63 : TI := { k := .other, size := 1, bytes := 8, zero := some (.d (.lit (.nilFunc))) }
theorem tt63_ok : tiOf Tryz.prog 63 = some tt63 := by kernel_rfl
def tt64 : TI := { k := .other, size := 1, bytes := 8, zero := some (.d (.lit (.nilFunc))) }
theorem tt64_ok : tiOf Tryz.prog 64 = some tt64 := by kernel_rfl
def tt65 : TI := { k := .other, size := 1, bytes := 8, zero := some (.d (.lit (.nilFunc))) }
theorem tt65_ok : tiOf Tryz.prog 65 = some tt65 := by kernel_rfl
def tt66 : TI := { k := .other, size := 1, bytes := 8, zero := some (.d (.lit (.nilFunc))) }
theorem tt66_ok : tiOf Tryz.prog 66 = some tt66 := by kernel_rfl
def tt67 : TI := { k := .other, size := 1, bytes := 8, zero := some (.d (.lit (.nilFunc))) }
theorem tt67_ok : tiOf Tryz.prog 67 = some tt67 := by kernel_rfl
def tt68 : TI := { k := .other, size := 1, bytes := 8, zero := some (.d (.lit (.nilFunc))) }
theorem tt68_ok : tiOf Tryz.prog 68 = some tt68 := by kernel_rfl
def tt69 : TI := { k := .other, size := 1, bytes := 8, zero := some (.d (.lit (.nilFunc))) }
theorem tt69_ok : tiOf Tryz.prog 69 = some tt69 := by kernel_rfl
def tt70 : TI := { k := .other, size := 1, bytes := 8, zero := some (.d (.lit (.nilFunc))) }
theorem tt70_ok : tiOf Tryz.prog 70 = some tt70 := by kernel_rfl
def tt71 : TI := { k := .other, size := 1, bytes := 8, zero := some (.d (.lit (.nilFunc))) }
theorem tt71_ok : tiOf Tryz.prog 71 = some tt71 := by kernel_rfl
def tt72 : TI := { k := .other, size := 1, bytes := 8, zero := some (.d (.lit (.nilFunc))) }
theorem tt72_ok : tiOf Tryz.prog 72 = some tt72 := by kernel_rfl
def tt73 : TI := { k := .other, size := 1, bytes := 8, zero := some (.d (.lit (.nilFunc))) }
theorem tt73_ok : tiOf Tryz.prog 73 = some tt73 := by kernel_rfl
def tt74 : TI := { k := .other, size := 1, bytes := 8, zero := some (.d (.lit (.nilFunc))) }
theorem tt74_ok : tiOf Tryz.prog 74 = some tt74 := by kernel_rfl
def tt75 : TI := { k := .other, size := 1, bytes := 8, zero := some (.d (.lit (.nilFunc))) }
theorem tt75_ok : tiOf Tryz.prog 75 = some tt75 := by kernel_rfl
def tt76 : TI := { k := .other, size := 1, bytes := 8, zero := some (.d (.lit (.nilFunc))) }
theorem tt76_ok : tiOf Tryz.prog 76 = some tt76 := by kernel_rfl
def tt77 : TI := { k := .other, size := 1, bytes := 8, zero := some (.d (.lit (.nilFunc))) }
theorem tt77_ok : tiOf Tryz.prog 77 = some tt77 := by kernel_rfl
def tt78 : TI := { k := .other, size := 1, bytes := 8, zero := some (.d (.lit (.nilFunc))) }
theorem tt78_ok : tiOf Tryz.prog 78 = some tt78 := by kernel_rfl
def tt79 : TI := { k := .other, size := 1, bytes := 8, zero := some (.d (.lit (.nilFunc))) }
theorem tt79_ok : tiOf Tryz.prog 79 = some tt79 := by kernel_rfl
def tt81 : TI := { k := .other, size := 1, bytes := 8, zero := some (.d (.lit (.nilFunc))) }
theorem tt81_ok : tiOf Tryz.prog 81 = some tt81 := by kernel_rfl
def tt83 : TI := { k := .other, size := 1, bytes := 8, zero := some (.d (.lit (.nilFunc))) }
theorem tt83_ok : tiOf Tryz.prog 83 = some tt83 := by kernel_rfl
def tt84 : TI := { k := .other, size := 1, bytes := 8, zero := some (.d (.lit (.nilFunc))) }
theorem tt84_ok : tiOf Tryz.prog 84 = some tt84 := by kernel_rfl
def tt85 : TI := { k := .other, size := 1, bytes := 8, zero := some (.d (.lit (.nilFunc))) }
theorem tt85_ok : tiOf Tryz.prog 85 = some tt85 := by kernel_rfl
def tt86 : TI := { k := .other, size := 1, bytes := 8, zero := some (.d (.lit (.nilFunc))) }
theorem tt86_ok : tiOf Tryz.prog 86 = some tt86 := by kernel_rfl
def tt87 : TI := { k := .other, size := 1, bytes := 8, zero := some (.d (.lit (.nilFunc))) }
theorem tt87_ok : tiOf Tryz.prog 87 = some tt87 := by kernel_rfl
def tt88 : TI := { k := .other, size := 1, bytes := 8, zero := some (.d (.lit (.nilFunc))) }
theorem tt88_ok : tiOf Tryz.prog 88 = some tt88 := by kernel_rfl
def tt89 : TI := { k := .other, size := 1, bytes := 8, zero := some (.d (.lit (.nilFunc))) }
theorem tt89_ok : tiOf Tryz.prog 89 = some tt89 := by kernel_rfl
def tt90 : TI := { k := .other, size := 1, bytes := 8, zero := some (.d (.lit (.nilFunc))) }
theorem tt90_ok : tiOf Tryz.prog 90 = some tt90 := by kernel_rfl
def tt91 : TI := { k := .other, size := 1, bytes := 8, zero := some (.d (.lit (.nilFunc))) }
theorem tt91_ok : tiOf Tryz.prog 91 = some tt91 := by kernel_rfl
def tt92 : TI := { k := .other, size := 1, bytes := 8, zero := some (.d (.lit (.nilFunc))) }
theorem tt92_ok : tiOf Tryz.prog 92 = some tt92 := by kernel_rfl
def tt93 : TI := { k := .other, size := 1, bytes := 8, zero := some (.d (.lit (.nilFunc))) }
theorem tt93_ok : tiOf Tryz.prog 93 = some tt93 := by kernel_rfl
def tt94 : TI := { k := .other, size := 1, bytes := 8, zero := some (.d (.lit (.nilFunc))) }
theorem tt94_ok : tiOf Tryz.prog 94 = some tt94 := by kernel_rfl
def tt95 : TI := { k := .other, size := 1, bytes := 8, zero := some (.d (.lit (.nilFunc))) }
theorem tt95_ok : tiOf Tryz.prog 95 = some tt95 := by kernel_rfl
def tt96 : TI := { k := .other, size := 1, bytes := 8, zero := some (.d (.lit (.nilFunc))) }
theorem tt96_ok : tiOf Tryz.prog 96 = some tt96 := by kernel_rfl
def tt97 : TI := { k := .arr 7 4, size := 7, bytes := 7, zero := some (.agg [.d (.lit (.bool false)), .d (.lit (.bool false)), .d (.lit (.bool false)), .d (.lit (.bool false)), .d (.lit (.bool false)), .d (.lit (.bool false)), .d (.lit (.bool false))]) }
theorem tt97_ok : tiOf Tryz.prog 97 = some tt97 := by kernel_rfl
def tt98 : TI := { k := .other, size := 1, bytes := 8, zero := some (.d (.lit (.nilFunc))) }
theorem tt98_ok : tiOf Tryz.prog 98 = some tt98 := by kernel_rfl
def tt99 : TI := { k := .other, size := 1, bytes := 8, zero := some (.d (.lit (.nilFunc))) }
theorem tt99_ok : tiOf Tryz.prog 99 = some tt99 := by kernel_rfl
def tt100 : TI := { k := .other, size := 1, bytes := 8, zero := some (.d (.lit (.nilFunc))) }
theorem tt100_ok : tiOf Tryz.prog 100 = some tt100 := by kernel_rfl
def tt101 : TI := { k := .other, size := 1, bytes := 8, zero := some (.d (.lit (.nilFunc))) }
theorem tt101_ok : tiOf Tryz.prog 101 = some tt101 := by kernel_rfl
def tt102 : TI := { k := .other, size := 1, bytes := 8, zero := some (.d (.lit (.nilFunc))) }
theorem tt102_ok : tiOf Tryz.prog 102 = some tt102 := by kernel_rfl
def tt103 : TI := { k := .other, size := 1, bytes := 8, zero := some (.d (.lit (.nilFunc))) }
theorem tt103_ok : tiOf Tryz.prog 103 = some tt103 := by kernel_rfl
def tt105 : TI := { k := .other, size := 1, bytes := 8, zero := some (.d (.lit (.nilFunc))) }
theorem tt105_ok : tiOf Tryz.prog 105 = some tt105 := by kernel_rfl
def tt106 : TI := { k := .other, size := 1, bytes := 8, zero := some (.d (.lit (.nilFunc))) }
theorem tt106_ok : tiOf Tryz.prog 106 = some tt106 := by kernel_rfl
def tt107 : TI := { k := .int .i64, size := 1, bytes := 8, zero := some (.d (.lit (.int .i64 0))) }
theorem tt107_ok : tiOf Tryz.prog 107 = some tt107 := by kernel_rfl
def tt109 : TI := { k := .other, size := 1, bytes := 8, zero := some (.d (.lit (.nilFunc))) }
theorem tt109_ok : tiOf Tryz.prog 109 = some tt109 := by kernel_rfl
def tt110 : TI := { k := .other, size := 1, bytes := 8, zero := some (.d (.lit (.nilFunc))) }
theorem tt110_ok : tiOf Tryz.prog 110 = some tt110 := by kernel_rfl
def tt112 : TI := { k := .other, size := 1, bytes := 8, zero := some (.d (.lit (.nilFunc))) }
theorem tt112_ok : tiOf Tryz.prog 112 = some tt112 := by kernel_rfl
def tt114 : TI := { k := .other, size := 1, bytes := 8, zero := some (.d (.lit (.nilFunc))) }
theorem tt114_ok : tiOf Tryz.prog 114 = some tt114 := by kernel_rfl
def tt115 : TI := { k := .other, size := 1, bytes := 8, zero := some (.d (.lit (.nilFunc))) }
theorem tt115_ok : tiOf Tryz.prog 115 = some tt115 := by kernel_rfl
def tt116 : TI := { k := .other, size := 1, bytes := 8, zero := some (.d (.lit (.nilFunc))) }
theorem tt116_ok : tiOf Tryz.prog 116 = some tt116 := by kernel_rfl
def tt117 : TI := { k := .int .u64, size := 1, bytes := 8, zero := some (.d (.lit (.int .u64 0))) }
theorem tt117_ok : tiOf Tryz.prog 117 = some tt117 := by kernel_rfl
def tt118 : TI := { k := .other, size := 1, bytes := 8, zero := some (.d (.lit (.nilFunc))) }
theorem tt118_ok : tiOf Tryz.prog 118 = some tt118 := by kernel_rfl
def tt119 : TI := { k := .other, size := 1, bytes := 8, zero := some (.d (.lit (.nilFunc))) }
theorem tt119_ok : tiOf Tryz.prog 119 = some tt119 := by kernel_rfl
def tt120 : TI := { k := .int .i64, size := 1, bytes := 8, zero := some (.d (.lit (.int .i64 0))) }
theorem tt120_ok : tiOf Tryz.prog 120 = some tt120 := by kernel_rfl
def tt122 : TI := { k := .other, size := 1, bytes := 8, zero := some (.d (.lit (.nilFunc))) }
theorem tt122_ok : tiOf Tryz.prog 122 = some tt122 := by kernel_rfl
def tt123 : TI := { k := .other, size := 1, bytes := 8, zero := some (.d (.lit (.nilFunc))) }
theorem tt123_ok : tiOf Tryz.prog 123 = some tt123 := by kernel_rfl
def tt124 : TI := { k := .other, size := 1, bytes := 8, zero := some (.d (.lit (.nilFunc))) }
theorem tt124_ok : tiOf Tryz.prog 124 = some tt124 := by kernel_rfl
def tt125 : TI := { k := .other, size := 1, bytes := 8, zero := some (.d (.lit (.nilFunc))) }
theorem tt125_ok : tiOf Tryz.prog 125 = some tt125 := by kernel_rfl
def tt126 : TI := { k := .other, size := 1, bytes := 8, zero := some (.d (.lit (.nilFunc))) }
theorem tt126_ok : tiOf Tryz.prog 126 = some tt126 := by kernel_rfl
def tt127 : TI := { k := .int .u32, size := 1, bytes := 4, zero := some (.d (.lit (.int .u32 0))) }
theorem tt127_ok : tiOf Tryz.prog 127 = some tt127 := by kernel_rfl
def tt128 : TI := { k := .other, size := 1, bytes := 8, zero := some (.d (.lit (.nilFunc))) }
theorem tt128_ok : tiOf Tryz.prog 128 = some tt128 := by kernel_rfl
def tt129 : TI := { k := .int .u64, size := 1, bytes := 8, zero := some (.d (.lit (.int .u64 0))) }
theorem tt129_ok : tiOf Tryz.prog 129 = some tt129 := by kernel_rfl
def tt130 : TI := { k := .int .u64, size := 1, bytes := 8, zero := some (.d (.lit (.int .u64 0))) }
theorem tt130_ok : tiOf Tryz.prog 130 = some tt130 := by kernel_rfl
def tt131 : TI := { k := .other, size := 1, bytes := 8, zero := some (.d (.lit (.nilFunc))) }
theorem tt131_ok : tiOf Tryz.prog 131 = some tt131 := by kernel_rfl
def tt132 : TI := { k := .other, size := 1, bytes := 8, zero := some (.d (.lit (.nilFunc))) }
theorem tt132_ok : tiOf Tryz.prog 132 = some tt132 := by kernel_rfl
def tt133 : TI := { k := .other, size := 1, bytes := 8, zero := some (.d (.lit (.nilFunc))) }
theorem tt133_ok : tiOf Tryz.prog 133 = some tt133 := by kernel_rfl
def tt134 : TI := { k := .other, size := 1, bytes := 8, zero := some (.d (.lit (.pointer none))) }
theorem tt134_ok : tiOf Tryz.prog 134 = some tt134 := by kernel_rfl
def tt135 : TI := { k := .other, size := 1, bytes := 8, zero := some (.d (.lit (.nilFunc))) }
theorem tt135_ok : tiOf Tryz.prog 135 = some tt135 := by kernel_rfl
def tt136 : TI := { k := .other, size := 1, bytes := 8, zero := some (.d (.lit (.pointer none))) }
theorem tt136_ok : tiOf Tryz.prog 136 = some tt136 := by kernel_rfl
def tt138 : TI := { k := .other, size := 1, bytes := 8, zero := some (.d (.lit (.nilFunc))) }
theorem tt138_ok : tiOf Tryz.prog 138 = some tt138 := by kernel_rfl
def tt139 : TI := { k := .other, size := 1, bytes := 8, zero := some (.d (.lit (.nilFunc))) }
theorem tt139_ok : tiOf Tryz.prog 139 = some tt139 := by kernel_rfl
def tt140 : TI := { k := .struct [(0, 17), (1, 17), (2, 17), (3, 9)], size := 4, bytes := 40, zero := some (.agg [.d (.lit (.pointer none)), .d (.lit (.pointer none)), .d (.lit (.pointer none)), .d (.lit (.string ⟨#[]⟩))]) }
theorem tt140_ok : tiOf Tryz.prog 140 = some tt140 := by kernel_rfl
def tt142 : TI := { k := .arr 0 16, size := 0, bytes := 0, zero := some (.agg []) }
theorem tt142_ok : tiOf Tryz.prog 142 = some tt142 := by kernel_rfl
def tt143 : TI := { k := .struct [(0, 142)], size := 0, bytes := 0, zero := some (.agg []) }
theorem tt143_ok : tiOf Tryz.prog 143 = some tt143 := by kernel_rfl
def tt145 : TI := { k := .other, size := 1, bytes := 8, zero := some (.d (.lit (.nilFunc))) }
theorem tt145_ok : tiOf Tryz.prog 145 = some tt145 := by kernel_rfl
def tt148 : TI := { k := .other, size := 1, bytes := 8, zero := some (.d (.lit (.nilFunc))) }
theorem tt148_ok : tiOf Tryz.prog 148 = some tt148 := by kernel_rfl
def tt149 : TI := { k := .other, size := 1, bytes := 8, zero := some (.d (.lit (.pointer none))) }
theorem tt149_ok : tiOf Tryz.prog 149 = some tt149 := by kernel_rfl
def tt152 : TI := { k := .struct [(0, 12), (1, 12), (2, 127), (3, 146), (4, 5), (5, 5), (6, 147), (7, 148), (8, 149), (9, 150), (10, 151)], size := 11, bytes := 48, zero := some (.agg [.d (.lit (.int .u64 0)), .d (.lit (.int .u64 0)), .d (.lit (.int .u32 0)), .d (.lit (.int .u8 0)), .d (.lit (.int .u8 0)), .d (.lit (.int .u8 0)), .d (.lit (.int .u8 0)), .d (.lit (.nilFunc)), .d (.lit (.pointer none)), .d (.lit (.int .i32 0)), .d (.lit (.int .i32 0))]) }
theorem tt152_ok : tiOf Tryz.prog 152 = some tt152 := by kernel_rfl
def TT : Tab := tab [(1, tt1), (2, tt2), (3, tt3), (4, tt4), (5, tt5), (7, tt7), (9, tt9), (12, tt12), (13, tt13), (15, tt15), (16, tt16), (17, tt17), (18, tt18), (21, tt21), (22, tt22), (23, tt23), (24, tt24), (25, tt25), (26, tt26), (27, tt27), (28, tt28), (29, tt29), (30, tt30), (31, tt31), (32, tt32), (33, tt33), (35, tt35), (36, tt36), (37, tt37), (38, tt38), (39, tt39), (40, tt40), (41, tt41), (42, tt42), (43, tt43), (44, tt44), (45, tt45), (46, tt46), (47, tt47), (48, tt48), (49, tt49), (50, tt50), (51, tt51), (52, tt52), (53, tt53), (54, tt54), (55, tt55), (56, tt56), (57, tt57), (58, tt58), (59, tt59), (60, tt60), (61, tt61), (62, tt62), (63, tt63), (64, tt64), (65, tt65), (66, tt66), (67, tt67), (68, tt68), (69, tt69), (70, tt70), (71, tt71), (72, tt72), (73, tt73), (74, tt74), (75, tt75), (76, tt76), (77, tt77), (78, tt78), (79, tt79), (81, tt81), (83, tt83), (84, tt84), (85, tt85), (86, tt86), (87, tt87), (88, tt88), (89, tt89), (90, tt90), (91, tt91), (92, tt92), (93, tt93), (94, tt94), (95, tt95), (96, tt96), (97, tt97), (98, tt98), (99, tt99), (100, tt100), (101, tt101), (102, tt102), (103, tt103), (105, tt105), (106, tt106), (107, tt107), (109, tt109), (110, tt110), (112, tt112), (114, tt114), (115, tt115), (116, tt116), (117, tt117), (118, tt118), (119, tt119), (120, tt120), (122, tt122), (123, tt123), (124, tt124), (125, tt125), (126, tt126), (127, tt127), (128, tt128), (129, tt129), (130, tt130), (131, tt131), (132, tt132), (133, tt133), (134, tt134), (135, tt135), (136, tt136), (138, tt138), (139, tt139), (140, tt140), (142, tt142), (143, tt143), (145, tt145), (148, tt148), (149, tt149), (152, tt152)]
theorem TTok : TabOk Tryz.prog TT := tabOk_cons tt1_ok (tabOk_cons tt2_ok (tabOk_cons tt3_ok (tabOk_cons tt4_ok (tabOk_cons tt5_ok (tabOk_cons tt7_ok (tabOk_cons tt9_ok (tabOk_cons tt12_ok (tabOk_cons tt13_ok (tabOk_cons tt15_ok (tabOk_cons tt16_ok (tabOk_cons tt17_ok (tabOk_cons tt18_ok (tabOk_cons tt21_ok (tabOk_cons tt22_ok (tabOk_cons tt23_ok (tabOk_cons tt24_ok (tabOk_cons tt25_ok (tabOk_cons tt26_ok (tabOk_cons tt27_ok (tabOk_cons tt28_ok (tabOk_cons tt29_ok (tabOk_cons tt30_ok (tabOk_cons tt31_ok (tabOk_cons tt32_ok (tabOk_cons tt33_ok (tabOk_cons tt35_ok (tabOk_cons tt36_ok (tabOk_cons tt37_ok (tabOk_cons tt38_ok (tabOk_cons tt39_ok (tabOk_cons tt40_ok (tabOk_cons tt41_ok (tabOk_cons tt42_ok (tabOk_cons tt43_ok (tabOk_cons tt44_ok (tabOk_cons tt45_ok (tabOk_cons tt46_ok (tabOk_cons tt47_ok (tabOk_cons tt48_ok (tabOk_cons tt49_ok (tabOk_cons tt50_ok (tabOk_cons tt51_ok (tabOk_cons tt52_ok (tabOk_cons tt53_ok (tabOk_cons tt54_ok (tabOk_cons tt55_ok (tabOk_cons tt56_ok (tabOk_cons tt57_ok (tabOk_cons tt58_ok (tabOk_cons tt59_ok (tabOk_cons tt60_ok (tabOk_cons tt61_ok (tabOk_cons tt62_ok (tabOk_cons tt63_ok (tabOk_cons tt64_ok (tabOk_cons tt65_ok (tabOk_cons tt66_ok (tabOk_cons tt67_ok (tabOk_cons tt68_ok (tabOk_cons tt69_ok (tabOk_cons tt70_ok (tabOk_cons tt71_ok (tabOk_cons tt72_ok (tabOk_cons tt73_ok (tabOk_cons tt74_ok (tabOk_cons tt75_ok (tabOk_cons tt76_ok (tabOk_cons tt77_ok (tabOk_cons tt78_ok (tabOk_cons tt79_ok (tabOk_cons tt81_ok (tabOk_cons tt83_ok (tabOk_cons tt84_ok (tabOk_cons tt85_ok (tabOk_cons tt86_ok (tabOk_cons tt87_ok (tabOk_cons tt88_ok (tabOk_cons tt89_ok (tabOk_cons tt90_ok (tabOk_cons tt91_ok (tabOk_cons tt92_ok (tabOk_cons tt93_ok (tabOk_cons tt94_ok (tabOk_cons tt95_ok (tabOk_cons tt96_ok (tabOk_cons tt97_ok (tabOk_cons tt98_ok (tabOk_cons tt99_ok (tabOk_cons tt100_ok (tabOk_cons tt101_ok (tabOk_cons tt102_ok (tabOk_cons tt103_ok (tabOk_cons tt105_ok (tabOk_cons tt106_ok (tabOk_cons tt107_ok (tabOk_cons tt109_ok (tabOk_cons tt110_ok (tabOk_cons tt112_ok (tabOk_cons tt114_ok (tabOk_cons tt115_ok (tabOk_cons tt116_ok (tabOk_cons tt117_ok (tabOk_cons tt118_ok (tabOk_cons tt119_ok (tabOk_cons tt120_ok (tabOk_cons tt122_ok (tabOk_cons tt123_ok (tabOk_cons tt124_ok (tabOk_cons tt125_ok (tabOk_cons tt126_ok (tabOk_cons tt127_ok (tabOk_cons tt128_ok (tabOk_cons tt129_ok (tabOk_cons tt130_ok (tabOk_cons tt131_ok (tabOk_cons tt132_ok (tabOk_cons tt133_ok (tabOk_cons tt134_ok (tabOk_cons tt135_ok (tabOk_cons tt136_ok (tabOk_cons tt138_ok (tabOk_cons tt139_ok (tabOk_cons tt140_ok (tabOk_cons tt142_ok (tabOk_cons tt143_ok (tabOk_cons tt145_ok (tabOk_cons tt148_ok (tabOk_cons tt149_ok (tabOk_cons tt152_ok (tabOk_nil _))))))))))))))))))))))))))))))))))))))))))))))))))))))))))))))))))))))))))))))))))))))))))))))))))))))))))))))))))))))))))))))))))
theorem mixed : Tryz.prog.follows .mixedOrders = true := by kernel_rfl
end Go.Ab
