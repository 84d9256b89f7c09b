import Derived.Test.YtkcbjhjpepdkcaaV4
import Derived.Test.YtkcbjhjpepdkcaaChecked
import Derived.Lib.Strings
import Derived.Lib.Slices
import Derived.Lib.Walk
import Derived.Lib.Bytealg
section
set_option linter.unusedVariables false
open Go Go.VM Go.Proofs
namespace Go.VM.Try
theorem tn1 : tint Try.prog 1 = false := by kernel_rfl
theorem tk1 : tkind Try.prog 1 = .other := by kernel_rfl
theorem te1 : telem Try.prog 1 = none := by kernel_rfl
theorem ts1 : tsize Try.prog 1 = 1 := by kernel_rfl
theorem tb1 : tbytes Try.prog 1 = 8 := by kernel_rfl
theorem tz1 : tzero Try.prog 1 = (some [.bad]) := by kernel_rfl
theorem ti1 : ti Try.prog 1 = ⟨1, 8, (some false), none, .other, (some [.bad])⟩ := by kernel_rfl
theorem tn2 : tint Try.prog 2 = true := by kernel_rfl
theorem tk2 : tkind Try.prog 2 = (.int .i64) := by kernel_rfl
theorem te2 : telem Try.prog 2 = none := by kernel_rfl
theorem ts2 : tsize Try.prog 2 = 1 := by kernel_rfl
theorem tb2 : tbytes Try.prog 2 = 8 := by kernel_rfl
theorem tz2 : tzero Try.prog 2 = (some [.int .i64 (0)]) := by kernel_rfl
theorem ti2 : ti Try.prog 2 = ⟨1, 8, (some false), none, (.int .i64), (some [.int .i64 (0)])⟩ := by kernel_rfl
theorem tn3 : tint Try.prog 3 = true := by kernel_rfl
theorem tk3 : tkind Try.prog 3 = (.int .i64) := by kernel_rfl
theorem te3 : telem Try.prog 3 = none := by kernel_rfl
theorem ts3 : tsize Try.prog 3 = 1 := by kernel_rfl
theorem tb3 : tbytes Try.prog 3 = 8 := by kernel_rfl
theorem tz3 : tzero Try.prog 3 = (some [.int .i64 (0)]) := by kernel_rfl
theorem ti3 : ti Try.prog 3 = ⟨1, 8, (some false), none, (.int .i64), (some [.int .i64 (0)])⟩ := by kernel_rfl
theorem tn4 : tint Try.prog 4 = false := by kernel_rfl
theorem tk4 : tkind Try.prog 4 = .bool := by kernel_rfl
theorem te4 : telem Try.prog 4 = none := by kernel_rfl
theorem ts4 : tsize Try.prog 4 = 1 := by kernel_rfl
theorem tb4 : tbytes Try.prog 4 = 1 := by kernel_rfl
theorem tz4 : tzero Try.prog 4 = (some [.bool false]) := by kernel_rfl
theorem ti4 : ti Try.prog 4 = ⟨1, 1, (some false), none, .bool, (some [.bool false])⟩ := by kernel_rfl
theorem tn5 : tint Try.prog 5 = true := by kernel_rfl
theorem tk5 : tkind Try.prog 5 = (.int .u8) := by kernel_rfl
theorem te5 : telem Try.prog 5 = none := by kernel_rfl
theorem ts5 : tsize Try.prog 5 = 1 := by kernel_rfl
theorem tb5 : tbytes Try.prog 5 = 1 := by kernel_rfl
theorem tz5 : tzero Try.prog 5 = (some [.int .u8 (0)]) := by kernel_rfl
theorem ti5 : ti Try.prog 5 = ⟨1, 1, (some false), none, (.int .u8), (some [.int .u8 (0)])⟩ := by kernel_rfl
theorem tn6 : tint Try.prog 6 = true := by kernel_rfl
theorem tk6 : tkind Try.prog 6 = (.int .u8) := by kernel_rfl
theorem te6 : telem Try.prog 6 = none := by kernel_rfl
theorem ts6 : tsize Try.prog 6 = 1 := by kernel_rfl
theorem tb6 : tbytes Try.prog 6 = 1 := by kernel_rfl
theorem tz6 : tzero Try.prog 6 = (some [.int .u8 (0)]) := by kernel_rfl
theorem ti6 : ti Try.prog 6 = ⟨1, 1, (some false), none, (.int .u8), (some [.int .u8 (0)])⟩ := by kernel_rfl
theorem pl7 : tplaces Try.prog 7 = (some [(0, 1), (1, 1), (2, 1), (3, 1)]) := by kernel_rfl
theorem tf7_0 : tfield Try.prog 7 0 = (some (0, 2)) := by kernel_rfl
theorem tf7_1 : tfield Try.prog 7 1 = (some (1, 3)) := by kernel_rfl
theorem tf7_2 : tfield Try.prog 7 2 = (some (2, 4)) := by kernel_rfl
theorem tf7_3 : tfield Try.prog 7 3 = (some (3, 6)) := by kernel_rfl
theorem tn7 : tint Try.prog 7 = false := by kernel_rfl
theorem tk7 : tkind Try.prog 7 = (.flat [1, 1, 0, 1]) := by kernel_rfl
theorem te7 : telem Try.prog 7 = none := by kernel_rfl
theorem ts7 : tsize Try.prog 7 = 4 := by kernel_rfl
theorem tb7 : tbytes Try.prog 7 = 24 := by kernel_rfl
theorem tz7 : tzero Try.prog 7 = (some [.int .i64 (0), .int .i64 (0), .bool false, .int .u8 (0)]) := by kernel_rfl
theorem ti7 : ti Try.prog 7 = ⟨4, 24, (some true), none, (.flat [1, 1, 0, 1]), (some [.int .i64 (0), .int .i64 (0), .bool false, .int .u8 (0)])⟩ := by kernel_rfl
theorem pl8 : tplaces Try.prog 8 = (some [(0, 1), (1, 1), (2, 1), (3, 1)]) := by kernel_rfl
theorem tf8_0 : tfield Try.prog 8 0 = (some (0, 2)) := by kernel_rfl
theorem tf8_1 : tfield Try.prog 8 1 = (some (1, 3)) := by kernel_rfl
theorem tf8_2 : tfield Try.prog 8 2 = (some (2, 4)) := by kernel_rfl
theorem tf8_3 : tfield Try.prog 8 3 = (some (3, 6)) := by kernel_rfl
theorem tn8 : tint Try.prog 8 = false := by kernel_rfl
theorem tk8 : tkind Try.prog 8 = (.flat [1, 1, 0, 1]) := by kernel_rfl
theorem te8 : telem Try.prog 8 = none := by kernel_rfl
theorem ts8 : tsize Try.prog 8 = 4 := by kernel_rfl
theorem tb8 : tbytes Try.prog 8 = 24 := by kernel_rfl
theorem tz8 : tzero Try.prog 8 = (some [.int .i64 (0), .int .i64 (0), .bool false, .int .u8 (0)]) := by kernel_rfl
theorem ti8 : ti Try.prog 8 = ⟨4, 24, (some true), none, (.flat [1, 1, 0, 1]), (some [.int .i64 (0), .int .i64 (0), .bool false, .int .u8 (0)])⟩ := by kernel_rfl
theorem tn9 : tint Try.prog 9 = false := by kernel_rfl
theorem tk9 : tkind Try.prog 9 = .str := by kernel_rfl
theorem te9 : telem Try.prog 9 = none := by kernel_rfl
theorem ts9 : tsize Try.prog 9 = 1 := by kernel_rfl
theorem tb9 : tbytes Try.prog 9 = 16 := by kernel_rfl
theorem tz9 : tzero Try.prog 9 = (some [.str []]) := by kernel_rfl
theorem ti9 : ti Try.prog 9 = ⟨1, 16, (some false), none, .str, (some [.str []])⟩ := by kernel_rfl
theorem tn10 : tint Try.prog 10 = false := by kernel_rfl
theorem tk10 : tkind Try.prog 10 = .str := by kernel_rfl
theorem te10 : telem Try.prog 10 = none := by kernel_rfl
theorem ts10 : tsize Try.prog 10 = 1 := by kernel_rfl
theorem tb10 : tbytes Try.prog 10 = 16 := by kernel_rfl
theorem tz10 : tzero Try.prog 10 = (some [.str []]) := by kernel_rfl
theorem ti10 : ti Try.prog 10 = ⟨1, 16, (some false), none, .str, (some [.str []])⟩ := by kernel_rfl
theorem tn11 : tint Try.prog 11 = false := by kernel_rfl
theorem tk11 : tkind Try.prog 11 = .str := by kernel_rfl
theorem te11 : telem Try.prog 11 = none := by kernel_rfl
theorem ts11 : tsize Try.prog 11 = 1 := by kernel_rfl
theorem tb11 : tbytes Try.prog 11 = 16 := by kernel_rfl
theorem tz11 : tzero Try.prog 11 = (some [.str []]) := by kernel_rfl
theorem ti11 : ti Try.prog 11 = ⟨1, 16, (some false), none, .str, (some [.str []])⟩ := by kernel_rfl
theorem tn12 : tint Try.prog 12 = true := by kernel_rfl
theorem tk12 : tkind Try.prog 12 = (.int .u64) := by kernel_rfl
theorem te12 : telem Try.prog 12 = none := by kernel_rfl
theorem ts12 : tsize Try.prog 12 = 1 := by kernel_rfl
theorem tb12 : tbytes Try.prog 12 = 8 := by kernel_rfl
theorem tz12 : tzero Try.prog 12 = (some [.int .u64 (0)]) := by kernel_rfl
theorem ti12 : ti Try.prog 12 = ⟨1, 8, (some false), none, (.int .u64), (some [.int .u64 (0)])⟩ := by kernel_rfl
theorem pl13 : tplaces Try.prog 13 = (some [(0, 1), (1, 1)]) := by kernel_rfl
theorem tf13_0 : tfield Try.prog 13 0 = (some (0, 9)) := by kernel_rfl
theorem tf13_1 : tfield Try.prog 13 1 = (some (1, 12)) := by kernel_rfl
theorem tn13 : tint Try.prog 13 = false := by kernel_rfl
theorem tk13 : tkind Try.prog 13 = .other := by kernel_rfl
theorem te13 : telem Try.prog 13 = none := by kernel_rfl
theorem ts13 : tsize Try.prog 13 = 2 := by kernel_rfl
theorem tb13 : tbytes Try.prog 13 = 24 := by kernel_rfl
theorem tz13 : tzero Try.prog 13 = (some [.str [], .int .u64 (0)]) := by kernel_rfl
theorem ti13 : ti Try.prog 13 = ⟨2, 24, (some true), none, .other, (some [.str [], .int .u64 (0)])⟩ := by kernel_rfl
theorem pl14 : tplaces Try.prog 14 = (some [(0, 1), (1, 1)]) := by kernel_rfl
theorem tf14_0 : tfield Try.prog 14 0 = (some (0, 9)) := by kernel_rfl
theorem tf14_1 : tfield Try.prog 14 1 = (some (1, 12)) := by kernel_rfl
theorem tn14 : tint Try.prog 14 = false := by kernel_rfl
theorem tk14 : tkind Try.prog 14 = .other := by kernel_rfl
theorem te14 : telem Try.prog 14 = none := by kernel_rfl
theorem ts14 : tsize Try.prog 14 = 2 := by kernel_rfl
theorem tb14 : tbytes Try.prog 14 = 24 := by kernel_rfl
theorem tz14 : tzero Try.prog 14 = (some [.str [], .int .u64 (0)]) := by kernel_rfl
theorem ti14 : ti Try.prog 14 = ⟨2, 24, (some true), none, .other, (some [.str [], .int .u64 (0)])⟩ := by kernel_rfl
theorem tn15 : tint Try.prog 15 = false := by kernel_rfl
theorem tk15 : tkind Try.prog 15 = .other := by kernel_rfl
theorem te15 : telem Try.prog 15 = none := by kernel_rfl
theorem ts15 : tsize Try.prog 15 = 1 := by kernel_rfl
theorem tb15 : tbytes Try.prog 15 = 8 := by kernel_rfl
theorem tz15 : tzero Try.prog 15 = (some [.bad]) := by kernel_rfl
theorem ti15 : ti Try.prog 15 = ⟨1, 8, (some false), none, .other, (some [.bad])⟩ := by kernel_rfl
theorem tn16 : tint Try.prog 16 = false := by kernel_rfl
theorem tk16 : tkind Try.prog 16 = .other := by kernel_rfl
theorem te16 : telem Try.prog 16 = none := by kernel_rfl
theorem ts16 : tsize Try.prog 16 = 1 := by kernel_rfl
theorem tb16 : tbytes Try.prog 16 = 8 := by kernel_rfl
theorem tz16 : tzero Try.prog 16 = (some [.bad]) := by kernel_rfl
theorem ti16 : ti Try.prog 16 = ⟨1, 8, (some false), none, .other, (some [.bad])⟩ := by kernel_rfl
theorem tn17 : tint Try.prog 17 = false := by kernel_rfl
theorem tk17 : tkind Try.prog 17 = .other := by kernel_rfl
theorem te17 : telem Try.prog 17 = none := by kernel_rfl
theorem ts17 : tsize Try.prog 17 = 1 := by kernel_rfl
theorem tb17 : tbytes Try.prog 17 = 8 := by kernel_rfl
theorem tz17 : tzero Try.prog 17 = (some [.bad]) := by kernel_rfl
theorem ti17 : ti Try.prog 17 = ⟨1, 8, (some false), none, .other, (some [.bad])⟩ := by kernel_rfl
theorem pl18 : tplaces Try.prog 18 = (some [(0, 1)]) := by kernel_rfl
theorem tf18_0 : tfield Try.prog 18 0 = (some (0, 17)) := by kernel_rfl
theorem tn18 : tint Try.prog 18 = false := by kernel_rfl
theorem tk18 : tkind Try.prog 18 = .other := by kernel_rfl
theorem te18 : telem Try.prog 18 = none := by kernel_rfl
theorem ts18 : tsize Try.prog 18 = 1 := by kernel_rfl
theorem tb18 : tbytes Try.prog 18 = 8 := by kernel_rfl
theorem tz18 : tzero Try.prog 18 = (some [.bad]) := by kernel_rfl
theorem ti18 : ti Try.prog 18 = ⟨1, 8, (some true), none, .other, (some [.bad])⟩ := by kernel_rfl
theorem pl19 : tplaces Try.prog 19 = (some [(0, 1)]) := by kernel_rfl
theorem tf19_0 : tfield Try.prog 19 0 = (some (0, 17)) := by kernel_rfl
theorem tn19 : tint Try.prog 19 = false := by kernel_rfl
theorem tk19 : tkind Try.prog 19 = .other := by kernel_rfl
theorem te19 : telem Try.prog 19 = none := by kernel_rfl
theorem ts19 : tsize Try.prog 19 = 1 := by kernel_rfl
theorem tb19 : tbytes Try.prog 19 = 8 := by kernel_rfl
theorem tz19 : tzero Try.prog 19 = (some [.bad]) := by kernel_rfl
theorem ti19 : ti Try.prog 19 = ⟨1, 8, (some true), none, .other, (some [.bad])⟩ := by kernel_rfl
theorem tn20 : tint Try.prog 20 = false := by kernel_rfl
theorem tk20 : tkind Try.prog 20 = .other := by kernel_rfl
theorem te20 : telem Try.prog 20 = none := by kernel_rfl
theorem ts20 : tsize Try.prog 20 = 1 := by kernel_rfl
theorem tb20 : tbytes Try.prog 20 = 16 := by kernel_rfl
theorem tz20 : tzero Try.prog 20 = (some [.bad]) := by kernel_rfl
theorem ti20 : ti Try.prog 20 = ⟨1, 16, (some false), none, .other, (some [.bad])⟩ := by kernel_rfl
theorem tn21 : tint Try.prog 21 = true := by kernel_rfl
theorem tk21 : tkind Try.prog 21 = (.int .i32) := by kernel_rfl
theorem te21 : telem Try.prog 21 = none := by kernel_rfl
theorem ts21 : tsize Try.prog 21 = 1 := by kernel_rfl
theorem tb21 : tbytes Try.prog 21 = 4 := by kernel_rfl
theorem tz21 : tzero Try.prog 21 = (some [.int .i32 (0)]) := by kernel_rfl
theorem ti21 : ti Try.prog 21 = ⟨1, 4, (some false), none, (.int .i32), (some [.int .i32 (0)])⟩ := by kernel_rfl
theorem tn22 : tint Try.prog 22 = false := by kernel_rfl
theorem tk22 : tkind Try.prog 22 = .slice := by kernel_rfl
theorem te22 : telem Try.prog 22 = (some 44) := by kernel_rfl
theorem ts22 : tsize Try.prog 22 = 1 := by kernel_rfl
theorem tb22 : tbytes Try.prog 22 = 24 := by kernel_rfl
theorem tz22 : tzero Try.prog 22 = (some [.nil]) := by kernel_rfl
theorem ti22 : ti Try.prog 22 = ⟨1, 24, (some false), (some 44), .slice, (some [.nil])⟩ := by kernel_rfl
theorem pl23 : tplaces Try.prog 23 = (some [(0, 1), (1, 1), (2, 1), (3, 1)]) := by kernel_rfl
theorem tf23_0 : tfield Try.prog 23 0 = (some (0, 22)) := by kernel_rfl
theorem tf23_1 : tfield Try.prog 23 1 = (some (1, 3)) := by kernel_rfl
theorem tf23_2 : tfield Try.prog 23 2 = (some (2, 3)) := by kernel_rfl
theorem tf23_3 : tfield Try.prog 23 3 = (some (3, 3)) := by kernel_rfl
theorem tn23 : tint Try.prog 23 = false := by kernel_rfl
theorem tk23 : tkind Try.prog 23 = .other := by kernel_rfl
theorem te23 : telem Try.prog 23 = none := by kernel_rfl
theorem ts23 : tsize Try.prog 23 = 4 := by kernel_rfl
theorem tb23 : tbytes Try.prog 23 = 48 := by kernel_rfl
theorem tz23 : tzero Try.prog 23 = (some [.nil, .int .i64 (0), .int .i64 (0), .int .i64 (0)]) := by kernel_rfl
theorem ti23 : ti Try.prog 23 = ⟨4, 48, (some true), none, .other, (some [.nil, .int .i64 (0), .int .i64 (0), .int .i64 (0)])⟩ := by kernel_rfl
theorem pl24 : tplaces Try.prog 24 = (some [(0, 1), (1, 1), (2, 1), (3, 1)]) := by kernel_rfl
theorem tf24_0 : tfield Try.prog 24 0 = (some (0, 22)) := by kernel_rfl
theorem tf24_1 : tfield Try.prog 24 1 = (some (1, 3)) := by kernel_rfl
theorem tf24_2 : tfield Try.prog 24 2 = (some (2, 3)) := by kernel_rfl
theorem tf24_3 : tfield Try.prog 24 3 = (some (3, 3)) := by kernel_rfl
theorem tn24 : tint Try.prog 24 = false := by kernel_rfl
theorem tk24 : tkind Try.prog 24 = .other := by kernel_rfl
theorem te24 : telem Try.prog 24 = none := by kernel_rfl
theorem ts24 : tsize Try.prog 24 = 4 := by kernel_rfl
theorem tb24 : tbytes Try.prog 24 = 48 := by kernel_rfl
theorem tz24 : tzero Try.prog 24 = (some [.nil, .int .i64 (0), .int .i64 (0), .int .i64 (0)]) := by kernel_rfl
theorem ti24 : ti Try.prog 24 = ⟨4, 48, (some true), none, .other, (some [.nil, .int .i64 (0), .int .i64 (0), .int .i64 (0)])⟩ := by kernel_rfl
theorem tn25 : tint Try.prog 25 = true := by kernel_rfl
theorem tk25 : tkind Try.prog 25 = (.int .i64) := by kernel_rfl
theorem te25 : telem Try.prog 25 = none := by kernel_rfl
theorem ts25 : tsize Try.prog 25 = 1 := by kernel_rfl
theorem tb25 : tbytes Try.prog 25 = 8 := by kernel_rfl
theorem tz25 : tzero Try.prog 25 = (some [.int .i64 (0)]) := by kernel_rfl
theorem ti25 : ti Try.prog 25 = ⟨1, 8, (some false), none, (.int .i64), (some [.int .i64 (0)])⟩ := by kernel_rfl
theorem tn26 : tint Try.prog 26 = false := by kernel_rfl
theorem tk26 : tkind Try.prog 26 = .other := by kernel_rfl
theorem te26 : telem Try.prog 26 = none := by kernel_rfl
theorem ts26 : tsize Try.prog 26 = 1 := by kernel_rfl
theorem tb26 : tbytes Try.prog 26 = 0 := by kernel_rfl
theorem tz26 : tzero Try.prog 26 = none := by kernel_rfl
theorem ti26 : ti Try.prog 26 = ⟨1, 0, (some false), none, .other, none⟩ := by kernel_rfl
theorem tn27 : tint Try.prog 27 = false := by kernel_rfl
theorem tk27 : tkind Try.prog 27 = .other := by kernel_rfl
theorem te27 : telem Try.prog 27 = none := by kernel_rfl
theorem ts27 : tsize Try.prog 27 = 1 := by kernel_rfl
theorem tb27 : tbytes Try.prog 27 = 8 := by kernel_rfl
theorem tz27 : tzero Try.prog 27 = (some [.bad]) := by kernel_rfl
theorem ti27 : ti Try.prog 27 = ⟨1, 8, (some false), none, .other, (some [.bad])⟩ := by kernel_rfl
theorem tn28 : tint Try.prog 28 = false := by kernel_rfl
theorem tk28 : tkind Try.prog 28 = .other := by kernel_rfl
theorem te28 : telem Try.prog 28 = none := by kernel_rfl
theorem ts28 : tsize Try.prog 28 = 1 := by kernel_rfl
theorem tb28 : tbytes Try.prog 28 = 8 := by kernel_rfl
theorem tz28 : tzero Try.prog 28 = (some [.bad]) := by kernel_rfl
theorem ti28 : ti Try.prog 28 = ⟨1, 8, (some false), none, .other, (some [.bad])⟩ := by kernel_rfl
theorem tn29 : tint Try.prog 29 = false := by kernel_rfl
theorem tk29 : tkind Try.prog 29 = .other := by kernel_rfl
theorem te29 : telem Try.prog 29 = none := by kernel_rfl
theorem ts29 : tsize Try.prog 29 = 1 := by kernel_rfl
theorem tb29 : tbytes Try.prog 29 = 8 := by kernel_rfl
theorem tz29 : tzero Try.prog 29 = (some [.bad]) := by kernel_rfl
theorem ti29 : ti Try.prog 29 = ⟨1, 8, (some false), none, .other, (some [.bad])⟩ := by kernel_rfl
theorem tn30 : tint Try.prog 30 = false := by kernel_rfl
theorem tk30 : tkind Try.prog 30 = .other := by kernel_rfl
theorem te30 : telem Try.prog 30 = none := by kernel_rfl
theorem ts30 : tsize Try.prog 30 = 1 := by kernel_rfl
theorem tb30 : tbytes Try.prog 30 = 8 := by kernel_rfl
theorem tz30 : tzero Try.prog 30 = (some [.bad]) := by kernel_rfl
theorem ti30 : ti Try.prog 30 = ⟨1, 8, (some false), none, .other, (some [.bad])⟩ := by kernel_rfl
theorem tn31 : tint Try.prog 31 = false := by kernel_rfl
theorem tk31 : tkind Try.prog 31 = .other := by kernel_rfl
theorem te31 : telem Try.prog 31 = none := by kernel_rfl
theorem ts31 : tsize Try.prog 31 = 1 := by kernel_rfl
theorem tb31 : tbytes Try.prog 31 = 8 := by kernel_rfl
theorem tz31 : tzero Try.prog 31 = (some [.bad]) := by kernel_rfl
theorem ti31 : ti Try.prog 31 = ⟨1, 8, (some false), none, .other, (some [.bad])⟩ := by kernel_rfl
theorem tn32 : tint Try.prog 32 = false := by kernel_rfl
theorem tk32 : tkind Try.prog 32 = .other := by kernel_rfl
theorem te32 : telem Try.prog 32 = none := by kernel_rfl
theorem ts32 : tsize Try.prog 32 = 1 := by kernel_rfl
theorem tb32 : tbytes Try.prog 32 = 8 := by kernel_rfl
theorem tz32 : tzero Try.prog 32 = (some [.bad]) := by kernel_rfl
theorem ti32 : ti Try.prog 32 = ⟨1, 8, (some false), none, .other, (some [.bad])⟩ := by kernel_rfl
theorem tn33 : tint Try.prog 33 = false := by kernel_rfl
theorem tk33 : tkind Try.prog 33 = .other := by kernel_rfl
theorem te33 : telem Try.prog 33 = none := by kernel_rfl
theorem ts33 : tsize Try.prog 33 = 1 := by kernel_rfl
theorem tb33 : tbytes Try.prog 33 = 0 := by kernel_rfl
theorem tz33 : tzero Try.prog 33 = none := by kernel_rfl
theorem ti33 : ti Try.prog 33 = ⟨1, 0, (some false), none, .other, none⟩ := by kernel_rfl
theorem tn34 : tint Try.prog 34 = false := by kernel_rfl
theorem tk34 : tkind Try.prog 34 = .other := by kernel_rfl
theorem te34 : telem Try.prog 34 = none := by kernel_rfl
theorem ts34 : tsize Try.prog 34 = 1 := by kernel_rfl
theorem tb34 : tbytes Try.prog 34 = 8 := by kernel_rfl
theorem tz34 : tzero Try.prog 34 = (some [.bad]) := by kernel_rfl
theorem ti34 : ti Try.prog 34 = ⟨1, 8, (some false), none, .other, (some [.bad])⟩ := by kernel_rfl
theorem tn35 : tint Try.prog 35 = false := by kernel_rfl
theorem tk35 : tkind Try.prog 35 = .other := by kernel_rfl
theorem te35 : telem Try.prog 35 = none := by kernel_rfl
theorem ts35 : tsize Try.prog 35 = 1 := by kernel_rfl
theorem tb35 : tbytes Try.prog 35 = 8 := by kernel_rfl
theorem tz35 : tzero Try.prog 35 = (some [.bad]) := by kernel_rfl
theorem ti35 : ti Try.prog 35 = ⟨1, 8, (some false), none, .other, (some [.bad])⟩ := by kernel_rfl
theorem tn36 : tint Try.prog 36 = false := by kernel_rfl
theorem tk36 : tkind Try.prog 36 = .other := by kernel_rfl
theorem te36 : telem Try.prog 36 = none := by kernel_rfl
theorem ts36 : tsize Try.prog 36 = 1 := by kernel_rfl
theorem tb36 : tbytes Try.prog 36 = 8 := by kernel_rfl
theorem tz36 : tzero Try.prog 36 = (some [.bad]) := by kernel_rfl
theorem ti36 : ti Try.prog 36 = ⟨1, 8, (some false), none, .other, (some [.bad])⟩ := by kernel_rfl
theorem tn37 : tint Try.prog 37 = false := by kernel_rfl
theorem tk37 : tkind Try.prog 37 = .other := by kernel_rfl
theorem te37 : telem Try.prog 37 = none := by kernel_rfl
theorem ts37 : tsize Try.prog 37 = 1 := by kernel_rfl
theorem tb37 : tbytes Try.prog 37 = 8 := by kernel_rfl
theorem tz37 : tzero Try.prog 37 = (some [.bad]) := by kernel_rfl
theorem ti37 : ti Try.prog 37 = ⟨1, 8, (some false), none, .other, (some [.bad])⟩ := by kernel_rfl
theorem tn38 : tint Try.prog 38 = false := by kernel_rfl
theorem tk38 : tkind Try.prog 38 = .other := by kernel_rfl
theorem te38 : telem Try.prog 38 = none := by kernel_rfl
theorem ts38 : tsize Try.prog 38 = 1 := by kernel_rfl
theorem tb38 : tbytes Try.prog 38 = 8 := by kernel_rfl
theorem tz38 : tzero Try.prog 38 = (some [.bad]) := by kernel_rfl
theorem ti38 : ti Try.prog 38 = ⟨1, 8, (some false), none, .other, (some [.bad])⟩ := by kernel_rfl
theorem tn39 : tint Try.prog 39 = false := by kernel_rfl
theorem tk39 : tkind Try.prog 39 = .other := by kernel_rfl
theorem te39 : telem Try.prog 39 = none := by kernel_rfl
theorem ts39 : tsize Try.prog 39 = 1 := by kernel_rfl
theorem tb39 : tbytes Try.prog 39 = 0 := by kernel_rfl
theorem tz39 : tzero Try.prog 39 = none := by kernel_rfl
theorem ti39 : ti Try.prog 39 = ⟨1, 0, (some false), none, .other, none⟩ := by kernel_rfl
theorem tn40 : tint Try.prog 40 = false := by kernel_rfl
theorem tk40 : tkind Try.prog 40 = .other := by kernel_rfl
theorem te40 : telem Try.prog 40 = none := by kernel_rfl
theorem ts40 : tsize Try.prog 40 = 1 := by kernel_rfl
theorem tb40 : tbytes Try.prog 40 = 8 := by kernel_rfl
theorem tz40 : tzero Try.prog 40 = (some [.bad]) := by kernel_rfl
theorem ti40 : ti Try.prog 40 = ⟨1, 8, (some false), none, .other, (some [.bad])⟩ := by kernel_rfl
theorem tn41 : tint Try.prog 41 = false := by kernel_rfl
theorem tk41 : tkind Try.prog 41 = .other := by kernel_rfl
theorem te41 : telem Try.prog 41 = none := by kernel_rfl
theorem ts41 : tsize Try.prog 41 = 1 := by kernel_rfl
theorem tb41 : tbytes Try.prog 41 = 0 := by kernel_rfl
theorem tz41 : tzero Try.prog 41 = none := by kernel_rfl
theorem ti41 : ti Try.prog 41 = ⟨1, 0, (some false), none, .other, none⟩ := by kernel_rfl
theorem tn42 : tint Try.prog 42 = false := by kernel_rfl
theorem tk42 : tkind Try.prog 42 = .other := by kernel_rfl
theorem te42 : telem Try.prog 42 = none := by kernel_rfl
theorem ts42 : tsize Try.prog 42 = 1 := by kernel_rfl
theorem tb42 : tbytes Try.prog 42 = 8 := by kernel_rfl
theorem tz42 : tzero Try.prog 42 = (some [.bad]) := by kernel_rfl
theorem ti42 : ti Try.prog 42 = ⟨1, 8, (some false), none, .other, (some [.bad])⟩ := by kernel_rfl
theorem pl43 : tplaces Try.prog 43 = (some [(0, 1), (1, 1), (2, 1), (3, 1), (4, 1)]) := by kernel_rfl
theorem tf43_0 : tfield Try.prog 43 0 = (some (0, 3)) := by kernel_rfl
theorem tf43_1 : tfield Try.prog 43 1 = (some (1, 9)) := by kernel_rfl
theorem tf43_2 : tfield Try.prog 43 2 = (some (2, 9)) := by kernel_rfl
theorem tf43_3 : tfield Try.prog 43 3 = (some (3, 3)) := by kernel_rfl
theorem tf43_4 : tfield Try.prog 43 4 = (some (4, 3)) := by kernel_rfl
theorem tn43 : tint Try.prog 43 = false := by kernel_rfl
theorem tk43 : tkind Try.prog 43 = (.flat [1, 2, 2, 1, 1]) := by kernel_rfl
theorem te43 : telem Try.prog 43 = none := by kernel_rfl
theorem ts43 : tsize Try.prog 43 = 5 := by kernel_rfl
theorem tb43 : tbytes Try.prog 43 = 56 := by kernel_rfl
theorem tz43 : tzero Try.prog 43 = (some [.int .i64 (0), .str [], .str [], .int .i64 (0), .int .i64 (0)]) := by kernel_rfl
theorem ti43 : ti Try.prog 43 = ⟨5, 56, (some true), none, (.flat [1, 2, 2, 1, 1]), (some [.int .i64 (0), .str [], .str [], .int .i64 (0), .int .i64 (0)])⟩ := by kernel_rfl
theorem pl44 : tplaces Try.prog 44 = (some [(0, 1), (1, 1), (2, 1), (3, 1), (4, 1)]) := by kernel_rfl
theorem tf44_0 : tfield Try.prog 44 0 = (some (0, 3)) := by kernel_rfl
theorem tf44_1 : tfield Try.prog 44 1 = (some (1, 9)) := by kernel_rfl
theorem tf44_2 : tfield Try.prog 44 2 = (some (2, 9)) := by kernel_rfl
theorem tf44_3 : tfield Try.prog 44 3 = (some (3, 3)) := by kernel_rfl
theorem tf44_4 : tfield Try.prog 44 4 = (some (4, 3)) := by kernel_rfl
theorem tn44 : tint Try.prog 44 = false := by kernel_rfl
theorem tk44 : tkind Try.prog 44 = (.flat [1, 2, 2, 1, 1]) := by kernel_rfl
theorem te44 : telem Try.prog 44 = none := by kernel_rfl
theorem ts44 : tsize Try.prog 44 = 5 := by kernel_rfl
theorem tb44 : tbytes Try.prog 44 = 56 := by kernel_rfl
theorem tz44 : tzero Try.prog 44 = (some [.int .i64 (0), .str [], .str [], .int .i64 (0), .int .i64 (0)]) := by kernel_rfl
theorem ti44 : ti Try.prog 44 = ⟨5, 56, (some true), none, (.flat [1, 2, 2, 1, 1]), (some [.int .i64 (0), .str [], .str [], .int .i64 (0), .int .i64 (0)])⟩ := by kernel_rfl
theorem tn45 : tint Try.prog 45 = false := by kernel_rfl
theorem tk45 : tkind Try.prog 45 = .slice := by kernel_rfl
theorem te45 : telem Try.prog 45 = (some 3) := by kernel_rfl
theorem ts45 : tsize Try.prog 45 = 1 := by kernel_rfl
theorem tb45 : tbytes Try.prog 45 = 24 := by kernel_rfl
theorem tz45 : tzero Try.prog 45 = (some [.nil]) := by kernel_rfl
theorem ti45 : ti Try.prog 45 = ⟨1, 24, (some false), (some 3), .slice, (some [.nil])⟩ := by kernel_rfl
theorem tn46 : tint Try.prog 46 = false := by kernel_rfl
theorem tk46 : tkind Try.prog 46 = .other := by kernel_rfl
theorem te46 : telem Try.prog 46 = none := by kernel_rfl
theorem ts46 : tsize Try.prog 46 = 1 := by kernel_rfl
theorem tb46 : tbytes Try.prog 46 = 8 := by kernel_rfl
theorem tz46 : tzero Try.prog 46 = (some [.bad]) := by kernel_rfl
theorem ti46 : ti Try.prog 46 = ⟨1, 8, (some false), none, .other, (some [.bad])⟩ := by kernel_rfl
theorem tn47 : tint Try.prog 47 = false := by kernel_rfl
theorem tk47 : tkind Try.prog 47 = .other := by kernel_rfl
theorem te47 : telem Try.prog 47 = none := by kernel_rfl
theorem ts47 : tsize Try.prog 47 = 1 := by kernel_rfl
theorem tb47 : tbytes Try.prog 47 = 8 := by kernel_rfl
theorem tz47 : tzero Try.prog 47 = (some [.bad]) := by kernel_rfl
theorem ti47 : ti Try.prog 47 = ⟨1, 8, (some false), none, .other, (some [.bad])⟩ := by kernel_rfl
theorem tn48 : tint Try.prog 48 = false := by kernel_rfl
theorem tk48 : tkind Try.prog 48 = .other := by kernel_rfl
theorem te48 : telem Try.prog 48 = none := by kernel_rfl
theorem ts48 : tsize Try.prog 48 = 1 := by kernel_rfl
theorem tb48 : tbytes Try.prog 48 = 8 := by kernel_rfl
theorem tz48 : tzero Try.prog 48 = (some [.bad]) := by kernel_rfl
theorem ti48 : ti Try.prog 48 = ⟨1, 8, (some false), none, .other, (some [.bad])⟩ := by kernel_rfl
theorem tn49 : tint Try.prog 49 = false := by kernel_rfl
theorem tk49 : tkind Try.prog 49 = .other := by kernel_rfl
theorem te49 : telem Try.prog 49 = none := by kernel_rfl
theorem ts49 : tsize Try.prog 49 = 1 := by kernel_rfl
theorem tb49 : tbytes Try.prog 49 = 8 := by kernel_rfl
theorem tz49 : tzero Try.prog 49 = (some [.bad]) := by kernel_rfl
theorem ti49 : ti Try.prog 49 = ⟨1, 8, (some false), none, .other, (some [.bad])⟩ := by kernel_rfl
theorem tn50 : tint Try.prog 50 = false := by kernel_rfl
theorem tk50 : tkind Try.prog 50 = .other := by kernel_rfl
theorem te50 : telem Try.prog 50 = none := by kernel_rfl
theorem ts50 : tsize Try.prog 50 = 1 := by kernel_rfl
theorem tb50 : tbytes Try.prog 50 = 8 := by kernel_rfl
theorem tz50 : tzero Try.prog 50 = (some [.bad]) := by kernel_rfl
theorem ti50 : ti Try.prog 50 = ⟨1, 8, (some false), none, .other, (some [.bad])⟩ := by kernel_rfl
theorem tn51 : tint Try.prog 51 = false := by kernel_rfl
theorem tk51 : tkind Try.prog 51 = .slice := by kernel_rfl
theorem te51 : telem Try.prog 51 = (some 61) := by kernel_rfl
theorem ts51 : tsize Try.prog 51 = 1 := by kernel_rfl
theorem tb51 : tbytes Try.prog 51 = 24 := by kernel_rfl
theorem tz51 : tzero Try.prog 51 = (some [.nil]) := by kernel_rfl
theorem ti51 : ti Try.prog 51 = ⟨1, 24, (some false), (some 61), .slice, (some [.nil])⟩ := by kernel_rfl
theorem tn52 : tint Try.prog 52 = false := by kernel_rfl
theorem tk52 : tkind Try.prog 52 = .other := by kernel_rfl
theorem te52 : telem Try.prog 52 = none := by kernel_rfl
theorem ts52 : tsize Try.prog 52 = 1 := by kernel_rfl
theorem tb52 : tbytes Try.prog 52 = 8 := by kernel_rfl
theorem tz52 : tzero Try.prog 52 = (some [.bad]) := by kernel_rfl
theorem ti52 : ti Try.prog 52 = ⟨1, 8, (some false), none, .other, (some [.bad])⟩ := by kernel_rfl
theorem tn53 : tint Try.prog 53 = false := by kernel_rfl
theorem tk53 : tkind Try.prog 53 = .other := by kernel_rfl
theorem te53 : telem Try.prog 53 = none := by kernel_rfl
theorem ts53 : tsize Try.prog 53 = 1 := by kernel_rfl
theorem tb53 : tbytes Try.prog 53 = 8 := by kernel_rfl
theorem tz53 : tzero Try.prog 53 = (some [.bad]) := by kernel_rfl
theorem ti53 : ti Try.prog 53 = ⟨1, 8, (some false), none, .other, (some [.bad])⟩ := by kernel_rfl
theorem tn54 : tint Try.prog 54 = false := by kernel_rfl
theorem tk54 : tkind Try.prog 54 = .other := by kernel_rfl
theorem te54 : telem Try.prog 54 = none := by kernel_rfl
theorem ts54 : tsize Try.prog 54 = 1 := by kernel_rfl
theorem tb54 : tbytes Try.prog 54 = 0 := by kernel_rfl
theorem tz54 : tzero Try.prog 54 = none := by kernel_rfl
theorem ti54 : ti Try.prog 54 = ⟨1, 0, (some false), none, .other, none⟩ := by kernel_rfl
theorem tn55 : tint Try.prog 55 = false := by kernel_rfl
theorem tk55 : tkind Try.prog 55 = .other := by kernel_rfl
theorem te55 : telem Try.prog 55 = none := by kernel_rfl
theorem ts55 : tsize Try.prog 55 = 1 := by kernel_rfl
theorem tb55 : tbytes Try.prog 55 = 8 := by kernel_rfl
theorem tz55 : tzero Try.prog 55 = (some [.bad]) := by kernel_rfl
theorem ti55 : ti Try.prog 55 = ⟨1, 8, (some false), none, .other, (some [.bad])⟩ := by kernel_rfl
theorem tn56 : tint Try.prog 56 = false := by kernel_rfl
theorem tk56 : tkind Try.prog 56 = .other := by kernel_rfl
theorem te56 : telem Try.prog 56 = none := by kernel_rfl
theorem ts56 : tsize Try.prog 56 = 1 := by kernel_rfl
theorem tb56 : tbytes Try.prog 56 = 8 := by kernel_rfl
theorem tz56 : tzero Try.prog 56 = (some [.bad]) := by kernel_rfl
theorem ti56 : ti Try.prog 56 = ⟨1, 8, (some false), none, .other, (some [.bad])⟩ := by kernel_rfl
theorem tn57 : tint Try.prog 57 = false := by kernel_rfl
theorem tk57 : tkind Try.prog 57 = .other := by kernel_rfl
theorem te57 : telem Try.prog 57 = none := by kernel_rfl
theorem ts57 : tsize Try.prog 57 = 1 := by kernel_rfl
theorem tb57 : tbytes Try.prog 57 = 8 := by kernel_rfl
theorem tz57 : tzero Try.prog 57 = (some [.bad]) := by kernel_rfl
theorem ti57 : ti Try.prog 57 = ⟨1, 8, (some false), none, .other, (some [.bad])⟩ := by kernel_rfl
theorem tn58 : tint Try.prog 58 = false := by kernel_rfl
theorem tk58 : tkind Try.prog 58 = .other := by kernel_rfl
theorem te58 : telem Try.prog 58 = none := by kernel_rfl
theorem ts58 : tsize Try.prog 58 = 1 := by kernel_rfl
theorem tb58 : tbytes Try.prog 58 = 8 := by kernel_rfl
theorem tz58 : tzero Try.prog 58 = (some [.bad]) := by kernel_rfl
theorem ti58 : ti Try.prog 58 = ⟨1, 8, (some false), none, .other, (some [.bad])⟩ := by kernel_rfl
theorem tn59 : tint Try.prog 59 = false := by kernel_rfl
theorem tk59 : tkind Try.prog 59 = .other := by kernel_rfl
theorem te59 : telem Try.prog 59 = none := by kernel_rfl
theorem ts59 : tsize Try.prog 59 = 1 := by kernel_rfl
theorem tb59 : tbytes Try.prog 59 = 8 := by kernel_rfl
theorem tz59 : tzero Try.prog 59 = (some [.bad]) := by kernel_rfl
theorem ti59 : ti Try.prog 59 = ⟨1, 8, (some false), none, .other, (some [.bad])⟩ := by kernel_rfl
theorem pl60 : tplaces Try.prog 60 = (some [(0, 1), (1, 1), (2, 1)]) := by kernel_rfl
theorem tf60_0 : tfield Try.prog 60 0 = (some (0, 9)) := by kernel_rfl
theorem tf60_1 : tfield Try.prog 60 1 = (some (1, 9)) := by kernel_rfl
theorem tf60_2 : tfield Try.prog 60 2 = (some (2, 3)) := by kernel_rfl
theorem tn60 : tint Try.prog 60 = false := by kernel_rfl
theorem tk60 : tkind Try.prog 60 = (.flat [2, 2, 1]) := by kernel_rfl
theorem te60 : telem Try.prog 60 = none := by kernel_rfl
theorem ts60 : tsize Try.prog 60 = 3 := by kernel_rfl
theorem tb60 : tbytes Try.prog 60 = 40 := by kernel_rfl
theorem tz60 : tzero Try.prog 60 = (some [.str [], .str [], .int .i64 (0)]) := by kernel_rfl
theorem ti60 : ti Try.prog 60 = ⟨3, 40, (some true), none, (.flat [2, 2, 1]), (some [.str [], .str [], .int .i64 (0)])⟩ := by kernel_rfl
theorem pl61 : tplaces Try.prog 61 = (some [(0, 1), (1, 1), (2, 1)]) := by kernel_rfl
theorem tf61_0 : tfield Try.prog 61 0 = (some (0, 9)) := by kernel_rfl
theorem tf61_1 : tfield Try.prog 61 1 = (some (1, 9)) := by kernel_rfl
theorem tf61_2 : tfield Try.prog 61 2 = (some (2, 3)) := by kernel_rfl
theorem tn61 : tint Try.prog 61 = false := by kernel_rfl
theorem tk61 : tkind Try.prog 61 = (.flat [2, 2, 1]) := by kernel_rfl
theorem te61 : telem Try.prog 61 = none := by kernel_rfl
theorem ts61 : tsize Try.prog 61 = 3 := by kernel_rfl
theorem tb61 : tbytes Try.prog 61 = 40 := by kernel_rfl
theorem tz61 : tzero Try.prog 61 = (some [.str [], .str [], .int .i64 (0)]) := by kernel_rfl
theorem ti61 : ti Try.prog 61 = ⟨3, 40, (some true), none, (.flat [2, 2, 1]), (some [.str [], .str [], .int .i64 (0)])⟩ := by kernel_rfl
theorem tn62 : tint Try.prog 62 = false := by kernel_rfl
theorem tk62 : tkind Try.prog 62 = .other := by kernel_rfl
theorem te62 : telem Try.prog 62 = none := by kernel_rfl
theorem ts62 : tsize Try.prog 62 = 1 := by kernel_rfl
theorem tb62 : tbytes Try.prog 62 = 8 := by kernel_rfl
theorem tz62 : tzero Try.prog 62 = (some [.bad]) := by kernel_rfl
theorem ti62 : ti Try.prog 62 = ⟨1, 8, (some false), none, .other, (some [.bad])⟩ := by kernel_rfl
theorem tn63 : tint Try.prog 63 = false := by kernel_rfl
theorem tk63 : tkind Try.prog 63 = .other := by kernel_rfl
theorem te63 : telem Try.prog 63 = none := by kernel_rfl
theorem ts63 : tsize Try.prog 63 = 1 := by kernel_rfl
theorem tb63 : tbytes Try.prog 63 = 8 := by kernel_rfl
theorem tz63 : tzero Try.prog 63 = (some [.bad]) := by kernel_rfl
theorem ti63 : ti Try.prog 63 = ⟨1, 8, (some false), none, .other, (some [.bad])⟩ := by kernel_rfl
theorem tn64 : tint Try.prog 64 = false := by kernel_rfl
theorem tk64 : tkind Try.prog 64 = .slice := by kernel_rfl
theorem te64 : telem Try.prog 64 = (some 9) := by kernel_rfl
theorem ts64 : tsize Try.prog 64 = 1 := by kernel_rfl
theorem tb64 : tbytes Try.prog 64 = 24 := by kernel_rfl
theorem tz64 : tzero Try.prog 64 = (some [.nil]) := by kernel_rfl
theorem ti64 : ti Try.prog 64 = ⟨1, 24, (some false), (some 9), .slice, (some [.nil])⟩ := by kernel_rfl
theorem tn65 : tint Try.prog 65 = false := by kernel_rfl
theorem tk65 : tkind Try.prog 65 = .other := by kernel_rfl
theorem te65 : telem Try.prog 65 = none := by kernel_rfl
theorem ts65 : tsize Try.prog 65 = 1 := by kernel_rfl
theorem tb65 : tbytes Try.prog 65 = 0 := by kernel_rfl
theorem tz65 : tzero Try.prog 65 = none := by kernel_rfl
theorem ti65 : ti Try.prog 65 = ⟨1, 0, (some false), none, .other, none⟩ := by kernel_rfl
theorem tn66 : tint Try.prog 66 = false := by kernel_rfl
theorem tk66 : tkind Try.prog 66 = .other := by kernel_rfl
theorem te66 : telem Try.prog 66 = none := by kernel_rfl
theorem ts66 : tsize Try.prog 66 = 1 := by kernel_rfl
theorem tb66 : tbytes Try.prog 66 = 8 := by kernel_rfl
theorem tz66 : tzero Try.prog 66 = (some [.bad]) := by kernel_rfl
theorem ti66 : ti Try.prog 66 = ⟨1, 8, (some false), none, .other, (some [.bad])⟩ := by kernel_rfl
theorem tn67 : tint Try.prog 67 = false := by kernel_rfl
theorem tk67 : tkind Try.prog 67 = .other := by kernel_rfl
theorem te67 : telem Try.prog 67 = none := by kernel_rfl
theorem ts67 : tsize Try.prog 67 = 1 := by kernel_rfl
theorem tb67 : tbytes Try.prog 67 = 8 := by kernel_rfl
theorem tz67 : tzero Try.prog 67 = (some [.bad]) := by kernel_rfl
theorem ti67 : ti Try.prog 67 = ⟨1, 8, (some false), none, .other, (some [.bad])⟩ := by kernel_rfl
theorem tn68 : tint Try.prog 68 = false := by kernel_rfl
theorem tk68 : tkind Try.prog 68 = .other := by kernel_rfl
theorem te68 : telem Try.prog 68 = none := by kernel_rfl
theorem ts68 : tsize Try.prog 68 = 1 := by kernel_rfl
theorem tb68 : tbytes Try.prog 68 = 8 := by kernel_rfl
theorem tz68 : tzero Try.prog 68 = (some [.bad]) := by kernel_rfl
theorem ti68 : ti Try.prog 68 = ⟨1, 8, (some false), none, .other, (some [.bad])⟩ := by kernel_rfl
theorem tn69 : tint Try.prog 69 = false := by kernel_rfl
theorem tk69 : tkind Try.prog 69 = .other := by kernel_rfl
theorem te69 : telem Try.prog 69 = none := by kernel_rfl
theorem ts69 : tsize Try.prog 69 = 1 := by kernel_rfl
theorem tb69 : tbytes Try.prog 69 = 8 := by kernel_rfl
theorem tz69 : tzero Try.prog 69 = (some [.bad]) := by kernel_rfl
theorem ti69 : ti Try.prog 69 = ⟨1, 8, (some false), none, .other, (some [.bad])⟩ := by kernel_rfl
theorem tn70 : tint Try.prog 70 = false := by kernel_rfl
theorem tk70 : tkind Try.prog 70 = .other := by kernel_rfl
theorem te70 : telem Try.prog 70 = none := by kernel_rfl
theorem ts70 : tsize Try.prog 70 = 1 := by kernel_rfl
theorem tb70 : tbytes Try.prog 70 = 8 := by kernel_rfl
theorem tz70 : tzero Try.prog 70 = (some [.bad]) := by kernel_rfl
theorem ti70 : ti Try.prog 70 = ⟨1, 8, (some false), none, .other, (some [.bad])⟩ := by kernel_rfl
theorem tn71 : tint Try.prog 71 = false := by kernel_rfl
theorem tk71 : tkind Try.prog 71 = .other := by kernel_rfl
theorem te71 : telem Try.prog 71 = none := by kernel_rfl
theorem ts71 : tsize Try.prog 71 = 1 := by kernel_rfl
theorem tb71 : tbytes Try.prog 71 = 8 := by kernel_rfl
theorem tz71 : tzero Try.prog 71 = (some [.bad]) := by kernel_rfl
theorem ti71 : ti Try.prog 71 = ⟨1, 8, (some false), none, .other, (some [.bad])⟩ := by kernel_rfl
theorem tn72 : tint Try.prog 72 = false := by kernel_rfl
theorem tk72 : tkind Try.prog 72 = .other := by kernel_rfl
theorem te72 : telem Try.prog 72 = none := by kernel_rfl
theorem ts72 : tsize Try.prog 72 = 1 := by kernel_rfl
theorem tb72 : tbytes Try.prog 72 = 8 := by kernel_rfl
theorem tz72 : tzero Try.prog 72 = (some [.bad]) := by kernel_rfl
theorem ti72 : ti Try.prog 72 = ⟨1, 8, (some false), none, .other, (some [.bad])⟩ := by kernel_rfl
theorem tn73 : tint Try.prog 73 = false := by kernel_rfl
theorem tk73 : tkind Try.prog 73 = .other := by kernel_rfl
theorem te73 : telem Try.prog 73 = none := by kernel_rfl
theorem ts73 : tsize Try.prog 73 = 1 := by kernel_rfl
theorem tb73 : tbytes Try.prog 73 = 8 := by kernel_rfl
theorem tz73 : tzero Try.prog 73 = (some [.bad]) := by kernel_rfl
theorem ti73 : ti Try.prog 73 = ⟨1, 8, (some false), none, .other, (some [.bad])⟩ := by kernel_rfl
theorem tn74 : tint Try.prog 74 = false := by kernel_rfl
theorem tk74 : tkind Try.prog 74 = .other := by kernel_rfl
theorem te74 : telem Try.prog 74 = none := by kernel_rfl
theorem ts74 : tsize Try.prog 74 = 1 := by kernel_rfl
theorem tb74 : tbytes Try.prog 74 = 8 := by kernel_rfl
theorem tz74 : tzero Try.prog 74 = (some [.bad]) := by kernel_rfl
theorem ti74 : ti Try.prog 74 = ⟨1, 8, (some false), none, .other, (some [.bad])⟩ := by kernel_rfl
theorem tn75 : tint Try.prog 75 = false := by kernel_rfl
theorem tk75 : tkind Try.prog 75 = .other := by kernel_rfl
theorem te75 : telem Try.prog 75 = none := by kernel_rfl
theorem ts75 : tsize Try.prog 75 = 1 := by kernel_rfl
theorem tb75 : tbytes Try.prog 75 = 8 := by kernel_rfl
theorem tz75 : tzero Try.prog 75 = (some [.bad]) := by kernel_rfl
theorem ti75 : ti Try.prog 75 = ⟨1, 8, (some false), none, .other, (some [.bad])⟩ := by kernel_rfl
theorem tn76 : tint Try.prog 76 = false := by kernel_rfl
theorem tk76 : tkind Try.prog 76 = .other := by kernel_rfl
theorem te76 : telem Try.prog 76 = none := by kernel_rfl
theorem ts76 : tsize Try.prog 76 = 1 := by kernel_rfl
theorem tb76 : tbytes Try.prog 76 = 8 := by kernel_rfl
theorem tz76 : tzero Try.prog 76 = (some [.bad]) := by kernel_rfl
theorem ti76 : ti Try.prog 76 = ⟨1, 8, (some false), none, .other, (some [.bad])⟩ := by kernel_rfl
theorem tn77 : tint Try.prog 77 = false := by kernel_rfl
theorem tk77 : tkind Try.prog 77 = .other := by kernel_rfl
theorem te77 : telem Try.prog 77 = none := by kernel_rfl
theorem ts77 : tsize Try.prog 77 = 1 := by kernel_rfl
theorem tb77 : tbytes Try.prog 77 = 8 := by kernel_rfl
theorem tz77 : tzero Try.prog 77 = (some [.bad]) := by kernel_rfl
theorem ti77 : ti Try.prog 77 = ⟨1, 8, (some false), none, .other, (some [.bad])⟩ := by kernel_rfl
theorem tn78 : tint Try.prog 78 = false := by kernel_rfl
theorem tk78 : tkind Try.prog 78 = .other := by kernel_rfl
theorem te78 : telem Try.prog 78 = none := by kernel_rfl
theorem ts78 : tsize Try.prog 78 = 1 := by kernel_rfl
theorem tb78 : tbytes Try.prog 78 = 8 := by kernel_rfl
theorem tz78 : tzero Try.prog 78 = (some [.bad]) := by kernel_rfl
theorem ti78 : ti Try.prog 78 = ⟨1, 8, (some false), none, .other, (some [.bad])⟩ := by kernel_rfl
theorem tn79 : tint Try.prog 79 = false := by kernel_rfl
theorem tk79 : tkind Try.prog 79 = .other := by kernel_rfl
theorem te79 : telem Try.prog 79 = none := by kernel_rfl
theorem ts79 : tsize Try.prog 79 = 1 := by kernel_rfl
theorem tb79 : tbytes Try.prog 79 = 8 := by kernel_rfl
theorem tz79 : tzero Try.prog 79 = (some [.bad]) := by kernel_rfl
theorem ti79 : ti Try.prog 79 = ⟨1, 8, (some false), none, .other, (some [.bad])⟩ := by kernel_rfl
theorem tn80 : tint Try.prog 80 = false := by kernel_rfl
theorem tk80 : tkind Try.prog 80 = .other := by kernel_rfl
theorem te80 : telem Try.prog 80 = none := by kernel_rfl
theorem ts80 : tsize Try.prog 80 = 1 := by kernel_rfl
theorem tb80 : tbytes Try.prog 80 = 8 := by kernel_rfl
theorem tz80 : tzero Try.prog 80 = (some [.bad]) := by kernel_rfl
theorem ti80 : ti Try.prog 80 = ⟨1, 8, (some false), none, .other, (some [.bad])⟩ := by kernel_rfl
theorem tn81 : tint Try.prog 81 = false := by kernel_rfl
theorem tk81 : tkind Try.prog 81 = .other := by kernel_rfl
theorem te81 : telem Try.prog 81 = none := by kernel_rfl
theorem ts81 : tsize Try.prog 81 = 1 := by kernel_rfl
theorem tb81 : tbytes Try.prog 81 = 8 := by kernel_rfl
theorem tz81 : tzero Try.prog 81 = (some [.bad]) := by kernel_rfl
theorem ti81 : ti Try.prog 81 = ⟨1, 8, (some false), none, .other, (some [.bad])⟩ := by kernel_rfl
theorem tn82 : tint Try.prog 82 = false := by kernel_rfl
theorem tk82 : tkind Try.prog 82 = .other := by kernel_rfl
theorem te82 : telem Try.prog 82 = none := by kernel_rfl
theorem ts82 : tsize Try.prog 82 = 1 := by kernel_rfl
theorem tb82 : tbytes Try.prog 82 = 8 := by kernel_rfl
theorem tz82 : tzero Try.prog 82 = (some [.bad]) := by kernel_rfl
theorem ti82 : ti Try.prog 82 = ⟨1, 8, (some false), none, .other, (some [.bad])⟩ := by kernel_rfl
theorem tn83 : tint Try.prog 83 = false := by kernel_rfl
theorem tk83 : tkind Try.prog 83 = .other := by kernel_rfl
theorem te83 : telem Try.prog 83 = none := by kernel_rfl
theorem ts83 : tsize Try.prog 83 = 1 := by kernel_rfl
theorem tb83 : tbytes Try.prog 83 = 8 := by kernel_rfl
theorem tz83 : tzero Try.prog 83 = (some [.bad]) := by kernel_rfl
theorem ti83 : ti Try.prog 83 = ⟨1, 8, (some false), none, .other, (some [.bad])⟩ := by kernel_rfl
theorem tn84 : tint Try.prog 84 = false := by kernel_rfl
theorem tk84 : tkind Try.prog 84 = .other := by kernel_rfl
theorem te84 : telem Try.prog 84 = none := by kernel_rfl
theorem ts84 : tsize Try.prog 84 = 1 := by kernel_rfl
theorem tb84 : tbytes Try.prog 84 = 8 := by kernel_rfl
theorem tz84 : tzero Try.prog 84 = (some [.bad]) := by kernel_rfl
theorem ti84 : ti Try.prog 84 = ⟨1, 8, (some false), none, .other, (some [.bad])⟩ := by kernel_rfl
theorem tn85 : tint Try.prog 85 = false := by kernel_rfl
theorem tk85 : tkind Try.prog 85 = .other := by kernel_rfl
theorem te85 : telem Try.prog 85 = none := by kernel_rfl
theorem ts85 : tsize Try.prog 85 = 1 := by kernel_rfl
theorem tb85 : tbytes Try.prog 85 = 8 := by kernel_rfl
theorem tz85 : tzero Try.prog 85 = (some [.bad]) := by kernel_rfl
theorem ti85 : ti Try.prog 85 = ⟨1, 8, (some false), none, .other, (some [.bad])⟩ := by kernel_rfl
theorem tn86 : tint Try.prog 86 = false := by kernel_rfl
theorem tk86 : tkind Try.prog 86 = .other := by kernel_rfl
theorem te86 : telem Try.prog 86 = none := by kernel_rfl
theorem ts86 : tsize Try.prog 86 = 1 := by kernel_rfl
theorem tb86 : tbytes Try.prog 86 = 8 := by kernel_rfl
theorem tz86 : tzero Try.prog 86 = (some [.bad]) := by kernel_rfl
theorem ti86 : ti Try.prog 86 = ⟨1, 8, (some false), none, .other, (some [.bad])⟩ := by kernel_rfl
theorem tn87 : tint Try.prog 87 = false := by kernel_rfl
theorem tk87 : tkind Try.prog 87 = .other := by kernel_rfl
theorem te87 : telem Try.prog 87 = none := by kernel_rfl
theorem ts87 : tsize Try.prog 87 = 1 := by kernel_rfl
theorem tb87 : tbytes Try.prog 87 = 8 := by kernel_rfl
theorem tz87 : tzero Try.prog 87 = (some [.bad]) := by kernel_rfl
theorem ti87 : ti Try.prog 87 = ⟨1, 8, (some false), none, .other, (some [.bad])⟩ := by kernel_rfl
theorem tn88 : tint Try.prog 88 = false := by kernel_rfl
theorem tk88 : tkind Try.prog 88 = .other := by kernel_rfl
theorem te88 : telem Try.prog 88 = none := by kernel_rfl
theorem ts88 : tsize Try.prog 88 = 1 := by kernel_rfl
theorem tb88 : tbytes Try.prog 88 = 8 := by kernel_rfl
theorem tz88 : tzero Try.prog 88 = (some [.bad]) := by kernel_rfl
theorem ti88 : ti Try.prog 88 = ⟨1, 8, (some false), none, .other, (some [.bad])⟩ := by kernel_rfl
theorem tn89 : tint Try.prog 89 = false := by kernel_rfl
theorem tm89 : tmap Try.prog 89 = some 4 := by kernel_rfl
theorem tv4 : tzv Try.prog 4 = some (.bool false) := by kernel_rfl
theorem tk89 : tkind Try.prog 89 = .other := by kernel_rfl
theorem te89 : telem Try.prog 89 = none := by kernel_rfl
theorem ts89 : tsize Try.prog 89 = 1 := by kernel_rfl
theorem tb89 : tbytes Try.prog 89 = 8 := by kernel_rfl
theorem tz89 : tzero Try.prog 89 = (some [.bad]) := by kernel_rfl
theorem ti89 : ti Try.prog 89 = ⟨1, 8, (some false), none, .other, (some [.bad])⟩ := by kernel_rfl
theorem tn90 : tint Try.prog 90 = false := by kernel_rfl
theorem tk90 : tkind Try.prog 90 = .other := by kernel_rfl
theorem te90 : telem Try.prog 90 = none := by kernel_rfl
theorem ts90 : tsize Try.prog 90 = 1 := by kernel_rfl
theorem tb90 : tbytes Try.prog 90 = 0 := by kernel_rfl
theorem tz90 : tzero Try.prog 90 = none := by kernel_rfl
theorem ti90 : ti Try.prog 90 = ⟨1, 0, (some false), none, .other, none⟩ := by kernel_rfl
theorem tn91 : tint Try.prog 91 = false := by kernel_rfl
theorem tk91 : tkind Try.prog 91 = .other := by kernel_rfl
theorem te91 : telem Try.prog 91 = none := by kernel_rfl
theorem ts91 : tsize Try.prog 91 = 1 := by kernel_rfl
theorem tb91 : tbytes Try.prog 91 = 8 := by kernel_rfl
theorem tz91 : tzero Try.prog 91 = (some [.bad]) := by kernel_rfl
theorem ti91 : ti Try.prog 91 = ⟨1, 8, (some false), none, .other, (some [.bad])⟩ := by kernel_rfl
theorem tn92 : tint Try.prog 92 = false := by kernel_rfl
theorem tk92 : tkind Try.prog 92 = .other := by kernel_rfl
theorem te92 : telem Try.prog 92 = none := by kernel_rfl
theorem ts92 : tsize Try.prog 92 = 1 := by kernel_rfl
theorem tb92 : tbytes Try.prog 92 = 8 := by kernel_rfl
theorem tz92 : tzero Try.prog 92 = (some [.bad]) := by kernel_rfl
theorem ti92 : ti Try.prog 92 = ⟨1, 8, (some false), none, .other, (some [.bad])⟩ := by kernel_rfl
theorem tn93 : tint Try.prog 93 = false := by kernel_rfl
theorem tk93 : tkind Try.prog 93 = .other := by kernel_rfl
theorem te93 : telem Try.prog 93 = none := by kernel_rfl
theorem ts93 : tsize Try.prog 93 = 1 := by kernel_rfl
theorem tb93 : tbytes Try.prog 93 = 8 := by kernel_rfl
theorem tz93 : tzero Try.prog 93 = (some [.bad]) := by kernel_rfl
theorem ti93 : ti Try.prog 93 = ⟨1, 8, (some false), none, .other, (some [.bad])⟩ := by kernel_rfl
theorem tn94 : tint Try.prog 94 = false := by kernel_rfl
theorem tk94 : tkind Try.prog 94 = .other := by kernel_rfl
theorem te94 : telem Try.prog 94 = none := by kernel_rfl
theorem ts94 : tsize Try.prog 94 = 1 := by kernel_rfl
theorem tb94 : tbytes Try.prog 94 = 8 := by kernel_rfl
theorem tz94 : tzero Try.prog 94 = (some [.bad]) := by kernel_rfl
theorem ti94 : ti Try.prog 94 = ⟨1, 8, (some false), none, .other, (some [.bad])⟩ := by kernel_rfl
theorem tn95 : tint Try.prog 95 = false := by kernel_rfl
theorem tk95 : tkind Try.prog 95 = .other := by kernel_rfl
theorem te95 : telem Try.prog 95 = none := by kernel_rfl
theorem ts95 : tsize Try.prog 95 = 1 := by kernel_rfl
theorem tb95 : tbytes Try.prog 95 = 8 := by kernel_rfl
theorem tz95 : tzero Try.prog 95 = (some [.bad]) := by kernel_rfl
theorem ti95 : ti Try.prog 95 = ⟨1, 8, (some false), none, .other, (some [.bad])⟩ := by kernel_rfl
theorem tn96 : tint Try.prog 96 = false := by kernel_rfl
theorem tk96 : tkind Try.prog 96 = .other := by kernel_rfl
theorem te96 : telem Try.prog 96 = none := by kernel_rfl
theorem ts96 : tsize Try.prog 96 = 1 := by kernel_rfl
theorem tb96 : tbytes Try.prog 96 = 8 := by kernel_rfl
theorem tz96 : tzero Try.prog 96 = (some [.bad]) := by kernel_rfl
theorem ti96 : ti Try.prog 96 = ⟨1, 8, (some false), none, .other, (some [.bad])⟩ := by kernel_rfl
theorem tn97 : tint Try.prog 97 = false := by kernel_rfl
theorem tk97 : tkind Try.prog 97 = .other := by kernel_rfl
theorem te97 : telem Try.prog 97 = none := by kernel_rfl
theorem ts97 : tsize Try.prog 97 = 1 := by kernel_rfl
theorem tb97 : tbytes Try.prog 97 = 8 := by kernel_rfl
theorem tz97 : tzero Try.prog 97 = (some [.bad]) := by kernel_rfl
theorem ti97 : ti Try.prog 97 = ⟨1, 8, (some false), none, .other, (some [.bad])⟩ := by kernel_rfl
theorem tn98 : tint Try.prog 98 = false := by kernel_rfl
theorem tk98 : tkind Try.prog 98 = .other := by kernel_rfl
theorem te98 : telem Try.prog 98 = none := by kernel_rfl
theorem ts98 : tsize Try.prog 98 = 1 := by kernel_rfl
theorem tb98 : tbytes Try.prog 98 = 8 := by kernel_rfl
theorem tz98 : tzero Try.prog 98 = (some [.bad]) := by kernel_rfl
theorem ti98 : ti Try.prog 98 = ⟨1, 8, (some false), none, .other, (some [.bad])⟩ := by kernel_rfl
theorem tn99 : tint Try.prog 99 = false := by kernel_rfl
theorem tk99 : tkind Try.prog 99 = .other := by kernel_rfl
theorem te99 : telem Try.prog 99 = none := by kernel_rfl
theorem ts99 : tsize Try.prog 99 = 1 := by kernel_rfl
theorem tb99 : tbytes Try.prog 99 = 8 := by kernel_rfl
theorem tz99 : tzero Try.prog 99 = (some [.bad]) := by kernel_rfl
theorem ti99 : ti Try.prog 99 = ⟨1, 8, (some false), none, .other, (some [.bad])⟩ := by kernel_rfl
theorem tn100 : tint Try.prog 100 = false := by kernel_rfl
theorem tk100 : tkind Try.prog 100 = .other := by kernel_rfl
theorem te100 : telem Try.prog 100 = none := by kernel_rfl
theorem ts100 : tsize Try.prog 100 = 1 := by kernel_rfl
theorem tb100 : tbytes Try.prog 100 = 8 := by kernel_rfl
theorem tz100 : tzero Try.prog 100 = (some [.bad]) := by kernel_rfl
theorem ti100 : ti Try.prog 100 = ⟨1, 8, (some false), none, .other, (some [.bad])⟩ := by kernel_rfl
theorem tn101 : tint Try.prog 101 = true := by kernel_rfl
theorem tk101 : tkind Try.prog 101 = (.int .u64) := by kernel_rfl
theorem te101 : telem Try.prog 101 = none := by kernel_rfl
theorem ts101 : tsize Try.prog 101 = 1 := by kernel_rfl
theorem tb101 : tbytes Try.prog 101 = 8 := by kernel_rfl
theorem tz101 : tzero Try.prog 101 = (some [.int .u64 (0)]) := by kernel_rfl
theorem ti101 : ti Try.prog 101 = ⟨1, 8, (some false), none, (.int .u64), (some [.int .u64 (0)])⟩ := by kernel_rfl
theorem tn102 : tint Try.prog 102 = false := by kernel_rfl
theorem tk102 : tkind Try.prog 102 = .other := by kernel_rfl
theorem te102 : telem Try.prog 102 = none := by kernel_rfl
theorem ts102 : tsize Try.prog 102 = 1 := by kernel_rfl
theorem tb102 : tbytes Try.prog 102 = 8 := by kernel_rfl
theorem tz102 : tzero Try.prog 102 = (some [.bad]) := by kernel_rfl
theorem ti102 : ti Try.prog 102 = ⟨1, 8, (some false), none, .other, (some [.bad])⟩ := by kernel_rfl
theorem tn103 : tint Try.prog 103 = false := by kernel_rfl
theorem tk103 : tkind Try.prog 103 = .other := by kernel_rfl
theorem te103 : telem Try.prog 103 = none := by kernel_rfl
theorem ts103 : tsize Try.prog 103 = 1 := by kernel_rfl
theorem tb103 : tbytes Try.prog 103 = 8 := by kernel_rfl
theorem tz103 : tzero Try.prog 103 = (some [.bad]) := by kernel_rfl
theorem ti103 : ti Try.prog 103 = ⟨1, 8, (some false), none, .other, (some [.bad])⟩ := by kernel_rfl
theorem pl104 : tplaces Try.prog 104 = (some [(0, 1), (1, 1), (2, 1), (3, 1)]) := by kernel_rfl
theorem tf104_0 : tfield Try.prog 104 0 = (some (0, 17)) := by kernel_rfl
theorem tf104_1 : tfield Try.prog 104 1 = (some (1, 17)) := by kernel_rfl
theorem tf104_2 : tfield Try.prog 104 2 = (some (2, 17)) := by kernel_rfl
theorem tf104_3 : tfield Try.prog 104 3 = (some (3, 9)) := by kernel_rfl
theorem tn104 : tint Try.prog 104 = false := by kernel_rfl
theorem tk104 : tkind Try.prog 104 = .other := by kernel_rfl
theorem te104 : telem Try.prog 104 = none := by kernel_rfl
theorem ts104 : tsize Try.prog 104 = 4 := by kernel_rfl
theorem tb104 : tbytes Try.prog 104 = 40 := by kernel_rfl
theorem tz104 : tzero Try.prog 104 = (some [.bad, .bad, .bad, .str []]) := by kernel_rfl
theorem ti104 : ti Try.prog 104 = ⟨4, 40, (some true), none, .other, (some [.bad, .bad, .bad, .str []])⟩ := by kernel_rfl
theorem pl105 : tplaces Try.prog 105 = (some [(0, 1), (1, 1), (2, 1), (3, 1)]) := by kernel_rfl
theorem tf105_0 : tfield Try.prog 105 0 = (some (0, 17)) := by kernel_rfl
theorem tf105_1 : tfield Try.prog 105 1 = (some (1, 17)) := by kernel_rfl
theorem tf105_2 : tfield Try.prog 105 2 = (some (2, 17)) := by kernel_rfl
theorem tf105_3 : tfield Try.prog 105 3 = (some (3, 9)) := by kernel_rfl
theorem tn105 : tint Try.prog 105 = false := by kernel_rfl
theorem tk105 : tkind Try.prog 105 = .other := by kernel_rfl
theorem te105 : telem Try.prog 105 = none := by kernel_rfl
theorem ts105 : tsize Try.prog 105 = 4 := by kernel_rfl
theorem tb105 : tbytes Try.prog 105 = 40 := by kernel_rfl
theorem tz105 : tzero Try.prog 105 = (some [.bad, .bad, .bad, .str []]) := by kernel_rfl
theorem ti105 : ti Try.prog 105 = ⟨4, 40, (some true), none, .other, (some [.bad, .bad, .bad, .str []])⟩ := by kernel_rfl
theorem tn106 : tint Try.prog 106 = false := by kernel_rfl
theorem tk106 : tkind Try.prog 106 = .other := by kernel_rfl
theorem te106 : telem Try.prog 106 = none := by kernel_rfl
theorem ts106 : tsize Try.prog 106 = 0 := by kernel_rfl
theorem tb106 : tbytes Try.prog 106 = 0 := by kernel_rfl
theorem tz106 : tzero Try.prog 106 = (some []) := by kernel_rfl
theorem ti106 : ti Try.prog 106 = ⟨0, 0, (some true), none, .other, (some [])⟩ := by kernel_rfl
theorem pl107 : tplaces Try.prog 107 = (some [(0, 0)]) := by kernel_rfl
theorem tf107_0 : tfield Try.prog 107 0 = none := by kernel_rfl
theorem tn107 : tint Try.prog 107 = false := by kernel_rfl
theorem tk107 : tkind Try.prog 107 = .other := by kernel_rfl
theorem te107 : telem Try.prog 107 = none := by kernel_rfl
theorem ts107 : tsize Try.prog 107 = 0 := by kernel_rfl
theorem tb107 : tbytes Try.prog 107 = 0 := by kernel_rfl
theorem tz107 : tzero Try.prog 107 = (some []) := by kernel_rfl
theorem ti107 : ti Try.prog 107 = ⟨0, 0, (some true), none, .other, (some [])⟩ := by kernel_rfl
theorem pl108 : tplaces Try.prog 108 = (some [(0, 0)]) := by kernel_rfl
theorem tf108_0 : tfield Try.prog 108 0 = none := by kernel_rfl
theorem tn108 : tint Try.prog 108 = false := by kernel_rfl
theorem tk108 : tkind Try.prog 108 = .other := by kernel_rfl
theorem te108 : telem Try.prog 108 = none := by kernel_rfl
theorem ts108 : tsize Try.prog 108 = 0 := by kernel_rfl
theorem tb108 : tbytes Try.prog 108 = 0 := by kernel_rfl
theorem tz108 : tzero Try.prog 108 = (some []) := by kernel_rfl
theorem ti108 : ti Try.prog 108 = ⟨0, 0, (some true), none, .other, (some [])⟩ := by kernel_rfl
theorem tn109 : tint Try.prog 109 = false := by kernel_rfl
theorem tk109 : tkind Try.prog 109 = .other := by kernel_rfl
theorem te109 : telem Try.prog 109 = none := by kernel_rfl
theorem ts109 : tsize Try.prog 109 = 1 := by kernel_rfl
theorem tb109 : tbytes Try.prog 109 = 8 := by kernel_rfl
theorem tz109 : tzero Try.prog 109 = (some [.bad]) := by kernel_rfl
theorem ti109 : ti Try.prog 109 = ⟨1, 8, (some false), none, .other, (some [.bad])⟩ := by kernel_rfl
theorem tn110 : tint Try.prog 110 = true := by kernel_rfl
theorem tk110 : tkind Try.prog 110 = (.int .u32) := by kernel_rfl
theorem te110 : telem Try.prog 110 = none := by kernel_rfl
theorem ts110 : tsize Try.prog 110 = 1 := by kernel_rfl
theorem tb110 : tbytes Try.prog 110 = 4 := by kernel_rfl
theorem tz110 : tzero Try.prog 110 = (some [.int .u32 (0)]) := by kernel_rfl
theorem ti110 : ti Try.prog 110 = ⟨1, 4, (some false), none, (.int .u32), (some [.int .u32 (0)])⟩ := by kernel_rfl
theorem tn111 : tint Try.prog 111 = true := by kernel_rfl
theorem tk111 : tkind Try.prog 111 = (.int .u8) := by kernel_rfl
theorem te111 : telem Try.prog 111 = none := by kernel_rfl
theorem ts111 : tsize Try.prog 111 = 1 := by kernel_rfl
theorem tb111 : tbytes Try.prog 111 = 1 := by kernel_rfl
theorem tz111 : tzero Try.prog 111 = (some [.int .u8 (0)]) := by kernel_rfl
theorem ti111 : ti Try.prog 111 = ⟨1, 1, (some false), none, (.int .u8), (some [.int .u8 (0)])⟩ := by kernel_rfl
theorem tn112 : tint Try.prog 112 = true := by kernel_rfl
theorem tk112 : tkind Try.prog 112 = (.int .u8) := by kernel_rfl
theorem te112 : telem Try.prog 112 = none := by kernel_rfl
theorem ts112 : tsize Try.prog 112 = 1 := by kernel_rfl
theorem tb112 : tbytes Try.prog 112 = 1 := by kernel_rfl
theorem tz112 : tzero Try.prog 112 = (some [.int .u8 (0)]) := by kernel_rfl
theorem ti112 : ti Try.prog 112 = ⟨1, 1, (some false), none, (.int .u8), (some [.int .u8 (0)])⟩ := by kernel_rfl
theorem tn113 : tint Try.prog 113 = false := by kernel_rfl
theorem tk113 : tkind Try.prog 113 = .other := by kernel_rfl
theorem te113 : telem Try.prog 113 = none := by kernel_rfl
theorem ts113 : tsize Try.prog 113 = 1 := by kernel_rfl
theorem tb113 : tbytes Try.prog 113 = 8 := by kernel_rfl
theorem tz113 : tzero Try.prog 113 = (some [.bad]) := by kernel_rfl
theorem ti113 : ti Try.prog 113 = ⟨1, 8, (some false), none, .other, (some [.bad])⟩ := by kernel_rfl
theorem tn114 : tint Try.prog 114 = false := by kernel_rfl
theorem tk114 : tkind Try.prog 114 = .other := by kernel_rfl
theorem te114 : telem Try.prog 114 = none := by kernel_rfl
theorem ts114 : tsize Try.prog 114 = 1 := by kernel_rfl
theorem tb114 : tbytes Try.prog 114 = 8 := by kernel_rfl
theorem tz114 : tzero Try.prog 114 = (some [.bad]) := by kernel_rfl
theorem ti114 : ti Try.prog 114 = ⟨1, 8, (some false), none, .other, (some [.bad])⟩ := by kernel_rfl
theorem tn115 : tint Try.prog 115 = true := by kernel_rfl
theorem tk115 : tkind Try.prog 115 = (.int .i32) := by kernel_rfl
theorem te115 : telem Try.prog 115 = none := by kernel_rfl
theorem ts115 : tsize Try.prog 115 = 1 := by kernel_rfl
theorem tb115 : tbytes Try.prog 115 = 4 := by kernel_rfl
theorem tz115 : tzero Try.prog 115 = (some [.int .i32 (0)]) := by kernel_rfl
theorem ti115 : ti Try.prog 115 = ⟨1, 4, (some false), none, (.int .i32), (some [.int .i32 (0)])⟩ := by kernel_rfl
theorem tn116 : tint Try.prog 116 = true := by kernel_rfl
theorem tk116 : tkind Try.prog 116 = (.int .i32) := by kernel_rfl
theorem te116 : telem Try.prog 116 = none := by kernel_rfl
theorem ts116 : tsize Try.prog 116 = 1 := by kernel_rfl
theorem tb116 : tbytes Try.prog 116 = 4 := by kernel_rfl
theorem tz116 : tzero Try.prog 116 = (some [.int .i32 (0)]) := by kernel_rfl
theorem ti116 : ti Try.prog 116 = ⟨1, 4, (some false), none, (.int .i32), (some [.int .i32 (0)])⟩ := by kernel_rfl
theorem pl117 : tplaces Try.prog 117 = (some [(0, 1), (1, 1), (2, 1), (3, 1), (4, 1), (5, 1), (6, 1), (7, 1), (8, 1), (9, 1), (10, 1)]) := by kernel_rfl
theorem tf117_0 : tfield Try.prog 117 0 = (some (0, 12)) := by kernel_rfl
theorem tf117_1 : tfield Try.prog 117 1 = (some (1, 12)) := by kernel_rfl
theorem tf117_2 : tfield Try.prog 117 2 = (some (2, 110)) := by kernel_rfl
theorem tf117_3 : tfield Try.prog 117 3 = (some (3, 111)) := by kernel_rfl
theorem tf117_4 : tfield Try.prog 117 4 = (some (4, 5)) := by kernel_rfl
theorem tf117_5 : tfield Try.prog 117 5 = (some (5, 5)) := by kernel_rfl
theorem tf117_6 : tfield Try.prog 117 6 = (some (6, 112)) := by kernel_rfl
theorem tf117_7 : tfield Try.prog 117 7 = (some (7, 113)) := by kernel_rfl
theorem tf117_8 : tfield Try.prog 117 8 = (some (8, 114)) := by kernel_rfl
theorem tf117_9 : tfield Try.prog 117 9 = (some (9, 115)) := by kernel_rfl
theorem tf117_10 : tfield Try.prog 117 10 = (some (10, 116)) := by kernel_rfl
theorem tn117 : tint Try.prog 117 = false := by kernel_rfl
theorem tk117 : tkind Try.prog 117 = .other := by kernel_rfl
theorem te117 : telem Try.prog 117 = none := by kernel_rfl
theorem ts117 : tsize Try.prog 117 = 11 := by kernel_rfl
theorem tb117 : tbytes Try.prog 117 = 48 := by kernel_rfl
theorem tz117 : tzero Try.prog 117 = (some [.int .u64 (0), .int .u64 (0), .int .u32 (0), .int .u8 (0), .int .u8 (0), .int .u8 (0), .int .u8 (0), .bad, .bad, .int .i32 (0), .int .i32 (0)]) := by kernel_rfl
theorem ti117 : ti Try.prog 117 = ⟨11, 48, (some true), none, .other, (some [.int .u64 (0), .int .u64 (0), .int .u32 (0), .int .u8 (0), .int .u8 (0), .int .u8 (0), .int .u8 (0), .bad, .bad, .int .i32 (0), .int .i32 (0)])⟩ := by kernel_rfl
theorem pl118 : tplaces Try.prog 118 = (some [(0, 1), (1, 1), (2, 1), (3, 1), (4, 1), (5, 1), (6, 1), (7, 1), (8, 1), (9, 1), (10, 1)]) := by kernel_rfl
theorem tf118_0 : tfield Try.prog 118 0 = (some (0, 12)) := by kernel_rfl
theorem tf118_1 : tfield Try.prog 118 1 = (some (1, 12)) := by kernel_rfl
theorem tf118_2 : tfield Try.prog 118 2 = (some (2, 110)) := by kernel_rfl
theorem tf118_3 : tfield Try.prog 118 3 = (some (3, 111)) := by kernel_rfl
theorem tf118_4 : tfield Try.prog 118 4 = (some (4, 5)) := by kernel_rfl
theorem tf118_5 : tfield Try.prog 118 5 = (some (5, 5)) := by kernel_rfl
theorem tf118_6 : tfield Try.prog 118 6 = (some (6, 112)) := by kernel_rfl
theorem tf118_7 : tfield Try.prog 118 7 = (some (7, 113)) := by kernel_rfl
theorem tf118_8 : tfield Try.prog 118 8 = (some (8, 114)) := by kernel_rfl
theorem tf118_9 : tfield Try.prog 118 9 = (some (9, 115)) := by kernel_rfl
theorem tf118_10 : tfield Try.prog 118 10 = (some (10, 116)) := by kernel_rfl
theorem tn118 : tint Try.prog 118 = false := by kernel_rfl
theorem tk118 : tkind Try.prog 118 = .other := by kernel_rfl
theorem te118 : telem Try.prog 118 = none := by kernel_rfl
theorem ts118 : tsize Try.prog 118 = 11 := by kernel_rfl
theorem tb118 : tbytes Try.prog 118 = 48 := by kernel_rfl
theorem tz118 : tzero Try.prog 118 = (some [.int .u64 (0), .int .u64 (0), .int .u32 (0), .int .u8 (0), .int .u8 (0), .int .u8 (0), .int .u8 (0), .bad, .bad, .int .i32 (0), .int .i32 (0)]) := by kernel_rfl
theorem ti118 : ti Try.prog 118 = ⟨11, 48, (some true), none, .other, (some [.int .u64 (0), .int .u64 (0), .int .u32 (0), .int .u8 (0), .int .u8 (0), .int .u8 (0), .int .u8 (0), .bad, .bad, .int .i32 (0), .int .i32 (0)])⟩ := by kernel_rfl
theorem tn119 : tint Try.prog 119 = false := by kernel_rfl
theorem tk119 : tkind Try.prog 119 = .other := by kernel_rfl
theorem te119 : telem Try.prog 119 = none := by kernel_rfl
theorem ts119 : tsize Try.prog 119 = 1 := by kernel_rfl
theorem tb119 : tbytes Try.prog 119 = 8 := by kernel_rfl
theorem tz119 : tzero Try.prog 119 = (some [.bad]) := by kernel_rfl
theorem ti119 : ti Try.prog 119 = ⟨1, 8, (some false), none, .other, (some [.bad])⟩ := by kernel_rfl
theorem fb2 : fbody Try.prog 2 = true := by kernel_rfl
theorem rs2 : Try.f2.results.toList = [] := rfl
theorem fb3 : fbody Try.prog 3 = true := by kernel_rfl
theorem rs3 : Try.f3.results.toList = [.tmp 8] := rfl
theorem fb4 : fbody Try.prog 4 = true := by kernel_rfl
theorem rs4 : Try.f4.results.toList = [.tmp 12] := rfl
theorem fb5 : fbody Try.prog 5 = true := by kernel_rfl
theorem rs5 : Try.f5.results.toList = [.tmp 4] := rfl
theorem fb6 : fbody Try.prog 6 = true := by kernel_rfl
theorem rs6 : Try.f6.results.toList = [.tmp 8] := rfl
theorem fb7 : fbody Try.prog 7 = true := by kernel_rfl
theorem rs7 : Try.f7.results.toList = [.tmp 8] := rfl
theorem fb8 : fbody Try.prog 8 = true := by kernel_rfl
theorem rs8 : Try.f8.results.toList = [.tmp 10] := rfl
theorem fb9 : fbody Try.prog 9 = true := by kernel_rfl
theorem rs9 : Try.f9.results.toList = [.tmp 2] := rfl
theorem fb10 : fbody Try.prog 10 = true := by kernel_rfl
theorem rs10 : Try.f10.results.toList = [.tmp 10] := rfl
theorem fb11 : fbody Try.prog 11 = true := by kernel_rfl
theorem rs11 : Try.f11.results.toList = [.tmp 6] := rfl
theorem fb12 : fbody Try.prog 12 = true := by kernel_rfl
theorem rs12 : Try.f12.results.toList = [.tmp 12] := rfl
theorem fb13 : fbody Try.prog 13 = true := by kernel_rfl
theorem rs13 : Try.f13.results.toList = [.tmp 6] := rfl
theorem fb14 : fbody Try.prog 14 = true := by kernel_rfl
theorem rs14 : Try.f14.results.toList = [.cell 8 24, .tmp 9, .tmp 10] := rfl
theorem fb15 : fbody Try.prog 15 = true := by kernel_rfl
theorem rs15 : Try.f15.results.toList = [.cell 8 24, .tmp 9, .tmp 10] := rfl
theorem fb16 : fbody Try.prog 16 = true := by kernel_rfl
theorem rs16 : Try.f16.results.toList = [.tmp 0] := rfl
theorem fb17 : fbody Try.prog 17 = true := by kernel_rfl
theorem rs17 : Try.f17.results.toList = [.tmp 4] := rfl
theorem fb18 : fbody Try.prog 18 = true := by kernel_rfl
theorem rs18 : Try.f18.results.toList = [.cell 12 24, .tmp 13, .tmp 14] := rfl
theorem fb19 : fbody Try.prog 19 = true := by kernel_rfl
theorem rs19 : Try.f19.results.toList = [.cell 12 24, .tmp 13, .tmp 14] := rfl
theorem fb20 : fbody Try.prog 20 = true := by kernel_rfl
theorem rs20 : Try.f20.results.toList = [.cell 4 24, .tmp 5] := rfl
theorem fb21 : fbody Try.prog 21 = true := by kernel_rfl
theorem rs21 : Try.f21.results.toList = [.tmp 4] := rfl
theorem fb22 : fbody Try.prog 22 = true := by kernel_rfl
theorem rs22 : Try.f22.results.toList = [.cell 4 24] := rfl
theorem fb23 : fbody Try.prog 23 = true := by kernel_rfl
theorem rs23 : Try.f23.results.toList = [.tmp 2] := rfl
theorem fb24 : fbody Try.prog 24 = true := by kernel_rfl
theorem rs24 : Try.f24.results.toList = [.tmp 2] := rfl
theorem fb25 : fbody Try.prog 25 = true := by kernel_rfl
theorem rs25 : Try.f25.results.toList = [.tmp 8, .tmp 9] := rfl
theorem fb26 : fbody Try.prog 26 = true := by kernel_rfl
theorem rs26 : Try.f26.results.toList = [.cell 8 24, .tmp 9, .tmp 10] := rfl
theorem fb27 : fbody Try.prog 27 = true := by kernel_rfl
theorem rs27 : Try.f27.results.toList = [.cell 8 24, .tmp 9, .tmp 10] := rfl
theorem fb28 : fbody Try.prog 28 = true := by kernel_rfl
theorem rs28 : Try.f28.results.toList = [.cell 8 24, .tmp 9, .tmp 10] := rfl
theorem fb29 : fbody Try.prog 29 = true := by kernel_rfl
theorem rs29 : Try.f29.results.toList = [.tmp 2] := rfl
theorem fb30 : fbody Try.prog 30 = true := by kernel_rfl
theorem rs30 : Try.f30.results.toList = [.tmp 4] := rfl
theorem fb31 : fbody Try.prog 31 = true := by kernel_rfl
theorem rs31 : Try.f31.results.toList = [.tmp 6] := rfl
theorem fb32 : fbody Try.prog 32 = true := by kernel_rfl
theorem rs32 : Try.f32.results.toList = [.tmp 0] := rfl
theorem fb33 : fbody Try.prog 33 = true := by kernel_rfl
theorem rs33 : Try.f33.results.toList = [.tmp 2] := rfl
theorem fb34 : fbody Try.prog 34 = true := by kernel_rfl
theorem rs34 : Try.f34.results.toList = [.tmp 2] := rfl
theorem fb35 : fbody Try.prog 35 = true := by kernel_rfl
theorem rs35 : Try.f35.results.toList = [.tmp 10, .tmp 11] := rfl
theorem fb36 : fbody Try.prog 36 = true := by kernel_rfl
theorem rs36 : Try.f36.results.toList = [.tmp 10, .tmp 11] := rfl
theorem fb37 : fbody Try.prog 37 = true := by kernel_rfl
theorem rs37 : Try.f37.results.toList = [.tmp 8] := rfl
theorem fb38 : fbody Try.prog 38 = true := by kernel_rfl
theorem rs38 : Try.f38.results.toList = [.tmp 6, .tmp 7] := rfl
theorem fb39 : fbody Try.prog 39 = true := by kernel_rfl
theorem rs39 : Try.f39.results.toList = [.tmp 6, .tmp 7] := rfl
theorem fb40 : fbody Try.prog 40 = true := by kernel_rfl
theorem rs40 : Try.f40.results.toList = [.tmp 6, .tmp 7] := rfl
theorem fb41 : fbody Try.prog 41 = true := by kernel_rfl
theorem rs41 : Try.f41.results.toList = [.tmp 4, .tmp 5] := rfl
theorem fb42 : fbody Try.prog 42 = true := by kernel_rfl
theorem rs42 : Try.f42.results.toList = [.tmp 6] := rfl
theorem fb43 : fbody Try.prog 43 = true := by kernel_rfl
theorem rs43 : Try.f43.results.toList = [.tmp 4] := rfl
theorem fb44 : fbody Try.prog 44 = true := by kernel_rfl
theorem rs44 : Try.f44.results.toList = [.tmp 4] := rfl
theorem fb45 : fbody Try.prog 45 = true := by kernel_rfl
theorem rs45 : Try.f45.results.toList = [.cell 4 24, .tmp 5] := rfl
theorem fb46 : fbody Try.prog 46 = true := by kernel_rfl
theorem rs46 : Try.f46.results.toList = [.tmp 2] := rfl
theorem fb47 : fbody Try.prog 47 = true := by kernel_rfl
theorem rs47 : Try.f47.results.toList = [.tmp 6] := rfl
theorem fb48 : fbody Try.prog 48 = true := by kernel_rfl
theorem rs48 : Try.f48.results.toList = [.tmp 4] := rfl
theorem fb49 : fbody Try.prog 49 = true := by kernel_rfl
theorem rs49 : Try.f49.results.toList = [.tmp 4] := rfl
theorem fb50 : fbody Try.prog 50 = true := by kernel_rfl
theorem rs50 : Try.f50.results.toList = [.cell 8 24, .tmp 9, .tmp 10] := rfl
theorem fb51 : fbody Try.prog 51 = true := by kernel_rfl
theorem rs51 : Try.f51.results.toList = [.tmp 4] := rfl
theorem fb52 : fbody Try.prog 52 = true := by kernel_rfl
theorem rs52 : Try.f52.results.toList = [.tmp 6] := rfl
theorem fb53 : fbody Try.prog 53 = true := by kernel_rfl
theorem rs53 : Try.f53.results.toList = [.tmp 6] := rfl
theorem fb54 : fbody Try.prog 54 = true := by kernel_rfl
theorem rs54 : Try.f54.results.toList = [.tmp 2] := rfl
theorem fb55 : fbody Try.prog 55 = true := by kernel_rfl
theorem rs55 : Try.f55.results.toList = [.tmp 4] := rfl
theorem fb56 : fbody Try.prog 56 = true := by kernel_rfl
theorem rs56 : Try.f56.results.toList = [.tmp 2] := rfl
theorem fb57 : fbody Try.prog 57 = true := by kernel_rfl
theorem rs57 : Try.f57.results.toList = [.tmp 4] := rfl
theorem fb58 : fbody Try.prog 58 = true := by kernel_rfl
theorem rs58 : Try.f58.results.toList = [.tmp 6] := rfl
theorem fb59 : fbody Try.prog 59 = true := by kernel_rfl
theorem rs59 : Try.f59.results.toList = [.tmp 8] := rfl
theorem fb60 : fbody Try.prog 60 = true := by kernel_rfl
theorem rs60 : Try.f60.results.toList = [.tmp 4] := rfl
theorem fb61 : fbody Try.prog 61 = true := by kernel_rfl
theorem rs61 : Try.f61.results.toList = [.tmp 3] := rfl
theorem fb62 : fbody Try.prog 62 = true := by kernel_rfl
theorem rs62 : Try.f62.results.toList = [.tmp 8] := rfl
theorem fb63 : fbody Try.prog 63 = true := by kernel_rfl
theorem rs63 : Try.f63.results.toList = [.tmp 4] := rfl
theorem fb64 : fbody Try.prog 64 = true := by kernel_rfl
theorem rs64 : Try.f64.results.toList = [.tmp 3] := rfl
theorem fb65 : fbody Try.prog 65 = true := by kernel_rfl
theorem rs65 : Try.f65.results.toList = [.cell 4 24] := rfl
theorem fb66 : fbody Try.prog 66 = true := by kernel_rfl
theorem rs66 : Try.f66.results.toList = [.tmp 2] := rfl
theorem fb67 : fbody Try.prog 67 = true := by kernel_rfl
theorem rs67 : Try.f67.results.toList = [.tmp 4] := rfl
theorem fb68 : fbody Try.prog 68 = true := by kernel_rfl
theorem rs68 : Try.f68.results.toList = [.tmp 4] := rfl
theorem fb69 : fbody Try.prog 69 = true := by kernel_rfl
theorem rs69 : Try.f69.results.toList = [.tmp 4] := rfl
theorem fb70 : fbody Try.prog 70 = true := by kernel_rfl
theorem rs70 : Try.f70.results.toList = [.tmp 4] := rfl
theorem fb71 : fbody Try.prog 71 = true := by kernel_rfl
theorem rs71 : Try.f71.results.toList = [.tmp 2] := rfl
theorem fb72 : fbody Try.prog 72 = true := by kernel_rfl
theorem rs72 : Try.f72.results.toList = [.tmp 2] := rfl
theorem fb73 : fbody Try.prog 73 = true := by kernel_rfl
theorem rs73 : Try.f73.results.toList = [.tmp 4] := rfl
theorem fb74 : fbody Try.prog 74 = true := by kernel_rfl
theorem rs74 : Try.f74.results.toList = [.tmp 6, .tmp 7] := rfl
theorem fb75 : fbody Try.prog 75 = true := by kernel_rfl
theorem rs75 : Try.f75.results.toList = [.tmp 2] := rfl
theorem fb76 : fbody Try.prog 76 = true := by kernel_rfl
theorem rs76 : Try.f76.results.toList = [.tmp 6] := rfl
theorem fb77 : fbody Try.prog 77 = true := by kernel_rfl
theorem rs77 : Try.f77.results.toList = [.tmp 6] := rfl
theorem fb78 : fbody Try.prog 78 = true := by kernel_rfl
theorem rs78 : Try.f78.results.toList = [.tmp 4] := rfl
theorem fb79 : fbody Try.prog 79 = true := by kernel_rfl
theorem rs79 : Try.f79.results.toList = [.tmp 4] := rfl
theorem fb80 : fbody Try.prog 80 = true := by kernel_rfl
theorem rs80 : Try.f80.results.toList = [.tmp 2] := rfl
theorem fb81 : fbody Try.prog 81 = true := by kernel_rfl
theorem rs81 : Try.f81.results.toList = [.tmp 3] := rfl
theorem fb82 : fbody Try.prog 82 = true := by kernel_rfl
theorem rs82 : Try.f82.results.toList = [.tmp 4] := rfl
theorem fb83 : fbody Try.prog 83 = true := by kernel_rfl
theorem rs83 : Try.f83.results.toList = [.tmp 4] := rfl
theorem fb84 : fbody Try.prog 84 = true := by kernel_rfl
theorem rs84 : Try.f84.results.toList = [.tmp 2] := rfl
theorem fb85 : fbody Try.prog 85 = true := by kernel_rfl
theorem rs85 : Try.f85.results.toList = [.tmp 6, .tmp 7] := rfl
theorem fb87 : fbody Try.prog 87 = true := by kernel_rfl
theorem rs87 : Try.f87.results.toList = [] := rfl
theorem fb89 : fbody Try.prog 89 = true := by kernel_rfl
theorem rs89 : Try.f89.results.toList = [] := rfl
theorem fb90 : fbody Try.prog 90 = true := by kernel_rfl
theorem rs90 : Try.f90.results.toList = [] := rfl
theorem mixed : Try.prog.follows .mixedOrders = true := by kernel_rfl
attribute [go_sem] tn1 tk1 te1 ts1 tb1 tz1 ti1 tn2 tk2 te2 ts2 tb2 tz2 ti2 tn3 tk3 te3 ts3 tb3 tz3 ti3 tn4 tk4 te4 ts4 tb4 tz4 ti4 tn5 tk5 te5 ts5 tb5 tz5 ti5 tn6 tk6 te6 ts6 tb6 tz6 ti6 pl7 tf7_0 tf7_1 tf7_2 tf7_3 tn7 tk7 te7 ts7 tb7 tz7 ti7 pl8 tf8_0 tf8_1 tf8_2 tf8_3 tn8 tk8 te8 ts8 tb8 tz8 ti8 tn9 tk9 te9 ts9 tb9 tz9 ti9 tn10 tk10 te10 ts10 tb10 tz10 ti10 tn11 tk11 te11 ts11 tb11 tz11 ti11 tn12 tk12 te12 ts12 tb12 tz12 ti12 pl13 tf13_0 tf13_1 tn13 tk13 te13 ts13 tb13 tz13 ti13 pl14 tf14_0 tf14_1 tn14 tk14 te14 ts14 tb14 tz14 ti14 tn15 tk15 te15 ts15 tb15 tz15 ti15 tn16 tk16 te16 ts16 tb16 tz16 ti16 tn17 tk17 te17 ts17 tb17 tz17 ti17 pl18 tf18_0 tn18 tk18 te18 ts18 tb18 tz18 ti18 pl19 tf19_0 tn19 tk19 te19 ts19 tb19 tz19 ti19 tn20 tk20 te20 ts20 tb20 tz20 ti20 tn21 tk21 te21 ts21 tb21 tz21 ti21 tn22 tk22 te22 ts22 tb22 tz22 ti22 pl23 tf23_0 tf23_1 tf23_2 tf23_3 tn23 tk23 te23 ts23 tb23 tz23 ti23 pl24 tf24_0 tf24_1 tf24_2 tf24_3 tn24 tk24 te24 ts24 tb24 tz24 ti24 tn25 tk25 te25 ts25 tb25 tz25 ti25 tn26 tk26 te26 ts26 tb26 tz26 ti26 tn27 tk27 te27 ts27 tb27 tz27 ti27 tn28 tk28 te28 ts28 tb28 tz28 ti28 tn29 tk29 te29 ts29 tb29 tz29 ti29 tn30 tk30 te30 ts30 tb30 tz30 ti30 tn31 tk31 te31 ts31 tb31 tz31 ti31 tn32 tk32 te32 ts32 tb32 tz32 ti32 tn33 tk33 te33 ts33 tb33 tz33 ti33 tn34 tk34 te34 ts34 tb34 tz34 ti34 tn35 tk35 te35 ts35 tb35 tz35 ti35 tn36 tk36 te36 ts36 tb36 tz36 ti36 tn37 tk37 te37 ts37 tb37 tz37 ti37 tn38 tk38 te38 ts38 tb38 tz38 ti38 tn39 tk39 te39 ts39 tb39 tz39 ti39 tn40 tk40 te40 ts40 tb40 tz40 ti40 tn41 tk41 te41 ts41 tb41 tz41 ti41 tn42 tk42 te42 ts42 tb42 tz42 ti42 pl43 tf43_0 tf43_1 tf43_2 tf43_3 tf43_4 tn43 tk43 te43 ts43 tb43 tz43 ti43 pl44 tf44_0 tf44_1 tf44_2 tf44_3 tf44_4 tn44 tk44 te44 ts44 tb44 tz44 ti44 tn45 tk45 te45 ts45 tb45 tz45 ti45 tn46 tk46 te46 ts46 tb46 tz46 ti46 tn47 tk47 te47 ts47 tb47 tz47 ti47 tn48 tk48 te48 ts48 tb48 tz48 ti48 tn49 tk49 te49 ts49 tb49 tz49 ti49 tn50 tk50 te50 ts50 tb50 tz50 ti50 tn51 tk51 te51 ts51 tb51 tz51 ti51 tn52 tk52 te52 ts52 tb52 tz52 ti52 tn53 tk53 te53 ts53 tb53 tz53 ti53 tn54 tk54 te54 ts54 tb54 tz54 ti54 tn55 tk55 te55 ts55 tb55 tz55 ti55 tn56 tk56 te56 ts56 tb56 tz56 ti56 tn57 tk57 te57 ts57 tb57 tz57 ti57 tn58 tk58 te58 ts58 tb58 tz58 ti58 tn59 tk59 te59 ts59 tb59 tz59 ti59 pl60 tf60_0 tf60_1 tf60_2 tn60 tk60 te60 ts60 tb60 tz60 ti60 pl61 tf61_0 tf61_1 tf61_2 tn61 tk61 te61 ts61 tb61 tz61 ti61 tn62 tk62 te62 ts62 tb62 tz62 ti62 tn63 tk63 te63 ts63 tb63 tz63 ti63 tn64 tk64 te64 ts64 tb64 tz64 ti64 tn65 tk65 te65 ts65 tb65 tz65 ti65 tn66 tk66 te66 ts66 tb66 tz66 ti66 tn67 tk67 te67 ts67 tb67 tz67 ti67 tn68 tk68 te68 ts68 tb68 tz68 ti68 tn69 tk69 te69 ts69 tb69 tz69 ti69 tn70 tk70 te70 ts70 tb70 tz70 ti70 tn71 tk71 te71 ts71 tb71 tz71 ti71 tn72 tk72 te72 ts72 tb72 tz72 ti72 tn73 tk73 te73 ts73 tb73 tz73 ti73 tn74 tk74 te74 ts74 tb74 tz74 ti74 tn75 tk75 te75 ts75 tb75 tz75 ti75 tn76 tk76 te76 ts76 tb76 tz76 ti76 tn77 tk77 te77 ts77 tb77 tz77 ti77 tn78 tk78 te78 ts78 tb78 tz78 ti78 tn79 tk79 te79 ts79 tb79 tz79 ti79 tn80 tk80 te80 ts80 tb80 tz80 ti80 tn81 tk81 te81 ts81 tb81 tz81 ti81 tn82 tk82 te82 ts82 tb82 tz82 ti82 tn83 tk83 te83 ts83 tb83 tz83 ti83 tn84 tk84 te84 ts84 tb84 tz84 ti84 tn85 tk85 te85 ts85 tb85 tz85 ti85 tn86 tk86 te86 ts86 tb86 tz86 ti86 tn87 tk87 te87 ts87 tb87 tz87 ti87 tn88 tk88 te88 ts88 tb88 tz88 ti88 tn89 tm89 tv4 tk89 te89 ts89 tb89 tz89 ti89 tn90 tk90 te90 ts90 tb90 tz90 ti90 tn91 tk91 te91 ts91 tb91 tz91 ti91 tn92 tk92 te92 ts92 tb92 tz92 ti92 tn93 tk93 te93 ts93 tb93 tz93 ti93 tn94 tk94 te94 ts94 tb94 tz94 ti94 tn95 tk95 te95 ts95 tb95 tz95 ti95 tn96 tk96 te96 ts96 tb96 tz96 ti96 tn97 tk97 te97 ts97 tb97 tz97 ti97 tn98 tk98 te98 ts98 tb98 tz98 ti98 tn99 tk99 te99 ts99 tb99 tz99 ti99 tn100 tk100 te100 ts100 tb100 tz100 ti100 tn101 tk101 te101 ts101 tb101 tz101 ti101 tn102 tk102 te102 ts102 tb102 tz102 ti102 tn103 tk103 te103 ts103 tb103 tz103 ti103 pl104 tf104_0 tf104_1 tf104_2 tf104_3 tn104 tk104 te104 ts104 tb104 tz104 ti104 pl105 tf105_0 tf105_1 tf105_2 tf105_3 tn105 tk105 te105 ts105 tb105 tz105 ti105 tn106 tk106 te106 ts106 tb106 tz106 ti106 pl107 tf107_0 tn107 tk107 te107 ts107 tb107 tz107 ti107 pl108 tf108_0 tn108 tk108 te108 ts108 tb108 tz108 ti108 tn109 tk109 te109 ts109 tb109 tz109 ti109 tn110 tk110 te110 ts110 tb110 tz110 ti110 tn111 tk111 te111 ts111 tb111 tz111 ti111 tn112 tk112 te112 ts112 tb112 tz112 ti112 tn113 tk113 te113 ts113 tb113 tz113 ti113 tn114 tk114 te114 ts114 tb114 tz114 ti114 tn115 tk115 te115 ts115 tb115 tz115 ti115 tn116 tk116 te116 ts116 tb116 tz116 ti116 pl117 tf117_0 tf117_1 tf117_2 tf117_3 tf117_4 tf117_5 tf117_6 tf117_7 tf117_8 tf117_9 tf117_10 tn117 tk117 te117 ts117 tb117 tz117 ti117 pl118 tf118_0 tf118_1 tf118_2 tf118_3 tf118_4 tf118_5 tf118_6 tf118_7 tf118_8 tf118_9 tf118_10 tn118 tk118 te118 ts118 tb118 tz118 ti118 tn119 tk119 te119 ts119 tb119 tz119 ti119 rs2 rs3 rs4 rs5 rs6 rs7 rs8 rs9 rs10 rs11 rs12 rs13 rs14 rs15 rs16 rs17 rs18 rs19 rs20 rs21 rs22 rs23 rs24 rs25 rs26 rs27 rs28 rs29 rs30 rs31 rs32 rs33 rs34 rs35 rs36 rs37 rs38 rs39 rs40 rs41 rs42 rs43 rs44 rs45 rs46 rs47 rs48 rs49 rs50 rs51 rs52 rs53 rs54 rs55 rs56 rs57 rs58 rs59 rs60 rs61 rs62 rs63 rs64 rs65 rs66 rs67 rs68 rs69 rs70 rs71 rs72 rs73 rs74 rs75 rs76 rs77 rs78 rs79 rs80 rs81 rs82 rs83 rs84 rs85 rs87 rs89 rs90
end Go.VM.Try
end
section
set_option linter.unusedVariables false
set_option linter.unusedSimpArgs false
open Go Go.VM Go.Proofs
namespace Go.VM.Try
set_option maxHeartbeats 1000000 in
set_option maxRecDepth 100000 in
theorem stringslite_IndexByte (s : ByteArray) (c : Int) (w : World) :
    Calls Try.prog 82 #[.string s, .int .u8 c] w fun e w' => e = .returned (.int .i64 (Lib.indexByte s.data.toList c.toNat.toUInt8)) ∧ w' = w := by
  go_enter Try.func82, Try.ntmps82
  go_wp2
  rw [run_callFunc_extern Try.func88 (by kernel_rfl) (by kernel_rfl) (by kernel_rfl) (e := Extern.BytealgIndexByte.indexByte) (by kernel_rfl), Lib.run_indexByteString]
  simp only [Result.andThen]
  rw [Oper.upon_value]
  go_wp2
  go_ret
  exact ⟨rfl, rfl⟩
theorem idx0 (s : List UInt8) (c : Int) : Meets Try.prog 82 [.str s, .int .u8 c] (.int .i64 (Lib.indexByte s c.toNat.toUInt8)) [] :=
  meets_pure (us0 := #[.string ⟨s.toArray⟩, .int .u8 c]) fb82 (fun c' us hsz hus => args2 hsz hus (fun u h => by simpa only [VR] using h) (fun u h => by simpa only [VR] using h)) (u0 := .int .i64 (Lib.indexByte s c.toNat.toUInt8)) (fun c => by simp only [VR])
    fun w => by simpa using stringslite_IndexByte ⟨s.toArray⟩ c w
set_option maxRecDepth 100000
theorem IndexByte (s : List UInt8) (c : Int) : Meets Try.prog 67 [.str s, .int .u8 c] (.int .i64 (Lib.indexByte s c.toNat.toUInt8)) [] := by
  refine meets_x (fn := Try.f67) Try.func67 rfl fb67 (by kernel_rfl) (Nat.le_of_ble_eq_true rfl) ?_
  refine cx_sr ?_
  simp only [go_sem]
  repeat first | (with_reducible refine side_d ?_ ?_; exact byD) | (with_reducible refine side_q ?_ ?_; exact byQ)
  refine cx_sr ?_
  simp only [go_sem]
  repeat first | (with_reducible refine side_d ?_ ?_; exact byD) | (with_reducible refine side_q ?_ ?_; exact byQ)
  refine cw_m (idx0 s c) byW byT ?_
  simp only [go_sem]
  repeat first | (with_reducible refine side_d ?_ ?_; exact byD) | (with_reducible refine side_q ?_ ?_; exact byQ)
  refine cx_ret ?_
  simp only [go_sem]
  exact finw_int rfl
end Go.VM.Try
end
section
set_option linter.unusedVariables false
set_option linter.unusedSimpArgs false
open Go Go.VM
namespace Tether
abbrev Str := List UInt8
abbrev wrap (n : Int) : Int := IntKind.i64.wrap n
/-! ### Names -/
/-- a sign of a name -/
def signB (c : Int) : Bool := decide (97 ≤ c) && decide (c ≤ 122) || decide (65 ≤ c) && decide (c ≤ 90) || decide (48 ≤ c) && decide (c ≤ 57) || decide (0 ≤ Go.Lib.indexByte [45, 95, 46, 40, 41, 32] c.toNat.toUInt8)
def at8 (s : Str) (i : Nat) : Int := ((s.getD i 0).toNat : Int)
/-- a name -/
def isName (s : Str) : Bool :=
  !(decide (s = []) || decide (20 < (s.length : Int)) || decide (s = [46]) || decide (s = [46, 46])) && !(decide (at8 s 0 = 32) || decide (at8 s (s.length - 1) = 32)) && (List.range s.length).all fun i => signB (at8 s i)
/-! ### Uploads -/
structure Session where
  num : Int
  who : Str
  text : Str
  size : Int
  till : Int
  deriving Inhabited, DecidableEq
structure Uploads where
  ss : List Session
  next : Int
  lasts : Int
  room : Int
  deriving Inhabited, DecidableEq
def Session.enc (s : Session) : List V := [.int .i64 s.num, .str s.who, .str s.text, .int .i64 s.size, .int .i64 s.till]
abbrev ssV (l : List Session) : V := lstV 5 Session.enc default l
def Uploads.enc (u : Uploads) : V := .agg [ssV u.ss, .int .i64 u.next, .int .i64 u.lasts, .int .i64 u.room]
attribute [go_sem] Session.enc Uploads.enc
def within (n a b : Int) : Bool := decide (a ≤ n) && decide (n ≤ b)
/-- open sizes of somebody -/
def openW (l : List Session) (who : Str) : Int := l.foldl (fun n s => if s.who = who then wrap (n + s.size) else n) 0
/-- what is wrong with a session -/
def sessErr (u : Uploads) (s : Session) : Int :=
  if (!within s.num 1 (wrap (u.next - 1)) || !within s.size 0 300 || !within s.till 0 2199023255552) = true then 3
  else if isName s.who = false then 1
  else if s.size < (s.text.length : Int) then 2 else 0
/-- the first thing that is wrong, in some order -/
def firstErr {α : Type} (f : α → Int) : List α → Int
  | [] => 0
  | x :: l => if f x ≠ 0 then f x else firstErr f l
/-- do numbers rise? -/
def risesAt (l : List Session) (i : Nat) : Bool := decide ((l.getD (i - 1) default).num < (l.getD i default).num)
def checkU (u : Uploads) : Int :=
  if (!within u.lasts 1 1000000 || !within u.room 0 100000 || !within u.next 1 1099511627776) = true then 3
  else if 20 < (u.ss.length : Int) then 2
  else if firstErr (sessErr u) u.ss ≠ 0 then firstErr (sessErr u) u.ss
  else if ((List.range u.ss.length).all fun i => i = 0 || risesAt u.ss i) = false then 4
  else if (u.ss.all fun s => decide (openW u.ss s.who ≤ u.room)) = false then 10
  else 0
theorem foldl_take {α β : Type} (f : β → α → β) (a : β) (l : List α) (d : α) {i : Nat} (h : i < l.length) : (l.take (i + 1)).foldl f a = f ((l.take i).foldl f a) (l.getD i d) := by
  rw [List.take_succ_eq_append_getElem h, List.foldl_append]
  simp [List.getD, h]
theorem firstErr_at {α : Type} {f : α → Int} {l : List α} {d : α} {i : Nat} (hi : i < l.length) (hb : ∀ j, j < i → f (l.getD j d) = 0) (h : f (l.getD i d) ≠ 0) : firstErr f l = f (l.getD i d) := by
  induction l generalizing i with
  | nil => simp at hi
  | cons x l ih =>
    cases i with
    | zero => simpa [firstErr] using fun h' => absurd h' (by simpa using h)
    | succ i =>
      have h0 := hb 0 (by omega)
      simp at h0
      simp only [firstErr, h0]
      simpa using ih (by simpa using hi) (fun j hj => by simpa using hb (j + 1) (by omega)) (by simpa using h)
theorem firstErr_none {α : Type} {f : α → Int} {l : List α} {d : α} (hb : ∀ j, j < l.length → f (l.getD j d) = 0) : firstErr f l = 0 := by
  induction l with
  | nil => rfl
  | cons x l ih =>
    have h0 := hb 0 (by simp)
    simp at h0
    simp only [firstErr, h0]
    simpa using ih fun j hj => by simpa using hb (j + 1) (by simpa using hj)
theorem all_next {p : Nat → Prop} {i : Nat} (h : ∀ j, j < i → p j) (hi : p i) : ∀ j, j < i + 1 → p j := fun j hj => by
  rcases Nat.lt_or_ge j i with h' | h'
  · exact h j h'
  · obtain rfl : j = i := by omega
    exact hi
theorem getD_take {α : Type} {l : List α} {d : α} {i q : Nat} (h : q < i) : (l.take i).getD q d = l.getD q d := by
  simp [List.getD, List.getElem?_take, h]
theorem getD_mem {α : Type} {l : List α} {d : α} {i : Nat} (h : i < l.length) : l.getD i d ∈ l := by
  simp [List.getD, h]
theorem range_all_false {n i : Nat} {p : Nat → Bool} (hi : i < n) (h : p i = false) : (List.range n).all p = false := by
  rw [List.all_eq_false]; exact ⟨i, by simpa using hi, by simpa using h⟩
theorem range_all_true {n : Nat} {p : Nat → Bool} (h : ∀ i, i < n → p i = true) : (List.range n).all p = true := by
  rw [List.all_eq_true]; exact fun i hi => h i (by simpa using hi)
theorem all_at {α : Type} {l : List α} {p : α → Bool} {d : α} {i : Nat} (hi : i < l.length) (h : p (l.getD i d) = false) : l.all p = false := by
  rw [List.all_eq_false]; exact ⟨l[i], List.getElem_mem hi, by simpa [List.getD, hi] using h⟩
theorem all_of {α : Type} {l : List α} {p : α → Bool} {d : α} (h : ∀ i, i < l.length → p (l.getD i d) = true) : l.all p = true := by
  rw [List.all_eq_true]
  intro x hx
  obtain ⟨i, hi, rfl⟩ := List.getElem_of_mem hx
  simpa [List.getD, hi] using h i hi
end Tether
end
section
set_option linter.unusedVariables false
set_option linter.unusedSimpArgs false
open Go Go.VM Go.Proofs Tether
namespace Go.VM.Try
set_option maxRecDepth 100000
theorem within_c (n a b : Int) : Meets Try.prog 47 [.int .i64 n, .int .i64 a, .int .i64 b] (.bool (within n a b)) [] := by
  refine meets_x (fn := Try.f47) Try.func47 rfl fb47 (by kernel_rfl) (Nat.le_of_ble_eq_true rfl) ?_
  refine cx_sr ?_
  simp only [go_sem]
  repeat first | (with_reducible refine side_d ?_ ?_; exact byD) | (with_reducible refine side_q ?_ ?_; exact byQ)
  refine cx_sr ?_
  simp only [go_sem]
  repeat first | (with_reducible refine side_d ?_ ?_; exact byD) | (with_reducible refine side_q ?_ ?_; exact byQ)
  intro t9 e9
  repeat first | (with_reducible refine side_d ?_ ?_; exact byD) | (with_reducible refine side_q ?_ ?_; exact byQ)
  intro t13 e13
  repeat first | (with_reducible refine side_d ?_ ?_; exact byD) | (with_reducible refine side_q ?_ ?_; exact byQ)
  intro t14 e14
  rw [bsel_and] at e14
  repeat first | (with_reducible refine side_d ?_ ?_; exact byD) | (with_reducible refine side_q ?_ ?_; exact byQ)
  subst e9 e13 e14
  refine cx_ret ?_
  simp only [go_sem]
  refine finw_bool ?_
  rfl
theorem sign_c (c : Int) : Meets Try.prog 66 [.int .u8 c] (.bool (signB c)) [] := by
  refine meets_x (fn := Try.f66) Try.func66 rfl fb66 (by kernel_rfl) (Nat.le_of_ble_eq_true rfl) ?_
  refine cx_sr ?_
  simp only [go_sem]
  repeat first | (with_reducible refine side_d ?_ ?_; exact byD) | (with_reducible refine side_q ?_ ?_; exact byQ)
  refine cx_sr ?_
  simp only [go_sem]
  repeat first | (with_reducible refine side_d ?_ ?_; exact byD) | (with_reducible refine side_q ?_ ?_; exact byQ)
  intro t4 e4
  repeat first | (with_reducible refine side_d ?_ ?_; exact byD) | (with_reducible refine side_q ?_ ?_; exact byQ)
  intro t7 e7
  repeat first | (with_reducible refine side_d ?_ ?_; exact byD) | (with_reducible refine side_q ?_ ?_; exact byQ)
  intro t8 e8
  rw [bsel_and] at e8
  repeat first | (with_reducible refine side_d ?_ ?_; exact byD) | (with_reducible refine side_q ?_ ?_; exact byQ)
  intro t11 e11
  repeat first | (with_reducible refine side_d ?_ ?_; exact byD) | (with_reducible refine side_q ?_ ?_; exact byQ)
  intro t14 e14
  repeat first | (with_reducible refine side_d ?_ ?_; exact byD) | (with_reducible refine side_q ?_ ?_; exact byQ)
  intro t15 e15
  rw [bsel_and] at e15
  repeat first | (with_reducible refine side_d ?_ ?_; exact byD) | (with_reducible refine side_q ?_ ?_; exact byQ)
  intro t16 e16
  rw [bsel_or] at e16
  repeat first | (with_reducible refine side_d ?_ ?_; exact byD) | (with_reducible refine side_q ?_ ?_; exact byQ)
  intro t19 e19
  repeat first | (with_reducible refine side_d ?_ ?_; exact byD) | (with_reducible refine side_q ?_ ?_; exact byQ)
  intro t22 e22
  repeat first | (with_reducible refine side_d ?_ ?_; exact byD) | (with_reducible refine side_q ?_ ?_; exact byQ)
  intro t23 e23
  rw [bsel_and] at e23
  repeat first | (with_reducible refine side_d ?_ ?_; exact byD) | (with_reducible refine side_q ?_ ?_; exact byQ)
  intro t24 e24
  rw [bsel_or] at e24
  repeat first | (with_reducible refine side_d ?_ ?_; exact byD) | (with_reducible refine side_q ?_ ?_; exact byQ)
  refine ⟨_, fun hp => cw_m (IndexByte _ c) byW byT ⟨rfl, rfl⟩, ?_⟩
  simp only [go_sem]
  repeat first | (with_reducible refine side_d ?_ ?_; exact byD) | (with_reducible refine side_q ?_ ?_; exact byQ)
  intro t28 e28
  repeat first | (with_reducible refine side_d ?_ ?_; exact byD) | (with_reducible refine side_q ?_ ?_; exact byQ)
  intro t29 e29
  rw [bsel_or] at e29
  repeat first | (with_reducible refine side_d ?_ ?_; exact byD) | (with_reducible refine side_q ?_ ?_; exact byQ)
  subst e4 e7 e8 e11 e14 e15 e16 e19 e22 e23 e24 e28 e29
  refine cx_ret ?_
  simp only [go_sem]
  refine finw_bool ?_
  simp [signB]
theorem IsName_c (s : Str) (hs : s.length < 4611686018427387904) : Meets Try.prog 46 [.str s] (.bool (isName s)) [] := by
  refine meets_x (fn := Try.f46) Try.func46 rfl fb46 (by kernel_rfl) (Nat.le_of_ble_eq_true rfl) ?_
  refine cx_sr ?_
  simp only [go_sem]
  repeat first | (with_reducible refine side_d ?_ ?_; exact byD) | (with_reducible refine side_q ?_ ?_; exact byQ)
  refine cx_sr ?_
  simp only [go_sem]
  repeat first | (with_reducible refine side_d ?_ ?_; exact byD) | (with_reducible refine side_q ?_ ?_; exact byQ)
  refine cx_seq (cx_block ?_)
  refine cx_sr ?_
  simp only [go_sem]
  repeat first | (with_reducible refine side_d ?_ ?_; exact byD) | (with_reducible refine side_q ?_ ?_; exact byQ)
  intro t7 e7
  repeat first | (with_reducible refine side_d ?_ ?_; exact byD) | (with_reducible refine side_q ?_ ?_; exact byQ)
  intro t11 e11
  repeat first | (with_reducible refine side_d ?_ ?_; exact byD) | (with_reducible refine side_q ?_ ?_; exact byQ)
  intro t12 e12
  rw [bsel_or] at e12
  repeat first | (with_reducible refine side_d ?_ ?_; exact byD) | (with_reducible refine side_q ?_ ?_; exact byQ)
  intro t15 e15
  repeat first | (with_reducible refine side_d ?_ ?_; exact byD) | (with_reducible refine side_q ?_ ?_; exact byQ)
  intro t16 e16
  rw [bsel_or] at e16
  repeat first | (with_reducible refine side_d ?_ ?_; exact byD) | (with_reducible refine side_q ?_ ?_; exact byQ)
  intro t19 e19
  repeat first | (with_reducible refine side_d ?_ ?_; exact byD) | (with_reducible refine side_q ?_ ?_; exact byQ)
  intro t20 e20
  rw [bsel_or] at e20
  repeat first | (with_reducible refine side_d ?_ ?_; exact byD) | (with_reducible refine side_q ?_ ?_; exact byQ)
  subst e7 e11 e12 e15 e16 e19 e20
  refine cx_if _ rfl (fun h5 => ?_) (fun h5 => ?_)
  ·
    (try simp only [go_sem] at h5)
    refine cx_sr ?_
    simp only [go_sem]
    repeat first | (with_reducible refine side_d ?_ ?_; exact byD) | (with_reducible refine side_q ?_ ?_; exact byQ)
    refine cx_ret ?_
    simp only [go_sem]
    refine finw_bool ?_
    rcases h5 with ((h5 | h5) | h5) | h5 <;> simp [isName, h5]
  ·
    (try simp only [go_sem] at h5)
    have hpos : 0 < s.length := by
      rcases s with _ | ⟨x, s⟩
      · simp at h5
      · simp
    refine cx_sr ?_
    simp only [go_sem]
    repeat first | (with_reducible refine side_d ?_ ?_; exact byD) | (with_reducible refine side_q ?_ ?_; exact byQ)
    intro t23 e23
    repeat first | (with_reducible refine side_d ?_ ?_; exact byD) | (with_reducible refine side_q ?_ ?_; exact byQ)
    intro t24 e24
    repeat first | (with_reducible refine side_d ?_ ?_; exact byD) | (with_reducible refine side_q ?_ ?_; exact byQ)
    intro t29 e29
    (try replace e29 := w64 e29 (by omega) (by omega))
    repeat first | (with_reducible refine side_d ?_ ?_; exact byD) | (with_reducible refine side_q ?_ ?_; exact byQ)
    intro t30 e30
    repeat first | (with_reducible refine side_d ?_ ?_; exact byD) | (with_reducible refine side_q ?_ ?_; exact byQ)
    intro t31 e31
    repeat first | (with_reducible refine side_d ?_ ?_; exact byD) | (with_reducible refine side_q ?_ ?_; exact byQ)
    intro t32 e32
    rw [bsel_or] at e32
    repeat first | (with_reducible refine side_d ?_ ?_; exact byD) | (with_reducible refine side_q ?_ ?_; exact byQ)
    subst e24 e31 e32
    refine cx_if _ rfl (fun h21 => ?_) (fun h21 => ?_)
    ·
      (try simp only [go_sem] at h21)
      refine cx_sr ?_
      simp only [go_sem]
      repeat first | (with_reducible refine side_d ?_ ?_; exact byD) | (with_reducible refine side_q ?_ ?_; exact byQ)
      refine cx_ret ?_
      simp only [go_sem]
      refine finw_bool ?_
      have hl : ((s.length : Int) - 1).toNat = s.length - 1 := by omega
      subst e23 e29 e30
      simp only [hl] at h21
      rcases h21 with h21 | h21 <;> simp [isName, at8] <;> intros <;> simp_all
    ·
      (try simp only [go_sem] at h21)
      refine cx_skip ?_
      (try simp only [go_sem])
      refine cx_seq ?_
      refine cx_sr ?_
      simp only [go_sem]
      repeat first | (with_reducible refine side_d ?_ ?_; exact byD) | (with_reducible refine side_q ?_ ?_; exact byQ)
      refine cx_block ?_
      refine cx_loop0 (σ := Nat) (fun i => i ≤ s.length ∧ ∀ j, j < i → signB (at8 s j) = true) (fun i => [⟨35, 0, [], .int .i64 (i : Nat)⟩]) [0, 3, 34] (fun i => s.length - i) 0 ⟨Nat.zero_le _, fun j hj => absurd hj (Nat.not_lt_zero j)⟩ (Nat.zero_le _) byC (fun i hI1 => ?_)
      simp only [go_sem]
      refine cx_sr ?_
      simp only [go_sem]
      repeat first | (with_reducible refine side_d ?_ ?_; exact byD) | (with_reducible refine side_q ?_ ?_; exact byQ)
      intro t36 e36
      repeat first | (with_reducible refine side_d ?_ ?_; exact byD) | (with_reducible refine side_q ?_ ?_; exact byQ)
      subst e36
      refine cx_seq ?_
      refine cx_if _ rfl (fun h36 => ?_) (fun h36 => ?_)
      ·
        (try simp only [go_sem] at h36)
        refine cx_skip ?_
        (try simp only [go_sem])
        refine cx_seq (cx_block ?_)
        refine cx_sr ?_
        simp only [go_sem]
        repeat first | (with_reducible refine side_d ?_ ?_; exact byD) | (with_reducible refine side_q ?_ ?_; exact byQ)
        refine cx_sr ?_
        simp only [go_sem]
        repeat first | (with_reducible refine side_d ?_ ?_; exact byD) | (with_reducible refine side_q ?_ ?_; exact byQ)
        intro t41 e41
        repeat first | (with_reducible refine side_d ?_ ?_; exact byD) | (with_reducible refine side_q ?_ ?_; exact byQ)
        refine cw_m (sign_c _) byW byT ?_
        simp only [go_sem]
        repeat first | (with_reducible refine side_d ?_ ?_; exact byD) | (with_reducible refine side_q ?_ ?_; exact byQ)
        intro t43 e43
        repeat first | (with_reducible refine side_d ?_ ?_; exact byD) | (with_reducible refine side_q ?_ ?_; exact byQ)
        subst e43
        refine cx_if _ rfl (fun h43 => ?_) (fun h43 => ?_)
        ·
          (try simp only [go_sem] at h43)
          refine cx_sr ?_
          simp only [go_sem]
          repeat first | (with_reducible refine side_d ?_ ?_; exact byD) | (with_reducible refine side_q ?_ ?_; exact byQ)
          refine cx_ret ?_
          simp only [go_sem]
          refine finw_bool ?_
          have := range_all_false (p := fun i => signB (at8 s i)) (i := i) (n := s.length) (by omega) (by simpa [at8, e41] using h43)
          simp [isName, this]
        ·
          (try simp only [go_sem] at h43)
          refine cx_skip ?_
          (try simp only [go_sem])
          refine cx_region ?_
          simp only [go_sem]
          repeat first | (with_reducible refine side_d ?_ ?_; exact byD) | (with_reducible refine side_q ?_ ?_; exact byQ)
          intro t44 e44
          (try replace e44 := w64 e44 (by omega) (by omega))
          repeat first | (with_reducible refine side_d ?_ ?_; exact byD) | (with_reducible refine side_q ?_ ?_; exact byQ)
          refine rnd_next (i + 1) ⟨by omega, fun j hj => ?_⟩ (by show s.length - (i + 1) < s.length - i; omega) byC
          rcases Nat.lt_or_ge j i with h | h
          · exact hI1.2 j h
          · obtain rfl : j = i := by omega
            simpa [at8, e41] using h43
      ·
        (try simp only [go_sem] at h36)
        refine cx_exit ?_
        simp only [go_sem]
        refine cx_sr ?_
        simp only [go_sem]
        repeat first | (with_reducible refine side_d ?_ ?_; exact byD) | (with_reducible refine side_q ?_ ?_; exact byQ)
        refine cx_ret ?_
        simp only [go_sem]
        refine finw_bool ?_
        have := range_all_true (p := fun i => signB (at8 s i)) (n := s.length) fun j hj => hI1.2 j (by omega)
        have hl : ((s.length : Int) - 1).toNat = s.length - 1 := by omega
        subst e23 e29 e30
        simp only [hl] at h21
        simp [isName, at8, this, h5] at *
        simp_all
end Go.VM.Try
end
section
set_option linter.unusedVariables false
set_option linter.unusedSimpArgs false
open Go Go.VM Go.Proofs Tether
namespace Go.VM.Try
set_option maxRecDepth 100000
theorem open_c (l : List Session) (who : Str) (hl : l.length < 4611686018427387904) : Meets Try.prog 48 [ssV l, .str who] (.int .i64 (openW l who)) [] := by
  refine meets_x (fn := Try.f48) Try.func48 rfl fb48 (by kernel_rfl) (Nat.le_of_ble_eq_true rfl) ?_
  refine cx_sr ?_
  simp only [go_sem]
  repeat first | (with_reducible refine side_d ?_ ?_; exact byD) | (with_reducible refine side_q ?_ ?_; exact byQ)
  refine cx_sr ?_
  simp only [go_sem]
  repeat first | (with_reducible refine side_d ?_ ?_; exact byD) | (with_reducible refine side_q ?_ ?_; exact byQ)
  refine cx_seq ?_
  refine cx_sr ?_
  simp only [go_sem]
  repeat first | (with_reducible refine side_d ?_ ?_; exact byD) | (with_reducible refine side_q ?_ ?_; exact byQ)
  refine cx_block ?_
  refine cx_loop0 (σ := Nat) (fun i => i ≤ l.length) (fun i => [⟨10, 0, [], .int .i64 (i : Nat)⟩, ⟨5, 0, [], .int .i64 (openW (l.take i) who)⟩]) [1, 4, 8, 9] (fun i => l.length - i) 0 (by first | trivial | omega | simp) (Nat.zero_le _) byC (fun i hI1 => ?_)
  simp only [go_sem]
  refine cx_sr ?_
  simp only [go_sem]
  repeat first | (with_reducible refine side_d ?_ ?_; exact byD) | (with_reducible refine side_q ?_ ?_; exact byQ)
  intro t11 e11
  repeat first | (with_reducible refine side_d ?_ ?_; exact byD) | (with_reducible refine side_q ?_ ?_; exact byQ)
  subst e11
  refine cx_seq ?_
  refine cx_if _ rfl (fun h11 => ?_) (fun h11 => ?_)
  ·
    (try simp only [go_sem] at h11)
    refine cx_skip ?_
    (try simp only [go_sem])
    refine cx_seq (cx_block ?_)
    refine cx_sr ?_
    simp only [go_sem]
    repeat first | (with_reducible refine side_d ?_ ?_; exact byD) | (with_reducible refine side_q ?_ ?_; exact byQ)
    refine cx_sr ?_
    simp only [go_sem]
    repeat first | (with_reducible refine side_d ?_ ?_; exact byD) | (with_reducible refine side_q ?_ ?_; exact byQ)
    intro t17 e17
    repeat first | (with_reducible refine side_d ?_ ?_; exact byD) | (with_reducible refine side_q ?_ ?_; exact byQ)
    subst e17
    refine cx_if _ rfl (fun h17 => ?_) (fun h17 => ?_)
    ·
      (try simp only [go_sem] at h17)
      refine cx_region ?_
      simp only [go_sem]
      repeat first | (with_reducible refine side_d ?_ ?_; exact byD) | (with_reducible refine side_q ?_ ?_; exact byQ)
      intro t21 e21
      (try replace e21 := w64 e21 (by omega) (by omega))
      repeat first | (with_reducible refine side_d ?_ ?_; exact byD) | (with_reducible refine side_q ?_ ?_; exact byQ)
      refine cx_region ?_
      simp only [go_sem]
      repeat first | (with_reducible refine side_d ?_ ?_; exact byD) | (with_reducible refine side_q ?_ ?_; exact byQ)
      intro t22 e22
      (try replace e22 := w64 e22 (by omega) (by omega))
      repeat first | (with_reducible refine side_d ?_ ?_; exact byD) | (with_reducible refine side_q ?_ ?_; exact byQ)
      have hx : t21 = openW (l.take (i + 1)) who := by
        rw [openW, foldl_take _ _ _ default (by omega), e21, if_pos h17]; rfl
      refine rnd_next (i + 1) (by omega) (by first | omega | (dsimp only; omega)) byC
    ·
      (try simp only [go_sem] at h17)
      refine cx_skip ?_
      (try simp only [go_sem])
      refine cx_region ?_
      simp only [go_sem]
      repeat first | (with_reducible refine side_d ?_ ?_; exact byD) | (with_reducible refine side_q ?_ ?_; exact byQ)
      intro t22 e22
      (try replace e22 := w64 e22 (by omega) (by omega))
      repeat first | (with_reducible refine side_d ?_ ?_; exact byD) | (with_reducible refine side_q ?_ ?_; exact byQ)
      have hx : openW (l.take i) who = openW (l.take (i + 1)) who := by
        rw [openW, openW, foldl_take _ _ _ default (by omega), if_neg h17]
      refine rnd_next (i + 1) (by omega) (by first | omega | (dsimp only; omega)) byC
  ·
    (try simp only [go_sem] at h11)
    refine cx_exit ?_
    simp only [go_sem]
    refine cx_sr ?_
    simp only [go_sem]
    repeat first | (with_reducible refine side_d ?_ ?_; exact byD) | (with_reducible refine side_q ?_ ?_; exact byQ)
    refine cx_ret ?_
    simp only [go_sem]
    refine finw_int ?_
    rw [List.take_of_length_le (by omega)]
theorem session_c (u : Uploads) (s : Session) (hw : s.who.length < 4611686018427387904) : Meets Try.prog 51 [u.enc, .agg s.enc] (.int .i64 (sessErr u s)) [] := by
  refine meets_x (fn := Try.f51) Try.func51 rfl fb51 (by kernel_rfl) (Nat.le_of_ble_eq_true rfl) ?_
  refine cx_sr ?_
  simp only [go_sem]
  repeat first | (with_reducible refine side_d ?_ ?_; exact byD) | (with_reducible refine side_q ?_ ?_; exact byQ)
  refine cx_seq (cx_block ?_)
  refine cx_sr ?_
  simp only [go_sem]
  repeat first | (with_reducible refine side_d ?_ ?_; exact byD) | (with_reducible refine side_q ?_ ?_; exact byQ)
  intro t10 e10
  (try replace e10 := w64 e10 (by omega) (by omega))
  repeat first | (with_reducible refine side_d ?_ ?_; exact byD) | (with_reducible refine side_q ?_ ?_; exact byQ)
  refine cw_m (within_c _ _ _) byW byT ?_
  simp only [go_sem]
  repeat first | (with_reducible refine side_d ?_ ?_; exact byD) | (with_reducible refine side_q ?_ ?_; exact byQ)
  intro t12 e12
  repeat first | (with_reducible refine side_d ?_ ?_; exact byD) | (with_reducible refine side_q ?_ ?_; exact byQ)
  refine ⟨_, fun hp => cw_m (within_c _ _ _) byW byT ⟨rfl, rfl⟩, ?_⟩
  simp only [go_sem]
  repeat first | (with_reducible refine side_d ?_ ?_; exact byD) | (with_reducible refine side_q ?_ ?_; exact byQ)
  intro t17 e17
  repeat first | (with_reducible refine side_d ?_ ?_; exact byD) | (with_reducible refine side_q ?_ ?_; exact byQ)
  intro t18 e18
  rw [bsel_or] at e18
  repeat first | (with_reducible refine side_d ?_ ?_; exact byD) | (with_reducible refine side_q ?_ ?_; exact byQ)
  refine ⟨_, fun hp => cw_m (within_c _ _ _) byW byT ⟨rfl, rfl⟩, ?_⟩
  simp only [go_sem]
  repeat first | (with_reducible refine side_d ?_ ?_; exact byD) | (with_reducible refine side_q ?_ ?_; exact byQ)
  intro t23 e23
  repeat first | (with_reducible refine side_d ?_ ?_; exact byD) | (with_reducible refine side_q ?_ ?_; exact byQ)
  intro t24 e24
  rw [bsel_or] at e24
  repeat first | (with_reducible refine side_d ?_ ?_; exact byD) | (with_reducible refine side_q ?_ ?_; exact byQ)
  subst e12 e17 e18 e23 e24
  refine cx_if _ rfl (fun h5 => ?_) (fun h5 => ?_)
  ·
    (try simp only [go_sem] at h5)
    refine cx_sr ?_
    simp only [go_sem]
    repeat first | (with_reducible refine side_d ?_ ?_; exact byD) | (with_reducible refine side_q ?_ ?_; exact byQ)
    refine cx_ret ?_
    simp only [go_sem]
    refine finw_int ?_
    subst e10
    rcases h5 with (h5 | h5) | h5 <;> simp [sessErr, h5]
  ·
    (try simp only [go_sem] at h5)
    refine cx_sr ?_
    simp only [go_sem]
    repeat first | (with_reducible refine side_d ?_ ?_; exact byD) | (with_reducible refine side_q ?_ ?_; exact byQ)
    refine cw_m (IsName_c s.who hw) byW byT ?_
    simp only [go_sem]
    repeat first | (with_reducible refine side_d ?_ ?_; exact byD) | (with_reducible refine side_q ?_ ?_; exact byQ)
    intro t29 e29
    repeat first | (with_reducible refine side_d ?_ ?_; exact byD) | (with_reducible refine side_q ?_ ?_; exact byQ)
    subst e29
    refine cx_if _ rfl (fun h25 => ?_) (fun h25 => ?_)
    ·
      (try simp only [go_sem] at h25)
      refine cx_sr ?_
      simp only [go_sem]
      repeat first | (with_reducible refine side_d ?_ ?_; exact byD) | (with_reducible refine side_q ?_ ?_; exact byQ)
      refine cx_ret ?_
      simp only [go_sem]
      refine finw_int ?_
      subst e10
      simp [sessErr, h5, h25]
    ·
      (try simp only [go_sem] at h25)
      refine cx_sr ?_
      simp only [go_sem]
      repeat first | (with_reducible refine side_d ?_ ?_; exact byD) | (with_reducible refine side_q ?_ ?_; exact byQ)
      intro t36 e36
      repeat first | (with_reducible refine side_d ?_ ?_; exact byD) | (with_reducible refine side_q ?_ ?_; exact byQ)
      subst e36
      refine cx_if _ rfl (fun h30 => ?_) (fun h30 => ?_)
      ·
        (try simp only [go_sem] at h30)
        refine cx_sr ?_
        simp only [go_sem]
        repeat first | (with_reducible refine side_d ?_ ?_; exact byD) | (with_reducible refine side_q ?_ ?_; exact byQ)
        refine cx_ret ?_
        simp only [go_sem]
        refine finw_int ?_
        subst e10
        simp [sessErr, h5, h25, h30]
      ·
        (try simp only [go_sem] at h30)
        refine cx_skip ?_
        (try simp only [go_sem])
        refine cx_sr ?_
        simp only [go_sem]
        repeat first | (with_reducible refine side_d ?_ ?_; exact byD) | (with_reducible refine side_q ?_ ?_; exact byQ)
        refine cx_ret ?_
        simp only [go_sem]
        refine finw_int ?_
        subst e10
        simp [sessErr, h5, h25, h30]
theorem wrap_add {a b : Int} (h1 : -9223372036854775808 ≤ a + b) (h2 : a + b ≤ 9223372036854775807) : IntKind.i64.wrap (a + b) = a + b := wrap64 h1 h2
theorem Check_c (u : Uploads) (hl : u.ss.length < 4611686018427387904) (hw : ∀ s ∈ u.ss, s.who.length < 4611686018427387904) : Meets Try.prog 23 [u.enc] (.int .i64 (checkU u)) [] := by
  refine meets_x (fn := Try.f23) Try.func23 rfl fb23 (by kernel_rfl) (Nat.le_of_ble_eq_true rfl) ?_
  refine cx_sr ?_
  simp only [go_sem]
  repeat first | (with_reducible refine side_d ?_ ?_; exact byD) | (with_reducible refine side_q ?_ ?_; exact byQ)
  refine cx_seq (cx_block ?_)
  refine cx_sr ?_
  simp only [go_sem]
  repeat first | (with_reducible refine side_d ?_ ?_; exact byD) | (with_reducible refine side_q ?_ ?_; exact byQ)
  refine cw_m (within_c _ _ _) byW byT ?_
  simp only [go_sem]
  repeat first | (with_reducible refine side_d ?_ ?_; exact byD) | (with_reducible refine side_q ?_ ?_; exact byQ)
  intro t13 e13
  repeat first | (with_reducible refine side_d ?_ ?_; exact byD) | (with_reducible refine side_q ?_ ?_; exact byQ)
  refine ⟨_, fun hp => cw_m (within_c _ _ _) byW byT ⟨rfl, rfl⟩, ?_⟩
  simp only [go_sem]
  repeat first | (with_reducible refine side_d ?_ ?_; exact byD) | (with_reducible refine side_q ?_ ?_; exact byQ)
  intro t18 e18
  repeat first | (with_reducible refine side_d ?_ ?_; exact byD) | (with_reducible refine side_q ?_ ?_; exact byQ)
  intro t19 e19
  rw [bsel_or] at e19
  repeat first | (with_reducible refine side_d ?_ ?_; exact byD) | (with_reducible refine side_q ?_ ?_; exact byQ)
  refine ⟨_, fun hp => cw_m (within_c _ _ _) byW byT ⟨rfl, rfl⟩, ?_⟩
  simp only [go_sem]
  repeat first | (with_reducible refine side_d ?_ ?_; exact byD) | (with_reducible refine side_q ?_ ?_; exact byQ)
  intro t24 e24
  repeat first | (with_reducible refine side_d ?_ ?_; exact byD) | (with_reducible refine side_q ?_ ?_; exact byQ)
  intro t25 e25
  rw [bsel_or] at e25
  repeat first | (with_reducible refine side_d ?_ ?_; exact byD) | (with_reducible refine side_q ?_ ?_; exact byQ)
  subst e13 e18 e19 e24 e25
  refine cx_if _ rfl (fun h9 => ?_) (fun h9 => ?_)
  ·
    (try simp only [go_sem] at h9)
    refine cx_sr ?_
    simp only [go_sem]
    repeat first | (with_reducible refine side_d ?_ ?_; exact byD) | (with_reducible refine side_q ?_ ?_; exact byQ)
    refine cx_ret ?_
    simp only [go_sem]
    refine finw_int ?_
    rcases h9 with (h | h) | h <;> simp [checkU, h]
  ·
    (try simp only [go_sem] at h9)
    refine cx_sr ?_
    simp only [go_sem]
    repeat first | (with_reducible refine side_d ?_ ?_; exact byD) | (with_reducible refine side_q ?_ ?_; exact byQ)
    intro t30 e30
    repeat first | (with_reducible refine side_d ?_ ?_; exact byD) | (with_reducible refine side_q ?_ ?_; exact byQ)
    subst e30
    refine cx_if _ rfl (fun h26 => ?_) (fun h26 => ?_)
    ·
      (try simp only [go_sem] at h26)
      refine cx_sr ?_
      simp only [go_sem]
      repeat first | (with_reducible refine side_d ?_ ?_; exact byD) | (with_reducible refine side_q ?_ ?_; exact byQ)
      refine cx_ret ?_
      simp only [go_sem]
      refine finw_int ?_
      simp [checkU, h9, h26]
    ·
      (try simp only [go_sem] at h26)
      refine cx_skip ?_
      (try simp only [go_sem])
      refine cx_seq ?_
      refine cx_sr ?_
      simp only [go_sem]
      repeat first | (with_reducible refine side_d ?_ ?_; exact byD) | (with_reducible refine side_q ?_ ?_; exact byQ)
      refine cx_block ?_
      refine cx_loop0 (σ := Nat) (fun i => i ≤ u.ss.length ∧ ∀ j, j < i → sessErr u (u.ss.getD j default) = 0) (fun i => [⟨34, 0, [], .int .i64 (i : Nat)⟩]) [1, 32, 33] (fun i => u.ss.length - i) 0 ⟨Nat.zero_le _, fun j hj => absurd hj (Nat.not_lt_zero j)⟩ (Nat.zero_le _) byC (fun i hI1 => ?_)
      simp only [go_sem]
      refine cx_sr ?_
      simp only [go_sem]
      repeat first | (with_reducible refine side_d ?_ ?_; exact byD) | (with_reducible refine side_q ?_ ?_; exact byQ)
      intro t35 e35
      repeat first | (with_reducible refine side_d ?_ ?_; exact byD) | (with_reducible refine side_q ?_ ?_; exact byQ)
      subst e35
      refine cx_seq ?_
      refine cx_if _ rfl (fun h35 => ?_) (fun h35 => ?_)
      ·
        (try simp only [go_sem] at h35)
        refine cx_skip ?_
        (try simp only [go_sem])
        refine cx_seq (cx_block ?_)
        refine cx_sr ?_
        simp only [go_sem]
        repeat first | (with_reducible refine side_d ?_ ?_; exact byD) | (with_reducible refine side_q ?_ ?_; exact byQ)
        refine cx_sr ?_
        simp only [go_sem]
        repeat first | (with_reducible refine side_d ?_ ?_; exact byD) | (with_reducible refine side_q ?_ ?_; exact byQ)
        refine cw_m (session_c u (u.ss.getD i default) (hw _ (getD_mem (by omega)))) byW byT ?_
        simp only [go_sem]
        repeat first | (with_reducible refine side_d ?_ ?_; exact byD) | (with_reducible refine side_q ?_ ?_; exact byQ)
        refine cx_sr ?_
        simp only [go_sem]
        repeat first | (with_reducible refine side_d ?_ ?_; exact byD) | (with_reducible refine side_q ?_ ?_; exact byQ)
        intro t42 e42
        repeat first | (with_reducible refine side_d ?_ ?_; exact byD) | (with_reducible refine side_q ?_ ?_; exact byQ)
        subst e42
        refine cx_if _ rfl (fun h42 => ?_) (fun h42 => ?_)
        ·
          (try simp only [go_sem] at h42)
          refine cx_sr ?_
          simp only [go_sem]
          repeat first | (with_reducible refine side_d ?_ ?_; exact byD) | (with_reducible refine side_q ?_ ?_; exact byQ)
          refine cx_ret ?_
          simp only [go_sem]
          refine finw_int ?_
          have hf := firstErr_at (i := i) (by omega) hI1.2 h42
          rw [checkU, if_neg (by simp [h9]), if_neg h26, hf, if_pos h42]
        ·
          (try simp only [go_sem] at h42)
          refine cx_skip ?_
          (try simp only [go_sem])
          refine cx_region ?_
          simp only [go_sem]
          repeat first | (with_reducible refine side_d ?_ ?_; exact byD) | (with_reducible refine side_q ?_ ?_; exact byQ)
          intro t44 e44
          (try replace e44 := w64 e44 (by omega) (by omega))
          repeat first | (with_reducible refine side_d ?_ ?_; exact byD) | (with_reducible refine side_q ?_ ?_; exact byQ)
          refine rnd_next (i + 1) ⟨by omega, all_next hI1.2 h42⟩ (by first | omega | (dsimp only; omega)) byC
      ·
        (try simp only [go_sem] at h35)
        have hf := firstErr_none (f := sessErr u) (l := u.ss) (d := default) fun j hj => hI1.2 j (by omega)
        refine cx_exit ?_
        simp only [go_sem]
        refine cx_seq ?_
        refine cx_sr ?_
        simp only [go_sem]
        repeat first | (with_reducible refine side_d ?_ ?_; exact byD) | (with_reducible refine side_q ?_ ?_; exact byQ)
        refine cx_block ?_
        refine cx_loop0 (σ := Nat) (fun i => 1 ≤ i ∧ (i = 1 ∨ i ≤ u.ss.length) ∧ ∀ j, 1 ≤ j → j < i → risesAt u.ss j = true) (fun i => [⟨6, 0, [], .int .i64 (i : Nat)⟩]) [1] (fun i => u.ss.length - i) 1 ⟨Nat.le_refl _, .inl rfl, fun j hj hj' => by omega⟩ (Nat.zero_le _) byC (fun i hI2 => ?_)
        simp only [go_sem]
        refine cx_seq ?_
        refine cx_sr ?_
        simp only [go_sem]
        repeat first | (with_reducible refine side_d ?_ ?_; exact byD) | (with_reducible refine side_q ?_ ?_; exact byQ)
        intro t49 e49
        repeat first | (with_reducible refine side_d ?_ ?_; exact byD) | (with_reducible refine side_q ?_ ?_; exact byQ)
        subst e49
        refine cx_if _ rfl (fun h49 => ?_) (fun h49 => ?_)
        ·
          (try simp only [go_sem] at h49)
          refine cx_skip ?_
          (try simp only [go_sem])
          refine cx_seq (cx_block ?_)
          refine cx_seq (cx_draw mixed [] (.first 0 (.first 1 (.first 2 (.first 3 (.first 4 (.first 5 (.first 6 (.first 7 (.first 8 (.first 9 (.first 10 (.first 11 (.first 12 (.first 13 (.done))))))))))))))) (by kernel_rfl) ?_)
          simp only [go_sem]
          repeat first | (with_reducible refine side_d ?_ ?_; exact byD) | (with_reducible refine side_q ?_ ?_; exact byQ)
          intro t61 e61
          (try replace e61 := w64 e61 (by omega) (by omega))
          repeat first | (with_reducible refine side_d ?_ ?_; exact byD) | (with_reducible refine side_q ?_ ?_; exact byQ)
          intro t65 e65
          repeat first | (with_reducible refine side_d ?_ ?_; exact byD) | (with_reducible refine side_q ?_ ?_; exact byQ)
          subst e65
          refine cx_if _ rfl (fun h65 => ?_) (fun h65 => ?_)
          ·
            (try simp only [go_sem] at h65)
            refine cx_sr ?_
            simp only [go_sem]
            repeat first | (with_reducible refine side_d ?_ ?_; exact byD) | (with_reducible refine side_q ?_ ?_; exact byQ)
            refine cx_ret ?_
            simp only [go_sem]
            refine finw_int ?_
            have hk : ((i : Int) - 1).toNat = i - 1 := by omega
            subst e61
            rw [hk] at h65
            have hr : ((List.range u.ss.length).all fun i => i = 0 || risesAt u.ss i) = false := range_all_false (i := i) (by omega) (by
              have : ¬ i = 0 := by omega
              simp only [this, decide_false, Bool.false_or, risesAt, decide_eq_false_iff_not]; omega)
            simp [checkU, h9, h26, hf, hr]
          ·
            (try simp only [go_sem] at h65)
            refine cx_skip ?_
            (try simp only [go_sem])
            refine cx_region ?_
            simp only [go_sem]
            repeat first | (with_reducible refine side_d ?_ ?_; exact byD) | (with_reducible refine side_q ?_ ?_; exact byQ)
            intro t51 e51
            (try replace e51 := w64 e51 (by omega) (by omega))
            repeat first | (with_reducible refine side_d ?_ ?_; exact byD) | (with_reducible refine side_q ?_ ?_; exact byQ)
            have hk : ((i : Int) - 1).toNat = i - 1 := by omega
            subst e61
            rw [hk] at h65
            refine rnd_next (i + 1) ⟨by omega, by omega, fun j h1 hj => ?_⟩ (by first | omega | (dsimp only; omega)) byC
            exact all_next (p := fun j => 1 ≤ j → risesAt u.ss j = true) (fun j hj h1 => hI2.2.2 j h1 hj) (fun _ => by simp only [risesAt, decide_eq_true_eq]; omega) j hj h1
        ·
          (try simp only [go_sem] at h49)
          have hr : ((List.range u.ss.length).all fun i => i = 0 || risesAt u.ss i) = true := range_all_true fun j hj => by
            by_cases h0 : j = 0
            · simp [h0]
            · simp [hI2.2.2 j (by omega) (by omega)]
          refine cx_exit ?_
          simp only [go_sem]
          refine cx_seq ?_
          refine cx_sr ?_
          simp only [go_sem]
          repeat first | (with_reducible refine side_d ?_ ?_; exact byD) | (with_reducible refine side_q ?_ ?_; exact byQ)
          refine cx_block ?_
          refine cx_loop0 (σ := Nat) (fun i => i ≤ u.ss.length ∧ ∀ j, j < i → openW u.ss (u.ss.getD j default).who ≤ u.room) (fun i => [⟨69, 0, [], .int .i64 (i : Nat)⟩]) [1, 67, 68] (fun i => u.ss.length - i) 0 ⟨Nat.zero_le _, fun j hj => absurd hj (Nat.not_lt_zero j)⟩ (Nat.zero_le _) byC (fun i hI3 => ?_)
          simp only [go_sem]
          refine cx_sr ?_
          simp only [go_sem]
          repeat first | (with_reducible refine side_d ?_ ?_; exact byD) | (with_reducible refine side_q ?_ ?_; exact byQ)
          intro t70 e70
          repeat first | (with_reducible refine side_d ?_ ?_; exact byD) | (with_reducible refine side_q ?_ ?_; exact byQ)
          subst e70
          refine cx_seq ?_
          refine cx_if _ rfl (fun h70 => ?_) (fun h70 => ?_)
          ·
            (try simp only [go_sem] at h70)
            refine cx_skip ?_
            (try simp only [go_sem])
            refine cx_seq (cx_block ?_)
            refine cx_sr ?_
            simp only [go_sem]
            repeat first | (with_reducible refine side_d ?_ ?_; exact byD) | (with_reducible refine side_q ?_ ?_; exact byQ)
            refine cx_seq (cx_draw mixed [] (.first 0 (.first 1 (.first 2 (.first 3 (.first 5 (.first 6 (.one 4 (.first 7 (.done))))))))) (by kernel_rfl) ?_)
            simp only [go_sem]
            repeat first | (with_reducible refine side_d ?_ ?_; exact byD) | (with_reducible refine side_q ?_ ?_; exact byQ)
            refine cwE_m (open_c u.ss _ hl) byW byT ?_
            simp only [go_sem]
            repeat first | (with_reducible refine side_d ?_ ?_; exact byD) | (with_reducible refine side_q ?_ ?_; exact byQ)
            intro t80 e80
            repeat first | (with_reducible refine side_d ?_ ?_; exact byD) | (with_reducible refine side_q ?_ ?_; exact byQ)
            subst e80
            refine cx_if _ rfl (fun h80 => ?_) (fun h80 => ?_)
            ·
              (try simp only [go_sem] at h80)
              refine cx_sr ?_
              simp only [go_sem]
              repeat first | (with_reducible refine side_d ?_ ?_; exact byD) | (with_reducible refine side_q ?_ ?_; exact byQ)
              refine cx_ret ?_
              simp only [go_sem]
              refine finw_int ?_
              have ho : (u.ss.all fun s => decide (openW u.ss s.who ≤ u.room)) = false := all_at (d := default) (i := i) (by omega) (by simp only [decide_eq_false_iff_not]; omega)
              rw [checkU, if_neg (by simp [h9]), if_neg h26, hf, if_neg (by simp), hr, if_neg (by simp), ho, if_pos rfl]
            ·
              (try simp only [go_sem] at h80)
              refine cx_skip ?_
              (try simp only [go_sem])
              refine cx_region ?_
              simp only [go_sem]
              repeat first | (with_reducible refine side_d ?_ ?_; exact byD) | (with_reducible refine side_q ?_ ?_; exact byQ)
              intro t81 e81
              (try replace e81 := w64 e81 (by omega) (by omega))
              repeat first | (with_reducible refine side_d ?_ ?_; exact byD) | (with_reducible refine side_q ?_ ?_; exact byQ)
              refine rnd_next (i + 1) ⟨by omega, all_next hI3.2 (by omega)⟩ (by first | omega | (dsimp only; omega)) byC
          ·
            (try simp only [go_sem] at h70)
            refine cx_exit ?_
            simp only [go_sem]
            refine cx_sr ?_
            simp only [go_sem]
            repeat first | (with_reducible refine side_d ?_ ?_; exact byD) | (with_reducible refine side_q ?_ ?_; exact byQ)
            refine cx_ret ?_
            simp only [go_sem]
            refine finw_int ?_
            have ho : (u.ss.all fun s => decide (openW u.ss s.who ≤ u.room)) = true := all_of (d := default) fun j hj => by simpa using hI3.2 j (by omega)
            rw [checkU, if_neg (by simp [h9]), if_neg h26, hf, if_neg (by simp), hr, if_neg (by simp), ho, if_neg (by simp)]
end Go.VM.Try
end
section
set_option linter.unusedVariables false
set_option linter.unusedSimpArgs false
open Go Go.VM
namespace Tether
/-- where the first one is; -1: nowhere -/
def idxF {α : Type} (p : α → Bool) (l : List α) : Int := match l.findIdx? p with | some i => (i : Int) | none => -1
theorem idxF_at {α : Type} {p : α → Bool} {l : List α} {d : α} {i : Nat} (hi : i < l.length) (hb : ∀ j, j < i → p (l.getD j d) = false) (h : p (l.getD i d) = true) : idxF p l = i := by
  have : l.findIdx? p = some i := by
    rw [List.findIdx?_eq_some_iff_getElem]
    refine ⟨hi, by simpa [List.getD, hi] using h, fun j hj => ?_⟩
    have hj' : j < l.length := by omega
    simpa [List.getD, hj'] using hb j hj
  rw [idxF, this]
theorem idxF_none {α : Type} {p : α → Bool} {l : List α} {d : α} (hb : ∀ j, j < l.length → p (l.getD j d) = false) : idxF p l = -1 := by
  have : l.findIdx? p = none := by
    rw [List.findIdx?_eq_none_iff]
    intro x hx
    obtain ⟨i, hi, rfl⟩ := List.getElem_of_mem hx
    simpa [List.getD, hi] using hb i hi
  rw [idxF, this]
theorem idxF_spec {α : Type} {p : α → Bool} {l : List α} (d : α) (h : ¬ idxF p l = -1) : ∃ i : Nat, idxF p l = (i : Int) ∧ i < l.length ∧ p (l.getD i d) = true ∧ (l.take (i + 1)).filter (fun x => !p x) = l.take i := by
  unfold idxF at h ⊢
  cases hf : l.findIdx? p with
  | none => rw [hf] at h; exact absurd rfl h
  | some i =>
    rw [List.findIdx?_eq_some_iff_getElem] at hf
    obtain ⟨hi, h1, h2⟩ := hf
    refine ⟨i, rfl, hi, by simpa [List.getD, hi] using h1, ?_⟩
    rw [List.take_succ_eq_append_getElem hi, List.filter_append]
    simp only [List.filter_cons, h1, Bool.not_true, List.filter_nil]
    simp only [Bool.false_eq_true, if_false, List.append_nil]
    rw [List.filter_eq_self]
    intro x hx
    obtain ⟨j, hj, rfl⟩ := List.getElem_of_mem hx
    have := h2 j (by simp at hj; omega)
    simpa using this
theorem idxF_all {α : Type} {p : α → Bool} {l : List α} (h : idxF p l = -1) : l.filter (fun x => !p x) = l := by
  rw [List.filter_eq_self]
  unfold idxF at h
  cases hf : l.findIdx? p with
  | some i => rw [hf] at h; simp at h
  | none =>
    rw [List.findIdx?_eq_none_iff] at hf
    intro x hx
    simp [hf x hx]
/-- a round of DeleteFunc: what stays is put ahead -/
theorem del_keep {α : Type} {p : α → Bool} {l L : List α} {d : α} {i j : Nat} (h1 : i < j) (h2 : j < l.length) (h3 : L.length = l.length) (h4 : L.take i = (l.take j).filter (fun x => !p x)) (h5 : L.drop j = l.drop j) (hp : p (L.getD j d) = false) :
    (L.set i (L.getD j d)).take (i + 1) = (l.take (j + 1)).filter (fun x => !p x) ∧ (L.set i (L.getD j d)).drop (j + 1) = l.drop (j + 1) := by
  have e : L.getD j d = l.getD j d := by
    have := congrArg (fun l => l.getD 0 d) h5
    simpa [List.getD] using this
  constructor
  · rw [List.take_succ_eq_append_getElem (by simp; omega), List.take_set, List.set_eq_of_length_le (by simp; omega), h4]
    rw [List.take_succ_eq_append_getElem h2, List.filter_append]
    have : l[j] = l.getD j d := by simp [List.getD, h2]
    rw [this, ← e]
    rw [List.getElem_set_self]
    generalize L.getD j d = y at hp ⊢
    simp [hp]
  · rw [List.drop_set_of_lt (by omega)]
    have := congrArg (List.drop 1) h5
    simpa [List.drop_drop, Nat.add_comm] using this
theorem del_drop {α : Type} {p : α → Bool} {l L : List α} {d : α} {i j : Nat} (h2 : j < l.length) (h4 : L.take i = (l.take j).filter (fun x => !p x)) (h5 : L.drop j = l.drop j) (hp : p (L.getD j d) = true) :
    L.take i = (l.take (j + 1)).filter (fun x => !p x) ∧ L.drop (j + 1) = l.drop (j + 1) := by
  have e : L.getD j d = l.getD j d := by
    have := congrArg (fun l => l.getD 0 d) h5
    simpa [List.getD] using this
  constructor
  · rw [List.take_succ_eq_append_getElem h2, List.filter_append, h4]
    have : l[j] = l.getD j d := by simp [List.getD, h2]
    rw [this, ← e]
    generalize L.getD j d = y at hp ⊢
    simp [hp]
  · have := congrArg (List.drop 1) h5
    simpa [List.drop_drop, Nat.add_comm] using this
theorem idxF_any {α : Type} {p : α → Bool} {l : List α} : decide (0 ≤ idxF p l) = l.any p := by
  unfold idxF
  cases hf : l.findIdx? p with
  | some i =>
    rw [List.findIdx?_eq_some_iff_getElem] at hf
    obtain ⟨hi, h1, _⟩ := hf
    have : l.any p = true := List.any_eq_true.2 ⟨l[i], List.getElem_mem hi, h1⟩
    rw [this]; simp
  | none =>
    rw [List.findIdx?_eq_none_iff] at hf
    have : l.any p = false := List.any_eq_false.2 fun x hx => by simp [hf x hx]
    rw [this]; simp
end Tether
end
