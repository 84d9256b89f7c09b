import Derived.Test.YtofhmhenjeopfaaDoorV5
import Derived.Test.YtofhmhenjeopfaaDoorChecked
import Derived.Lib.Strings
import Derived.Lib.Slices
import Derived.Lib.Walk
import Derived.Lib.Bytealg
import Derived.RangeFuncBound
import Derived.RangeFuncCalls
import Derived.RangeFuncLeaves
import Derived.Shelf.Abstract
import Derived.Shelf.RegionOpen
import Derived.WalkKit
import Derived.OwnWalkIn
import Derived.TacticsInMore
import Derived.LoopNIn
import Derived.LoopIn
section
set_option linter.unusedVariables false
open Go Go.VM Go.Proofs
namespace Go.VM.Tryd
theorem tn1 : tint Tryd.prog 1 = false := by kernel_rfl
theorem ty1 : tbyte Tryd.prog 1 = false := by kernel_rfl
theorem tk1 : tkind Tryd.prog 1 = .other := by kernel_rfl
theorem te1 : telem Tryd.prog 1 = none := by kernel_rfl
theorem ts1 : tsize Tryd.prog 1 = 1 := by kernel_rfl
theorem tb1 : tbytes Tryd.prog 1 = 8 := by kernel_rfl
theorem tz1 : tzero Tryd.prog 1 = (some [.bad]) := by kernel_rfl
theorem ti1 : ti Tryd.prog 1 = ⟨1, 8, (some false), none, .other, (some [.bad])⟩ := by kernel_rfl
theorem tn2 : tint Tryd.prog 2 = true := by kernel_rfl
theorem ty2 : tbyte Tryd.prog 2 = false := by kernel_rfl
theorem tk2 : tkind Tryd.prog 2 = (.int .i64) := by kernel_rfl
theorem te2 : telem Tryd.prog 2 = none := by kernel_rfl
theorem ts2 : tsize Tryd.prog 2 = 1 := by kernel_rfl
theorem tb2 : tbytes Tryd.prog 2 = 8 := by kernel_rfl
theorem tz2 : tzero Tryd.prog 2 = (some [.int .i64 (0)]) := by kernel_rfl
theorem ti2 : ti Tryd.prog 2 = ⟨1, 8, (some false), none, (.int .i64), (some [.int .i64 (0)])⟩ := by kernel_rfl
theorem tn3 : tint Tryd.prog 3 = true := by kernel_rfl
theorem ty3 : tbyte Tryd.prog 3 = false := by kernel_rfl
theorem tk3 : tkind Tryd.prog 3 = (.int .i64) := by kernel_rfl
theorem te3 : telem Tryd.prog 3 = none := by kernel_rfl
theorem ts3 : tsize Tryd.prog 3 = 1 := by kernel_rfl
theorem tb3 : tbytes Tryd.prog 3 = 8 := by kernel_rfl
theorem tz3 : tzero Tryd.prog 3 = (some [.int .i64 (0)]) := by kernel_rfl
theorem ti3 : ti Tryd.prog 3 = ⟨1, 8, (some false), none, (.int .i64), (some [.int .i64 (0)])⟩ := by kernel_rfl
theorem tn4 : tint Tryd.prog 4 = false := by kernel_rfl
theorem ty4 : tbyte Tryd.prog 4 = false := by kernel_rfl
theorem tk4 : tkind Tryd.prog 4 = .bool := by kernel_rfl
theorem te4 : telem Tryd.prog 4 = none := by kernel_rfl
theorem ts4 : tsize Tryd.prog 4 = 1 := by kernel_rfl
theorem tb4 : tbytes Tryd.prog 4 = 1 := by kernel_rfl
theorem tz4 : tzero Tryd.prog 4 = (some [.bool false]) := by kernel_rfl
theorem ti4 : ti Tryd.prog 4 = ⟨1, 1, (some false), none, .bool, (some [.bool false])⟩ := by kernel_rfl
theorem tn5 : tint Tryd.prog 5 = true := by kernel_rfl
theorem ty5 : tbyte Tryd.prog 5 = false := by kernel_rfl
theorem tk5 : tkind Tryd.prog 5 = (.int .u8) := by kernel_rfl
theorem te5 : telem Tryd.prog 5 = none := by kernel_rfl
theorem ts5 : tsize Tryd.prog 5 = 1 := by kernel_rfl
theorem tb5 : tbytes Tryd.prog 5 = 1 := by kernel_rfl
theorem tz5 : tzero Tryd.prog 5 = (some [.int .u8 (0)]) := by kernel_rfl
theorem ti5 : ti Tryd.prog 5 = ⟨1, 1, (some false), none, (.int .u8), (some [.int .u8 (0)])⟩ := by kernel_rfl
theorem tn6 : tint Tryd.prog 6 = true := by kernel_rfl
theorem ty6 : tbyte Tryd.prog 6 = false := by kernel_rfl
theorem tk6 : tkind Tryd.prog 6 = (.int .u8) := by kernel_rfl
theorem te6 : telem Tryd.prog 6 = none := by kernel_rfl
theorem ts6 : tsize Tryd.prog 6 = 1 := by kernel_rfl
theorem tb6 : tbytes Tryd.prog 6 = 1 := by kernel_rfl
theorem tz6 : tzero Tryd.prog 6 = (some [.int .u8 (0)]) := by kernel_rfl
theorem ti6 : ti Tryd.prog 6 = ⟨1, 1, (some false), none, (.int .u8), (some [.int .u8 (0)])⟩ := by kernel_rfl
theorem pl7 : tplaces Tryd.prog 7 = (some [(0, 1), (1, 1), (2, 1), (3, 1)]) := by kernel_rfl
theorem tf7_0 : tfield Tryd.prog 7 0 = (some (0, 2)) := by kernel_rfl
theorem tf7_1 : tfield Tryd.prog 7 1 = (some (1, 3)) := by kernel_rfl
theorem tf7_2 : tfield Tryd.prog 7 2 = (some (2, 4)) := by kernel_rfl
theorem tf7_3 : tfield Tryd.prog 7 3 = (some (3, 6)) := by kernel_rfl
theorem tn7 : tint Tryd.prog 7 = false := by kernel_rfl
theorem ty7 : tbyte Tryd.prog 7 = false := by kernel_rfl
theorem tk7 : tkind Tryd.prog 7 = (.flat [1, 1, 0, 1]) := by kernel_rfl
theorem te7 : telem Tryd.prog 7 = none := by kernel_rfl
theorem ts7 : tsize Tryd.prog 7 = 4 := by kernel_rfl
theorem tb7 : tbytes Tryd.prog 7 = 24 := by kernel_rfl
theorem tz7 : tzero Tryd.prog 7 = (some [.int .i64 (0), .int .i64 (0), .bool false, .int .u8 (0)]) := by kernel_rfl
theorem ti7 : ti Tryd.prog 7 = ⟨4, 24, (some true), none, (.flat [1, 1, 0, 1]), (some [.int .i64 (0), .int .i64 (0), .bool false, .int .u8 (0)])⟩ := by kernel_rfl
theorem pl8 : tplaces Tryd.prog 8 = (some [(0, 1), (1, 1), (2, 1), (3, 1)]) := by kernel_rfl
theorem tf8_0 : tfield Tryd.prog 8 0 = (some (0, 2)) := by kernel_rfl
theorem tf8_1 : tfield Tryd.prog 8 1 = (some (1, 3)) := by kernel_rfl
theorem tf8_2 : tfield Tryd.prog 8 2 = (some (2, 4)) := by kernel_rfl
theorem tf8_3 : tfield Tryd.prog 8 3 = (some (3, 6)) := by kernel_rfl
theorem tn8 : tint Tryd.prog 8 = false := by kernel_rfl
theorem ty8 : tbyte Tryd.prog 8 = false := by kernel_rfl
theorem tk8 : tkind Tryd.prog 8 = (.flat [1, 1, 0, 1]) := by kernel_rfl
theorem te8 : telem Tryd.prog 8 = none := by kernel_rfl
theorem ts8 : tsize Tryd.prog 8 = 4 := by kernel_rfl
theorem tb8 : tbytes Tryd.prog 8 = 24 := by kernel_rfl
theorem tz8 : tzero Tryd.prog 8 = (some [.int .i64 (0), .int .i64 (0), .bool false, .int .u8 (0)]) := by kernel_rfl
theorem ti8 : ti Tryd.prog 8 = ⟨4, 24, (some true), none, (.flat [1, 1, 0, 1]), (some [.int .i64 (0), .int .i64 (0), .bool false, .int .u8 (0)])⟩ := by kernel_rfl
theorem tn9 : tint Tryd.prog 9 = false := by kernel_rfl
theorem ty9 : tbyte Tryd.prog 9 = false := by kernel_rfl
theorem tk9 : tkind Tryd.prog 9 = .str := by kernel_rfl
theorem te9 : telem Tryd.prog 9 = none := by kernel_rfl
theorem ts9 : tsize Tryd.prog 9 = 1 := by kernel_rfl
theorem tb9 : tbytes Tryd.prog 9 = 16 := by kernel_rfl
theorem tz9 : tzero Tryd.prog 9 = (some [.str []]) := by kernel_rfl
theorem ti9 : ti Tryd.prog 9 = ⟨1, 16, (some false), none, .str, (some [.str []])⟩ := by kernel_rfl
theorem tn10 : tint Tryd.prog 10 = false := by kernel_rfl
theorem ty10 : tbyte Tryd.prog 10 = false := by kernel_rfl
theorem tk10 : tkind Tryd.prog 10 = .str := by kernel_rfl
theorem te10 : telem Tryd.prog 10 = none := by kernel_rfl
theorem ts10 : tsize Tryd.prog 10 = 1 := by kernel_rfl
theorem tb10 : tbytes Tryd.prog 10 = 16 := by kernel_rfl
theorem tz10 : tzero Tryd.prog 10 = (some [.str []]) := by kernel_rfl
theorem ti10 : ti Tryd.prog 10 = ⟨1, 16, (some false), none, .str, (some [.str []])⟩ := by kernel_rfl
theorem tn11 : tint Tryd.prog 11 = false := by kernel_rfl
theorem ty11 : tbyte Tryd.prog 11 = false := by kernel_rfl
theorem tk11 : tkind Tryd.prog 11 = .str := by kernel_rfl
theorem te11 : telem Tryd.prog 11 = none := by kernel_rfl
theorem ts11 : tsize Tryd.prog 11 = 1 := by kernel_rfl
theorem tb11 : tbytes Tryd.prog 11 = 16 := by kernel_rfl
theorem tz11 : tzero Tryd.prog 11 = (some [.str []]) := by kernel_rfl
theorem ti11 : ti Tryd.prog 11 = ⟨1, 16, (some false), none, .str, (some [.str []])⟩ := by kernel_rfl
theorem tn12 : tint Tryd.prog 12 = true := by kernel_rfl
theorem ty12 : tbyte Tryd.prog 12 = false := by kernel_rfl
theorem tk12 : tkind Tryd.prog 12 = (.int .u64) := by kernel_rfl
theorem te12 : telem Tryd.prog 12 = none := by kernel_rfl
theorem ts12 : tsize Tryd.prog 12 = 1 := by kernel_rfl
theorem tb12 : tbytes Tryd.prog 12 = 8 := by kernel_rfl
theorem tz12 : tzero Tryd.prog 12 = (some [.int .u64 (0)]) := by kernel_rfl
theorem ti12 : ti Tryd.prog 12 = ⟨1, 8, (some false), none, (.int .u64), (some [.int .u64 (0)])⟩ := by kernel_rfl
theorem pl13 : tplaces Tryd.prog 13 = (some [(0, 1), (1, 1)]) := by kernel_rfl
theorem tf13_0 : tfield Tryd.prog 13 0 = (some (0, 9)) := by kernel_rfl
theorem tf13_1 : tfield Tryd.prog 13 1 = (some (1, 12)) := by kernel_rfl
theorem tn13 : tint Tryd.prog 13 = false := by kernel_rfl
theorem ty13 : tbyte Tryd.prog 13 = false := by kernel_rfl
theorem tk13 : tkind Tryd.prog 13 = .other := by kernel_rfl
theorem te13 : telem Tryd.prog 13 = none := by kernel_rfl
theorem ts13 : tsize Tryd.prog 13 = 2 := by kernel_rfl
theorem tb13 : tbytes Tryd.prog 13 = 24 := by kernel_rfl
theorem tz13 : tzero Tryd.prog 13 = (some [.str [], .int .u64 (0)]) := by kernel_rfl
theorem ti13 : ti Tryd.prog 13 = ⟨2, 24, (some true), none, .other, (some [.str [], .int .u64 (0)])⟩ := by kernel_rfl
theorem pl14 : tplaces Tryd.prog 14 = (some [(0, 1), (1, 1)]) := by kernel_rfl
theorem tf14_0 : tfield Tryd.prog 14 0 = (some (0, 9)) := by kernel_rfl
theorem tf14_1 : tfield Tryd.prog 14 1 = (some (1, 12)) := by kernel_rfl
theorem tn14 : tint Tryd.prog 14 = false := by kernel_rfl
theorem ty14 : tbyte Tryd.prog 14 = false := by kernel_rfl
theorem tk14 : tkind Tryd.prog 14 = .other := by kernel_rfl
theorem te14 : telem Tryd.prog 14 = none := by kernel_rfl
theorem ts14 : tsize Tryd.prog 14 = 2 := by kernel_rfl
theorem tb14 : tbytes Tryd.prog 14 = 24 := by kernel_rfl
theorem tz14 : tzero Tryd.prog 14 = (some [.str [], .int .u64 (0)]) := by kernel_rfl
theorem ti14 : ti Tryd.prog 14 = ⟨2, 24, (some true), none, .other, (some [.str [], .int .u64 (0)])⟩ := by kernel_rfl
theorem tn15 : tint Tryd.prog 15 = false := by kernel_rfl
theorem ty15 : tbyte Tryd.prog 15 = false := by kernel_rfl
theorem tk15 : tkind Tryd.prog 15 = .other := by kernel_rfl
theorem te15 : telem Tryd.prog 15 = none := by kernel_rfl
theorem ts15 : tsize Tryd.prog 15 = 1 := by kernel_rfl
theorem tb15 : tbytes Tryd.prog 15 = 8 := by kernel_rfl
theorem tz15 : tzero Tryd.prog 15 = (some [.bad]) := by kernel_rfl
theorem ti15 : ti Tryd.prog 15 = ⟨1, 8, (some false), none, .other, (some [.bad])⟩ := by kernel_rfl
theorem tn16 : tint Tryd.prog 16 = false := by kernel_rfl
theorem ty16 : tbyte Tryd.prog 16 = false := by kernel_rfl
theorem tk16 : tkind Tryd.prog 16 = .other := by kernel_rfl
theorem te16 : telem Tryd.prog 16 = none := by kernel_rfl
theorem ts16 : tsize Tryd.prog 16 = 1 := by kernel_rfl
theorem tb16 : tbytes Tryd.prog 16 = 8 := by kernel_rfl
theorem tz16 : tzero Tryd.prog 16 = (some [.bad]) := by kernel_rfl
theorem ti16 : ti Tryd.prog 16 = ⟨1, 8, (some false), none, .other, (some [.bad])⟩ := by kernel_rfl
theorem tn17 : tint Tryd.prog 17 = false := by kernel_rfl
theorem ty17 : tbyte Tryd.prog 17 = false := by kernel_rfl
theorem tk17 : tkind Tryd.prog 17 = .other := by kernel_rfl
theorem te17 : telem Tryd.prog 17 = none := by kernel_rfl
theorem ts17 : tsize Tryd.prog 17 = 1 := by kernel_rfl
theorem tb17 : tbytes Tryd.prog 17 = 8 := by kernel_rfl
theorem tz17 : tzero Tryd.prog 17 = (some [.bad]) := by kernel_rfl
theorem ti17 : ti Tryd.prog 17 = ⟨1, 8, (some false), none, .other, (some [.bad])⟩ := by kernel_rfl
theorem pl18 : tplaces Tryd.prog 18 = (some [(0, 1)]) := by kernel_rfl
theorem tf18_0 : tfield Tryd.prog 18 0 = (some (0, 17)) := by kernel_rfl
theorem tn18 : tint Tryd.prog 18 = false := by kernel_rfl
theorem ty18 : tbyte Tryd.prog 18 = false := by kernel_rfl
theorem tk18 : tkind Tryd.prog 18 = .other := by kernel_rfl
theorem te18 : telem Tryd.prog 18 = none := by kernel_rfl
theorem ts18 : tsize Tryd.prog 18 = 1 := by kernel_rfl
theorem tb18 : tbytes Tryd.prog 18 = 8 := by kernel_rfl
theorem tz18 : tzero Tryd.prog 18 = (some [.bad]) := by kernel_rfl
theorem ti18 : ti Tryd.prog 18 = ⟨1, 8, (some true), none, .other, (some [.bad])⟩ := by kernel_rfl
theorem pl19 : tplaces Tryd.prog 19 = (some [(0, 1)]) := by kernel_rfl
theorem tf19_0 : tfield Tryd.prog 19 0 = (some (0, 17)) := by kernel_rfl
theorem tn19 : tint Tryd.prog 19 = false := by kernel_rfl
theorem ty19 : tbyte Tryd.prog 19 = false := by kernel_rfl
theorem tk19 : tkind Tryd.prog 19 = .other := by kernel_rfl
theorem te19 : telem Tryd.prog 19 = none := by kernel_rfl
theorem ts19 : tsize Tryd.prog 19 = 1 := by kernel_rfl
theorem tb19 : tbytes Tryd.prog 19 = 8 := by kernel_rfl
theorem tz19 : tzero Tryd.prog 19 = (some [.bad]) := by kernel_rfl
theorem ti19 : ti Tryd.prog 19 = ⟨1, 8, (some true), none, .other, (some [.bad])⟩ := by kernel_rfl
theorem tn20 : tint Tryd.prog 20 = false := by kernel_rfl
theorem ty20 : tbyte Tryd.prog 20 = false := by kernel_rfl
theorem tk20 : tkind Tryd.prog 20 = .other := by kernel_rfl
theorem te20 : telem Tryd.prog 20 = none := by kernel_rfl
theorem ts20 : tsize Tryd.prog 20 = 1 := by kernel_rfl
theorem tb20 : tbytes Tryd.prog 20 = 16 := by kernel_rfl
theorem tz20 : tzero Tryd.prog 20 = (some [.bad]) := by kernel_rfl
theorem ti20 : ti Tryd.prog 20 = ⟨1, 16, (some false), none, .other, (some [.bad])⟩ := by kernel_rfl
theorem tn21 : tint Tryd.prog 21 = true := by kernel_rfl
theorem ty21 : tbyte Tryd.prog 21 = false := by kernel_rfl
theorem tk21 : tkind Tryd.prog 21 = (.int .i32) := by kernel_rfl
theorem te21 : telem Tryd.prog 21 = none := by kernel_rfl
theorem ts21 : tsize Tryd.prog 21 = 1 := by kernel_rfl
theorem tb21 : tbytes Tryd.prog 21 = 4 := by kernel_rfl
theorem tz21 : tzero Tryd.prog 21 = (some [.int .i32 (0)]) := by kernel_rfl
theorem ti21 : ti Tryd.prog 21 = ⟨1, 4, (some false), none, (.int .i32), (some [.int .i32 (0)])⟩ := by kernel_rfl
theorem tn22 : tint Tryd.prog 22 = true := by kernel_rfl
theorem ty22 : tbyte Tryd.prog 22 = false := by kernel_rfl
theorem tk22 : tkind Tryd.prog 22 = (.int .i64) := by kernel_rfl
theorem te22 : telem Tryd.prog 22 = none := by kernel_rfl
theorem ts22 : tsize Tryd.prog 22 = 1 := by kernel_rfl
theorem tb22 : tbytes Tryd.prog 22 = 8 := by kernel_rfl
theorem tz22 : tzero Tryd.prog 22 = (some [.int .i64 (0)]) := by kernel_rfl
theorem ti22 : ti Tryd.prog 22 = ⟨1, 8, (some false), none, (.int .i64), (some [.int .i64 (0)])⟩ := by kernel_rfl
theorem tn23 : tint Tryd.prog 23 = false := by kernel_rfl
theorem ty23 : tbyte Tryd.prog 23 = false := by kernel_rfl
theorem tk23 : tkind Tryd.prog 23 = .other := by kernel_rfl
theorem te23 : telem Tryd.prog 23 = none := by kernel_rfl
theorem ts23 : tsize Tryd.prog 23 = 1 := by kernel_rfl
theorem tb23 : tbytes Tryd.prog 23 = 0 := by kernel_rfl
theorem tz23 : tzero Tryd.prog 23 = none := by kernel_rfl
theorem ti23 : ti Tryd.prog 23 = ⟨1, 0, (some false), none, .other, none⟩ := by kernel_rfl
theorem tn24 : tint Tryd.prog 24 = false := by kernel_rfl
theorem ty24 : tbyte Tryd.prog 24 = false := by kernel_rfl
theorem tk24 : tkind Tryd.prog 24 = .other := by kernel_rfl
theorem te24 : telem Tryd.prog 24 = none := by kernel_rfl
theorem ts24 : tsize Tryd.prog 24 = 1 := by kernel_rfl
theorem tb24 : tbytes Tryd.prog 24 = 8 := by kernel_rfl
theorem tz24 : tzero Tryd.prog 24 = (some [.bad]) := by kernel_rfl
theorem ti24 : ti Tryd.prog 24 = ⟨1, 8, (some false), none, .other, (some [.bad])⟩ := by kernel_rfl
theorem tn25 : tint Tryd.prog 25 = false := by kernel_rfl
theorem ty25 : tbyte Tryd.prog 25 = false := by kernel_rfl
theorem tk25 : tkind Tryd.prog 25 = .other := by kernel_rfl
theorem te25 : telem Tryd.prog 25 = none := by kernel_rfl
theorem ts25 : tsize Tryd.prog 25 = 1 := by kernel_rfl
theorem tb25 : tbytes Tryd.prog 25 = 8 := by kernel_rfl
theorem tz25 : tzero Tryd.prog 25 = (some [.bad]) := by kernel_rfl
theorem ti25 : ti Tryd.prog 25 = ⟨1, 8, (some false), none, .other, (some [.bad])⟩ := by kernel_rfl
theorem tn26 : tint Tryd.prog 26 = false := by kernel_rfl
theorem ty26 : tbyte Tryd.prog 26 = false := by kernel_rfl
theorem tk26 : tkind Tryd.prog 26 = .other := by kernel_rfl
theorem te26 : telem Tryd.prog 26 = none := by kernel_rfl
theorem ts26 : tsize Tryd.prog 26 = 1 := by kernel_rfl
theorem tb26 : tbytes Tryd.prog 26 = 8 := by kernel_rfl
theorem tz26 : tzero Tryd.prog 26 = (some [.bad]) := by kernel_rfl
theorem ti26 : ti Tryd.prog 26 = ⟨1, 8, (some false), none, .other, (some [.bad])⟩ := by kernel_rfl
theorem tn27 : tint Tryd.prog 27 = false := by kernel_rfl
theorem ty27 : tbyte Tryd.prog 27 = false := by kernel_rfl
theorem tk27 : tkind Tryd.prog 27 = .other := by kernel_rfl
theorem te27 : telem Tryd.prog 27 = none := by kernel_rfl
theorem ts27 : tsize Tryd.prog 27 = 1 := by kernel_rfl
theorem tb27 : tbytes Tryd.prog 27 = 8 := by kernel_rfl
theorem tz27 : tzero Tryd.prog 27 = (some [.bad]) := by kernel_rfl
theorem ti27 : ti Tryd.prog 27 = ⟨1, 8, (some false), none, .other, (some [.bad])⟩ := by kernel_rfl
theorem tn28 : tint Tryd.prog 28 = false := by kernel_rfl
theorem ty28 : tbyte Tryd.prog 28 = false := by kernel_rfl
theorem tk28 : tkind Tryd.prog 28 = .other := by kernel_rfl
theorem te28 : telem Tryd.prog 28 = none := by kernel_rfl
theorem ts28 : tsize Tryd.prog 28 = 1 := by kernel_rfl
theorem tb28 : tbytes Tryd.prog 28 = 8 := by kernel_rfl
theorem tz28 : tzero Tryd.prog 28 = (some [.bad]) := by kernel_rfl
theorem ti28 : ti Tryd.prog 28 = ⟨1, 8, (some false), none, .other, (some [.bad])⟩ := by kernel_rfl
theorem tn29 : tint Tryd.prog 29 = false := by kernel_rfl
theorem ty29 : tbyte Tryd.prog 29 = false := by kernel_rfl
theorem tk29 : tkind Tryd.prog 29 = .other := by kernel_rfl
theorem te29 : telem Tryd.prog 29 = none := by kernel_rfl
theorem ts29 : tsize Tryd.prog 29 = 1 := by kernel_rfl
theorem tb29 : tbytes Tryd.prog 29 = 8 := by kernel_rfl
theorem tz29 : tzero Tryd.prog 29 = (some [.bad]) := by kernel_rfl
theorem ti29 : ti Tryd.prog 29 = ⟨1, 8, (some false), none, .other, (some [.bad])⟩ := by kernel_rfl
theorem tn30 : tint Tryd.prog 30 = false := by kernel_rfl
theorem ty30 : tbyte Tryd.prog 30 = false := by kernel_rfl
theorem tk30 : tkind Tryd.prog 30 = .other := by kernel_rfl
theorem te30 : telem Tryd.prog 30 = none := by kernel_rfl
theorem ts30 : tsize Tryd.prog 30 = 1 := by kernel_rfl
theorem tb30 : tbytes Tryd.prog 30 = 8 := by kernel_rfl
theorem tz30 : tzero Tryd.prog 30 = (some [.bad]) := by kernel_rfl
theorem ti30 : ti Tryd.prog 30 = ⟨1, 8, (some false), none, .other, (some [.bad])⟩ := by kernel_rfl
theorem tn31 : tint Tryd.prog 31 = false := by kernel_rfl
theorem ty31 : tbyte Tryd.prog 31 = false := by kernel_rfl
theorem tk31 : tkind Tryd.prog 31 = .other := by kernel_rfl
theorem te31 : telem Tryd.prog 31 = none := by kernel_rfl
theorem ts31 : tsize Tryd.prog 31 = 1 := by kernel_rfl
theorem tb31 : tbytes Tryd.prog 31 = 8 := by kernel_rfl
theorem tz31 : tzero Tryd.prog 31 = (some [.bad]) := by kernel_rfl
theorem ti31 : ti Tryd.prog 31 = ⟨1, 8, (some false), none, .other, (some [.bad])⟩ := by kernel_rfl
theorem tn32 : tint Tryd.prog 32 = false := by kernel_rfl
theorem ty32 : tbyte Tryd.prog 32 = false := by kernel_rfl
theorem tk32 : tkind Tryd.prog 32 = .other := by kernel_rfl
theorem te32 : telem Tryd.prog 32 = none := by kernel_rfl
theorem ts32 : tsize Tryd.prog 32 = 1 := by kernel_rfl
theorem tb32 : tbytes Tryd.prog 32 = 8 := by kernel_rfl
theorem tz32 : tzero Tryd.prog 32 = (some [.bad]) := by kernel_rfl
theorem ti32 : ti Tryd.prog 32 = ⟨1, 8, (some false), none, .other, (some [.bad])⟩ := by kernel_rfl
theorem tn33 : tint Tryd.prog 33 = false := by kernel_rfl
theorem ty33 : tbyte Tryd.prog 33 = false := by kernel_rfl
theorem tk33 : tkind Tryd.prog 33 = .other := by kernel_rfl
theorem te33 : telem Tryd.prog 33 = none := by kernel_rfl
theorem ts33 : tsize Tryd.prog 33 = 1 := by kernel_rfl
theorem tb33 : tbytes Tryd.prog 33 = 0 := by kernel_rfl
theorem tz33 : tzero Tryd.prog 33 = none := by kernel_rfl
theorem ti33 : ti Tryd.prog 33 = ⟨1, 0, (some false), none, .other, none⟩ := by kernel_rfl
theorem tn34 : tint Tryd.prog 34 = false := by kernel_rfl
theorem ty34 : tbyte Tryd.prog 34 = false := by kernel_rfl
theorem tk34 : tkind Tryd.prog 34 = .other := by kernel_rfl
theorem te34 : telem Tryd.prog 34 = none := by kernel_rfl
theorem ts34 : tsize Tryd.prog 34 = 1 := by kernel_rfl
theorem tb34 : tbytes Tryd.prog 34 = 8 := by kernel_rfl
theorem tz34 : tzero Tryd.prog 34 = (some [.bad]) := by kernel_rfl
theorem ti34 : ti Tryd.prog 34 = ⟨1, 8, (some false), none, .other, (some [.bad])⟩ := by kernel_rfl
theorem tn35 : tint Tryd.prog 35 = false := by kernel_rfl
theorem ty35 : tbyte Tryd.prog 35 = false := by kernel_rfl
theorem tk35 : tkind Tryd.prog 35 = .other := by kernel_rfl
theorem te35 : telem Tryd.prog 35 = none := by kernel_rfl
theorem ts35 : tsize Tryd.prog 35 = 1 := by kernel_rfl
theorem tb35 : tbytes Tryd.prog 35 = 8 := by kernel_rfl
theorem tz35 : tzero Tryd.prog 35 = (some [.bad]) := by kernel_rfl
theorem ti35 : ti Tryd.prog 35 = ⟨1, 8, (some false), none, .other, (some [.bad])⟩ := by kernel_rfl
theorem tn36 : tint Tryd.prog 36 = false := by kernel_rfl
theorem ty36 : tbyte Tryd.prog 36 = false := by kernel_rfl
theorem tk36 : tkind Tryd.prog 36 = .slice := by kernel_rfl
theorem te36 : telem Tryd.prog 36 = (some 9) := by kernel_rfl
theorem ts36 : tsize Tryd.prog 36 = 1 := by kernel_rfl
theorem tb36 : tbytes Tryd.prog 36 = 24 := by kernel_rfl
theorem tz36 : tzero Tryd.prog 36 = (some [.nil]) := by kernel_rfl
theorem ti36 : ti Tryd.prog 36 = ⟨1, 24, (some false), (some 9), .slice, (some [.nil])⟩ := by kernel_rfl
theorem tn37 : tint Tryd.prog 37 = false := by kernel_rfl
theorem ty37 : tbyte Tryd.prog 37 = false := by kernel_rfl
theorem tk37 : tkind Tryd.prog 37 = .other := by kernel_rfl
theorem te37 : telem Tryd.prog 37 = none := by kernel_rfl
theorem ts37 : tsize Tryd.prog 37 = 1 := by kernel_rfl
theorem tb37 : tbytes Tryd.prog 37 = 8 := by kernel_rfl
theorem tz37 : tzero Tryd.prog 37 = (some [.bad]) := by kernel_rfl
theorem ti37 : ti Tryd.prog 37 = ⟨1, 8, (some false), none, .other, (some [.bad])⟩ := by kernel_rfl
theorem tn38 : tint Tryd.prog 38 = false := by kernel_rfl
theorem ty38 : tbyte Tryd.prog 38 = false := by kernel_rfl
theorem tk38 : tkind Tryd.prog 38 = .other := by kernel_rfl
theorem te38 : telem Tryd.prog 38 = none := by kernel_rfl
theorem ts38 : tsize Tryd.prog 38 = 1 := by kernel_rfl
theorem tb38 : tbytes Tryd.prog 38 = 8 := by kernel_rfl
theorem tz38 : tzero Tryd.prog 38 = (some [.bad]) := by kernel_rfl
theorem ti38 : ti Tryd.prog 38 = ⟨1, 8, (some false), none, .other, (some [.bad])⟩ := by kernel_rfl
theorem tn39 : tint Tryd.prog 39 = false := by kernel_rfl
theorem ty39 : tbyte Tryd.prog 39 = false := by kernel_rfl
theorem tk39 : tkind Tryd.prog 39 = .other := by kernel_rfl
theorem te39 : telem Tryd.prog 39 = none := by kernel_rfl
theorem ts39 : tsize Tryd.prog 39 = 1 := by kernel_rfl
theorem tb39 : tbytes Tryd.prog 39 = 8 := by kernel_rfl
theorem tz39 : tzero Tryd.prog 39 = (some [.bad]) := by kernel_rfl
theorem ti39 : ti Tryd.prog 39 = ⟨1, 8, (some false), none, .other, (some [.bad])⟩ := by kernel_rfl
theorem tn40 : tint Tryd.prog 40 = false := by kernel_rfl
theorem ty40 : tbyte Tryd.prog 40 = false := by kernel_rfl
theorem tk40 : tkind Tryd.prog 40 = .other := by kernel_rfl
theorem te40 : telem Tryd.prog 40 = none := by kernel_rfl
theorem ts40 : tsize Tryd.prog 40 = 1 := by kernel_rfl
theorem tb40 : tbytes Tryd.prog 40 = 8 := by kernel_rfl
theorem tz40 : tzero Tryd.prog 40 = (some [.bad]) := by kernel_rfl
theorem ti40 : ti Tryd.prog 40 = ⟨1, 8, (some false), none, .other, (some [.bad])⟩ := by kernel_rfl
theorem tn41 : tint Tryd.prog 41 = false := by kernel_rfl
theorem ty41 : tbyte Tryd.prog 41 = false := by kernel_rfl
theorem tk41 : tkind Tryd.prog 41 = .other := by kernel_rfl
theorem te41 : telem Tryd.prog 41 = none := by kernel_rfl
theorem ts41 : tsize Tryd.prog 41 = 1 := by kernel_rfl
theorem tb41 : tbytes Tryd.prog 41 = 8 := by kernel_rfl
theorem tz41 : tzero Tryd.prog 41 = (some [.bad]) := by kernel_rfl
theorem ti41 : ti Tryd.prog 41 = ⟨1, 8, (some false), none, .other, (some [.bad])⟩ := by kernel_rfl
theorem tn42 : tint Tryd.prog 42 = false := by kernel_rfl
theorem ty42 : tbyte Tryd.prog 42 = false := by kernel_rfl
theorem tk42 : tkind Tryd.prog 42 = .other := by kernel_rfl
theorem te42 : telem Tryd.prog 42 = none := by kernel_rfl
theorem ts42 : tsize Tryd.prog 42 = 1 := by kernel_rfl
theorem tb42 : tbytes Tryd.prog 42 = 8 := by kernel_rfl
theorem tz42 : tzero Tryd.prog 42 = (some [.bad]) := by kernel_rfl
theorem ti42 : ti Tryd.prog 42 = ⟨1, 8, (some false), none, .other, (some [.bad])⟩ := by kernel_rfl
theorem tn43 : tint Tryd.prog 43 = false := by kernel_rfl
theorem ty43 : tbyte Tryd.prog 43 = false := by kernel_rfl
theorem tk43 : tkind Tryd.prog 43 = .other := by kernel_rfl
theorem te43 : telem Tryd.prog 43 = none := by kernel_rfl
theorem ts43 : tsize Tryd.prog 43 = 1 := by kernel_rfl
theorem tb43 : tbytes Tryd.prog 43 = 8 := by kernel_rfl
theorem tz43 : tzero Tryd.prog 43 = (some [.bad]) := by kernel_rfl
theorem ti43 : ti Tryd.prog 43 = ⟨1, 8, (some false), none, .other, (some [.bad])⟩ := by kernel_rfl
theorem tn44 : tint Tryd.prog 44 = false := by kernel_rfl
theorem ty44 : tbyte Tryd.prog 44 = false := by kernel_rfl
theorem tk44 : tkind Tryd.prog 44 = .other := by kernel_rfl
theorem te44 : telem Tryd.prog 44 = none := by kernel_rfl
theorem ts44 : tsize Tryd.prog 44 = 1 := by kernel_rfl
theorem tb44 : tbytes Tryd.prog 44 = 8 := by kernel_rfl
theorem tz44 : tzero Tryd.prog 44 = (some [.bad]) := by kernel_rfl
theorem ti44 : ti Tryd.prog 44 = ⟨1, 8, (some false), none, .other, (some [.bad])⟩ := by kernel_rfl
theorem tn45 : tint Tryd.prog 45 = false := by kernel_rfl
theorem ty45 : tbyte Tryd.prog 45 = false := by kernel_rfl
theorem tk45 : tkind Tryd.prog 45 = .other := by kernel_rfl
theorem te45 : telem Tryd.prog 45 = none := by kernel_rfl
theorem ts45 : tsize Tryd.prog 45 = 1 := by kernel_rfl
theorem tb45 : tbytes Tryd.prog 45 = 8 := by kernel_rfl
theorem tz45 : tzero Tryd.prog 45 = (some [.bad]) := by kernel_rfl
theorem ti45 : ti Tryd.prog 45 = ⟨1, 8, (some false), none, .other, (some [.bad])⟩ := by kernel_rfl
theorem tn46 : tint Tryd.prog 46 = false := by kernel_rfl
theorem ty46 : tbyte Tryd.prog 46 = false := by kernel_rfl
theorem tk46 : tkind Tryd.prog 46 = .other := by kernel_rfl
theorem te46 : telem Tryd.prog 46 = none := by kernel_rfl
theorem ts46 : tsize Tryd.prog 46 = 1 := by kernel_rfl
theorem tb46 : tbytes Tryd.prog 46 = 0 := by kernel_rfl
theorem tz46 : tzero Tryd.prog 46 = none := by kernel_rfl
theorem ti46 : ti Tryd.prog 46 = ⟨1, 0, (some false), none, .other, none⟩ := by kernel_rfl
theorem tn47 : tint Tryd.prog 47 = false := by kernel_rfl
theorem ty47 : tbyte Tryd.prog 47 = false := by kernel_rfl
theorem tk47 : tkind Tryd.prog 47 = .other := by kernel_rfl
theorem te47 : telem Tryd.prog 47 = none := by kernel_rfl
theorem ts47 : tsize Tryd.prog 47 = 1 := by kernel_rfl
theorem tb47 : tbytes Tryd.prog 47 = 8 := by kernel_rfl
theorem tz47 : tzero Tryd.prog 47 = (some [.bad]) := by kernel_rfl
theorem ti47 : ti Tryd.prog 47 = ⟨1, 8, (some false), none, .other, (some [.bad])⟩ := by kernel_rfl
theorem tn48 : tint Tryd.prog 48 = false := by kernel_rfl
theorem ty48 : tbyte Tryd.prog 48 = false := by kernel_rfl
theorem tk48 : tkind Tryd.prog 48 = .other := by kernel_rfl
theorem te48 : telem Tryd.prog 48 = none := by kernel_rfl
theorem ts48 : tsize Tryd.prog 48 = 1 := by kernel_rfl
theorem tb48 : tbytes Tryd.prog 48 = 8 := by kernel_rfl
theorem tz48 : tzero Tryd.prog 48 = (some [.bad]) := by kernel_rfl
theorem ti48 : ti Tryd.prog 48 = ⟨1, 8, (some false), none, .other, (some [.bad])⟩ := by kernel_rfl
theorem tn49 : tint Tryd.prog 49 = false := by kernel_rfl
theorem ty49 : tbyte Tryd.prog 49 = false := by kernel_rfl
theorem tk49 : tkind Tryd.prog 49 = .other := by kernel_rfl
theorem te49 : telem Tryd.prog 49 = none := by kernel_rfl
theorem ts49 : tsize Tryd.prog 49 = 1 := by kernel_rfl
theorem tb49 : tbytes Tryd.prog 49 = 8 := by kernel_rfl
theorem tz49 : tzero Tryd.prog 49 = (some [.bad]) := by kernel_rfl
theorem ti49 : ti Tryd.prog 49 = ⟨1, 8, (some false), none, .other, (some [.bad])⟩ := by kernel_rfl
theorem tn50 : tint Tryd.prog 50 = false := by kernel_rfl
theorem ty50 : tbyte Tryd.prog 50 = false := by kernel_rfl
theorem tk50 : tkind Tryd.prog 50 = .other := by kernel_rfl
theorem te50 : telem Tryd.prog 50 = none := by kernel_rfl
theorem ts50 : tsize Tryd.prog 50 = 1 := by kernel_rfl
theorem tb50 : tbytes Tryd.prog 50 = 8 := by kernel_rfl
theorem tz50 : tzero Tryd.prog 50 = (some [.bad]) := by kernel_rfl
theorem ti50 : ti Tryd.prog 50 = ⟨1, 8, (some false), none, .other, (some [.bad])⟩ := by kernel_rfl
theorem tn51 : tint Tryd.prog 51 = false := by kernel_rfl
theorem ty51 : tbyte Tryd.prog 51 = false := by kernel_rfl
theorem tk51 : tkind Tryd.prog 51 = .other := by kernel_rfl
theorem te51 : telem Tryd.prog 51 = none := by kernel_rfl
theorem ts51 : tsize Tryd.prog 51 = 1 := by kernel_rfl
theorem tb51 : tbytes Tryd.prog 51 = 8 := by kernel_rfl
theorem tz51 : tzero Tryd.prog 51 = (some [.bad]) := by kernel_rfl
theorem ti51 : ti Tryd.prog 51 = ⟨1, 8, (some false), none, .other, (some [.bad])⟩ := by kernel_rfl
theorem tn52 : tint Tryd.prog 52 = false := by kernel_rfl
theorem ty52 : tbyte Tryd.prog 52 = false := by kernel_rfl
theorem tk52 : tkind Tryd.prog 52 = .other := by kernel_rfl
theorem te52 : telem Tryd.prog 52 = none := by kernel_rfl
theorem ts52 : tsize Tryd.prog 52 = 1 := by kernel_rfl
theorem tb52 : tbytes Tryd.prog 52 = 8 := by kernel_rfl
theorem tz52 : tzero Tryd.prog 52 = (some [.bad]) := by kernel_rfl
theorem ti52 : ti Tryd.prog 52 = ⟨1, 8, (some false), none, .other, (some [.bad])⟩ := by kernel_rfl
theorem tn53 : tint Tryd.prog 53 = false := by kernel_rfl
theorem ty53 : tbyte Tryd.prog 53 = false := by kernel_rfl
theorem tk53 : tkind Tryd.prog 53 = .other := by kernel_rfl
theorem te53 : telem Tryd.prog 53 = none := by kernel_rfl
theorem ts53 : tsize Tryd.prog 53 = 1 := by kernel_rfl
theorem tb53 : tbytes Tryd.prog 53 = 8 := by kernel_rfl
theorem tz53 : tzero Tryd.prog 53 = (some [.bad]) := by kernel_rfl
theorem ti53 : ti Tryd.prog 53 = ⟨1, 8, (some false), none, .other, (some [.bad])⟩ := by kernel_rfl
theorem tn54 : tint Tryd.prog 54 = false := by kernel_rfl
theorem ty54 : tbyte Tryd.prog 54 = false := by kernel_rfl
theorem tk54 : tkind Tryd.prog 54 = .other := by kernel_rfl
theorem te54 : telem Tryd.prog 54 = none := by kernel_rfl
theorem ts54 : tsize Tryd.prog 54 = 256 := by kernel_rfl
theorem tb54 : tbytes Tryd.prog 54 = 256 := by kernel_rfl
theorem tz54 : tzero Tryd.prog 54 = (some [.bool false, .bool false, .bool false, .bool false, .bool false, .bool false, .bool false, .bool false, .bool false, .bool false, .bool false, .bool false, .bool false, .bool false, .bool false, .bool false, .bool false, .bool false, .bool false, .bool false, .bool false, .bool false, .bool false, .bool false, .bool false, .bool false, .bool false, .bool false, .bool false, .bool false, .bool false, .bool false, .bool false, .bool false, .bool false, .bool false, .bool false, .bool false, .bool false, .bool false, .bool false, .bool false, .bool false, .bool false, .bool false, .bool false, .bool false, .bool false, .bool false, .bool false, .bool false, .bool false, .bool false, .bool false, .bool false, .bool false, .bool false, .bool false, .bool false, .bool false, .bool false, .bool false, .bool false, .bool false, .bool false, .bool false, .bool false, .bool false, .bool false, .bool false, .bool false, .bool false, .bool false, .bool false, .bool false, .bool false, .bool false, .bool false, .bool false, .bool false, .bool false, .bool false, .bool false, .bool false, .bool false, .bool false, .bool false, .bool false, .bool false, .bool false, .bool false, .bool false, .bool false, .bool false, .bool false, .bool false, .bool false, .bool false, .bool false, .bool false, .bool false, .bool false, .bool false, .bool false, .bool false, .bool false, .bool false, .bool false, .bool false, .bool false, .bool false, .bool false, .bool false, .bool false, .bool false, .bool false, .bool false, .bool false, .bool false, .bool false, .bool false, .bool false, .bool false, .bool false, .bool false, .bool false, .bool false, .bool false, .bool false, .bool false, .bool false, .bool false, .bool false, .bool false, .bool false, .bool false, .bool false, .bool false, .bool false, .bool false, .bool false, .bool false, .bool false, .bool false, .bool false, .bool false, .bool false, .bool false, .bool false, .bool false, .bool false, .bool false, .bool false, .bool false, .bool false, .bool false, .bool false, .bool false, .bool false, .bool false, .bool false, .bool false, .bool false, .bool false, .bool false, .bool false, .bool false, .bool false, .bool false, .bool false, .bool false, .bool false, .bool false, .bool false, .bool false, .bool false, .bool false, .bool false, .bool false, .bool false, .bool false, .bool false, .bool false, .bool false, .bool false, .bool false, .bool false, .bool false, .bool false, .bool false, .bool false, .bool false, .bool false, .bool false, .bool false, .bool false, .bool false, .bool false, .bool false, .bool false, .bool false, .bool false, .bool false, .bool false, .bool false, .bool false, .bool false, .bool false, .bool false, .bool false, .bool false, .bool false, .bool false, .bool false, .bool false, .bool false, .bool false, .bool false, .bool false, .bool false, .bool false, .bool false, .bool false, .bool false, .bool false, .bool false, .bool false, .bool false, .bool false, .bool false, .bool false, .bool false, .bool false, .bool false, .bool false, .bool false, .bool false, .bool false, .bool false, .bool false, .bool false, .bool false, .bool false, .bool false, .bool false, .bool false, .bool false, .bool false, .bool false, .bool false, .bool false, .bool false, .bool false, .bool false, .bool false, .bool false]) := by kernel_rfl
theorem ti54 : ti Tryd.prog 54 = ⟨256, 256, (some true), none, .other, (some [.bool false, .bool false, .bool false, .bool false, .bool false, .bool false, .bool false, .bool false, .bool false, .bool false, .bool false, .bool false, .bool false, .bool false, .bool false, .bool false, .bool false, .bool false, .bool false, .bool false, .bool false, .bool false, .bool false, .bool false, .bool false, .bool false, .bool false, .bool false, .bool false, .bool false, .bool false, .bool false, .bool false, .bool false, .bool false, .bool false, .bool false, .bool false, .bool false, .bool false, .bool false, .bool false, .bool false, .bool false, .bool false, .bool false, .bool false, .bool false, .bool false, .bool false, .bool false, .bool false, .bool false, .bool false, .bool false, .bool false, .bool false, .bool false, .bool false, .bool false, .bool false, .bool false, .bool false, .bool false, .bool false, .bool false, .bool false, .bool false, .bool false, .bool false, .bool false, .bool false, .bool false, .bool false, .bool false, .bool false, .bool false, .bool false, .bool false, .bool false, .bool false, .bool false, .bool false, .bool false, .bool false, .bool false, .bool false, .bool false, .bool false, .bool false, .bool false, .bool false, .bool false, .bool false, .bool false, .bool false, .bool false, .bool false, .bool false, .bool false, .bool false, .bool false, .bool false, .bool false, .bool false, .bool false, .bool false, .bool false, .bool false, .bool false, .bool false, .bool false, .bool false, .bool false, .bool false, .bool false, .bool false, .bool false, .bool false, .bool false, .bool false, .bool false, .bool false, .bool false, .bool false, .bool false, .bool false, .bool false, .bool false, .bool false, .bool false, .bool false, .bool false, .bool false, .bool false, .bool false, .bool false, .bool false, .bool false, .bool false, .bool false, .bool false, .bool false, .bool false, .bool false, .bool false, .bool false, .bool false, .bool false, .bool false, .bool false, .bool false, .bool false, .bool false, .bool false, .bool false, .bool false, .bool false, .bool false, .bool false, .bool false, .bool false, .bool false, .bool false, .bool false, .bool false, .bool false, .bool false, .bool false, .bool false, .bool false, .bool false, .bool false, .bool false, .bool false, .bool false, .bool false, .bool false, .bool false, .bool false, .bool false, .bool false, .bool false, .bool false, .bool false, .bool false, .bool false, .bool false, .bool false, .bool false, .bool false, .bool false, .bool false, .bool false, .bool false, .bool false, .bool false, .bool false, .bool false, .bool false, .bool false, .bool false, .bool false, .bool false, .bool false, .bool false, .bool false, .bool false, .bool false, .bool false, .bool false, .bool false, .bool false, .bool false, .bool false, .bool false, .bool false, .bool false, .bool false, .bool false, .bool false, .bool false, .bool false, .bool false, .bool false, .bool false, .bool false, .bool false, .bool false, .bool false, .bool false, .bool false, .bool false, .bool false, .bool false, .bool false, .bool false, .bool false, .bool false, .bool false, .bool false, .bool false, .bool false, .bool false, .bool false, .bool false, .bool false, .bool false, .bool false, .bool false, .bool false, .bool false, .bool false, .bool false, .bool false, .bool false])⟩ := by kernel_rfl
theorem tn55 : tint Tryd.prog 55 = false := by kernel_rfl
theorem ty55 : tbyte Tryd.prog 55 = false := by kernel_rfl
theorem tk55 : tkind Tryd.prog 55 = .other := by kernel_rfl
theorem te55 : telem Tryd.prog 55 = none := by kernel_rfl
theorem ts55 : tsize Tryd.prog 55 = 256 := by kernel_rfl
theorem tb55 : tbytes Tryd.prog 55 = 256 := by kernel_rfl
theorem tz55 : tzero Tryd.prog 55 = (some [.bool false, .bool false, .bool false, .bool false, .bool false, .bool false, .bool false, .bool false, .bool false, .bool false, .bool false, .bool false, .bool false, .bool false, .bool false, .bool false, .bool false, .bool false, .bool false, .bool false, .bool false, .bool false, .bool false, .bool false, .bool false, .bool false, .bool false, .bool false, .bool false, .bool false, .bool false, .bool false, .bool false, .bool false, .bool false, .bool false, .bool false, .bool false, .bool false, .bool false, .bool false, .bool false, .bool false, .bool false, .bool false, .bool false, .bool false, .bool false, .bool false, .bool false, .bool false, .bool false, .bool false, .bool false, .bool false, .bool false, .bool false, .bool false, .bool false, .bool false, .bool false, .bool false, .bool false, .bool false, .bool false, .bool false, .bool false, .bool false, .bool false, .bool false, .bool false, .bool false, .bool false, .bool false, .bool false, .bool false, .bool false, .bool false, .bool false, .bool false, .bool false, .bool false, .bool false, .bool false, .bool false, .bool false, .bool false, .bool false, .bool false, .bool false, .bool false, .bool false, .bool false, .bool false, .bool false, .bool false, .bool false, .bool false, .bool false, .bool false, .bool false, .bool false, .bool false, .bool false, .bool false, .bool false, .bool false, .bool false, .bool false, .bool false, .bool false, .bool false, .bool false, .bool false, .bool false, .bool false, .bool false, .bool false, .bool false, .bool false, .bool false, .bool false, .bool false, .bool false, .bool false, .bool false, .bool false, .bool false, .bool false, .bool false, .bool false, .bool false, .bool false, .bool false, .bool false, .bool false, .bool false, .bool false, .bool false, .bool false, .bool false, .bool false, .bool false, .bool false, .bool false, .bool false, .bool false, .bool false, .bool false, .bool false, .bool false, .bool false, .bool false, .bool false, .bool false, .bool false, .bool false, .bool false, .bool false, .bool false, .bool false, .bool false, .bool false, .bool false, .bool false, .bool false, .bool false, .bool false, .bool false, .bool false, .bool false, .bool false, .bool false, .bool false, .bool false, .bool false, .bool false, .bool false, .bool false, .bool false, .bool false, .bool false, .bool false, .bool false, .bool false, .bool false, .bool false, .bool false, .bool false, .bool false, .bool false, .bool false, .bool false, .bool false, .bool false, .bool false, .bool false, .bool false, .bool false, .bool false, .bool false, .bool false, .bool false, .bool false, .bool false, .bool false, .bool false, .bool false, .bool false, .bool false, .bool false, .bool false, .bool false, .bool false, .bool false, .bool false, .bool false, .bool false, .bool false, .bool false, .bool false, .bool false, .bool false, .bool false, .bool false, .bool false, .bool false, .bool false, .bool false, .bool false, .bool false, .bool false, .bool false, .bool false, .bool false, .bool false, .bool false, .bool false, .bool false, .bool false, .bool false, .bool false, .bool false, .bool false, .bool false, .bool false, .bool false, .bool false, .bool false, .bool false, .bool false, .bool false, .bool false, .bool false, .bool false, .bool false]) := by kernel_rfl
theorem ti55 : ti Tryd.prog 55 = ⟨256, 256, (some true), none, .other, (some [.bool false, .bool false, .bool false, .bool false, .bool false, .bool false, .bool false, .bool false, .bool false, .bool false, .bool false, .bool false, .bool false, .bool false, .bool false, .bool false, .bool false, .bool false, .bool false, .bool false, .bool false, .bool false, .bool false, .bool false, .bool false, .bool false, .bool false, .bool false, .bool false, .bool false, .bool false, .bool false, .bool false, .bool false, .bool false, .bool false, .bool false, .bool false, .bool false, .bool false, .bool false, .bool false, .bool false, .bool false, .bool false, .bool false, .bool false, .bool false, .bool false, .bool false, .bool false, .bool false, .bool false, .bool false, .bool false, .bool false, .bool false, .bool false, .bool false, .bool false, .bool false, .bool false, .bool false, .bool false, .bool false, .bool false, .bool false, .bool false, .bool false, .bool false, .bool false, .bool false, .bool false, .bool false, .bool false, .bool false, .bool false, .bool false, .bool false, .bool false, .bool false, .bool false, .bool false, .bool false, .bool false, .bool false, .bool false, .bool false, .bool false, .bool false, .bool false, .bool false, .bool false, .bool false, .bool false, .bool false, .bool false, .bool false, .bool false, .bool false, .bool false, .bool false, .bool false, .bool false, .bool false, .bool false, .bool false, .bool false, .bool false, .bool false, .bool false, .bool false, .bool false, .bool false, .bool false, .bool false, .bool false, .bool false, .bool false, .bool false, .bool false, .bool false, .bool false, .bool false, .bool false, .bool false, .bool false, .bool false, .bool false, .bool false, .bool false, .bool false, .bool false, .bool false, .bool false, .bool false, .bool false, .bool false, .bool false, .bool false, .bool false, .bool false, .bool false, .bool false, .bool false, .bool false, .bool false, .bool false, .bool false, .bool false, .bool false, .bool false, .bool false, .bool false, .bool false, .bool false, .bool false, .bool false, .bool false, .bool false, .bool false, .bool false, .bool false, .bool false, .bool false, .bool false, .bool false, .bool false, .bool false, .bool false, .bool false, .bool false, .bool false, .bool false, .bool false, .bool false, .bool false, .bool false, .bool false, .bool false, .bool false, .bool false, .bool false, .bool false, .bool false, .bool false, .bool false, .bool false, .bool false, .bool false, .bool false, .bool false, .bool false, .bool false, .bool false, .bool false, .bool false, .bool false, .bool false, .bool false, .bool false, .bool false, .bool false, .bool false, .bool false, .bool false, .bool false, .bool false, .bool false, .bool false, .bool false, .bool false, .bool false, .bool false, .bool false, .bool false, .bool false, .bool false, .bool false, .bool false, .bool false, .bool false, .bool false, .bool false, .bool false, .bool false, .bool false, .bool false, .bool false, .bool false, .bool false, .bool false, .bool false, .bool false, .bool false, .bool false, .bool false, .bool false, .bool false, .bool false, .bool false, .bool false, .bool false, .bool false, .bool false, .bool false, .bool false, .bool false, .bool false, .bool false, .bool false, .bool false, .bool false, .bool false, .bool false, .bool false])⟩ := by kernel_rfl
theorem tn56 : tint Tryd.prog 56 = false := by kernel_rfl
theorem ty56 : tbyte Tryd.prog 56 = false := by kernel_rfl
theorem tk56 : tkind Tryd.prog 56 = .other := by kernel_rfl
theorem te56 : telem Tryd.prog 56 = none := by kernel_rfl
theorem ts56 : tsize Tryd.prog 56 = 1 := by kernel_rfl
theorem tb56 : tbytes Tryd.prog 56 = 0 := by kernel_rfl
theorem tz56 : tzero Tryd.prog 56 = none := by kernel_rfl
theorem ti56 : ti Tryd.prog 56 = ⟨1, 0, (some false), none, .other, none⟩ := by kernel_rfl
theorem tn57 : tint Tryd.prog 57 = false := by kernel_rfl
theorem ty57 : tbyte Tryd.prog 57 = false := by kernel_rfl
theorem tk57 : tkind Tryd.prog 57 = .other := by kernel_rfl
theorem te57 : telem Tryd.prog 57 = none := by kernel_rfl
theorem ts57 : tsize Tryd.prog 57 = 1 := by kernel_rfl
theorem tb57 : tbytes Tryd.prog 57 = 8 := by kernel_rfl
theorem tz57 : tzero Tryd.prog 57 = (some [.bad]) := by kernel_rfl
theorem ti57 : ti Tryd.prog 57 = ⟨1, 8, (some false), none, .other, (some [.bad])⟩ := by kernel_rfl
theorem tn58 : tint Tryd.prog 58 = false := by kernel_rfl
theorem ty58 : tbyte Tryd.prog 58 = false := by kernel_rfl
theorem tk58 : tkind Tryd.prog 58 = .other := by kernel_rfl
theorem te58 : telem Tryd.prog 58 = none := by kernel_rfl
theorem ts58 : tsize Tryd.prog 58 = 1 := by kernel_rfl
theorem tb58 : tbytes Tryd.prog 58 = 8 := by kernel_rfl
theorem tz58 : tzero Tryd.prog 58 = (some [.bad]) := by kernel_rfl
theorem ti58 : ti Tryd.prog 58 = ⟨1, 8, (some false), none, .other, (some [.bad])⟩ := by kernel_rfl
theorem tn59 : tint Tryd.prog 59 = false := by kernel_rfl
theorem ty59 : tbyte Tryd.prog 59 = false := by kernel_rfl
theorem tk59 : tkind Tryd.prog 59 = .other := by kernel_rfl
theorem te59 : telem Tryd.prog 59 = none := by kernel_rfl
theorem ts59 : tsize Tryd.prog 59 = 1 := by kernel_rfl
theorem tb59 : tbytes Tryd.prog 59 = 8 := by kernel_rfl
theorem tz59 : tzero Tryd.prog 59 = (some [.bad]) := by kernel_rfl
theorem ti59 : ti Tryd.prog 59 = ⟨1, 8, (some false), none, .other, (some [.bad])⟩ := by kernel_rfl
theorem tn60 : tint Tryd.prog 60 = false := by kernel_rfl
theorem ty60 : tbyte Tryd.prog 60 = false := by kernel_rfl
theorem tk60 : tkind Tryd.prog 60 = .other := by kernel_rfl
theorem te60 : telem Tryd.prog 60 = none := by kernel_rfl
theorem ts60 : tsize Tryd.prog 60 = 1 := by kernel_rfl
theorem tb60 : tbytes Tryd.prog 60 = 8 := by kernel_rfl
theorem tz60 : tzero Tryd.prog 60 = (some [.bad]) := by kernel_rfl
theorem ti60 : ti Tryd.prog 60 = ⟨1, 8, (some false), none, .other, (some [.bad])⟩ := by kernel_rfl
theorem tn61 : tint Tryd.prog 61 = false := by kernel_rfl
theorem ty61 : tbyte Tryd.prog 61 = true := by kernel_rfl
theorem tk61 : tkind Tryd.prog 61 = .slice := by kernel_rfl
theorem te61 : telem Tryd.prog 61 = (some 5) := by kernel_rfl
theorem ts61 : tsize Tryd.prog 61 = 1 := by kernel_rfl
theorem tb61 : tbytes Tryd.prog 61 = 24 := by kernel_rfl
theorem tz61 : tzero Tryd.prog 61 = (some [.nil]) := by kernel_rfl
theorem ti61 : ti Tryd.prog 61 = ⟨1, 24, (some false), (some 5), .slice, (some [.nil])⟩ := by kernel_rfl
theorem tn62 : tint Tryd.prog 62 = false := by kernel_rfl
theorem ty62 : tbyte Tryd.prog 62 = false := by kernel_rfl
theorem tk62 : tkind Tryd.prog 62 = .other := by kernel_rfl
theorem te62 : telem Tryd.prog 62 = none := by kernel_rfl
theorem ts62 : tsize Tryd.prog 62 = 1 := by kernel_rfl
theorem tb62 : tbytes Tryd.prog 62 = 8 := by kernel_rfl
theorem tz62 : tzero Tryd.prog 62 = (some [.bad]) := by kernel_rfl
theorem ti62 : ti Tryd.prog 62 = ⟨1, 8, (some false), none, .other, (some [.bad])⟩ := by kernel_rfl
theorem tn63 : tint Tryd.prog 63 = false := by kernel_rfl
theorem ty63 : tbyte Tryd.prog 63 = false := by kernel_rfl
theorem tk63 : tkind Tryd.prog 63 = .other := by kernel_rfl
theorem te63 : telem Tryd.prog 63 = none := by kernel_rfl
theorem ts63 : tsize Tryd.prog 63 = 1 := by kernel_rfl
theorem tb63 : tbytes Tryd.prog 63 = 8 := by kernel_rfl
theorem tz63 : tzero Tryd.prog 63 = (some [.bad]) := by kernel_rfl
theorem ti63 : ti Tryd.prog 63 = ⟨1, 8, (some false), none, .other, (some [.bad])⟩ := by kernel_rfl
theorem tn64 : tint Tryd.prog 64 = false := by kernel_rfl
theorem ty64 : tbyte Tryd.prog 64 = false := by kernel_rfl
theorem tk64 : tkind Tryd.prog 64 = .other := by kernel_rfl
theorem te64 : telem Tryd.prog 64 = none := by kernel_rfl
theorem ts64 : tsize Tryd.prog 64 = 1 := by kernel_rfl
theorem tb64 : tbytes Tryd.prog 64 = 8 := by kernel_rfl
theorem tz64 : tzero Tryd.prog 64 = (some [.bad]) := by kernel_rfl
theorem ti64 : ti Tryd.prog 64 = ⟨1, 8, (some false), none, .other, (some [.bad])⟩ := by kernel_rfl
theorem tn65 : tint Tryd.prog 65 = false := by kernel_rfl
theorem ty65 : tbyte Tryd.prog 65 = false := by kernel_rfl
theorem tk65 : tkind Tryd.prog 65 = .other := by kernel_rfl
theorem te65 : telem Tryd.prog 65 = none := by kernel_rfl
theorem ts65 : tsize Tryd.prog 65 = 1 := by kernel_rfl
theorem tb65 : tbytes Tryd.prog 65 = 0 := by kernel_rfl
theorem tz65 : tzero Tryd.prog 65 = none := by kernel_rfl
theorem ti65 : ti Tryd.prog 65 = ⟨1, 0, (some false), none, .other, none⟩ := by kernel_rfl
theorem tn66 : tint Tryd.prog 66 = false := by kernel_rfl
theorem ty66 : tbyte Tryd.prog 66 = false := by kernel_rfl
theorem tk66 : tkind Tryd.prog 66 = .other := by kernel_rfl
theorem te66 : telem Tryd.prog 66 = none := by kernel_rfl
theorem ts66 : tsize Tryd.prog 66 = 1 := by kernel_rfl
theorem tb66 : tbytes Tryd.prog 66 = 8 := by kernel_rfl
theorem tz66 : tzero Tryd.prog 66 = (some [.bad]) := by kernel_rfl
theorem ti66 : ti Tryd.prog 66 = ⟨1, 8, (some false), none, .other, (some [.bad])⟩ := by kernel_rfl
theorem tn67 : tint Tryd.prog 67 = false := by kernel_rfl
theorem ty67 : tbyte Tryd.prog 67 = false := by kernel_rfl
theorem tk67 : tkind Tryd.prog 67 = .other := by kernel_rfl
theorem te67 : telem Tryd.prog 67 = none := by kernel_rfl
theorem ts67 : tsize Tryd.prog 67 = 1 := by kernel_rfl
theorem tb67 : tbytes Tryd.prog 67 = 8 := by kernel_rfl
theorem tz67 : tzero Tryd.prog 67 = (some [.bad]) := by kernel_rfl
theorem ti67 : ti Tryd.prog 67 = ⟨1, 8, (some false), none, .other, (some [.bad])⟩ := by kernel_rfl
theorem tn68 : tint Tryd.prog 68 = false := by kernel_rfl
theorem ty68 : tbyte Tryd.prog 68 = false := by kernel_rfl
theorem tk68 : tkind Tryd.prog 68 = .other := by kernel_rfl
theorem te68 : telem Tryd.prog 68 = none := by kernel_rfl
theorem ts68 : tsize Tryd.prog 68 = 1 := by kernel_rfl
theorem tb68 : tbytes Tryd.prog 68 = 8 := by kernel_rfl
theorem tz68 : tzero Tryd.prog 68 = (some [.bad]) := by kernel_rfl
theorem ti68 : ti Tryd.prog 68 = ⟨1, 8, (some false), none, .other, (some [.bad])⟩ := by kernel_rfl
theorem tn69 : tint Tryd.prog 69 = false := by kernel_rfl
theorem ty69 : tbyte Tryd.prog 69 = false := by kernel_rfl
theorem tk69 : tkind Tryd.prog 69 = .other := by kernel_rfl
theorem te69 : telem Tryd.prog 69 = none := by kernel_rfl
theorem ts69 : tsize Tryd.prog 69 = 24 := by kernel_rfl
theorem tb69 : tbytes Tryd.prog 69 = 24 := by kernel_rfl
theorem tz69 : tzero Tryd.prog 69 = (some [.int .u8 (0), .int .u8 (0), .int .u8 (0), .int .u8 (0), .int .u8 (0), .int .u8 (0), .int .u8 (0), .int .u8 (0), .int .u8 (0), .int .u8 (0), .int .u8 (0), .int .u8 (0), .int .u8 (0), .int .u8 (0), .int .u8 (0), .int .u8 (0), .int .u8 (0), .int .u8 (0), .int .u8 (0), .int .u8 (0), .int .u8 (0), .int .u8 (0), .int .u8 (0), .int .u8 (0)]) := by kernel_rfl
theorem ti69 : ti Tryd.prog 69 = ⟨24, 24, (some true), none, .other, (some [.int .u8 (0), .int .u8 (0), .int .u8 (0), .int .u8 (0), .int .u8 (0), .int .u8 (0), .int .u8 (0), .int .u8 (0), .int .u8 (0), .int .u8 (0), .int .u8 (0), .int .u8 (0), .int .u8 (0), .int .u8 (0), .int .u8 (0), .int .u8 (0), .int .u8 (0), .int .u8 (0), .int .u8 (0), .int .u8 (0), .int .u8 (0), .int .u8 (0), .int .u8 (0), .int .u8 (0)])⟩ := by kernel_rfl
theorem tn70 : tint Tryd.prog 70 = true := by kernel_rfl
theorem ty70 : tbyte Tryd.prog 70 = false := by kernel_rfl
theorem tk70 : tkind Tryd.prog 70 = (.int .u64) := by kernel_rfl
theorem te70 : telem Tryd.prog 70 = none := by kernel_rfl
theorem ts70 : tsize Tryd.prog 70 = 1 := by kernel_rfl
theorem tb70 : tbytes Tryd.prog 70 = 8 := by kernel_rfl
theorem tz70 : tzero Tryd.prog 70 = (some [.int .u64 (0)]) := by kernel_rfl
theorem ti70 : ti Tryd.prog 70 = ⟨1, 8, (some false), none, (.int .u64), (some [.int .u64 (0)])⟩ := by kernel_rfl
theorem tn71 : tint Tryd.prog 71 = false := by kernel_rfl
theorem ty71 : tbyte Tryd.prog 71 = false := by kernel_rfl
theorem tk71 : tkind Tryd.prog 71 = .other := by kernel_rfl
theorem te71 : telem Tryd.prog 71 = none := by kernel_rfl
theorem ts71 : tsize Tryd.prog 71 = 1 := by kernel_rfl
theorem tb71 : tbytes Tryd.prog 71 = 8 := by kernel_rfl
theorem tz71 : tzero Tryd.prog 71 = (some [.bad]) := by kernel_rfl
theorem ti71 : ti Tryd.prog 71 = ⟨1, 8, (some false), none, .other, (some [.bad])⟩ := by kernel_rfl
theorem tn72 : tint Tryd.prog 72 = false := by kernel_rfl
theorem ty72 : tbyte Tryd.prog 72 = false := by kernel_rfl
theorem tk72 : tkind Tryd.prog 72 = .other := by kernel_rfl
theorem te72 : telem Tryd.prog 72 = none := by kernel_rfl
theorem ts72 : tsize Tryd.prog 72 = 1 := by kernel_rfl
theorem tb72 : tbytes Tryd.prog 72 = 8 := by kernel_rfl
theorem tz72 : tzero Tryd.prog 72 = (some [.bad]) := by kernel_rfl
theorem ti72 : ti Tryd.prog 72 = ⟨1, 8, (some false), none, .other, (some [.bad])⟩ := by kernel_rfl
theorem tn73 : tint Tryd.prog 73 = false := by kernel_rfl
theorem ty73 : tbyte Tryd.prog 73 = false := by kernel_rfl
theorem tk73 : tkind Tryd.prog 73 = .other := by kernel_rfl
theorem te73 : telem Tryd.prog 73 = none := by kernel_rfl
theorem ts73 : tsize Tryd.prog 73 = 1 := by kernel_rfl
theorem tb73 : tbytes Tryd.prog 73 = 0 := by kernel_rfl
theorem tz73 : tzero Tryd.prog 73 = none := by kernel_rfl
theorem ti73 : ti Tryd.prog 73 = ⟨1, 0, (some false), none, .other, none⟩ := by kernel_rfl
theorem tn74 : tint Tryd.prog 74 = false := by kernel_rfl
theorem ty74 : tbyte Tryd.prog 74 = false := by kernel_rfl
theorem tk74 : tkind Tryd.prog 74 = .other := by kernel_rfl
theorem te74 : telem Tryd.prog 74 = none := by kernel_rfl
theorem ts74 : tsize Tryd.prog 74 = 1 := by kernel_rfl
theorem tb74 : tbytes Tryd.prog 74 = 8 := by kernel_rfl
theorem tz74 : tzero Tryd.prog 74 = (some [.bad]) := by kernel_rfl
theorem ti74 : ti Tryd.prog 74 = ⟨1, 8, (some false), none, .other, (some [.bad])⟩ := by kernel_rfl
theorem tn75 : tint Tryd.prog 75 = false := by kernel_rfl
theorem ty75 : tbyte Tryd.prog 75 = false := by kernel_rfl
theorem tk75 : tkind Tryd.prog 75 = .other := by kernel_rfl
theorem te75 : telem Tryd.prog 75 = none := by kernel_rfl
theorem ts75 : tsize Tryd.prog 75 = 1 := by kernel_rfl
theorem tb75 : tbytes Tryd.prog 75 = 8 := by kernel_rfl
theorem tz75 : tzero Tryd.prog 75 = (some [.bad]) := by kernel_rfl
theorem ti75 : ti Tryd.prog 75 = ⟨1, 8, (some false), none, .other, (some [.bad])⟩ := by kernel_rfl
theorem tn76 : tint Tryd.prog 76 = false := by kernel_rfl
theorem ty76 : tbyte Tryd.prog 76 = false := by kernel_rfl
theorem tk76 : tkind Tryd.prog 76 = .other := by kernel_rfl
theorem te76 : telem Tryd.prog 76 = none := by kernel_rfl
theorem ts76 : tsize Tryd.prog 76 = 1 := by kernel_rfl
theorem tb76 : tbytes Tryd.prog 76 = 8 := by kernel_rfl
theorem tz76 : tzero Tryd.prog 76 = (some [.bad]) := by kernel_rfl
theorem ti76 : ti Tryd.prog 76 = ⟨1, 8, (some false), none, .other, (some [.bad])⟩ := by kernel_rfl
theorem tn77 : tint Tryd.prog 77 = false := by kernel_rfl
theorem ty77 : tbyte Tryd.prog 77 = false := by kernel_rfl
theorem tk77 : tkind Tryd.prog 77 = .other := by kernel_rfl
theorem te77 : telem Tryd.prog 77 = none := by kernel_rfl
theorem ts77 : tsize Tryd.prog 77 = 1 := by kernel_rfl
theorem tb77 : tbytes Tryd.prog 77 = 8 := by kernel_rfl
theorem tz77 : tzero Tryd.prog 77 = (some [.bad]) := by kernel_rfl
theorem ti77 : ti Tryd.prog 77 = ⟨1, 8, (some false), none, .other, (some [.bad])⟩ := by kernel_rfl
theorem tn78 : tint Tryd.prog 78 = false := by kernel_rfl
theorem ty78 : tbyte Tryd.prog 78 = false := by kernel_rfl
theorem tk78 : tkind Tryd.prog 78 = .other := by kernel_rfl
theorem te78 : telem Tryd.prog 78 = none := by kernel_rfl
theorem ts78 : tsize Tryd.prog 78 = 20 := by kernel_rfl
theorem tb78 : tbytes Tryd.prog 78 = 160 := by kernel_rfl
theorem tz78 : tzero Tryd.prog 78 = (some [.int .u64 (0), .int .u64 (0), .int .u64 (0), .int .u64 (0), .int .u64 (0), .int .u64 (0), .int .u64 (0), .int .u64 (0), .int .u64 (0), .int .u64 (0), .int .u64 (0), .int .u64 (0), .int .u64 (0), .int .u64 (0), .int .u64 (0), .int .u64 (0), .int .u64 (0), .int .u64 (0), .int .u64 (0), .int .u64 (0)]) := by kernel_rfl
theorem ti78 : ti Tryd.prog 78 = ⟨20, 160, (some true), none, .other, (some [.int .u64 (0), .int .u64 (0), .int .u64 (0), .int .u64 (0), .int .u64 (0), .int .u64 (0), .int .u64 (0), .int .u64 (0), .int .u64 (0), .int .u64 (0), .int .u64 (0), .int .u64 (0), .int .u64 (0), .int .u64 (0), .int .u64 (0), .int .u64 (0), .int .u64 (0), .int .u64 (0), .int .u64 (0), .int .u64 (0)])⟩ := by kernel_rfl
theorem tn79 : tint Tryd.prog 79 = true := by kernel_rfl
theorem ty79 : tbyte Tryd.prog 79 = false := by kernel_rfl
theorem tk79 : tkind Tryd.prog 79 = (.int .u32) := by kernel_rfl
theorem te79 : telem Tryd.prog 79 = none := by kernel_rfl
theorem ts79 : tsize Tryd.prog 79 = 1 := by kernel_rfl
theorem tb79 : tbytes Tryd.prog 79 = 4 := by kernel_rfl
theorem tz79 : tzero Tryd.prog 79 = (some [.int .u32 (0)]) := by kernel_rfl
theorem ti79 : ti Tryd.prog 79 = ⟨1, 4, (some false), none, (.int .u32), (some [.int .u32 (0)])⟩ := by kernel_rfl
theorem tn80 : tint Tryd.prog 80 = false := by kernel_rfl
theorem ty80 : tbyte Tryd.prog 80 = false := by kernel_rfl
theorem tk80 : tkind Tryd.prog 80 = .other := by kernel_rfl
theorem te80 : telem Tryd.prog 80 = none := by kernel_rfl
theorem ts80 : tsize Tryd.prog 80 = 65 := by kernel_rfl
theorem tb80 : tbytes Tryd.prog 80 = 65 := by kernel_rfl
theorem tz80 : tzero Tryd.prog 80 = (some [.int .u8 (0), .int .u8 (0), .int .u8 (0), .int .u8 (0), .int .u8 (0), .int .u8 (0), .int .u8 (0), .int .u8 (0), .int .u8 (0), .int .u8 (0), .int .u8 (0), .int .u8 (0), .int .u8 (0), .int .u8 (0), .int .u8 (0), .int .u8 (0), .int .u8 (0), .int .u8 (0), .int .u8 (0), .int .u8 (0), .int .u8 (0), .int .u8 (0), .int .u8 (0), .int .u8 (0), .int .u8 (0), .int .u8 (0), .int .u8 (0), .int .u8 (0), .int .u8 (0), .int .u8 (0), .int .u8 (0), .int .u8 (0), .int .u8 (0), .int .u8 (0), .int .u8 (0), .int .u8 (0), .int .u8 (0), .int .u8 (0), .int .u8 (0), .int .u8 (0), .int .u8 (0), .int .u8 (0), .int .u8 (0), .int .u8 (0), .int .u8 (0), .int .u8 (0), .int .u8 (0), .int .u8 (0), .int .u8 (0), .int .u8 (0), .int .u8 (0), .int .u8 (0), .int .u8 (0), .int .u8 (0), .int .u8 (0), .int .u8 (0), .int .u8 (0), .int .u8 (0), .int .u8 (0), .int .u8 (0), .int .u8 (0), .int .u8 (0), .int .u8 (0), .int .u8 (0), .int .u8 (0)]) := by kernel_rfl
theorem ti80 : ti Tryd.prog 80 = ⟨65, 65, (some true), none, .other, (some [.int .u8 (0), .int .u8 (0), .int .u8 (0), .int .u8 (0), .int .u8 (0), .int .u8 (0), .int .u8 (0), .int .u8 (0), .int .u8 (0), .int .u8 (0), .int .u8 (0), .int .u8 (0), .int .u8 (0), .int .u8 (0), .int .u8 (0), .int .u8 (0), .int .u8 (0), .int .u8 (0), .int .u8 (0), .int .u8 (0), .int .u8 (0), .int .u8 (0), .int .u8 (0), .int .u8 (0), .int .u8 (0), .int .u8 (0), .int .u8 (0), .int .u8 (0), .int .u8 (0), .int .u8 (0), .int .u8 (0), .int .u8 (0), .int .u8 (0), .int .u8 (0), .int .u8 (0), .int .u8 (0), .int .u8 (0), .int .u8 (0), .int .u8 (0), .int .u8 (0), .int .u8 (0), .int .u8 (0), .int .u8 (0), .int .u8 (0), .int .u8 (0), .int .u8 (0), .int .u8 (0), .int .u8 (0), .int .u8 (0), .int .u8 (0), .int .u8 (0), .int .u8 (0), .int .u8 (0), .int .u8 (0), .int .u8 (0), .int .u8 (0), .int .u8 (0), .int .u8 (0), .int .u8 (0), .int .u8 (0), .int .u8 (0), .int .u8 (0), .int .u8 (0), .int .u8 (0), .int .u8 (0)])⟩ := by kernel_rfl
theorem tn81 : tint Tryd.prog 81 = false := by kernel_rfl
theorem ty81 : tbyte Tryd.prog 81 = false := by kernel_rfl
theorem tk81 : tkind Tryd.prog 81 = .other := by kernel_rfl
theorem te81 : telem Tryd.prog 81 = none := by kernel_rfl
theorem ts81 : tsize Tryd.prog 81 = 1 := by kernel_rfl
theorem tb81 : tbytes Tryd.prog 81 = 8 := by kernel_rfl
theorem tz81 : tzero Tryd.prog 81 = (some [.bad]) := by kernel_rfl
theorem ti81 : ti Tryd.prog 81 = ⟨1, 8, (some false), none, .other, (some [.bad])⟩ := by kernel_rfl
theorem tn82 : tint Tryd.prog 82 = true := by kernel_rfl
theorem ty82 : tbyte Tryd.prog 82 = false := by kernel_rfl
theorem tk82 : tkind Tryd.prog 82 = (.int .u64) := by kernel_rfl
theorem te82 : telem Tryd.prog 82 = none := by kernel_rfl
theorem ts82 : tsize Tryd.prog 82 = 1 := by kernel_rfl
theorem tb82 : tbytes Tryd.prog 82 = 8 := by kernel_rfl
theorem tz82 : tzero Tryd.prog 82 = (some [.int .u64 (0)]) := by kernel_rfl
theorem ti82 : ti Tryd.prog 82 = ⟨1, 8, (some false), none, (.int .u64), (some [.int .u64 (0)])⟩ := by kernel_rfl
theorem tn83 : tint Tryd.prog 83 = false := by kernel_rfl
theorem ty83 : tbyte Tryd.prog 83 = false := by kernel_rfl
theorem tk83 : tkind Tryd.prog 83 = .other := by kernel_rfl
theorem te83 : telem Tryd.prog 83 = none := by kernel_rfl
theorem ts83 : tsize Tryd.prog 83 = 1 := by kernel_rfl
theorem tb83 : tbytes Tryd.prog 83 = 8 := by kernel_rfl
theorem tz83 : tzero Tryd.prog 83 = (some [.bad]) := by kernel_rfl
theorem ti83 : ti Tryd.prog 83 = ⟨1, 8, (some false), none, .other, (some [.bad])⟩ := by kernel_rfl
theorem tn84 : tint Tryd.prog 84 = false := by kernel_rfl
theorem ty84 : tbyte Tryd.prog 84 = false := by kernel_rfl
theorem tk84 : tkind Tryd.prog 84 = .other := by kernel_rfl
theorem te84 : telem Tryd.prog 84 = none := by kernel_rfl
theorem ts84 : tsize Tryd.prog 84 = 1 := by kernel_rfl
theorem tb84 : tbytes Tryd.prog 84 = 8 := by kernel_rfl
theorem tz84 : tzero Tryd.prog 84 = (some [.bad]) := by kernel_rfl
theorem ti84 : ti Tryd.prog 84 = ⟨1, 8, (some false), none, .other, (some [.bad])⟩ := by kernel_rfl
theorem tn85 : tint Tryd.prog 85 = false := by kernel_rfl
theorem ty85 : tbyte Tryd.prog 85 = false := by kernel_rfl
theorem tk85 : tkind Tryd.prog 85 = .other := by kernel_rfl
theorem te85 : telem Tryd.prog 85 = none := by kernel_rfl
theorem ts85 : tsize Tryd.prog 85 = 256 := by kernel_rfl
theorem tb85 : tbytes Tryd.prog 85 = 256 := by kernel_rfl
theorem tz85 : tzero Tryd.prog 85 = (some [.int .u8 (0), .int .u8 (0), .int .u8 (0), .int .u8 (0), .int .u8 (0), .int .u8 (0), .int .u8 (0), .int .u8 (0), .int .u8 (0), .int .u8 (0), .int .u8 (0), .int .u8 (0), .int .u8 (0), .int .u8 (0), .int .u8 (0), .int .u8 (0), .int .u8 (0), .int .u8 (0), .int .u8 (0), .int .u8 (0), .int .u8 (0), .int .u8 (0), .int .u8 (0), .int .u8 (0), .int .u8 (0), .int .u8 (0), .int .u8 (0), .int .u8 (0), .int .u8 (0), .int .u8 (0), .int .u8 (0), .int .u8 (0), .int .u8 (0), .int .u8 (0), .int .u8 (0), .int .u8 (0), .int .u8 (0), .int .u8 (0), .int .u8 (0), .int .u8 (0), .int .u8 (0), .int .u8 (0), .int .u8 (0), .int .u8 (0), .int .u8 (0), .int .u8 (0), .int .u8 (0), .int .u8 (0), .int .u8 (0), .int .u8 (0), .int .u8 (0), .int .u8 (0), .int .u8 (0), .int .u8 (0), .int .u8 (0), .int .u8 (0), .int .u8 (0), .int .u8 (0), .int .u8 (0), .int .u8 (0), .int .u8 (0), .int .u8 (0), .int .u8 (0), .int .u8 (0), .int .u8 (0), .int .u8 (0), .int .u8 (0), .int .u8 (0), .int .u8 (0), .int .u8 (0), .int .u8 (0), .int .u8 (0), .int .u8 (0), .int .u8 (0), .int .u8 (0), .int .u8 (0), .int .u8 (0), .int .u8 (0), .int .u8 (0), .int .u8 (0), .int .u8 (0), .int .u8 (0), .int .u8 (0), .int .u8 (0), .int .u8 (0), .int .u8 (0), .int .u8 (0), .int .u8 (0), .int .u8 (0), .int .u8 (0), .int .u8 (0), .int .u8 (0), .int .u8 (0), .int .u8 (0), .int .u8 (0), .int .u8 (0), .int .u8 (0), .int .u8 (0), .int .u8 (0), .int .u8 (0), .int .u8 (0), .int .u8 (0), .int .u8 (0), .int .u8 (0), .int .u8 (0), .int .u8 (0), .int .u8 (0), .int .u8 (0), .int .u8 (0), .int .u8 (0), .int .u8 (0), .int .u8 (0), .int .u8 (0), .int .u8 (0), .int .u8 (0), .int .u8 (0), .int .u8 (0), .int .u8 (0), .int .u8 (0), .int .u8 (0), .int .u8 (0), .int .u8 (0), .int .u8 (0), .int .u8 (0), .int .u8 (0), .int .u8 (0), .int .u8 (0), .int .u8 (0), .int .u8 (0), .int .u8 (0), .int .u8 (0), .int .u8 (0), .int .u8 (0), .int .u8 (0), .int .u8 (0), .int .u8 (0), .int .u8 (0), .int .u8 (0), .int .u8 (0), .int .u8 (0), .int .u8 (0), .int .u8 (0), .int .u8 (0), .int .u8 (0), .int .u8 (0), .int .u8 (0), .int .u8 (0), .int .u8 (0), .int .u8 (0), .int .u8 (0), .int .u8 (0), .int .u8 (0), .int .u8 (0), .int .u8 (0), .int .u8 (0), .int .u8 (0), .int .u8 (0), .int .u8 (0), .int .u8 (0), .int .u8 (0), .int .u8 (0), .int .u8 (0), .int .u8 (0), .int .u8 (0), .int .u8 (0), .int .u8 (0), .int .u8 (0), .int .u8 (0), .int .u8 (0), .int .u8 (0), .int .u8 (0), .int .u8 (0), .int .u8 (0), .int .u8 (0), .int .u8 (0), .int .u8 (0), .int .u8 (0), .int .u8 (0), .int .u8 (0), .int .u8 (0), .int .u8 (0), .int .u8 (0), .int .u8 (0), .int .u8 (0), .int .u8 (0), .int .u8 (0), .int .u8 (0), .int .u8 (0), .int .u8 (0), .int .u8 (0), .int .u8 (0), .int .u8 (0), .int .u8 (0), .int .u8 (0), .int .u8 (0), .int .u8 (0), .int .u8 (0), .int .u8 (0), .int .u8 (0), .int .u8 (0), .int .u8 (0), .int .u8 (0), .int .u8 (0), .int .u8 (0), .int .u8 (0), .int .u8 (0), .int .u8 (0), .int .u8 (0), .int .u8 (0), .int .u8 (0), .int .u8 (0), .int .u8 (0), .int .u8 (0), .int .u8 (0), .int .u8 (0), .int .u8 (0), .int .u8 (0), .int .u8 (0), .int .u8 (0), .int .u8 (0), .int .u8 (0), .int .u8 (0), .int .u8 (0), .int .u8 (0), .int .u8 (0), .int .u8 (0), .int .u8 (0), .int .u8 (0), .int .u8 (0), .int .u8 (0), .int .u8 (0), .int .u8 (0), .int .u8 (0), .int .u8 (0), .int .u8 (0), .int .u8 (0), .int .u8 (0), .int .u8 (0), .int .u8 (0), .int .u8 (0), .int .u8 (0), .int .u8 (0), .int .u8 (0), .int .u8 (0), .int .u8 (0), .int .u8 (0), .int .u8 (0), .int .u8 (0), .int .u8 (0), .int .u8 (0), .int .u8 (0), .int .u8 (0), .int .u8 (0), .int .u8 (0), .int .u8 (0), .int .u8 (0)]) := by kernel_rfl
theorem ti85 : ti Tryd.prog 85 = ⟨256, 256, (some true), none, .other, (some [.int .u8 (0), .int .u8 (0), .int .u8 (0), .int .u8 (0), .int .u8 (0), .int .u8 (0), .int .u8 (0), .int .u8 (0), .int .u8 (0), .int .u8 (0), .int .u8 (0), .int .u8 (0), .int .u8 (0), .int .u8 (0), .int .u8 (0), .int .u8 (0), .int .u8 (0), .int .u8 (0), .int .u8 (0), .int .u8 (0), .int .u8 (0), .int .u8 (0), .int .u8 (0), .int .u8 (0), .int .u8 (0), .int .u8 (0), .int .u8 (0), .int .u8 (0), .int .u8 (0), .int .u8 (0), .int .u8 (0), .int .u8 (0), .int .u8 (0), .int .u8 (0), .int .u8 (0), .int .u8 (0), .int .u8 (0), .int .u8 (0), .int .u8 (0), .int .u8 (0), .int .u8 (0), .int .u8 (0), .int .u8 (0), .int .u8 (0), .int .u8 (0), .int .u8 (0), .int .u8 (0), .int .u8 (0), .int .u8 (0), .int .u8 (0), .int .u8 (0), .int .u8 (0), .int .u8 (0), .int .u8 (0), .int .u8 (0), .int .u8 (0), .int .u8 (0), .int .u8 (0), .int .u8 (0), .int .u8 (0), .int .u8 (0), .int .u8 (0), .int .u8 (0), .int .u8 (0), .int .u8 (0), .int .u8 (0), .int .u8 (0), .int .u8 (0), .int .u8 (0), .int .u8 (0), .int .u8 (0), .int .u8 (0), .int .u8 (0), .int .u8 (0), .int .u8 (0), .int .u8 (0), .int .u8 (0), .int .u8 (0), .int .u8 (0), .int .u8 (0), .int .u8 (0), .int .u8 (0), .int .u8 (0), .int .u8 (0), .int .u8 (0), .int .u8 (0), .int .u8 (0), .int .u8 (0), .int .u8 (0), .int .u8 (0), .int .u8 (0), .int .u8 (0), .int .u8 (0), .int .u8 (0), .int .u8 (0), .int .u8 (0), .int .u8 (0), .int .u8 (0), .int .u8 (0), .int .u8 (0), .int .u8 (0), .int .u8 (0), .int .u8 (0), .int .u8 (0), .int .u8 (0), .int .u8 (0), .int .u8 (0), .int .u8 (0), .int .u8 (0), .int .u8 (0), .int .u8 (0), .int .u8 (0), .int .u8 (0), .int .u8 (0), .int .u8 (0), .int .u8 (0), .int .u8 (0), .int .u8 (0), .int .u8 (0), .int .u8 (0), .int .u8 (0), .int .u8 (0), .int .u8 (0), .int .u8 (0), .int .u8 (0), .int .u8 (0), .int .u8 (0), .int .u8 (0), .int .u8 (0), .int .u8 (0), .int .u8 (0), .int .u8 (0), .int .u8 (0), .int .u8 (0), .int .u8 (0), .int .u8 (0), .int .u8 (0), .int .u8 (0), .int .u8 (0), .int .u8 (0), .int .u8 (0), .int .u8 (0), .int .u8 (0), .int .u8 (0), .int .u8 (0), .int .u8 (0), .int .u8 (0), .int .u8 (0), .int .u8 (0), .int .u8 (0), .int .u8 (0), .int .u8 (0), .int .u8 (0), .int .u8 (0), .int .u8 (0), .int .u8 (0), .int .u8 (0), .int .u8 (0), .int .u8 (0), .int .u8 (0), .int .u8 (0), .int .u8 (0), .int .u8 (0), .int .u8 (0), .int .u8 (0), .int .u8 (0), .int .u8 (0), .int .u8 (0), .int .u8 (0), .int .u8 (0), .int .u8 (0), .int .u8 (0), .int .u8 (0), .int .u8 (0), .int .u8 (0), .int .u8 (0), .int .u8 (0), .int .u8 (0), .int .u8 (0), .int .u8 (0), .int .u8 (0), .int .u8 (0), .int .u8 (0), .int .u8 (0), .int .u8 (0), .int .u8 (0), .int .u8 (0), .int .u8 (0), .int .u8 (0), .int .u8 (0), .int .u8 (0), .int .u8 (0), .int .u8 (0), .int .u8 (0), .int .u8 (0), .int .u8 (0), .int .u8 (0), .int .u8 (0), .int .u8 (0), .int .u8 (0), .int .u8 (0), .int .u8 (0), .int .u8 (0), .int .u8 (0), .int .u8 (0), .int .u8 (0), .int .u8 (0), .int .u8 (0), .int .u8 (0), .int .u8 (0), .int .u8 (0), .int .u8 (0), .int .u8 (0), .int .u8 (0), .int .u8 (0), .int .u8 (0), .int .u8 (0), .int .u8 (0), .int .u8 (0), .int .u8 (0), .int .u8 (0), .int .u8 (0), .int .u8 (0), .int .u8 (0), .int .u8 (0), .int .u8 (0), .int .u8 (0), .int .u8 (0), .int .u8 (0), .int .u8 (0), .int .u8 (0), .int .u8 (0), .int .u8 (0), .int .u8 (0), .int .u8 (0), .int .u8 (0), .int .u8 (0), .int .u8 (0), .int .u8 (0), .int .u8 (0), .int .u8 (0), .int .u8 (0), .int .u8 (0), .int .u8 (0), .int .u8 (0), .int .u8 (0), .int .u8 (0), .int .u8 (0), .int .u8 (0), .int .u8 (0), .int .u8 (0), .int .u8 (0), .int .u8 (0), .int .u8 (0), .int .u8 (0), .int .u8 (0)])⟩ := by kernel_rfl
theorem pl86 : tplaces Tryd.prog 86 = (some [(0, 1), (1, 1)]) := by kernel_rfl
theorem tf86_0 : tfield Tryd.prog 86 0 = (some (0, 5)) := by kernel_rfl
theorem tf86_1 : tfield Tryd.prog 86 1 = (some (1, 5)) := by kernel_rfl
theorem tn86 : tint Tryd.prog 86 = false := by kernel_rfl
theorem ty86 : tbyte Tryd.prog 86 = false := by kernel_rfl
theorem tk86 : tkind Tryd.prog 86 = (.flat [1, 1]) := by kernel_rfl
theorem te86 : telem Tryd.prog 86 = none := by kernel_rfl
theorem ts86 : tsize Tryd.prog 86 = 2 := by kernel_rfl
theorem tb86 : tbytes Tryd.prog 86 = 2 := by kernel_rfl
theorem tz86 : tzero Tryd.prog 86 = (some [.int .u8 (0), .int .u8 (0)]) := by kernel_rfl
theorem ti86 : ti Tryd.prog 86 = ⟨2, 2, (some true), none, (.flat [1, 1]), (some [.int .u8 (0), .int .u8 (0)])⟩ := by kernel_rfl
theorem pl87 : tplaces Tryd.prog 87 = (some [(0, 1), (1, 1)]) := by kernel_rfl
theorem tf87_0 : tfield Tryd.prog 87 0 = (some (0, 5)) := by kernel_rfl
theorem tf87_1 : tfield Tryd.prog 87 1 = (some (1, 5)) := by kernel_rfl
theorem tn87 : tint Tryd.prog 87 = false := by kernel_rfl
theorem ty87 : tbyte Tryd.prog 87 = false := by kernel_rfl
theorem tk87 : tkind Tryd.prog 87 = (.flat [1, 1]) := by kernel_rfl
theorem te87 : telem Tryd.prog 87 = none := by kernel_rfl
theorem ts87 : tsize Tryd.prog 87 = 2 := by kernel_rfl
theorem tb87 : tbytes Tryd.prog 87 = 2 := by kernel_rfl
theorem tz87 : tzero Tryd.prog 87 = (some [.int .u8 (0), .int .u8 (0)]) := by kernel_rfl
theorem ti87 : ti Tryd.prog 87 = ⟨2, 2, (some true), none, (.flat [1, 1]), (some [.int .u8 (0), .int .u8 (0)])⟩ := by kernel_rfl
theorem tn88 : tint Tryd.prog 88 = false := by kernel_rfl
theorem ty88 : tbyte Tryd.prog 88 = false := by kernel_rfl
theorem tk88 : tkind Tryd.prog 88 = .other := by kernel_rfl
theorem te88 : telem Tryd.prog 88 = none := by kernel_rfl
theorem ts88 : tsize Tryd.prog 88 = 32 := by kernel_rfl
theorem tb88 : tbytes Tryd.prog 88 = 32 := by kernel_rfl
theorem tz88 : tzero Tryd.prog 88 = (some [.int .u8 (0), .int .u8 (0), .int .u8 (0), .int .u8 (0), .int .u8 (0), .int .u8 (0), .int .u8 (0), .int .u8 (0), .int .u8 (0), .int .u8 (0), .int .u8 (0), .int .u8 (0), .int .u8 (0), .int .u8 (0), .int .u8 (0), .int .u8 (0), .int .u8 (0), .int .u8 (0), .int .u8 (0), .int .u8 (0), .int .u8 (0), .int .u8 (0), .int .u8 (0), .int .u8 (0), .int .u8 (0), .int .u8 (0), .int .u8 (0), .int .u8 (0), .int .u8 (0), .int .u8 (0), .int .u8 (0), .int .u8 (0)]) := by kernel_rfl
theorem ti88 : ti Tryd.prog 88 = ⟨32, 32, (some true), none, .other, (some [.int .u8 (0), .int .u8 (0), .int .u8 (0), .int .u8 (0), .int .u8 (0), .int .u8 (0), .int .u8 (0), .int .u8 (0), .int .u8 (0), .int .u8 (0), .int .u8 (0), .int .u8 (0), .int .u8 (0), .int .u8 (0), .int .u8 (0), .int .u8 (0), .int .u8 (0), .int .u8 (0), .int .u8 (0), .int .u8 (0), .int .u8 (0), .int .u8 (0), .int .u8 (0), .int .u8 (0), .int .u8 (0), .int .u8 (0), .int .u8 (0), .int .u8 (0), .int .u8 (0), .int .u8 (0), .int .u8 (0), .int .u8 (0)])⟩ := by kernel_rfl
theorem tn89 : tint Tryd.prog 89 = false := by kernel_rfl
theorem ty89 : tbyte Tryd.prog 89 = false := by kernel_rfl
theorem tk89 : tkind Tryd.prog 89 = .other := by kernel_rfl
theorem te89 : telem Tryd.prog 89 = none := by kernel_rfl
theorem ts89 : tsize Tryd.prog 89 = 1 := by kernel_rfl
theorem tb89 : tbytes Tryd.prog 89 = 8 := by kernel_rfl
theorem tz89 : tzero Tryd.prog 89 = (some [.bad]) := by kernel_rfl
theorem ti89 : ti Tryd.prog 89 = ⟨1, 8, (some false), none, .other, (some [.bad])⟩ := by kernel_rfl
theorem tn90 : tint Tryd.prog 90 = false := by kernel_rfl
theorem ty90 : tbyte Tryd.prog 90 = false := by kernel_rfl
theorem tk90 : tkind Tryd.prog 90 = .other := by kernel_rfl
theorem te90 : telem Tryd.prog 90 = none := by kernel_rfl
theorem ts90 : tsize Tryd.prog 90 = 1 := by kernel_rfl
theorem tb90 : tbytes Tryd.prog 90 = 0 := by kernel_rfl
theorem tz90 : tzero Tryd.prog 90 = none := by kernel_rfl
theorem ti90 : ti Tryd.prog 90 = ⟨1, 0, (some false), none, .other, none⟩ := by kernel_rfl
theorem tn91 : tint Tryd.prog 91 = false := by kernel_rfl
theorem ty91 : tbyte Tryd.prog 91 = false := by kernel_rfl
theorem tk91 : tkind Tryd.prog 91 = .other := by kernel_rfl
theorem te91 : telem Tryd.prog 91 = none := by kernel_rfl
theorem ts91 : tsize Tryd.prog 91 = 1 := by kernel_rfl
theorem tb91 : tbytes Tryd.prog 91 = 8 := by kernel_rfl
theorem tz91 : tzero Tryd.prog 91 = (some [.bad]) := by kernel_rfl
theorem ti91 : ti Tryd.prog 91 = ⟨1, 8, (some false), none, .other, (some [.bad])⟩ := by kernel_rfl
theorem tn92 : tint Tryd.prog 92 = false := by kernel_rfl
theorem ty92 : tbyte Tryd.prog 92 = false := by kernel_rfl
theorem tk92 : tkind Tryd.prog 92 = .other := by kernel_rfl
theorem te92 : telem Tryd.prog 92 = none := by kernel_rfl
theorem ts92 : tsize Tryd.prog 92 = 32 := by kernel_rfl
theorem tb92 : tbytes Tryd.prog 92 = 32 := by kernel_rfl
theorem tz92 : tzero Tryd.prog 92 = (some [.int .u8 (0), .int .u8 (0), .int .u8 (0), .int .u8 (0), .int .u8 (0), .int .u8 (0), .int .u8 (0), .int .u8 (0), .int .u8 (0), .int .u8 (0), .int .u8 (0), .int .u8 (0), .int .u8 (0), .int .u8 (0), .int .u8 (0), .int .u8 (0), .int .u8 (0), .int .u8 (0), .int .u8 (0), .int .u8 (0), .int .u8 (0), .int .u8 (0), .int .u8 (0), .int .u8 (0), .int .u8 (0), .int .u8 (0), .int .u8 (0), .int .u8 (0), .int .u8 (0), .int .u8 (0), .int .u8 (0), .int .u8 (0)]) := by kernel_rfl
theorem ti92 : ti Tryd.prog 92 = ⟨32, 32, (some true), none, .other, (some [.int .u8 (0), .int .u8 (0), .int .u8 (0), .int .u8 (0), .int .u8 (0), .int .u8 (0), .int .u8 (0), .int .u8 (0), .int .u8 (0), .int .u8 (0), .int .u8 (0), .int .u8 (0), .int .u8 (0), .int .u8 (0), .int .u8 (0), .int .u8 (0), .int .u8 (0), .int .u8 (0), .int .u8 (0), .int .u8 (0), .int .u8 (0), .int .u8 (0), .int .u8 (0), .int .u8 (0), .int .u8 (0), .int .u8 (0), .int .u8 (0), .int .u8 (0), .int .u8 (0), .int .u8 (0), .int .u8 (0), .int .u8 (0)])⟩ := by kernel_rfl
theorem tn93 : tint Tryd.prog 93 = false := by kernel_rfl
theorem ty93 : tbyte Tryd.prog 93 = false := by kernel_rfl
theorem tk93 : tkind Tryd.prog 93 = .other := by kernel_rfl
theorem te93 : telem Tryd.prog 93 = none := by kernel_rfl
theorem ts93 : tsize Tryd.prog 93 = 64 := by kernel_rfl
theorem tb93 : tbytes Tryd.prog 93 = 64 := by kernel_rfl
theorem tz93 : tzero Tryd.prog 93 = (some [.int .u8 (0), .int .u8 (0), .int .u8 (0), .int .u8 (0), .int .u8 (0), .int .u8 (0), .int .u8 (0), .int .u8 (0), .int .u8 (0), .int .u8 (0), .int .u8 (0), .int .u8 (0), .int .u8 (0), .int .u8 (0), .int .u8 (0), .int .u8 (0), .int .u8 (0), .int .u8 (0), .int .u8 (0), .int .u8 (0), .int .u8 (0), .int .u8 (0), .int .u8 (0), .int .u8 (0), .int .u8 (0), .int .u8 (0), .int .u8 (0), .int .u8 (0), .int .u8 (0), .int .u8 (0), .int .u8 (0), .int .u8 (0), .int .u8 (0), .int .u8 (0), .int .u8 (0), .int .u8 (0), .int .u8 (0), .int .u8 (0), .int .u8 (0), .int .u8 (0), .int .u8 (0), .int .u8 (0), .int .u8 (0), .int .u8 (0), .int .u8 (0), .int .u8 (0), .int .u8 (0), .int .u8 (0), .int .u8 (0), .int .u8 (0), .int .u8 (0), .int .u8 (0), .int .u8 (0), .int .u8 (0), .int .u8 (0), .int .u8 (0), .int .u8 (0), .int .u8 (0), .int .u8 (0), .int .u8 (0), .int .u8 (0), .int .u8 (0), .int .u8 (0), .int .u8 (0)]) := by kernel_rfl
theorem ti93 : ti Tryd.prog 93 = ⟨64, 64, (some true), none, .other, (some [.int .u8 (0), .int .u8 (0), .int .u8 (0), .int .u8 (0), .int .u8 (0), .int .u8 (0), .int .u8 (0), .int .u8 (0), .int .u8 (0), .int .u8 (0), .int .u8 (0), .int .u8 (0), .int .u8 (0), .int .u8 (0), .int .u8 (0), .int .u8 (0), .int .u8 (0), .int .u8 (0), .int .u8 (0), .int .u8 (0), .int .u8 (0), .int .u8 (0), .int .u8 (0), .int .u8 (0), .int .u8 (0), .int .u8 (0), .int .u8 (0), .int .u8 (0), .int .u8 (0), .int .u8 (0), .int .u8 (0), .int .u8 (0), .int .u8 (0), .int .u8 (0), .int .u8 (0), .int .u8 (0), .int .u8 (0), .int .u8 (0), .int .u8 (0), .int .u8 (0), .int .u8 (0), .int .u8 (0), .int .u8 (0), .int .u8 (0), .int .u8 (0), .int .u8 (0), .int .u8 (0), .int .u8 (0), .int .u8 (0), .int .u8 (0), .int .u8 (0), .int .u8 (0), .int .u8 (0), .int .u8 (0), .int .u8 (0), .int .u8 (0), .int .u8 (0), .int .u8 (0), .int .u8 (0), .int .u8 (0), .int .u8 (0), .int .u8 (0), .int .u8 (0), .int .u8 (0)])⟩ := by kernel_rfl
theorem tn94 : tint Tryd.prog 94 = false := by kernel_rfl
theorem ty94 : tbyte Tryd.prog 94 = false := by kernel_rfl
theorem tk94 : tkind Tryd.prog 94 = .other := by kernel_rfl
theorem te94 : telem Tryd.prog 94 = none := by kernel_rfl
theorem ts94 : tsize Tryd.prog 94 = 1 := by kernel_rfl
theorem tb94 : tbytes Tryd.prog 94 = 8 := by kernel_rfl
theorem tz94 : tzero Tryd.prog 94 = (some [.bad]) := by kernel_rfl
theorem ti94 : ti Tryd.prog 94 = ⟨1, 8, (some false), none, .other, (some [.bad])⟩ := by kernel_rfl
theorem pl95 : tplaces Tryd.prog 95 = (some [(0, 1), (1, 1), (2, 1), (3, 1)]) := by kernel_rfl
theorem tf95_0 : tfield Tryd.prog 95 0 = (some (0, 17)) := by kernel_rfl
theorem tf95_1 : tfield Tryd.prog 95 1 = (some (1, 17)) := by kernel_rfl
theorem tf95_2 : tfield Tryd.prog 95 2 = (some (2, 17)) := by kernel_rfl
theorem tf95_3 : tfield Tryd.prog 95 3 = (some (3, 9)) := by kernel_rfl
theorem tn95 : tint Tryd.prog 95 = false := by kernel_rfl
theorem ty95 : tbyte Tryd.prog 95 = false := by kernel_rfl
theorem tk95 : tkind Tryd.prog 95 = .other := by kernel_rfl
theorem te95 : telem Tryd.prog 95 = none := by kernel_rfl
theorem ts95 : tsize Tryd.prog 95 = 4 := by kernel_rfl
theorem tb95 : tbytes Tryd.prog 95 = 40 := by kernel_rfl
theorem tz95 : tzero Tryd.prog 95 = (some [.bad, .bad, .bad, .str []]) := by kernel_rfl
theorem ti95 : ti Tryd.prog 95 = ⟨4, 40, (some true), none, .other, (some [.bad, .bad, .bad, .str []])⟩ := by kernel_rfl
theorem pl96 : tplaces Tryd.prog 96 = (some [(0, 1), (1, 1), (2, 1), (3, 1)]) := by kernel_rfl
theorem tf96_0 : tfield Tryd.prog 96 0 = (some (0, 17)) := by kernel_rfl
theorem tf96_1 : tfield Tryd.prog 96 1 = (some (1, 17)) := by kernel_rfl
theorem tf96_2 : tfield Tryd.prog 96 2 = (some (2, 17)) := by kernel_rfl
theorem tf96_3 : tfield Tryd.prog 96 3 = (some (3, 9)) := by kernel_rfl
theorem tn96 : tint Tryd.prog 96 = false := by kernel_rfl
theorem ty96 : tbyte Tryd.prog 96 = false := by kernel_rfl
theorem tk96 : tkind Tryd.prog 96 = .other := by kernel_rfl
theorem te96 : telem Tryd.prog 96 = none := by kernel_rfl
theorem ts96 : tsize Tryd.prog 96 = 4 := by kernel_rfl
theorem tb96 : tbytes Tryd.prog 96 = 40 := by kernel_rfl
theorem tz96 : tzero Tryd.prog 96 = (some [.bad, .bad, .bad, .str []]) := by kernel_rfl
theorem ti96 : ti Tryd.prog 96 = ⟨4, 40, (some true), none, .other, (some [.bad, .bad, .bad, .str []])⟩ := by kernel_rfl
theorem tn97 : tint Tryd.prog 97 = false := by kernel_rfl
theorem ty97 : tbyte Tryd.prog 97 = false := by kernel_rfl
theorem tk97 : tkind Tryd.prog 97 = .other := by kernel_rfl
theorem te97 : telem Tryd.prog 97 = none := by kernel_rfl
theorem ts97 : tsize Tryd.prog 97 = 0 := by kernel_rfl
theorem tb97 : tbytes Tryd.prog 97 = 0 := by kernel_rfl
theorem tz97 : tzero Tryd.prog 97 = (some []) := by kernel_rfl
theorem ti97 : ti Tryd.prog 97 = ⟨0, 0, (some true), none, .other, (some [])⟩ := by kernel_rfl
theorem pl98 : tplaces Tryd.prog 98 = (some [(0, 0)]) := by kernel_rfl
theorem tf98_0 : tfield Tryd.prog 98 0 = none := by kernel_rfl
theorem tn98 : tint Tryd.prog 98 = false := by kernel_rfl
theorem ty98 : tbyte Tryd.prog 98 = false := by kernel_rfl
theorem tk98 : tkind Tryd.prog 98 = .other := by kernel_rfl
theorem te98 : telem Tryd.prog 98 = none := by kernel_rfl
theorem ts98 : tsize Tryd.prog 98 = 0 := by kernel_rfl
theorem tb98 : tbytes Tryd.prog 98 = 0 := by kernel_rfl
theorem tz98 : tzero Tryd.prog 98 = (some []) := by kernel_rfl
theorem ti98 : ti Tryd.prog 98 = ⟨0, 0, (some true), none, .other, (some [])⟩ := by kernel_rfl
theorem pl99 : tplaces Tryd.prog 99 = (some [(0, 0)]) := by kernel_rfl
theorem tf99_0 : tfield Tryd.prog 99 0 = none := by kernel_rfl
theorem tn99 : tint Tryd.prog 99 = false := by kernel_rfl
theorem ty99 : tbyte Tryd.prog 99 = false := by kernel_rfl
theorem tk99 : tkind Tryd.prog 99 = .other := by kernel_rfl
theorem te99 : telem Tryd.prog 99 = none := by kernel_rfl
theorem ts99 : tsize Tryd.prog 99 = 0 := by kernel_rfl
theorem tb99 : tbytes Tryd.prog 99 = 0 := by kernel_rfl
theorem tz99 : tzero Tryd.prog 99 = (some []) := by kernel_rfl
theorem ti99 : ti Tryd.prog 99 = ⟨0, 0, (some true), none, .other, (some [])⟩ := by kernel_rfl
theorem tn100 : tint Tryd.prog 100 = false := by kernel_rfl
theorem ty100 : tbyte Tryd.prog 100 = false := by kernel_rfl
theorem tk100 : tkind Tryd.prog 100 = .other := by kernel_rfl
theorem te100 : telem Tryd.prog 100 = none := by kernel_rfl
theorem ts100 : tsize Tryd.prog 100 = 1 := by kernel_rfl
theorem tb100 : tbytes Tryd.prog 100 = 8 := by kernel_rfl
theorem tz100 : tzero Tryd.prog 100 = (some [.bad]) := by kernel_rfl
theorem ti100 : ti Tryd.prog 100 = ⟨1, 8, (some false), none, .other, (some [.bad])⟩ := by kernel_rfl
theorem tn101 : tint Tryd.prog 101 = true := by kernel_rfl
theorem ty101 : tbyte Tryd.prog 101 = false := by kernel_rfl
theorem tk101 : tkind Tryd.prog 101 = (.int .u8) := by kernel_rfl
theorem te101 : telem Tryd.prog 101 = none := by kernel_rfl
theorem ts101 : tsize Tryd.prog 101 = 1 := by kernel_rfl
theorem tb101 : tbytes Tryd.prog 101 = 1 := by kernel_rfl
theorem tz101 : tzero Tryd.prog 101 = (some [.int .u8 (0)]) := by kernel_rfl
theorem ti101 : ti Tryd.prog 101 = ⟨1, 1, (some false), none, (.int .u8), (some [.int .u8 (0)])⟩ := by kernel_rfl
theorem tn102 : tint Tryd.prog 102 = true := by kernel_rfl
theorem ty102 : tbyte Tryd.prog 102 = false := by kernel_rfl
theorem tk102 : tkind Tryd.prog 102 = (.int .u8) := by kernel_rfl
theorem te102 : telem Tryd.prog 102 = none := by kernel_rfl
theorem ts102 : tsize Tryd.prog 102 = 1 := by kernel_rfl
theorem tb102 : tbytes Tryd.prog 102 = 1 := by kernel_rfl
theorem tz102 : tzero Tryd.prog 102 = (some [.int .u8 (0)]) := by kernel_rfl
theorem ti102 : ti Tryd.prog 102 = ⟨1, 1, (some false), none, (.int .u8), (some [.int .u8 (0)])⟩ := by kernel_rfl
theorem tn103 : tint Tryd.prog 103 = false := by kernel_rfl
theorem ty103 : tbyte Tryd.prog 103 = false := by kernel_rfl
theorem tk103 : tkind Tryd.prog 103 = .other := by kernel_rfl
theorem te103 : telem Tryd.prog 103 = none := by kernel_rfl
theorem ts103 : tsize Tryd.prog 103 = 1 := by kernel_rfl
theorem tb103 : tbytes Tryd.prog 103 = 8 := by kernel_rfl
theorem tz103 : tzero Tryd.prog 103 = (some [.bad]) := by kernel_rfl
theorem ti103 : ti Tryd.prog 103 = ⟨1, 8, (some false), none, .other, (some [.bad])⟩ := by kernel_rfl
theorem tn104 : tint Tryd.prog 104 = false := by kernel_rfl
theorem ty104 : tbyte Tryd.prog 104 = false := by kernel_rfl
theorem tk104 : tkind Tryd.prog 104 = .other := by kernel_rfl
theorem te104 : telem Tryd.prog 104 = none := by kernel_rfl
theorem ts104 : tsize Tryd.prog 104 = 1 := by kernel_rfl
theorem tb104 : tbytes Tryd.prog 104 = 8 := by kernel_rfl
theorem tz104 : tzero Tryd.prog 104 = (some [.bad]) := by kernel_rfl
theorem ti104 : ti Tryd.prog 104 = ⟨1, 8, (some false), none, .other, (some [.bad])⟩ := by kernel_rfl
theorem tn105 : tint Tryd.prog 105 = true := by kernel_rfl
theorem ty105 : tbyte Tryd.prog 105 = false := by kernel_rfl
theorem tk105 : tkind Tryd.prog 105 = (.int .i32) := by kernel_rfl
theorem te105 : telem Tryd.prog 105 = none := by kernel_rfl
theorem ts105 : tsize Tryd.prog 105 = 1 := by kernel_rfl
theorem tb105 : tbytes Tryd.prog 105 = 4 := by kernel_rfl
theorem tz105 : tzero Tryd.prog 105 = (some [.int .i32 (0)]) := by kernel_rfl
theorem ti105 : ti Tryd.prog 105 = ⟨1, 4, (some false), none, (.int .i32), (some [.int .i32 (0)])⟩ := by kernel_rfl
theorem tn106 : tint Tryd.prog 106 = true := by kernel_rfl
theorem ty106 : tbyte Tryd.prog 106 = false := by kernel_rfl
theorem tk106 : tkind Tryd.prog 106 = (.int .i32) := by kernel_rfl
theorem te106 : telem Tryd.prog 106 = none := by kernel_rfl
theorem ts106 : tsize Tryd.prog 106 = 1 := by kernel_rfl
theorem tb106 : tbytes Tryd.prog 106 = 4 := by kernel_rfl
theorem tz106 : tzero Tryd.prog 106 = (some [.int .i32 (0)]) := by kernel_rfl
theorem ti106 : ti Tryd.prog 106 = ⟨1, 4, (some false), none, (.int .i32), (some [.int .i32 (0)])⟩ := by kernel_rfl
theorem pl107 : tplaces Tryd.prog 107 = (some [(0, 1), (1, 1), (2, 1), (3, 1), (4, 1), (5, 1), (6, 1), (7, 1), (8, 1), (9, 1), (10, 1)]) := by kernel_rfl
theorem tf107_0 : tfield Tryd.prog 107 0 = (some (0, 12)) := by kernel_rfl
theorem tf107_1 : tfield Tryd.prog 107 1 = (some (1, 12)) := by kernel_rfl
theorem tf107_2 : tfield Tryd.prog 107 2 = (some (2, 79)) := by kernel_rfl
theorem tf107_3 : tfield Tryd.prog 107 3 = (some (3, 101)) := by kernel_rfl
theorem tf107_4 : tfield Tryd.prog 107 4 = (some (4, 5)) := by kernel_rfl
theorem tf107_5 : tfield Tryd.prog 107 5 = (some (5, 5)) := by kernel_rfl
theorem tf107_6 : tfield Tryd.prog 107 6 = (some (6, 102)) := by kernel_rfl
theorem tf107_7 : tfield Tryd.prog 107 7 = (some (7, 103)) := by kernel_rfl
theorem tf107_8 : tfield Tryd.prog 107 8 = (some (8, 104)) := by kernel_rfl
theorem tf107_9 : tfield Tryd.prog 107 9 = (some (9, 105)) := by kernel_rfl
theorem tf107_10 : tfield Tryd.prog 107 10 = (some (10, 106)) := by kernel_rfl
theorem tn107 : tint Tryd.prog 107 = false := by kernel_rfl
theorem ty107 : tbyte Tryd.prog 107 = false := by kernel_rfl
theorem tk107 : tkind Tryd.prog 107 = .other := by kernel_rfl
theorem te107 : telem Tryd.prog 107 = none := by kernel_rfl
theorem ts107 : tsize Tryd.prog 107 = 11 := by kernel_rfl
theorem tb107 : tbytes Tryd.prog 107 = 48 := by kernel_rfl
theorem tz107 : tzero Tryd.prog 107 = (some [.int .u64 (0), .int .u64 (0), .int .u32 (0), .int .u8 (0), .int .u8 (0), .int .u8 (0), .int .u8 (0), .bad, .bad, .int .i32 (0), .int .i32 (0)]) := by kernel_rfl
theorem ti107 : ti Tryd.prog 107 = ⟨11, 48, (some true), none, .other, (some [.int .u64 (0), .int .u64 (0), .int .u32 (0), .int .u8 (0), .int .u8 (0), .int .u8 (0), .int .u8 (0), .bad, .bad, .int .i32 (0), .int .i32 (0)])⟩ := by kernel_rfl
theorem pl108 : tplaces Tryd.prog 108 = (some [(0, 1), (1, 1), (2, 1), (3, 1), (4, 1), (5, 1), (6, 1), (7, 1), (8, 1), (9, 1), (10, 1)]) := by kernel_rfl
theorem tf108_0 : tfield Tryd.prog 108 0 = (some (0, 12)) := by kernel_rfl
theorem tf108_1 : tfield Tryd.prog 108 1 = (some (1, 12)) := by kernel_rfl
theorem tf108_2 : tfield Tryd.prog 108 2 = (some (2, 79)) := by kernel_rfl
theorem tf108_3 : tfield Tryd.prog 108 3 = (some (3, 101)) := by kernel_rfl
theorem tf108_4 : tfield Tryd.prog 108 4 = (some (4, 5)) := by kernel_rfl
theorem tf108_5 : tfield Tryd.prog 108 5 = (some (5, 5)) := by kernel_rfl
theorem tf108_6 : tfield Tryd.prog 108 6 = (some (6, 102)) := by kernel_rfl
theorem tf108_7 : tfield Tryd.prog 108 7 = (some (7, 103)) := by kernel_rfl
theorem tf108_8 : tfield Tryd.prog 108 8 = (some (8, 104)) := by kernel_rfl
theorem tf108_9 : tfield Tryd.prog 108 9 = (some (9, 105)) := by kernel_rfl
theorem tf108_10 : tfield Tryd.prog 108 10 = (some (10, 106)) := by kernel_rfl
theorem tn108 : tint Tryd.prog 108 = false := by kernel_rfl
theorem ty108 : tbyte Tryd.prog 108 = false := by kernel_rfl
theorem tk108 : tkind Tryd.prog 108 = .other := by kernel_rfl
theorem te108 : telem Tryd.prog 108 = none := by kernel_rfl
theorem ts108 : tsize Tryd.prog 108 = 11 := by kernel_rfl
theorem tb108 : tbytes Tryd.prog 108 = 48 := by kernel_rfl
theorem tz108 : tzero Tryd.prog 108 = (some [.int .u64 (0), .int .u64 (0), .int .u32 (0), .int .u8 (0), .int .u8 (0), .int .u8 (0), .int .u8 (0), .bad, .bad, .int .i32 (0), .int .i32 (0)]) := by kernel_rfl
theorem ti108 : ti Tryd.prog 108 = ⟨11, 48, (some true), none, .other, (some [.int .u64 (0), .int .u64 (0), .int .u32 (0), .int .u8 (0), .int .u8 (0), .int .u8 (0), .int .u8 (0), .bad, .bad, .int .i32 (0), .int .i32 (0)])⟩ := by kernel_rfl
theorem tn109 : tint Tryd.prog 109 = false := by kernel_rfl
theorem ty109 : tbyte Tryd.prog 109 = false := by kernel_rfl
theorem tk109 : tkind Tryd.prog 109 = .other := by kernel_rfl
theorem te109 : telem Tryd.prog 109 = none := by kernel_rfl
theorem ts109 : tsize Tryd.prog 109 = 1 := by kernel_rfl
theorem tb109 : tbytes Tryd.prog 109 = 8 := by kernel_rfl
theorem tz109 : tzero Tryd.prog 109 = (some [.bad]) := by kernel_rfl
theorem ti109 : ti Tryd.prog 109 = ⟨1, 8, (some false), none, .other, (some [.bad])⟩ := by kernel_rfl
theorem fb2 : fbody Tryd.prog 2 = true := by kernel_rfl
theorem rs2 : Tryd.f2.results.toList = [] := rfl
theorem fb3 : fbody Tryd.prog 3 = true := by kernel_rfl
theorem rs3 : Tryd.f3.results.toList = [.tmp 4] := rfl
theorem fb4 : fbody Tryd.prog 4 = true := by kernel_rfl
theorem rs4 : Tryd.f4.results.toList = [.tmp 6] := rfl
theorem fb5 : fbody Tryd.prog 5 = true := by kernel_rfl
theorem rs5 : Tryd.f5.results.toList = [.tmp 2] := rfl
theorem fb6 : fbody Tryd.prog 6 = true := by kernel_rfl
theorem rs6 : Tryd.f6.results.toList = [.tmp 2] := rfl
theorem fb7 : fbody Tryd.prog 7 = true := by kernel_rfl
theorem rs7 : Tryd.f7.results.toList = [.tmp 4] := rfl
theorem fb8 : fbody Tryd.prog 8 = true := by kernel_rfl
theorem rs8 : Tryd.f8.results.toList = [.tmp 4] := rfl
theorem fb9 : fbody Tryd.prog 9 = true := by kernel_rfl
theorem rs9 : Tryd.f9.results.toList = [.tmp 6] := rfl
theorem fb10 : fbody Tryd.prog 10 = true := by kernel_rfl
theorem rs10 : Tryd.f10.results.toList = [.tmp 8] := rfl
theorem fb11 : fbody Tryd.prog 11 = true := by kernel_rfl
theorem rs11 : Tryd.f11.results.toList = [.tmp 4, .tmp 5] := rfl
theorem fb12 : fbody Tryd.prog 12 = true := by kernel_rfl
theorem rs12 : Tryd.f12.results.toList = [.tmp 2] := rfl
theorem fb13 : fbody Tryd.prog 13 = true := by kernel_rfl
theorem rs13 : Tryd.f13.results.toList = [.tmp 4, .tmp 5] := rfl
theorem fb14 : fbody Tryd.prog 14 = true := by kernel_rfl
theorem rs14 : Tryd.f14.results.toList = [.tmp 0] := rfl
theorem fb15 : fbody Tryd.prog 15 = true := by kernel_rfl
theorem rs15 : Tryd.f15.results.toList = [.tmp 8] := rfl
theorem fb16 : fbody Tryd.prog 16 = true := by kernel_rfl
theorem rs16 : Tryd.f16.results.toList = [.tmp 2] := rfl
theorem fb17 : fbody Tryd.prog 17 = true := by kernel_rfl
theorem rs17 : Tryd.f17.results.toList = [.tmp 2, .tmp 3] := rfl
theorem fb18 : fbody Tryd.prog 18 = true := by kernel_rfl
theorem rs18 : Tryd.f18.results.toList = [.tmp 2, .tmp 3] := rfl
theorem fb19 : fbody Tryd.prog 19 = true := by kernel_rfl
theorem rs19 : Tryd.f19.results.toList = [.tmp 2] := rfl
theorem fb20 : fbody Tryd.prog 20 = true := by kernel_rfl
theorem rs20 : Tryd.f20.results.toList = [.tmp 2] := rfl
theorem fb21 : fbody Tryd.prog 21 = true := by kernel_rfl
theorem rs21 : Tryd.f21.results.toList = [.tmp 4, .tmp 5] := rfl
theorem fb22 : fbody Tryd.prog 22 = true := by kernel_rfl
theorem rs22 : Tryd.f22.results.toList = [.tmp 2] := rfl
theorem fb23 : fbody Tryd.prog 23 = true := by kernel_rfl
theorem rs23 : Tryd.f23.results.toList = [.tmp 4] := rfl
theorem fb24 : fbody Tryd.prog 24 = true := by kernel_rfl
theorem rs24 : Tryd.f24.results.toList = [.tmp 4, .tmp 5] := rfl
theorem fb25 : fbody Tryd.prog 25 = true := by kernel_rfl
theorem rs25 : Tryd.f25.results.toList = [.tmp 2] := rfl
theorem fb26 : fbody Tryd.prog 26 = true := by kernel_rfl
theorem rs26 : Tryd.f26.results.toList = [.tmp 4] := rfl
theorem fb27 : fbody Tryd.prog 27 = true := by kernel_rfl
theorem rs27 : Tryd.f27.results.toList = [.tmp 2] := rfl
theorem fb28 : fbody Tryd.prog 28 = true := by kernel_rfl
theorem rs28 : Tryd.f28.results.toList = [.tmp 6, .tmp 7] := rfl
theorem fb29 : fbody Tryd.prog 29 = true := by kernel_rfl
theorem rs29 : Tryd.f29.results.toList = [.tmp 2] := rfl
theorem fb30 : fbody Tryd.prog 30 = true := by kernel_rfl
theorem rs30 : Tryd.f30.results.toList = [.tmp 2] := rfl
theorem fb31 : fbody Tryd.prog 31 = true := by kernel_rfl
theorem rs31 : Tryd.f31.results.toList = [.cell 2 22] := rfl
theorem fb32 : fbody Tryd.prog 32 = true := by kernel_rfl
theorem rs32 : Tryd.f32.results.toList = [.tmp 2, .tmp 3] := rfl
theorem fb33 : fbody Tryd.prog 33 = true := by kernel_rfl
theorem rs33 : Tryd.f33.results.toList = [.tmp 4] := rfl
theorem fb34 : fbody Tryd.prog 34 = true := by kernel_rfl
theorem rs34 : Tryd.f34.results.toList = [.tmp 2] := rfl
theorem fb35 : fbody Tryd.prog 35 = true := by kernel_rfl
theorem rs35 : Tryd.f35.results.toList = [.tmp 4] := rfl
theorem fb36 : fbody Tryd.prog 36 = true := by kernel_rfl
theorem rs36 : Tryd.f36.results.toList = [.tmp 4] := rfl
theorem fb37 : fbody Tryd.prog 37 = true := by kernel_rfl
theorem rs37 : Tryd.f37.results.toList = [.tmp 2] := rfl
theorem fb38 : fbody Tryd.prog 38 = true := by kernel_rfl
theorem rs38 : Tryd.f38.results.toList = [.tmp 2] := rfl
theorem fb39 : fbody Tryd.prog 39 = true := by kernel_rfl
theorem rs39 : Tryd.f39.results.toList = [.tmp 4] := rfl
theorem fb40 : fbody Tryd.prog 40 = true := by kernel_rfl
theorem rs40 : Tryd.f40.results.toList = [.tmp 2] := rfl
theorem fb41 : fbody Tryd.prog 41 = true := by kernel_rfl
theorem rs41 : Tryd.f41.results.toList = [.tmp 4] := rfl
theorem fb42 : fbody Tryd.prog 42 = true := by kernel_rfl
theorem rs42 : Tryd.f42.results.toList = [.tmp 4] := rfl
theorem fb43 : fbody Tryd.prog 43 = true := by kernel_rfl
theorem rs43 : Tryd.f43.results.toList = [.tmp 2] := rfl
theorem fb44 : fbody Tryd.prog 44 = true := by kernel_rfl
theorem rs44 : Tryd.f44.results.toList = [.tmp 4] := rfl
theorem fb45 : fbody Tryd.prog 45 = true := by kernel_rfl
theorem rs45 : Tryd.f45.results.toList = [.cell 2 55, .tmp 3] := rfl
theorem fb46 : fbody Tryd.prog 46 = true := by kernel_rfl
theorem rs46 : Tryd.f46.results.toList = [.tmp 4] := rfl
theorem fb47 : fbody Tryd.prog 47 = true := by kernel_rfl
theorem rs47 : Tryd.f47.results.toList = [.tmp 4] := rfl
theorem fb48 : fbody Tryd.prog 48 = true := by kernel_rfl
theorem rs48 : Tryd.f48.results.toList = [.tmp 4] := rfl
theorem fb49 : fbody Tryd.prog 49 = true := by kernel_rfl
theorem rs49 : Tryd.f49.results.toList = [.tmp 4] := rfl
theorem fb50 : fbody Tryd.prog 50 = true := by kernel_rfl
theorem rs50 : Tryd.f50.results.toList = [.tmp 2] := rfl
theorem fb51 : fbody Tryd.prog 51 = true := by kernel_rfl
theorem rs51 : Tryd.f51.results.toList = [.tmp 4] := rfl
theorem fb52 : fbody Tryd.prog 52 = true := by kernel_rfl
theorem rs52 : Tryd.f52.results.toList = [.tmp 6] := rfl
theorem fb53 : fbody Tryd.prog 53 = true := by kernel_rfl
theorem rs53 : Tryd.f53.results.toList = [.tmp 4] := rfl
theorem fb54 : fbody Tryd.prog 54 = true := by kernel_rfl
theorem rs54 : Tryd.f54.results.toList = [.tmp 4] := rfl
theorem fb55 : fbody Tryd.prog 55 = true := by kernel_rfl
theorem rs55 : Tryd.f55.results.toList = [.tmp 2, .tmp 3] := rfl
theorem fb56 : fbody Tryd.prog 56 = true := by kernel_rfl
theorem rs56 : Tryd.f56.results.toList = [.tmp 4] := rfl
theorem fb57 : fbody Tryd.prog 57 = true := by kernel_rfl
theorem rs57 : Tryd.f57.results.toList = [.tmp 2] := rfl
theorem fb59 : fbody Tryd.prog 59 = true := by kernel_rfl
theorem rs59 : Tryd.f59.results.toList = [.tmp 4] := rfl
theorem fb60 : fbody Tryd.prog 60 = true := by kernel_rfl
theorem rs60 : Tryd.f60.results.toList = [.tmp 4] := rfl
theorem fb61 : fbody Tryd.prog 61 = true := by kernel_rfl
theorem rs61 : Tryd.f61.results.toList = [.tmp 4] := rfl
theorem fb62 : fbody Tryd.prog 62 = true := by kernel_rfl
theorem rs62 : Tryd.f62.results.toList = [] := rfl
theorem fb63 : fbody Tryd.prog 63 = true := by kernel_rfl
theorem rs63 : Tryd.f63.results.toList = [.tmp 2, .tmp 3] := rfl
theorem fb64 : fbody Tryd.prog 64 = true := by kernel_rfl
theorem rs64 : Tryd.f64.results.toList = [.tmp 2] := rfl
theorem fb65 : fbody Tryd.prog 65 = true := by kernel_rfl
theorem rs65 : Tryd.f65.results.toList = [.tmp 2] := rfl
theorem fb66 : fbody Tryd.prog 66 = true := by kernel_rfl
theorem rs66 : Tryd.f66.results.toList = [] := rfl
theorem fb67 : fbody Tryd.prog 67 = true := by kernel_rfl
theorem rs67 : Tryd.f67.results.toList = [.tmp 10, .tmp 11] := rfl
theorem fb68 : fbody Tryd.prog 68 = true := by kernel_rfl
theorem rs68 : Tryd.f68.results.toList = [.tmp 2] := rfl
theorem fb69 : fbody Tryd.prog 69 = true := by kernel_rfl
theorem rs69 : Tryd.f69.results.toList = [.tmp 4] := rfl
theorem fb70 : fbody Tryd.prog 70 = true := by kernel_rfl
theorem rs70 : Tryd.f70.results.toList = [.tmp 4] := rfl
theorem fb72 : fbody Tryd.prog 72 = true := by kernel_rfl
theorem rs72 : Tryd.f72.results.toList = [.tmp 2, .tmp 3] := rfl
theorem fb73 : fbody Tryd.prog 73 = true := by kernel_rfl
theorem rs73 : Tryd.f73.results.toList = [.tmp 2] := rfl
theorem fb74 : fbody Tryd.prog 74 = true := by kernel_rfl
theorem rs74 : Tryd.f74.results.toList = [.tmp 2] := rfl
theorem fb75 : fbody Tryd.prog 75 = true := by kernel_rfl
theorem rs75 : Tryd.f75.results.toList = [.tmp 2] := rfl
theorem fb76 : fbody Tryd.prog 76 = true := by kernel_rfl
theorem rs76 : Tryd.f76.results.toList = [.tmp 2] := rfl
theorem fb77 : fbody Tryd.prog 77 = true := by kernel_rfl
theorem rs77 : Tryd.f77.results.toList = [.tmp 2] := rfl
theorem fb78 : fbody Tryd.prog 78 = true := by kernel_rfl
theorem rs78 : Tryd.f78.results.toList = [.tmp 2] := rfl
theorem fb79 : fbody Tryd.prog 79 = true := by kernel_rfl
theorem rs79 : Tryd.f79.results.toList = [.tmp 2] := rfl
theorem fb81 : fbody Tryd.prog 81 = true := by kernel_rfl
theorem rs81 : Tryd.f81.results.toList = [.tmp 4] := rfl
theorem fb82 : fbody Tryd.prog 82 = true := by kernel_rfl
theorem rs82 : Tryd.f82.results.toList = [.tmp 2] := rfl
theorem fb83 : fbody Tryd.prog 83 = true := by kernel_rfl
theorem rs83 : Tryd.f83.results.toList = [.tmp 2] := rfl
theorem fb84 : fbody Tryd.prog 84 = true := by kernel_rfl
theorem rs84 : Tryd.f84.results.toList = [.tmp 2, .tmp 3] := rfl
theorem fb108 : fbody Tryd.prog 108 = true := by kernel_rfl
theorem rs108 : Tryd.f108.results.toList = [] := rfl
theorem mixed : Tryd.prog.follows .mixedOrders = true := by kernel_rfl
attribute [go_sem] tn1 ty1 tk1 te1 ts1 tb1 tz1 ti1 tn2 ty2 tk2 te2 ts2 tb2 tz2 ti2 tn3 ty3 tk3 te3 ts3 tb3 tz3 ti3 tn4 ty4 tk4 te4 ts4 tb4 tz4 ti4 tn5 ty5 tk5 te5 ts5 tb5 tz5 ti5 tn6 ty6 tk6 te6 ts6 tb6 tz6 ti6 pl7 tf7_0 tf7_1 tf7_2 tf7_3 tn7 ty7 tk7 te7 ts7 tb7 tz7 ti7 pl8 tf8_0 tf8_1 tf8_2 tf8_3 tn8 ty8 tk8 te8 ts8 tb8 tz8 ti8 tn9 ty9 tk9 te9 ts9 tb9 tz9 ti9 tn10 ty10 tk10 te10 ts10 tb10 tz10 ti10 tn11 ty11 tk11 te11 ts11 tb11 tz11 ti11 tn12 ty12 tk12 te12 ts12 tb12 tz12 ti12 pl13 tf13_0 tf13_1 tn13 ty13 tk13 te13 ts13 tb13 tz13 ti13 pl14 tf14_0 tf14_1 tn14 ty14 tk14 te14 ts14 tb14 tz14 ti14 tn15 ty15 tk15 te15 ts15 tb15 tz15 ti15 tn16 ty16 tk16 te16 ts16 tb16 tz16 ti16 tn17 ty17 tk17 te17 ts17 tb17 tz17 ti17 pl18 tf18_0 tn18 ty18 tk18 te18 ts18 tb18 tz18 ti18 pl19 tf19_0 tn19 ty19 tk19 te19 ts19 tb19 tz19 ti19 tn20 ty20 tk20 te20 ts20 tb20 tz20 ti20 tn21 ty21 tk21 te21 ts21 tb21 tz21 ti21 tn22 ty22 tk22 te22 ts22 tb22 tz22 ti22 tn23 ty23 tk23 te23 ts23 tb23 tz23 ti23 tn24 ty24 tk24 te24 ts24 tb24 tz24 ti24 tn25 ty25 tk25 te25 ts25 tb25 tz25 ti25 tn26 ty26 tk26 te26 ts26 tb26 tz26 ti26 tn27 ty27 tk27 te27 ts27 tb27 tz27 ti27 tn28 ty28 tk28 te28 ts28 tb28 tz28 ti28 tn29 ty29 tk29 te29 ts29 tb29 tz29 ti29 tn30 ty30 tk30 te30 ts30 tb30 tz30 ti30 tn31 ty31 tk31 te31 ts31 tb31 tz31 ti31 tn32 ty32 tk32 te32 ts32 tb32 tz32 ti32 tn33 ty33 tk33 te33 ts33 tb33 tz33 ti33 tn34 ty34 tk34 te34 ts34 tb34 tz34 ti34 tn35 ty35 tk35 te35 ts35 tb35 tz35 ti35 tn36 ty36 tk36 te36 ts36 tb36 tz36 ti36 tn37 ty37 tk37 te37 ts37 tb37 tz37 ti37 tn38 ty38 tk38 te38 ts38 tb38 tz38 ti38 tn39 ty39 tk39 te39 ts39 tb39 tz39 ti39 tn40 ty40 tk40 te40 ts40 tb40 tz40 ti40 tn41 ty41 tk41 te41 ts41 tb41 tz41 ti41 tn42 ty42 tk42 te42 ts42 tb42 tz42 ti42 tn43 ty43 tk43 te43 ts43 tb43 tz43 ti43 tn44 ty44 tk44 te44 ts44 tb44 tz44 ti44 tn45 ty45 tk45 te45 ts45 tb45 tz45 ti45 tn46 ty46 tk46 te46 ts46 tb46 tz46 ti46 tn47 ty47 tk47 te47 ts47 tb47 tz47 ti47 tn48 ty48 tk48 te48 ts48 tb48 tz48 ti48 tn49 ty49 tk49 te49 ts49 tb49 tz49 ti49 tn50 ty50 tk50 te50 ts50 tb50 tz50 ti50 tn51 ty51 tk51 te51 ts51 tb51 tz51 ti51 tn52 ty52 tk52 te52 ts52 tb52 tz52 ti52 tn53 ty53 tk53 te53 ts53 tb53 tz53 ti53 tn54 ty54 tk54 te54 ts54 tb54 tz54 ti54 tn55 ty55 tk55 te55 ts55 tb55 tz55 ti55 tn56 ty56 tk56 te56 ts56 tb56 tz56 ti56 tn57 ty57 tk57 te57 ts57 tb57 tz57 ti57 tn58 ty58 tk58 te58 ts58 tb58 tz58 ti58 tn59 ty59 tk59 te59 ts59 tb59 tz59 ti59 tn60 ty60 tk60 te60 ts60 tb60 tz60 ti60 tn61 ty61 tk61 te61 ts61 tb61 tz61 ti61 tn62 ty62 tk62 te62 ts62 tb62 tz62 ti62 tn63 ty63 tk63 te63 ts63 tb63 tz63 ti63 tn64 ty64 tk64 te64 ts64 tb64 tz64 ti64 tn65 ty65 tk65 te65 ts65 tb65 tz65 ti65 tn66 ty66 tk66 te66 ts66 tb66 tz66 ti66 tn67 ty67 tk67 te67 ts67 tb67 tz67 ti67 tn68 ty68 tk68 te68 ts68 tb68 tz68 ti68 tn69 ty69 tk69 te69 ts69 tb69 tz69 ti69 tn70 ty70 tk70 te70 ts70 tb70 tz70 ti70 tn71 ty71 tk71 te71 ts71 tb71 tz71 ti71 tn72 ty72 tk72 te72 ts72 tb72 tz72 ti72 tn73 ty73 tk73 te73 ts73 tb73 tz73 ti73 tn74 ty74 tk74 te74 ts74 tb74 tz74 ti74 tn75 ty75 tk75 te75 ts75 tb75 tz75 ti75 tn76 ty76 tk76 te76 ts76 tb76 tz76 ti76 tn77 ty77 tk77 te77 ts77 tb77 tz77 ti77 tn78 ty78 tk78 te78 ts78 tb78 tz78 ti78 tn79 ty79 tk79 te79 ts79 tb79 tz79 ti79 tn80 ty80 tk80 te80 ts80 tb80 tz80 ti80 tn81 ty81 tk81 te81 ts81 tb81 tz81 ti81 tn82 ty82 tk82 te82 ts82 tb82 tz82 ti82 tn83 ty83 tk83 te83 ts83 tb83 tz83 ti83 tn84 ty84 tk84 te84 ts84 tb84 tz84 ti84 tn85 ty85 tk85 te85 ts85 tb85 tz85 ti85 pl86 tf86_0 tf86_1 tn86 ty86 tk86 te86 ts86 tb86 tz86 ti86 pl87 tf87_0 tf87_1 tn87 ty87 tk87 te87 ts87 tb87 tz87 ti87 tn88 ty88 tk88 te88 ts88 tb88 tz88 ti88 tn89 ty89 tk89 te89 ts89 tb89 tz89 ti89 tn90 ty90 tk90 te90 ts90 tb90 tz90 ti90 tn91 ty91 tk91 te91 ts91 tb91 tz91 ti91 tn92 ty92 tk92 te92 ts92 tb92 tz92 ti92 tn93 ty93 tk93 te93 ts93 tb93 tz93 ti93 tn94 ty94 tk94 te94 ts94 tb94 tz94 ti94 pl95 tf95_0 tf95_1 tf95_2 tf95_3 tn95 ty95 tk95 te95 ts95 tb95 tz95 ti95 pl96 tf96_0 tf96_1 tf96_2 tf96_3 tn96 ty96 tk96 te96 ts96 tb96 tz96 ti96 tn97 ty97 tk97 te97 ts97 tb97 tz97 ti97 pl98 tf98_0 tn98 ty98 tk98 te98 ts98 tb98 tz98 ti98 pl99 tf99_0 tn99 ty99 tk99 te99 ts99 tb99 tz99 ti99 tn100 ty100 tk100 te100 ts100 tb100 tz100 ti100 tn101 ty101 tk101 te101 ts101 tb101 tz101 ti101 tn102 ty102 tk102 te102 ts102 tb102 tz102 ti102 tn103 ty103 tk103 te103 ts103 tb103 tz103 ti103 tn104 ty104 tk104 te104 ts104 tb104 tz104 ti104 tn105 ty105 tk105 te105 ts105 tb105 tz105 ti105 tn106 ty106 tk106 te106 ts106 tb106 tz106 ti106 pl107 tf107_0 tf107_1 tf107_2 tf107_3 tf107_4 tf107_5 tf107_6 tf107_7 tf107_8 tf107_9 tf107_10 tn107 ty107 tk107 te107 ts107 tb107 tz107 ti107 pl108 tf108_0 tf108_1 tf108_2 tf108_3 tf108_4 tf108_5 tf108_6 tf108_7 tf108_8 tf108_9 tf108_10 tn108 ty108 tk108 te108 ts108 tb108 tz108 ti108 tn109 ty109 tk109 te109 ts109 tb109 tz109 ti109 rs2 rs3 rs4 rs5 rs6 rs7 rs8 rs9 rs10 rs11 rs12 rs13 rs14 rs15 rs16 rs17 rs18 rs19 rs20 rs21 rs22 rs23 rs24 rs25 rs26 rs27 rs28 rs29 rs30 rs31 rs32 rs33 rs34 rs35 rs36 rs37 rs38 rs39 rs40 rs41 rs42 rs43 rs44 rs45 rs46 rs47 rs48 rs49 rs50 rs51 rs52 rs53 rs54 rs55 rs56 rs57 rs59 rs60 rs61 rs62 rs63 rs64 rs65 rs66 rs67 rs68 rs69 rs70 rs72 rs73 rs74 rs75 rs76 rs77 rs78 rs79 rs81 rs82 rs83 rs84 rs108
end Go.VM.Tryd
end
section
set_option linter.unusedVariables false
set_option linter.unusedSimpArgs false
open Go Go.VM Go.Proofs
namespace Go.VM.Tryd
set_option maxHeartbeats 1000000 in
set_option maxRecDepth 100000 in
theorem stringslite_IndexByte (s : ByteArray) (c : Int) (w : World) :
    Calls Tryd.prog 61 #[.string s, .int .u8 c] w fun e w' => e = .returned (.int .i64 (Lib.indexByte s.data.toList c.toNat.toUInt8)) ∧ w' = w := by
  go_enter Tryd.func61, Tryd.ntmps61
  go_wp2
  rw [run_callFunc_extern Tryd.func71 (by kernel_rfl) (by kernel_rfl) (by kernel_rfl) (e := Extern.BytealgIndexByte.indexByte) (by kernel_rfl), Lib.run_indexByteString]
  simp only [Result.andThen]
  rw [Oper.upon_value]
  go_wp2
  go_ret
  exact ⟨rfl, rfl⟩
theorem idx0 (s : List UInt8) (c : Int) : Meets Tryd.prog 61 [.str s, .int .u8 c] (.int .i64 (Lib.indexByte s c.toNat.toUInt8)) [] :=
  meets_pure (us0 := #[.string ⟨s.toArray⟩, .int .u8 c]) fb61 (fun c' us hsz hus => args2 hsz hus (fun u h => by simpa only [VR] using h) (fun u h => by simpa only [VR] using h)) (u0 := .int .i64 (Lib.indexByte s c.toNat.toUInt8)) (fun c => by simp only [VR])
    fun w => by simpa using stringslite_IndexByte ⟨s.toArray⟩ c w
set_option maxRecDepth 100000
theorem IndexByte (s : List UInt8) (c : Int) : Meets Tryd.prog 51 [.str s, .int .u8 c] (.int .i64 (Lib.indexByte s c.toNat.toUInt8)) [] := by
  refine meets_x (fn := Tryd.f51) Tryd.func51 rfl fb51 (by kernel_rfl) (Nat.le_of_ble_eq_true rfl) ?_
  refine cx_sr ?_
  simp only [go_sem]
  repeat first | (with_reducible refine side_d ?_ ?_; exact byD) | (with_reducible refine side_q ?_ ?_; exact byQ)
  refine cx_sr ?_
  simp only [go_sem]
  repeat first | (with_reducible refine side_d ?_ ?_; exact byD) | (with_reducible refine side_q ?_ ?_; exact byQ)
  refine cw_m (idx0 s c) byW byT ?_
  simp only [go_sem]
  repeat first | (with_reducible refine side_d ?_ ?_; exact byD) | (with_reducible refine side_q ?_ ?_; exact byQ)
  refine cx_ret ?_
  simp only [go_sem]
  exact finw_int rfl
theorem Index1 (s : List UInt8) : Meets Tryd.prog 70 [.str s, .str [47]] (.int .i64 (Lib.indexByte s 47)) [] := by
  refine meets_x (fn := Tryd.f70) Tryd.func70 rfl fb70 (by kernel_rfl) (Nat.le_of_ble_eq_true rfl) ?_
  refine cx_sr ?_
  simp only [go_sem]
  repeat first | (with_reducible refine side_d ?_ ?_; exact byD) | (with_reducible refine side_q ?_ ?_; exact byQ)
  refine cx_sr ?_
  simp only [go_sem]
  repeat first | (with_reducible refine side_d ?_ ?_; exact byD) | (with_reducible refine side_q ?_ ?_; exact byQ)
  refine cx_seq (cx_block ?_)
  refine cx_sr ?_
  simp only [go_sem]
  repeat first | (with_reducible refine side_d ?_ ?_; exact byD) | (with_reducible refine side_q ?_ ?_; exact byQ)
  intro t18 e18
  repeat first | (with_reducible refine side_d ?_ ?_; exact byD) | (with_reducible refine side_q ?_ ?_; exact byQ)
  intro t22 e22
  repeat first | (with_reducible refine side_d ?_ ?_; exact byD) | (with_reducible refine side_q ?_ ?_; exact byQ)
  intro t23 e23
  rw [bsel_or] at e23
  repeat first | (with_reducible refine side_d ?_ ?_; exact byD) | (with_reducible refine side_q ?_ ?_; exact byQ)
  subst e18 e22 e23
  refine cx_if _ rfl (fun h16 => ?_) (fun h16 => ?_)
  ·
    (try simp only [go_sem] at h16)
    refine cx_sr ?_
    simp only [go_sem]
    repeat first | (with_reducible refine side_d ?_ ?_; exact byD) | (with_reducible refine side_q ?_ ?_; exact byQ)
    refine cx_ret ?_
    simp only [go_sem]
    have h : [47] = s := by simpa using h16
    subst h
    exact finw_int (by decide)
  ·
    (try simp only [go_sem] at h16)
    refine cx_sr ?_
    simp only [go_sem]
    repeat first | (with_reducible refine side_d ?_ ?_; exact byD) | (with_reducible refine side_q ?_ ?_; exact byQ)
    intro t26 e26
    repeat first | (with_reducible refine side_d ?_ ?_; exact byD) | (with_reducible refine side_q ?_ ?_; exact byQ)
    subst e26
    refine cx_if _ rfl (fun h24 => ?_) (fun h24 => ?_)
    ·
      (try simp only [go_sem] at h24)
      refine cx_sr ?_
      simp only [go_sem]
      repeat first | (with_reducible refine side_d ?_ ?_; exact byD) | (with_reducible refine side_q ?_ ?_; exact byQ)
      intro t29 e29
      repeat first | (with_reducible refine side_d ?_ ?_; exact byD) | (with_reducible refine side_q ?_ ?_; exact byQ)
      refine cw_m (idx0 s 47) byW byT ?_
      simp only [go_sem]
      repeat first | (with_reducible refine side_d ?_ ?_; exact byD) | (with_reducible refine side_q ?_ ?_; exact byQ)
      refine cx_ret ?_
      simp only [go_sem]
      exact finw_int rfl
    · simp_all
theorem Index (s : List UInt8) : Meets Tryd.prog 59 [.str s, .str [47]] (.int .i64 (Lib.indexByte s 47)) [] := by
  refine meets_x (fn := Tryd.f59) Tryd.func59 rfl fb59 (by kernel_rfl) (Nat.le_of_ble_eq_true rfl) ?_
  refine cx_sr ?_
  simp only [go_sem]
  repeat first | (with_reducible refine side_d ?_ ?_; exact byD) | (with_reducible refine side_q ?_ ?_; exact byQ)
  refine cx_sr ?_
  simp only [go_sem]
  repeat first | (with_reducible refine side_d ?_ ?_; exact byD) | (with_reducible refine side_q ?_ ?_; exact byQ)
  refine cw_m (Index1 s) byW byT ?_
  simp only [go_sem]
  repeat first | (with_reducible refine side_d ?_ ?_; exact byD) | (with_reducible refine side_q ?_ ?_; exact byQ)
  refine cx_ret ?_
  simp only [go_sem]
  exact finw_int rfl
end Go.VM.Tryd
end
section
set_option linter.unusedVariables false
open Go Go.VM Go.Proofs
namespace Go.VM.Tryd
/-- the pieces between the slashes -/
def pcs : List UInt8 → List (List UInt8)
  | [] => [[]]
  | b :: r => if b = 47 then [] :: pcs r else match pcs r with
    | [] => [[b]]
    | x :: xs => (b :: x) :: xs
theorem pcs_ix : ∀ s : List UInt8, (Lib.indexByte s 47 = -1 ∧ pcs s = [s]) ∨ ∃ i : Nat, i < s.length ∧ Lib.indexByte s 47 = i ∧ pcs s = s.take i :: pcs (s.drop (i + 1))
  | [] => .inl ⟨rfl, rfl⟩
  | b :: r => by
    by_cases h1 : b = 47
    · exact .inr ⟨0, by simp, by simp [Lib.indexByte, h1], by simp [pcs, h1]⟩
    · rcases pcs_ix r with ⟨h2, h3⟩ | ⟨i, h2, h3, h4⟩
      · exact .inl ⟨by simp [Lib.indexByte, h1, h2], by simp [pcs, h1, h3]⟩
      · refine .inr ⟨i + 1, by simp; omega, ?_, by simp [pcs, h1, h4]⟩
        have : ¬ ((i : Int) = -1) := by omega
        simp [Lib.indexByte, h1, h3, this]
theorem pcs_ne (s : List UInt8) : pcs s ≠ [] := by
  rcases pcs_ix s with ⟨_, h⟩ | ⟨i, _, _, h⟩ <;> simp [h]
end Go.VM.Tryd
end
section
set_option linter.unusedVariables false
open Go Go.VM Go.Proofs Go.RowKit Go.Shelf
namespace Go.VM.Tryd
attribute [local go_sem] Oper.semAt_some
theorem idx_calls (s : List UInt8) (w : World) : Calls Tryd.prog 59 #[.string ⟨s.toArray⟩, .string ⟨#[47]⟩] w fun e w' => e = .returned (.int .i64 (Lib.indexByte s 47)) ∧ KB (fun _ => False) w w' := by
  have h := (Index s).2 w (fun _ => False) (fun _ h => h.elim) #[.string ⟨s.toArray⟩, .string ⟨#[47]⟩] rfl (by simp [VRs, VR])
  refine h.mono ?_
  rintro e w' ⟨c', u, rfl, rfl, h1, h2⟩
  simp only [VR] at h2
  exact ⟨by rw [h2], h1.fr.os, h1.fr.tape, h1.fr.output, h1.fr.size, fun k hk _ => h1.fr.block k hk (fun h => h)⟩
theorem set_box {W : World} {B : Nat} {v u : Value} {el : TypeId} (h : W.heap[B]? = some (.cells #[u] el)) :
    (W.setCell ⟨B, 0, none⟩ v).heap[B]? = some (.cells #[v] el) ∧ KB (· = B) W (W.setCell ⟨B, 0, none⟩ v) := by
  refine ⟨by simp [World.setCell, Array.getElem?_modify, h], rfl, rfl, rfl, by simp [World.setCell], fun k hk hS => ?_⟩
  have hne : B ≠ k := fun e => hS e.symm
  simp [World.setCell, Array.getElem?_modify, hne]
def left (Bs : Nat) (W : World) : Nat := match W.cell? ⟨Bs, 0, none⟩ with | some (.string b) => b.size | _ => 0
theorem left_eq {W : World} {B : Nat} {u : ByteArray} {el : TypeId} (h : W.heap[B]? = some (.cells #[.string u] el)) : left B W = u.size := by
  simp [left, World.cell?, h]
set_option maxRecDepth 100000 in
set_option maxHeartbeats 2000000 in
theorem split_in (l Bs Bp Bv : Nat) (es ep ev : TypeId) (hsp : Bp ≠ Bs) (hsv : Bv ≠ Bs) (s : List UInt8) (hb : s.length < 4611686018427387904) (J Jx : List (List UInt8) → World → Prop)
    (hJ : ∀ pre A B, J pre A → KB (fun k => k = Bs ∨ k = Bp ∨ k = Bv) A B → J pre B)
    (hJx : ∀ pre A B, Jx pre A → KB (fun k => k = Bs ∨ k = Bp ∨ k = Bv) A B → Jx pre B)
    (hY : ∀ pre x A, (pre ++ [x]) <+: pcs s → J pre A → YieldAt Fence.wide 0 Tryd.prog l #[.string ⟨x.toArray⟩] A fun e B =>
      (e = .returned (.bool true) ∧ J (pre ++ [x]) B ∧ B.heap[Bs]? = A.heap[Bs]? ∧ B.heap[Bp]? = A.heap[Bp]? ∧ B.heap[Bv]? = A.heap[Bv]?) ∨ (e = .returned (.bool false) ∧ Jx (pre ++ [x]) B))
    (W : World) (h1 : W.heap[Bs]? = some (.cells #[.string ⟨s.toArray⟩] es)) (h2 : W.heap[Bp]? = some (.cells #[.string ⟨#[47]⟩] ep)) (h3 : W.heap[Bv]? = some (.cells #[.int .i64 0] ev)) (h0 : J [] W) :
    CallsIn Fence.wide 1 Tryd.prog 62 #[.func (.yield l) #[] #[], .pointer (some ⟨Bp, 0, none⟩), .pointer (some ⟨Bs, 0, none⟩), .pointer (some ⟨Bv, 0, none⟩)] W fun e B => (∃ v, e = .returned v) ∧ (J (pcs s) B ∨ ∃ pre, pre <+: pcs s ∧ Jx pre B) := by
  refine callsIn_of_wp Tryd.func62 rfl trivial ?_ rfl
  simp only [Tryd.ntmps62, List.size_toArray, List.length_cons, List.length_nil, Nat.reduceAdd, Nat.reduceSub, Array.replicate_succ, Array.replicate_zero, List.push_toArray, List.append_toArray, List.nil_append, List.cons_append]
  have c2 : W.cell? ⟨Bp, 0, none⟩ = some (.string ⟨#[47]⟩) := by simp [World.cell?, h2]
  have n1 : (1 : Nat) ≤ 1 := Nat.le_refl _
  gi_wp2
  gi_loopw [] (fun wr => ∃ (pre : List (List UInt8)) (r : List UInt8), pre ++ pcs r = pcs s ∧ r.length ≤ s.length ∧ J pre wr ∧ wr.heap[Bs]? = some (.cells #[.string ⟨r.toArray⟩] es) ∧ wr.heap[Bp]? = some (.cells #[.string ⟨#[47]⟩] ep) ∧ wr.heap[Bv]? = some (.cells #[.int .i64 0] ev))
    (fun wr => left Bs wr)
  case atStart => exact ⟨[], s, rfl, Nat.le_refl _, h0, h1, h2, h3⟩
  case round =>
    obtain ⟨pre, r, hpre, hlen, hj, k1, k2, k3⟩ := hrel
    have d1 : wr.cell? ⟨Bs, 0, none⟩ = some (.string ⟨r.toArray⟩) := by simp [World.cell?, k1]
    have d2 : wr.cell? ⟨Bp, 0, none⟩ = some (.string ⟨#[47]⟩) := by simp [World.cell?, k2]
    have d3 : wr.cell? ⟨Bv, 0, none⟩ = some (.int .i64 0) := by simp [World.cell?, k3]
    gi_wp2
    refine ⟨trivial, ?_⟩
    refine ((callsIn_wide (n := 0)).2 (idx_calls r wr)).mono ?_
    rintro e w2 ⟨rfl, hkb⟩
    have hlt : ∀ {k : Nat} {o : Obj}, wr.heap[k]? = some o → w2.heap[k]? = some o := fun {k o} h => (hkb.2.2.2.2 k (Array.getElem?_eq_some_iff.1 h).1 (fun h => h)).trans h
    have hj2 := hJ _ _ _ hj (hkb.mono fun k h => h.elim)
    have q1 := hlt k1
    have q2 := hlt k2
    have q3 := hlt k3
    have e1 : w2.cell? ⟨Bs, 0, none⟩ = some (.string ⟨r.toArray⟩) := by simp [World.cell?, q1]
    have e2 : w2.cell? ⟨Bp, 0, none⟩ = some (.string ⟨#[47]⟩) := by simp [World.cell?, q2]
    have e3 : w2.cell? ⟨Bv, 0, none⟩ = some (.int .i64 0) := by simp [World.cell?, q3]
    have f1 : w2.frozen? ⟨Bs, 0, none⟩ = false := by simp [World.frozen?, q1]
    rcases pcs_ix r with ⟨g1, g2⟩ | ⟨i, g1, g2, g3⟩
    · rw [g1]
      rw [g2] at hpre
      obtain ⟨fn, tmps, assign, body, hy, hR⟩ := hY pre r w2 (by rw [hpre]; exact List.prefix_refl _) hj2
      gi_wp2
      refine hR.mono ?_
      rintro e W3 (⟨rfl, hJ3, m1, m2, m3⟩ | ⟨rfl, hJx3⟩)
      · gi_wp2
        go_end0
        exact ⟨⟨_, rfl⟩, .inl (by rw [← hpre]; exact hJ3)⟩
      · gi_wp2
        go_end0
        exact ⟨⟨_, rfl⟩, .inr ⟨_, by rw [hpre]; exact List.prefix_refl _, hJx3⟩⟩
    · rw [g2]
      rw [g3] at hpre
      obtain ⟨fn, tmps, assign, body, hy, hR⟩ := hY pre (r.take i) w2 ⟨pcs (r.drop (i + 1)), by rw [← hpre]; simp⟩ hj2
      have hx : (⟨r.toArray⟩ : ByteArray).extract 0 i = ⟨(r.take i).toArray⟩ := by
        apply ByteArray.ext
        simp
      gi_wp2
      refine hR.mono ?_
      rintro e W3 (⟨rfl, hJ3, m1, m2, m3⟩ | ⟨rfl, hJx3⟩)
      · rw [q1] at m1
        rw [q2] at m2
        rw [q3] at m3
        have e1 : W3.cell? ⟨Bs, 0, none⟩ = some (.string ⟨r.toArray⟩) := by simp [World.cell?, m1]
        have e2 : W3.cell? ⟨Bp, 0, none⟩ = some (.string ⟨#[47]⟩) := by simp [World.cell?, m2]
        have f1 : W3.frozen? ⟨Bs, 0, none⟩ = false := by simp [World.frozen?, m1]
        gi_wp2
        have hx2 : (⟨r.toArray⟩ : ByteArray).extract (i + 1) r.length = ⟨(r.drop (i + 1)).toArray⟩ := by
          apply ByteArray.ext
          simp
          exact List.take_of_length_le (by simp)
        rw [hx2]
        obtain ⟨s1, s2⟩ := set_box (v := .string ⟨(r.drop (i + 1)).toArray⟩) m1
        refine ⟨⟨pre ++ [r.take i], r.drop (i + 1), by rw [← hpre]; simp, by simp; omega, hJ _ _ _ hJ3 (s2.mono fun k h => .inl h), s1, ?_, ?_⟩, ?_⟩
        · exact (s2.2.2.2.2 Bp (Array.getElem?_eq_some_iff.1 m2).1 hsp).trans m2
        · exact (s2.2.2.2.2 Bv (Array.getElem?_eq_some_iff.1 m3).1 hsv).trans m3
        · have z1 := left_eq s1
          have z2 := left_eq k1
          have y1 : ((r.drop (i + 1)).toArray : Array UInt8).size = r.length - (i + 1) := by simp
          have y2 : (r.toArray : Array UInt8).size = r.length := by simp
          show left Bs _ < left Bs wr
          rw [z1, z2]
          show ((r.drop (i + 1)).toArray : Array UInt8).size < (r.toArray : Array UInt8).size
          omega
      · gi_wp2
        refine bodyPost_ret (results_none rfl _ _ _) rfl ?_
        exact ⟨⟨_, rfl⟩, .inr ⟨_, ⟨pcs (r.drop (i + 1)), by rw [← hpre]; simp⟩, hJx3⟩⟩
end Go.VM.Tryd
end
section
set_option linter.unusedVariables false
open Go Go.VM Go.Proofs Go.RowKit
namespace Go.VM.Tryd
theorem ptr_is {c : Ctx} {r off : Nat} {u : Value} (h : VR c (.ptr r off) u) : ∃ b m, c.locs[r]? = some (some (b, m)) ∧ u = .pointer (some ⟨b, off, none⟩) := by
  simp only [VR] at h
  split at h
  · rename_i b m hl
    exact ⟨b, m, hl, h⟩
  · exact h.elim
theorem box_is {F : Fr} {c : Ctx} {H : Heap} {r b m : Nat} {v : V} (hs : SR F c H) (hr : H[r]? = some (.box [v])) (hl : c.locs[r]? = some (some (b, m))) : ∃ u el, c.w.heap[b]? = some (.cells #[u] el) ∧ VR c v u := by
  obtain ⟨O, h1, ⟨C, el, rfl, h2, h3, h4⟩, _, _⟩ := hs.blk r _ _ hr hl trivial
  obtain ⟨⟨u, h5, h6⟩, _⟩ := h4
  refine ⟨u, el, ?_, h6⟩
  have hC : C = #[u] := by
    apply Array.ext
    · simpa using h2
    · intro i hi1 hi2
      have : i = 0 := by simp at hi2; omega
      subst this
      have := Array.getElem?_eq_some_iff.1 h5
      obtain ⟨_, e⟩ := this
      simpa using e
  rw [← hC]
  exact h1
theorem itOk_split (s : List UInt8) (hb : s.length < 4611686018427387904) (H : Heap) (rs rp rv : Nat) (h1 : H[rs]? = some (.box [.str s])) (h2 : H[rp]? = some (.box [.str [47]])) (h3 : H[rv]? = some (.box [.int .i64 0])) (n1 : rp ≠ rs) (n2 : rv ≠ rs) :
    ItOk Tryd.prog (fun x : List UInt8 => Value.string ⟨x.toArray⟩) (pcs s) [rs, rp, rv] H (.fn 62 [] [.ptr rp 0, .ptr rs 0, .ptr rv 0]) := by
  intro F c u hs hu
  simp only [VR] at hu
  obtain ⟨us, ws, rfl, hus, hws, _, hv⟩ := hu
  have hus0 : us = #[] := by simpa using hus
  subst hus0
  obtain ⟨⟨u0, e0, v0⟩, ⟨u1, e1, v1⟩, ⟨u2, e2, v2⟩, _⟩ := hv
  obtain ⟨Bp, mp, lp, rfl⟩ := ptr_is v0
  obtain ⟨Bs, ms, ls, rfl⟩ := ptr_is v1
  obtain ⟨Bv, mv, lv, rfl⟩ := ptr_is v2
  have hws' : ws = #[.pointer (some ⟨Bp, 0, none⟩), .pointer (some ⟨Bs, 0, none⟩), .pointer (some ⟨Bv, 0, none⟩)] := by
    apply Array.ext
    · simpa using hws
    · intro i hi1 hi2
      have hi : i < 3 := by simpa using hi2
      rcases i with _ | _ | _ | i
      · obtain ⟨_, e⟩ := Array.getElem?_eq_some_iff.1 e0; simpa using e
      · obtain ⟨_, e⟩ := Array.getElem?_eq_some_iff.1 e1; simpa using e
      · obtain ⟨_, e⟩ := Array.getElem?_eq_some_iff.1 e2; simpa using e
      · omega
  subst hws'
  obtain ⟨x1, es, g1, y1⟩ := box_is hs h1 ls
  obtain ⟨x2, ep, g2, y2⟩ := box_is hs h2 lp
  obtain ⟨x3, ev, g3, y3⟩ := box_is hs h3 lv
  simp only [VR] at y1 y2 y3
  subst y1 y2 y3
  have d1 : Bp ≠ Bs := fun e => by subst e; exact n1 (hs.inj rp rs _ _ Bp mp ms h2 h1 trivial trivial lp ls)
  have d2 : Bv ≠ Bs := fun e => by subst e; exact n2 (hs.inj rv rs _ _ Bv mv ms h3 h1 trivial trivial lv ls)
  have hBl : ∀ k, (k = Bs ∨ k = Bp ∨ k = Bv) ↔ Bl c [rs, rp, rv] k := by
    intro k
    constructor
    · rintro (rfl | rfl | rfl)
      · exact ⟨rs, ms, by simp, ls⟩
      · exact ⟨rp, mp, by simp, lp⟩
      · exact ⟨rv, mv, by simp, lv⟩
    · rintro ⟨r, m, hr, hl⟩
      simp at hr
      rcases hr with rfl | rfl | rfl
      · rw [ls] at hl; simp at hl; exact .inl hl.1.symm
      · rw [lp] at hl; simp at hl; exact .inr (.inl hl.1.symm)
      · rw [lv] at hl; simp at hl; exact .inr (.inr hl.1.symm)
  refine ⟨62, _, rfl, enters_of Tryd.func62 (by kernel_rfl) rfl, ?_⟩
  intro l J Jx W1 hJ hJx hY hsame h0
  refine (callsIn_wide (n := 0)).2 ((callsIn_wide (n := 1)).1 (split_in l Bs Bp Bv es ep ev d1 d2 s hb J Jx (fun pre A B h k => hJ pre A B h (k.mono fun i hi => (hBl i).1 hi)) (fun pre A B h k => hJx pre A B h (k.mono fun i hi => (hBl i).1 hi)) (fun pre x A hpre hj => ?_) W1
    ((hsame Bs ((hBl Bs).1 (.inl rfl))).trans g1) ((hsame Bp ((hBl Bp).1 (.inr (.inl rfl)))).trans g2) ((hsame Bv ((hBl Bv).1 (.inr (.inr rfl)))).trans g3) h0))
  obtain ⟨fn, tmps, assign, body, hy, hR⟩ := hY pre x A hpre hj
  refine ⟨fn, tmps, assign, body, hy, hR.mono ?_⟩
  rintro e B (⟨rfl, k1, k2⟩ | k)
  · exact .inl ⟨rfl, k1, k2 Bs ((hBl Bs).1 (.inl rfl)), k2 Bp ((hBl Bp).1 (.inr (.inl rfl))), k2 Bv ((hBl Bv).1 (.inr (.inr rfl)))⟩
  · exact .inr k
end Go.VM.Tryd
end
section
set_option linter.unusedVariables false
set_option linter.unusedSimpArgs false
open Go Go.VM Go.Proofs
namespace Go.VM.Tryd
set_option maxRecDepth 100000
theorem splitSeq0 (s : List UInt8) : Meets Tryd.prog 52 [.str s, .str [47], .int .i64 0] (.fn 62 [] [.ptr 1 0, .ptr 0 0, .ptr 2 0]) [.box [.str s], .box [.str [47]], .box [.int .i64 0]] := by
  refine meets_x (fn := Tryd.f52) Tryd.func52 rfl fb52 (by kernel_rfl) (Nat.le_of_ble_eq_true rfl) ?_
  refine cx_sr ?_
  simp only [go_sem]
  repeat first | (with_reducible refine side_d ?_ ?_; exact byD) | (with_reducible refine side_q ?_ ?_; exact byQ)
  refine cx_sr ?_
  simp only [go_sem]
  repeat first | (with_reducible refine side_d ?_ ?_; exact byD) | (with_reducible refine side_q ?_ ?_; exact byQ)
  refine cx_ret ?_
  simp only [go_sem]
  exact finx_of 1 [0, 1, 2] rfl byC byC byC byC
theorem SplitSeq (s : List UInt8) : Meets Tryd.prog 41 [.str s, .str [47]] (.fn 62 [] [.ptr 1 0, .ptr 0 0, .ptr 2 0]) [.box [.str s], .box [.str [47]], .box [.int .i64 0]] := by
  refine meets_x (fn := Tryd.f41) Tryd.func41 rfl fb41 (by kernel_rfl) (Nat.le_of_ble_eq_true rfl) ?_
  refine cx_sr ?_
  simp only [go_sem]
  repeat first | (with_reducible refine side_d ?_ ?_; exact byD) | (with_reducible refine side_q ?_ ?_; exact byQ)
  refine cx_sr ?_
  simp only [go_sem]
  repeat first | (with_reducible refine side_d ?_ ?_; exact byD) | (with_reducible refine side_q ?_ ?_; exact byQ)
  refine cw_m (splitSeq0 s) byW byT ?_
  simp only [go_sem]
  repeat first | (with_reducible refine side_d ?_ ?_; exact byD) | (with_reducible refine side_q ?_ ?_; exact byQ)
  refine cx_ret ?_
  simp only [go_sem]
  exact finx_of 1 [0, 1, 2] rfl byC byC byC byC
end Go.VM.Tryd
end
section
set_option linter.unusedVariables false
set_option linter.unusedSimpArgs false
open Go Go.VM
namespace Tether
abbrev Str := List UInt8
abbrev wrap (n : Int) : Int := IntKind.i64.wrap n
/-! ### Names -/
/-- a sign of a name -/
def signB (c : Int) : Bool := decide (97 ≤ c) && decide (c ≤ 122) || decide (65 ≤ c) && decide (c ≤ 90) || decide (48 ≤ c) && decide (c ≤ 57) || decide (0 ≤ Go.Lib.indexByte [45, 95, 46, 40, 41, 32] c.toNat.toUInt8)
def at8 (s : Str) (i : Nat) : Int := ((s.getD i 0).toNat : Int)
/-- a name -/
def isName (s : Str) : Bool :=
  !(decide (s = []) || decide (20 < (s.length : Int)) || decide (s = [46]) || decide (s = [46, 46])) && !(decide (at8 s 0 = 32) || decide (at8 s (s.length - 1) = 32)) && (List.range s.length).all fun i => signB (at8 s i)
/-! ### Uploads -/
structure Session where
  num : Int
  who : Str
  text : Str
  size : Int
  till : Int
  deriving Inhabited, DecidableEq
structure Uploads where
  ss : List Session
  next : Int
  lasts : Int
  room : Int
  deriving Inhabited, DecidableEq
def Session.enc (s : Session) : List V := [.int .i64 s.num, .str s.who, .str s.text, .int .i64 s.size, .int .i64 s.till]
abbrev ssV (l : List Session) : V := lstV 5 Session.enc default l
def Uploads.enc (u : Uploads) : V := .agg [ssV u.ss, .int .i64 u.next, .int .i64 u.lasts, .int .i64 u.room]
attribute [go_sem] Session.enc Uploads.enc
def within (n a b : Int) : Bool := decide (a ≤ n) && decide (n ≤ b)
/-- open sizes of somebody -/
def openW (l : List Session) (who : Str) : Int := l.foldl (fun n s => if s.who = who then wrap (n + s.size) else n) 0
/-- what is wrong with a session -/
def sessErr (u : Uploads) (s : Session) : Int :=
  if (!within s.num 1 (wrap (u.next - 1)) || !within s.size 0 300 || !within s.till 0 2199023255552) = true then 3
  else if isName s.who = false then 1
  else if s.size < (s.text.length : Int) then 2 else 0
/-- the first thing that is wrong, in some order -/
def firstErr {α : Type} (f : α → Int) : List α → Int
  | [] => 0
  | x :: l => if f x ≠ 0 then f x else firstErr f l
/-- do numbers rise? -/
def risesAt (l : List Session) (i : Nat) : Bool := decide ((l.getD (i - 1) default).num < (l.getD i default).num)
def checkU (u : Uploads) : Int :=
  if (!within u.lasts 1 1000000 || !within u.room 0 100000 || !within u.next 1 1099511627776) = true then 3
  else if 20 < (u.ss.length : Int) then 2
  else if firstErr (sessErr u) u.ss ≠ 0 then firstErr (sessErr u) u.ss
  else if ((List.range u.ss.length).all fun i => i = 0 || risesAt u.ss i) = false then 4
  else if (u.ss.all fun s => decide (openW u.ss s.who ≤ u.room)) = false then 10
  else 0
theorem foldl_take {α β : Type} (f : β → α → β) (a : β) (l : List α) (d : α) {i : Nat} (h : i < l.length) : (l.take (i + 1)).foldl f a = f ((l.take i).foldl f a) (l.getD i d) := by
  rw [List.take_succ_eq_append_getElem h, List.foldl_append]
  simp [List.getD, h]
theorem firstErr_at {α : Type} {f : α → Int} {l : List α} {d : α} {i : Nat} (hi : i < l.length) (hb : ∀ j, j < i → f (l.getD j d) = 0) (h : f (l.getD i d) ≠ 0) : firstErr f l = f (l.getD i d) := by
  induction l generalizing i with
  | nil => simp at hi
  | cons x l ih =>
    cases i with
    | zero => simpa [firstErr] using fun h' => absurd h' (by simpa using h)
    | succ i =>
      have h0 := hb 0 (by omega)
      simp at h0
      simp only [firstErr, h0]
      simpa using ih (by simpa using hi) (fun j hj => by simpa using hb (j + 1) (by omega)) (by simpa using h)
theorem firstErr_none {α : Type} {f : α → Int} {l : List α} {d : α} (hb : ∀ j, j < l.length → f (l.getD j d) = 0) : firstErr f l = 0 := by
  induction l with
  | nil => rfl
  | cons x l ih =>
    have h0 := hb 0 (by simp)
    simp at h0
    simp only [firstErr, h0]
    simpa using ih fun j hj => by simpa using hb (j + 1) (by simpa using hj)
theorem all_next {p : Nat → Prop} {i : Nat} (h : ∀ j, j < i → p j) (hi : p i) : ∀ j, j < i + 1 → p j := fun j hj => by
  rcases Nat.lt_or_ge j i with h' | h'
  · exact h j h'
  · obtain rfl : j = i := by omega
    exact hi
theorem getD_take {α : Type} {l : List α} {d : α} {i q : Nat} (h : q < i) : (l.take i).getD q d = l.getD q d := by
  simp [List.getD, List.getElem?_take, h]
theorem getD_mem {α : Type} {l : List α} {d : α} {i : Nat} (h : i < l.length) : l.getD i d ∈ l := by
  simp [List.getD, h]
theorem range_all_false {n i : Nat} {p : Nat → Bool} (hi : i < n) (h : p i = false) : (List.range n).all p = false := by
  rw [List.all_eq_false]; exact ⟨i, by simpa using hi, by simpa using h⟩
theorem range_all_true {n : Nat} {p : Nat → Bool} (h : ∀ i, i < n → p i = true) : (List.range n).all p = true := by
  rw [List.all_eq_true]; exact fun i hi => h i (by simpa using hi)
theorem all_at {α : Type} {l : List α} {p : α → Bool} {d : α} {i : Nat} (hi : i < l.length) (h : p (l.getD i d) = false) : l.all p = false := by
  rw [List.all_eq_false]; exact ⟨l[i], List.getElem_mem hi, by simpa [List.getD, hi] using h⟩
theorem all_of {α : Type} {l : List α} {p : α → Bool} {d : α} (h : ∀ i, i < l.length → p (l.getD i d) = true) : l.all p = true := by
  rw [List.all_eq_true]
  intro x hx
  obtain ⟨i, hi, rfl⟩ := List.getElem_of_mem hx
  simpa [List.getD, hi] using h i hi
end Tether
end
section
set_option linter.unusedVariables false
set_option linter.unusedSimpArgs false
open Go Go.VM Go.Proofs Tether
namespace Go.VM
theorem cw_cnt {P : Program} {f : Nat} {fn : Func} (hf : P.funcs[f]? = some fn) (hname : (fn.name == "runtime.NumGoroutine") = false) (hb : fn.body.isNone = true) (hn : Extern.findNext fn = none) (he : Extern.find fn = some Extern.BytealgCount.count)
    {s : List UInt8} {c : Int} {H : Heap} {K : V → Heap → Prop} (hk : K (.int .i64 (s.count c.toNat.toUInt8 : Nat)) H) : cw P f [.str s, .int .u8 c] H K := by
  intro F cc hs us hsz hus
  simp only [VRs, VR] at hus
  obtain ⟨⟨u1, g1, rfl⟩, ⟨u2, g2, rfl⟩, -⟩ := hus
  have hus : us = #[.string ⟨s.toArray⟩, .int .u8 c] := by
    apply Array.ext'
    apply List.ext_getElem?
    intro j
    rcases j with _ | _ | j
    · simpa using g1
    · simpa using g2
    · have : us.toList.length = 2 := by simpa using hsz
      rw [List.getElem?_eq_none (by omega)]
      simp
  subst hus
  refine .inr ⟨.int .i64 (s.count c.toNat.toUInt8 : Nat), cc.w, ?_, cc, .int .i64 (s.count c.toNat.toUInt8 : Nat), .int .i64 (s.count c.toNat.toUInt8 : Nat), H, rfl, rfl, Le.refl _, hs, by simp only [VR], hk⟩
  rw [run_callFunc_extern hf hname hb hn he]
  have := Lib.run_countString (P := P) ⟨s.toArray⟩ c cc.w
  simp only [Lib.countByte] at this
  simp [Sem.run_bind, this, Result.andThen]
end Go.VM
namespace Go.VM.Tryd
set_option maxRecDepth 100000
theorem sign_c (c : Int) : Meets Tryd.prog 50 [.int .u8 c] (.bool (signB c)) [] := by
  refine meets_x (fn := Tryd.f50) Tryd.func50 rfl fb50 (by kernel_rfl) (Nat.le_of_ble_eq_true rfl) ?_
  refine cx_sr ?_
  simp only [go_sem]
  repeat first | (with_reducible refine side_d ?_ ?_; exact byD) | (with_reducible refine side_q ?_ ?_; exact byQ)
  refine cx_sr ?_
  simp only [go_sem]
  repeat first | (with_reducible refine side_d ?_ ?_; exact byD) | (with_reducible refine side_q ?_ ?_; exact byQ)
  intro t4 e4
  repeat first | (with_reducible refine side_d ?_ ?_; exact byD) | (with_reducible refine side_q ?_ ?_; exact byQ)
  intro t7 e7
  repeat first | (with_reducible refine side_d ?_ ?_; exact byD) | (with_reducible refine side_q ?_ ?_; exact byQ)
  intro t8 e8
  rw [bsel_and] at e8
  repeat first | (with_reducible refine side_d ?_ ?_; exact byD) | (with_reducible refine side_q ?_ ?_; exact byQ)
  intro t11 e11
  repeat first | (with_reducible refine side_d ?_ ?_; exact byD) | (with_reducible refine side_q ?_ ?_; exact byQ)
  intro t14 e14
  repeat first | (with_reducible refine side_d ?_ ?_; exact byD) | (with_reducible refine side_q ?_ ?_; exact byQ)
  intro t15 e15
  rw [bsel_and] at e15
  repeat first | (with_reducible refine side_d ?_ ?_; exact byD) | (with_reducible refine side_q ?_ ?_; exact byQ)
  intro t16 e16
  rw [bsel_or] at e16
  repeat first | (with_reducible refine side_d ?_ ?_; exact byD) | (with_reducible refine side_q ?_ ?_; exact byQ)
  intro t19 e19
  repeat first | (with_reducible refine side_d ?_ ?_; exact byD) | (with_reducible refine side_q ?_ ?_; exact byQ)
  intro t22 e22
  repeat first | (with_reducible refine side_d ?_ ?_; exact byD) | (with_reducible refine side_q ?_ ?_; exact byQ)
  intro t23 e23
  rw [bsel_and] at e23
  repeat first | (with_reducible refine side_d ?_ ?_; exact byD) | (with_reducible refine side_q ?_ ?_; exact byQ)
  intro t24 e24
  rw [bsel_or] at e24
  repeat first | (with_reducible refine side_d ?_ ?_; exact byD) | (with_reducible refine side_q ?_ ?_; exact byQ)
  refine ⟨_, fun hp => cw_m (IndexByte _ c) byW byT ⟨rfl, rfl⟩, ?_⟩
  simp only [go_sem]
  repeat first | (with_reducible refine side_d ?_ ?_; exact byD) | (with_reducible refine side_q ?_ ?_; exact byQ)
  intro t28 e28
  repeat first | (with_reducible refine side_d ?_ ?_; exact byD) | (with_reducible refine side_q ?_ ?_; exact byQ)
  intro t29 e29
  rw [bsel_or] at e29
  repeat first | (with_reducible refine side_d ?_ ?_; exact byD) | (with_reducible refine side_q ?_ ?_; exact byQ)
  subst e4 e7 e8 e11 e14 e15 e16 e19 e22 e23 e24 e28 e29
  refine cx_ret ?_
  simp only [go_sem]
  refine finw_bool ?_
  simp [signB]
theorem IsName_c (s : Str) (hs : s.length < 4611686018427387904) : Meets Tryd.prog 40 [.str s] (.bool (isName s)) [] := by
  refine meets_x (fn := Tryd.f40) Tryd.func40 rfl fb40 (by kernel_rfl) (Nat.le_of_ble_eq_true rfl) ?_
  refine cx_sr ?_
  simp only [go_sem]
  repeat first | (with_reducible refine side_d ?_ ?_; exact byD) | (with_reducible refine side_q ?_ ?_; exact byQ)
  refine cx_sr ?_
  simp only [go_sem]
  repeat first | (with_reducible refine side_d ?_ ?_; exact byD) | (with_reducible refine side_q ?_ ?_; exact byQ)
  refine cx_seq (cx_block ?_)
  refine cx_sr ?_
  simp only [go_sem]
  repeat first | (with_reducible refine side_d ?_ ?_; exact byD) | (with_reducible refine side_q ?_ ?_; exact byQ)
  intro t7 e7
  repeat first | (with_reducible refine side_d ?_ ?_; exact byD) | (with_reducible refine side_q ?_ ?_; exact byQ)
  intro t11 e11
  repeat first | (with_reducible refine side_d ?_ ?_; exact byD) | (with_reducible refine side_q ?_ ?_; exact byQ)
  intro t12 e12
  rw [bsel_or] at e12
  repeat first | (with_reducible refine side_d ?_ ?_; exact byD) | (with_reducible refine side_q ?_ ?_; exact byQ)
  intro t15 e15
  repeat first | (with_reducible refine side_d ?_ ?_; exact byD) | (with_reducible refine side_q ?_ ?_; exact byQ)
  intro t16 e16
  rw [bsel_or] at e16
  repeat first | (with_reducible refine side_d ?_ ?_; exact byD) | (with_reducible refine side_q ?_ ?_; exact byQ)
  intro t19 e19
  repeat first | (with_reducible refine side_d ?_ ?_; exact byD) | (with_reducible refine side_q ?_ ?_; exact byQ)
  intro t20 e20
  rw [bsel_or] at e20
  repeat first | (with_reducible refine side_d ?_ ?_; exact byD) | (with_reducible refine side_q ?_ ?_; exact byQ)
  subst e7 e11 e12 e15 e16 e19 e20
  refine cx_if _ rfl (fun h5 => ?_) (fun h5 => ?_)
  ·
    (try simp only [go_sem] at h5)
    refine cx_sr ?_
    simp only [go_sem]
    repeat first | (with_reducible refine side_d ?_ ?_; exact byD) | (with_reducible refine side_q ?_ ?_; exact byQ)
    refine cx_ret ?_
    simp only [go_sem]
    refine finw_bool ?_
    rcases h5 with ((h5 | h5) | h5) | h5 <;> simp [isName, h5]
  ·
    (try simp only [go_sem] at h5)
    have hpos : 0 < s.length := by
      rcases s with _ | ⟨x, s⟩
      · simp at h5
      · simp
    refine cx_sr ?_
    simp only [go_sem]
    repeat first | (with_reducible refine side_d ?_ ?_; exact byD) | (with_reducible refine side_q ?_ ?_; exact byQ)
    intro t23 e23
    repeat first | (with_reducible refine side_d ?_ ?_; exact byD) | (with_reducible refine side_q ?_ ?_; exact byQ)
    intro t24 e24
    repeat first | (with_reducible refine side_d ?_ ?_; exact byD) | (with_reducible refine side_q ?_ ?_; exact byQ)
    intro t29 e29
    (try replace e29 := w64 e29 (by omega) (by omega))
    repeat first | (with_reducible refine side_d ?_ ?_; exact byD) | (with_reducible refine side_q ?_ ?_; exact byQ)
    intro t30 e30
    repeat first | (with_reducible refine side_d ?_ ?_; exact byD) | (with_reducible refine side_q ?_ ?_; exact byQ)
    intro t31 e31
    repeat first | (with_reducible refine side_d ?_ ?_; exact byD) | (with_reducible refine side_q ?_ ?_; exact byQ)
    intro t32 e32
    rw [bsel_or] at e32
    repeat first | (with_reducible refine side_d ?_ ?_; exact byD) | (with_reducible refine side_q ?_ ?_; exact byQ)
    subst e24 e31 e32
    refine cx_if _ rfl (fun h21 => ?_) (fun h21 => ?_)
    ·
      (try simp only [go_sem] at h21)
      refine cx_sr ?_
      simp only [go_sem]
      repeat first | (with_reducible refine side_d ?_ ?_; exact byD) | (with_reducible refine side_q ?_ ?_; exact byQ)
      refine cx_ret ?_
      simp only [go_sem]
      refine finw_bool ?_
      have hl : ((s.length : Int) - 1).toNat = s.length - 1 := by omega
      subst e23 e29 e30
      simp only [hl] at h21
      rcases h21 with h21 | h21 <;> simp [isName, at8] <;> intros <;> simp_all
    ·
      (try simp only [go_sem] at h21)
      refine cx_skip ?_
      (try simp only [go_sem])
      refine cx_seq ?_
      refine cx_sr ?_
      simp only [go_sem]
      repeat first | (with_reducible refine side_d ?_ ?_; exact byD) | (with_reducible refine side_q ?_ ?_; exact byQ)
      refine cx_block ?_
      refine cx_loop0 (σ := Nat) (fun i => i ≤ s.length ∧ ∀ j, j < i → signB (at8 s j) = true) (fun i => [⟨35, 0, [], .int .i64 (i : Nat)⟩]) [0, 3, 34] (fun i => s.length - i) 0 ⟨Nat.zero_le _, fun j hj => absurd hj (Nat.not_lt_zero j)⟩ (Nat.zero_le _) byC (fun i hI1 => ?_)
      simp only [go_sem]
      refine cx_sr ?_
      simp only [go_sem]
      repeat first | (with_reducible refine side_d ?_ ?_; exact byD) | (with_reducible refine side_q ?_ ?_; exact byQ)
      intro t36 e36
      repeat first | (with_reducible refine side_d ?_ ?_; exact byD) | (with_reducible refine side_q ?_ ?_; exact byQ)
      subst e36
      refine cx_seq ?_
      refine cx_if _ rfl (fun h36 => ?_) (fun h36 => ?_)
      ·
        (try simp only [go_sem] at h36)
        refine cx_skip ?_
        (try simp only [go_sem])
        refine cx_seq (cx_block ?_)
        refine cx_sr ?_
        simp only [go_sem]
        repeat first | (with_reducible refine side_d ?_ ?_; exact byD) | (with_reducible refine side_q ?_ ?_; exact byQ)
        refine cx_sr ?_
        simp only [go_sem]
        repeat first | (with_reducible refine side_d ?_ ?_; exact byD) | (with_reducible refine side_q ?_ ?_; exact byQ)
        intro t41 e41
        repeat first | (with_reducible refine side_d ?_ ?_; exact byD) | (with_reducible refine side_q ?_ ?_; exact byQ)
        refine cw_m (sign_c _) byW byT ?_
        simp only [go_sem]
        repeat first | (with_reducible refine side_d ?_ ?_; exact byD) | (with_reducible refine side_q ?_ ?_; exact byQ)
        intro t43 e43
        repeat first | (with_reducible refine side_d ?_ ?_; exact byD) | (with_reducible refine side_q ?_ ?_; exact byQ)
        subst e43
        refine cx_if _ rfl (fun h43 => ?_) (fun h43 => ?_)
        ·
          (try simp only [go_sem] at h43)
          refine cx_sr ?_
          simp only [go_sem]
          repeat first | (with_reducible refine side_d ?_ ?_; exact byD) | (with_reducible refine side_q ?_ ?_; exact byQ)
          refine cx_ret ?_
          simp only [go_sem]
          refine finw_bool ?_
          have := range_all_false (p := fun i => signB (at8 s i)) (i := i) (n := s.length) (by omega) (by simpa [at8, e41] using h43)
          simp [isName, this]
        ·
          (try simp only [go_sem] at h43)
          refine cx_skip ?_
          (try simp only [go_sem])
          refine cx_region ?_
          simp only [go_sem]
          repeat first | (with_reducible refine side_d ?_ ?_; exact byD) | (with_reducible refine side_q ?_ ?_; exact byQ)
          intro t44 e44
          (try replace e44 := w64 e44 (by omega) (by omega))
          repeat first | (with_reducible refine side_d ?_ ?_; exact byD) | (with_reducible refine side_q ?_ ?_; exact byQ)
          refine rnd_next (i + 1) ⟨by omega, fun j hj => ?_⟩ (by show s.length - (i + 1) < s.length - i; omega) byC
          rcases Nat.lt_or_ge j i with h | h
          · exact hI1.2 j h
          · obtain rfl : j = i := by omega
            simpa [at8, e41] using h43
      ·
        (try simp only [go_sem] at h36)
        refine cx_exit ?_
        simp only [go_sem]
        refine cx_sr ?_
        simp only [go_sem]
        repeat first | (with_reducible refine side_d ?_ ?_; exact byD) | (with_reducible refine side_q ?_ ?_; exact byQ)
        refine cx_ret ?_
        simp only [go_sem]
        refine finw_bool ?_
        have := range_all_true (p := fun i => signB (at8 s i)) (n := s.length) fun j hj => hI1.2 j (by omega)
        have hl : ((s.length : Int) - 1).toNat = s.length - 1 := by omega
        subst e23 e29 e30
        simp only [hl] at h21
        simp [isName, at8, this, h5] at *
        simp_all

theorem Count (s : List UInt8) : Meets Tryd.prog 48 [.str s, .str [47]] (.int .i64 (s.count 47 : Nat)) [] := by
  refine meets_x (fn := Tryd.f48) Tryd.func48 rfl fb48 (by kernel_rfl) (Nat.le_of_ble_eq_true rfl) ?_
  refine cx_sr ?_
  simp only [go_sem]
  repeat first | (with_reducible refine side_d ?_ ?_; exact byD) | (with_reducible refine side_q ?_ ?_; exact byQ)
  refine cx_seq ?_
  refine cx_sr ?_
  simp only [go_sem]
  repeat first | (with_reducible refine side_d ?_ ?_; exact byD) | (with_reducible refine side_q ?_ ?_; exact byQ)
  intro t9 e9
  repeat first | (with_reducible refine side_d ?_ ?_; exact byD) | (with_reducible refine side_q ?_ ?_; exact byQ)
  subst e9
  refine cx_if _ rfl (fun h9 => ?_) (fun h9 => ?_)
  · simp at h9
  ·
    (try simp only [go_sem] at h9)
    refine cx_skip ?_
    (try simp only [go_sem])
    refine cx_seq ?_
    refine cx_sr ?_
    simp only [go_sem]
    repeat first | (with_reducible refine side_d ?_ ?_; exact byD) | (with_reducible refine side_q ?_ ?_; exact byQ)
    intro t15 e15
    repeat first | (with_reducible refine side_d ?_ ?_; exact byD) | (with_reducible refine side_q ?_ ?_; exact byQ)
    subst e15
    refine cx_if _ rfl (fun h15 => ?_) (fun h15 => ?_)
    ·
      (try simp only [go_sem] at h15)
      refine cx_sr ?_
      simp only [go_sem]
      repeat first | (with_reducible refine side_d ?_ ?_; exact byD) | (with_reducible refine side_q ?_ ?_; exact byQ)
      intro t18 e18
      repeat first | (with_reducible refine side_d ?_ ?_; exact byD) | (with_reducible refine side_q ?_ ?_; exact byQ)
      refine cw_cnt Tryd.func58 (by kernel_rfl) (by kernel_rfl) (by kernel_rfl) (by kernel_rfl) ?_
      simp only [go_sem]
      repeat first | (with_reducible refine side_d ?_ ?_; exact byD) | (with_reducible refine side_q ?_ ?_; exact byQ)
      refine cx_ret ?_
      simp only [go_sem]
      refine finw_int ?_
      subst e18
      rfl
    · simp at h15
def greatB (s : List UInt8) : Bool := decide (6 ≤ s.count 47) || decide (80 < s.length)
theorem great (s : List UInt8) : Meets Tryd.prog 37 [.str s] (.bool (greatB s)) [] := by
  refine meets_x (fn := Tryd.f37) Tryd.func37 rfl fb37 (by kernel_rfl) (Nat.le_of_ble_eq_true rfl) ?_
  refine cx_sr ?_
  simp only [go_sem]
  repeat first | (with_reducible refine side_d ?_ ?_; exact byD) | (with_reducible refine side_q ?_ ?_; exact byQ)
  refine cx_sr ?_
  simp only [go_sem]
  repeat first | (with_reducible refine side_d ?_ ?_; exact byD) | (with_reducible refine side_q ?_ ?_; exact byQ)
  refine cw_m (Count s) byW byT ?_
  simp only [go_sem]
  repeat first | (with_reducible refine side_d ?_ ?_; exact byD) | (with_reducible refine side_q ?_ ?_; exact byQ)
  intro t5 e5
  repeat first | (with_reducible refine side_d ?_ ?_; exact byD) | (with_reducible refine side_q ?_ ?_; exact byQ)
  intro t9 e9
  repeat first | (with_reducible refine side_d ?_ ?_; exact byD) | (with_reducible refine side_q ?_ ?_; exact byQ)
  intro t10 e10
  rw [bsel_or] at e10
  repeat first | (with_reducible refine side_d ?_ ?_; exact byD) | (with_reducible refine side_q ?_ ?_; exact byQ)
  subst e5 e9 e10
  refine cx_ret ?_
  simp only [go_sem]
  refine finw_bool ?_
  simp [greatB]
  have h1 : ((6 : Int) ≤ (s.count 47 : Nat)) ↔ 6 ≤ s.count 47 := by omega
  have h2 : ((80 : Int) < (s.length : Nat)) ↔ 80 < s.length := by omega
  simp only [h1, h2]
end Go.VM.Tryd
end
