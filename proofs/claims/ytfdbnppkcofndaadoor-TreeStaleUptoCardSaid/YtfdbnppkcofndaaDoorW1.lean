import Derived.Test.YtfdbnppkcofndaaDoorV5
import Derived.Test.YtfdbnppkcofndaaDoorChecked
import Derived.Lib.Strings
import Derived.Lib.Slices
import Derived.Lib.Walk
import Derived.Lib.Bytealg
import Derived.RangeFuncBound
import Derived.RangeFuncCalls
import Derived.RangeFuncLeaves
import Derived.Shelf.Abstract
import Derived.Shelf.RegionOpen
import Derived.WalkKit
import Derived.OwnWalkIn
import Derived.TacticsInMore
import Derived.LoopNIn
import Derived.LoopIn
section
set_option linter.unusedVariables false
open Go Go.VM Go.Proofs
namespace Go.VM.Tryd
theorem tn1 : tint Tryd.prog 1 = false := by kernel_rfl
theorem ty1 : tbyte Tryd.prog 1 = false := by kernel_rfl
theorem tk1 : tkind Tryd.prog 1 = .other := by kernel_rfl
theorem te1 : telem Tryd.prog 1 = none := by kernel_rfl
theorem ts1 : tsize Tryd.prog 1 = 1 := by kernel_rfl
theorem tb1 : tbytes Tryd.prog 1 = 8 := by kernel_rfl
theorem tz1 : tzero Tryd.prog 1 = (some [.bad]) := by kernel_rfl
theorem ti1 : ti Tryd.prog 1 = ⟨1, 8, (some false), none, .other, (some [.bad])⟩ := by kernel_rfl
theorem tn2 : tint Tryd.prog 2 = true := by kernel_rfl
theorem ty2 : tbyte Tryd.prog 2 = false := by kernel_rfl
theorem tk2 : tkind Tryd.prog 2 = (.int .i64) := by kernel_rfl
theorem te2 : telem Tryd.prog 2 = none := by kernel_rfl
theorem ts2 : tsize Tryd.prog 2 = 1 := by kernel_rfl
theorem tb2 : tbytes Tryd.prog 2 = 8 := by kernel_rfl
theorem tz2 : tzero Tryd.prog 2 = (some [.int .i64 (0)]) := by kernel_rfl
theorem ti2 : ti Tryd.prog 2 = ⟨1, 8, (some false), none, (.int .i64), (some [.int .i64 (0)])⟩ := by kernel_rfl
theorem tn3 : tint Tryd.prog 3 = true := by kernel_rfl
theorem ty3 : tbyte Tryd.prog 3 = false := by kernel_rfl
theorem tk3 : tkind Tryd.prog 3 = (.int .i64) := by kernel_rfl
theorem te3 : telem Tryd.prog 3 = none := by kernel_rfl
theorem ts3 : tsize Tryd.prog 3 = 1 := by kernel_rfl
theorem tb3 : tbytes Tryd.prog 3 = 8 := by kernel_rfl
theorem tz3 : tzero Tryd.prog 3 = (some [.int .i64 (0)]) := by kernel_rfl
theorem ti3 : ti Tryd.prog 3 = ⟨1, 8, (some false), none, (.int .i64), (some [.int .i64 (0)])⟩ := by kernel_rfl
theorem tn4 : tint Tryd.prog 4 = false := by kernel_rfl
theorem ty4 : tbyte Tryd.prog 4 = false := by kernel_rfl
theorem tk4 : tkind Tryd.prog 4 = .bool := by kernel_rfl
theorem te4 : telem Tryd.prog 4 = none := by kernel_rfl
theorem ts4 : tsize Tryd.prog 4 = 1 := by kernel_rfl
theorem tb4 : tbytes Tryd.prog 4 = 1 := by kernel_rfl
theorem tz4 : tzero Tryd.prog 4 = (some [.bool false]) := by kernel_rfl
theorem ti4 : ti Tryd.prog 4 = ⟨1, 1, (some false), none, .bool, (some [.bool false])⟩ := by kernel_rfl
theorem tn5 : tint Tryd.prog 5 = true := by kernel_rfl
theorem ty5 : tbyte Tryd.prog 5 = false := by kernel_rfl
theorem tk5 : tkind Tryd.prog 5 = (.int .u8) := by kernel_rfl
theorem te5 : telem Tryd.prog 5 = none := by kernel_rfl
theorem ts5 : tsize Tryd.prog 5 = 1 := by kernel_rfl
theorem tb5 : tbytes Tryd.prog 5 = 1 := by kernel_rfl
theorem tz5 : tzero Tryd.prog 5 = (some [.int .u8 (0)]) := by kernel_rfl
theorem ti5 : ti Tryd.prog 5 = ⟨1, 1, (some false), none, (.int .u8), (some [.int .u8 (0)])⟩ := by kernel_rfl
theorem tn6 : tint Tryd.prog 6 = true := by kernel_rfl
theorem ty6 : tbyte Tryd.prog 6 = false := by kernel_rfl
theorem tk6 : tkind Tryd.prog 6 = (.int .u8) := by kernel_rfl
theorem te6 : telem Tryd.prog 6 = none := by kernel_rfl
theorem ts6 : tsize Tryd.prog 6 = 1 := by kernel_rfl
theorem tb6 : tbytes Tryd.prog 6 = 1 := by kernel_rfl
theorem tz6 : tzero Tryd.prog 6 = (some [.int .u8 (0)]) := by kernel_rfl
theorem ti6 : ti Tryd.prog 6 = ⟨1, 1, (some false), none, (.int .u8), (some [.int .u8 (0)])⟩ := by kernel_rfl
theorem pl7 : tplaces Tryd.prog 7 = (some [(0, 1), (1, 1), (2, 1), (3, 1)]) := by kernel_rfl
theorem tf7_0 : tfield Tryd.prog 7 0 = (some (0, 2)) := by kernel_rfl
theorem tf7_1 : tfield Tryd.prog 7 1 = (some (1, 3)) := by kernel_rfl
theorem tf7_2 : tfield Tryd.prog 7 2 = (some (2, 4)) := by kernel_rfl
theorem tf7_3 : tfield Tryd.prog 7 3 = (some (3, 6)) := by kernel_rfl
theorem tn7 : tint Tryd.prog 7 = false := by kernel_rfl
theorem ty7 : tbyte Tryd.prog 7 = false := by kernel_rfl
theorem tk7 : tkind Tryd.prog 7 = (.flat [1, 1, 0, 1]) := by kernel_rfl
theorem te7 : telem Tryd.prog 7 = none := by kernel_rfl
theorem ts7 : tsize Tryd.prog 7 = 4 := by kernel_rfl
theorem tb7 : tbytes Tryd.prog 7 = 24 := by kernel_rfl
theorem tz7 : tzero Tryd.prog 7 = (some [.int .i64 (0), .int .i64 (0), .bool false, .int .u8 (0)]) := by kernel_rfl
theorem ti7 : ti Tryd.prog 7 = ⟨4, 24, (some true), none, (.flat [1, 1, 0, 1]), (some [.int .i64 (0), .int .i64 (0), .bool false, .int .u8 (0)])⟩ := by kernel_rfl
theorem pl8 : tplaces Tryd.prog 8 = (some [(0, 1), (1, 1), (2, 1), (3, 1)]) := by kernel_rfl
theorem tf8_0 : tfield Tryd.prog 8 0 = (some (0, 2)) := by kernel_rfl
theorem tf8_1 : tfield Tryd.prog 8 1 = (some (1, 3)) := by kernel_rfl
theorem tf8_2 : tfield Tryd.prog 8 2 = (some (2, 4)) := by kernel_rfl
theorem tf8_3 : tfield Tryd.prog 8 3 = (some (3, 6)) := by kernel_rfl
theorem tn8 : tint Tryd.prog 8 = false := by kernel_rfl
theorem ty8 : tbyte Tryd.prog 8 = false := by kernel_rfl
theorem tk8 : tkind Tryd.prog 8 = (.flat [1, 1, 0, 1]) := by kernel_rfl
theorem te8 : telem Tryd.prog 8 = none := by kernel_rfl
theorem ts8 : tsize Tryd.prog 8 = 4 := by kernel_rfl
theorem tb8 : tbytes Tryd.prog 8 = 24 := by kernel_rfl
theorem tz8 : tzero Tryd.prog 8 = (some [.int .i64 (0), .int .i64 (0), .bool false, .int .u8 (0)]) := by kernel_rfl
theorem ti8 : ti Tryd.prog 8 = ⟨4, 24, (some true), none, (.flat [1, 1, 0, 1]), (some [.int .i64 (0), .int .i64 (0), .bool false, .int .u8 (0)])⟩ := by kernel_rfl
theorem tn9 : tint Tryd.prog 9 = false := by kernel_rfl
theorem ty9 : tbyte Tryd.prog 9 = false := by kernel_rfl
theorem tk9 : tkind Tryd.prog 9 = .str := by kernel_rfl
theorem te9 : telem Tryd.prog 9 = none := by kernel_rfl
theorem ts9 : tsize Tryd.prog 9 = 1 := by kernel_rfl
theorem tb9 : tbytes Tryd.prog 9 = 16 := by kernel_rfl
theorem tz9 : tzero Tryd.prog 9 = (some [.str []]) := by kernel_rfl
theorem ti9 : ti Tryd.prog 9 = ⟨1, 16, (some false), none, .str, (some [.str []])⟩ := by kernel_rfl
theorem tn10 : tint Tryd.prog 10 = false := by kernel_rfl
theorem ty10 : tbyte Tryd.prog 10 = false := by kernel_rfl
theorem tk10 : tkind Tryd.prog 10 = .str := by kernel_rfl
theorem te10 : telem Tryd.prog 10 = none := by kernel_rfl
theorem ts10 : tsize Tryd.prog 10 = 1 := by kernel_rfl
theorem tb10 : tbytes Tryd.prog 10 = 16 := by kernel_rfl
theorem tz10 : tzero Tryd.prog 10 = (some [.str []]) := by kernel_rfl
theorem ti10 : ti Tryd.prog 10 = ⟨1, 16, (some false), none, .str, (some [.str []])⟩ := by kernel_rfl
theorem tn11 : tint Tryd.prog 11 = false := by kernel_rfl
theorem ty11 : tbyte Tryd.prog 11 = false := by kernel_rfl
theorem tk11 : tkind Tryd.prog 11 = .str := by kernel_rfl
theorem te11 : telem Tryd.prog 11 = none := by kernel_rfl
theorem ts11 : tsize Tryd.prog 11 = 1 := by kernel_rfl
theorem tb11 : tbytes Tryd.prog 11 = 16 := by kernel_rfl
theorem tz11 : tzero Tryd.prog 11 = (some [.str []]) := by kernel_rfl
theorem ti11 : ti Tryd.prog 11 = ⟨1, 16, (some false), none, .str, (some [.str []])⟩ := by kernel_rfl
theorem tn12 : tint Tryd.prog 12 = true := by kernel_rfl
theorem ty12 : tbyte Tryd.prog 12 = false := by kernel_rfl
theorem tk12 : tkind Tryd.prog 12 = (.int .u64) := by kernel_rfl
theorem te12 : telem Tryd.prog 12 = none := by kernel_rfl
theorem ts12 : tsize Tryd.prog 12 = 1 := by kernel_rfl
theorem tb12 : tbytes Tryd.prog 12 = 8 := by kernel_rfl
theorem tz12 : tzero Tryd.prog 12 = (some [.int .u64 (0)]) := by kernel_rfl
theorem ti12 : ti Tryd.prog 12 = ⟨1, 8, (some false), none, (.int .u64), (some [.int .u64 (0)])⟩ := by kernel_rfl
theorem pl13 : tplaces Tryd.prog 13 = (some [(0, 1), (1, 1)]) := by kernel_rfl
theorem tf13_0 : tfield Tryd.prog 13 0 = (some (0, 9)) := by kernel_rfl
theorem tf13_1 : tfield Tryd.prog 13 1 = (some (1, 12)) := by kernel_rfl
theorem tn13 : tint Tryd.prog 13 = false := by kernel_rfl
theorem ty13 : tbyte Tryd.prog 13 = false := by kernel_rfl
theorem tk13 : tkind Tryd.prog 13 = .other := by kernel_rfl
theorem te13 : telem Tryd.prog 13 = none := by kernel_rfl
theorem ts13 : tsize Tryd.prog 13 = 2 := by kernel_rfl
theorem tb13 : tbytes Tryd.prog 13 = 24 := by kernel_rfl
theorem tz13 : tzero Tryd.prog 13 = (some [.str [], .int .u64 (0)]) := by kernel_rfl
theorem ti13 : ti Tryd.prog 13 = ⟨2, 24, (some true), none, .other, (some [.str [], .int .u64 (0)])⟩ := by kernel_rfl
theorem pl14 : tplaces Tryd.prog 14 = (some [(0, 1), (1, 1)]) := by kernel_rfl
theorem tf14_0 : tfield Tryd.prog 14 0 = (some (0, 9)) := by kernel_rfl
theorem tf14_1 : tfield Tryd.prog 14 1 = (some (1, 12)) := by kernel_rfl
theorem tn14 : tint Tryd.prog 14 = false := by kernel_rfl
theorem ty14 : tbyte Tryd.prog 14 = false := by kernel_rfl
theorem tk14 : tkind Tryd.prog 14 = .other := by kernel_rfl
theorem te14 : telem Tryd.prog 14 = none := by kernel_rfl
theorem ts14 : tsize Tryd.prog 14 = 2 := by kernel_rfl
theorem tb14 : tbytes Tryd.prog 14 = 24 := by kernel_rfl
theorem tz14 : tzero Tryd.prog 14 = (some [.str [], .int .u64 (0)]) := by kernel_rfl
theorem ti14 : ti Tryd.prog 14 = ⟨2, 24, (some true), none, .other, (some [.str [], .int .u64 (0)])⟩ := by kernel_rfl
theorem tn15 : tint Tryd.prog 15 = false := by kernel_rfl
theorem ty15 : tbyte Tryd.prog 15 = false := by kernel_rfl
theorem tk15 : tkind Tryd.prog 15 = .other := by kernel_rfl
theorem te15 : telem Tryd.prog 15 = none := by kernel_rfl
theorem ts15 : tsize Tryd.prog 15 = 1 := by kernel_rfl
theorem tb15 : tbytes Tryd.prog 15 = 8 := by kernel_rfl
theorem tz15 : tzero Tryd.prog 15 = (some [.bad]) := by kernel_rfl
theorem ti15 : ti Tryd.prog 15 = ⟨1, 8, (some false), none, .other, (some [.bad])⟩ := by kernel_rfl
theorem tn16 : tint Tryd.prog 16 = false := by kernel_rfl
theorem ty16 : tbyte Tryd.prog 16 = false := by kernel_rfl
theorem tk16 : tkind Tryd.prog 16 = .other := by kernel_rfl
theorem te16 : telem Tryd.prog 16 = none := by kernel_rfl
theorem ts16 : tsize Tryd.prog 16 = 1 := by kernel_rfl
theorem tb16 : tbytes Tryd.prog 16 = 8 := by kernel_rfl
theorem tz16 : tzero Tryd.prog 16 = (some [.bad]) := by kernel_rfl
theorem ti16 : ti Tryd.prog 16 = ⟨1, 8, (some false), none, .other, (some [.bad])⟩ := by kernel_rfl
theorem tn17 : tint Tryd.prog 17 = false := by kernel_rfl
theorem ty17 : tbyte Tryd.prog 17 = false := by kernel_rfl
theorem tk17 : tkind Tryd.prog 17 = .other := by kernel_rfl
theorem te17 : telem Tryd.prog 17 = none := by kernel_rfl
theorem ts17 : tsize Tryd.prog 17 = 1 := by kernel_rfl
theorem tb17 : tbytes Tryd.prog 17 = 8 := by kernel_rfl
theorem tz17 : tzero Tryd.prog 17 = (some [.bad]) := by kernel_rfl
theorem ti17 : ti Tryd.prog 17 = ⟨1, 8, (some false), none, .other, (some [.bad])⟩ := by kernel_rfl
theorem pl18 : tplaces Tryd.prog 18 = (some [(0, 1)]) := by kernel_rfl
theorem tf18_0 : tfield Tryd.prog 18 0 = (some (0, 17)) := by kernel_rfl
theorem tn18 : tint Tryd.prog 18 = false := by kernel_rfl
theorem ty18 : tbyte Tryd.prog 18 = false := by kernel_rfl
theorem tk18 : tkind Tryd.prog 18 = .other := by kernel_rfl
theorem te18 : telem Tryd.prog 18 = none := by kernel_rfl
theorem ts18 : tsize Tryd.prog 18 = 1 := by kernel_rfl
theorem tb18 : tbytes Tryd.prog 18 = 8 := by kernel_rfl
theorem tz18 : tzero Tryd.prog 18 = (some [.bad]) := by kernel_rfl
theorem ti18 : ti Tryd.prog 18 = ⟨1, 8, (some true), none, .other, (some [.bad])⟩ := by kernel_rfl
theorem pl19 : tplaces Tryd.prog 19 = (some [(0, 1)]) := by kernel_rfl
theorem tf19_0 : tfield Tryd.prog 19 0 = (some (0, 17)) := by kernel_rfl
theorem tn19 : tint Tryd.prog 19 = false := by kernel_rfl
theorem ty19 : tbyte Tryd.prog 19 = false := by kernel_rfl
theorem tk19 : tkind Tryd.prog 19 = .other := by kernel_rfl
theorem te19 : telem Tryd.prog 19 = none := by kernel_rfl
theorem ts19 : tsize Tryd.prog 19 = 1 := by kernel_rfl
theorem tb19 : tbytes Tryd.prog 19 = 8 := by kernel_rfl
theorem tz19 : tzero Tryd.prog 19 = (some [.bad]) := by kernel_rfl
theorem ti19 : ti Tryd.prog 19 = ⟨1, 8, (some true), none, .other, (some [.bad])⟩ := by kernel_rfl
theorem tn20 : tint Tryd.prog 20 = false := by kernel_rfl
theorem ty20 : tbyte Tryd.prog 20 = false := by kernel_rfl
theorem tk20 : tkind Tryd.prog 20 = .other := by kernel_rfl
theorem te20 : telem Tryd.prog 20 = none := by kernel_rfl
theorem ts20 : tsize Tryd.prog 20 = 1 := by kernel_rfl
theorem tb20 : tbytes Tryd.prog 20 = 16 := by kernel_rfl
theorem tz20 : tzero Tryd.prog 20 = (some [.bad]) := by kernel_rfl
theorem ti20 : ti Tryd.prog 20 = ⟨1, 16, (some false), none, .other, (some [.bad])⟩ := by kernel_rfl
theorem tn21 : tint Tryd.prog 21 = true := by kernel_rfl
theorem ty21 : tbyte Tryd.prog 21 = false := by kernel_rfl
theorem tk21 : tkind Tryd.prog 21 = (.int .i32) := by kernel_rfl
theorem te21 : telem Tryd.prog 21 = none := by kernel_rfl
theorem ts21 : tsize Tryd.prog 21 = 1 := by kernel_rfl
theorem tb21 : tbytes Tryd.prog 21 = 4 := by kernel_rfl
theorem tz21 : tzero Tryd.prog 21 = (some [.int .i32 (0)]) := by kernel_rfl
theorem ti21 : ti Tryd.prog 21 = ⟨1, 4, (some false), none, (.int .i32), (some [.int .i32 (0)])⟩ := by kernel_rfl
theorem tn22 : tint Tryd.prog 22 = false := by kernel_rfl
theorem ty22 : tbyte Tryd.prog 22 = false := by kernel_rfl
theorem tk22 : tkind Tryd.prog 22 = .slice := by kernel_rfl
theorem te22 : telem Tryd.prog 22 = (some 48) := by kernel_rfl
theorem ts22 : tsize Tryd.prog 22 = 1 := by kernel_rfl
theorem tb22 : tbytes Tryd.prog 22 = 24 := by kernel_rfl
theorem tz22 : tzero Tryd.prog 22 = (some [.nil]) := by kernel_rfl
theorem ti22 : ti Tryd.prog 22 = ⟨1, 24, (some false), (some 48), .slice, (some [.nil])⟩ := by kernel_rfl
theorem tn23 : tint Tryd.prog 23 = false := by kernel_rfl
theorem ty23 : tbyte Tryd.prog 23 = false := by kernel_rfl
theorem tk23 : tkind Tryd.prog 23 = .slice := by kernel_rfl
theorem te23 : telem Tryd.prog 23 = (some 35) := by kernel_rfl
theorem ts23 : tsize Tryd.prog 23 = 1 := by kernel_rfl
theorem tb23 : tbytes Tryd.prog 23 = 24 := by kernel_rfl
theorem tz23 : tzero Tryd.prog 23 = (some [.nil]) := by kernel_rfl
theorem ti23 : ti Tryd.prog 23 = ⟨1, 24, (some false), (some 35), .slice, (some [.nil])⟩ := by kernel_rfl
theorem tn24 : tint Tryd.prog 24 = true := by kernel_rfl
theorem ty24 : tbyte Tryd.prog 24 = false := by kernel_rfl
theorem tk24 : tkind Tryd.prog 24 = (.int .i64) := by kernel_rfl
theorem te24 : telem Tryd.prog 24 = none := by kernel_rfl
theorem ts24 : tsize Tryd.prog 24 = 1 := by kernel_rfl
theorem tb24 : tbytes Tryd.prog 24 = 8 := by kernel_rfl
theorem tz24 : tzero Tryd.prog 24 = (some [.int .i64 (0)]) := by kernel_rfl
theorem ti24 : ti Tryd.prog 24 = ⟨1, 8, (some false), none, (.int .i64), (some [.int .i64 (0)])⟩ := by kernel_rfl
theorem tn25 : tint Tryd.prog 25 = false := by kernel_rfl
theorem ty25 : tbyte Tryd.prog 25 = false := by kernel_rfl
theorem tk25 : tkind Tryd.prog 25 = .other := by kernel_rfl
theorem te25 : telem Tryd.prog 25 = none := by kernel_rfl
theorem ts25 : tsize Tryd.prog 25 = 1 := by kernel_rfl
theorem tb25 : tbytes Tryd.prog 25 = 0 := by kernel_rfl
theorem tz25 : tzero Tryd.prog 25 = none := by kernel_rfl
theorem ti25 : ti Tryd.prog 25 = ⟨1, 0, (some false), none, .other, none⟩ := by kernel_rfl
theorem tn26 : tint Tryd.prog 26 = false := by kernel_rfl
theorem ty26 : tbyte Tryd.prog 26 = false := by kernel_rfl
theorem tk26 : tkind Tryd.prog 26 = .other := by kernel_rfl
theorem te26 : telem Tryd.prog 26 = none := by kernel_rfl
theorem ts26 : tsize Tryd.prog 26 = 1 := by kernel_rfl
theorem tb26 : tbytes Tryd.prog 26 = 8 := by kernel_rfl
theorem tz26 : tzero Tryd.prog 26 = (some [.bad]) := by kernel_rfl
theorem ti26 : ti Tryd.prog 26 = ⟨1, 8, (some false), none, .other, (some [.bad])⟩ := by kernel_rfl
theorem tn27 : tint Tryd.prog 27 = false := by kernel_rfl
theorem ty27 : tbyte Tryd.prog 27 = false := by kernel_rfl
theorem tk27 : tkind Tryd.prog 27 = .other := by kernel_rfl
theorem te27 : telem Tryd.prog 27 = none := by kernel_rfl
theorem ts27 : tsize Tryd.prog 27 = 1 := by kernel_rfl
theorem tb27 : tbytes Tryd.prog 27 = 8 := by kernel_rfl
theorem tz27 : tzero Tryd.prog 27 = (some [.bad]) := by kernel_rfl
theorem ti27 : ti Tryd.prog 27 = ⟨1, 8, (some false), none, .other, (some [.bad])⟩ := by kernel_rfl
theorem tn28 : tint Tryd.prog 28 = false := by kernel_rfl
theorem ty28 : tbyte Tryd.prog 28 = false := by kernel_rfl
theorem tk28 : tkind Tryd.prog 28 = .other := by kernel_rfl
theorem te28 : telem Tryd.prog 28 = none := by kernel_rfl
theorem ts28 : tsize Tryd.prog 28 = 1 := by kernel_rfl
theorem tb28 : tbytes Tryd.prog 28 = 8 := by kernel_rfl
theorem tz28 : tzero Tryd.prog 28 = (some [.bad]) := by kernel_rfl
theorem ti28 : ti Tryd.prog 28 = ⟨1, 8, (some false), none, .other, (some [.bad])⟩ := by kernel_rfl
theorem tn29 : tint Tryd.prog 29 = false := by kernel_rfl
theorem ty29 : tbyte Tryd.prog 29 = false := by kernel_rfl
theorem tk29 : tkind Tryd.prog 29 = .other := by kernel_rfl
theorem te29 : telem Tryd.prog 29 = none := by kernel_rfl
theorem ts29 : tsize Tryd.prog 29 = 1 := by kernel_rfl
theorem tb29 : tbytes Tryd.prog 29 = 8 := by kernel_rfl
theorem tz29 : tzero Tryd.prog 29 = (some [.bad]) := by kernel_rfl
theorem ti29 : ti Tryd.prog 29 = ⟨1, 8, (some false), none, .other, (some [.bad])⟩ := by kernel_rfl
theorem tn30 : tint Tryd.prog 30 = false := by kernel_rfl
theorem ty30 : tbyte Tryd.prog 30 = false := by kernel_rfl
theorem tk30 : tkind Tryd.prog 30 = .other := by kernel_rfl
theorem te30 : telem Tryd.prog 30 = none := by kernel_rfl
theorem ts30 : tsize Tryd.prog 30 = 1 := by kernel_rfl
theorem tb30 : tbytes Tryd.prog 30 = 8 := by kernel_rfl
theorem tz30 : tzero Tryd.prog 30 = (some [.bad]) := by kernel_rfl
theorem ti30 : ti Tryd.prog 30 = ⟨1, 8, (some false), none, .other, (some [.bad])⟩ := by kernel_rfl
theorem tn31 : tint Tryd.prog 31 = false := by kernel_rfl
theorem ty31 : tbyte Tryd.prog 31 = false := by kernel_rfl
theorem tk31 : tkind Tryd.prog 31 = .other := by kernel_rfl
theorem te31 : telem Tryd.prog 31 = none := by kernel_rfl
theorem ts31 : tsize Tryd.prog 31 = 1 := by kernel_rfl
theorem tb31 : tbytes Tryd.prog 31 = 8 := by kernel_rfl
theorem tz31 : tzero Tryd.prog 31 = (some [.bad]) := by kernel_rfl
theorem ti31 : ti Tryd.prog 31 = ⟨1, 8, (some false), none, .other, (some [.bad])⟩ := by kernel_rfl
theorem tn32 : tint Tryd.prog 32 = false := by kernel_rfl
theorem ty32 : tbyte Tryd.prog 32 = false := by kernel_rfl
theorem tk32 : tkind Tryd.prog 32 = .other := by kernel_rfl
theorem te32 : telem Tryd.prog 32 = none := by kernel_rfl
theorem ts32 : tsize Tryd.prog 32 = 1 := by kernel_rfl
theorem tb32 : tbytes Tryd.prog 32 = 0 := by kernel_rfl
theorem tz32 : tzero Tryd.prog 32 = none := by kernel_rfl
theorem ti32 : ti Tryd.prog 32 = ⟨1, 0, (some false), none, .other, none⟩ := by kernel_rfl
theorem tn33 : tint Tryd.prog 33 = false := by kernel_rfl
theorem ty33 : tbyte Tryd.prog 33 = false := by kernel_rfl
theorem tk33 : tkind Tryd.prog 33 = .other := by kernel_rfl
theorem te33 : telem Tryd.prog 33 = none := by kernel_rfl
theorem ts33 : tsize Tryd.prog 33 = 1 := by kernel_rfl
theorem tb33 : tbytes Tryd.prog 33 = 8 := by kernel_rfl
theorem tz33 : tzero Tryd.prog 33 = (some [.bad]) := by kernel_rfl
theorem ti33 : ti Tryd.prog 33 = ⟨1, 8, (some false), none, .other, (some [.bad])⟩ := by kernel_rfl
theorem pl34 : tplaces Tryd.prog 34 = (some [(0, 1), (1, 1), (2, 1), (3, 1), (4, 1)]) := by kernel_rfl
theorem tf34_0 : tfield Tryd.prog 34 0 = (some (0, 3)) := by kernel_rfl
theorem tf34_1 : tfield Tryd.prog 34 1 = (some (1, 9)) := by kernel_rfl
theorem tf34_2 : tfield Tryd.prog 34 2 = (some (2, 9)) := by kernel_rfl
theorem tf34_3 : tfield Tryd.prog 34 3 = (some (3, 9)) := by kernel_rfl
theorem tf34_4 : tfield Tryd.prog 34 4 = (some (4, 3)) := by kernel_rfl
theorem tn34 : tint Tryd.prog 34 = false := by kernel_rfl
theorem ty34 : tbyte Tryd.prog 34 = false := by kernel_rfl
theorem tk34 : tkind Tryd.prog 34 = (.flat [1, 2, 2, 2, 1]) := by kernel_rfl
theorem te34 : telem Tryd.prog 34 = none := by kernel_rfl
theorem ts34 : tsize Tryd.prog 34 = 5 := by kernel_rfl
theorem tb34 : tbytes Tryd.prog 34 = 64 := by kernel_rfl
theorem tz34 : tzero Tryd.prog 34 = (some [.int .i64 (0), .str [], .str [], .str [], .int .i64 (0)]) := by kernel_rfl
theorem ti34 : ti Tryd.prog 34 = ⟨5, 64, (some true), none, (.flat [1, 2, 2, 2, 1]), (some [.int .i64 (0), .str [], .str [], .str [], .int .i64 (0)])⟩ := by kernel_rfl
theorem pl35 : tplaces Tryd.prog 35 = (some [(0, 1), (1, 1), (2, 1), (3, 1), (4, 1)]) := by kernel_rfl
theorem tf35_0 : tfield Tryd.prog 35 0 = (some (0, 3)) := by kernel_rfl
theorem tf35_1 : tfield Tryd.prog 35 1 = (some (1, 9)) := by kernel_rfl
theorem tf35_2 : tfield Tryd.prog 35 2 = (some (2, 9)) := by kernel_rfl
theorem tf35_3 : tfield Tryd.prog 35 3 = (some (3, 9)) := by kernel_rfl
theorem tf35_4 : tfield Tryd.prog 35 4 = (some (4, 3)) := by kernel_rfl
theorem tn35 : tint Tryd.prog 35 = false := by kernel_rfl
theorem ty35 : tbyte Tryd.prog 35 = false := by kernel_rfl
theorem tk35 : tkind Tryd.prog 35 = (.flat [1, 2, 2, 2, 1]) := by kernel_rfl
theorem te35 : telem Tryd.prog 35 = none := by kernel_rfl
theorem ts35 : tsize Tryd.prog 35 = 5 := by kernel_rfl
theorem tb35 : tbytes Tryd.prog 35 = 64 := by kernel_rfl
theorem tz35 : tzero Tryd.prog 35 = (some [.int .i64 (0), .str [], .str [], .str [], .int .i64 (0)]) := by kernel_rfl
theorem ti35 : ti Tryd.prog 35 = ⟨5, 64, (some true), none, (.flat [1, 2, 2, 2, 1]), (some [.int .i64 (0), .str [], .str [], .str [], .int .i64 (0)])⟩ := by kernel_rfl
theorem tn36 : tint Tryd.prog 36 = false := by kernel_rfl
theorem ty36 : tbyte Tryd.prog 36 = false := by kernel_rfl
theorem tk36 : tkind Tryd.prog 36 = .other := by kernel_rfl
theorem te36 : telem Tryd.prog 36 = none := by kernel_rfl
theorem ts36 : tsize Tryd.prog 36 = 1 := by kernel_rfl
theorem tb36 : tbytes Tryd.prog 36 = 0 := by kernel_rfl
theorem tz36 : tzero Tryd.prog 36 = none := by kernel_rfl
theorem ti36 : ti Tryd.prog 36 = ⟨1, 0, (some false), none, .other, none⟩ := by kernel_rfl
theorem tn37 : tint Tryd.prog 37 = false := by kernel_rfl
theorem ty37 : tbyte Tryd.prog 37 = false := by kernel_rfl
theorem tk37 : tkind Tryd.prog 37 = .other := by kernel_rfl
theorem te37 : telem Tryd.prog 37 = none := by kernel_rfl
theorem ts37 : tsize Tryd.prog 37 = 1 := by kernel_rfl
theorem tb37 : tbytes Tryd.prog 37 = 8 := by kernel_rfl
theorem tz37 : tzero Tryd.prog 37 = (some [.bad]) := by kernel_rfl
theorem ti37 : ti Tryd.prog 37 = ⟨1, 8, (some false), none, .other, (some [.bad])⟩ := by kernel_rfl
theorem tn38 : tint Tryd.prog 38 = false := by kernel_rfl
theorem ty38 : tbyte Tryd.prog 38 = false := by kernel_rfl
theorem tk38 : tkind Tryd.prog 38 = .other := by kernel_rfl
theorem te38 : telem Tryd.prog 38 = none := by kernel_rfl
theorem ts38 : tsize Tryd.prog 38 = 1 := by kernel_rfl
theorem tb38 : tbytes Tryd.prog 38 = 8 := by kernel_rfl
theorem tz38 : tzero Tryd.prog 38 = (some [.bad]) := by kernel_rfl
theorem ti38 : ti Tryd.prog 38 = ⟨1, 8, (some false), none, .other, (some [.bad])⟩ := by kernel_rfl
theorem tn39 : tint Tryd.prog 39 = false := by kernel_rfl
theorem ty39 : tbyte Tryd.prog 39 = false := by kernel_rfl
theorem tk39 : tkind Tryd.prog 39 = .other := by kernel_rfl
theorem te39 : telem Tryd.prog 39 = none := by kernel_rfl
theorem ts39 : tsize Tryd.prog 39 = 1 := by kernel_rfl
theorem tb39 : tbytes Tryd.prog 39 = 8 := by kernel_rfl
theorem tz39 : tzero Tryd.prog 39 = (some [.bad]) := by kernel_rfl
theorem ti39 : ti Tryd.prog 39 = ⟨1, 8, (some false), none, .other, (some [.bad])⟩ := by kernel_rfl
theorem tn40 : tint Tryd.prog 40 = false := by kernel_rfl
theorem ty40 : tbyte Tryd.prog 40 = false := by kernel_rfl
theorem tk40 : tkind Tryd.prog 40 = .other := by kernel_rfl
theorem te40 : telem Tryd.prog 40 = none := by kernel_rfl
theorem ts40 : tsize Tryd.prog 40 = 1 := by kernel_rfl
theorem tb40 : tbytes Tryd.prog 40 = 8 := by kernel_rfl
theorem tz40 : tzero Tryd.prog 40 = (some [.bad]) := by kernel_rfl
theorem ti40 : ti Tryd.prog 40 = ⟨1, 8, (some false), none, .other, (some [.bad])⟩ := by kernel_rfl
theorem tn41 : tint Tryd.prog 41 = false := by kernel_rfl
theorem ty41 : tbyte Tryd.prog 41 = false := by kernel_rfl
theorem tk41 : tkind Tryd.prog 41 = .other := by kernel_rfl
theorem te41 : telem Tryd.prog 41 = none := by kernel_rfl
theorem ts41 : tsize Tryd.prog 41 = 1 := by kernel_rfl
theorem tb41 : tbytes Tryd.prog 41 = 8 := by kernel_rfl
theorem tz41 : tzero Tryd.prog 41 = (some [.bad]) := by kernel_rfl
theorem ti41 : ti Tryd.prog 41 = ⟨1, 8, (some false), none, .other, (some [.bad])⟩ := by kernel_rfl
theorem tn42 : tint Tryd.prog 42 = false := by kernel_rfl
theorem ty42 : tbyte Tryd.prog 42 = false := by kernel_rfl
theorem tk42 : tkind Tryd.prog 42 = .other := by kernel_rfl
theorem te42 : telem Tryd.prog 42 = none := by kernel_rfl
theorem ts42 : tsize Tryd.prog 42 = 1 := by kernel_rfl
theorem tb42 : tbytes Tryd.prog 42 = 0 := by kernel_rfl
theorem tz42 : tzero Tryd.prog 42 = none := by kernel_rfl
theorem ti42 : ti Tryd.prog 42 = ⟨1, 0, (some false), none, .other, none⟩ := by kernel_rfl
theorem tn43 : tint Tryd.prog 43 = false := by kernel_rfl
theorem ty43 : tbyte Tryd.prog 43 = false := by kernel_rfl
theorem tk43 : tkind Tryd.prog 43 = .other := by kernel_rfl
theorem te43 : telem Tryd.prog 43 = none := by kernel_rfl
theorem ts43 : tsize Tryd.prog 43 = 1 := by kernel_rfl
theorem tb43 : tbytes Tryd.prog 43 = 8 := by kernel_rfl
theorem tz43 : tzero Tryd.prog 43 = (some [.bad]) := by kernel_rfl
theorem ti43 : ti Tryd.prog 43 = ⟨1, 8, (some false), none, .other, (some [.bad])⟩ := by kernel_rfl
theorem tn44 : tint Tryd.prog 44 = false := by kernel_rfl
theorem ty44 : tbyte Tryd.prog 44 = false := by kernel_rfl
theorem tk44 : tkind Tryd.prog 44 = .other := by kernel_rfl
theorem te44 : telem Tryd.prog 44 = none := by kernel_rfl
theorem ts44 : tsize Tryd.prog 44 = 1 := by kernel_rfl
theorem tb44 : tbytes Tryd.prog 44 = 8 := by kernel_rfl
theorem tz44 : tzero Tryd.prog 44 = (some [.bad]) := by kernel_rfl
theorem ti44 : ti Tryd.prog 44 = ⟨1, 8, (some false), none, .other, (some [.bad])⟩ := by kernel_rfl
theorem tn45 : tint Tryd.prog 45 = false := by kernel_rfl
theorem ty45 : tbyte Tryd.prog 45 = false := by kernel_rfl
theorem tk45 : tkind Tryd.prog 45 = .other := by kernel_rfl
theorem te45 : telem Tryd.prog 45 = none := by kernel_rfl
theorem ts45 : tsize Tryd.prog 45 = 1 := by kernel_rfl
theorem tb45 : tbytes Tryd.prog 45 = 8 := by kernel_rfl
theorem tz45 : tzero Tryd.prog 45 = (some [.bad]) := by kernel_rfl
theorem ti45 : ti Tryd.prog 45 = ⟨1, 8, (some false), none, .other, (some [.bad])⟩ := by kernel_rfl
theorem tn46 : tint Tryd.prog 46 = false := by kernel_rfl
theorem ty46 : tbyte Tryd.prog 46 = false := by kernel_rfl
theorem tk46 : tkind Tryd.prog 46 = .other := by kernel_rfl
theorem te46 : telem Tryd.prog 46 = none := by kernel_rfl
theorem ts46 : tsize Tryd.prog 46 = 1 := by kernel_rfl
theorem tb46 : tbytes Tryd.prog 46 = 8 := by kernel_rfl
theorem tz46 : tzero Tryd.prog 46 = (some [.bad]) := by kernel_rfl
theorem ti46 : ti Tryd.prog 46 = ⟨1, 8, (some false), none, .other, (some [.bad])⟩ := by kernel_rfl
theorem pl47 : tplaces Tryd.prog 47 = (some [(0, 1), (1, 1), (2, 1), (3, 1)]) := by kernel_rfl
theorem tf47_0 : tfield Tryd.prog 47 0 = (some (0, 9)) := by kernel_rfl
theorem tf47_1 : tfield Tryd.prog 47 1 = (some (1, 4)) := by kernel_rfl
theorem tf47_2 : tfield Tryd.prog 47 2 = (some (2, 9)) := by kernel_rfl
theorem tf47_3 : tfield Tryd.prog 47 3 = (some (3, 3)) := by kernel_rfl
theorem tn47 : tint Tryd.prog 47 = false := by kernel_rfl
theorem ty47 : tbyte Tryd.prog 47 = false := by kernel_rfl
theorem tk47 : tkind Tryd.prog 47 = (.flat [2, 0, 2, 1]) := by kernel_rfl
theorem te47 : telem Tryd.prog 47 = none := by kernel_rfl
theorem ts47 : tsize Tryd.prog 47 = 4 := by kernel_rfl
theorem tb47 : tbytes Tryd.prog 47 = 48 := by kernel_rfl
theorem tz47 : tzero Tryd.prog 47 = (some [.str [], .bool false, .str [], .int .i64 (0)]) := by kernel_rfl
theorem ti47 : ti Tryd.prog 47 = ⟨4, 48, (some true), none, (.flat [2, 0, 2, 1]), (some [.str [], .bool false, .str [], .int .i64 (0)])⟩ := by kernel_rfl
theorem pl48 : tplaces Tryd.prog 48 = (some [(0, 1), (1, 1), (2, 1), (3, 1)]) := by kernel_rfl
theorem tf48_0 : tfield Tryd.prog 48 0 = (some (0, 9)) := by kernel_rfl
theorem tf48_1 : tfield Tryd.prog 48 1 = (some (1, 4)) := by kernel_rfl
theorem tf48_2 : tfield Tryd.prog 48 2 = (some (2, 9)) := by kernel_rfl
theorem tf48_3 : tfield Tryd.prog 48 3 = (some (3, 3)) := by kernel_rfl
theorem tn48 : tint Tryd.prog 48 = false := by kernel_rfl
theorem ty48 : tbyte Tryd.prog 48 = false := by kernel_rfl
theorem tk48 : tkind Tryd.prog 48 = (.flat [2, 0, 2, 1]) := by kernel_rfl
theorem te48 : telem Tryd.prog 48 = none := by kernel_rfl
theorem ts48 : tsize Tryd.prog 48 = 4 := by kernel_rfl
theorem tb48 : tbytes Tryd.prog 48 = 48 := by kernel_rfl
theorem tz48 : tzero Tryd.prog 48 = (some [.str [], .bool false, .str [], .int .i64 (0)]) := by kernel_rfl
theorem ti48 : ti Tryd.prog 48 = ⟨4, 48, (some true), none, (.flat [2, 0, 2, 1]), (some [.str [], .bool false, .str [], .int .i64 (0)])⟩ := by kernel_rfl
theorem tn49 : tint Tryd.prog 49 = false := by kernel_rfl
theorem ty49 : tbyte Tryd.prog 49 = false := by kernel_rfl
theorem tk49 : tkind Tryd.prog 49 = .other := by kernel_rfl
theorem te49 : telem Tryd.prog 49 = none := by kernel_rfl
theorem ts49 : tsize Tryd.prog 49 = 1 := by kernel_rfl
theorem tb49 : tbytes Tryd.prog 49 = 8 := by kernel_rfl
theorem tz49 : tzero Tryd.prog 49 = (some [.bad]) := by kernel_rfl
theorem ti49 : ti Tryd.prog 49 = ⟨1, 8, (some false), none, .other, (some [.bad])⟩ := by kernel_rfl
theorem tn50 : tint Tryd.prog 50 = false := by kernel_rfl
theorem ty50 : tbyte Tryd.prog 50 = false := by kernel_rfl
theorem tk50 : tkind Tryd.prog 50 = .other := by kernel_rfl
theorem te50 : telem Tryd.prog 50 = none := by kernel_rfl
theorem ts50 : tsize Tryd.prog 50 = 1 := by kernel_rfl
theorem tb50 : tbytes Tryd.prog 50 = 8 := by kernel_rfl
theorem tz50 : tzero Tryd.prog 50 = (some [.bad]) := by kernel_rfl
theorem ti50 : ti Tryd.prog 50 = ⟨1, 8, (some false), none, .other, (some [.bad])⟩ := by kernel_rfl
theorem tn51 : tint Tryd.prog 51 = false := by kernel_rfl
theorem ty51 : tbyte Tryd.prog 51 = false := by kernel_rfl
theorem tk51 : tkind Tryd.prog 51 = .other := by kernel_rfl
theorem te51 : telem Tryd.prog 51 = none := by kernel_rfl
theorem ts51 : tsize Tryd.prog 51 = 1 := by kernel_rfl
theorem tb51 : tbytes Tryd.prog 51 = 8 := by kernel_rfl
theorem tz51 : tzero Tryd.prog 51 = (some [.bad]) := by kernel_rfl
theorem ti51 : ti Tryd.prog 51 = ⟨1, 8, (some false), none, .other, (some [.bad])⟩ := by kernel_rfl
theorem tn52 : tint Tryd.prog 52 = false := by kernel_rfl
theorem ty52 : tbyte Tryd.prog 52 = false := by kernel_rfl
theorem tk52 : tkind Tryd.prog 52 = .other := by kernel_rfl
theorem te52 : telem Tryd.prog 52 = none := by kernel_rfl
theorem ts52 : tsize Tryd.prog 52 = 1 := by kernel_rfl
theorem tb52 : tbytes Tryd.prog 52 = 0 := by kernel_rfl
theorem tz52 : tzero Tryd.prog 52 = none := by kernel_rfl
theorem ti52 : ti Tryd.prog 52 = ⟨1, 0, (some false), none, .other, none⟩ := by kernel_rfl
theorem tn53 : tint Tryd.prog 53 = false := by kernel_rfl
theorem ty53 : tbyte Tryd.prog 53 = false := by kernel_rfl
theorem tk53 : tkind Tryd.prog 53 = .other := by kernel_rfl
theorem te53 : telem Tryd.prog 53 = none := by kernel_rfl
theorem ts53 : tsize Tryd.prog 53 = 1 := by kernel_rfl
theorem tb53 : tbytes Tryd.prog 53 = 8 := by kernel_rfl
theorem tz53 : tzero Tryd.prog 53 = (some [.bad]) := by kernel_rfl
theorem ti53 : ti Tryd.prog 53 = ⟨1, 8, (some false), none, .other, (some [.bad])⟩ := by kernel_rfl
theorem tn54 : tint Tryd.prog 54 = false := by kernel_rfl
theorem ty54 : tbyte Tryd.prog 54 = false := by kernel_rfl
theorem tk54 : tkind Tryd.prog 54 = .other := by kernel_rfl
theorem te54 : telem Tryd.prog 54 = none := by kernel_rfl
theorem ts54 : tsize Tryd.prog 54 = 1 := by kernel_rfl
theorem tb54 : tbytes Tryd.prog 54 = 8 := by kernel_rfl
theorem tz54 : tzero Tryd.prog 54 = (some [.bad]) := by kernel_rfl
theorem ti54 : ti Tryd.prog 54 = ⟨1, 8, (some false), none, .other, (some [.bad])⟩ := by kernel_rfl
theorem tn55 : tint Tryd.prog 55 = false := by kernel_rfl
theorem ty55 : tbyte Tryd.prog 55 = false := by kernel_rfl
theorem tk55 : tkind Tryd.prog 55 = .other := by kernel_rfl
theorem te55 : telem Tryd.prog 55 = none := by kernel_rfl
theorem ts55 : tsize Tryd.prog 55 = 1 := by kernel_rfl
theorem tb55 : tbytes Tryd.prog 55 = 8 := by kernel_rfl
theorem tz55 : tzero Tryd.prog 55 = (some [.bad]) := by kernel_rfl
theorem ti55 : ti Tryd.prog 55 = ⟨1, 8, (some false), none, .other, (some [.bad])⟩ := by kernel_rfl
theorem tn56 : tint Tryd.prog 56 = false := by kernel_rfl
theorem ty56 : tbyte Tryd.prog 56 = false := by kernel_rfl
theorem tk56 : tkind Tryd.prog 56 = .other := by kernel_rfl
theorem te56 : telem Tryd.prog 56 = none := by kernel_rfl
theorem ts56 : tsize Tryd.prog 56 = 1 := by kernel_rfl
theorem tb56 : tbytes Tryd.prog 56 = 8 := by kernel_rfl
theorem tz56 : tzero Tryd.prog 56 = (some [.bad]) := by kernel_rfl
theorem ti56 : ti Tryd.prog 56 = ⟨1, 8, (some false), none, .other, (some [.bad])⟩ := by kernel_rfl
theorem tn57 : tint Tryd.prog 57 = false := by kernel_rfl
theorem ty57 : tbyte Tryd.prog 57 = false := by kernel_rfl
theorem tk57 : tkind Tryd.prog 57 = .other := by kernel_rfl
theorem te57 : telem Tryd.prog 57 = none := by kernel_rfl
theorem ts57 : tsize Tryd.prog 57 = 1 := by kernel_rfl
theorem tb57 : tbytes Tryd.prog 57 = 8 := by kernel_rfl
theorem tz57 : tzero Tryd.prog 57 = (some [.bad]) := by kernel_rfl
theorem ti57 : ti Tryd.prog 57 = ⟨1, 8, (some false), none, .other, (some [.bad])⟩ := by kernel_rfl
theorem tn58 : tint Tryd.prog 58 = false := by kernel_rfl
theorem ty58 : tbyte Tryd.prog 58 = false := by kernel_rfl
theorem tk58 : tkind Tryd.prog 58 = .other := by kernel_rfl
theorem te58 : telem Tryd.prog 58 = none := by kernel_rfl
theorem ts58 : tsize Tryd.prog 58 = 1 := by kernel_rfl
theorem tb58 : tbytes Tryd.prog 58 = 8 := by kernel_rfl
theorem tz58 : tzero Tryd.prog 58 = (some [.bad]) := by kernel_rfl
theorem ti58 : ti Tryd.prog 58 = ⟨1, 8, (some false), none, .other, (some [.bad])⟩ := by kernel_rfl
theorem tn59 : tint Tryd.prog 59 = false := by kernel_rfl
theorem ty59 : tbyte Tryd.prog 59 = false := by kernel_rfl
theorem tk59 : tkind Tryd.prog 59 = .slice := by kernel_rfl
theorem te59 : telem Tryd.prog 59 = (some 9) := by kernel_rfl
theorem ts59 : tsize Tryd.prog 59 = 1 := by kernel_rfl
theorem tb59 : tbytes Tryd.prog 59 = 24 := by kernel_rfl
theorem tz59 : tzero Tryd.prog 59 = (some [.nil]) := by kernel_rfl
theorem ti59 : ti Tryd.prog 59 = ⟨1, 24, (some false), (some 9), .slice, (some [.nil])⟩ := by kernel_rfl
theorem tn60 : tint Tryd.prog 60 = false := by kernel_rfl
theorem ty60 : tbyte Tryd.prog 60 = false := by kernel_rfl
theorem tk60 : tkind Tryd.prog 60 = .other := by kernel_rfl
theorem te60 : telem Tryd.prog 60 = none := by kernel_rfl
theorem ts60 : tsize Tryd.prog 60 = 1 := by kernel_rfl
theorem tb60 : tbytes Tryd.prog 60 = 0 := by kernel_rfl
theorem tz60 : tzero Tryd.prog 60 = none := by kernel_rfl
theorem ti60 : ti Tryd.prog 60 = ⟨1, 0, (some false), none, .other, none⟩ := by kernel_rfl
theorem tn61 : tint Tryd.prog 61 = false := by kernel_rfl
theorem ty61 : tbyte Tryd.prog 61 = false := by kernel_rfl
theorem tk61 : tkind Tryd.prog 61 = .other := by kernel_rfl
theorem te61 : telem Tryd.prog 61 = none := by kernel_rfl
theorem ts61 : tsize Tryd.prog 61 = 1 := by kernel_rfl
theorem tb61 : tbytes Tryd.prog 61 = 8 := by kernel_rfl
theorem tz61 : tzero Tryd.prog 61 = (some [.bad]) := by kernel_rfl
theorem ti61 : ti Tryd.prog 61 = ⟨1, 8, (some false), none, .other, (some [.bad])⟩ := by kernel_rfl
theorem tn62 : tint Tryd.prog 62 = false := by kernel_rfl
theorem ty62 : tbyte Tryd.prog 62 = false := by kernel_rfl
theorem tk62 : tkind Tryd.prog 62 = .other := by kernel_rfl
theorem te62 : telem Tryd.prog 62 = none := by kernel_rfl
theorem ts62 : tsize Tryd.prog 62 = 1 := by kernel_rfl
theorem tb62 : tbytes Tryd.prog 62 = 0 := by kernel_rfl
theorem tz62 : tzero Tryd.prog 62 = none := by kernel_rfl
theorem ti62 : ti Tryd.prog 62 = ⟨1, 0, (some false), none, .other, none⟩ := by kernel_rfl
theorem tn63 : tint Tryd.prog 63 = false := by kernel_rfl
theorem ty63 : tbyte Tryd.prog 63 = false := by kernel_rfl
theorem tk63 : tkind Tryd.prog 63 = .other := by kernel_rfl
theorem te63 : telem Tryd.prog 63 = none := by kernel_rfl
theorem ts63 : tsize Tryd.prog 63 = 1 := by kernel_rfl
theorem tb63 : tbytes Tryd.prog 63 = 8 := by kernel_rfl
theorem tz63 : tzero Tryd.prog 63 = (some [.bad]) := by kernel_rfl
theorem ti63 : ti Tryd.prog 63 = ⟨1, 8, (some false), none, .other, (some [.bad])⟩ := by kernel_rfl
theorem tn64 : tint Tryd.prog 64 = false := by kernel_rfl
theorem ty64 : tbyte Tryd.prog 64 = false := by kernel_rfl
theorem tk64 : tkind Tryd.prog 64 = .other := by kernel_rfl
theorem te64 : telem Tryd.prog 64 = none := by kernel_rfl
theorem ts64 : tsize Tryd.prog 64 = 1 := by kernel_rfl
theorem tb64 : tbytes Tryd.prog 64 = 8 := by kernel_rfl
theorem tz64 : tzero Tryd.prog 64 = (some [.bad]) := by kernel_rfl
theorem ti64 : ti Tryd.prog 64 = ⟨1, 8, (some false), none, .other, (some [.bad])⟩ := by kernel_rfl
theorem tn65 : tint Tryd.prog 65 = false := by kernel_rfl
theorem ty65 : tbyte Tryd.prog 65 = false := by kernel_rfl
theorem tk65 : tkind Tryd.prog 65 = .other := by kernel_rfl
theorem te65 : telem Tryd.prog 65 = none := by kernel_rfl
theorem ts65 : tsize Tryd.prog 65 = 1 := by kernel_rfl
theorem tb65 : tbytes Tryd.prog 65 = 8 := by kernel_rfl
theorem tz65 : tzero Tryd.prog 65 = (some [.bad]) := by kernel_rfl
theorem ti65 : ti Tryd.prog 65 = ⟨1, 8, (some false), none, .other, (some [.bad])⟩ := by kernel_rfl
theorem tn66 : tint Tryd.prog 66 = false := by kernel_rfl
theorem ty66 : tbyte Tryd.prog 66 = false := by kernel_rfl
theorem tk66 : tkind Tryd.prog 66 = .other := by kernel_rfl
theorem te66 : telem Tryd.prog 66 = none := by kernel_rfl
theorem ts66 : tsize Tryd.prog 66 = 1 := by kernel_rfl
theorem tb66 : tbytes Tryd.prog 66 = 8 := by kernel_rfl
theorem tz66 : tzero Tryd.prog 66 = (some [.bad]) := by kernel_rfl
theorem ti66 : ti Tryd.prog 66 = ⟨1, 8, (some false), none, .other, (some [.bad])⟩ := by kernel_rfl
theorem tn67 : tint Tryd.prog 67 = false := by kernel_rfl
theorem ty67 : tbyte Tryd.prog 67 = false := by kernel_rfl
theorem tk67 : tkind Tryd.prog 67 = .other := by kernel_rfl
theorem te67 : telem Tryd.prog 67 = none := by kernel_rfl
theorem ts67 : tsize Tryd.prog 67 = 1 := by kernel_rfl
theorem tb67 : tbytes Tryd.prog 67 = 8 := by kernel_rfl
theorem tz67 : tzero Tryd.prog 67 = (some [.bad]) := by kernel_rfl
theorem ti67 : ti Tryd.prog 67 = ⟨1, 8, (some false), none, .other, (some [.bad])⟩ := by kernel_rfl
theorem tn68 : tint Tryd.prog 68 = false := by kernel_rfl
theorem ty68 : tbyte Tryd.prog 68 = false := by kernel_rfl
theorem tk68 : tkind Tryd.prog 68 = .other := by kernel_rfl
theorem te68 : telem Tryd.prog 68 = none := by kernel_rfl
theorem ts68 : tsize Tryd.prog 68 = 1 := by kernel_rfl
theorem tb68 : tbytes Tryd.prog 68 = 8 := by kernel_rfl
theorem tz68 : tzero Tryd.prog 68 = (some [.bad]) := by kernel_rfl
theorem ti68 : ti Tryd.prog 68 = ⟨1, 8, (some false), none, .other, (some [.bad])⟩ := by kernel_rfl
theorem tn69 : tint Tryd.prog 69 = false := by kernel_rfl
theorem ty69 : tbyte Tryd.prog 69 = false := by kernel_rfl
theorem tk69 : tkind Tryd.prog 69 = .other := by kernel_rfl
theorem te69 : telem Tryd.prog 69 = none := by kernel_rfl
theorem ts69 : tsize Tryd.prog 69 = 1 := by kernel_rfl
theorem tb69 : tbytes Tryd.prog 69 = 8 := by kernel_rfl
theorem tz69 : tzero Tryd.prog 69 = (some [.bad]) := by kernel_rfl
theorem ti69 : ti Tryd.prog 69 = ⟨1, 8, (some false), none, .other, (some [.bad])⟩ := by kernel_rfl
theorem tn70 : tint Tryd.prog 70 = false := by kernel_rfl
theorem ty70 : tbyte Tryd.prog 70 = false := by kernel_rfl
theorem tk70 : tkind Tryd.prog 70 = .other := by kernel_rfl
theorem te70 : telem Tryd.prog 70 = none := by kernel_rfl
theorem ts70 : tsize Tryd.prog 70 = 1 := by kernel_rfl
theorem tb70 : tbytes Tryd.prog 70 = 8 := by kernel_rfl
theorem tz70 : tzero Tryd.prog 70 = (some [.bad]) := by kernel_rfl
theorem ti70 : ti Tryd.prog 70 = ⟨1, 8, (some false), none, .other, (some [.bad])⟩ := by kernel_rfl
theorem tn71 : tint Tryd.prog 71 = false := by kernel_rfl
theorem ty71 : tbyte Tryd.prog 71 = false := by kernel_rfl
theorem tk71 : tkind Tryd.prog 71 = .other := by kernel_rfl
theorem te71 : telem Tryd.prog 71 = none := by kernel_rfl
theorem ts71 : tsize Tryd.prog 71 = 1 := by kernel_rfl
theorem tb71 : tbytes Tryd.prog 71 = 8 := by kernel_rfl
theorem tz71 : tzero Tryd.prog 71 = (some [.bad]) := by kernel_rfl
theorem ti71 : ti Tryd.prog 71 = ⟨1, 8, (some false), none, .other, (some [.bad])⟩ := by kernel_rfl
theorem tn72 : tint Tryd.prog 72 = false := by kernel_rfl
theorem ty72 : tbyte Tryd.prog 72 = false := by kernel_rfl
theorem tk72 : tkind Tryd.prog 72 = .other := by kernel_rfl
theorem te72 : telem Tryd.prog 72 = none := by kernel_rfl
theorem ts72 : tsize Tryd.prog 72 = 1 := by kernel_rfl
theorem tb72 : tbytes Tryd.prog 72 = 8 := by kernel_rfl
theorem tz72 : tzero Tryd.prog 72 = (some [.bad]) := by kernel_rfl
theorem ti72 : ti Tryd.prog 72 = ⟨1, 8, (some false), none, .other, (some [.bad])⟩ := by kernel_rfl
theorem tn73 : tint Tryd.prog 73 = false := by kernel_rfl
theorem ty73 : tbyte Tryd.prog 73 = false := by kernel_rfl
theorem tk73 : tkind Tryd.prog 73 = .other := by kernel_rfl
theorem te73 : telem Tryd.prog 73 = none := by kernel_rfl
theorem ts73 : tsize Tryd.prog 73 = 1 := by kernel_rfl
theorem tb73 : tbytes Tryd.prog 73 = 8 := by kernel_rfl
theorem tz73 : tzero Tryd.prog 73 = (some [.bad]) := by kernel_rfl
theorem ti73 : ti Tryd.prog 73 = ⟨1, 8, (some false), none, .other, (some [.bad])⟩ := by kernel_rfl
theorem tn74 : tint Tryd.prog 74 = false := by kernel_rfl
theorem ty74 : tbyte Tryd.prog 74 = false := by kernel_rfl
theorem tk74 : tkind Tryd.prog 74 = .other := by kernel_rfl
theorem te74 : telem Tryd.prog 74 = none := by kernel_rfl
theorem ts74 : tsize Tryd.prog 74 = 1 := by kernel_rfl
theorem tb74 : tbytes Tryd.prog 74 = 8 := by kernel_rfl
theorem tz74 : tzero Tryd.prog 74 = (some [.bad]) := by kernel_rfl
theorem ti74 : ti Tryd.prog 74 = ⟨1, 8, (some false), none, .other, (some [.bad])⟩ := by kernel_rfl
theorem tn75 : tint Tryd.prog 75 = false := by kernel_rfl
theorem ty75 : tbyte Tryd.prog 75 = false := by kernel_rfl
theorem tk75 : tkind Tryd.prog 75 = .other := by kernel_rfl
theorem te75 : telem Tryd.prog 75 = none := by kernel_rfl
theorem ts75 : tsize Tryd.prog 75 = 1 := by kernel_rfl
theorem tb75 : tbytes Tryd.prog 75 = 8 := by kernel_rfl
theorem tz75 : tzero Tryd.prog 75 = (some [.bad]) := by kernel_rfl
theorem ti75 : ti Tryd.prog 75 = ⟨1, 8, (some false), none, .other, (some [.bad])⟩ := by kernel_rfl
theorem tn76 : tint Tryd.prog 76 = false := by kernel_rfl
theorem ty76 : tbyte Tryd.prog 76 = false := by kernel_rfl
theorem tk76 : tkind Tryd.prog 76 = .other := by kernel_rfl
theorem te76 : telem Tryd.prog 76 = none := by kernel_rfl
theorem ts76 : tsize Tryd.prog 76 = 1 := by kernel_rfl
theorem tb76 : tbytes Tryd.prog 76 = 8 := by kernel_rfl
theorem tz76 : tzero Tryd.prog 76 = (some [.bad]) := by kernel_rfl
theorem ti76 : ti Tryd.prog 76 = ⟨1, 8, (some false), none, .other, (some [.bad])⟩ := by kernel_rfl
theorem tn77 : tint Tryd.prog 77 = false := by kernel_rfl
theorem ty77 : tbyte Tryd.prog 77 = false := by kernel_rfl
theorem tk77 : tkind Tryd.prog 77 = .other := by kernel_rfl
theorem te77 : telem Tryd.prog 77 = none := by kernel_rfl
theorem ts77 : tsize Tryd.prog 77 = 1 := by kernel_rfl
theorem tb77 : tbytes Tryd.prog 77 = 0 := by kernel_rfl
theorem tz77 : tzero Tryd.prog 77 = none := by kernel_rfl
theorem ti77 : ti Tryd.prog 77 = ⟨1, 0, (some false), none, .other, none⟩ := by kernel_rfl
theorem tn78 : tint Tryd.prog 78 = false := by kernel_rfl
theorem ty78 : tbyte Tryd.prog 78 = false := by kernel_rfl
theorem tk78 : tkind Tryd.prog 78 = .other := by kernel_rfl
theorem te78 : telem Tryd.prog 78 = none := by kernel_rfl
theorem ts78 : tsize Tryd.prog 78 = 1 := by kernel_rfl
theorem tb78 : tbytes Tryd.prog 78 = 8 := by kernel_rfl
theorem tz78 : tzero Tryd.prog 78 = (some [.bad]) := by kernel_rfl
theorem ti78 : ti Tryd.prog 78 = ⟨1, 8, (some false), none, .other, (some [.bad])⟩ := by kernel_rfl
theorem tn79 : tint Tryd.prog 79 = false := by kernel_rfl
theorem ty79 : tbyte Tryd.prog 79 = false := by kernel_rfl
theorem tk79 : tkind Tryd.prog 79 = .other := by kernel_rfl
theorem te79 : telem Tryd.prog 79 = none := by kernel_rfl
theorem ts79 : tsize Tryd.prog 79 = 1 := by kernel_rfl
theorem tb79 : tbytes Tryd.prog 79 = 0 := by kernel_rfl
theorem tz79 : tzero Tryd.prog 79 = none := by kernel_rfl
theorem ti79 : ti Tryd.prog 79 = ⟨1, 0, (some false), none, .other, none⟩ := by kernel_rfl
theorem tn80 : tint Tryd.prog 80 = false := by kernel_rfl
theorem ty80 : tbyte Tryd.prog 80 = false := by kernel_rfl
theorem tk80 : tkind Tryd.prog 80 = .other := by kernel_rfl
theorem te80 : telem Tryd.prog 80 = none := by kernel_rfl
theorem ts80 : tsize Tryd.prog 80 = 1 := by kernel_rfl
theorem tb80 : tbytes Tryd.prog 80 = 8 := by kernel_rfl
theorem tz80 : tzero Tryd.prog 80 = (some [.bad]) := by kernel_rfl
theorem ti80 : ti Tryd.prog 80 = ⟨1, 8, (some false), none, .other, (some [.bad])⟩ := by kernel_rfl
theorem tn81 : tint Tryd.prog 81 = false := by kernel_rfl
theorem ty81 : tbyte Tryd.prog 81 = false := by kernel_rfl
theorem tk81 : tkind Tryd.prog 81 = .other := by kernel_rfl
theorem te81 : telem Tryd.prog 81 = none := by kernel_rfl
theorem ts81 : tsize Tryd.prog 81 = 1 := by kernel_rfl
theorem tb81 : tbytes Tryd.prog 81 = 8 := by kernel_rfl
theorem tz81 : tzero Tryd.prog 81 = (some [.bad]) := by kernel_rfl
theorem ti81 : ti Tryd.prog 81 = ⟨1, 8, (some false), none, .other, (some [.bad])⟩ := by kernel_rfl
theorem tn82 : tint Tryd.prog 82 = false := by kernel_rfl
theorem ty82 : tbyte Tryd.prog 82 = false := by kernel_rfl
theorem tk82 : tkind Tryd.prog 82 = .other := by kernel_rfl
theorem te82 : telem Tryd.prog 82 = none := by kernel_rfl
theorem ts82 : tsize Tryd.prog 82 = 1 := by kernel_rfl
theorem tb82 : tbytes Tryd.prog 82 = 8 := by kernel_rfl
theorem tz82 : tzero Tryd.prog 82 = (some [.bad]) := by kernel_rfl
theorem ti82 : ti Tryd.prog 82 = ⟨1, 8, (some false), none, .other, (some [.bad])⟩ := by kernel_rfl
theorem tn83 : tint Tryd.prog 83 = false := by kernel_rfl
theorem ty83 : tbyte Tryd.prog 83 = false := by kernel_rfl
theorem tk83 : tkind Tryd.prog 83 = .other := by kernel_rfl
theorem te83 : telem Tryd.prog 83 = none := by kernel_rfl
theorem ts83 : tsize Tryd.prog 83 = 1 := by kernel_rfl
theorem tb83 : tbytes Tryd.prog 83 = 8 := by kernel_rfl
theorem tz83 : tzero Tryd.prog 83 = (some [.bad]) := by kernel_rfl
theorem ti83 : ti Tryd.prog 83 = ⟨1, 8, (some false), none, .other, (some [.bad])⟩ := by kernel_rfl
theorem tn84 : tint Tryd.prog 84 = false := by kernel_rfl
theorem ty84 : tbyte Tryd.prog 84 = false := by kernel_rfl
theorem tk84 : tkind Tryd.prog 84 = .slice := by kernel_rfl
theorem te84 : telem Tryd.prog 84 = (some 22) := by kernel_rfl
theorem ts84 : tsize Tryd.prog 84 = 1 := by kernel_rfl
theorem tb84 : tbytes Tryd.prog 84 = 24 := by kernel_rfl
theorem tz84 : tzero Tryd.prog 84 = (some [.nil]) := by kernel_rfl
theorem ti84 : ti Tryd.prog 84 = ⟨1, 24, (some false), (some 22), .slice, (some [.nil])⟩ := by kernel_rfl
theorem tn85 : tint Tryd.prog 85 = false := by kernel_rfl
theorem ty85 : tbyte Tryd.prog 85 = false := by kernel_rfl
theorem tk85 : tkind Tryd.prog 85 = .other := by kernel_rfl
theorem te85 : telem Tryd.prog 85 = none := by kernel_rfl
theorem ts85 : tsize Tryd.prog 85 = 1 := by kernel_rfl
theorem tb85 : tbytes Tryd.prog 85 = 8 := by kernel_rfl
theorem tz85 : tzero Tryd.prog 85 = (some [.bad]) := by kernel_rfl
theorem ti85 : ti Tryd.prog 85 = ⟨1, 8, (some false), none, .other, (some [.bad])⟩ := by kernel_rfl
theorem tn86 : tint Tryd.prog 86 = false := by kernel_rfl
theorem ty86 : tbyte Tryd.prog 86 = false := by kernel_rfl
theorem tk86 : tkind Tryd.prog 86 = .other := by kernel_rfl
theorem te86 : telem Tryd.prog 86 = none := by kernel_rfl
theorem ts86 : tsize Tryd.prog 86 = 1 := by kernel_rfl
theorem tb86 : tbytes Tryd.prog 86 = 8 := by kernel_rfl
theorem tz86 : tzero Tryd.prog 86 = (some [.bad]) := by kernel_rfl
theorem ti86 : ti Tryd.prog 86 = ⟨1, 8, (some false), none, .other, (some [.bad])⟩ := by kernel_rfl
theorem tn87 : tint Tryd.prog 87 = false := by kernel_rfl
theorem ty87 : tbyte Tryd.prog 87 = false := by kernel_rfl
theorem tk87 : tkind Tryd.prog 87 = .other := by kernel_rfl
theorem te87 : telem Tryd.prog 87 = none := by kernel_rfl
theorem ts87 : tsize Tryd.prog 87 = 1 := by kernel_rfl
theorem tb87 : tbytes Tryd.prog 87 = 8 := by kernel_rfl
theorem tz87 : tzero Tryd.prog 87 = (some [.bad]) := by kernel_rfl
theorem ti87 : ti Tryd.prog 87 = ⟨1, 8, (some false), none, .other, (some [.bad])⟩ := by kernel_rfl
theorem tn88 : tint Tryd.prog 88 = false := by kernel_rfl
theorem ty88 : tbyte Tryd.prog 88 = false := by kernel_rfl
theorem tk88 : tkind Tryd.prog 88 = .other := by kernel_rfl
theorem te88 : telem Tryd.prog 88 = none := by kernel_rfl
theorem ts88 : tsize Tryd.prog 88 = 1 := by kernel_rfl
theorem tb88 : tbytes Tryd.prog 88 = 8 := by kernel_rfl
theorem tz88 : tzero Tryd.prog 88 = (some [.bad]) := by kernel_rfl
theorem ti88 : ti Tryd.prog 88 = ⟨1, 8, (some false), none, .other, (some [.bad])⟩ := by kernel_rfl
theorem tn89 : tint Tryd.prog 89 = false := by kernel_rfl
theorem ty89 : tbyte Tryd.prog 89 = false := by kernel_rfl
theorem tk89 : tkind Tryd.prog 89 = .other := by kernel_rfl
theorem te89 : telem Tryd.prog 89 = none := by kernel_rfl
theorem ts89 : tsize Tryd.prog 89 = 1 := by kernel_rfl
theorem tb89 : tbytes Tryd.prog 89 = 8 := by kernel_rfl
theorem tz89 : tzero Tryd.prog 89 = (some [.bad]) := by kernel_rfl
theorem ti89 : ti Tryd.prog 89 = ⟨1, 8, (some false), none, .other, (some [.bad])⟩ := by kernel_rfl
theorem tn90 : tint Tryd.prog 90 = false := by kernel_rfl
theorem ty90 : tbyte Tryd.prog 90 = false := by kernel_rfl
theorem tk90 : tkind Tryd.prog 90 = .other := by kernel_rfl
theorem te90 : telem Tryd.prog 90 = none := by kernel_rfl
theorem ts90 : tsize Tryd.prog 90 = 1 := by kernel_rfl
theorem tb90 : tbytes Tryd.prog 90 = 8 := by kernel_rfl
theorem tz90 : tzero Tryd.prog 90 = (some [.bad]) := by kernel_rfl
theorem ti90 : ti Tryd.prog 90 = ⟨1, 8, (some false), none, .other, (some [.bad])⟩ := by kernel_rfl
theorem tn91 : tint Tryd.prog 91 = false := by kernel_rfl
theorem ty91 : tbyte Tryd.prog 91 = false := by kernel_rfl
theorem tk91 : tkind Tryd.prog 91 = .other := by kernel_rfl
theorem te91 : telem Tryd.prog 91 = none := by kernel_rfl
theorem ts91 : tsize Tryd.prog 91 = 1 := by kernel_rfl
theorem tb91 : tbytes Tryd.prog 91 = 8 := by kernel_rfl
theorem tz91 : tzero Tryd.prog 91 = (some [.bad]) := by kernel_rfl
theorem ti91 : ti Tryd.prog 91 = ⟨1, 8, (some false), none, .other, (some [.bad])⟩ := by kernel_rfl
theorem tn92 : tint Tryd.prog 92 = false := by kernel_rfl
theorem ty92 : tbyte Tryd.prog 92 = false := by kernel_rfl
theorem tk92 : tkind Tryd.prog 92 = .other := by kernel_rfl
theorem te92 : telem Tryd.prog 92 = none := by kernel_rfl
theorem ts92 : tsize Tryd.prog 92 = 1 := by kernel_rfl
theorem tb92 : tbytes Tryd.prog 92 = 8 := by kernel_rfl
theorem tz92 : tzero Tryd.prog 92 = (some [.bad]) := by kernel_rfl
theorem ti92 : ti Tryd.prog 92 = ⟨1, 8, (some false), none, .other, (some [.bad])⟩ := by kernel_rfl
theorem tn93 : tint Tryd.prog 93 = true := by kernel_rfl
theorem ty93 : tbyte Tryd.prog 93 = false := by kernel_rfl
theorem tk93 : tkind Tryd.prog 93 = (.int .u64) := by kernel_rfl
theorem te93 : telem Tryd.prog 93 = none := by kernel_rfl
theorem ts93 : tsize Tryd.prog 93 = 1 := by kernel_rfl
theorem tb93 : tbytes Tryd.prog 93 = 8 := by kernel_rfl
theorem tz93 : tzero Tryd.prog 93 = (some [.int .u64 (0)]) := by kernel_rfl
theorem ti93 : ti Tryd.prog 93 = ⟨1, 8, (some false), none, (.int .u64), (some [.int .u64 (0)])⟩ := by kernel_rfl
theorem tn94 : tint Tryd.prog 94 = false := by kernel_rfl
theorem ty94 : tbyte Tryd.prog 94 = false := by kernel_rfl
theorem tk94 : tkind Tryd.prog 94 = .other := by kernel_rfl
theorem te94 : telem Tryd.prog 94 = none := by kernel_rfl
theorem ts94 : tsize Tryd.prog 94 = 1 := by kernel_rfl
theorem tb94 : tbytes Tryd.prog 94 = 8 := by kernel_rfl
theorem tz94 : tzero Tryd.prog 94 = (some [.bad]) := by kernel_rfl
theorem ti94 : ti Tryd.prog 94 = ⟨1, 8, (some false), none, .other, (some [.bad])⟩ := by kernel_rfl
theorem tn95 : tint Tryd.prog 95 = false := by kernel_rfl
theorem ty95 : tbyte Tryd.prog 95 = false := by kernel_rfl
theorem tk95 : tkind Tryd.prog 95 = .other := by kernel_rfl
theorem te95 : telem Tryd.prog 95 = none := by kernel_rfl
theorem ts95 : tsize Tryd.prog 95 = 1 := by kernel_rfl
theorem tb95 : tbytes Tryd.prog 95 = 8 := by kernel_rfl
theorem tz95 : tzero Tryd.prog 95 = (some [.bad]) := by kernel_rfl
theorem ti95 : ti Tryd.prog 95 = ⟨1, 8, (some false), none, .other, (some [.bad])⟩ := by kernel_rfl
theorem tn96 : tint Tryd.prog 96 = false := by kernel_rfl
theorem ty96 : tbyte Tryd.prog 96 = false := by kernel_rfl
theorem tk96 : tkind Tryd.prog 96 = .other := by kernel_rfl
theorem te96 : telem Tryd.prog 96 = none := by kernel_rfl
theorem ts96 : tsize Tryd.prog 96 = 1 := by kernel_rfl
theorem tb96 : tbytes Tryd.prog 96 = 8 := by kernel_rfl
theorem tz96 : tzero Tryd.prog 96 = (some [.bad]) := by kernel_rfl
theorem ti96 : ti Tryd.prog 96 = ⟨1, 8, (some false), none, .other, (some [.bad])⟩ := by kernel_rfl
theorem tn97 : tint Tryd.prog 97 = false := by kernel_rfl
theorem ty97 : tbyte Tryd.prog 97 = false := by kernel_rfl
theorem tk97 : tkind Tryd.prog 97 = .other := by kernel_rfl
theorem te97 : telem Tryd.prog 97 = none := by kernel_rfl
theorem ts97 : tsize Tryd.prog 97 = 1 := by kernel_rfl
theorem tb97 : tbytes Tryd.prog 97 = 0 := by kernel_rfl
theorem tz97 : tzero Tryd.prog 97 = none := by kernel_rfl
theorem ti97 : ti Tryd.prog 97 = ⟨1, 0, (some false), none, .other, none⟩ := by kernel_rfl
theorem tn98 : tint Tryd.prog 98 = false := by kernel_rfl
theorem ty98 : tbyte Tryd.prog 98 = false := by kernel_rfl
theorem tk98 : tkind Tryd.prog 98 = .other := by kernel_rfl
theorem te98 : telem Tryd.prog 98 = none := by kernel_rfl
theorem ts98 : tsize Tryd.prog 98 = 1 := by kernel_rfl
theorem tb98 : tbytes Tryd.prog 98 = 8 := by kernel_rfl
theorem tz98 : tzero Tryd.prog 98 = (some [.bad]) := by kernel_rfl
theorem ti98 : ti Tryd.prog 98 = ⟨1, 8, (some false), none, .other, (some [.bad])⟩ := by kernel_rfl
theorem tn99 : tint Tryd.prog 99 = false := by kernel_rfl
theorem ty99 : tbyte Tryd.prog 99 = false := by kernel_rfl
theorem tk99 : tkind Tryd.prog 99 = .other := by kernel_rfl
theorem te99 : telem Tryd.prog 99 = none := by kernel_rfl
theorem ts99 : tsize Tryd.prog 99 = 1 := by kernel_rfl
theorem tb99 : tbytes Tryd.prog 99 = 8 := by kernel_rfl
theorem tz99 : tzero Tryd.prog 99 = (some [.bad]) := by kernel_rfl
theorem ti99 : ti Tryd.prog 99 = ⟨1, 8, (some false), none, .other, (some [.bad])⟩ := by kernel_rfl
theorem tn100 : tint Tryd.prog 100 = false := by kernel_rfl
theorem ty100 : tbyte Tryd.prog 100 = false := by kernel_rfl
theorem tk100 : tkind Tryd.prog 100 = .other := by kernel_rfl
theorem te100 : telem Tryd.prog 100 = none := by kernel_rfl
theorem ts100 : tsize Tryd.prog 100 = 1 := by kernel_rfl
theorem tb100 : tbytes Tryd.prog 100 = 8 := by kernel_rfl
theorem tz100 : tzero Tryd.prog 100 = (some [.bad]) := by kernel_rfl
theorem ti100 : ti Tryd.prog 100 = ⟨1, 8, (some false), none, .other, (some [.bad])⟩ := by kernel_rfl
theorem tn101 : tint Tryd.prog 101 = false := by kernel_rfl
theorem ty101 : tbyte Tryd.prog 101 = false := by kernel_rfl
theorem tk101 : tkind Tryd.prog 101 = .other := by kernel_rfl
theorem te101 : telem Tryd.prog 101 = none := by kernel_rfl
theorem ts101 : tsize Tryd.prog 101 = 1 := by kernel_rfl
theorem tb101 : tbytes Tryd.prog 101 = 8 := by kernel_rfl
theorem tz101 : tzero Tryd.prog 101 = (some [.bad]) := by kernel_rfl
theorem ti101 : ti Tryd.prog 101 = ⟨1, 8, (some false), none, .other, (some [.bad])⟩ := by kernel_rfl
theorem tn102 : tint Tryd.prog 102 = false := by kernel_rfl
theorem ty102 : tbyte Tryd.prog 102 = false := by kernel_rfl
theorem tk102 : tkind Tryd.prog 102 = .other := by kernel_rfl
theorem te102 : telem Tryd.prog 102 = none := by kernel_rfl
theorem ts102 : tsize Tryd.prog 102 = 1 := by kernel_rfl
theorem tb102 : tbytes Tryd.prog 102 = 0 := by kernel_rfl
theorem tz102 : tzero Tryd.prog 102 = none := by kernel_rfl
theorem ti102 : ti Tryd.prog 102 = ⟨1, 0, (some false), none, .other, none⟩ := by kernel_rfl
theorem tn103 : tint Tryd.prog 103 = false := by kernel_rfl
theorem ty103 : tbyte Tryd.prog 103 = false := by kernel_rfl
theorem tk103 : tkind Tryd.prog 103 = .other := by kernel_rfl
theorem te103 : telem Tryd.prog 103 = none := by kernel_rfl
theorem ts103 : tsize Tryd.prog 103 = 1 := by kernel_rfl
theorem tb103 : tbytes Tryd.prog 103 = 8 := by kernel_rfl
theorem tz103 : tzero Tryd.prog 103 = (some [.bad]) := by kernel_rfl
theorem ti103 : ti Tryd.prog 103 = ⟨1, 8, (some false), none, .other, (some [.bad])⟩ := by kernel_rfl
theorem tn104 : tint Tryd.prog 104 = false := by kernel_rfl
theorem ty104 : tbyte Tryd.prog 104 = false := by kernel_rfl
theorem tk104 : tkind Tryd.prog 104 = .other := by kernel_rfl
theorem te104 : telem Tryd.prog 104 = none := by kernel_rfl
theorem ts104 : tsize Tryd.prog 104 = 1 := by kernel_rfl
theorem tb104 : tbytes Tryd.prog 104 = 8 := by kernel_rfl
theorem tz104 : tzero Tryd.prog 104 = (some [.bad]) := by kernel_rfl
theorem ti104 : ti Tryd.prog 104 = ⟨1, 8, (some false), none, .other, (some [.bad])⟩ := by kernel_rfl
theorem tn105 : tint Tryd.prog 105 = false := by kernel_rfl
theorem ty105 : tbyte Tryd.prog 105 = false := by kernel_rfl
theorem tk105 : tkind Tryd.prog 105 = .other := by kernel_rfl
theorem te105 : telem Tryd.prog 105 = none := by kernel_rfl
theorem ts105 : tsize Tryd.prog 105 = 1 := by kernel_rfl
theorem tb105 : tbytes Tryd.prog 105 = 8 := by kernel_rfl
theorem tz105 : tzero Tryd.prog 105 = (some [.bad]) := by kernel_rfl
theorem ti105 : ti Tryd.prog 105 = ⟨1, 8, (some false), none, .other, (some [.bad])⟩ := by kernel_rfl
theorem tn106 : tint Tryd.prog 106 = false := by kernel_rfl
theorem ty106 : tbyte Tryd.prog 106 = false := by kernel_rfl
theorem tk106 : tkind Tryd.prog 106 = .other := by kernel_rfl
theorem te106 : telem Tryd.prog 106 = none := by kernel_rfl
theorem ts106 : tsize Tryd.prog 106 = 1 := by kernel_rfl
theorem tb106 : tbytes Tryd.prog 106 = 8 := by kernel_rfl
theorem tz106 : tzero Tryd.prog 106 = (some [.bad]) := by kernel_rfl
theorem ti106 : ti Tryd.prog 106 = ⟨1, 8, (some false), none, .other, (some [.bad])⟩ := by kernel_rfl
theorem tn107 : tint Tryd.prog 107 = false := by kernel_rfl
theorem ty107 : tbyte Tryd.prog 107 = false := by kernel_rfl
theorem tk107 : tkind Tryd.prog 107 = .other := by kernel_rfl
theorem te107 : telem Tryd.prog 107 = none := by kernel_rfl
theorem ts107 : tsize Tryd.prog 107 = 1 := by kernel_rfl
theorem tb107 : tbytes Tryd.prog 107 = 8 := by kernel_rfl
theorem tz107 : tzero Tryd.prog 107 = (some [.bad]) := by kernel_rfl
theorem ti107 : ti Tryd.prog 107 = ⟨1, 8, (some false), none, .other, (some [.bad])⟩ := by kernel_rfl
theorem tn108 : tint Tryd.prog 108 = true := by kernel_rfl
theorem ty108 : tbyte Tryd.prog 108 = false := by kernel_rfl
theorem tk108 : tkind Tryd.prog 108 = (.int .i64) := by kernel_rfl
theorem te108 : telem Tryd.prog 108 = none := by kernel_rfl
theorem ts108 : tsize Tryd.prog 108 = 1 := by kernel_rfl
theorem tb108 : tbytes Tryd.prog 108 = 8 := by kernel_rfl
theorem tz108 : tzero Tryd.prog 108 = (some [.int .i64 (0)]) := by kernel_rfl
theorem ti108 : ti Tryd.prog 108 = ⟨1, 8, (some false), none, (.int .i64), (some [.int .i64 (0)])⟩ := by kernel_rfl
theorem tn109 : tint Tryd.prog 109 = false := by kernel_rfl
theorem ty109 : tbyte Tryd.prog 109 = false := by kernel_rfl
theorem tk109 : tkind Tryd.prog 109 = .other := by kernel_rfl
theorem te109 : telem Tryd.prog 109 = none := by kernel_rfl
theorem ts109 : tsize Tryd.prog 109 = 1 := by kernel_rfl
theorem tb109 : tbytes Tryd.prog 109 = 0 := by kernel_rfl
theorem tz109 : tzero Tryd.prog 109 = none := by kernel_rfl
theorem ti109 : ti Tryd.prog 109 = ⟨1, 0, (some false), none, .other, none⟩ := by kernel_rfl
theorem tn110 : tint Tryd.prog 110 = false := by kernel_rfl
theorem ty110 : tbyte Tryd.prog 110 = false := by kernel_rfl
theorem tk110 : tkind Tryd.prog 110 = .other := by kernel_rfl
theorem te110 : telem Tryd.prog 110 = none := by kernel_rfl
theorem ts110 : tsize Tryd.prog 110 = 1 := by kernel_rfl
theorem tb110 : tbytes Tryd.prog 110 = 8 := by kernel_rfl
theorem tz110 : tzero Tryd.prog 110 = (some [.bad]) := by kernel_rfl
theorem ti110 : ti Tryd.prog 110 = ⟨1, 8, (some false), none, .other, (some [.bad])⟩ := by kernel_rfl
theorem tn111 : tint Tryd.prog 111 = false := by kernel_rfl
theorem ty111 : tbyte Tryd.prog 111 = false := by kernel_rfl
theorem tk111 : tkind Tryd.prog 111 = .other := by kernel_rfl
theorem te111 : telem Tryd.prog 111 = none := by kernel_rfl
theorem ts111 : tsize Tryd.prog 111 = 1 := by kernel_rfl
theorem tb111 : tbytes Tryd.prog 111 = 8 := by kernel_rfl
theorem tz111 : tzero Tryd.prog 111 = (some [.bad]) := by kernel_rfl
theorem ti111 : ti Tryd.prog 111 = ⟨1, 8, (some false), none, .other, (some [.bad])⟩ := by kernel_rfl
theorem tn112 : tint Tryd.prog 112 = false := by kernel_rfl
theorem ty112 : tbyte Tryd.prog 112 = false := by kernel_rfl
theorem tk112 : tkind Tryd.prog 112 = .other := by kernel_rfl
theorem te112 : telem Tryd.prog 112 = none := by kernel_rfl
theorem ts112 : tsize Tryd.prog 112 = 1 := by kernel_rfl
theorem tb112 : tbytes Tryd.prog 112 = 8 := by kernel_rfl
theorem tz112 : tzero Tryd.prog 112 = (some [.bad]) := by kernel_rfl
theorem ti112 : ti Tryd.prog 112 = ⟨1, 8, (some false), none, .other, (some [.bad])⟩ := by kernel_rfl
theorem tn113 : tint Tryd.prog 113 = false := by kernel_rfl
theorem ty113 : tbyte Tryd.prog 113 = false := by kernel_rfl
theorem tk113 : tkind Tryd.prog 113 = .other := by kernel_rfl
theorem te113 : telem Tryd.prog 113 = none := by kernel_rfl
theorem ts113 : tsize Tryd.prog 113 = 1 := by kernel_rfl
theorem tb113 : tbytes Tryd.prog 113 = 8 := by kernel_rfl
theorem tz113 : tzero Tryd.prog 113 = (some [.bad]) := by kernel_rfl
theorem ti113 : ti Tryd.prog 113 = ⟨1, 8, (some false), none, .other, (some [.bad])⟩ := by kernel_rfl
theorem tn114 : tint Tryd.prog 114 = false := by kernel_rfl
theorem ty114 : tbyte Tryd.prog 114 = false := by kernel_rfl
theorem tk114 : tkind Tryd.prog 114 = .other := by kernel_rfl
theorem te114 : telem Tryd.prog 114 = none := by kernel_rfl
theorem ts114 : tsize Tryd.prog 114 = 1 := by kernel_rfl
theorem tb114 : tbytes Tryd.prog 114 = 8 := by kernel_rfl
theorem tz114 : tzero Tryd.prog 114 = (some [.bad]) := by kernel_rfl
theorem ti114 : ti Tryd.prog 114 = ⟨1, 8, (some false), none, .other, (some [.bad])⟩ := by kernel_rfl
theorem tn115 : tint Tryd.prog 115 = true := by kernel_rfl
theorem ty115 : tbyte Tryd.prog 115 = false := by kernel_rfl
theorem tk115 : tkind Tryd.prog 115 = (.int .u32) := by kernel_rfl
theorem te115 : telem Tryd.prog 115 = none := by kernel_rfl
theorem ts115 : tsize Tryd.prog 115 = 1 := by kernel_rfl
theorem tb115 : tbytes Tryd.prog 115 = 4 := by kernel_rfl
theorem tz115 : tzero Tryd.prog 115 = (some [.int .u32 (0)]) := by kernel_rfl
theorem ti115 : ti Tryd.prog 115 = ⟨1, 4, (some false), none, (.int .u32), (some [.int .u32 (0)])⟩ := by kernel_rfl
theorem tn116 : tint Tryd.prog 116 = false := by kernel_rfl
theorem ty116 : tbyte Tryd.prog 116 = false := by kernel_rfl
theorem tk116 : tkind Tryd.prog 116 = .other := by kernel_rfl
theorem te116 : telem Tryd.prog 116 = none := by kernel_rfl
theorem ts116 : tsize Tryd.prog 116 = 1 := by kernel_rfl
theorem tb116 : tbytes Tryd.prog 116 = 8 := by kernel_rfl
theorem tz116 : tzero Tryd.prog 116 = (some [.bad]) := by kernel_rfl
theorem ti116 : ti Tryd.prog 116 = ⟨1, 8, (some false), none, .other, (some [.bad])⟩ := by kernel_rfl
theorem tn117 : tint Tryd.prog 117 = true := by kernel_rfl
theorem ty117 : tbyte Tryd.prog 117 = false := by kernel_rfl
theorem tk117 : tkind Tryd.prog 117 = (.int .u64) := by kernel_rfl
theorem te117 : telem Tryd.prog 117 = none := by kernel_rfl
theorem ts117 : tsize Tryd.prog 117 = 1 := by kernel_rfl
theorem tb117 : tbytes Tryd.prog 117 = 8 := by kernel_rfl
theorem tz117 : tzero Tryd.prog 117 = (some [.int .u64 (0)]) := by kernel_rfl
theorem ti117 : ti Tryd.prog 117 = ⟨1, 8, (some false), none, (.int .u64), (some [.int .u64 (0)])⟩ := by kernel_rfl
theorem tn118 : tint Tryd.prog 118 = false := by kernel_rfl
theorem ty118 : tbyte Tryd.prog 118 = false := by kernel_rfl
theorem tk118 : tkind Tryd.prog 118 = .other := by kernel_rfl
theorem te118 : telem Tryd.prog 118 = none := by kernel_rfl
theorem ts118 : tsize Tryd.prog 118 = 1 := by kernel_rfl
theorem tb118 : tbytes Tryd.prog 118 = 8 := by kernel_rfl
theorem tz118 : tzero Tryd.prog 118 = (some [.bad]) := by kernel_rfl
theorem ti118 : ti Tryd.prog 118 = ⟨1, 8, (some false), none, .other, (some [.bad])⟩ := by kernel_rfl
theorem tn119 : tint Tryd.prog 119 = false := by kernel_rfl
theorem ty119 : tbyte Tryd.prog 119 = false := by kernel_rfl
theorem tk119 : tkind Tryd.prog 119 = .other := by kernel_rfl
theorem te119 : telem Tryd.prog 119 = none := by kernel_rfl
theorem ts119 : tsize Tryd.prog 119 = 1 := by kernel_rfl
theorem tb119 : tbytes Tryd.prog 119 = 8 := by kernel_rfl
theorem tz119 : tzero Tryd.prog 119 = (some [.bad]) := by kernel_rfl
theorem ti119 : ti Tryd.prog 119 = ⟨1, 8, (some false), none, .other, (some [.bad])⟩ := by kernel_rfl
theorem tn120 : tint Tryd.prog 120 = false := by kernel_rfl
theorem ty120 : tbyte Tryd.prog 120 = false := by kernel_rfl
theorem tk120 : tkind Tryd.prog 120 = .other := by kernel_rfl
theorem te120 : telem Tryd.prog 120 = none := by kernel_rfl
theorem ts120 : tsize Tryd.prog 120 = 1 := by kernel_rfl
theorem tb120 : tbytes Tryd.prog 120 = 8 := by kernel_rfl
theorem tz120 : tzero Tryd.prog 120 = (some [.bad]) := by kernel_rfl
theorem ti120 : ti Tryd.prog 120 = ⟨1, 8, (some false), none, .other, (some [.bad])⟩ := by kernel_rfl
theorem tn121 : tint Tryd.prog 121 = false := by kernel_rfl
theorem ty121 : tbyte Tryd.prog 121 = false := by kernel_rfl
theorem tk121 : tkind Tryd.prog 121 = .other := by kernel_rfl
theorem te121 : telem Tryd.prog 121 = none := by kernel_rfl
theorem ts121 : tsize Tryd.prog 121 = 1 := by kernel_rfl
theorem tb121 : tbytes Tryd.prog 121 = 8 := by kernel_rfl
theorem tz121 : tzero Tryd.prog 121 = (some [.bad]) := by kernel_rfl
theorem ti121 : ti Tryd.prog 121 = ⟨1, 8, (some false), none, .other, (some [.bad])⟩ := by kernel_rfl
theorem tn122 : tint Tryd.prog 122 = false := by kernel_rfl
theorem ty122 : tbyte Tryd.prog 122 = false := by kernel_rfl
theorem tk122 : tkind Tryd.prog 122 = .other := by kernel_rfl
theorem te122 : telem Tryd.prog 122 = none := by kernel_rfl
theorem ts122 : tsize Tryd.prog 122 = 1 := by kernel_rfl
theorem tb122 : tbytes Tryd.prog 122 = 8 := by kernel_rfl
theorem tz122 : tzero Tryd.prog 122 = (some [.bad]) := by kernel_rfl
theorem ti122 : ti Tryd.prog 122 = ⟨1, 8, (some false), none, .other, (some [.bad])⟩ := by kernel_rfl
theorem tn123 : tint Tryd.prog 123 = true := by kernel_rfl
theorem ty123 : tbyte Tryd.prog 123 = false := by kernel_rfl
theorem tk123 : tkind Tryd.prog 123 = (.int .u64) := by kernel_rfl
theorem te123 : telem Tryd.prog 123 = none := by kernel_rfl
theorem ts123 : tsize Tryd.prog 123 = 1 := by kernel_rfl
theorem tb123 : tbytes Tryd.prog 123 = 8 := by kernel_rfl
theorem tz123 : tzero Tryd.prog 123 = (some [.int .u64 (0)]) := by kernel_rfl
theorem ti123 : ti Tryd.prog 123 = ⟨1, 8, (some false), none, (.int .u64), (some [.int .u64 (0)])⟩ := by kernel_rfl
theorem tn124 : tint Tryd.prog 124 = false := by kernel_rfl
theorem ty124 : tbyte Tryd.prog 124 = false := by kernel_rfl
theorem tk124 : tkind Tryd.prog 124 = .other := by kernel_rfl
theorem te124 : telem Tryd.prog 124 = none := by kernel_rfl
theorem ts124 : tsize Tryd.prog 124 = 1 := by kernel_rfl
theorem tb124 : tbytes Tryd.prog 124 = 8 := by kernel_rfl
theorem tz124 : tzero Tryd.prog 124 = (some [.bad]) := by kernel_rfl
theorem ti124 : ti Tryd.prog 124 = ⟨1, 8, (some false), none, .other, (some [.bad])⟩ := by kernel_rfl
theorem tn125 : tint Tryd.prog 125 = false := by kernel_rfl
theorem ty125 : tbyte Tryd.prog 125 = false := by kernel_rfl
theorem tk125 : tkind Tryd.prog 125 = .other := by kernel_rfl
theorem te125 : telem Tryd.prog 125 = none := by kernel_rfl
theorem ts125 : tsize Tryd.prog 125 = 1 := by kernel_rfl
theorem tb125 : tbytes Tryd.prog 125 = 8 := by kernel_rfl
theorem tz125 : tzero Tryd.prog 125 = (some [.bad]) := by kernel_rfl
theorem ti125 : ti Tryd.prog 125 = ⟨1, 8, (some false), none, .other, (some [.bad])⟩ := by kernel_rfl
theorem tn126 : tint Tryd.prog 126 = false := by kernel_rfl
theorem ty126 : tbyte Tryd.prog 126 = false := by kernel_rfl
theorem tk126 : tkind Tryd.prog 126 = .other := by kernel_rfl
theorem te126 : telem Tryd.prog 126 = none := by kernel_rfl
theorem ts126 : tsize Tryd.prog 126 = 1 := by kernel_rfl
theorem tb126 : tbytes Tryd.prog 126 = 8 := by kernel_rfl
theorem tz126 : tzero Tryd.prog 126 = (some [.bad]) := by kernel_rfl
theorem ti126 : ti Tryd.prog 126 = ⟨1, 8, (some false), none, .other, (some [.bad])⟩ := by kernel_rfl
theorem tn127 : tint Tryd.prog 127 = false := by kernel_rfl
theorem ty127 : tbyte Tryd.prog 127 = false := by kernel_rfl
theorem tk127 : tkind Tryd.prog 127 = .other := by kernel_rfl
theorem te127 : telem Tryd.prog 127 = none := by kernel_rfl
theorem ts127 : tsize Tryd.prog 127 = 1 := by kernel_rfl
theorem tb127 : tbytes Tryd.prog 127 = 8 := by kernel_rfl
theorem tz127 : tzero Tryd.prog 127 = (some [.bad]) := by kernel_rfl
theorem ti127 : ti Tryd.prog 127 = ⟨1, 8, (some false), none, .other, (some [.bad])⟩ := by kernel_rfl
theorem tn128 : tint Tryd.prog 128 = false := by kernel_rfl
theorem ty128 : tbyte Tryd.prog 128 = false := by kernel_rfl
theorem tk128 : tkind Tryd.prog 128 = .other := by kernel_rfl
theorem te128 : telem Tryd.prog 128 = none := by kernel_rfl
theorem ts128 : tsize Tryd.prog 128 = 1 := by kernel_rfl
theorem tb128 : tbytes Tryd.prog 128 = 8 := by kernel_rfl
theorem tz128 : tzero Tryd.prog 128 = (some [.bad]) := by kernel_rfl
theorem ti128 : ti Tryd.prog 128 = ⟨1, 8, (some false), none, .other, (some [.bad])⟩ := by kernel_rfl
theorem tn129 : tint Tryd.prog 129 = false := by kernel_rfl
theorem ty129 : tbyte Tryd.prog 129 = false := by kernel_rfl
theorem tk129 : tkind Tryd.prog 129 = .other := by kernel_rfl
theorem te129 : telem Tryd.prog 129 = none := by kernel_rfl
theorem ts129 : tsize Tryd.prog 129 = 1 := by kernel_rfl
theorem tb129 : tbytes Tryd.prog 129 = 8 := by kernel_rfl
theorem tz129 : tzero Tryd.prog 129 = (some [.bad]) := by kernel_rfl
theorem ti129 : ti Tryd.prog 129 = ⟨1, 8, (some false), none, .other, (some [.bad])⟩ := by kernel_rfl
theorem tn130 : tint Tryd.prog 130 = false := by kernel_rfl
theorem ty130 : tbyte Tryd.prog 130 = false := by kernel_rfl
theorem tk130 : tkind Tryd.prog 130 = .other := by kernel_rfl
theorem te130 : telem Tryd.prog 130 = none := by kernel_rfl
theorem ts130 : tsize Tryd.prog 130 = 1 := by kernel_rfl
theorem tb130 : tbytes Tryd.prog 130 = 0 := by kernel_rfl
theorem tz130 : tzero Tryd.prog 130 = none := by kernel_rfl
theorem ti130 : ti Tryd.prog 130 = ⟨1, 0, (some false), none, .other, none⟩ := by kernel_rfl
theorem tn131 : tint Tryd.prog 131 = false := by kernel_rfl
theorem ty131 : tbyte Tryd.prog 131 = false := by kernel_rfl
theorem tk131 : tkind Tryd.prog 131 = .other := by kernel_rfl
theorem te131 : telem Tryd.prog 131 = none := by kernel_rfl
theorem ts131 : tsize Tryd.prog 131 = 1 := by kernel_rfl
theorem tb131 : tbytes Tryd.prog 131 = 8 := by kernel_rfl
theorem tz131 : tzero Tryd.prog 131 = (some [.bad]) := by kernel_rfl
theorem ti131 : ti Tryd.prog 131 = ⟨1, 8, (some false), none, .other, (some [.bad])⟩ := by kernel_rfl
theorem tn132 : tint Tryd.prog 132 = false := by kernel_rfl
theorem ty132 : tbyte Tryd.prog 132 = false := by kernel_rfl
theorem tk132 : tkind Tryd.prog 132 = .other := by kernel_rfl
theorem te132 : telem Tryd.prog 132 = none := by kernel_rfl
theorem ts132 : tsize Tryd.prog 132 = 1 := by kernel_rfl
theorem tb132 : tbytes Tryd.prog 132 = 8 := by kernel_rfl
theorem tz132 : tzero Tryd.prog 132 = (some [.bad]) := by kernel_rfl
theorem ti132 : ti Tryd.prog 132 = ⟨1, 8, (some false), none, .other, (some [.bad])⟩ := by kernel_rfl
theorem tn133 : tint Tryd.prog 133 = false := by kernel_rfl
theorem ty133 : tbyte Tryd.prog 133 = false := by kernel_rfl
theorem tk133 : tkind Tryd.prog 133 = .other := by kernel_rfl
theorem te133 : telem Tryd.prog 133 = none := by kernel_rfl
theorem ts133 : tsize Tryd.prog 133 = 1 := by kernel_rfl
theorem tb133 : tbytes Tryd.prog 133 = 8 := by kernel_rfl
theorem tz133 : tzero Tryd.prog 133 = (some [.bad]) := by kernel_rfl
theorem ti133 : ti Tryd.prog 133 = ⟨1, 8, (some false), none, .other, (some [.bad])⟩ := by kernel_rfl
theorem tn134 : tint Tryd.prog 134 = false := by kernel_rfl
theorem ty134 : tbyte Tryd.prog 134 = false := by kernel_rfl
theorem tk134 : tkind Tryd.prog 134 = .other := by kernel_rfl
theorem te134 : telem Tryd.prog 134 = none := by kernel_rfl
theorem ts134 : tsize Tryd.prog 134 = 1 := by kernel_rfl
theorem tb134 : tbytes Tryd.prog 134 = 0 := by kernel_rfl
theorem tz134 : tzero Tryd.prog 134 = none := by kernel_rfl
theorem ti134 : ti Tryd.prog 134 = ⟨1, 0, (some false), none, .other, none⟩ := by kernel_rfl
theorem tn135 : tint Tryd.prog 135 = false := by kernel_rfl
theorem ty135 : tbyte Tryd.prog 135 = false := by kernel_rfl
theorem tk135 : tkind Tryd.prog 135 = .other := by kernel_rfl
theorem te135 : telem Tryd.prog 135 = none := by kernel_rfl
theorem ts135 : tsize Tryd.prog 135 = 1 := by kernel_rfl
theorem tb135 : tbytes Tryd.prog 135 = 8 := by kernel_rfl
theorem tz135 : tzero Tryd.prog 135 = (some [.bad]) := by kernel_rfl
theorem ti135 : ti Tryd.prog 135 = ⟨1, 8, (some false), none, .other, (some [.bad])⟩ := by kernel_rfl
theorem tn136 : tint Tryd.prog 136 = false := by kernel_rfl
theorem ty136 : tbyte Tryd.prog 136 = false := by kernel_rfl
theorem tk136 : tkind Tryd.prog 136 = .other := by kernel_rfl
theorem te136 : telem Tryd.prog 136 = none := by kernel_rfl
theorem ts136 : tsize Tryd.prog 136 = 1 := by kernel_rfl
theorem tb136 : tbytes Tryd.prog 136 = 8 := by kernel_rfl
theorem tz136 : tzero Tryd.prog 136 = (some [.bad]) := by kernel_rfl
theorem ti136 : ti Tryd.prog 136 = ⟨1, 8, (some false), none, .other, (some [.bad])⟩ := by kernel_rfl
theorem tn137 : tint Tryd.prog 137 = false := by kernel_rfl
theorem ty137 : tbyte Tryd.prog 137 = false := by kernel_rfl
theorem tk137 : tkind Tryd.prog 137 = .other := by kernel_rfl
theorem te137 : telem Tryd.prog 137 = none := by kernel_rfl
theorem ts137 : tsize Tryd.prog 137 = 256 := by kernel_rfl
theorem tb137 : tbytes Tryd.prog 137 = 256 := by kernel_rfl
theorem tz137 : tzero Tryd.prog 137 = (some [.int .u8 (0), .int .u8 (0), .int .u8 (0), .int .u8 (0), .int .u8 (0), .int .u8 (0), .int .u8 (0), .int .u8 (0), .int .u8 (0), .int .u8 (0), .int .u8 (0), .int .u8 (0), .int .u8 (0), .int .u8 (0), .int .u8 (0), .int .u8 (0), .int .u8 (0), .int .u8 (0), .int .u8 (0), .int .u8 (0), .int .u8 (0), .int .u8 (0), .int .u8 (0), .int .u8 (0), .int .u8 (0), .int .u8 (0), .int .u8 (0), .int .u8 (0), .int .u8 (0), .int .u8 (0), .int .u8 (0), .int .u8 (0), .int .u8 (0), .int .u8 (0), .int .u8 (0), .int .u8 (0), .int .u8 (0), .int .u8 (0), .int .u8 (0), .int .u8 (0), .int .u8 (0), .int .u8 (0), .int .u8 (0), .int .u8 (0), .int .u8 (0), .int .u8 (0), .int .u8 (0), .int .u8 (0), .int .u8 (0), .int .u8 (0), .int .u8 (0), .int .u8 (0), .int .u8 (0), .int .u8 (0), .int .u8 (0), .int .u8 (0), .int .u8 (0), .int .u8 (0), .int .u8 (0), .int .u8 (0), .int .u8 (0), .int .u8 (0), .int .u8 (0), .int .u8 (0), .int .u8 (0), .int .u8 (0), .int .u8 (0), .int .u8 (0), .int .u8 (0), .int .u8 (0), .int .u8 (0), .int .u8 (0), .int .u8 (0), .int .u8 (0), .int .u8 (0), .int .u8 (0), .int .u8 (0), .int .u8 (0), .int .u8 (0), .int .u8 (0), .int .u8 (0), .int .u8 (0), .int .u8 (0), .int .u8 (0), .int .u8 (0), .int .u8 (0), .int .u8 (0), .int .u8 (0), .int .u8 (0), .int .u8 (0), .int .u8 (0), .int .u8 (0), .int .u8 (0), .int .u8 (0), .int .u8 (0), .int .u8 (0), .int .u8 (0), .int .u8 (0), .int .u8 (0), .int .u8 (0), .int .u8 (0), .int .u8 (0), .int .u8 (0), .int .u8 (0), .int .u8 (0), .int .u8 (0), .int .u8 (0), .int .u8 (0), .int .u8 (0), .int .u8 (0), .int .u8 (0), .int .u8 (0), .int .u8 (0), .int .u8 (0), .int .u8 (0), .int .u8 (0), .int .u8 (0), .int .u8 (0), .int .u8 (0), .int .u8 (0), .int .u8 (0), .int .u8 (0), .int .u8 (0), .int .u8 (0), .int .u8 (0), .int .u8 (0), .int .u8 (0), .int .u8 (0), .int .u8 (0), .int .u8 (0), .int .u8 (0), .int .u8 (0), .int .u8 (0), .int .u8 (0), .int .u8 (0), .int .u8 (0), .int .u8 (0), .int .u8 (0), .int .u8 (0), .int .u8 (0), .int .u8 (0), .int .u8 (0), .int .u8 (0), .int .u8 (0), .int .u8 (0), .int .u8 (0), .int .u8 (0), .int .u8 (0), .int .u8 (0), .int .u8 (0), .int .u8 (0), .int .u8 (0), .int .u8 (0), .int .u8 (0), .int .u8 (0), .int .u8 (0), .int .u8 (0), .int .u8 (0), .int .u8 (0), .int .u8 (0), .int .u8 (0), .int .u8 (0), .int .u8 (0), .int .u8 (0), .int .u8 (0), .int .u8 (0), .int .u8 (0), .int .u8 (0), .int .u8 (0), .int .u8 (0), .int .u8 (0), .int .u8 (0), .int .u8 (0), .int .u8 (0), .int .u8 (0), .int .u8 (0), .int .u8 (0), .int .u8 (0), .int .u8 (0), .int .u8 (0), .int .u8 (0), .int .u8 (0), .int .u8 (0), .int .u8 (0), .int .u8 (0), .int .u8 (0), .int .u8 (0), .int .u8 (0), .int .u8 (0), .int .u8 (0), .int .u8 (0), .int .u8 (0), .int .u8 (0), .int .u8 (0), .int .u8 (0), .int .u8 (0), .int .u8 (0), .int .u8 (0), .int .u8 (0), .int .u8 (0), .int .u8 (0), .int .u8 (0), .int .u8 (0), .int .u8 (0), .int .u8 (0), .int .u8 (0), .int .u8 (0), .int .u8 (0), .int .u8 (0), .int .u8 (0), .int .u8 (0), .int .u8 (0), .int .u8 (0), .int .u8 (0), .int .u8 (0), .int .u8 (0), .int .u8 (0), .int .u8 (0), .int .u8 (0), .int .u8 (0), .int .u8 (0), .int .u8 (0), .int .u8 (0), .int .u8 (0), .int .u8 (0), .int .u8 (0), .int .u8 (0), .int .u8 (0), .int .u8 (0), .int .u8 (0), .int .u8 (0), .int .u8 (0), .int .u8 (0), .int .u8 (0), .int .u8 (0), .int .u8 (0), .int .u8 (0), .int .u8 (0), .int .u8 (0), .int .u8 (0), .int .u8 (0), .int .u8 (0), .int .u8 (0), .int .u8 (0), .int .u8 (0), .int .u8 (0), .int .u8 (0), .int .u8 (0), .int .u8 (0), .int .u8 (0), .int .u8 (0), .int .u8 (0), .int .u8 (0), .int .u8 (0), .int .u8 (0), .int .u8 (0)]) := by kernel_rfl
theorem ti137 : ti Tryd.prog 137 = ⟨256, 256, (some true), none, .other, (some [.int .u8 (0), .int .u8 (0), .int .u8 (0), .int .u8 (0), .int .u8 (0), .int .u8 (0), .int .u8 (0), .int .u8 (0), .int .u8 (0), .int .u8 (0), .int .u8 (0), .int .u8 (0), .int .u8 (0), .int .u8 (0), .int .u8 (0), .int .u8 (0), .int .u8 (0), .int .u8 (0), .int .u8 (0), .int .u8 (0), .int .u8 (0), .int .u8 (0), .int .u8 (0), .int .u8 (0), .int .u8 (0), .int .u8 (0), .int .u8 (0), .int .u8 (0), .int .u8 (0), .int .u8 (0), .int .u8 (0), .int .u8 (0), .int .u8 (0), .int .u8 (0), .int .u8 (0), .int .u8 (0), .int .u8 (0), .int .u8 (0), .int .u8 (0), .int .u8 (0), .int .u8 (0), .int .u8 (0), .int .u8 (0), .int .u8 (0), .int .u8 (0), .int .u8 (0), .int .u8 (0), .int .u8 (0), .int .u8 (0), .int .u8 (0), .int .u8 (0), .int .u8 (0), .int .u8 (0), .int .u8 (0), .int .u8 (0), .int .u8 (0), .int .u8 (0), .int .u8 (0), .int .u8 (0), .int .u8 (0), .int .u8 (0), .int .u8 (0), .int .u8 (0), .int .u8 (0), .int .u8 (0), .int .u8 (0), .int .u8 (0), .int .u8 (0), .int .u8 (0), .int .u8 (0), .int .u8 (0), .int .u8 (0), .int .u8 (0), .int .u8 (0), .int .u8 (0), .int .u8 (0), .int .u8 (0), .int .u8 (0), .int .u8 (0), .int .u8 (0), .int .u8 (0), .int .u8 (0), .int .u8 (0), .int .u8 (0), .int .u8 (0), .int .u8 (0), .int .u8 (0), .int .u8 (0), .int .u8 (0), .int .u8 (0), .int .u8 (0), .int .u8 (0), .int .u8 (0), .int .u8 (0), .int .u8 (0), .int .u8 (0), .int .u8 (0), .int .u8 (0), .int .u8 (0), .int .u8 (0), .int .u8 (0), .int .u8 (0), .int .u8 (0), .int .u8 (0), .int .u8 (0), .int .u8 (0), .int .u8 (0), .int .u8 (0), .int .u8 (0), .int .u8 (0), .int .u8 (0), .int .u8 (0), .int .u8 (0), .int .u8 (0), .int .u8 (0), .int .u8 (0), .int .u8 (0), .int .u8 (0), .int .u8 (0), .int .u8 (0), .int .u8 (0), .int .u8 (0), .int .u8 (0), .int .u8 (0), .int .u8 (0), .int .u8 (0), .int .u8 (0), .int .u8 (0), .int .u8 (0), .int .u8 (0), .int .u8 (0), .int .u8 (0), .int .u8 (0), .int .u8 (0), .int .u8 (0), .int .u8 (0), .int .u8 (0), .int .u8 (0), .int .u8 (0), .int .u8 (0), .int .u8 (0), .int .u8 (0), .int .u8 (0), .int .u8 (0), .int .u8 (0), .int .u8 (0), .int .u8 (0), .int .u8 (0), .int .u8 (0), .int .u8 (0), .int .u8 (0), .int .u8 (0), .int .u8 (0), .int .u8 (0), .int .u8 (0), .int .u8 (0), .int .u8 (0), .int .u8 (0), .int .u8 (0), .int .u8 (0), .int .u8 (0), .int .u8 (0), .int .u8 (0), .int .u8 (0), .int .u8 (0), .int .u8 (0), .int .u8 (0), .int .u8 (0), .int .u8 (0), .int .u8 (0), .int .u8 (0), .int .u8 (0), .int .u8 (0), .int .u8 (0), .int .u8 (0), .int .u8 (0), .int .u8 (0), .int .u8 (0), .int .u8 (0), .int .u8 (0), .int .u8 (0), .int .u8 (0), .int .u8 (0), .int .u8 (0), .int .u8 (0), .int .u8 (0), .int .u8 (0), .int .u8 (0), .int .u8 (0), .int .u8 (0), .int .u8 (0), .int .u8 (0), .int .u8 (0), .int .u8 (0), .int .u8 (0), .int .u8 (0), .int .u8 (0), .int .u8 (0), .int .u8 (0), .int .u8 (0), .int .u8 (0), .int .u8 (0), .int .u8 (0), .int .u8 (0), .int .u8 (0), .int .u8 (0), .int .u8 (0), .int .u8 (0), .int .u8 (0), .int .u8 (0), .int .u8 (0), .int .u8 (0), .int .u8 (0), .int .u8 (0), .int .u8 (0), .int .u8 (0), .int .u8 (0), .int .u8 (0), .int .u8 (0), .int .u8 (0), .int .u8 (0), .int .u8 (0), .int .u8 (0), .int .u8 (0), .int .u8 (0), .int .u8 (0), .int .u8 (0), .int .u8 (0), .int .u8 (0), .int .u8 (0), .int .u8 (0), .int .u8 (0), .int .u8 (0), .int .u8 (0), .int .u8 (0), .int .u8 (0), .int .u8 (0), .int .u8 (0), .int .u8 (0), .int .u8 (0), .int .u8 (0), .int .u8 (0), .int .u8 (0), .int .u8 (0), .int .u8 (0), .int .u8 (0), .int .u8 (0), .int .u8 (0), .int .u8 (0), .int .u8 (0), .int .u8 (0), .int .u8 (0), .int .u8 (0), .int .u8 (0), .int .u8 (0), .int .u8 (0)])⟩ := by kernel_rfl
theorem pl138 : tplaces Tryd.prog 138 = (some [(0, 1), (1, 1)]) := by kernel_rfl
theorem tf138_0 : tfield Tryd.prog 138 0 = (some (0, 5)) := by kernel_rfl
theorem tf138_1 : tfield Tryd.prog 138 1 = (some (1, 5)) := by kernel_rfl
theorem tn138 : tint Tryd.prog 138 = false := by kernel_rfl
theorem ty138 : tbyte Tryd.prog 138 = false := by kernel_rfl
theorem tk138 : tkind Tryd.prog 138 = (.flat [1, 1]) := by kernel_rfl
theorem te138 : telem Tryd.prog 138 = none := by kernel_rfl
theorem ts138 : tsize Tryd.prog 138 = 2 := by kernel_rfl
theorem tb138 : tbytes Tryd.prog 138 = 2 := by kernel_rfl
theorem tz138 : tzero Tryd.prog 138 = (some [.int .u8 (0), .int .u8 (0)]) := by kernel_rfl
theorem ti138 : ti Tryd.prog 138 = ⟨2, 2, (some true), none, (.flat [1, 1]), (some [.int .u8 (0), .int .u8 (0)])⟩ := by kernel_rfl
theorem pl139 : tplaces Tryd.prog 139 = (some [(0, 1), (1, 1)]) := by kernel_rfl
theorem tf139_0 : tfield Tryd.prog 139 0 = (some (0, 5)) := by kernel_rfl
theorem tf139_1 : tfield Tryd.prog 139 1 = (some (1, 5)) := by kernel_rfl
theorem tn139 : tint Tryd.prog 139 = false := by kernel_rfl
theorem ty139 : tbyte Tryd.prog 139 = false := by kernel_rfl
theorem tk139 : tkind Tryd.prog 139 = (.flat [1, 1]) := by kernel_rfl
theorem te139 : telem Tryd.prog 139 = none := by kernel_rfl
theorem ts139 : tsize Tryd.prog 139 = 2 := by kernel_rfl
theorem tb139 : tbytes Tryd.prog 139 = 2 := by kernel_rfl
theorem tz139 : tzero Tryd.prog 139 = (some [.int .u8 (0), .int .u8 (0)]) := by kernel_rfl
theorem ti139 : ti Tryd.prog 139 = ⟨2, 2, (some true), none, (.flat [1, 1]), (some [.int .u8 (0), .int .u8 (0)])⟩ := by kernel_rfl
theorem tn140 : tint Tryd.prog 140 = false := by kernel_rfl
theorem ty140 : tbyte Tryd.prog 140 = false := by kernel_rfl
theorem tk140 : tkind Tryd.prog 140 = .other := by kernel_rfl
theorem te140 : telem Tryd.prog 140 = none := by kernel_rfl
theorem ts140 : tsize Tryd.prog 140 = 32 := by kernel_rfl
theorem tb140 : tbytes Tryd.prog 140 = 32 := by kernel_rfl
theorem tz140 : tzero Tryd.prog 140 = (some [.int .u8 (0), .int .u8 (0), .int .u8 (0), .int .u8 (0), .int .u8 (0), .int .u8 (0), .int .u8 (0), .int .u8 (0), .int .u8 (0), .int .u8 (0), .int .u8 (0), .int .u8 (0), .int .u8 (0), .int .u8 (0), .int .u8 (0), .int .u8 (0), .int .u8 (0), .int .u8 (0), .int .u8 (0), .int .u8 (0), .int .u8 (0), .int .u8 (0), .int .u8 (0), .int .u8 (0), .int .u8 (0), .int .u8 (0), .int .u8 (0), .int .u8 (0), .int .u8 (0), .int .u8 (0), .int .u8 (0), .int .u8 (0)]) := by kernel_rfl
theorem ti140 : ti Tryd.prog 140 = ⟨32, 32, (some true), none, .other, (some [.int .u8 (0), .int .u8 (0), .int .u8 (0), .int .u8 (0), .int .u8 (0), .int .u8 (0), .int .u8 (0), .int .u8 (0), .int .u8 (0), .int .u8 (0), .int .u8 (0), .int .u8 (0), .int .u8 (0), .int .u8 (0), .int .u8 (0), .int .u8 (0), .int .u8 (0), .int .u8 (0), .int .u8 (0), .int .u8 (0), .int .u8 (0), .int .u8 (0), .int .u8 (0), .int .u8 (0), .int .u8 (0), .int .u8 (0), .int .u8 (0), .int .u8 (0), .int .u8 (0), .int .u8 (0), .int .u8 (0), .int .u8 (0)])⟩ := by kernel_rfl
theorem tn141 : tint Tryd.prog 141 = false := by kernel_rfl
theorem ty141 : tbyte Tryd.prog 141 = false := by kernel_rfl
theorem tk141 : tkind Tryd.prog 141 = .other := by kernel_rfl
theorem te141 : telem Tryd.prog 141 = none := by kernel_rfl
theorem ts141 : tsize Tryd.prog 141 = 1 := by kernel_rfl
theorem tb141 : tbytes Tryd.prog 141 = 8 := by kernel_rfl
theorem tz141 : tzero Tryd.prog 141 = (some [.bad]) := by kernel_rfl
theorem ti141 : ti Tryd.prog 141 = ⟨1, 8, (some false), none, .other, (some [.bad])⟩ := by kernel_rfl
theorem tn142 : tint Tryd.prog 142 = false := by kernel_rfl
theorem ty142 : tbyte Tryd.prog 142 = false := by kernel_rfl
theorem tk142 : tkind Tryd.prog 142 = .other := by kernel_rfl
theorem te142 : telem Tryd.prog 142 = none := by kernel_rfl
theorem ts142 : tsize Tryd.prog 142 = 1 := by kernel_rfl
theorem tb142 : tbytes Tryd.prog 142 = 0 := by kernel_rfl
theorem tz142 : tzero Tryd.prog 142 = none := by kernel_rfl
theorem ti142 : ti Tryd.prog 142 = ⟨1, 0, (some false), none, .other, none⟩ := by kernel_rfl
theorem tn143 : tint Tryd.prog 143 = false := by kernel_rfl
theorem ty143 : tbyte Tryd.prog 143 = false := by kernel_rfl
theorem tk143 : tkind Tryd.prog 143 = .other := by kernel_rfl
theorem te143 : telem Tryd.prog 143 = none := by kernel_rfl
theorem ts143 : tsize Tryd.prog 143 = 1 := by kernel_rfl
theorem tb143 : tbytes Tryd.prog 143 = 8 := by kernel_rfl
theorem tz143 : tzero Tryd.prog 143 = (some [.bad]) := by kernel_rfl
theorem ti143 : ti Tryd.prog 143 = ⟨1, 8, (some false), none, .other, (some [.bad])⟩ := by kernel_rfl
theorem tn144 : tint Tryd.prog 144 = false := by kernel_rfl
theorem ty144 : tbyte Tryd.prog 144 = false := by kernel_rfl
theorem tk144 : tkind Tryd.prog 144 = .other := by kernel_rfl
theorem te144 : telem Tryd.prog 144 = none := by kernel_rfl
theorem ts144 : tsize Tryd.prog 144 = 1 := by kernel_rfl
theorem tb144 : tbytes Tryd.prog 144 = 8 := by kernel_rfl
theorem tz144 : tzero Tryd.prog 144 = (some [.bad]) := by kernel_rfl
theorem ti144 : ti Tryd.prog 144 = ⟨1, 8, (some false), none, .other, (some [.bad])⟩ := by kernel_rfl
theorem pl145 : tplaces Tryd.prog 145 = (some [(0, 1), (1, 1), (2, 1), (3, 1)]) := by kernel_rfl
theorem tf145_0 : tfield Tryd.prog 145 0 = (some (0, 17)) := by kernel_rfl
theorem tf145_1 : tfield Tryd.prog 145 1 = (some (1, 17)) := by kernel_rfl
theorem tf145_2 : tfield Tryd.prog 145 2 = (some (2, 17)) := by kernel_rfl
theorem tf145_3 : tfield Tryd.prog 145 3 = (some (3, 9)) := by kernel_rfl
theorem tn145 : tint Tryd.prog 145 = false := by kernel_rfl
theorem ty145 : tbyte Tryd.prog 145 = false := by kernel_rfl
theorem tk145 : tkind Tryd.prog 145 = .other := by kernel_rfl
theorem te145 : telem Tryd.prog 145 = none := by kernel_rfl
theorem ts145 : tsize Tryd.prog 145 = 4 := by kernel_rfl
theorem tb145 : tbytes Tryd.prog 145 = 40 := by kernel_rfl
theorem tz145 : tzero Tryd.prog 145 = (some [.bad, .bad, .bad, .str []]) := by kernel_rfl
theorem ti145 : ti Tryd.prog 145 = ⟨4, 40, (some true), none, .other, (some [.bad, .bad, .bad, .str []])⟩ := by kernel_rfl
theorem pl146 : tplaces Tryd.prog 146 = (some [(0, 1), (1, 1), (2, 1), (3, 1)]) := by kernel_rfl
theorem tf146_0 : tfield Tryd.prog 146 0 = (some (0, 17)) := by kernel_rfl
theorem tf146_1 : tfield Tryd.prog 146 1 = (some (1, 17)) := by kernel_rfl
theorem tf146_2 : tfield Tryd.prog 146 2 = (some (2, 17)) := by kernel_rfl
theorem tf146_3 : tfield Tryd.prog 146 3 = (some (3, 9)) := by kernel_rfl
theorem tn146 : tint Tryd.prog 146 = false := by kernel_rfl
theorem ty146 : tbyte Tryd.prog 146 = false := by kernel_rfl
theorem tk146 : tkind Tryd.prog 146 = .other := by kernel_rfl
theorem te146 : telem Tryd.prog 146 = none := by kernel_rfl
theorem ts146 : tsize Tryd.prog 146 = 4 := by kernel_rfl
theorem tb146 : tbytes Tryd.prog 146 = 40 := by kernel_rfl
theorem tz146 : tzero Tryd.prog 146 = (some [.bad, .bad, .bad, .str []]) := by kernel_rfl
theorem ti146 : ti Tryd.prog 146 = ⟨4, 40, (some true), none, .other, (some [.bad, .bad, .bad, .str []])⟩ := by kernel_rfl
theorem tn147 : tint Tryd.prog 147 = false := by kernel_rfl
theorem ty147 : tbyte Tryd.prog 147 = false := by kernel_rfl
theorem tk147 : tkind Tryd.prog 147 = .other := by kernel_rfl
theorem te147 : telem Tryd.prog 147 = none := by kernel_rfl
theorem ts147 : tsize Tryd.prog 147 = 0 := by kernel_rfl
theorem tb147 : tbytes Tryd.prog 147 = 0 := by kernel_rfl
theorem tz147 : tzero Tryd.prog 147 = (some []) := by kernel_rfl
theorem ti147 : ti Tryd.prog 147 = ⟨0, 0, (some true), none, .other, (some [])⟩ := by kernel_rfl
theorem pl148 : tplaces Tryd.prog 148 = (some [(0, 0)]) := by kernel_rfl
theorem tf148_0 : tfield Tryd.prog 148 0 = none := by kernel_rfl
theorem tn148 : tint Tryd.prog 148 = false := by kernel_rfl
theorem ty148 : tbyte Tryd.prog 148 = false := by kernel_rfl
theorem tk148 : tkind Tryd.prog 148 = .other := by kernel_rfl
theorem te148 : telem Tryd.prog 148 = none := by kernel_rfl
theorem ts148 : tsize Tryd.prog 148 = 0 := by kernel_rfl
theorem tb148 : tbytes Tryd.prog 148 = 0 := by kernel_rfl
theorem tz148 : tzero Tryd.prog 148 = (some []) := by kernel_rfl
theorem ti148 : ti Tryd.prog 148 = ⟨0, 0, (some true), none, .other, (some [])⟩ := by kernel_rfl
theorem pl149 : tplaces Tryd.prog 149 = (some [(0, 0)]) := by kernel_rfl
theorem tf149_0 : tfield Tryd.prog 149 0 = none := by kernel_rfl
theorem tn149 : tint Tryd.prog 149 = false := by kernel_rfl
theorem ty149 : tbyte Tryd.prog 149 = false := by kernel_rfl
theorem tk149 : tkind Tryd.prog 149 = .other := by kernel_rfl
theorem te149 : telem Tryd.prog 149 = none := by kernel_rfl
theorem ts149 : tsize Tryd.prog 149 = 0 := by kernel_rfl
theorem tb149 : tbytes Tryd.prog 149 = 0 := by kernel_rfl
theorem tz149 : tzero Tryd.prog 149 = (some []) := by kernel_rfl
theorem ti149 : ti Tryd.prog 149 = ⟨0, 0, (some true), none, .other, (some [])⟩ := by kernel_rfl
theorem tn150 : tint Tryd.prog 150 = false := by kernel_rfl
theorem ty150 : tbyte Tryd.prog 150 = false := by kernel_rfl
theorem tk150 : tkind Tryd.prog 150 = .other := by kernel_rfl
theorem te150 : telem Tryd.prog 150 = none := by kernel_rfl
theorem ts150 : tsize Tryd.prog 150 = 1 := by kernel_rfl
theorem tb150 : tbytes Tryd.prog 150 = 8 := by kernel_rfl
theorem tz150 : tzero Tryd.prog 150 = (some [.bad]) := by kernel_rfl
theorem ti150 : ti Tryd.prog 150 = ⟨1, 8, (some false), none, .other, (some [.bad])⟩ := by kernel_rfl
theorem tn151 : tint Tryd.prog 151 = true := by kernel_rfl
theorem ty151 : tbyte Tryd.prog 151 = false := by kernel_rfl
theorem tk151 : tkind Tryd.prog 151 = (.int .u8) := by kernel_rfl
theorem te151 : telem Tryd.prog 151 = none := by kernel_rfl
theorem ts151 : tsize Tryd.prog 151 = 1 := by kernel_rfl
theorem tb151 : tbytes Tryd.prog 151 = 1 := by kernel_rfl
theorem tz151 : tzero Tryd.prog 151 = (some [.int .u8 (0)]) := by kernel_rfl
theorem ti151 : ti Tryd.prog 151 = ⟨1, 1, (some false), none, (.int .u8), (some [.int .u8 (0)])⟩ := by kernel_rfl
theorem tn152 : tint Tryd.prog 152 = true := by kernel_rfl
theorem ty152 : tbyte Tryd.prog 152 = false := by kernel_rfl
theorem tk152 : tkind Tryd.prog 152 = (.int .u8) := by kernel_rfl
theorem te152 : telem Tryd.prog 152 = none := by kernel_rfl
theorem ts152 : tsize Tryd.prog 152 = 1 := by kernel_rfl
theorem tb152 : tbytes Tryd.prog 152 = 1 := by kernel_rfl
theorem tz152 : tzero Tryd.prog 152 = (some [.int .u8 (0)]) := by kernel_rfl
theorem ti152 : ti Tryd.prog 152 = ⟨1, 1, (some false), none, (.int .u8), (some [.int .u8 (0)])⟩ := by kernel_rfl
theorem tn153 : tint Tryd.prog 153 = false := by kernel_rfl
theorem ty153 : tbyte Tryd.prog 153 = false := by kernel_rfl
theorem tk153 : tkind Tryd.prog 153 = .other := by kernel_rfl
theorem te153 : telem Tryd.prog 153 = none := by kernel_rfl
theorem ts153 : tsize Tryd.prog 153 = 1 := by kernel_rfl
theorem tb153 : tbytes Tryd.prog 153 = 8 := by kernel_rfl
theorem tz153 : tzero Tryd.prog 153 = (some [.bad]) := by kernel_rfl
theorem ti153 : ti Tryd.prog 153 = ⟨1, 8, (some false), none, .other, (some [.bad])⟩ := by kernel_rfl
theorem tn154 : tint Tryd.prog 154 = false := by kernel_rfl
theorem ty154 : tbyte Tryd.prog 154 = false := by kernel_rfl
theorem tk154 : tkind Tryd.prog 154 = .other := by kernel_rfl
theorem te154 : telem Tryd.prog 154 = none := by kernel_rfl
theorem ts154 : tsize Tryd.prog 154 = 1 := by kernel_rfl
theorem tb154 : tbytes Tryd.prog 154 = 8 := by kernel_rfl
theorem tz154 : tzero Tryd.prog 154 = (some [.bad]) := by kernel_rfl
theorem ti154 : ti Tryd.prog 154 = ⟨1, 8, (some false), none, .other, (some [.bad])⟩ := by kernel_rfl
theorem tn155 : tint Tryd.prog 155 = true := by kernel_rfl
theorem ty155 : tbyte Tryd.prog 155 = false := by kernel_rfl
theorem tk155 : tkind Tryd.prog 155 = (.int .i32) := by kernel_rfl
theorem te155 : telem Tryd.prog 155 = none := by kernel_rfl
theorem ts155 : tsize Tryd.prog 155 = 1 := by kernel_rfl
theorem tb155 : tbytes Tryd.prog 155 = 4 := by kernel_rfl
theorem tz155 : tzero Tryd.prog 155 = (some [.int .i32 (0)]) := by kernel_rfl
theorem ti155 : ti Tryd.prog 155 = ⟨1, 4, (some false), none, (.int .i32), (some [.int .i32 (0)])⟩ := by kernel_rfl
theorem tn156 : tint Tryd.prog 156 = true := by kernel_rfl
theorem ty156 : tbyte Tryd.prog 156 = false := by kernel_rfl
theorem tk156 : tkind Tryd.prog 156 = (.int .i32) := by kernel_rfl
theorem te156 : telem Tryd.prog 156 = none := by kernel_rfl
theorem ts156 : tsize Tryd.prog 156 = 1 := by kernel_rfl
theorem tb156 : tbytes Tryd.prog 156 = 4 := by kernel_rfl
theorem tz156 : tzero Tryd.prog 156 = (some [.int .i32 (0)]) := by kernel_rfl
theorem ti156 : ti Tryd.prog 156 = ⟨1, 4, (some false), none, (.int .i32), (some [.int .i32 (0)])⟩ := by kernel_rfl
theorem pl157 : tplaces Tryd.prog 157 = (some [(0, 1), (1, 1), (2, 1), (3, 1), (4, 1), (5, 1), (6, 1), (7, 1), (8, 1), (9, 1), (10, 1)]) := by kernel_rfl
theorem tf157_0 : tfield Tryd.prog 157 0 = (some (0, 12)) := by kernel_rfl
theorem tf157_1 : tfield Tryd.prog 157 1 = (some (1, 12)) := by kernel_rfl
theorem tf157_2 : tfield Tryd.prog 157 2 = (some (2, 115)) := by kernel_rfl
theorem tf157_3 : tfield Tryd.prog 157 3 = (some (3, 151)) := by kernel_rfl
theorem tf157_4 : tfield Tryd.prog 157 4 = (some (4, 5)) := by kernel_rfl
theorem tf157_5 : tfield Tryd.prog 157 5 = (some (5, 5)) := by kernel_rfl
theorem tf157_6 : tfield Tryd.prog 157 6 = (some (6, 152)) := by kernel_rfl
theorem tf157_7 : tfield Tryd.prog 157 7 = (some (7, 153)) := by kernel_rfl
theorem tf157_8 : tfield Tryd.prog 157 8 = (some (8, 154)) := by kernel_rfl
theorem tf157_9 : tfield Tryd.prog 157 9 = (some (9, 155)) := by kernel_rfl
theorem tf157_10 : tfield Tryd.prog 157 10 = (some (10, 156)) := by kernel_rfl
theorem tn157 : tint Tryd.prog 157 = false := by kernel_rfl
theorem ty157 : tbyte Tryd.prog 157 = false := by kernel_rfl
theorem tk157 : tkind Tryd.prog 157 = .other := by kernel_rfl
theorem te157 : telem Tryd.prog 157 = none := by kernel_rfl
theorem ts157 : tsize Tryd.prog 157 = 11 := by kernel_rfl
theorem tb157 : tbytes Tryd.prog 157 = 48 := by kernel_rfl
theorem tz157 : tzero Tryd.prog 157 = (some [.int .u64 (0), .int .u64 (0), .int .u32 (0), .int .u8 (0), .int .u8 (0), .int .u8 (0), .int .u8 (0), .bad, .bad, .int .i32 (0), .int .i32 (0)]) := by kernel_rfl
theorem ti157 : ti Tryd.prog 157 = ⟨11, 48, (some true), none, .other, (some [.int .u64 (0), .int .u64 (0), .int .u32 (0), .int .u8 (0), .int .u8 (0), .int .u8 (0), .int .u8 (0), .bad, .bad, .int .i32 (0), .int .i32 (0)])⟩ := by kernel_rfl
theorem pl158 : tplaces Tryd.prog 158 = (some [(0, 1), (1, 1), (2, 1), (3, 1), (4, 1), (5, 1), (6, 1), (7, 1), (8, 1), (9, 1), (10, 1)]) := by kernel_rfl
theorem tf158_0 : tfield Tryd.prog 158 0 = (some (0, 12)) := by kernel_rfl
theorem tf158_1 : tfield Tryd.prog 158 1 = (some (1, 12)) := by kernel_rfl
theorem tf158_2 : tfield Tryd.prog 158 2 = (some (2, 115)) := by kernel_rfl
theorem tf158_3 : tfield Tryd.prog 158 3 = (some (3, 151)) := by kernel_rfl
theorem tf158_4 : tfield Tryd.prog 158 4 = (some (4, 5)) := by kernel_rfl
theorem tf158_5 : tfield Tryd.prog 158 5 = (some (5, 5)) := by kernel_rfl
theorem tf158_6 : tfield Tryd.prog 158 6 = (some (6, 152)) := by kernel_rfl
theorem tf158_7 : tfield Tryd.prog 158 7 = (some (7, 153)) := by kernel_rfl
theorem tf158_8 : tfield Tryd.prog 158 8 = (some (8, 154)) := by kernel_rfl
theorem tf158_9 : tfield Tryd.prog 158 9 = (some (9, 155)) := by kernel_rfl
theorem tf158_10 : tfield Tryd.prog 158 10 = (some (10, 156)) := by kernel_rfl
theorem tn158 : tint Tryd.prog 158 = false := by kernel_rfl
theorem ty158 : tbyte Tryd.prog 158 = false := by kernel_rfl
theorem tk158 : tkind Tryd.prog 158 = .other := by kernel_rfl
theorem te158 : telem Tryd.prog 158 = none := by kernel_rfl
theorem ts158 : tsize Tryd.prog 158 = 11 := by kernel_rfl
theorem tb158 : tbytes Tryd.prog 158 = 48 := by kernel_rfl
theorem tz158 : tzero Tryd.prog 158 = (some [.int .u64 (0), .int .u64 (0), .int .u32 (0), .int .u8 (0), .int .u8 (0), .int .u8 (0), .int .u8 (0), .bad, .bad, .int .i32 (0), .int .i32 (0)]) := by kernel_rfl
theorem ti158 : ti Tryd.prog 158 = ⟨11, 48, (some true), none, .other, (some [.int .u64 (0), .int .u64 (0), .int .u32 (0), .int .u8 (0), .int .u8 (0), .int .u8 (0), .int .u8 (0), .bad, .bad, .int .i32 (0), .int .i32 (0)])⟩ := by kernel_rfl
theorem tn159 : tint Tryd.prog 159 = false := by kernel_rfl
theorem ty159 : tbyte Tryd.prog 159 = false := by kernel_rfl
theorem tk159 : tkind Tryd.prog 159 = .other := by kernel_rfl
theorem te159 : telem Tryd.prog 159 = none := by kernel_rfl
theorem ts159 : tsize Tryd.prog 159 = 1 := by kernel_rfl
theorem tb159 : tbytes Tryd.prog 159 = 8 := by kernel_rfl
theorem tz159 : tzero Tryd.prog 159 = (some [.bad]) := by kernel_rfl
theorem ti159 : ti Tryd.prog 159 = ⟨1, 8, (some false), none, .other, (some [.bad])⟩ := by kernel_rfl
theorem fb2 : fbody Tryd.prog 2 = true := by kernel_rfl
theorem rs2 : Tryd.f2.results.toList = [] := rfl
theorem fb3 : fbody Tryd.prog 3 = true := by kernel_rfl
theorem rs3 : Tryd.f3.results.toList = [.tmp 4] := rfl
theorem fb4 : fbody Tryd.prog 4 = true := by kernel_rfl
theorem rs4 : Tryd.f4.results.toList = [.tmp 4] := rfl
theorem fb5 : fbody Tryd.prog 5 = true := by kernel_rfl
theorem rs5 : Tryd.f5.results.toList = [.tmp 6] := rfl
theorem fb6 : fbody Tryd.prog 6 = true := by kernel_rfl
theorem rs6 : Tryd.f6.results.toList = [.tmp 6] := rfl
theorem fb7 : fbody Tryd.prog 7 = true := by kernel_rfl
theorem rs7 : Tryd.f7.results.toList = [.tmp 8] := rfl
theorem fb8 : fbody Tryd.prog 8 = true := by kernel_rfl
theorem rs8 : Tryd.f8.results.toList = [.tmp 8] := rfl
theorem fb9 : fbody Tryd.prog 9 = true := by kernel_rfl
theorem rs9 : Tryd.f9.results.toList = [.tmp 2] := rfl
theorem fb10 : fbody Tryd.prog 10 = true := by kernel_rfl
theorem rs10 : Tryd.f10.results.toList = [.tmp 4] := rfl
theorem fb11 : fbody Tryd.prog 11 = true := by kernel_rfl
theorem rs11 : Tryd.f11.results.toList = [.tmp 6] := rfl
theorem fb12 : fbody Tryd.prog 12 = true := by kernel_rfl
theorem rs12 : Tryd.f12.results.toList = [.tmp 6] := rfl
theorem fb13 : fbody Tryd.prog 13 = true := by kernel_rfl
theorem rs13 : Tryd.f13.results.toList = [.tmp 6] := rfl
theorem fb14 : fbody Tryd.prog 14 = true := by kernel_rfl
theorem rs14 : Tryd.f14.results.toList = [.tmp 4] := rfl
theorem fb15 : fbody Tryd.prog 15 = true := by kernel_rfl
theorem rs15 : Tryd.f15.results.toList = [.tmp 4, .tmp 5] := rfl
theorem fb16 : fbody Tryd.prog 16 = true := by kernel_rfl
theorem rs16 : Tryd.f16.results.toList = [.tmp 4] := rfl
theorem fb17 : fbody Tryd.prog 17 = true := by kernel_rfl
theorem rs17 : Tryd.f17.results.toList = [.tmp 4] := rfl
theorem fb18 : fbody Tryd.prog 18 = true := by kernel_rfl
theorem rs18 : Tryd.f18.results.toList = [.tmp 0] := rfl
theorem fb19 : fbody Tryd.prog 19 = true := by kernel_rfl
theorem rs19 : Tryd.f19.results.toList = [.tmp 4] := rfl
theorem fb20 : fbody Tryd.prog 20 = true := by kernel_rfl
theorem rs20 : Tryd.f20.results.toList = [.tmp 4, .tmp 5] := rfl
theorem fb21 : fbody Tryd.prog 21 = true := by kernel_rfl
theorem rs21 : Tryd.f21.results.toList = [.tmp 4] := rfl
theorem fb22 : fbody Tryd.prog 22 = true := by kernel_rfl
theorem rs22 : Tryd.f22.results.toList = [.tmp 6, .tmp 7] := rfl
theorem fb23 : fbody Tryd.prog 23 = true := by kernel_rfl
theorem rs23 : Tryd.f23.results.toList = [.tmp 2] := rfl
theorem fb24 : fbody Tryd.prog 24 = true := by kernel_rfl
theorem rs24 : Tryd.f24.results.toList = [.tmp 2] := rfl
theorem fb25 : fbody Tryd.prog 25 = true := by kernel_rfl
theorem rs25 : Tryd.f25.results.toList = [.tmp 6, .tmp 7] := rfl
theorem fb26 : fbody Tryd.prog 26 = true := by kernel_rfl
theorem rs26 : Tryd.f26.results.toList = [.tmp 0] := rfl
theorem fb27 : fbody Tryd.prog 27 = true := by kernel_rfl
theorem rs27 : Tryd.f27.results.toList = [.tmp 8] := rfl
theorem fb28 : fbody Tryd.prog 28 = true := by kernel_rfl
theorem rs28 : Tryd.f28.results.toList = [.tmp 6, .tmp 7, .tmp 8] := rfl
theorem fb29 : fbody Tryd.prog 29 = true := by kernel_rfl
theorem rs29 : Tryd.f29.results.toList = [.tmp 6, .tmp 7, .tmp 8] := rfl
theorem fb30 : fbody Tryd.prog 30 = true := by kernel_rfl
theorem rs30 : Tryd.f30.results.toList = [.tmp 4] := rfl
theorem fb31 : fbody Tryd.prog 31 = true := by kernel_rfl
theorem rs31 : Tryd.f31.results.toList = [.tmp 4] := rfl
theorem fb32 : fbody Tryd.prog 32 = true := by kernel_rfl
theorem rs32 : Tryd.f32.results.toList = [.tmp 4] := rfl
theorem fb33 : fbody Tryd.prog 33 = true := by kernel_rfl
theorem rs33 : Tryd.f33.results.toList = [.tmp 2] := rfl
theorem fb34 : fbody Tryd.prog 34 = true := by kernel_rfl
theorem rs34 : Tryd.f34.results.toList = [.cell 4 48, .tmp 5] := rfl
theorem fb35 : fbody Tryd.prog 35 = true := by kernel_rfl
theorem rs35 : Tryd.f35.results.toList = [.tmp 2] := rfl
theorem fb36 : fbody Tryd.prog 36 = true := by kernel_rfl
theorem rs36 : Tryd.f36.results.toList = [.tmp 4] := rfl
theorem fb37 : fbody Tryd.prog 37 = true := by kernel_rfl
theorem rs37 : Tryd.f37.results.toList = [.tmp 6, .tmp 7] := rfl
theorem fb38 : fbody Tryd.prog 38 = true := by kernel_rfl
theorem rs38 : Tryd.f38.results.toList = [.tmp 4, .tmp 5] := rfl
theorem fb39 : fbody Tryd.prog 39 = true := by kernel_rfl
theorem rs39 : Tryd.f39.results.toList = [.tmp 2, .tmp 3] := rfl
theorem fb40 : fbody Tryd.prog 40 = true := by kernel_rfl
theorem rs40 : Tryd.f40.results.toList = [.tmp 4] := rfl
theorem fb41 : fbody Tryd.prog 41 = true := by kernel_rfl
theorem rs41 : Tryd.f41.results.toList = [.tmp 4] := rfl
theorem fb42 : fbody Tryd.prog 42 = true := by kernel_rfl
theorem rs42 : Tryd.f42.results.toList = [.tmp 4] := rfl
theorem fb43 : fbody Tryd.prog 43 = true := by kernel_rfl
theorem rs43 : Tryd.f43.results.toList = [.tmp 4] := rfl
theorem fb44 : fbody Tryd.prog 44 = true := by kernel_rfl
theorem rs44 : Tryd.f44.results.toList = [.tmp 4] := rfl
theorem fb45 : fbody Tryd.prog 45 = true := by kernel_rfl
theorem rs45 : Tryd.f45.results.toList = [.tmp 6] := rfl
theorem fb46 : fbody Tryd.prog 46 = true := by kernel_rfl
theorem rs46 : Tryd.f46.results.toList = [.tmp 4] := rfl
theorem fb47 : fbody Tryd.prog 47 = true := by kernel_rfl
theorem rs47 : Tryd.f47.results.toList = [.tmp 2] := rfl
theorem fb48 : fbody Tryd.prog 48 = true := by kernel_rfl
theorem rs48 : Tryd.f48.results.toList = [.tmp 2] := rfl
theorem fb49 : fbody Tryd.prog 49 = true := by kernel_rfl
theorem rs49 : Tryd.f49.results.toList = [.tmp 6, .tmp 7] := rfl
theorem fb50 : fbody Tryd.prog 50 = true := by kernel_rfl
theorem rs50 : Tryd.f50.results.toList = [.tmp 2] := rfl
theorem fb51 : fbody Tryd.prog 51 = true := by kernel_rfl
theorem rs51 : Tryd.f51.results.toList = [.tmp 2] := rfl
theorem fb52 : fbody Tryd.prog 52 = true := by kernel_rfl
theorem rs52 : Tryd.f52.results.toList = [.tmp 4] := rfl
theorem fb53 : fbody Tryd.prog 53 = true := by kernel_rfl
theorem rs53 : Tryd.f53.results.toList = [.tmp 2] := rfl
theorem fb54 : fbody Tryd.prog 54 = true := by kernel_rfl
theorem rs54 : Tryd.f54.results.toList = [.tmp 2] := rfl
theorem fb55 : fbody Tryd.prog 55 = true := by kernel_rfl
theorem rs55 : Tryd.f55.results.toList = [.tmp 2] := rfl
theorem fb56 : fbody Tryd.prog 56 = true := by kernel_rfl
theorem rs56 : Tryd.f56.results.toList = [.tmp 2] := rfl
theorem fb57 : fbody Tryd.prog 57 = true := by kernel_rfl
theorem rs57 : Tryd.f57.results.toList = [.tmp 2] := rfl
theorem fb58 : fbody Tryd.prog 58 = true := by kernel_rfl
theorem rs58 : Tryd.f58.results.toList = [.tmp 4, .tmp 5] := rfl
theorem fb59 : fbody Tryd.prog 59 = true := by kernel_rfl
theorem rs59 : Tryd.f59.results.toList = [.tmp 2] := rfl
theorem fb60 : fbody Tryd.prog 60 = true := by kernel_rfl
theorem rs60 : Tryd.f60.results.toList = [.tmp 2, .tmp 3] := rfl
theorem fb61 : fbody Tryd.prog 61 = true := by kernel_rfl
theorem rs61 : Tryd.f61.results.toList = [] := rfl
theorem fb62 : fbody Tryd.prog 62 = true := by kernel_rfl
theorem rs62 : Tryd.f62.results.toList = [.tmp 4] := rfl
theorem fb63 : fbody Tryd.prog 63 = true := by kernel_rfl
theorem rs63 : Tryd.f63.results.toList = [.tmp 2] := rfl
theorem fb64 : fbody Tryd.prog 64 = true := by kernel_rfl
theorem rs64 : Tryd.f64.results.toList = [.tmp 4] := rfl
theorem fb65 : fbody Tryd.prog 65 = true := by kernel_rfl
theorem rs65 : Tryd.f65.results.toList = [.tmp 3] := rfl
theorem fb66 : fbody Tryd.prog 66 = true := by kernel_rfl
theorem rs66 : Tryd.f66.results.toList = [.tmp 4] := rfl
theorem fb67 : fbody Tryd.prog 67 = true := by kernel_rfl
theorem rs67 : Tryd.f67.results.toList = [.tmp 2] := rfl
theorem fb68 : fbody Tryd.prog 68 = true := by kernel_rfl
theorem rs68 : Tryd.f68.results.toList = [.tmp 2] := rfl
theorem fb69 : fbody Tryd.prog 69 = true := by kernel_rfl
theorem rs69 : Tryd.f69.results.toList = [.tmp 4] := rfl
theorem fb70 : fbody Tryd.prog 70 = true := by kernel_rfl
theorem rs70 : Tryd.f70.results.toList = [.tmp 6, .tmp 7] := rfl
theorem fb71 : fbody Tryd.prog 71 = true := by kernel_rfl
theorem rs71 : Tryd.f71.results.toList = [.cell 2 24] := rfl
theorem fb72 : fbody Tryd.prog 72 = true := by kernel_rfl
theorem rs72 : Tryd.f72.results.toList = [.tmp 6, .tmp 7] := rfl
theorem fb73 : fbody Tryd.prog 73 = true := by kernel_rfl
theorem rs73 : Tryd.f73.results.toList = [.tmp 4] := rfl
theorem fb74 : fbody Tryd.prog 74 = true := by kernel_rfl
theorem rs74 : Tryd.f74.results.toList = [.tmp 4] := rfl
theorem fb75 : fbody Tryd.prog 75 = true := by kernel_rfl
theorem rs75 : Tryd.f75.results.toList = [.tmp 4] := rfl
theorem fb76 : fbody Tryd.prog 76 = true := by kernel_rfl
theorem rs76 : Tryd.f76.results.toList = [] := rfl
theorem fb77 : fbody Tryd.prog 77 = true := by kernel_rfl
theorem rs77 : Tryd.f77.results.toList = [.tmp 2] := rfl
theorem fb78 : fbody Tryd.prog 78 = true := by kernel_rfl
theorem rs78 : Tryd.f78.results.toList = [.tmp 4] := rfl
theorem fb79 : fbody Tryd.prog 79 = true := by kernel_rfl
theorem rs79 : Tryd.f79.results.toList = [.tmp 4] := rfl
theorem fb80 : fbody Tryd.prog 80 = true := by kernel_rfl
theorem rs80 : Tryd.f80.results.toList = [.tmp 4] := rfl
theorem fb81 : fbody Tryd.prog 81 = true := by kernel_rfl
theorem rs81 : Tryd.f81.results.toList = [.tmp 2] := rfl
theorem fb82 : fbody Tryd.prog 82 = true := by kernel_rfl
theorem rs82 : Tryd.f82.results.toList = [.cell 4 48, .tmp 5] := rfl
theorem fb83 : fbody Tryd.prog 83 = true := by kernel_rfl
theorem rs83 : Tryd.f83.results.toList = [.tmp 3] := rfl
theorem fb84 : fbody Tryd.prog 84 = true := by kernel_rfl
theorem rs84 : Tryd.f84.results.toList = [.tmp 4] := rfl
theorem fb85 : fbody Tryd.prog 85 = true := by kernel_rfl
theorem rs85 : Tryd.f85.results.toList = [.tmp 4] := rfl
theorem fb86 : fbody Tryd.prog 86 = true := by kernel_rfl
theorem rs86 : Tryd.f86.results.toList = [.tmp 4] := rfl
theorem fb87 : fbody Tryd.prog 87 = true := by kernel_rfl
theorem rs87 : Tryd.f87.results.toList = [.tmp 6, .tmp 7] := rfl
theorem fb88 : fbody Tryd.prog 88 = true := by kernel_rfl
theorem rs88 : Tryd.f88.results.toList = [.tmp 4] := rfl
theorem fb89 : fbody Tryd.prog 89 = true := by kernel_rfl
theorem rs89 : Tryd.f89.results.toList = [.tmp 2] := rfl
theorem fb90 : fbody Tryd.prog 90 = true := by kernel_rfl
theorem rs90 : Tryd.f90.results.toList = [.tmp 2] := rfl
theorem fb91 : fbody Tryd.prog 91 = true := by kernel_rfl
theorem rs91 : Tryd.f91.results.toList = [.tmp 2] := rfl
theorem fb92 : fbody Tryd.prog 92 = true := by kernel_rfl
theorem rs92 : Tryd.f92.results.toList = [.tmp 4] := rfl
theorem fb93 : fbody Tryd.prog 93 = true := by kernel_rfl
theorem rs93 : Tryd.f93.results.toList = [] := rfl
theorem fb94 : fbody Tryd.prog 94 = true := by kernel_rfl
theorem rs94 : Tryd.f94.results.toList = [] := rfl
theorem fb95 : fbody Tryd.prog 95 = true := by kernel_rfl
theorem rs95 : Tryd.f95.results.toList = [] := rfl
theorem fb96 : fbody Tryd.prog 96 = true := by kernel_rfl
theorem rs96 : Tryd.f96.results.toList = [.tmp 6, .tmp 7] := rfl
theorem fb97 : fbody Tryd.prog 97 = true := by kernel_rfl
theorem rs97 : Tryd.f97.results.toList = [] := rfl
theorem fb98 : fbody Tryd.prog 98 = true := by kernel_rfl
theorem rs98 : Tryd.f98.results.toList = [.tmp 6] := rfl
theorem fb99 : fbody Tryd.prog 99 = true := by kernel_rfl
theorem rs99 : Tryd.f99.results.toList = [.tmp 4] := rfl
theorem fb100 : fbody Tryd.prog 100 = true := by kernel_rfl
theorem rs100 : Tryd.f100.results.toList = [.tmp 8] := rfl
theorem fb101 : fbody Tryd.prog 101 = true := by kernel_rfl
theorem rs101 : Tryd.f101.results.toList = [.tmp 8, .tmp 9] := rfl
theorem fb102 : fbody Tryd.prog 102 = true := by kernel_rfl
theorem rs102 : Tryd.f102.results.toList = [.tmp 2] := rfl
theorem fb103 : fbody Tryd.prog 103 = true := by kernel_rfl
theorem rs103 : Tryd.f103.results.toList = [.tmp 2] := rfl
theorem fb104 : fbody Tryd.prog 104 = true := by kernel_rfl
theorem rs104 : Tryd.f104.results.toList = [.tmp 4] := rfl
theorem fb105 : fbody Tryd.prog 105 = true := by kernel_rfl
theorem rs105 : Tryd.f105.results.toList = [.tmp 4] := rfl
theorem fb106 : fbody Tryd.prog 106 = true := by kernel_rfl
theorem rs106 : Tryd.f106.results.toList = [.tmp 6] := rfl
theorem fb107 : fbody Tryd.prog 107 = true := by kernel_rfl
theorem rs107 : Tryd.f107.results.toList = [.tmp 4] := rfl
theorem fb108 : fbody Tryd.prog 108 = true := by kernel_rfl
theorem rs108 : Tryd.f108.results.toList = [.tmp 3] := rfl
theorem fb109 : fbody Tryd.prog 109 = true := by kernel_rfl
theorem rs109 : Tryd.f109.results.toList = [.tmp 6] := rfl
theorem fb110 : fbody Tryd.prog 110 = true := by kernel_rfl
theorem rs110 : Tryd.f110.results.toList = [.tmp 2] := rfl
theorem fb111 : fbody Tryd.prog 111 = true := by kernel_rfl
theorem rs111 : Tryd.f111.results.toList = [.tmp 4] := rfl
theorem fb112 : fbody Tryd.prog 112 = true := by kernel_rfl
theorem rs112 : Tryd.f112.results.toList = [.tmp 4] := rfl
theorem fb113 : fbody Tryd.prog 113 = true := by kernel_rfl
theorem rs113 : Tryd.f113.results.toList = [] := rfl
theorem fb114 : fbody Tryd.prog 114 = true := by kernel_rfl
theorem rs114 : Tryd.f114.results.toList = [.tmp 2] := rfl
theorem fb115 : fbody Tryd.prog 115 = true := by kernel_rfl
theorem rs115 : Tryd.f115.results.toList = [.tmp 2] := rfl
theorem fb116 : fbody Tryd.prog 116 = true := by kernel_rfl
theorem rs116 : Tryd.f116.results.toList = [.tmp 6] := rfl
theorem fb117 : fbody Tryd.prog 117 = true := by kernel_rfl
theorem rs117 : Tryd.f117.results.toList = [.tmp 10] := rfl
theorem fb119 : fbody Tryd.prog 119 = true := by kernel_rfl
theorem rs119 : Tryd.f119.results.toList = [] := rfl
theorem fb120 : fbody Tryd.prog 120 = true := by kernel_rfl
theorem rs120 : Tryd.f120.results.toList = [] := rfl
theorem fb121 : fbody Tryd.prog 121 = true := by kernel_rfl
theorem rs121 : Tryd.f121.results.toList = [.tmp 2, .tmp 3] := rfl
theorem fb122 : fbody Tryd.prog 122 = true := by kernel_rfl
theorem rs122 : Tryd.f122.results.toList = [.tmp 4] := rfl
theorem fb123 : fbody Tryd.prog 123 = true := by kernel_rfl
theorem rs123 : Tryd.f123.results.toList = [.tmp 4] := rfl
theorem fb124 : fbody Tryd.prog 124 = true := by kernel_rfl
theorem rs124 : Tryd.f124.results.toList = [.tmp 2] := rfl
theorem fb126 : fbody Tryd.prog 126 = true := by kernel_rfl
theorem rs126 : Tryd.f126.results.toList = [.tmp 8, .tmp 9] := rfl
theorem fb127 : fbody Tryd.prog 127 = true := by kernel_rfl
theorem rs127 : Tryd.f127.results.toList = [] := rfl
theorem fb128 : fbody Tryd.prog 128 = true := by kernel_rfl
theorem rs128 : Tryd.f128.results.toList = [.tmp 2, .tmp 3] := rfl
theorem fb129 : fbody Tryd.prog 129 = true := by kernel_rfl
theorem rs129 : Tryd.f129.results.toList = [.tmp 4] := rfl
theorem fb131 : fbody Tryd.prog 131 = true := by kernel_rfl
theorem rs131 : Tryd.f131.results.toList = [] := rfl
theorem fb133 : fbody Tryd.prog 133 = true := by kernel_rfl
theorem rs133 : Tryd.f133.results.toList = [.tmp 2] := rfl
theorem fb134 : fbody Tryd.prog 134 = true := by kernel_rfl
theorem rs134 : Tryd.f134.results.toList = [.tmp 4] := rfl
theorem fb135 : fbody Tryd.prog 135 = true := by kernel_rfl
theorem rs135 : Tryd.f135.results.toList = [.tmp 2, .tmp 3] := rfl
theorem fb156 : fbody Tryd.prog 156 = true := by kernel_rfl
theorem rs156 : Tryd.f156.results.toList = [] := rfl
theorem mixed : Tryd.prog.follows .mixedOrders = true := by kernel_rfl
attribute [go_sem] tn1 ty1 tk1 te1 ts1 tb1 tz1 ti1 tn2 ty2 tk2 te2 ts2 tb2 tz2 ti2 tn3 ty3 tk3 te3 ts3 tb3 tz3 ti3 tn4 ty4 tk4 te4 ts4 tb4 tz4 ti4 tn5 ty5 tk5 te5 ts5 tb5 tz5 ti5 tn6 ty6 tk6 te6 ts6 tb6 tz6 ti6 pl7 tf7_0 tf7_1 tf7_2 tf7_3 tn7 ty7 tk7 te7 ts7 tb7 tz7 ti7 pl8 tf8_0 tf8_1 tf8_2 tf8_3 tn8 ty8 tk8 te8 ts8 tb8 tz8 ti8 tn9 ty9 tk9 te9 ts9 tb9 tz9 ti9 tn10 ty10 tk10 te10 ts10 tb10 tz10 ti10 tn11 ty11 tk11 te11 ts11 tb11 tz11 ti11 tn12 ty12 tk12 te12 ts12 tb12 tz12 ti12 pl13 tf13_0 tf13_1 tn13 ty13 tk13 te13 ts13 tb13 tz13 ti13 pl14 tf14_0 tf14_1 tn14 ty14 tk14 te14 ts14 tb14 tz14 ti14 tn15 ty15 tk15 te15 ts15 tb15 tz15 ti15 tn16 ty16 tk16 te16 ts16 tb16 tz16 ti16 tn17 ty17 tk17 te17 ts17 tb17 tz17 ti17 pl18 tf18_0 tn18 ty18 tk18 te18 ts18 tb18 tz18 ti18 pl19 tf19_0 tn19 ty19 tk19 te19 ts19 tb19 tz19 ti19 tn20 ty20 tk20 te20 ts20 tb20 tz20 ti20 tn21 ty21 tk21 te21 ts21 tb21 tz21 ti21 tn22 ty22 tk22 te22 ts22 tb22 tz22 ti22 tn23 ty23 tk23 te23 ts23 tb23 tz23 ti23 tn24 ty24 tk24 te24 ts24 tb24 tz24 ti24 tn25 ty25 tk25 te25 ts25 tb25 tz25 ti25 tn26 ty26 tk26 te26 ts26 tb26 tz26 ti26 tn27 ty27 tk27 te27 ts27 tb27 tz27 ti27 tn28 ty28 tk28 te28 ts28 tb28 tz28 ti28 tn29 ty29 tk29 te29 ts29 tb29 tz29 ti29 tn30 ty30 tk30 te30 ts30 tb30 tz30 ti30 tn31 ty31 tk31 te31 ts31 tb31 tz31 ti31 tn32 ty32 tk32 te32 ts32 tb32 tz32 ti32 tn33 ty33 tk33 te33 ts33 tb33 tz33 ti33 pl34 tf34_0 tf34_1 tf34_2 tf34_3 tf34_4 tn34 ty34 tk34 te34 ts34 tb34 tz34 ti34 pl35 tf35_0 tf35_1 tf35_2 tf35_3 tf35_4 tn35 ty35 tk35 te35 ts35 tb35 tz35 ti35 tn36 ty36 tk36 te36 ts36 tb36 tz36 ti36 tn37 ty37 tk37 te37 ts37 tb37 tz37 ti37 tn38 ty38 tk38 te38 ts38 tb38 tz38 ti38 tn39 ty39 tk39 te39 ts39 tb39 tz39 ti39 tn40 ty40 tk40 te40 ts40 tb40 tz40 ti40 tn41 ty41 tk41 te41 ts41 tb41 tz41 ti41 tn42 ty42 tk42 te42 ts42 tb42 tz42 ti42 tn43 ty43 tk43 te43 ts43 tb43 tz43 ti43 tn44 ty44 tk44 te44 ts44 tb44 tz44 ti44 tn45 ty45 tk45 te45 ts45 tb45 tz45 ti45 tn46 ty46 tk46 te46 ts46 tb46 tz46 ti46 pl47 tf47_0 tf47_1 tf47_2 tf47_3 tn47 ty47 tk47 te47 ts47 tb47 tz47 ti47 pl48 tf48_0 tf48_1 tf48_2 tf48_3 tn48 ty48 tk48 te48 ts48 tb48 tz48 ti48 tn49 ty49 tk49 te49 ts49 tb49 tz49 ti49 tn50 ty50 tk50 te50 ts50 tb50 tz50 ti50 tn51 ty51 tk51 te51 ts51 tb51 tz51 ti51 tn52 ty52 tk52 te52 ts52 tb52 tz52 ti52 tn53 ty53 tk53 te53 ts53 tb53 tz53 ti53 tn54 ty54 tk54 te54 ts54 tb54 tz54 ti54 tn55 ty55 tk55 te55 ts55 tb55 tz55 ti55 tn56 ty56 tk56 te56 ts56 tb56 tz56 ti56 tn57 ty57 tk57 te57 ts57 tb57 tz57 ti57 tn58 ty58 tk58 te58 ts58 tb58 tz58 ti58 tn59 ty59 tk59 te59 ts59 tb59 tz59 ti59 tn60 ty60 tk60 te60 ts60 tb60 tz60 ti60 tn61 ty61 tk61 te61 ts61 tb61 tz61 ti61 tn62 ty62 tk62 te62 ts62 tb62 tz62 ti62 tn63 ty63 tk63 te63 ts63 tb63 tz63 ti63 tn64 ty64 tk64 te64 ts64 tb64 tz64 ti64 tn65 ty65 tk65 te65 ts65 tb65 tz65 ti65 tn66 ty66 tk66 te66 ts66 tb66 tz66 ti66 tn67 ty67 tk67 te67 ts67 tb67 tz67 ti67 tn68 ty68 tk68 te68 ts68 tb68 tz68 ti68 tn69 ty69 tk69 te69 ts69 tb69 tz69 ti69 tn70 ty70 tk70 te70 ts70 tb70 tz70 ti70 tn71 ty71 tk71 te71 ts71 tb71 tz71 ti71 tn72 ty72 tk72 te72 ts72 tb72 tz72 ti72 tn73 ty73 tk73 te73 ts73 tb73 tz73 ti73 tn74 ty74 tk74 te74 ts74 tb74 tz74 ti74 tn75 ty75 tk75 te75 ts75 tb75 tz75 ti75 tn76 ty76 tk76 te76 ts76 tb76 tz76 ti76 tn77 ty77 tk77 te77 ts77 tb77 tz77 ti77 tn78 ty78 tk78 te78 ts78 tb78 tz78 ti78 tn79 ty79 tk79 te79 ts79 tb79 tz79 ti79 tn80 ty80 tk80 te80 ts80 tb80 tz80 ti80 tn81 ty81 tk81 te81 ts81 tb81 tz81 ti81 tn82 ty82 tk82 te82 ts82 tb82 tz82 ti82 tn83 ty83 tk83 te83 ts83 tb83 tz83 ti83 tn84 ty84 tk84 te84 ts84 tb84 tz84 ti84 tn85 ty85 tk85 te85 ts85 tb85 tz85 ti85 tn86 ty86 tk86 te86 ts86 tb86 tz86 ti86 tn87 ty87 tk87 te87 ts87 tb87 tz87 ti87 tn88 ty88 tk88 te88 ts88 tb88 tz88 ti88 tn89 ty89 tk89 te89 ts89 tb89 tz89 ti89 tn90 ty90 tk90 te90 ts90 tb90 tz90 ti90 tn91 ty91 tk91 te91 ts91 tb91 tz91 ti91 tn92 ty92 tk92 te92 ts92 tb92 tz92 ti92 tn93 ty93 tk93 te93 ts93 tb93 tz93 ti93 tn94 ty94 tk94 te94 ts94 tb94 tz94 ti94 tn95 ty95 tk95 te95 ts95 tb95 tz95 ti95 tn96 ty96 tk96 te96 ts96 tb96 tz96 ti96 tn97 ty97 tk97 te97 ts97 tb97 tz97 ti97 tn98 ty98 tk98 te98 ts98 tb98 tz98 ti98 tn99 ty99 tk99 te99 ts99 tb99 tz99 ti99 tn100 ty100 tk100 te100 ts100 tb100 tz100 ti100 tn101 ty101 tk101 te101 ts101 tb101 tz101 ti101 tn102 ty102 tk102 te102 ts102 tb102 tz102 ti102 tn103 ty103 tk103 te103 ts103 tb103 tz103 ti103 tn104 ty104 tk104 te104 ts104 tb104 tz104 ti104 tn105 ty105 tk105 te105 ts105 tb105 tz105 ti105 tn106 ty106 tk106 te106 ts106 tb106 tz106 ti106 tn107 ty107 tk107 te107 ts107 tb107 tz107 ti107 tn108 ty108 tk108 te108 ts108 tb108 tz108 ti108 tn109 ty109 tk109 te109 ts109 tb109 tz109 ti109 tn110 ty110 tk110 te110 ts110 tb110 tz110 ti110 tn111 ty111 tk111 te111 ts111 tb111 tz111 ti111 tn112 ty112 tk112 te112 ts112 tb112 tz112 ti112 tn113 ty113 tk113 te113 ts113 tb113 tz113 ti113 tn114 ty114 tk114 te114 ts114 tb114 tz114 ti114 tn115 ty115 tk115 te115 ts115 tb115 tz115 ti115 tn116 ty116 tk116 te116 ts116 tb116 tz116 ti116 tn117 ty117 tk117 te117 ts117 tb117 tz117 ti117 tn118 ty118 tk118 te118 ts118 tb118 tz118 ti118 tn119 ty119 tk119 te119 ts119 tb119 tz119 ti119 tn120 ty120 tk120 te120 ts120 tb120 tz120 ti120 tn121 ty121 tk121 te121 ts121 tb121 tz121 ti121 tn122 ty122 tk122 te122 ts122 tb122 tz122 ti122 tn123 ty123 tk123 te123 ts123 tb123 tz123 ti123 tn124 ty124 tk124 te124 ts124 tb124 tz124 ti124 tn125 ty125 tk125 te125 ts125 tb125 tz125 ti125 tn126 ty126 tk126 te126 ts126 tb126 tz126 ti126 tn127 ty127 tk127 te127 ts127 tb127 tz127 ti127 tn128 ty128 tk128 te128 ts128 tb128 tz128 ti128 tn129 ty129 tk129 te129 ts129 tb129 tz129 ti129 tn130 ty130 tk130 te130 ts130 tb130 tz130 ti130 tn131 ty131 tk131 te131 ts131 tb131 tz131 ti131 tn132 ty132 tk132 te132 ts132 tb132 tz132 ti132 tn133 ty133 tk133 te133 ts133 tb133 tz133 ti133 tn134 ty134 tk134 te134 ts134 tb134 tz134 ti134 tn135 ty135 tk135 te135 ts135 tb135 tz135 ti135 tn136 ty136 tk136 te136 ts136 tb136 tz136 ti136 tn137 ty137 tk137 te137 ts137 tb137 tz137 ti137 pl138 tf138_0 tf138_1 tn138 ty138 tk138 te138 ts138 tb138 tz138 ti138 pl139 tf139_0 tf139_1 tn139 ty139 tk139 te139 ts139 tb139 tz139 ti139 tn140 ty140 tk140 te140 ts140 tb140 tz140 ti140 tn141 ty141 tk141 te141 ts141 tb141 tz141 ti141 tn142 ty142 tk142 te142 ts142 tb142 tz142 ti142 tn143 ty143 tk143 te143 ts143 tb143 tz143 ti143 tn144 ty144 tk144 te144 ts144 tb144 tz144 ti144 pl145 tf145_0 tf145_1 tf145_2 tf145_3 tn145 ty145 tk145 te145 ts145 tb145 tz145 ti145 pl146 tf146_0 tf146_1 tf146_2 tf146_3 tn146 ty146 tk146 te146 ts146 tb146 tz146 ti146 tn147 ty147 tk147 te147 ts147 tb147 tz147 ti147 pl148 tf148_0 tn148 ty148 tk148 te148 ts148 tb148 tz148 ti148 pl149 tf149_0 tn149 ty149 tk149 te149 ts149 tb149 tz149 ti149 tn150 ty150 tk150 te150 ts150 tb150 tz150 ti150 tn151 ty151 tk151 te151 ts151 tb151 tz151 ti151 tn152 ty152 tk152 te152 ts152 tb152 tz152 ti152 tn153 ty153 tk153 te153 ts153 tb153 tz153 ti153 tn154 ty154 tk154 te154 ts154 tb154 tz154 ti154 tn155 ty155 tk155 te155 ts155 tb155 tz155 ti155 tn156 ty156 tk156 te156 ts156 tb156 tz156 ti156 pl157 tf157_0 tf157_1 tf157_2 tf157_3 tf157_4 tf157_5 tf157_6 tf157_7 tf157_8 tf157_9 tf157_10 tn157 ty157 tk157 te157 ts157 tb157 tz157 ti157 pl158 tf158_0 tf158_1 tf158_2 tf158_3 tf158_4 tf158_5 tf158_6 tf158_7 tf158_8 tf158_9 tf158_10 tn158 ty158 tk158 te158 ts158 tb158 tz158 ti158 tn159 ty159 tk159 te159 ts159 tb159 tz159 ti159 rs2 rs3 rs4 rs5 rs6 rs7 rs8 rs9 rs10 rs11 rs12 rs13 rs14 rs15 rs16 rs17 rs18 rs19 rs20 rs21 rs22 rs23 rs24 rs25 rs26 rs27 rs28 rs29 rs30 rs31 rs32 rs33 rs34 rs35 rs36 rs37 rs38 rs39 rs40 rs41 rs42 rs43 rs44 rs45 rs46 rs47 rs48 rs49 rs50 rs51 rs52 rs53 rs54 rs55 rs56 rs57 rs58 rs59 rs60 rs61 rs62 rs63 rs64 rs65 rs66 rs67 rs68 rs69 rs70 rs71 rs72 rs73 rs74 rs75 rs76 rs77 rs78 rs79 rs80 rs81 rs82 rs83 rs84 rs85 rs86 rs87 rs88 rs89 rs90 rs91 rs92 rs93 rs94 rs95 rs96 rs97 rs98 rs99 rs100 rs101 rs102 rs103 rs104 rs105 rs106 rs107 rs108 rs109 rs110 rs111 rs112 rs113 rs114 rs115 rs116 rs117 rs119 rs120 rs121 rs122 rs123 rs124 rs126 rs127 rs128 rs129 rs131 rs133 rs134 rs135 rs156
end Go.VM.Tryd
end
section
set_option linter.unusedVariables false
set_option linter.unusedSimpArgs false
open Go Go.VM Go.Proofs
namespace Go.VM.Tryd
set_option maxHeartbeats 1000000 in
set_option maxRecDepth 100000 in
theorem stringslite_IndexByte (s : ByteArray) (c : Int) (w : World) :
    Calls Tryd.prog 123 #[.string s, .int .u8 c] w fun e w' => e = .returned (.int .i64 (Lib.indexByte s.data.toList c.toNat.toUInt8)) ∧ w' = w := by
  go_enter Tryd.func123, Tryd.ntmps123
  go_wp2
  rw [run_callFunc_extern Tryd.func130 (by kernel_rfl) (by kernel_rfl) (by kernel_rfl) (e := Extern.BytealgIndexByte.indexByte) (by kernel_rfl), Lib.run_indexByteString]
  simp only [Result.andThen]
  rw [Oper.upon_value]
  go_wp2
  go_ret
  exact ⟨rfl, rfl⟩
theorem idx0 (s : List UInt8) (c : Int) : Meets Tryd.prog 123 [.str s, .int .u8 c] (.int .i64 (Lib.indexByte s c.toNat.toUInt8)) [] :=
  meets_pure (us0 := #[.string ⟨s.toArray⟩, .int .u8 c]) fb123 (fun c' us hsz hus => args2 hsz hus (fun u h => by simpa only [VR] using h) (fun u h => by simpa only [VR] using h)) (u0 := .int .i64 (Lib.indexByte s c.toNat.toUInt8)) (fun c => by simp only [VR])
    fun w => by simpa using stringslite_IndexByte ⟨s.toArray⟩ c w
set_option maxRecDepth 100000
theorem IndexByte (s : List UInt8) (c : Int) : Meets Tryd.prog 111 [.str s, .int .u8 c] (.int .i64 (Lib.indexByte s c.toNat.toUInt8)) [] := by
  refine meets_x (fn := Tryd.f111) Tryd.func111 rfl fb111 (by kernel_rfl) (Nat.le_of_ble_eq_true rfl) ?_
  refine cx_sr ?_
  simp only [go_sem]
  repeat first | (with_reducible refine side_d ?_ ?_; exact byD) | (with_reducible refine side_q ?_ ?_; exact byQ)
  refine cx_sr ?_
  simp only [go_sem]
  repeat first | (with_reducible refine side_d ?_ ?_; exact byD) | (with_reducible refine side_q ?_ ?_; exact byQ)
  refine cw_m (idx0 s c) byW byT ?_
  simp only [go_sem]
  repeat first | (with_reducible refine side_d ?_ ?_; exact byD) | (with_reducible refine side_q ?_ ?_; exact byQ)
  refine cx_ret ?_
  simp only [go_sem]
  exact finw_int rfl
theorem Index1 (s : List UInt8) : Meets Tryd.prog 129 [.str s, .str [47]] (.int .i64 (Lib.indexByte s 47)) [] := by
  refine meets_x (fn := Tryd.f129) Tryd.func129 rfl fb129 (by kernel_rfl) (Nat.le_of_ble_eq_true rfl) ?_
  refine cx_sr ?_
  simp only [go_sem]
  repeat first | (with_reducible refine side_d ?_ ?_; exact byD) | (with_reducible refine side_q ?_ ?_; exact byQ)
  refine cx_sr ?_
  simp only [go_sem]
  repeat first | (with_reducible refine side_d ?_ ?_; exact byD) | (with_reducible refine side_q ?_ ?_; exact byQ)
  refine cx_seq (cx_block ?_)
  refine cx_sr ?_
  simp only [go_sem]
  repeat first | (with_reducible refine side_d ?_ ?_; exact byD) | (with_reducible refine side_q ?_ ?_; exact byQ)
  intro t18 e18
  repeat first | (with_reducible refine side_d ?_ ?_; exact byD) | (with_reducible refine side_q ?_ ?_; exact byQ)
  intro t22 e22
  repeat first | (with_reducible refine side_d ?_ ?_; exact byD) | (with_reducible refine side_q ?_ ?_; exact byQ)
  intro t23 e23
  rw [bsel_or] at e23
  repeat first | (with_reducible refine side_d ?_ ?_; exact byD) | (with_reducible refine side_q ?_ ?_; exact byQ)
  subst e18 e22 e23
  refine cx_if _ rfl (fun h16 => ?_) (fun h16 => ?_)
  ·
    (try simp only [go_sem] at h16)
    refine cx_sr ?_
    simp only [go_sem]
    repeat first | (with_reducible refine side_d ?_ ?_; exact byD) | (with_reducible refine side_q ?_ ?_; exact byQ)
    refine cx_ret ?_
    simp only [go_sem]
    have h : [47] = s := by simpa using h16
    subst h
    exact finw_int (by decide)
  ·
    (try simp only [go_sem] at h16)
    refine cx_sr ?_
    simp only [go_sem]
    repeat first | (with_reducible refine side_d ?_ ?_; exact byD) | (with_reducible refine side_q ?_ ?_; exact byQ)
    intro t26 e26
    repeat first | (with_reducible refine side_d ?_ ?_; exact byD) | (with_reducible refine side_q ?_ ?_; exact byQ)
    subst e26
    refine cx_if _ rfl (fun h24 => ?_) (fun h24 => ?_)
    ·
      (try simp only [go_sem] at h24)
      refine cx_sr ?_
      simp only [go_sem]
      repeat first | (with_reducible refine side_d ?_ ?_; exact byD) | (with_reducible refine side_q ?_ ?_; exact byQ)
      intro t29 e29
      repeat first | (with_reducible refine side_d ?_ ?_; exact byD) | (with_reducible refine side_q ?_ ?_; exact byQ)
      refine cw_m (idx0 s 47) byW byT ?_
      simp only [go_sem]
      repeat first | (with_reducible refine side_d ?_ ?_; exact byD) | (with_reducible refine side_q ?_ ?_; exact byQ)
      refine cx_ret ?_
      simp only [go_sem]
      exact finw_int rfl
    · simp_all
theorem Index (s : List UInt8) : Meets Tryd.prog 122 [.str s, .str [47]] (.int .i64 (Lib.indexByte s 47)) [] := by
  refine meets_x (fn := Tryd.f122) Tryd.func122 rfl fb122 (by kernel_rfl) (Nat.le_of_ble_eq_true rfl) ?_
  refine cx_sr ?_
  simp only [go_sem]
  repeat first | (with_reducible refine side_d ?_ ?_; exact byD) | (with_reducible refine side_q ?_ ?_; exact byQ)
  refine cx_sr ?_
  simp only [go_sem]
  repeat first | (with_reducible refine side_d ?_ ?_; exact byD) | (with_reducible refine side_q ?_ ?_; exact byQ)
  refine cw_m (Index1 s) byW byT ?_
  simp only [go_sem]
  repeat first | (with_reducible refine side_d ?_ ?_; exact byD) | (with_reducible refine side_q ?_ ?_; exact byQ)
  refine cx_ret ?_
  simp only [go_sem]
  exact finw_int rfl
end Go.VM.Tryd
end
section
set_option linter.unusedVariables false
open Go Go.VM Go.Proofs
namespace Go.VM.Tryd
/-- the pieces between the slashes -/
def pcs : List UInt8 → List (List UInt8)
  | [] => [[]]
  | b :: r => if b = 47 then [] :: pcs r else match pcs r with
    | [] => [[b]]
    | x :: xs => (b :: x) :: xs
theorem pcs_ix : ∀ s : List UInt8, (Lib.indexByte s 47 = -1 ∧ pcs s = [s]) ∨ ∃ i : Nat, i < s.length ∧ Lib.indexByte s 47 = i ∧ pcs s = s.take i :: pcs (s.drop (i + 1))
  | [] => .inl ⟨rfl, rfl⟩
  | b :: r => by
    by_cases h1 : b = 47
    · exact .inr ⟨0, by simp, by simp [Lib.indexByte, h1], by simp [pcs, h1]⟩
    · rcases pcs_ix r with ⟨h2, h3⟩ | ⟨i, h2, h3, h4⟩
      · exact .inl ⟨by simp [Lib.indexByte, h1, h2], by simp [pcs, h1, h3]⟩
      · refine .inr ⟨i + 1, by simp; omega, ?_, by simp [pcs, h1, h4]⟩
        have : ¬ ((i : Int) = -1) := by omega
        simp [Lib.indexByte, h1, h3, this]
theorem pcs_ne (s : List UInt8) : pcs s ≠ [] := by
  rcases pcs_ix s with ⟨_, h⟩ | ⟨i, _, _, h⟩ <;> simp [h]
end Go.VM.Tryd
end
section
set_option linter.unusedVariables false
open Go Go.VM Go.Proofs Go.RowKit Go.Shelf
namespace Go.VM.Tryd
attribute [local go_sem] Oper.semAt_some
theorem idx_calls (s : List UInt8) (w : World) : Calls Tryd.prog 122 #[.string ⟨s.toArray⟩, .string ⟨#[47]⟩] w fun e w' => e = .returned (.int .i64 (Lib.indexByte s 47)) ∧ KB (fun _ => False) w w' := by
  have h := (Index s).2 w (fun _ => False) (fun _ h => h.elim) #[.string ⟨s.toArray⟩, .string ⟨#[47]⟩] rfl (by simp [VRs, VR])
  refine h.mono ?_
  rintro e w' ⟨c', u, rfl, rfl, h1, h2⟩
  simp only [VR] at h2
  exact ⟨by rw [h2], h1.fr.os, h1.fr.tape, h1.fr.output, h1.fr.size, fun k hk _ => h1.fr.block k hk (fun h => h)⟩
theorem set_box {W : World} {B : Nat} {v u : Value} {el : TypeId} (h : W.heap[B]? = some (.cells #[u] el)) :
    (W.setCell ⟨B, 0, none⟩ v).heap[B]? = some (.cells #[v] el) ∧ KB (· = B) W (W.setCell ⟨B, 0, none⟩ v) := by
  refine ⟨by simp [World.setCell, Array.getElem?_modify, h], rfl, rfl, rfl, by simp [World.setCell], fun k hk hS => ?_⟩
  have hne : B ≠ k := fun e => hS e.symm
  simp [World.setCell, Array.getElem?_modify, hne]
def left (Bs : Nat) (W : World) : Nat := match W.cell? ⟨Bs, 0, none⟩ with | some (.string b) => b.size | _ => 0
theorem left_eq {W : World} {B : Nat} {u : ByteArray} {el : TypeId} (h : W.heap[B]? = some (.cells #[.string u] el)) : left B W = u.size := by
  simp [left, World.cell?, h]
set_option maxRecDepth 100000 in
set_option maxHeartbeats 2000000 in
theorem split_in (l Bs Bp Bv : Nat) (es ep ev : TypeId) (hsp : Bp ≠ Bs) (hsv : Bv ≠ Bs) (s : List UInt8) (hb : s.length < 4611686018427387904) (J Jx : List (List UInt8) → World → Prop)
    (hJ : ∀ pre A B, J pre A → KB (fun k => k = Bs ∨ k = Bp ∨ k = Bv) A B → J pre B)
    (hJx : ∀ pre A B, Jx pre A → KB (fun k => k = Bs ∨ k = Bp ∨ k = Bv) A B → Jx pre B)
    (hY : ∀ pre x A, (pre ++ [x]) <+: pcs s → J pre A → YieldAt Fence.wide 0 Tryd.prog l #[.string ⟨x.toArray⟩] A fun e B =>
      (e = .returned (.bool true) ∧ J (pre ++ [x]) B ∧ B.heap[Bs]? = A.heap[Bs]? ∧ B.heap[Bp]? = A.heap[Bp]? ∧ B.heap[Bv]? = A.heap[Bv]?) ∨ (e = .returned (.bool false) ∧ Jx (pre ++ [x]) B))
    (W : World) (h1 : W.heap[Bs]? = some (.cells #[.string ⟨s.toArray⟩] es)) (h2 : W.heap[Bp]? = some (.cells #[.string ⟨#[47]⟩] ep)) (h3 : W.heap[Bv]? = some (.cells #[.int .i64 0] ev)) (h0 : J [] W) :
    CallsIn Fence.wide 1 Tryd.prog 120 #[.func (.yield l) #[] #[], .pointer (some ⟨Bp, 0, none⟩), .pointer (some ⟨Bs, 0, none⟩), .pointer (some ⟨Bv, 0, none⟩)] W fun e B => (∃ v, e = .returned v) ∧ (J (pcs s) B ∨ ∃ pre, pre <+: pcs s ∧ Jx pre B) := by
  refine callsIn_of_wp Tryd.func120 rfl trivial ?_ rfl
  simp only [Tryd.ntmps120, List.size_toArray, List.length_cons, List.length_nil, Nat.reduceAdd, Nat.reduceSub, Array.replicate_succ, Array.replicate_zero, List.push_toArray, List.append_toArray, List.nil_append, List.cons_append]
  have c2 : W.cell? ⟨Bp, 0, none⟩ = some (.string ⟨#[47]⟩) := by simp [World.cell?, h2]
  have n1 : (1 : Nat) ≤ 1 := Nat.le_refl _
  gi_wp2
  gi_loopw [] (fun wr => ∃ (pre : List (List UInt8)) (r : List UInt8), pre ++ pcs r = pcs s ∧ r.length ≤ s.length ∧ J pre wr ∧ wr.heap[Bs]? = some (.cells #[.string ⟨r.toArray⟩] es) ∧ wr.heap[Bp]? = some (.cells #[.string ⟨#[47]⟩] ep) ∧ wr.heap[Bv]? = some (.cells #[.int .i64 0] ev))
    (fun wr => left Bs wr)
  case atStart => exact ⟨[], s, rfl, Nat.le_refl _, h0, h1, h2, h3⟩
  case round =>
    obtain ⟨pre, r, hpre, hlen, hj, k1, k2, k3⟩ := hrel
    have d1 : wr.cell? ⟨Bs, 0, none⟩ = some (.string ⟨r.toArray⟩) := by simp [World.cell?, k1]
    have d2 : wr.cell? ⟨Bp, 0, none⟩ = some (.string ⟨#[47]⟩) := by simp [World.cell?, k2]
    have d3 : wr.cell? ⟨Bv, 0, none⟩ = some (.int .i64 0) := by simp [World.cell?, k3]
    gi_wp2
    refine ⟨trivial, ?_⟩
    refine ((callsIn_wide (n := 0)).2 (idx_calls r wr)).mono ?_
    rintro e w2 ⟨rfl, hkb⟩
    have hlt : ∀ {k : Nat} {o : Obj}, wr.heap[k]? = some o → w2.heap[k]? = some o := fun {k o} h => (hkb.2.2.2.2 k (Array.getElem?_eq_some_iff.1 h).1 (fun h => h)).trans h
    have hj2 := hJ _ _ _ hj (hkb.mono fun k h => h.elim)
    have q1 := hlt k1
    have q2 := hlt k2
    have q3 := hlt k3
    have e1 : w2.cell? ⟨Bs, 0, none⟩ = some (.string ⟨r.toArray⟩) := by simp [World.cell?, q1]
    have e2 : w2.cell? ⟨Bp, 0, none⟩ = some (.string ⟨#[47]⟩) := by simp [World.cell?, q2]
    have e3 : w2.cell? ⟨Bv, 0, none⟩ = some (.int .i64 0) := by simp [World.cell?, q3]
    have f1 : w2.frozen? ⟨Bs, 0, none⟩ = false := by simp [World.frozen?, q1]
    rcases pcs_ix r with ⟨g1, g2⟩ | ⟨i, g1, g2, g3⟩
    · rw [g1]
      rw [g2] at hpre
      obtain ⟨fn, tmps, assign, body, hy, hR⟩ := hY pre r w2 (by rw [hpre]; exact List.prefix_refl _) hj2
      gi_wp2
      refine hR.mono ?_
      rintro e W3 (⟨rfl, hJ3, m1, m2, m3⟩ | ⟨rfl, hJx3⟩)
      · gi_wp2
        go_end0
        exact ⟨⟨_, rfl⟩, .inl (by rw [← hpre]; exact hJ3)⟩
      · gi_wp2
        go_end0
        exact ⟨⟨_, rfl⟩, .inr ⟨_, by rw [hpre]; exact List.prefix_refl _, hJx3⟩⟩
    · rw [g2]
      rw [g3] at hpre
      obtain ⟨fn, tmps, assign, body, hy, hR⟩ := hY pre (r.take i) w2 ⟨pcs (r.drop (i + 1)), by rw [← hpre]; simp⟩ hj2
      have hx : (⟨r.toArray⟩ : ByteArray).extract 0 i = ⟨(r.take i).toArray⟩ := by
        apply ByteArray.ext
        simp
      gi_wp2
      refine hR.mono ?_
      rintro e W3 (⟨rfl, hJ3, m1, m2, m3⟩ | ⟨rfl, hJx3⟩)
      · rw [q1] at m1
        rw [q2] at m2
        rw [q3] at m3
        have e1 : W3.cell? ⟨Bs, 0, none⟩ = some (.string ⟨r.toArray⟩) := by simp [World.cell?, m1]
        have e2 : W3.cell? ⟨Bp, 0, none⟩ = some (.string ⟨#[47]⟩) := by simp [World.cell?, m2]
        have f1 : W3.frozen? ⟨Bs, 0, none⟩ = false := by simp [World.frozen?, m1]
        gi_wp2
        have hx2 : (⟨r.toArray⟩ : ByteArray).extract (i + 1) r.length = ⟨(r.drop (i + 1)).toArray⟩ := by
          apply ByteArray.ext
          simp
          exact List.take_of_length_le (by simp)
        rw [hx2]
        obtain ⟨s1, s2⟩ := set_box (v := .string ⟨(r.drop (i + 1)).toArray⟩) m1
        refine ⟨⟨pre ++ [r.take i], r.drop (i + 1), by rw [← hpre]; simp, by simp; omega, hJ _ _ _ hJ3 (s2.mono fun k h => .inl h), s1, ?_, ?_⟩, ?_⟩
        · exact (s2.2.2.2.2 Bp (Array.getElem?_eq_some_iff.1 m2).1 hsp).trans m2
        · exact (s2.2.2.2.2 Bv (Array.getElem?_eq_some_iff.1 m3).1 hsv).trans m3
        · have z1 := left_eq s1
          have z2 := left_eq k1
          have y1 : ((r.drop (i + 1)).toArray : Array UInt8).size = r.length - (i + 1) := by simp
          have y2 : (r.toArray : Array UInt8).size = r.length := by simp
          show left Bs _ < left Bs wr
          rw [z1, z2]
          show ((r.drop (i + 1)).toArray : Array UInt8).size < (r.toArray : Array UInt8).size
          omega
      · gi_wp2
        refine bodyPost_ret (results_none rfl _ _ _) rfl ?_
        exact ⟨⟨_, rfl⟩, .inr ⟨_, ⟨pcs (r.drop (i + 1)), by rw [← hpre]; simp⟩, hJx3⟩⟩
end Go.VM.Tryd
end
section
set_option linter.unusedVariables false
open Go Go.VM Go.Proofs Go.RowKit
namespace Go.VM.Tryd
theorem ptr_is {c : Ctx} {r off : Nat} {u : Value} (h : VR c (.ptr r off) u) : ∃ b m, c.locs[r]? = some (some (b, m)) ∧ u = .pointer (some ⟨b, off, none⟩) := by
  simp only [VR] at h
  split at h
  · rename_i b m hl
    exact ⟨b, m, hl, h⟩
  · exact h.elim
theorem box_is {F : Fr} {c : Ctx} {H : Heap} {r b m : Nat} {v : V} (hs : SR F c H) (hr : H[r]? = some (.box [v])) (hl : c.locs[r]? = some (some (b, m))) : ∃ u el, c.w.heap[b]? = some (.cells #[u] el) ∧ VR c v u := by
  obtain ⟨O, h1, ⟨C, el, rfl, h2, h3, h4⟩, _, _⟩ := hs.blk r _ _ hr hl trivial
  obtain ⟨⟨u, h5, h6⟩, _⟩ := h4
  refine ⟨u, el, ?_, h6⟩
  have hC : C = #[u] := by
    apply Array.ext
    · simpa using h2
    · intro i hi1 hi2
      have : i = 0 := by simp at hi2; omega
      subst this
      have := Array.getElem?_eq_some_iff.1 h5
      obtain ⟨_, e⟩ := this
      simpa using e
  rw [← hC]
  exact h1
theorem itOk_split (s : List UInt8) (hb : s.length < 4611686018427387904) (H : Heap) (rs rp rv : Nat) (h1 : H[rs]? = some (.box [.str s])) (h2 : H[rp]? = some (.box [.str [47]])) (h3 : H[rv]? = some (.box [.int .i64 0])) (n1 : rp ≠ rs) (n2 : rv ≠ rs) :
    ItOk Tryd.prog (fun x : List UInt8 => Value.string ⟨x.toArray⟩) (pcs s) [rs, rp, rv] H (.fn 120 [] [.ptr rp 0, .ptr rs 0, .ptr rv 0]) := by
  intro F c u hs hu
  simp only [VR] at hu
  obtain ⟨us, ws, rfl, hus, hws, _, hv⟩ := hu
  have hus0 : us = #[] := by simpa using hus
  subst hus0
  obtain ⟨⟨u0, e0, v0⟩, ⟨u1, e1, v1⟩, ⟨u2, e2, v2⟩, _⟩ := hv
  obtain ⟨Bp, mp, lp, rfl⟩ := ptr_is v0
  obtain ⟨Bs, ms, ls, rfl⟩ := ptr_is v1
  obtain ⟨Bv, mv, lv, rfl⟩ := ptr_is v2
  have hws' : ws = #[.pointer (some ⟨Bp, 0, none⟩), .pointer (some ⟨Bs, 0, none⟩), .pointer (some ⟨Bv, 0, none⟩)] := by
    apply Array.ext
    · simpa using hws
    · intro i hi1 hi2
      have hi : i < 3 := by simpa using hi2
      rcases i with _ | _ | _ | i
      · obtain ⟨_, e⟩ := Array.getElem?_eq_some_iff.1 e0; simpa using e
      · obtain ⟨_, e⟩ := Array.getElem?_eq_some_iff.1 e1; simpa using e
      · obtain ⟨_, e⟩ := Array.getElem?_eq_some_iff.1 e2; simpa using e
      · omega
  subst hws'
  obtain ⟨x1, es, g1, y1⟩ := box_is hs h1 ls
  obtain ⟨x2, ep, g2, y2⟩ := box_is hs h2 lp
  obtain ⟨x3, ev, g3, y3⟩ := box_is hs h3 lv
  simp only [VR] at y1 y2 y3
  subst y1 y2 y3
  have d1 : Bp ≠ Bs := fun e => by subst e; exact n1 (hs.inj rp rs _ _ Bp mp ms h2 h1 trivial trivial lp ls)
  have d2 : Bv ≠ Bs := fun e => by subst e; exact n2 (hs.inj rv rs _ _ Bv mv ms h3 h1 trivial trivial lv ls)
  have hBl : ∀ k, (k = Bs ∨ k = Bp ∨ k = Bv) ↔ Bl c [rs, rp, rv] k := by
    intro k
    constructor
    · rintro (rfl | rfl | rfl)
      · exact ⟨rs, ms, by simp, ls⟩
      · exact ⟨rp, mp, by simp, lp⟩
      · exact ⟨rv, mv, by simp, lv⟩
    · rintro ⟨r, m, hr, hl⟩
      simp at hr
      rcases hr with rfl | rfl | rfl
      · rw [ls] at hl; simp at hl; exact .inl hl.1.symm
      · rw [lp] at hl; simp at hl; exact .inr (.inl hl.1.symm)
      · rw [lv] at hl; simp at hl; exact .inr (.inr hl.1.symm)
  refine ⟨120, _, rfl, enters_of Tryd.func120 (by kernel_rfl) rfl, ?_⟩
  intro l J Jx W1 hJ hJx hY hsame h0
  refine (callsIn_wide (n := 0)).2 ((callsIn_wide (n := 1)).1 (split_in l Bs Bp Bv es ep ev d1 d2 s hb J Jx (fun pre A B h k => hJ pre A B h (k.mono fun i hi => (hBl i).1 hi)) (fun pre A B h k => hJx pre A B h (k.mono fun i hi => (hBl i).1 hi)) (fun pre x A hpre hj => ?_) W1
    ((hsame Bs ((hBl Bs).1 (.inl rfl))).trans g1) ((hsame Bp ((hBl Bp).1 (.inr (.inl rfl)))).trans g2) ((hsame Bv ((hBl Bv).1 (.inr (.inr rfl)))).trans g3) h0))
  obtain ⟨fn, tmps, assign, body, hy, hR⟩ := hY pre x A hpre hj
  refine ⟨fn, tmps, assign, body, hy, hR.mono ?_⟩
  rintro e B (⟨rfl, k1, k2⟩ | k)
  · exact .inl ⟨rfl, k1, k2 Bs ((hBl Bs).1 (.inl rfl)), k2 Bp ((hBl Bp).1 (.inr (.inl rfl))), k2 Bv ((hBl Bv).1 (.inr (.inr rfl)))⟩
  · exact .inr k
end Go.VM.Tryd
end
section
set_option linter.unusedVariables false
set_option linter.unusedSimpArgs false
open Go Go.VM Go.Proofs
namespace Go.VM.Tryd
set_option maxRecDepth 100000
theorem splitSeq0 (s : List UInt8) : Meets Tryd.prog 109 [.str s, .str [47], .int .i64 0] (.fn 120 [] [.ptr 1 0, .ptr 0 0, .ptr 2 0]) [.box [.str s], .box [.str [47]], .box [.int .i64 0]] := by
  refine meets_x (fn := Tryd.f109) Tryd.func109 rfl fb109 (by kernel_rfl) (Nat.le_of_ble_eq_true rfl) ?_
  refine cx_sr ?_
  simp only [go_sem]
  repeat first | (with_reducible refine side_d ?_ ?_; exact byD) | (with_reducible refine side_q ?_ ?_; exact byQ)
  refine cx_sr ?_
  simp only [go_sem]
  repeat first | (with_reducible refine side_d ?_ ?_; exact byD) | (with_reducible refine side_q ?_ ?_; exact byQ)
  refine cx_ret ?_
  simp only [go_sem]
  exact finx_of 1 [0, 1, 2] rfl byC byC byC byC
theorem SplitSeq (s : List UInt8) : Meets Tryd.prog 88 [.str s, .str [47]] (.fn 120 [] [.ptr 1 0, .ptr 0 0, .ptr 2 0]) [.box [.str s], .box [.str [47]], .box [.int .i64 0]] := by
  refine meets_x (fn := Tryd.f88) Tryd.func88 rfl fb88 (by kernel_rfl) (Nat.le_of_ble_eq_true rfl) ?_
  refine cx_sr ?_
  simp only [go_sem]
  repeat first | (with_reducible refine side_d ?_ ?_; exact byD) | (with_reducible refine side_q ?_ ?_; exact byQ)
  refine cx_sr ?_
  simp only [go_sem]
  repeat first | (with_reducible refine side_d ?_ ?_; exact byD) | (with_reducible refine side_q ?_ ?_; exact byQ)
  refine cw_m (splitSeq0 s) byW byT ?_
  simp only [go_sem]
  repeat first | (with_reducible refine side_d ?_ ?_; exact byD) | (with_reducible refine side_q ?_ ?_; exact byQ)
  refine cx_ret ?_
  simp only [go_sem]
  exact finx_of 1 [0, 1, 2] rfl byC byC byC byC
end Go.VM.Tryd
end
section
set_option linter.unusedVariables false
set_option linter.unusedSimpArgs false
open Go Go.VM
namespace Tether
abbrev Str := List UInt8
abbrev wrap (n : Int) : Int := IntKind.i64.wrap n
/-! ### Names -/
/-- a sign of a name -/
def signB (c : Int) : Bool := decide (97 ≤ c) && decide (c ≤ 122) || decide (65 ≤ c) && decide (c ≤ 90) || decide (48 ≤ c) && decide (c ≤ 57) || decide (0 ≤ Go.Lib.indexByte [45, 95, 46, 40, 41, 32] c.toNat.toUInt8)
def at8 (s : Str) (i : Nat) : Int := ((s.getD i 0).toNat : Int)
/-- a name -/
def isName (s : Str) : Bool :=
  !(decide (s = []) || decide (20 < (s.length : Int)) || decide (s = [46]) || decide (s = [46, 46])) && !(decide (at8 s 0 = 32) || decide (at8 s (s.length - 1) = 32)) && (List.range s.length).all fun i => signB (at8 s i)
/-! ### Uploads -/
structure Session where
  num : Int
  who : Str
  text : Str
  size : Int
  till : Int
  deriving Inhabited, DecidableEq
structure Uploads where
  ss : List Session
  next : Int
  lasts : Int
  room : Int
  deriving Inhabited, DecidableEq
def Session.enc (s : Session) : List V := [.int .i64 s.num, .str s.who, .str s.text, .int .i64 s.size, .int .i64 s.till]
abbrev ssV (l : List Session) : V := lstV 5 Session.enc default l
def Uploads.enc (u : Uploads) : V := .agg [ssV u.ss, .int .i64 u.next, .int .i64 u.lasts, .int .i64 u.room]
attribute [go_sem] Session.enc Uploads.enc
def within (n a b : Int) : Bool := decide (a ≤ n) && decide (n ≤ b)
/-- open sizes of somebody -/
def openW (l : List Session) (who : Str) : Int := l.foldl (fun n s => if s.who = who then wrap (n + s.size) else n) 0
/-- what is wrong with a session -/
def sessErr (u : Uploads) (s : Session) : Int :=
  if (!within s.num 1 (wrap (u.next - 1)) || !within s.size 0 300 || !within s.till 0 2199023255552) = true then 3
  else if isName s.who = false then 1
  else if s.size < (s.text.length : Int) then 2 else 0
/-- the first thing that is wrong, in some order -/
def firstErr {α : Type} (f : α → Int) : List α → Int
  | [] => 0
  | x :: l => if f x ≠ 0 then f x else firstErr f l
/-- do numbers rise? -/
def risesAt (l : List Session) (i : Nat) : Bool := decide ((l.getD (i - 1) default).num < (l.getD i default).num)
def checkU (u : Uploads) : Int :=
  if (!within u.lasts 1 1000000 || !within u.room 0 100000 || !within u.next 1 1099511627776) = true then 3
  else if 20 < (u.ss.length : Int) then 2
  else if firstErr (sessErr u) u.ss ≠ 0 then firstErr (sessErr u) u.ss
  else if ((List.range u.ss.length).all fun i => i = 0 || risesAt u.ss i) = false then 4
  else if (u.ss.all fun s => decide (openW u.ss s.who ≤ u.room)) = false then 10
  else 0
theorem foldl_take {α β : Type} (f : β → α → β) (a : β) (l : List α) (d : α) {i : Nat} (h : i < l.length) : (l.take (i + 1)).foldl f a = f ((l.take i).foldl f a) (l.getD i d) := by
  rw [List.take_succ_eq_append_getElem h, List.foldl_append]
  simp [List.getD, h]
theorem firstErr_at {α : Type} {f : α → Int} {l : List α} {d : α} {i : Nat} (hi : i < l.length) (hb : ∀ j, j < i → f (l.getD j d) = 0) (h : f (l.getD i d) ≠ 0) : firstErr f l = f (l.getD i d) := by
  induction l generalizing i with
  | nil => simp at hi
  | cons x l ih =>
    cases i with
    | zero => simpa [firstErr] using fun h' => absurd h' (by simpa using h)
    | succ i =>
      have h0 := hb 0 (by omega)
      simp at h0
      simp only [firstErr, h0]
      simpa using ih (by simpa using hi) (fun j hj => by simpa using hb (j + 1) (by omega)) (by simpa using h)
theorem firstErr_none {α : Type} {f : α → Int} {l : List α} {d : α} (hb : ∀ j, j < l.length → f (l.getD j d) = 0) : firstErr f l = 0 := by
  induction l with
  | nil => rfl
  | cons x l ih =>
    have h0 := hb 0 (by simp)
    simp at h0
    simp only [firstErr, h0]
    simpa using ih fun j hj => by simpa using hb (j + 1) (by simpa using hj)
theorem all_next {p : Nat → Prop} {i : Nat} (h : ∀ j, j < i → p j) (hi : p i) : ∀ j, j < i + 1 → p j := fun j hj => by
  rcases Nat.lt_or_ge j i with h' | h'
  · exact h j h'
  · obtain rfl : j = i := by omega
    exact hi
theorem getD_take {α : Type} {l : List α} {d : α} {i q : Nat} (h : q < i) : (l.take i).getD q d = l.getD q d := by
  simp [List.getD, List.getElem?_take, h]
theorem getD_mem {α : Type} {l : List α} {d : α} {i : Nat} (h : i < l.length) : l.getD i d ∈ l := by
  simp [List.getD, h]
theorem range_all_false {n i : Nat} {p : Nat → Bool} (hi : i < n) (h : p i = false) : (List.range n).all p = false := by
  rw [List.all_eq_false]; exact ⟨i, by simpa using hi, by simpa using h⟩
theorem range_all_true {n : Nat} {p : Nat → Bool} (h : ∀ i, i < n → p i = true) : (List.range n).all p = true := by
  rw [List.all_eq_true]; exact fun i hi => h i (by simpa using hi)
theorem all_at {α : Type} {l : List α} {p : α → Bool} {d : α} {i : Nat} (hi : i < l.length) (h : p (l.getD i d) = false) : l.all p = false := by
  rw [List.all_eq_false]; exact ⟨l[i], List.getElem_mem hi, by simpa [List.getD, hi] using h⟩
theorem all_of {α : Type} {l : List α} {p : α → Bool} {d : α} (h : ∀ i, i < l.length → p (l.getD i d) = true) : l.all p = true := by
  rw [List.all_eq_true]
  intro x hx
  obtain ⟨i, hi, rfl⟩ := List.getElem_of_mem hx
  simpa [List.getD, hi] using h i hi
end Tether
end
