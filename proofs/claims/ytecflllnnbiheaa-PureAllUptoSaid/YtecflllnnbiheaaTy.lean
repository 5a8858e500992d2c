/- The seat's types, as the evaluator asks for them: printed by ty.py. -/
import Derived.Test.YtecflllnnbiheaaEv2
import Derived.Test.YtecflllnnbiheaaProg
import Derived.KernelRfl
set_option maxHeartbeats 4000000
set_option linter.unusedVariables false
set_option linter.unusedSimpArgs false
namespace Ev
open Go Go.Proofs
theorem ts0 : isStr Try.prog 0 = false := by kernel_rfl
theorem tb0 : isBl Try.prog 0 = false := by kernel_rfl
theorem tf0 : isIf Try.prog 0 = false := by kernel_rfl
theorem te0 : elemT Try.prog 0 = none := by kernel_rfl
theorem ta0 : arrT Try.prog 0 = none := by kernel_rfl
theorem ti0 : intT Try.prog 0 = none := by kernel_rfl
theorem tc0 : cellT Try.prog 0 = some (false, 1) := by kernel_rfl
theorem tz0 : szT Try.prog 0 = 1 := by kernel_rfl
theorem ty0 : Try.prog.bytesOf 0 = 0 := by kernel_rfl
theorem tm0 : mapT Try.prog 0 = none := by kernel_rfl
theorem tn0 : zeroSz Try.prog 0 = 1 := by kernel_rfl
theorem t00 : zeroT Try.prog 0 = some (.tup []) := by kernel_rfl
theorem tu0 : (Try.prog.underlying 0).isNone = false := by kernel_rfl
theorem tr0 : structT Try.prog 0 = none := by kernel_rfl
theorem ts1 : isStr Try.prog 1 = false := by kernel_rfl
theorem tb1 : isBl Try.prog 1 = false := by kernel_rfl
theorem tf1 : isIf Try.prog 1 = false := by kernel_rfl
theorem te1 : elemT Try.prog 1 = none := by kernel_rfl
theorem ta1 : arrT Try.prog 1 = none := by kernel_rfl
theorem ti1 : intT Try.prog 1 = none := by kernel_rfl
theorem tc1 : cellT Try.prog 1 = some (false, 1) := by kernel_rfl
theorem tz1 : szT Try.prog 1 = 1 := by kernel_rfl
theorem ty1 : Try.prog.bytesOf 1 = 8 := by kernel_rfl
theorem tm1 : mapT Try.prog 1 = none := by kernel_rfl
theorem tn1 : zeroSz Try.prog 1 = 1 := by kernel_rfl
theorem t01 : zeroT Try.prog 1 = some (.nilf) := by kernel_rfl
theorem tu1 : (Try.prog.underlying 1).isNone = false := by kernel_rfl
theorem tr1 : structT Try.prog 1 = none := by kernel_rfl
theorem ts2 : isStr Try.prog 2 = false := by kernel_rfl
theorem tb2 : isBl Try.prog 2 = false := by kernel_rfl
theorem tf2 : isIf Try.prog 2 = false := by kernel_rfl
theorem te2 : elemT Try.prog 2 = none := by kernel_rfl
theorem ta2 : arrT Try.prog 2 = none := by kernel_rfl
theorem ti2 : intT Try.prog 2 = some .i64 := by kernel_rfl
theorem tc2 : cellT Try.prog 2 = some (false, 1) := by kernel_rfl
theorem tz2 : szT Try.prog 2 = 1 := by kernel_rfl
theorem ty2 : Try.prog.bytesOf 2 = 8 := by kernel_rfl
theorem tm2 : mapT Try.prog 2 = none := by kernel_rfl
theorem tn2 : zeroSz Try.prog 2 = 1 := by kernel_rfl
theorem t02 : zeroT Try.prog 2 = some (.int .i64 0) := by kernel_rfl
theorem tu2 : (Try.prog.underlying 2).isNone = false := by kernel_rfl
theorem tr2 : structT Try.prog 2 = none := by kernel_rfl
theorem ts3 : isStr Try.prog 3 = false := by kernel_rfl
theorem tb3 : isBl Try.prog 3 = false := by kernel_rfl
theorem tf3 : isIf Try.prog 3 = false := by kernel_rfl
theorem te3 : elemT Try.prog 3 = none := by kernel_rfl
theorem ta3 : arrT Try.prog 3 = none := by kernel_rfl
theorem ti3 : intT Try.prog 3 = some .i64 := by kernel_rfl
theorem tc3 : cellT Try.prog 3 = some (false, 1) := by kernel_rfl
theorem tz3 : szT Try.prog 3 = 1 := by kernel_rfl
theorem ty3 : Try.prog.bytesOf 3 = 8 := by kernel_rfl
theorem tm3 : mapT Try.prog 3 = none := by kernel_rfl
theorem tn3 : zeroSz Try.prog 3 = 1 := by kernel_rfl
theorem t03 : zeroT Try.prog 3 = some (.int .i64 0) := by kernel_rfl
theorem tu3 : (Try.prog.underlying 3).isNone = false := by kernel_rfl
theorem tr3 : structT Try.prog 3 = none := by kernel_rfl
theorem ts4 : isStr Try.prog 4 = false := by kernel_rfl
theorem tb4 : isBl Try.prog 4 = true := by kernel_rfl
theorem tf4 : isIf Try.prog 4 = false := by kernel_rfl
theorem te4 : elemT Try.prog 4 = none := by kernel_rfl
theorem ta4 : arrT Try.prog 4 = none := by kernel_rfl
theorem ti4 : intT Try.prog 4 = none := by kernel_rfl
theorem tc4 : cellT Try.prog 4 = some (false, 1) := by kernel_rfl
theorem tz4 : szT Try.prog 4 = 1 := by kernel_rfl
theorem ty4 : Try.prog.bytesOf 4 = 1 := by kernel_rfl
theorem tm4 : mapT Try.prog 4 = none := by kernel_rfl
theorem tn4 : zeroSz Try.prog 4 = 1 := by kernel_rfl
theorem t04 : zeroT Try.prog 4 = some (.bool false) := by kernel_rfl
theorem tu4 : (Try.prog.underlying 4).isNone = false := by kernel_rfl
theorem tr4 : structT Try.prog 4 = none := by kernel_rfl
theorem ts5 : isStr Try.prog 5 = false := by kernel_rfl
theorem tb5 : isBl Try.prog 5 = false := by kernel_rfl
theorem tf5 : isIf Try.prog 5 = false := by kernel_rfl
theorem te5 : elemT Try.prog 5 = none := by kernel_rfl
theorem ta5 : arrT Try.prog 5 = none := by kernel_rfl
theorem ti5 : intT Try.prog 5 = some .u8 := by kernel_rfl
theorem tc5 : cellT Try.prog 5 = some (false, 1) := by kernel_rfl
theorem tz5 : szT Try.prog 5 = 1 := by kernel_rfl
theorem ty5 : Try.prog.bytesOf 5 = 1 := by kernel_rfl
theorem tm5 : mapT Try.prog 5 = none := by kernel_rfl
theorem tn5 : zeroSz Try.prog 5 = 1 := by kernel_rfl
theorem t05 : zeroT Try.prog 5 = some (.int .u8 0) := by kernel_rfl
theorem tu5 : (Try.prog.underlying 5).isNone = false := by kernel_rfl
theorem tr5 : structT Try.prog 5 = none := by kernel_rfl
theorem ts6 : isStr Try.prog 6 = false := by kernel_rfl
theorem tb6 : isBl Try.prog 6 = false := by kernel_rfl
theorem tf6 : isIf Try.prog 6 = false := by kernel_rfl
theorem te6 : elemT Try.prog 6 = none := by kernel_rfl
theorem ta6 : arrT Try.prog 6 = none := by kernel_rfl
theorem ti6 : intT Try.prog 6 = some .u8 := by kernel_rfl
theorem tc6 : cellT Try.prog 6 = some (false, 1) := by kernel_rfl
theorem tz6 : szT Try.prog 6 = 1 := by kernel_rfl
theorem ty6 : Try.prog.bytesOf 6 = 1 := by kernel_rfl
theorem tm6 : mapT Try.prog 6 = none := by kernel_rfl
theorem tn6 : zeroSz Try.prog 6 = 1 := by kernel_rfl
theorem t06 : zeroT Try.prog 6 = some (.int .u8 0) := by kernel_rfl
theorem tu6 : (Try.prog.underlying 6).isNone = false := by kernel_rfl
theorem tr6 : structT Try.prog 6 = none := by kernel_rfl
theorem ts7 : isStr Try.prog 7 = false := by kernel_rfl
theorem tb7 : isBl Try.prog 7 = false := by kernel_rfl
theorem tf7 : isIf Try.prog 7 = false := by kernel_rfl
theorem te7 : elemT Try.prog 7 = none := by kernel_rfl
theorem ta7 : arrT Try.prog 7 = none := by kernel_rfl
theorem ti7 : intT Try.prog 7 = none := by kernel_rfl
theorem tc7 : cellT Try.prog 7 = some (true, 4) := by kernel_rfl
theorem tz7 : szT Try.prog 7 = 4 := by kernel_rfl
theorem ty7 : Try.prog.bytesOf 7 = 24 := by kernel_rfl
theorem tm7 : mapT Try.prog 7 = none := by kernel_rfl
theorem tn7 : zeroSz Try.prog 7 = 4 := by kernel_rfl
theorem t07 : zeroT Try.prog 7 = some (.agg [.int .i64 0, .int .i64 0, .bool false, .int .u8 0]) := by kernel_rfl
theorem tu7 : (Try.prog.underlying 7).isNone = false := by kernel_rfl
theorem tr7 : structT Try.prog 7 = some [(0, 1), (1, 1), (2, 1), (3, 1)] := by kernel_rfl
theorem tg7_0 : fieldT Try.prog 7 0 = some (0, 2) := by kernel_rfl
theorem tg7_1 : fieldT Try.prog 7 1 = some (1, 3) := by kernel_rfl
theorem tg7_2 : fieldT Try.prog 7 2 = some (2, 4) := by kernel_rfl
theorem tg7_3 : fieldT Try.prog 7 3 = some (3, 6) := by kernel_rfl
theorem ts8 : isStr Try.prog 8 = false := by kernel_rfl
theorem tb8 : isBl Try.prog 8 = false := by kernel_rfl
theorem tf8 : isIf Try.prog 8 = false := by kernel_rfl
theorem te8 : elemT Try.prog 8 = none := by kernel_rfl
theorem ta8 : arrT Try.prog 8 = none := by kernel_rfl
theorem ti8 : intT Try.prog 8 = none := by kernel_rfl
theorem tc8 : cellT Try.prog 8 = some (true, 4) := by kernel_rfl
theorem tz8 : szT Try.prog 8 = 4 := by kernel_rfl
theorem ty8 : Try.prog.bytesOf 8 = 24 := by kernel_rfl
theorem tm8 : mapT Try.prog 8 = none := by kernel_rfl
theorem tn8 : zeroSz Try.prog 8 = 4 := by kernel_rfl
theorem t08 : zeroT Try.prog 8 = some (.agg [.int .i64 0, .int .i64 0, .bool false, .int .u8 0]) := by kernel_rfl
theorem tu8 : (Try.prog.underlying 8).isNone = false := by kernel_rfl
theorem tr8 : structT Try.prog 8 = some [(0, 1), (1, 1), (2, 1), (3, 1)] := by kernel_rfl
theorem tg8_0 : fieldT Try.prog 8 0 = some (0, 2) := by kernel_rfl
theorem tg8_1 : fieldT Try.prog 8 1 = some (1, 3) := by kernel_rfl
theorem tg8_2 : fieldT Try.prog 8 2 = some (2, 4) := by kernel_rfl
theorem tg8_3 : fieldT Try.prog 8 3 = some (3, 6) := by kernel_rfl
theorem ts9 : isStr Try.prog 9 = true := by kernel_rfl
theorem tb9 : isBl Try.prog 9 = false := by kernel_rfl
theorem tf9 : isIf Try.prog 9 = false := by kernel_rfl
theorem te9 : elemT Try.prog 9 = none := by kernel_rfl
theorem ta9 : arrT Try.prog 9 = none := by kernel_rfl
theorem ti9 : intT Try.prog 9 = none := by kernel_rfl
theorem tc9 : cellT Try.prog 9 = some (false, 1) := by kernel_rfl
theorem tz9 : szT Try.prog 9 = 1 := by kernel_rfl
theorem ty9 : Try.prog.bytesOf 9 = 16 := by kernel_rfl
theorem tm9 : mapT Try.prog 9 = none := by kernel_rfl
theorem tn9 : zeroSz Try.prog 9 = 1 := by kernel_rfl
theorem t09 : zeroT Try.prog 9 = some (.str []) := by kernel_rfl
theorem tu9 : (Try.prog.underlying 9).isNone = false := by kernel_rfl
theorem tr9 : structT Try.prog 9 = none := by kernel_rfl
theorem ts10 : isStr Try.prog 10 = true := by kernel_rfl
theorem tb10 : isBl Try.prog 10 = false := by kernel_rfl
theorem tf10 : isIf Try.prog 10 = false := by kernel_rfl
theorem te10 : elemT Try.prog 10 = none := by kernel_rfl
theorem ta10 : arrT Try.prog 10 = none := by kernel_rfl
theorem ti10 : intT Try.prog 10 = none := by kernel_rfl
theorem tc10 : cellT Try.prog 10 = some (false, 1) := by kernel_rfl
theorem tz10 : szT Try.prog 10 = 1 := by kernel_rfl
theorem ty10 : Try.prog.bytesOf 10 = 16 := by kernel_rfl
theorem tm10 : mapT Try.prog 10 = none := by kernel_rfl
theorem tn10 : zeroSz Try.prog 10 = 1 := by kernel_rfl
theorem t010 : zeroT Try.prog 10 = some (.str []) := by kernel_rfl
theorem tu10 : (Try.prog.underlying 10).isNone = false := by kernel_rfl
theorem tr10 : structT Try.prog 10 = none := by kernel_rfl
theorem ts11 : isStr Try.prog 11 = true := by kernel_rfl
theorem tb11 : isBl Try.prog 11 = false := by kernel_rfl
theorem tf11 : isIf Try.prog 11 = false := by kernel_rfl
theorem te11 : elemT Try.prog 11 = none := by kernel_rfl
theorem ta11 : arrT Try.prog 11 = none := by kernel_rfl
theorem ti11 : intT Try.prog 11 = none := by kernel_rfl
theorem tc11 : cellT Try.prog 11 = some (false, 1) := by kernel_rfl
theorem tz11 : szT Try.prog 11 = 1 := by kernel_rfl
theorem ty11 : Try.prog.bytesOf 11 = 16 := by kernel_rfl
theorem tm11 : mapT Try.prog 11 = none := by kernel_rfl
theorem tn11 : zeroSz Try.prog 11 = 1 := by kernel_rfl
theorem t011 : zeroT Try.prog 11 = some (.str []) := by kernel_rfl
theorem tu11 : (Try.prog.underlying 11).isNone = false := by kernel_rfl
theorem tr11 : structT Try.prog 11 = none := by kernel_rfl
theorem ts12 : isStr Try.prog 12 = false := by kernel_rfl
theorem tb12 : isBl Try.prog 12 = false := by kernel_rfl
theorem tf12 : isIf Try.prog 12 = false := by kernel_rfl
theorem te12 : elemT Try.prog 12 = none := by kernel_rfl
theorem ta12 : arrT Try.prog 12 = none := by kernel_rfl
theorem ti12 : intT Try.prog 12 = some .u64 := by kernel_rfl
theorem tc12 : cellT Try.prog 12 = some (false, 1) := by kernel_rfl
theorem tz12 : szT Try.prog 12 = 1 := by kernel_rfl
theorem ty12 : Try.prog.bytesOf 12 = 8 := by kernel_rfl
theorem tm12 : mapT Try.prog 12 = none := by kernel_rfl
theorem tn12 : zeroSz Try.prog 12 = 1 := by kernel_rfl
theorem t012 : zeroT Try.prog 12 = some (.int .u64 0) := by kernel_rfl
theorem tu12 : (Try.prog.underlying 12).isNone = false := by kernel_rfl
theorem tr12 : structT Try.prog 12 = none := by kernel_rfl
theorem ts13 : isStr Try.prog 13 = false := by kernel_rfl
theorem tb13 : isBl Try.prog 13 = false := by kernel_rfl
theorem tf13 : isIf Try.prog 13 = false := by kernel_rfl
theorem te13 : elemT Try.prog 13 = none := by kernel_rfl
theorem ta13 : arrT Try.prog 13 = none := by kernel_rfl
theorem ti13 : intT Try.prog 13 = none := by kernel_rfl
theorem tc13 : cellT Try.prog 13 = some (true, 2) := by kernel_rfl
theorem tz13 : szT Try.prog 13 = 2 := by kernel_rfl
theorem ty13 : Try.prog.bytesOf 13 = 24 := by kernel_rfl
theorem tm13 : mapT Try.prog 13 = none := by kernel_rfl
theorem tn13 : zeroSz Try.prog 13 = 2 := by kernel_rfl
theorem t013 : zeroT Try.prog 13 = some (.agg [.str [], .int .u64 0]) := by kernel_rfl
theorem tu13 : (Try.prog.underlying 13).isNone = false := by kernel_rfl
theorem tr13 : structT Try.prog 13 = some [(0, 1), (1, 1)] := by kernel_rfl
theorem tg13_0 : fieldT Try.prog 13 0 = some (0, 9) := by kernel_rfl
theorem tg13_1 : fieldT Try.prog 13 1 = some (1, 12) := by kernel_rfl
theorem ts14 : isStr Try.prog 14 = false := by kernel_rfl
theorem tb14 : isBl Try.prog 14 = false := by kernel_rfl
theorem tf14 : isIf Try.prog 14 = false := by kernel_rfl
theorem te14 : elemT Try.prog 14 = none := by kernel_rfl
theorem ta14 : arrT Try.prog 14 = none := by kernel_rfl
theorem ti14 : intT Try.prog 14 = none := by kernel_rfl
theorem tc14 : cellT Try.prog 14 = some (true, 2) := by kernel_rfl
theorem tz14 : szT Try.prog 14 = 2 := by kernel_rfl
theorem ty14 : Try.prog.bytesOf 14 = 24 := by kernel_rfl
theorem tm14 : mapT Try.prog 14 = none := by kernel_rfl
theorem tn14 : zeroSz Try.prog 14 = 2 := by kernel_rfl
theorem t014 : zeroT Try.prog 14 = some (.agg [.str [], .int .u64 0]) := by kernel_rfl
theorem tu14 : (Try.prog.underlying 14).isNone = false := by kernel_rfl
theorem tr14 : structT Try.prog 14 = some [(0, 1), (1, 1)] := by kernel_rfl
theorem tg14_0 : fieldT Try.prog 14 0 = some (0, 9) := by kernel_rfl
theorem tg14_1 : fieldT Try.prog 14 1 = some (1, 12) := by kernel_rfl
theorem ts15 : isStr Try.prog 15 = false := by kernel_rfl
theorem tb15 : isBl Try.prog 15 = false := by kernel_rfl
theorem tf15 : isIf Try.prog 15 = false := by kernel_rfl
theorem te15 : elemT Try.prog 15 = none := by kernel_rfl
theorem ta15 : arrT Try.prog 15 = none := by kernel_rfl
theorem ti15 : intT Try.prog 15 = none := by kernel_rfl
theorem tc15 : cellT Try.prog 15 = some (false, 1) := by kernel_rfl
theorem tz15 : szT Try.prog 15 = 1 := by kernel_rfl
theorem ty15 : Try.prog.bytesOf 15 = 8 := by kernel_rfl
theorem tm15 : mapT Try.prog 15 = none := by kernel_rfl
theorem tn15 : zeroSz Try.prog 15 = 1 := by kernel_rfl
theorem t015 : zeroT Try.prog 15 = some (.nilp) := by kernel_rfl
theorem tu15 : (Try.prog.underlying 15).isNone = false := by kernel_rfl
theorem tr15 : structT Try.prog 15 = none := by kernel_rfl
theorem ts16 : isStr Try.prog 16 = false := by kernel_rfl
theorem tb16 : isBl Try.prog 16 = false := by kernel_rfl
theorem tf16 : isIf Try.prog 16 = false := by kernel_rfl
theorem te16 : elemT Try.prog 16 = none := by kernel_rfl
theorem ta16 : arrT Try.prog 16 = none := by kernel_rfl
theorem ti16 : intT Try.prog 16 = none := by kernel_rfl
theorem tc16 : cellT Try.prog 16 = some (false, 1) := by kernel_rfl
theorem tz16 : szT Try.prog 16 = 1 := by kernel_rfl
theorem ty16 : Try.prog.bytesOf 16 = 8 := by kernel_rfl
theorem tm16 : mapT Try.prog 16 = none := by kernel_rfl
theorem tn16 : zeroSz Try.prog 16 = 1 := by kernel_rfl
theorem t016 : zeroT Try.prog 16 = some (.nilp) := by kernel_rfl
theorem tu16 : (Try.prog.underlying 16).isNone = false := by kernel_rfl
theorem tr16 : structT Try.prog 16 = none := by kernel_rfl
theorem ts17 : isStr Try.prog 17 = false := by kernel_rfl
theorem tb17 : isBl Try.prog 17 = false := by kernel_rfl
theorem tf17 : isIf Try.prog 17 = false := by kernel_rfl
theorem te17 : elemT Try.prog 17 = none := by kernel_rfl
theorem ta17 : arrT Try.prog 17 = none := by kernel_rfl
theorem ti17 : intT Try.prog 17 = none := by kernel_rfl
theorem tc17 : cellT Try.prog 17 = some (false, 1) := by kernel_rfl
theorem tz17 : szT Try.prog 17 = 1 := by kernel_rfl
theorem ty17 : Try.prog.bytesOf 17 = 8 := by kernel_rfl
theorem tm17 : mapT Try.prog 17 = none := by kernel_rfl
theorem tn17 : zeroSz Try.prog 17 = 1 := by kernel_rfl
theorem t017 : zeroT Try.prog 17 = some (.nilp) := by kernel_rfl
theorem tu17 : (Try.prog.underlying 17).isNone = false := by kernel_rfl
theorem tr17 : structT Try.prog 17 = none := by kernel_rfl
theorem ts18 : isStr Try.prog 18 = false := by kernel_rfl
theorem tb18 : isBl Try.prog 18 = false := by kernel_rfl
theorem tf18 : isIf Try.prog 18 = false := by kernel_rfl
theorem te18 : elemT Try.prog 18 = none := by kernel_rfl
theorem ta18 : arrT Try.prog 18 = none := by kernel_rfl
theorem ti18 : intT Try.prog 18 = none := by kernel_rfl
theorem tc18 : cellT Try.prog 18 = some (true, 1) := by kernel_rfl
theorem tz18 : szT Try.prog 18 = 1 := by kernel_rfl
theorem ty18 : Try.prog.bytesOf 18 = 8 := by kernel_rfl
theorem tm18 : mapT Try.prog 18 = none := by kernel_rfl
theorem tn18 : zeroSz Try.prog 18 = 1 := by kernel_rfl
theorem t018 : zeroT Try.prog 18 = some (.agg [.nilp]) := by kernel_rfl
theorem tu18 : (Try.prog.underlying 18).isNone = false := by kernel_rfl
theorem tr18 : structT Try.prog 18 = some [(0, 1)] := by kernel_rfl
theorem tg18_0 : fieldT Try.prog 18 0 = some (0, 17) := by kernel_rfl
theorem ts19 : isStr Try.prog 19 = false := by kernel_rfl
theorem tb19 : isBl Try.prog 19 = false := by kernel_rfl
theorem tf19 : isIf Try.prog 19 = false := by kernel_rfl
theorem te19 : elemT Try.prog 19 = none := by kernel_rfl
theorem ta19 : arrT Try.prog 19 = none := by kernel_rfl
theorem ti19 : intT Try.prog 19 = none := by kernel_rfl
theorem tc19 : cellT Try.prog 19 = some (true, 1) := by kernel_rfl
theorem tz19 : szT Try.prog 19 = 1 := by kernel_rfl
theorem ty19 : Try.prog.bytesOf 19 = 8 := by kernel_rfl
theorem tm19 : mapT Try.prog 19 = none := by kernel_rfl
theorem tn19 : zeroSz Try.prog 19 = 1 := by kernel_rfl
theorem t019 : zeroT Try.prog 19 = some (.agg [.nilp]) := by kernel_rfl
theorem tu19 : (Try.prog.underlying 19).isNone = false := by kernel_rfl
theorem tr19 : structT Try.prog 19 = some [(0, 1)] := by kernel_rfl
theorem tg19_0 : fieldT Try.prog 19 0 = some (0, 17) := by kernel_rfl
theorem ts20 : isStr Try.prog 20 = false := by kernel_rfl
theorem tb20 : isBl Try.prog 20 = false := by kernel_rfl
theorem tf20 : isIf Try.prog 20 = true := by kernel_rfl
theorem te20 : elemT Try.prog 20 = none := by kernel_rfl
theorem ta20 : arrT Try.prog 20 = none := by kernel_rfl
theorem ti20 : intT Try.prog 20 = none := by kernel_rfl
theorem tc20 : cellT Try.prog 20 = some (false, 1) := by kernel_rfl
theorem tz20 : szT Try.prog 20 = 1 := by kernel_rfl
theorem ty20 : Try.prog.bytesOf 20 = 16 := by kernel_rfl
theorem tm20 : mapT Try.prog 20 = none := by kernel_rfl
theorem tn20 : zeroSz Try.prog 20 = 1 := by kernel_rfl
theorem t020 : zeroT Try.prog 20 = some (.nili) := by kernel_rfl
theorem tu20 : (Try.prog.underlying 20).isNone = false := by kernel_rfl
theorem tr20 : structT Try.prog 20 = none := by kernel_rfl
theorem ts21 : isStr Try.prog 21 = false := by kernel_rfl
theorem tb21 : isBl Try.prog 21 = false := by kernel_rfl
theorem tf21 : isIf Try.prog 21 = false := by kernel_rfl
theorem te21 : elemT Try.prog 21 = none := by kernel_rfl
theorem ta21 : arrT Try.prog 21 = none := by kernel_rfl
theorem ti21 : intT Try.prog 21 = some .i32 := by kernel_rfl
theorem tc21 : cellT Try.prog 21 = some (false, 1) := by kernel_rfl
theorem tz21 : szT Try.prog 21 = 1 := by kernel_rfl
theorem ty21 : Try.prog.bytesOf 21 = 4 := by kernel_rfl
theorem tm21 : mapT Try.prog 21 = none := by kernel_rfl
theorem tn21 : zeroSz Try.prog 21 = 1 := by kernel_rfl
theorem t021 : zeroT Try.prog 21 = some (.int .i32 0) := by kernel_rfl
theorem tu21 : (Try.prog.underlying 21).isNone = false := by kernel_rfl
theorem tr21 : structT Try.prog 21 = none := by kernel_rfl
theorem ts22 : isStr Try.prog 22 = false := by kernel_rfl
theorem tb22 : isBl Try.prog 22 = false := by kernel_rfl
theorem tf22 : isIf Try.prog 22 = false := by kernel_rfl
theorem te22 : elemT Try.prog 22 = some 3 := by kernel_rfl
theorem ta22 : arrT Try.prog 22 = none := by kernel_rfl
theorem ti22 : intT Try.prog 22 = none := by kernel_rfl
theorem tc22 : cellT Try.prog 22 = some (false, 1) := by kernel_rfl
theorem tz22 : szT Try.prog 22 = 1 := by kernel_rfl
theorem ty22 : Try.prog.bytesOf 22 = 24 := by kernel_rfl
theorem tm22 : mapT Try.prog 22 = none := by kernel_rfl
theorem tn22 : zeroSz Try.prog 22 = 1 := by kernel_rfl
theorem t022 : zeroT Try.prog 22 = some (.sl [] .full) := by kernel_rfl
theorem tu22 : (Try.prog.underlying 22).isNone = false := by kernel_rfl
theorem tr22 : structT Try.prog 22 = none := by kernel_rfl
theorem ts23 : isStr Try.prog 23 = false := by kernel_rfl
theorem tb23 : isBl Try.prog 23 = false := by kernel_rfl
theorem tf23 : isIf Try.prog 23 = false := by kernel_rfl
theorem te23 : elemT Try.prog 23 = some 42 := by kernel_rfl
theorem ta23 : arrT Try.prog 23 = none := by kernel_rfl
theorem ti23 : intT Try.prog 23 = none := by kernel_rfl
theorem tc23 : cellT Try.prog 23 = some (false, 1) := by kernel_rfl
theorem tz23 : szT Try.prog 23 = 1 := by kernel_rfl
theorem ty23 : Try.prog.bytesOf 23 = 24 := by kernel_rfl
theorem tm23 : mapT Try.prog 23 = none := by kernel_rfl
theorem tn23 : zeroSz Try.prog 23 = 1 := by kernel_rfl
theorem t023 : zeroT Try.prog 23 = some (.sl [] .full) := by kernel_rfl
theorem tu23 : (Try.prog.underlying 23).isNone = false := by kernel_rfl
theorem tr23 : structT Try.prog 23 = none := by kernel_rfl
theorem ts24 : isStr Try.prog 24 = false := by kernel_rfl
theorem tb24 : isBl Try.prog 24 = false := by kernel_rfl
theorem tf24 : isIf Try.prog 24 = false := by kernel_rfl
theorem te24 : elemT Try.prog 24 = none := by kernel_rfl
theorem ta24 : arrT Try.prog 24 = none := by kernel_rfl
theorem ti24 : intT Try.prog 24 = none := by kernel_rfl
theorem tc24 : cellT Try.prog 24 = some (true, 1) := by kernel_rfl
theorem tz24 : szT Try.prog 24 = 1 := by kernel_rfl
theorem ty24 : Try.prog.bytesOf 24 = 24 := by kernel_rfl
theorem tm24 : mapT Try.prog 24 = none := by kernel_rfl
theorem tn24 : zeroSz Try.prog 24 = 1 := by kernel_rfl
theorem t024 : zeroT Try.prog 24 = some (.agg [.sl [] .full]) := by kernel_rfl
theorem tu24 : (Try.prog.underlying 24).isNone = false := by kernel_rfl
theorem tr24 : structT Try.prog 24 = some [(0, 1)] := by kernel_rfl
theorem tg24_0 : fieldT Try.prog 24 0 = some (0, 23) := by kernel_rfl
theorem ts25 : isStr Try.prog 25 = false := by kernel_rfl
theorem tb25 : isBl Try.prog 25 = false := by kernel_rfl
theorem tf25 : isIf Try.prog 25 = false := by kernel_rfl
theorem te25 : elemT Try.prog 25 = none := by kernel_rfl
theorem ta25 : arrT Try.prog 25 = none := by kernel_rfl
theorem ti25 : intT Try.prog 25 = none := by kernel_rfl
theorem tc25 : cellT Try.prog 25 = some (true, 1) := by kernel_rfl
theorem tz25 : szT Try.prog 25 = 1 := by kernel_rfl
theorem ty25 : Try.prog.bytesOf 25 = 24 := by kernel_rfl
theorem tm25 : mapT Try.prog 25 = none := by kernel_rfl
theorem tn25 : zeroSz Try.prog 25 = 1 := by kernel_rfl
theorem t025 : zeroT Try.prog 25 = some (.agg [.sl [] .full]) := by kernel_rfl
theorem tu25 : (Try.prog.underlying 25).isNone = false := by kernel_rfl
theorem tr25 : structT Try.prog 25 = some [(0, 1)] := by kernel_rfl
theorem tg25_0 : fieldT Try.prog 25 0 = some (0, 23) := by kernel_rfl
theorem ts26 : isStr Try.prog 26 = false := by kernel_rfl
theorem tb26 : isBl Try.prog 26 = false := by kernel_rfl
theorem tf26 : isIf Try.prog 26 = false := by kernel_rfl
theorem te26 : elemT Try.prog 26 = none := by kernel_rfl
theorem ta26 : arrT Try.prog 26 = none := by kernel_rfl
theorem ti26 : intT Try.prog 26 = none := by kernel_rfl
theorem tc26 : cellT Try.prog 26 = some (false, 1) := by kernel_rfl
theorem tz26 : szT Try.prog 26 = 1 := by kernel_rfl
theorem ty26 : Try.prog.bytesOf 26 = 8 := by kernel_rfl
theorem tm26 : mapT Try.prog 26 = none := by kernel_rfl
theorem tn26 : zeroSz Try.prog 26 = 1 := by kernel_rfl
theorem t026 : zeroT Try.prog 26 = some (.nilf) := by kernel_rfl
theorem tu26 : (Try.prog.underlying 26).isNone = false := by kernel_rfl
theorem tr26 : structT Try.prog 26 = none := by kernel_rfl
theorem ts27 : isStr Try.prog 27 = false := by kernel_rfl
theorem tb27 : isBl Try.prog 27 = false := by kernel_rfl
theorem tf27 : isIf Try.prog 27 = false := by kernel_rfl
theorem te27 : elemT Try.prog 27 = none := by kernel_rfl
theorem ta27 : arrT Try.prog 27 = none := by kernel_rfl
theorem ti27 : intT Try.prog 27 = none := by kernel_rfl
theorem tc27 : cellT Try.prog 27 = some (false, 1) := by kernel_rfl
theorem tz27 : szT Try.prog 27 = 1 := by kernel_rfl
theorem ty27 : Try.prog.bytesOf 27 = 8 := by kernel_rfl
theorem tm27 : mapT Try.prog 27 = none := by kernel_rfl
theorem tn27 : zeroSz Try.prog 27 = 1 := by kernel_rfl
theorem t027 : zeroT Try.prog 27 = some (.nilf) := by kernel_rfl
theorem tu27 : (Try.prog.underlying 27).isNone = false := by kernel_rfl
theorem tr27 : structT Try.prog 27 = none := by kernel_rfl
theorem ts28 : isStr Try.prog 28 = false := by kernel_rfl
theorem tb28 : isBl Try.prog 28 = false := by kernel_rfl
theorem tf28 : isIf Try.prog 28 = false := by kernel_rfl
theorem te28 : elemT Try.prog 28 = some 30 := by kernel_rfl
theorem ta28 : arrT Try.prog 28 = none := by kernel_rfl
theorem ti28 : intT Try.prog 28 = none := by kernel_rfl
theorem tc28 : cellT Try.prog 28 = some (false, 1) := by kernel_rfl
theorem tz28 : szT Try.prog 28 = 1 := by kernel_rfl
theorem ty28 : Try.prog.bytesOf 28 = 24 := by kernel_rfl
theorem tm28 : mapT Try.prog 28 = none := by kernel_rfl
theorem tn28 : zeroSz Try.prog 28 = 1 := by kernel_rfl
theorem t028 : zeroT Try.prog 28 = some (.sl [] .full) := by kernel_rfl
theorem tu28 : (Try.prog.underlying 28).isNone = false := by kernel_rfl
theorem tr28 : structT Try.prog 28 = none := by kernel_rfl
theorem ts29 : isStr Try.prog 29 = false := by kernel_rfl
theorem tb29 : isBl Try.prog 29 = false := by kernel_rfl
theorem tf29 : isIf Try.prog 29 = false := by kernel_rfl
theorem te29 : elemT Try.prog 29 = none := by kernel_rfl
theorem ta29 : arrT Try.prog 29 = none := by kernel_rfl
theorem ti29 : intT Try.prog 29 = none := by kernel_rfl
theorem tc29 : cellT Try.prog 29 = some (true, 3) := by kernel_rfl
theorem tz29 : szT Try.prog 29 = 3 := by kernel_rfl
theorem ty29 : Try.prog.bytesOf 29 = 48 := by kernel_rfl
theorem tm29 : mapT Try.prog 29 = none := by kernel_rfl
theorem tn29 : zeroSz Try.prog 29 = 3 := by kernel_rfl
theorem t029 : zeroT Try.prog 29 = some (.agg [.int .i64 0, .str [], .sl [] .full]) := by kernel_rfl
theorem tu29 : (Try.prog.underlying 29).isNone = false := by kernel_rfl
theorem tr29 : structT Try.prog 29 = some [(0, 1), (1, 1), (2, 1)] := by kernel_rfl
theorem tg29_0 : fieldT Try.prog 29 0 = some (0, 3) := by kernel_rfl
theorem tg29_1 : fieldT Try.prog 29 1 = some (1, 9) := by kernel_rfl
theorem tg29_2 : fieldT Try.prog 29 2 = some (2, 28) := by kernel_rfl
theorem ts30 : isStr Try.prog 30 = false := by kernel_rfl
theorem tb30 : isBl Try.prog 30 = false := by kernel_rfl
theorem tf30 : isIf Try.prog 30 = false := by kernel_rfl
theorem te30 : elemT Try.prog 30 = none := by kernel_rfl
theorem ta30 : arrT Try.prog 30 = none := by kernel_rfl
theorem ti30 : intT Try.prog 30 = none := by kernel_rfl
theorem tc30 : cellT Try.prog 30 = some (true, 3) := by kernel_rfl
theorem tz30 : szT Try.prog 30 = 3 := by kernel_rfl
theorem ty30 : Try.prog.bytesOf 30 = 48 := by kernel_rfl
theorem tm30 : mapT Try.prog 30 = none := by kernel_rfl
theorem tn30 : zeroSz Try.prog 30 = 3 := by kernel_rfl
theorem t030 : zeroT Try.prog 30 = some (.agg [.int .i64 0, .str [], .sl [] .full]) := by kernel_rfl
theorem tu30 : (Try.prog.underlying 30).isNone = false := by kernel_rfl
theorem tr30 : structT Try.prog 30 = some [(0, 1), (1, 1), (2, 1)] := by kernel_rfl
theorem tg30_0 : fieldT Try.prog 30 0 = some (0, 3) := by kernel_rfl
theorem tg30_1 : fieldT Try.prog 30 1 = some (1, 9) := by kernel_rfl
theorem tg30_2 : fieldT Try.prog 30 2 = some (2, 28) := by kernel_rfl
theorem ts31 : isStr Try.prog 31 = false := by kernel_rfl
theorem tb31 : isBl Try.prog 31 = false := by kernel_rfl
theorem tf31 : isIf Try.prog 31 = false := by kernel_rfl
theorem te31 : elemT Try.prog 31 = none := by kernel_rfl
theorem ta31 : arrT Try.prog 31 = none := by kernel_rfl
theorem ti31 : intT Try.prog 31 = some .i64 := by kernel_rfl
theorem tc31 : cellT Try.prog 31 = some (false, 1) := by kernel_rfl
theorem tz31 : szT Try.prog 31 = 1 := by kernel_rfl
theorem ty31 : Try.prog.bytesOf 31 = 8 := by kernel_rfl
theorem tm31 : mapT Try.prog 31 = none := by kernel_rfl
theorem tn31 : zeroSz Try.prog 31 = 1 := by kernel_rfl
theorem t031 : zeroT Try.prog 31 = some (.int .i64 0) := by kernel_rfl
theorem tu31 : (Try.prog.underlying 31).isNone = false := by kernel_rfl
theorem tr31 : structT Try.prog 31 = none := by kernel_rfl
theorem ts32 : isStr Try.prog 32 = false := by kernel_rfl
theorem tb32 : isBl Try.prog 32 = false := by kernel_rfl
theorem tf32 : isIf Try.prog 32 = false := by kernel_rfl
theorem te32 : elemT Try.prog 32 = none := by kernel_rfl
theorem ta32 : arrT Try.prog 32 = none := by kernel_rfl
theorem ti32 : intT Try.prog 32 = none := by kernel_rfl
theorem tc32 : cellT Try.prog 32 = some (false, 1) := by kernel_rfl
theorem tz32 : szT Try.prog 32 = 1 := by kernel_rfl
theorem ty32 : Try.prog.bytesOf 32 = 0 := by kernel_rfl
theorem tm32 : mapT Try.prog 32 = none := by kernel_rfl
theorem tn32 : zeroSz Try.prog 32 = 1 := by kernel_rfl
theorem t032 : zeroT Try.prog 32 = some (.junk) := by kernel_rfl
theorem tu32 : (Try.prog.underlying 32).isNone = false := by kernel_rfl
theorem tr32 : structT Try.prog 32 = none := by kernel_rfl
theorem ts33 : isStr Try.prog 33 = false := by kernel_rfl
theorem tb33 : isBl Try.prog 33 = false := by kernel_rfl
theorem tf33 : isIf Try.prog 33 = false := by kernel_rfl
theorem te33 : elemT Try.prog 33 = none := by kernel_rfl
theorem ta33 : arrT Try.prog 33 = none := by kernel_rfl
theorem ti33 : intT Try.prog 33 = none := by kernel_rfl
theorem tc33 : cellT Try.prog 33 = some (false, 1) := by kernel_rfl
theorem tz33 : szT Try.prog 33 = 1 := by kernel_rfl
theorem ty33 : Try.prog.bytesOf 33 = 8 := by kernel_rfl
theorem tm33 : mapT Try.prog 33 = none := by kernel_rfl
theorem tn33 : zeroSz Try.prog 33 = 1 := by kernel_rfl
theorem t033 : zeroT Try.prog 33 = some (.nilf) := by kernel_rfl
theorem tu33 : (Try.prog.underlying 33).isNone = false := by kernel_rfl
theorem tr33 : structT Try.prog 33 = none := by kernel_rfl
theorem ts34 : isStr Try.prog 34 = false := by kernel_rfl
theorem tb34 : isBl Try.prog 34 = false := by kernel_rfl
theorem tf34 : isIf Try.prog 34 = false := by kernel_rfl
theorem te34 : elemT Try.prog 34 = none := by kernel_rfl
theorem ta34 : arrT Try.prog 34 = none := by kernel_rfl
theorem ti34 : intT Try.prog 34 = none := by kernel_rfl
theorem tc34 : cellT Try.prog 34 = some (false, 1) := by kernel_rfl
theorem tz34 : szT Try.prog 34 = 1 := by kernel_rfl
theorem ty34 : Try.prog.bytesOf 34 = 8 := by kernel_rfl
theorem tm34 : mapT Try.prog 34 = none := by kernel_rfl
theorem tn34 : zeroSz Try.prog 34 = 1 := by kernel_rfl
theorem t034 : zeroT Try.prog 34 = some (.nilf) := by kernel_rfl
theorem tu34 : (Try.prog.underlying 34).isNone = false := by kernel_rfl
theorem tr34 : structT Try.prog 34 = none := by kernel_rfl
theorem ts35 : isStr Try.prog 35 = false := by kernel_rfl
theorem tb35 : isBl Try.prog 35 = false := by kernel_rfl
theorem tf35 : isIf Try.prog 35 = false := by kernel_rfl
theorem te35 : elemT Try.prog 35 = none := by kernel_rfl
theorem ta35 : arrT Try.prog 35 = none := by kernel_rfl
theorem ti35 : intT Try.prog 35 = none := by kernel_rfl
theorem tc35 : cellT Try.prog 35 = some (false, 1) := by kernel_rfl
theorem tz35 : szT Try.prog 35 = 1 := by kernel_rfl
theorem ty35 : Try.prog.bytesOf 35 = 8 := by kernel_rfl
theorem tm35 : mapT Try.prog 35 = none := by kernel_rfl
theorem tn35 : zeroSz Try.prog 35 = 1 := by kernel_rfl
theorem t035 : zeroT Try.prog 35 = some (.nilf) := by kernel_rfl
theorem tu35 : (Try.prog.underlying 35).isNone = false := by kernel_rfl
theorem tr35 : structT Try.prog 35 = none := by kernel_rfl
theorem ts36 : isStr Try.prog 36 = false := by kernel_rfl
theorem tb36 : isBl Try.prog 36 = false := by kernel_rfl
theorem tf36 : isIf Try.prog 36 = false := by kernel_rfl
theorem te36 : elemT Try.prog 36 = none := by kernel_rfl
theorem ta36 : arrT Try.prog 36 = none := by kernel_rfl
theorem ti36 : intT Try.prog 36 = none := by kernel_rfl
theorem tc36 : cellT Try.prog 36 = some (false, 1) := by kernel_rfl
theorem tz36 : szT Try.prog 36 = 1 := by kernel_rfl
theorem ty36 : Try.prog.bytesOf 36 = 8 := by kernel_rfl
theorem tm36 : mapT Try.prog 36 = none := by kernel_rfl
theorem tn36 : zeroSz Try.prog 36 = 1 := by kernel_rfl
theorem t036 : zeroT Try.prog 36 = some (.nilf) := by kernel_rfl
theorem tu36 : (Try.prog.underlying 36).isNone = false := by kernel_rfl
theorem tr36 : structT Try.prog 36 = none := by kernel_rfl
theorem ts37 : isStr Try.prog 37 = false := by kernel_rfl
theorem tb37 : isBl Try.prog 37 = false := by kernel_rfl
theorem tf37 : isIf Try.prog 37 = false := by kernel_rfl
theorem te37 : elemT Try.prog 37 = none := by kernel_rfl
theorem ta37 : arrT Try.prog 37 = none := by kernel_rfl
theorem ti37 : intT Try.prog 37 = none := by kernel_rfl
theorem tc37 : cellT Try.prog 37 = some (false, 1) := by kernel_rfl
theorem tz37 : szT Try.prog 37 = 1 := by kernel_rfl
theorem ty37 : Try.prog.bytesOf 37 = 8 := by kernel_rfl
theorem tm37 : mapT Try.prog 37 = none := by kernel_rfl
theorem tn37 : zeroSz Try.prog 37 = 1 := by kernel_rfl
theorem t037 : zeroT Try.prog 37 = some (.nilf) := by kernel_rfl
theorem tu37 : (Try.prog.underlying 37).isNone = false := by kernel_rfl
theorem tr37 : structT Try.prog 37 = none := by kernel_rfl
theorem ts38 : isStr Try.prog 38 = false := by kernel_rfl
theorem tb38 : isBl Try.prog 38 = false := by kernel_rfl
theorem tf38 : isIf Try.prog 38 = false := by kernel_rfl
theorem te38 : elemT Try.prog 38 = none := by kernel_rfl
theorem ta38 : arrT Try.prog 38 = none := by kernel_rfl
theorem ti38 : intT Try.prog 38 = none := by kernel_rfl
theorem tc38 : cellT Try.prog 38 = some (false, 1) := by kernel_rfl
theorem tz38 : szT Try.prog 38 = 1 := by kernel_rfl
theorem ty38 : Try.prog.bytesOf 38 = 8 := by kernel_rfl
theorem tm38 : mapT Try.prog 38 = none := by kernel_rfl
theorem tn38 : zeroSz Try.prog 38 = 1 := by kernel_rfl
theorem t038 : zeroT Try.prog 38 = some (.nilf) := by kernel_rfl
theorem tu38 : (Try.prog.underlying 38).isNone = false := by kernel_rfl
theorem tr38 : structT Try.prog 38 = none := by kernel_rfl
theorem ts39 : isStr Try.prog 39 = false := by kernel_rfl
theorem tb39 : isBl Try.prog 39 = false := by kernel_rfl
theorem tf39 : isIf Try.prog 39 = false := by kernel_rfl
theorem te39 : elemT Try.prog 39 = none := by kernel_rfl
theorem ta39 : arrT Try.prog 39 = none := by kernel_rfl
theorem ti39 : intT Try.prog 39 = none := by kernel_rfl
theorem tc39 : cellT Try.prog 39 = some (false, 1) := by kernel_rfl
theorem tz39 : szT Try.prog 39 = 1 := by kernel_rfl
theorem ty39 : Try.prog.bytesOf 39 = 8 := by kernel_rfl
theorem tm39 : mapT Try.prog 39 = none := by kernel_rfl
theorem tn39 : zeroSz Try.prog 39 = 1 := by kernel_rfl
theorem t039 : zeroT Try.prog 39 = some (.nilf) := by kernel_rfl
theorem tu39 : (Try.prog.underlying 39).isNone = false := by kernel_rfl
theorem tr39 : structT Try.prog 39 = none := by kernel_rfl
theorem ts40 : isStr Try.prog 40 = false := by kernel_rfl
theorem tb40 : isBl Try.prog 40 = false := by kernel_rfl
theorem tf40 : isIf Try.prog 40 = false := by kernel_rfl
theorem te40 : elemT Try.prog 40 = none := by kernel_rfl
theorem ta40 : arrT Try.prog 40 = none := by kernel_rfl
theorem ti40 : intT Try.prog 40 = none := by kernel_rfl
theorem tc40 : cellT Try.prog 40 = some (false, 1) := by kernel_rfl
theorem tz40 : szT Try.prog 40 = 1 := by kernel_rfl
theorem ty40 : Try.prog.bytesOf 40 = 8 := by kernel_rfl
theorem tm40 : mapT Try.prog 40 = none := by kernel_rfl
theorem tn40 : zeroSz Try.prog 40 = 1 := by kernel_rfl
theorem t040 : zeroT Try.prog 40 = some (.nilf) := by kernel_rfl
theorem tu40 : (Try.prog.underlying 40).isNone = false := by kernel_rfl
theorem tr40 : structT Try.prog 40 = none := by kernel_rfl
theorem ts41 : isStr Try.prog 41 = false := by kernel_rfl
theorem tb41 : isBl Try.prog 41 = false := by kernel_rfl
theorem tf41 : isIf Try.prog 41 = false := by kernel_rfl
theorem te41 : elemT Try.prog 41 = none := by kernel_rfl
theorem ta41 : arrT Try.prog 41 = none := by kernel_rfl
theorem ti41 : intT Try.prog 41 = none := by kernel_rfl
theorem tc41 : cellT Try.prog 41 = some (false, 1) := by kernel_rfl
theorem tz41 : szT Try.prog 41 = 1 := by kernel_rfl
theorem ty41 : Try.prog.bytesOf 41 = 8 := by kernel_rfl
theorem tm41 : mapT Try.prog 41 = none := by kernel_rfl
theorem tn41 : zeroSz Try.prog 41 = 1 := by kernel_rfl
theorem t041 : zeroT Try.prog 41 = some (.nilf) := by kernel_rfl
theorem tu41 : (Try.prog.underlying 41).isNone = false := by kernel_rfl
theorem tr41 : structT Try.prog 41 = none := by kernel_rfl
theorem ts42 : isStr Try.prog 42 = false := by kernel_rfl
theorem tb42 : isBl Try.prog 42 = false := by kernel_rfl
theorem tf42 : isIf Try.prog 42 = false := by kernel_rfl
theorem te42 : elemT Try.prog 42 = some 44 := by kernel_rfl
theorem ta42 : arrT Try.prog 42 = none := by kernel_rfl
theorem ti42 : intT Try.prog 42 = none := by kernel_rfl
theorem tc42 : cellT Try.prog 42 = some (false, 1) := by kernel_rfl
theorem tz42 : szT Try.prog 42 = 1 := by kernel_rfl
theorem ty42 : Try.prog.bytesOf 42 = 24 := by kernel_rfl
theorem tm42 : mapT Try.prog 42 = none := by kernel_rfl
theorem tn42 : zeroSz Try.prog 42 = 1 := by kernel_rfl
theorem t042 : zeroT Try.prog 42 = some (.sl [] .full) := by kernel_rfl
theorem tu42 : (Try.prog.underlying 42).isNone = false := by kernel_rfl
theorem tr42 : structT Try.prog 42 = none := by kernel_rfl
theorem ts43 : isStr Try.prog 43 = false := by kernel_rfl
theorem tb43 : isBl Try.prog 43 = false := by kernel_rfl
theorem tf43 : isIf Try.prog 43 = false := by kernel_rfl
theorem te43 : elemT Try.prog 43 = none := by kernel_rfl
theorem ta43 : arrT Try.prog 43 = none := by kernel_rfl
theorem ti43 : intT Try.prog 43 = none := by kernel_rfl
theorem tc43 : cellT Try.prog 43 = some (true, 4) := by kernel_rfl
theorem tz43 : szT Try.prog 43 = 4 := by kernel_rfl
theorem ty43 : Try.prog.bytesOf 43 = 56 := by kernel_rfl
theorem tm43 : mapT Try.prog 43 = none := by kernel_rfl
theorem tn43 : zeroSz Try.prog 43 = 4 := by kernel_rfl
theorem t043 : zeroT Try.prog 43 = some (.agg [.int .i64 0, .int .i64 0, .str [], .sl [] .full]) := by kernel_rfl
theorem tu43 : (Try.prog.underlying 43).isNone = false := by kernel_rfl
theorem tr43 : structT Try.prog 43 = some [(0, 1), (1, 1), (2, 1), (3, 1)] := by kernel_rfl
theorem tg43_0 : fieldT Try.prog 43 0 = some (0, 3) := by kernel_rfl
theorem tg43_1 : fieldT Try.prog 43 1 = some (1, 3) := by kernel_rfl
theorem tg43_2 : fieldT Try.prog 43 2 = some (2, 9) := by kernel_rfl
theorem tg43_3 : fieldT Try.prog 43 3 = some (3, 22) := by kernel_rfl
theorem ts44 : isStr Try.prog 44 = false := by kernel_rfl
theorem tb44 : isBl Try.prog 44 = false := by kernel_rfl
theorem tf44 : isIf Try.prog 44 = false := by kernel_rfl
theorem te44 : elemT Try.prog 44 = none := by kernel_rfl
theorem ta44 : arrT Try.prog 44 = none := by kernel_rfl
theorem ti44 : intT Try.prog 44 = none := by kernel_rfl
theorem tc44 : cellT Try.prog 44 = some (true, 4) := by kernel_rfl
theorem tz44 : szT Try.prog 44 = 4 := by kernel_rfl
theorem ty44 : Try.prog.bytesOf 44 = 56 := by kernel_rfl
theorem tm44 : mapT Try.prog 44 = none := by kernel_rfl
theorem tn44 : zeroSz Try.prog 44 = 4 := by kernel_rfl
theorem t044 : zeroT Try.prog 44 = some (.agg [.int .i64 0, .int .i64 0, .str [], .sl [] .full]) := by kernel_rfl
theorem tu44 : (Try.prog.underlying 44).isNone = false := by kernel_rfl
theorem tr44 : structT Try.prog 44 = some [(0, 1), (1, 1), (2, 1), (3, 1)] := by kernel_rfl
theorem tg44_0 : fieldT Try.prog 44 0 = some (0, 3) := by kernel_rfl
theorem tg44_1 : fieldT Try.prog 44 1 = some (1, 3) := by kernel_rfl
theorem tg44_2 : fieldT Try.prog 44 2 = some (2, 9) := by kernel_rfl
theorem tg44_3 : fieldT Try.prog 44 3 = some (3, 22) := by kernel_rfl
theorem ts45 : isStr Try.prog 45 = false := by kernel_rfl
theorem tb45 : isBl Try.prog 45 = false := by kernel_rfl
theorem tf45 : isIf Try.prog 45 = false := by kernel_rfl
theorem te45 : elemT Try.prog 45 = none := by kernel_rfl
theorem ta45 : arrT Try.prog 45 = some (4, 9) := by kernel_rfl
theorem ti45 : intT Try.prog 45 = none := by kernel_rfl
theorem tc45 : cellT Try.prog 45 = some (true, 4) := by kernel_rfl
theorem tz45 : szT Try.prog 45 = 4 := by kernel_rfl
theorem ty45 : Try.prog.bytesOf 45 = 64 := by kernel_rfl
theorem tm45 : mapT Try.prog 45 = none := by kernel_rfl
theorem tn45 : zeroSz Try.prog 45 = 4 := by kernel_rfl
theorem t045 : zeroT Try.prog 45 = some (.agg [.str [], .str [], .str [], .str []]) := by kernel_rfl
theorem tu45 : (Try.prog.underlying 45).isNone = false := by kernel_rfl
theorem tr45 : structT Try.prog 45 = none := by kernel_rfl
theorem ts46 : isStr Try.prog 46 = false := by kernel_rfl
theorem tb46 : isBl Try.prog 46 = false := by kernel_rfl
theorem tf46 : isIf Try.prog 46 = false := by kernel_rfl
theorem te46 : elemT Try.prog 46 = none := by kernel_rfl
theorem ta46 : arrT Try.prog 46 = none := by kernel_rfl
theorem ti46 : intT Try.prog 46 = none := by kernel_rfl
theorem tc46 : cellT Try.prog 46 = some (false, 1) := by kernel_rfl
theorem tz46 : szT Try.prog 46 = 1 := by kernel_rfl
theorem ty46 : Try.prog.bytesOf 46 = 8 := by kernel_rfl
theorem tm46 : mapT Try.prog 46 = none := by kernel_rfl
theorem tn46 : zeroSz Try.prog 46 = 1 := by kernel_rfl
theorem t046 : zeroT Try.prog 46 = some (.nilf) := by kernel_rfl
theorem tu46 : (Try.prog.underlying 46).isNone = false := by kernel_rfl
theorem tr46 : structT Try.prog 46 = none := by kernel_rfl
theorem ts47 : isStr Try.prog 47 = false := by kernel_rfl
theorem tb47 : isBl Try.prog 47 = false := by kernel_rfl
theorem tf47 : isIf Try.prog 47 = false := by kernel_rfl
theorem te47 : elemT Try.prog 47 = none := by kernel_rfl
theorem ta47 : arrT Try.prog 47 = none := by kernel_rfl
theorem ti47 : intT Try.prog 47 = none := by kernel_rfl
theorem tc47 : cellT Try.prog 47 = some (false, 1) := by kernel_rfl
theorem tz47 : szT Try.prog 47 = 1 := by kernel_rfl
theorem ty47 : Try.prog.bytesOf 47 = 8 := by kernel_rfl
theorem tm47 : mapT Try.prog 47 = none := by kernel_rfl
theorem tn47 : zeroSz Try.prog 47 = 1 := by kernel_rfl
theorem t047 : zeroT Try.prog 47 = some (.nilf) := by kernel_rfl
theorem tu47 : (Try.prog.underlying 47).isNone = false := by kernel_rfl
theorem tr47 : structT Try.prog 47 = none := by kernel_rfl
theorem ts48 : isStr Try.prog 48 = false := by kernel_rfl
theorem tb48 : isBl Try.prog 48 = false := by kernel_rfl
theorem tf48 : isIf Try.prog 48 = false := by kernel_rfl
theorem te48 : elemT Try.prog 48 = none := by kernel_rfl
theorem ta48 : arrT Try.prog 48 = none := by kernel_rfl
theorem ti48 : intT Try.prog 48 = none := by kernel_rfl
theorem tc48 : cellT Try.prog 48 = some (false, 1) := by kernel_rfl
theorem tz48 : szT Try.prog 48 = 1 := by kernel_rfl
theorem ty48 : Try.prog.bytesOf 48 = 8 := by kernel_rfl
theorem tm48 : mapT Try.prog 48 = none := by kernel_rfl
theorem tn48 : zeroSz Try.prog 48 = 1 := by kernel_rfl
theorem t048 : zeroT Try.prog 48 = some (.nilf) := by kernel_rfl
theorem tu48 : (Try.prog.underlying 48).isNone = false := by kernel_rfl
theorem tr48 : structT Try.prog 48 = none := by kernel_rfl
theorem ts49 : isStr Try.prog 49 = false := by kernel_rfl
theorem tb49 : isBl Try.prog 49 = false := by kernel_rfl
theorem tf49 : isIf Try.prog 49 = false := by kernel_rfl
theorem te49 : elemT Try.prog 49 = some 9 := by kernel_rfl
theorem ta49 : arrT Try.prog 49 = none := by kernel_rfl
theorem ti49 : intT Try.prog 49 = none := by kernel_rfl
theorem tc49 : cellT Try.prog 49 = some (false, 1) := by kernel_rfl
theorem tz49 : szT Try.prog 49 = 1 := by kernel_rfl
theorem ty49 : Try.prog.bytesOf 49 = 24 := by kernel_rfl
theorem tm49 : mapT Try.prog 49 = none := by kernel_rfl
theorem tn49 : zeroSz Try.prog 49 = 1 := by kernel_rfl
theorem t049 : zeroT Try.prog 49 = some (.sl [] .full) := by kernel_rfl
theorem tu49 : (Try.prog.underlying 49).isNone = false := by kernel_rfl
theorem tr49 : structT Try.prog 49 = none := by kernel_rfl
theorem ts50 : isStr Try.prog 50 = false := by kernel_rfl
theorem tb50 : isBl Try.prog 50 = false := by kernel_rfl
theorem tf50 : isIf Try.prog 50 = false := by kernel_rfl
theorem te50 : elemT Try.prog 50 = none := by kernel_rfl
theorem ta50 : arrT Try.prog 50 = none := by kernel_rfl
theorem ti50 : intT Try.prog 50 = none := by kernel_rfl
theorem tc50 : cellT Try.prog 50 = some (false, 1) := by kernel_rfl
theorem tz50 : szT Try.prog 50 = 1 := by kernel_rfl
theorem ty50 : Try.prog.bytesOf 50 = 8 := by kernel_rfl
theorem tm50 : mapT Try.prog 50 = none := by kernel_rfl
theorem tn50 : zeroSz Try.prog 50 = 1 := by kernel_rfl
theorem t050 : zeroT Try.prog 50 = some (.nilf) := by kernel_rfl
theorem tu50 : (Try.prog.underlying 50).isNone = false := by kernel_rfl
theorem tr50 : structT Try.prog 50 = none := by kernel_rfl
theorem ts51 : isStr Try.prog 51 = false := by kernel_rfl
theorem tb51 : isBl Try.prog 51 = false := by kernel_rfl
theorem tf51 : isIf Try.prog 51 = false := by kernel_rfl
theorem te51 : elemT Try.prog 51 = none := by kernel_rfl
theorem ta51 : arrT Try.prog 51 = none := by kernel_rfl
theorem ti51 : intT Try.prog 51 = none := by kernel_rfl
theorem tc51 : cellT Try.prog 51 = some (false, 1) := by kernel_rfl
theorem tz51 : szT Try.prog 51 = 1 := by kernel_rfl
theorem ty51 : Try.prog.bytesOf 51 = 8 := by kernel_rfl
theorem tm51 : mapT Try.prog 51 = none := by kernel_rfl
theorem tn51 : zeroSz Try.prog 51 = 1 := by kernel_rfl
theorem t051 : zeroT Try.prog 51 = some (.nilf) := by kernel_rfl
theorem tu51 : (Try.prog.underlying 51).isNone = false := by kernel_rfl
theorem tr51 : structT Try.prog 51 = none := by kernel_rfl
theorem ts52 : isStr Try.prog 52 = false := by kernel_rfl
theorem tb52 : isBl Try.prog 52 = false := by kernel_rfl
theorem tf52 : isIf Try.prog 52 = false := by kernel_rfl
theorem te52 : elemT Try.prog 52 = none := by kernel_rfl
theorem ta52 : arrT Try.prog 52 = none := by kernel_rfl
theorem ti52 : intT Try.prog 52 = none := by kernel_rfl
theorem tc52 : cellT Try.prog 52 = some (false, 1) := by kernel_rfl
theorem tz52 : szT Try.prog 52 = 1 := by kernel_rfl
theorem ty52 : Try.prog.bytesOf 52 = 8 := by kernel_rfl
theorem tm52 : mapT Try.prog 52 = none := by kernel_rfl
theorem tn52 : zeroSz Try.prog 52 = 1 := by kernel_rfl
theorem t052 : zeroT Try.prog 52 = some (.nilf) := by kernel_rfl
theorem tu52 : (Try.prog.underlying 52).isNone = false := by kernel_rfl
theorem tr52 : structT Try.prog 52 = none := by kernel_rfl
theorem ts53 : isStr Try.prog 53 = false := by kernel_rfl
theorem tb53 : isBl Try.prog 53 = false := by kernel_rfl
theorem tf53 : isIf Try.prog 53 = false := by kernel_rfl
theorem te53 : elemT Try.prog 53 = none := by kernel_rfl
theorem ta53 : arrT Try.prog 53 = none := by kernel_rfl
theorem ti53 : intT Try.prog 53 = none := by kernel_rfl
theorem tc53 : cellT Try.prog 53 = some (false, 1) := by kernel_rfl
theorem tz53 : szT Try.prog 53 = 1 := by kernel_rfl
theorem ty53 : Try.prog.bytesOf 53 = 8 := by kernel_rfl
theorem tm53 : mapT Try.prog 53 = none := by kernel_rfl
theorem tn53 : zeroSz Try.prog 53 = 1 := by kernel_rfl
theorem t053 : zeroT Try.prog 53 = some (.nilp) := by kernel_rfl
theorem tu53 : (Try.prog.underlying 53).isNone = false := by kernel_rfl
theorem tr53 : structT Try.prog 53 = none := by kernel_rfl
theorem ts54 : isStr Try.prog 54 = false := by kernel_rfl
theorem tb54 : isBl Try.prog 54 = false := by kernel_rfl
theorem tf54 : isIf Try.prog 54 = false := by kernel_rfl
theorem te54 : elemT Try.prog 54 = none := by kernel_rfl
theorem ta54 : arrT Try.prog 54 = none := by kernel_rfl
theorem ti54 : intT Try.prog 54 = none := by kernel_rfl
theorem tc54 : cellT Try.prog 54 = some (false, 1) := by kernel_rfl
theorem tz54 : szT Try.prog 54 = 1 := by kernel_rfl
theorem ty54 : Try.prog.bytesOf 54 = 8 := by kernel_rfl
theorem tm54 : mapT Try.prog 54 = none := by kernel_rfl
theorem tn54 : zeroSz Try.prog 54 = 1 := by kernel_rfl
theorem t054 : zeroT Try.prog 54 = some (.nilf) := by kernel_rfl
theorem tu54 : (Try.prog.underlying 54).isNone = false := by kernel_rfl
theorem tr54 : structT Try.prog 54 = none := by kernel_rfl
theorem ts55 : isStr Try.prog 55 = false := by kernel_rfl
theorem tb55 : isBl Try.prog 55 = false := by kernel_rfl
theorem tf55 : isIf Try.prog 55 = false := by kernel_rfl
theorem te55 : elemT Try.prog 55 = none := by kernel_rfl
theorem ta55 : arrT Try.prog 55 = none := by kernel_rfl
theorem ti55 : intT Try.prog 55 = none := by kernel_rfl
theorem tc55 : cellT Try.prog 55 = some (true, 2) := by kernel_rfl
theorem tz55 : szT Try.prog 55 = 2 := by kernel_rfl
theorem ty55 : Try.prog.bytesOf 55 = 32 := by kernel_rfl
theorem tm55 : mapT Try.prog 55 = none := by kernel_rfl
theorem tn55 : zeroSz Try.prog 55 = 2 := by kernel_rfl
theorem t055 : zeroT Try.prog 55 = some (.agg [.sl [] .full, .int .i64 0]) := by kernel_rfl
theorem tu55 : (Try.prog.underlying 55).isNone = false := by kernel_rfl
theorem tr55 : structT Try.prog 55 = some [(0, 1), (1, 1)] := by kernel_rfl
theorem tg55_0 : fieldT Try.prog 55 0 = some (0, 22) := by kernel_rfl
theorem tg55_1 : fieldT Try.prog 55 1 = some (1, 3) := by kernel_rfl
theorem ts56 : isStr Try.prog 56 = false := by kernel_rfl
theorem tb56 : isBl Try.prog 56 = false := by kernel_rfl
theorem tf56 : isIf Try.prog 56 = false := by kernel_rfl
theorem te56 : elemT Try.prog 56 = none := by kernel_rfl
theorem ta56 : arrT Try.prog 56 = none := by kernel_rfl
theorem ti56 : intT Try.prog 56 = none := by kernel_rfl
theorem tc56 : cellT Try.prog 56 = some (true, 2) := by kernel_rfl
theorem tz56 : szT Try.prog 56 = 2 := by kernel_rfl
theorem ty56 : Try.prog.bytesOf 56 = 32 := by kernel_rfl
theorem tm56 : mapT Try.prog 56 = none := by kernel_rfl
theorem tn56 : zeroSz Try.prog 56 = 2 := by kernel_rfl
theorem t056 : zeroT Try.prog 56 = some (.agg [.sl [] .full, .int .i64 0]) := by kernel_rfl
theorem tu56 : (Try.prog.underlying 56).isNone = false := by kernel_rfl
theorem tr56 : structT Try.prog 56 = some [(0, 1), (1, 1)] := by kernel_rfl
theorem tg56_0 : fieldT Try.prog 56 0 = some (0, 22) := by kernel_rfl
theorem tg56_1 : fieldT Try.prog 56 1 = some (1, 3) := by kernel_rfl
theorem ts57 : isStr Try.prog 57 = false := by kernel_rfl
theorem tb57 : isBl Try.prog 57 = false := by kernel_rfl
theorem tf57 : isIf Try.prog 57 = false := by kernel_rfl
theorem te57 : elemT Try.prog 57 = none := by kernel_rfl
theorem ta57 : arrT Try.prog 57 = none := by kernel_rfl
theorem ti57 : intT Try.prog 57 = none := by kernel_rfl
theorem tc57 : cellT Try.prog 57 = some (false, 1) := by kernel_rfl
theorem tz57 : szT Try.prog 57 = 1 := by kernel_rfl
theorem ty57 : Try.prog.bytesOf 57 = 8 := by kernel_rfl
theorem tm57 : mapT Try.prog 57 = none := by kernel_rfl
theorem tn57 : zeroSz Try.prog 57 = 1 := by kernel_rfl
theorem t057 : zeroT Try.prog 57 = some (.nilf) := by kernel_rfl
theorem tu57 : (Try.prog.underlying 57).isNone = false := by kernel_rfl
theorem tr57 : structT Try.prog 57 = none := by kernel_rfl
theorem ts58 : isStr Try.prog 58 = false := by kernel_rfl
theorem tb58 : isBl Try.prog 58 = false := by kernel_rfl
theorem tf58 : isIf Try.prog 58 = false := by kernel_rfl
theorem te58 : elemT Try.prog 58 = none := by kernel_rfl
theorem ta58 : arrT Try.prog 58 = none := by kernel_rfl
theorem ti58 : intT Try.prog 58 = none := by kernel_rfl
theorem tc58 : cellT Try.prog 58 = some (false, 1) := by kernel_rfl
theorem tz58 : szT Try.prog 58 = 1 := by kernel_rfl
theorem ty58 : Try.prog.bytesOf 58 = 8 := by kernel_rfl
theorem tm58 : mapT Try.prog 58 = none := by kernel_rfl
theorem tn58 : zeroSz Try.prog 58 = 1 := by kernel_rfl
theorem t058 : zeroT Try.prog 58 = some (.nilf) := by kernel_rfl
theorem tu58 : (Try.prog.underlying 58).isNone = false := by kernel_rfl
theorem tr58 : structT Try.prog 58 = none := by kernel_rfl
theorem ts59 : isStr Try.prog 59 = false := by kernel_rfl
theorem tb59 : isBl Try.prog 59 = false := by kernel_rfl
theorem tf59 : isIf Try.prog 59 = false := by kernel_rfl
theorem te59 : elemT Try.prog 59 = none := by kernel_rfl
theorem ta59 : arrT Try.prog 59 = none := by kernel_rfl
theorem ti59 : intT Try.prog 59 = none := by kernel_rfl
theorem tc59 : cellT Try.prog 59 = some (false, 1) := by kernel_rfl
theorem tz59 : szT Try.prog 59 = 1 := by kernel_rfl
theorem ty59 : Try.prog.bytesOf 59 = 8 := by kernel_rfl
theorem tm59 : mapT Try.prog 59 = none := by kernel_rfl
theorem tn59 : zeroSz Try.prog 59 = 1 := by kernel_rfl
theorem t059 : zeroT Try.prog 59 = some (.nilf) := by kernel_rfl
theorem tu59 : (Try.prog.underlying 59).isNone = false := by kernel_rfl
theorem tr59 : structT Try.prog 59 = none := by kernel_rfl
theorem ts60 : isStr Try.prog 60 = false := by kernel_rfl
theorem tb60 : isBl Try.prog 60 = false := by kernel_rfl
theorem tf60 : isIf Try.prog 60 = false := by kernel_rfl
theorem te60 : elemT Try.prog 60 = none := by kernel_rfl
theorem ta60 : arrT Try.prog 60 = none := by kernel_rfl
theorem ti60 : intT Try.prog 60 = none := by kernel_rfl
theorem tc60 : cellT Try.prog 60 = some (false, 1) := by kernel_rfl
theorem tz60 : szT Try.prog 60 = 1 := by kernel_rfl
theorem ty60 : Try.prog.bytesOf 60 = 8 := by kernel_rfl
theorem tm60 : mapT Try.prog 60 = none := by kernel_rfl
theorem tn60 : zeroSz Try.prog 60 = 1 := by kernel_rfl
theorem t060 : zeroT Try.prog 60 = some (.nilf) := by kernel_rfl
theorem tu60 : (Try.prog.underlying 60).isNone = false := by kernel_rfl
theorem tr60 : structT Try.prog 60 = none := by kernel_rfl
theorem ts61 : isStr Try.prog 61 = false := by kernel_rfl
theorem tb61 : isBl Try.prog 61 = false := by kernel_rfl
theorem tf61 : isIf Try.prog 61 = false := by kernel_rfl
theorem te61 : elemT Try.prog 61 = none := by kernel_rfl
theorem ta61 : arrT Try.prog 61 = none := by kernel_rfl
theorem ti61 : intT Try.prog 61 = none := by kernel_rfl
theorem tc61 : cellT Try.prog 61 = some (false, 1) := by kernel_rfl
theorem tz61 : szT Try.prog 61 = 1 := by kernel_rfl
theorem ty61 : Try.prog.bytesOf 61 = 8 := by kernel_rfl
theorem tm61 : mapT Try.prog 61 = none := by kernel_rfl
theorem tn61 : zeroSz Try.prog 61 = 1 := by kernel_rfl
theorem t061 : zeroT Try.prog 61 = some (.nilf) := by kernel_rfl
theorem tu61 : (Try.prog.underlying 61).isNone = false := by kernel_rfl
theorem tr61 : structT Try.prog 61 = none := by kernel_rfl
theorem ts62 : isStr Try.prog 62 = false := by kernel_rfl
theorem tb62 : isBl Try.prog 62 = false := by kernel_rfl
theorem tf62 : isIf Try.prog 62 = false := by kernel_rfl
theorem te62 : elemT Try.prog 62 = none := by kernel_rfl
theorem ta62 : arrT Try.prog 62 = none := by kernel_rfl
theorem ti62 : intT Try.prog 62 = none := by kernel_rfl
theorem tc62 : cellT Try.prog 62 = some (false, 1) := by kernel_rfl
theorem tz62 : szT Try.prog 62 = 1 := by kernel_rfl
theorem ty62 : Try.prog.bytesOf 62 = 8 := by kernel_rfl
theorem tm62 : mapT Try.prog 62 = none := by kernel_rfl
theorem tn62 : zeroSz Try.prog 62 = 1 := by kernel_rfl
theorem t062 : zeroT Try.prog 62 = some (.nilf) := by kernel_rfl
theorem tu62 : (Try.prog.underlying 62).isNone = false := by kernel_rfl
theorem tr62 : structT Try.prog 62 = none := by kernel_rfl
theorem ts63 : isStr Try.prog 63 = false := by kernel_rfl
theorem tb63 : isBl Try.prog 63 = false := by kernel_rfl
theorem tf63 : isIf Try.prog 63 = false := by kernel_rfl
theorem te63 : elemT Try.prog 63 = none := by kernel_rfl
theorem ta63 : arrT Try.prog 63 = none := by kernel_rfl
theorem ti63 : intT Try.prog 63 = none := by kernel_rfl
theorem tc63 : cellT Try.prog 63 = some (false, 1) := by kernel_rfl
theorem tz63 : szT Try.prog 63 = 1 := by kernel_rfl
theorem ty63 : Try.prog.bytesOf 63 = 8 := by kernel_rfl
theorem tm63 : mapT Try.prog 63 = none := by kernel_rfl
theorem tn63 : zeroSz Try.prog 63 = 1 := by kernel_rfl
theorem t063 : zeroT Try.prog 63 = some (.nilf) := by kernel_rfl
theorem tu63 : (Try.prog.underlying 63).isNone = false := by kernel_rfl
theorem tr63 : structT Try.prog 63 = none := by kernel_rfl
theorem ts64 : isStr Try.prog 64 = false := by kernel_rfl
theorem tb64 : isBl Try.prog 64 = false := by kernel_rfl
theorem tf64 : isIf Try.prog 64 = false := by kernel_rfl
theorem te64 : elemT Try.prog 64 = none := by kernel_rfl
theorem ta64 : arrT Try.prog 64 = none := by kernel_rfl
theorem ti64 : intT Try.prog 64 = none := by kernel_rfl
theorem tc64 : cellT Try.prog 64 = some (true, 4) := by kernel_rfl
theorem tz64 : szT Try.prog 64 = 4 := by kernel_rfl
theorem ty64 : Try.prog.bytesOf 64 = 24 := by kernel_rfl
theorem tm64 : mapT Try.prog 64 = none := by kernel_rfl
theorem tn64 : zeroSz Try.prog 64 = 4 := by kernel_rfl
theorem t064 : zeroT Try.prog 64 = some (.agg [.int .i64 0, .int .i64 0, .bool false, .bool false]) := by kernel_rfl
theorem tu64 : (Try.prog.underlying 64).isNone = false := by kernel_rfl
theorem tr64 : structT Try.prog 64 = some [(0, 1), (1, 1), (2, 1), (3, 1)] := by kernel_rfl
theorem tg64_0 : fieldT Try.prog 64 0 = some (0, 3) := by kernel_rfl
theorem tg64_1 : fieldT Try.prog 64 1 = some (1, 3) := by kernel_rfl
theorem tg64_2 : fieldT Try.prog 64 2 = some (2, 4) := by kernel_rfl
theorem tg64_3 : fieldT Try.prog 64 3 = some (3, 4) := by kernel_rfl
theorem ts65 : isStr Try.prog 65 = false := by kernel_rfl
theorem tb65 : isBl Try.prog 65 = false := by kernel_rfl
theorem tf65 : isIf Try.prog 65 = false := by kernel_rfl
theorem te65 : elemT Try.prog 65 = none := by kernel_rfl
theorem ta65 : arrT Try.prog 65 = none := by kernel_rfl
theorem ti65 : intT Try.prog 65 = none := by kernel_rfl
theorem tc65 : cellT Try.prog 65 = some (true, 4) := by kernel_rfl
theorem tz65 : szT Try.prog 65 = 4 := by kernel_rfl
theorem ty65 : Try.prog.bytesOf 65 = 24 := by kernel_rfl
theorem tm65 : mapT Try.prog 65 = none := by kernel_rfl
theorem tn65 : zeroSz Try.prog 65 = 4 := by kernel_rfl
theorem t065 : zeroT Try.prog 65 = some (.agg [.int .i64 0, .int .i64 0, .bool false, .bool false]) := by kernel_rfl
theorem tu65 : (Try.prog.underlying 65).isNone = false := by kernel_rfl
theorem tr65 : structT Try.prog 65 = some [(0, 1), (1, 1), (2, 1), (3, 1)] := by kernel_rfl
theorem tg65_0 : fieldT Try.prog 65 0 = some (0, 3) := by kernel_rfl
theorem tg65_1 : fieldT Try.prog 65 1 = some (1, 3) := by kernel_rfl
theorem tg65_2 : fieldT Try.prog 65 2 = some (2, 4) := by kernel_rfl
theorem tg65_3 : fieldT Try.prog 65 3 = some (3, 4) := by kernel_rfl
theorem ts66 : isStr Try.prog 66 = false := by kernel_rfl
theorem tb66 : isBl Try.prog 66 = false := by kernel_rfl
theorem tf66 : isIf Try.prog 66 = false := by kernel_rfl
theorem te66 : elemT Try.prog 66 = none := by kernel_rfl
theorem ta66 : arrT Try.prog 66 = none := by kernel_rfl
theorem ti66 : intT Try.prog 66 = none := by kernel_rfl
theorem tc66 : cellT Try.prog 66 = some (false, 1) := by kernel_rfl
theorem tz66 : szT Try.prog 66 = 1 := by kernel_rfl
theorem ty66 : Try.prog.bytesOf 66 = 0 := by kernel_rfl
theorem tm66 : mapT Try.prog 66 = none := by kernel_rfl
theorem tn66 : zeroSz Try.prog 66 = 1 := by kernel_rfl
theorem t066 : zeroT Try.prog 66 = some (.junk) := by kernel_rfl
theorem tu66 : (Try.prog.underlying 66).isNone = false := by kernel_rfl
theorem tr66 : structT Try.prog 66 = none := by kernel_rfl
theorem ts67 : isStr Try.prog 67 = false := by kernel_rfl
theorem tb67 : isBl Try.prog 67 = false := by kernel_rfl
theorem tf67 : isIf Try.prog 67 = false := by kernel_rfl
theorem te67 : elemT Try.prog 67 = none := by kernel_rfl
theorem ta67 : arrT Try.prog 67 = none := by kernel_rfl
theorem ti67 : intT Try.prog 67 = none := by kernel_rfl
theorem tc67 : cellT Try.prog 67 = some (false, 1) := by kernel_rfl
theorem tz67 : szT Try.prog 67 = 1 := by kernel_rfl
theorem ty67 : Try.prog.bytesOf 67 = 8 := by kernel_rfl
theorem tm67 : mapT Try.prog 67 = none := by kernel_rfl
theorem tn67 : zeroSz Try.prog 67 = 1 := by kernel_rfl
theorem t067 : zeroT Try.prog 67 = some (.nilf) := by kernel_rfl
theorem tu67 : (Try.prog.underlying 67).isNone = false := by kernel_rfl
theorem tr67 : structT Try.prog 67 = none := by kernel_rfl
theorem ts68 : isStr Try.prog 68 = false := by kernel_rfl
theorem tb68 : isBl Try.prog 68 = false := by kernel_rfl
theorem tf68 : isIf Try.prog 68 = false := by kernel_rfl
theorem te68 : elemT Try.prog 68 = none := by kernel_rfl
theorem ta68 : arrT Try.prog 68 = none := by kernel_rfl
theorem ti68 : intT Try.prog 68 = none := by kernel_rfl
theorem tc68 : cellT Try.prog 68 = some (false, 1) := by kernel_rfl
theorem tz68 : szT Try.prog 68 = 1 := by kernel_rfl
theorem ty68 : Try.prog.bytesOf 68 = 8 := by kernel_rfl
theorem tm68 : mapT Try.prog 68 = none := by kernel_rfl
theorem tn68 : zeroSz Try.prog 68 = 1 := by kernel_rfl
theorem t068 : zeroT Try.prog 68 = some (.nilp) := by kernel_rfl
theorem tu68 : (Try.prog.underlying 68).isNone = false := by kernel_rfl
theorem tr68 : structT Try.prog 68 = none := by kernel_rfl
theorem ts69 : isStr Try.prog 69 = false := by kernel_rfl
theorem tb69 : isBl Try.prog 69 = false := by kernel_rfl
theorem tf69 : isIf Try.prog 69 = false := by kernel_rfl
theorem te69 : elemT Try.prog 69 = none := by kernel_rfl
theorem ta69 : arrT Try.prog 69 = none := by kernel_rfl
theorem ti69 : intT Try.prog 69 = none := by kernel_rfl
theorem tc69 : cellT Try.prog 69 = some (true, 1) := by kernel_rfl
theorem tz69 : szT Try.prog 69 = 1 := by kernel_rfl
theorem ty69 : Try.prog.bytesOf 69 = 24 := by kernel_rfl
theorem tm69 : mapT Try.prog 69 = none := by kernel_rfl
theorem tn69 : zeroSz Try.prog 69 = 1 := by kernel_rfl
theorem t069 : zeroT Try.prog 69 = some (.agg [.sl [] .full]) := by kernel_rfl
theorem tu69 : (Try.prog.underlying 69).isNone = false := by kernel_rfl
theorem tr69 : structT Try.prog 69 = some [(0, 1)] := by kernel_rfl
theorem tg69_0 : fieldT Try.prog 69 0 = some (0, 23) := by kernel_rfl
theorem ts70 : isStr Try.prog 70 = false := by kernel_rfl
theorem tb70 : isBl Try.prog 70 = false := by kernel_rfl
theorem tf70 : isIf Try.prog 70 = false := by kernel_rfl
theorem te70 : elemT Try.prog 70 = none := by kernel_rfl
theorem ta70 : arrT Try.prog 70 = none := by kernel_rfl
theorem ti70 : intT Try.prog 70 = none := by kernel_rfl
theorem tc70 : cellT Try.prog 70 = some (false, 1) := by kernel_rfl
theorem tz70 : szT Try.prog 70 = 1 := by kernel_rfl
theorem ty70 : Try.prog.bytesOf 70 = 8 := by kernel_rfl
theorem tm70 : mapT Try.prog 70 = none := by kernel_rfl
theorem tn70 : zeroSz Try.prog 70 = 1 := by kernel_rfl
theorem t070 : zeroT Try.prog 70 = some (.nilf) := by kernel_rfl
theorem tu70 : (Try.prog.underlying 70).isNone = false := by kernel_rfl
theorem tr70 : structT Try.prog 70 = none := by kernel_rfl
theorem ts71 : isStr Try.prog 71 = false := by kernel_rfl
theorem tb71 : isBl Try.prog 71 = false := by kernel_rfl
theorem tf71 : isIf Try.prog 71 = false := by kernel_rfl
theorem te71 : elemT Try.prog 71 = none := by kernel_rfl
theorem ta71 : arrT Try.prog 71 = none := by kernel_rfl
theorem ti71 : intT Try.prog 71 = none := by kernel_rfl
theorem tc71 : cellT Try.prog 71 = some (false, 1) := by kernel_rfl
theorem tz71 : szT Try.prog 71 = 1 := by kernel_rfl
theorem ty71 : Try.prog.bytesOf 71 = 0 := by kernel_rfl
theorem tm71 : mapT Try.prog 71 = none := by kernel_rfl
theorem tn71 : zeroSz Try.prog 71 = 1 := by kernel_rfl
theorem t071 : zeroT Try.prog 71 = some (.junk) := by kernel_rfl
theorem tu71 : (Try.prog.underlying 71).isNone = false := by kernel_rfl
theorem tr71 : structT Try.prog 71 = none := by kernel_rfl
theorem ts72 : isStr Try.prog 72 = false := by kernel_rfl
theorem tb72 : isBl Try.prog 72 = false := by kernel_rfl
theorem tf72 : isIf Try.prog 72 = false := by kernel_rfl
theorem te72 : elemT Try.prog 72 = none := by kernel_rfl
theorem ta72 : arrT Try.prog 72 = none := by kernel_rfl
theorem ti72 : intT Try.prog 72 = none := by kernel_rfl
theorem tc72 : cellT Try.prog 72 = some (false, 1) := by kernel_rfl
theorem tz72 : szT Try.prog 72 = 1 := by kernel_rfl
theorem ty72 : Try.prog.bytesOf 72 = 8 := by kernel_rfl
theorem tm72 : mapT Try.prog 72 = none := by kernel_rfl
theorem tn72 : zeroSz Try.prog 72 = 1 := by kernel_rfl
theorem t072 : zeroT Try.prog 72 = some (.nilf) := by kernel_rfl
theorem tu72 : (Try.prog.underlying 72).isNone = false := by kernel_rfl
theorem tr72 : structT Try.prog 72 = none := by kernel_rfl
theorem ts73 : isStr Try.prog 73 = false := by kernel_rfl
theorem tb73 : isBl Try.prog 73 = false := by kernel_rfl
theorem tf73 : isIf Try.prog 73 = false := by kernel_rfl
theorem te73 : elemT Try.prog 73 = none := by kernel_rfl
theorem ta73 : arrT Try.prog 73 = none := by kernel_rfl
theorem ti73 : intT Try.prog 73 = none := by kernel_rfl
theorem tc73 : cellT Try.prog 73 = some (false, 1) := by kernel_rfl
theorem tz73 : szT Try.prog 73 = 1 := by kernel_rfl
theorem ty73 : Try.prog.bytesOf 73 = 8 := by kernel_rfl
theorem tm73 : mapT Try.prog 73 = none := by kernel_rfl
theorem tn73 : zeroSz Try.prog 73 = 1 := by kernel_rfl
theorem t073 : zeroT Try.prog 73 = some (.nilf) := by kernel_rfl
theorem tu73 : (Try.prog.underlying 73).isNone = false := by kernel_rfl
theorem tr73 : structT Try.prog 73 = none := by kernel_rfl
theorem ts74 : isStr Try.prog 74 = false := by kernel_rfl
theorem tb74 : isBl Try.prog 74 = false := by kernel_rfl
theorem tf74 : isIf Try.prog 74 = false := by kernel_rfl
theorem te74 : elemT Try.prog 74 = none := by kernel_rfl
theorem ta74 : arrT Try.prog 74 = none := by kernel_rfl
theorem ti74 : intT Try.prog 74 = none := by kernel_rfl
theorem tc74 : cellT Try.prog 74 = some (false, 1) := by kernel_rfl
theorem tz74 : szT Try.prog 74 = 1 := by kernel_rfl
theorem ty74 : Try.prog.bytesOf 74 = 8 := by kernel_rfl
theorem tm74 : mapT Try.prog 74 = none := by kernel_rfl
theorem tn74 : zeroSz Try.prog 74 = 1 := by kernel_rfl
theorem t074 : zeroT Try.prog 74 = some (.nilf) := by kernel_rfl
theorem tu74 : (Try.prog.underlying 74).isNone = false := by kernel_rfl
theorem tr74 : structT Try.prog 74 = none := by kernel_rfl
theorem ts75 : isStr Try.prog 75 = false := by kernel_rfl
theorem tb75 : isBl Try.prog 75 = false := by kernel_rfl
theorem tf75 : isIf Try.prog 75 = false := by kernel_rfl
theorem te75 : elemT Try.prog 75 = none := by kernel_rfl
theorem ta75 : arrT Try.prog 75 = none := by kernel_rfl
theorem ti75 : intT Try.prog 75 = none := by kernel_rfl
theorem tc75 : cellT Try.prog 75 = some (false, 1) := by kernel_rfl
theorem tz75 : szT Try.prog 75 = 1 := by kernel_rfl
theorem ty75 : Try.prog.bytesOf 75 = 8 := by kernel_rfl
theorem tm75 : mapT Try.prog 75 = none := by kernel_rfl
theorem tn75 : zeroSz Try.prog 75 = 1 := by kernel_rfl
theorem t075 : zeroT Try.prog 75 = some (.nilf) := by kernel_rfl
theorem tu75 : (Try.prog.underlying 75).isNone = false := by kernel_rfl
theorem tr75 : structT Try.prog 75 = none := by kernel_rfl
theorem ts76 : isStr Try.prog 76 = false := by kernel_rfl
theorem tb76 : isBl Try.prog 76 = false := by kernel_rfl
theorem tf76 : isIf Try.prog 76 = false := by kernel_rfl
theorem te76 : elemT Try.prog 76 = none := by kernel_rfl
theorem ta76 : arrT Try.prog 76 = none := by kernel_rfl
theorem ti76 : intT Try.prog 76 = none := by kernel_rfl
theorem tc76 : cellT Try.prog 76 = some (false, 1) := by kernel_rfl
theorem tz76 : szT Try.prog 76 = 1 := by kernel_rfl
theorem ty76 : Try.prog.bytesOf 76 = 8 := by kernel_rfl
theorem tm76 : mapT Try.prog 76 = none := by kernel_rfl
theorem tn76 : zeroSz Try.prog 76 = 1 := by kernel_rfl
theorem t076 : zeroT Try.prog 76 = some (.nilf) := by kernel_rfl
theorem tu76 : (Try.prog.underlying 76).isNone = false := by kernel_rfl
theorem tr76 : structT Try.prog 76 = none := by kernel_rfl
theorem ts77 : isStr Try.prog 77 = false := by kernel_rfl
theorem tb77 : isBl Try.prog 77 = false := by kernel_rfl
theorem tf77 : isIf Try.prog 77 = false := by kernel_rfl
theorem te77 : elemT Try.prog 77 = none := by kernel_rfl
theorem ta77 : arrT Try.prog 77 = none := by kernel_rfl
theorem ti77 : intT Try.prog 77 = none := by kernel_rfl
theorem tc77 : cellT Try.prog 77 = some (false, 1) := by kernel_rfl
theorem tz77 : szT Try.prog 77 = 1 := by kernel_rfl
theorem ty77 : Try.prog.bytesOf 77 = 8 := by kernel_rfl
theorem tm77 : mapT Try.prog 77 = none := by kernel_rfl
theorem tn77 : zeroSz Try.prog 77 = 1 := by kernel_rfl
theorem t077 : zeroT Try.prog 77 = some (.nilf) := by kernel_rfl
theorem tu77 : (Try.prog.underlying 77).isNone = false := by kernel_rfl
theorem tr77 : structT Try.prog 77 = none := by kernel_rfl
theorem ts78 : isStr Try.prog 78 = false := by kernel_rfl
theorem tb78 : isBl Try.prog 78 = false := by kernel_rfl
theorem tf78 : isIf Try.prog 78 = false := by kernel_rfl
theorem te78 : elemT Try.prog 78 = none := by kernel_rfl
theorem ta78 : arrT Try.prog 78 = none := by kernel_rfl
theorem ti78 : intT Try.prog 78 = none := by kernel_rfl
theorem tc78 : cellT Try.prog 78 = some (false, 1) := by kernel_rfl
theorem tz78 : szT Try.prog 78 = 1 := by kernel_rfl
theorem ty78 : Try.prog.bytesOf 78 = 8 := by kernel_rfl
theorem tm78 : mapT Try.prog 78 = none := by kernel_rfl
theorem tn78 : zeroSz Try.prog 78 = 1 := by kernel_rfl
theorem t078 : zeroT Try.prog 78 = some (.nilf) := by kernel_rfl
theorem tu78 : (Try.prog.underlying 78).isNone = false := by kernel_rfl
theorem tr78 : structT Try.prog 78 = none := by kernel_rfl
theorem ts79 : isStr Try.prog 79 = false := by kernel_rfl
theorem tb79 : isBl Try.prog 79 = false := by kernel_rfl
theorem tf79 : isIf Try.prog 79 = false := by kernel_rfl
theorem te79 : elemT Try.prog 79 = none := by kernel_rfl
theorem ta79 : arrT Try.prog 79 = none := by kernel_rfl
theorem ti79 : intT Try.prog 79 = none := by kernel_rfl
theorem tc79 : cellT Try.prog 79 = some (true, 4) := by kernel_rfl
theorem tz79 : szT Try.prog 79 = 4 := by kernel_rfl
theorem ty79 : Try.prog.bytesOf 79 = 24 := by kernel_rfl
theorem tm79 : mapT Try.prog 79 = none := by kernel_rfl
theorem tn79 : zeroSz Try.prog 79 = 4 := by kernel_rfl
theorem t079 : zeroT Try.prog 79 = some (.agg [.int .i64 0, .int .i64 0, .bool false, .bool false]) := by kernel_rfl
theorem tu79 : (Try.prog.underlying 79).isNone = false := by kernel_rfl
theorem tr79 : structT Try.prog 79 = some [(0, 1), (1, 1), (2, 1), (3, 1)] := by kernel_rfl
theorem tg79_0 : fieldT Try.prog 79 0 = some (0, 3) := by kernel_rfl
theorem tg79_1 : fieldT Try.prog 79 1 = some (1, 3) := by kernel_rfl
theorem tg79_2 : fieldT Try.prog 79 2 = some (2, 4) := by kernel_rfl
theorem tg79_3 : fieldT Try.prog 79 3 = some (3, 4) := by kernel_rfl
theorem ts80 : isStr Try.prog 80 = false := by kernel_rfl
theorem tb80 : isBl Try.prog 80 = false := by kernel_rfl
theorem tf80 : isIf Try.prog 80 = false := by kernel_rfl
theorem te80 : elemT Try.prog 80 = none := by kernel_rfl
theorem ta80 : arrT Try.prog 80 = none := by kernel_rfl
theorem ti80 : intT Try.prog 80 = none := by kernel_rfl
theorem tc80 : cellT Try.prog 80 = some (false, 1) := by kernel_rfl
theorem tz80 : szT Try.prog 80 = 1 := by kernel_rfl
theorem ty80 : Try.prog.bytesOf 80 = 0 := by kernel_rfl
theorem tm80 : mapT Try.prog 80 = none := by kernel_rfl
theorem tn80 : zeroSz Try.prog 80 = 1 := by kernel_rfl
theorem t080 : zeroT Try.prog 80 = some (.junk) := by kernel_rfl
theorem tu80 : (Try.prog.underlying 80).isNone = false := by kernel_rfl
theorem tr80 : structT Try.prog 80 = none := by kernel_rfl
theorem ts81 : isStr Try.prog 81 = false := by kernel_rfl
theorem tb81 : isBl Try.prog 81 = false := by kernel_rfl
theorem tf81 : isIf Try.prog 81 = false := by kernel_rfl
theorem te81 : elemT Try.prog 81 = none := by kernel_rfl
theorem ta81 : arrT Try.prog 81 = none := by kernel_rfl
theorem ti81 : intT Try.prog 81 = none := by kernel_rfl
theorem tc81 : cellT Try.prog 81 = some (false, 1) := by kernel_rfl
theorem tz81 : szT Try.prog 81 = 1 := by kernel_rfl
theorem ty81 : Try.prog.bytesOf 81 = 8 := by kernel_rfl
theorem tm81 : mapT Try.prog 81 = none := by kernel_rfl
theorem tn81 : zeroSz Try.prog 81 = 1 := by kernel_rfl
theorem t081 : zeroT Try.prog 81 = some (.nilf) := by kernel_rfl
theorem tu81 : (Try.prog.underlying 81).isNone = false := by kernel_rfl
theorem tr81 : structT Try.prog 81 = none := by kernel_rfl
theorem ts82 : isStr Try.prog 82 = false := by kernel_rfl
theorem tb82 : isBl Try.prog 82 = false := by kernel_rfl
theorem tf82 : isIf Try.prog 82 = false := by kernel_rfl
theorem te82 : elemT Try.prog 82 = none := by kernel_rfl
theorem ta82 : arrT Try.prog 82 = none := by kernel_rfl
theorem ti82 : intT Try.prog 82 = none := by kernel_rfl
theorem tc82 : cellT Try.prog 82 = some (false, 1) := by kernel_rfl
theorem tz82 : szT Try.prog 82 = 1 := by kernel_rfl
theorem ty82 : Try.prog.bytesOf 82 = 8 := by kernel_rfl
theorem tm82 : mapT Try.prog 82 = none := by kernel_rfl
theorem tn82 : zeroSz Try.prog 82 = 1 := by kernel_rfl
theorem t082 : zeroT Try.prog 82 = some (.nilf) := by kernel_rfl
theorem tu82 : (Try.prog.underlying 82).isNone = false := by kernel_rfl
theorem tr82 : structT Try.prog 82 = none := by kernel_rfl
theorem ts83 : isStr Try.prog 83 = false := by kernel_rfl
theorem tb83 : isBl Try.prog 83 = false := by kernel_rfl
theorem tf83 : isIf Try.prog 83 = false := by kernel_rfl
theorem te83 : elemT Try.prog 83 = none := by kernel_rfl
theorem ta83 : arrT Try.prog 83 = none := by kernel_rfl
theorem ti83 : intT Try.prog 83 = none := by kernel_rfl
theorem tc83 : cellT Try.prog 83 = some (false, 1) := by kernel_rfl
theorem tz83 : szT Try.prog 83 = 1 := by kernel_rfl
theorem ty83 : Try.prog.bytesOf 83 = 8 := by kernel_rfl
theorem tm83 : mapT Try.prog 83 = none := by kernel_rfl
theorem tn83 : zeroSz Try.prog 83 = 1 := by kernel_rfl
theorem t083 : zeroT Try.prog 83 = some (.nilf) := by kernel_rfl
theorem tu83 : (Try.prog.underlying 83).isNone = false := by kernel_rfl
theorem tr83 : structT Try.prog 83 = none := by kernel_rfl
theorem ts84 : isStr Try.prog 84 = false := by kernel_rfl
theorem tb84 : isBl Try.prog 84 = false := by kernel_rfl
theorem tf84 : isIf Try.prog 84 = false := by kernel_rfl
theorem te84 : elemT Try.prog 84 = none := by kernel_rfl
theorem ta84 : arrT Try.prog 84 = none := by kernel_rfl
theorem ti84 : intT Try.prog 84 = none := by kernel_rfl
theorem tc84 : cellT Try.prog 84 = some (false, 1) := by kernel_rfl
theorem tz84 : szT Try.prog 84 = 1 := by kernel_rfl
theorem ty84 : Try.prog.bytesOf 84 = 8 := by kernel_rfl
theorem tm84 : mapT Try.prog 84 = none := by kernel_rfl
theorem tn84 : zeroSz Try.prog 84 = 1 := by kernel_rfl
theorem t084 : zeroT Try.prog 84 = some (.nilf) := by kernel_rfl
theorem tu84 : (Try.prog.underlying 84).isNone = false := by kernel_rfl
theorem tr84 : structT Try.prog 84 = none := by kernel_rfl
theorem ts85 : isStr Try.prog 85 = false := by kernel_rfl
theorem tb85 : isBl Try.prog 85 = false := by kernel_rfl
theorem tf85 : isIf Try.prog 85 = false := by kernel_rfl
theorem te85 : elemT Try.prog 85 = none := by kernel_rfl
theorem ta85 : arrT Try.prog 85 = none := by kernel_rfl
theorem ti85 : intT Try.prog 85 = none := by kernel_rfl
theorem tc85 : cellT Try.prog 85 = some (false, 1) := by kernel_rfl
theorem tz85 : szT Try.prog 85 = 1 := by kernel_rfl
theorem ty85 : Try.prog.bytesOf 85 = 8 := by kernel_rfl
theorem tm85 : mapT Try.prog 85 = none := by kernel_rfl
theorem tn85 : zeroSz Try.prog 85 = 1 := by kernel_rfl
theorem t085 : zeroT Try.prog 85 = some (.nilf) := by kernel_rfl
theorem tu85 : (Try.prog.underlying 85).isNone = false := by kernel_rfl
theorem tr85 : structT Try.prog 85 = none := by kernel_rfl
theorem ts86 : isStr Try.prog 86 = false := by kernel_rfl
theorem tb86 : isBl Try.prog 86 = false := by kernel_rfl
theorem tf86 : isIf Try.prog 86 = false := by kernel_rfl
theorem te86 : elemT Try.prog 86 = none := by kernel_rfl
theorem ta86 : arrT Try.prog 86 = none := by kernel_rfl
theorem ti86 : intT Try.prog 86 = none := by kernel_rfl
theorem tc86 : cellT Try.prog 86 = some (false, 1) := by kernel_rfl
theorem tz86 : szT Try.prog 86 = 1 := by kernel_rfl
theorem ty86 : Try.prog.bytesOf 86 = 8 := by kernel_rfl
theorem tm86 : mapT Try.prog 86 = none := by kernel_rfl
theorem tn86 : zeroSz Try.prog 86 = 1 := by kernel_rfl
theorem t086 : zeroT Try.prog 86 = some (.nilf) := by kernel_rfl
theorem tu86 : (Try.prog.underlying 86).isNone = false := by kernel_rfl
theorem tr86 : structT Try.prog 86 = none := by kernel_rfl
theorem ts87 : isStr Try.prog 87 = false := by kernel_rfl
theorem tb87 : isBl Try.prog 87 = false := by kernel_rfl
theorem tf87 : isIf Try.prog 87 = false := by kernel_rfl
theorem te87 : elemT Try.prog 87 = none := by kernel_rfl
theorem ta87 : arrT Try.prog 87 = some (3, 9) := by kernel_rfl
theorem ti87 : intT Try.prog 87 = none := by kernel_rfl
theorem tc87 : cellT Try.prog 87 = some (true, 3) := by kernel_rfl
theorem tz87 : szT Try.prog 87 = 3 := by kernel_rfl
theorem ty87 : Try.prog.bytesOf 87 = 48 := by kernel_rfl
theorem tm87 : mapT Try.prog 87 = none := by kernel_rfl
theorem tn87 : zeroSz Try.prog 87 = 3 := by kernel_rfl
theorem t087 : zeroT Try.prog 87 = some (.agg [.str [], .str [], .str []]) := by kernel_rfl
theorem tu87 : (Try.prog.underlying 87).isNone = false := by kernel_rfl
theorem tr87 : structT Try.prog 87 = none := by kernel_rfl
theorem ts88 : isStr Try.prog 88 = false := by kernel_rfl
theorem tb88 : isBl Try.prog 88 = false := by kernel_rfl
theorem tf88 : isIf Try.prog 88 = false := by kernel_rfl
theorem te88 : elemT Try.prog 88 = none := by kernel_rfl
theorem ta88 : arrT Try.prog 88 = none := by kernel_rfl
theorem ti88 : intT Try.prog 88 = none := by kernel_rfl
theorem tc88 : cellT Try.prog 88 = some (false, 1) := by kernel_rfl
theorem tz88 : szT Try.prog 88 = 1 := by kernel_rfl
theorem ty88 : Try.prog.bytesOf 88 = 8 := by kernel_rfl
theorem tm88 : mapT Try.prog 88 = none := by kernel_rfl
theorem tn88 : zeroSz Try.prog 88 = 1 := by kernel_rfl
theorem t088 : zeroT Try.prog 88 = some (.nilf) := by kernel_rfl
theorem tu88 : (Try.prog.underlying 88).isNone = false := by kernel_rfl
theorem tr88 : structT Try.prog 88 = none := by kernel_rfl
theorem ts89 : isStr Try.prog 89 = false := by kernel_rfl
theorem tb89 : isBl Try.prog 89 = false := by kernel_rfl
theorem tf89 : isIf Try.prog 89 = false := by kernel_rfl
theorem te89 : elemT Try.prog 89 = none := by kernel_rfl
theorem ta89 : arrT Try.prog 89 = none := by kernel_rfl
theorem ti89 : intT Try.prog 89 = none := by kernel_rfl
theorem tc89 : cellT Try.prog 89 = some (false, 1) := by kernel_rfl
theorem tz89 : szT Try.prog 89 = 1 := by kernel_rfl
theorem ty89 : Try.prog.bytesOf 89 = 8 := by kernel_rfl
theorem tm89 : mapT Try.prog 89 = some (9, 65) := by kernel_rfl
theorem tn89 : zeroSz Try.prog 89 = 1 := by kernel_rfl
theorem t089 : zeroT Try.prog 89 = some (.nilm) := by kernel_rfl
theorem tu89 : (Try.prog.underlying 89).isNone = false := by kernel_rfl
theorem tr89 : structT Try.prog 89 = none := by kernel_rfl
theorem ts90 : isStr Try.prog 90 = false := by kernel_rfl
theorem tb90 : isBl Try.prog 90 = false := by kernel_rfl
theorem tf90 : isIf Try.prog 90 = false := by kernel_rfl
theorem te90 : elemT Try.prog 90 = none := by kernel_rfl
theorem ta90 : arrT Try.prog 90 = none := by kernel_rfl
theorem ti90 : intT Try.prog 90 = none := by kernel_rfl
theorem tc90 : cellT Try.prog 90 = some (false, 1) := by kernel_rfl
theorem tz90 : szT Try.prog 90 = 1 := by kernel_rfl
theorem ty90 : Try.prog.bytesOf 90 = 8 := by kernel_rfl
theorem tm90 : mapT Try.prog 90 = none := by kernel_rfl
theorem tn90 : zeroSz Try.prog 90 = 1 := by kernel_rfl
theorem t090 : zeroT Try.prog 90 = some (.nilf) := by kernel_rfl
theorem tu90 : (Try.prog.underlying 90).isNone = false := by kernel_rfl
theorem tr90 : structT Try.prog 90 = none := by kernel_rfl
theorem ts91 : isStr Try.prog 91 = false := by kernel_rfl
theorem tb91 : isBl Try.prog 91 = false := by kernel_rfl
theorem tf91 : isIf Try.prog 91 = false := by kernel_rfl
theorem te91 : elemT Try.prog 91 = none := by kernel_rfl
theorem ta91 : arrT Try.prog 91 = none := by kernel_rfl
theorem ti91 : intT Try.prog 91 = none := by kernel_rfl
theorem tc91 : cellT Try.prog 91 = some (false, 1) := by kernel_rfl
theorem tz91 : szT Try.prog 91 = 1 := by kernel_rfl
theorem ty91 : Try.prog.bytesOf 91 = 8 := by kernel_rfl
theorem tm91 : mapT Try.prog 91 = none := by kernel_rfl
theorem tn91 : zeroSz Try.prog 91 = 1 := by kernel_rfl
theorem t091 : zeroT Try.prog 91 = some (.nilf) := by kernel_rfl
theorem tu91 : (Try.prog.underlying 91).isNone = false := by kernel_rfl
theorem tr91 : structT Try.prog 91 = none := by kernel_rfl
theorem ts92 : isStr Try.prog 92 = false := by kernel_rfl
theorem tb92 : isBl Try.prog 92 = false := by kernel_rfl
theorem tf92 : isIf Try.prog 92 = false := by kernel_rfl
theorem te92 : elemT Try.prog 92 = none := by kernel_rfl
theorem ta92 : arrT Try.prog 92 = none := by kernel_rfl
theorem ti92 : intT Try.prog 92 = none := by kernel_rfl
theorem tc92 : cellT Try.prog 92 = some (false, 1) := by kernel_rfl
theorem tz92 : szT Try.prog 92 = 1 := by kernel_rfl
theorem ty92 : Try.prog.bytesOf 92 = 8 := by kernel_rfl
theorem tm92 : mapT Try.prog 92 = none := by kernel_rfl
theorem tn92 : zeroSz Try.prog 92 = 1 := by kernel_rfl
theorem t092 : zeroT Try.prog 92 = some (.nilf) := by kernel_rfl
theorem tu92 : (Try.prog.underlying 92).isNone = false := by kernel_rfl
theorem tr92 : structT Try.prog 92 = none := by kernel_rfl
theorem ts93 : isStr Try.prog 93 = false := by kernel_rfl
theorem tb93 : isBl Try.prog 93 = false := by kernel_rfl
theorem tf93 : isIf Try.prog 93 = false := by kernel_rfl
theorem te93 : elemT Try.prog 93 = none := by kernel_rfl
theorem ta93 : arrT Try.prog 93 = none := by kernel_rfl
theorem ti93 : intT Try.prog 93 = none := by kernel_rfl
theorem tc93 : cellT Try.prog 93 = some (false, 1) := by kernel_rfl
theorem tz93 : szT Try.prog 93 = 1 := by kernel_rfl
theorem ty93 : Try.prog.bytesOf 93 = 8 := by kernel_rfl
theorem tm93 : mapT Try.prog 93 = none := by kernel_rfl
theorem tn93 : zeroSz Try.prog 93 = 1 := by kernel_rfl
theorem t093 : zeroT Try.prog 93 = some (.nilf) := by kernel_rfl
theorem tu93 : (Try.prog.underlying 93).isNone = false := by kernel_rfl
theorem tr93 : structT Try.prog 93 = none := by kernel_rfl
theorem ts94 : isStr Try.prog 94 = false := by kernel_rfl
theorem tb94 : isBl Try.prog 94 = false := by kernel_rfl
theorem tf94 : isIf Try.prog 94 = false := by kernel_rfl
theorem te94 : elemT Try.prog 94 = none := by kernel_rfl
theorem ta94 : arrT Try.prog 94 = none := by kernel_rfl
theorem ti94 : intT Try.prog 94 = none := by kernel_rfl
theorem tc94 : cellT Try.prog 94 = some (false, 1) := by kernel_rfl
theorem tz94 : szT Try.prog 94 = 1 := by kernel_rfl
theorem ty94 : Try.prog.bytesOf 94 = 8 := by kernel_rfl
theorem tm94 : mapT Try.prog 94 = none := by kernel_rfl
theorem tn94 : zeroSz Try.prog 94 = 1 := by kernel_rfl
theorem t094 : zeroT Try.prog 94 = some (.nilf) := by kernel_rfl
theorem tu94 : (Try.prog.underlying 94).isNone = false := by kernel_rfl
theorem tr94 : structT Try.prog 94 = none := by kernel_rfl
theorem ts95 : isStr Try.prog 95 = false := by kernel_rfl
theorem tb95 : isBl Try.prog 95 = false := by kernel_rfl
theorem tf95 : isIf Try.prog 95 = false := by kernel_rfl
theorem te95 : elemT Try.prog 95 = none := by kernel_rfl
theorem ta95 : arrT Try.prog 95 = none := by kernel_rfl
theorem ti95 : intT Try.prog 95 = none := by kernel_rfl
theorem tc95 : cellT Try.prog 95 = some (false, 1) := by kernel_rfl
theorem tz95 : szT Try.prog 95 = 1 := by kernel_rfl
theorem ty95 : Try.prog.bytesOf 95 = 8 := by kernel_rfl
theorem tm95 : mapT Try.prog 95 = none := by kernel_rfl
theorem tn95 : zeroSz Try.prog 95 = 1 := by kernel_rfl
theorem t095 : zeroT Try.prog 95 = some (.nilf) := by kernel_rfl
theorem tu95 : (Try.prog.underlying 95).isNone = false := by kernel_rfl
theorem tr95 : structT Try.prog 95 = none := by kernel_rfl
theorem ts96 : isStr Try.prog 96 = false := by kernel_rfl
theorem tb96 : isBl Try.prog 96 = false := by kernel_rfl
theorem tf96 : isIf Try.prog 96 = false := by kernel_rfl
theorem te96 : elemT Try.prog 96 = none := by kernel_rfl
theorem ta96 : arrT Try.prog 96 = none := by kernel_rfl
theorem ti96 : intT Try.prog 96 = some .u64 := by kernel_rfl
theorem tc96 : cellT Try.prog 96 = some (false, 1) := by kernel_rfl
theorem tz96 : szT Try.prog 96 = 1 := by kernel_rfl
theorem ty96 : Try.prog.bytesOf 96 = 8 := by kernel_rfl
theorem tm96 : mapT Try.prog 96 = none := by kernel_rfl
theorem tn96 : zeroSz Try.prog 96 = 1 := by kernel_rfl
theorem t096 : zeroT Try.prog 96 = some (.int .u64 0) := by kernel_rfl
theorem tu96 : (Try.prog.underlying 96).isNone = false := by kernel_rfl
theorem tr96 : structT Try.prog 96 = none := by kernel_rfl
theorem ts97 : isStr Try.prog 97 = false := by kernel_rfl
theorem tb97 : isBl Try.prog 97 = false := by kernel_rfl
theorem tf97 : isIf Try.prog 97 = false := by kernel_rfl
theorem te97 : elemT Try.prog 97 = none := by kernel_rfl
theorem ta97 : arrT Try.prog 97 = none := by kernel_rfl
theorem ti97 : intT Try.prog 97 = none := by kernel_rfl
theorem tc97 : cellT Try.prog 97 = some (false, 1) := by kernel_rfl
theorem tz97 : szT Try.prog 97 = 1 := by kernel_rfl
theorem ty97 : Try.prog.bytesOf 97 = 8 := by kernel_rfl
theorem tm97 : mapT Try.prog 97 = none := by kernel_rfl
theorem tn97 : zeroSz Try.prog 97 = 1 := by kernel_rfl
theorem t097 : zeroT Try.prog 97 = some (.nilf) := by kernel_rfl
theorem tu97 : (Try.prog.underlying 97).isNone = false := by kernel_rfl
theorem tr97 : structT Try.prog 97 = none := by kernel_rfl
theorem ts98 : isStr Try.prog 98 = false := by kernel_rfl
theorem tb98 : isBl Try.prog 98 = false := by kernel_rfl
theorem tf98 : isIf Try.prog 98 = false := by kernel_rfl
theorem te98 : elemT Try.prog 98 = none := by kernel_rfl
theorem ta98 : arrT Try.prog 98 = none := by kernel_rfl
theorem ti98 : intT Try.prog 98 = none := by kernel_rfl
theorem tc98 : cellT Try.prog 98 = some (false, 1) := by kernel_rfl
theorem tz98 : szT Try.prog 98 = 1 := by kernel_rfl
theorem ty98 : Try.prog.bytesOf 98 = 8 := by kernel_rfl
theorem tm98 : mapT Try.prog 98 = none := by kernel_rfl
theorem tn98 : zeroSz Try.prog 98 = 1 := by kernel_rfl
theorem t098 : zeroT Try.prog 98 = some (.nilf) := by kernel_rfl
theorem tu98 : (Try.prog.underlying 98).isNone = false := by kernel_rfl
theorem tr98 : structT Try.prog 98 = none := by kernel_rfl
theorem ts99 : isStr Try.prog 99 = false := by kernel_rfl
theorem tb99 : isBl Try.prog 99 = false := by kernel_rfl
theorem tf99 : isIf Try.prog 99 = false := by kernel_rfl
theorem te99 : elemT Try.prog 99 = none := by kernel_rfl
theorem ta99 : arrT Try.prog 99 = none := by kernel_rfl
theorem ti99 : intT Try.prog 99 = none := by kernel_rfl
theorem tc99 : cellT Try.prog 99 = some (false, 1) := by kernel_rfl
theorem tz99 : szT Try.prog 99 = 1 := by kernel_rfl
theorem ty99 : Try.prog.bytesOf 99 = 8 := by kernel_rfl
theorem tm99 : mapT Try.prog 99 = none := by kernel_rfl
theorem tn99 : zeroSz Try.prog 99 = 1 := by kernel_rfl
theorem t099 : zeroT Try.prog 99 = some (.nilf) := by kernel_rfl
theorem tu99 : (Try.prog.underlying 99).isNone = false := by kernel_rfl
theorem tr99 : structT Try.prog 99 = none := by kernel_rfl
theorem ts100 : isStr Try.prog 100 = false := by kernel_rfl
theorem tb100 : isBl Try.prog 100 = false := by kernel_rfl
theorem tf100 : isIf Try.prog 100 = false := by kernel_rfl
theorem te100 : elemT Try.prog 100 = none := by kernel_rfl
theorem ta100 : arrT Try.prog 100 = none := by kernel_rfl
theorem ti100 : intT Try.prog 100 = none := by kernel_rfl
theorem tc100 : cellT Try.prog 100 = some (false, 1) := by kernel_rfl
theorem tz100 : szT Try.prog 100 = 1 := by kernel_rfl
theorem ty100 : Try.prog.bytesOf 100 = 8 := by kernel_rfl
theorem tm100 : mapT Try.prog 100 = none := by kernel_rfl
theorem tn100 : zeroSz Try.prog 100 = 1 := by kernel_rfl
theorem t0100 : zeroT Try.prog 100 = some (.nilf) := by kernel_rfl
theorem tu100 : (Try.prog.underlying 100).isNone = false := by kernel_rfl
theorem tr100 : structT Try.prog 100 = none := by kernel_rfl
theorem ts101 : isStr Try.prog 101 = false := by kernel_rfl
theorem tb101 : isBl Try.prog 101 = false := by kernel_rfl
theorem tf101 : isIf Try.prog 101 = false := by kernel_rfl
theorem te101 : elemT Try.prog 101 = none := by kernel_rfl
theorem ta101 : arrT Try.prog 101 = none := by kernel_rfl
theorem ti101 : intT Try.prog 101 = none := by kernel_rfl
theorem tc101 : cellT Try.prog 101 = some (false, 1) := by kernel_rfl
theorem tz101 : szT Try.prog 101 = 1 := by kernel_rfl
theorem ty101 : Try.prog.bytesOf 101 = 8 := by kernel_rfl
theorem tm101 : mapT Try.prog 101 = none := by kernel_rfl
theorem tn101 : zeroSz Try.prog 101 = 1 := by kernel_rfl
theorem t0101 : zeroT Try.prog 101 = some (.nilf) := by kernel_rfl
theorem tu101 : (Try.prog.underlying 101).isNone = false := by kernel_rfl
theorem tr101 : structT Try.prog 101 = none := by kernel_rfl
theorem ts102 : isStr Try.prog 102 = false := by kernel_rfl
theorem tb102 : isBl Try.prog 102 = false := by kernel_rfl
theorem tf102 : isIf Try.prog 102 = false := by kernel_rfl
theorem te102 : elemT Try.prog 102 = none := by kernel_rfl
theorem ta102 : arrT Try.prog 102 = none := by kernel_rfl
theorem ti102 : intT Try.prog 102 = none := by kernel_rfl
theorem tc102 : cellT Try.prog 102 = some (false, 1) := by kernel_rfl
theorem tz102 : szT Try.prog 102 = 1 := by kernel_rfl
theorem ty102 : Try.prog.bytesOf 102 = 0 := by kernel_rfl
theorem tm102 : mapT Try.prog 102 = none := by kernel_rfl
theorem tn102 : zeroSz Try.prog 102 = 1 := by kernel_rfl
theorem t0102 : zeroT Try.prog 102 = some (.junk) := by kernel_rfl
theorem tu102 : (Try.prog.underlying 102).isNone = false := by kernel_rfl
theorem tr102 : structT Try.prog 102 = none := by kernel_rfl
theorem ts103 : isStr Try.prog 103 = false := by kernel_rfl
theorem tb103 : isBl Try.prog 103 = false := by kernel_rfl
theorem tf103 : isIf Try.prog 103 = false := by kernel_rfl
theorem te103 : elemT Try.prog 103 = none := by kernel_rfl
theorem ta103 : arrT Try.prog 103 = none := by kernel_rfl
theorem ti103 : intT Try.prog 103 = none := by kernel_rfl
theorem tc103 : cellT Try.prog 103 = some (false, 1) := by kernel_rfl
theorem tz103 : szT Try.prog 103 = 1 := by kernel_rfl
theorem ty103 : Try.prog.bytesOf 103 = 8 := by kernel_rfl
theorem tm103 : mapT Try.prog 103 = none := by kernel_rfl
theorem tn103 : zeroSz Try.prog 103 = 1 := by kernel_rfl
theorem t0103 : zeroT Try.prog 103 = some (.nilf) := by kernel_rfl
theorem tu103 : (Try.prog.underlying 103).isNone = false := by kernel_rfl
theorem tr103 : structT Try.prog 103 = none := by kernel_rfl
theorem ts104 : isStr Try.prog 104 = false := by kernel_rfl
theorem tb104 : isBl Try.prog 104 = false := by kernel_rfl
theorem tf104 : isIf Try.prog 104 = false := by kernel_rfl
theorem te104 : elemT Try.prog 104 = none := by kernel_rfl
theorem ta104 : arrT Try.prog 104 = none := by kernel_rfl
theorem ti104 : intT Try.prog 104 = none := by kernel_rfl
theorem tc104 : cellT Try.prog 104 = some (false, 1) := by kernel_rfl
theorem tz104 : szT Try.prog 104 = 1 := by kernel_rfl
theorem ty104 : Try.prog.bytesOf 104 = 0 := by kernel_rfl
theorem tm104 : mapT Try.prog 104 = none := by kernel_rfl
theorem tn104 : zeroSz Try.prog 104 = 1 := by kernel_rfl
theorem t0104 : zeroT Try.prog 104 = some (.junk) := by kernel_rfl
theorem tu104 : (Try.prog.underlying 104).isNone = false := by kernel_rfl
theorem tr104 : structT Try.prog 104 = none := by kernel_rfl
theorem ts105 : isStr Try.prog 105 = false := by kernel_rfl
theorem tb105 : isBl Try.prog 105 = false := by kernel_rfl
theorem tf105 : isIf Try.prog 105 = false := by kernel_rfl
theorem te105 : elemT Try.prog 105 = none := by kernel_rfl
theorem ta105 : arrT Try.prog 105 = none := by kernel_rfl
theorem ti105 : intT Try.prog 105 = none := by kernel_rfl
theorem tc105 : cellT Try.prog 105 = some (false, 1) := by kernel_rfl
theorem tz105 : szT Try.prog 105 = 1 := by kernel_rfl
theorem ty105 : Try.prog.bytesOf 105 = 8 := by kernel_rfl
theorem tm105 : mapT Try.prog 105 = none := by kernel_rfl
theorem tn105 : zeroSz Try.prog 105 = 1 := by kernel_rfl
theorem t0105 : zeroT Try.prog 105 = some (.nilf) := by kernel_rfl
theorem tu105 : (Try.prog.underlying 105).isNone = false := by kernel_rfl
theorem tr105 : structT Try.prog 105 = none := by kernel_rfl
theorem ts106 : isStr Try.prog 106 = false := by kernel_rfl
theorem tb106 : isBl Try.prog 106 = false := by kernel_rfl
theorem tf106 : isIf Try.prog 106 = false := by kernel_rfl
theorem te106 : elemT Try.prog 106 = none := by kernel_rfl
theorem ta106 : arrT Try.prog 106 = none := by kernel_rfl
theorem ti106 : intT Try.prog 106 = none := by kernel_rfl
theorem tc106 : cellT Try.prog 106 = some (false, 1) := by kernel_rfl
theorem tz106 : szT Try.prog 106 = 1 := by kernel_rfl
theorem ty106 : Try.prog.bytesOf 106 = 8 := by kernel_rfl
theorem tm106 : mapT Try.prog 106 = none := by kernel_rfl
theorem tn106 : zeroSz Try.prog 106 = 1 := by kernel_rfl
theorem t0106 : zeroT Try.prog 106 = some (.nilf) := by kernel_rfl
theorem tu106 : (Try.prog.underlying 106).isNone = false := by kernel_rfl
theorem tr106 : structT Try.prog 106 = none := by kernel_rfl
theorem ts107 : isStr Try.prog 107 = false := by kernel_rfl
theorem tb107 : isBl Try.prog 107 = false := by kernel_rfl
theorem tf107 : isIf Try.prog 107 = false := by kernel_rfl
theorem te107 : elemT Try.prog 107 = none := by kernel_rfl
theorem ta107 : arrT Try.prog 107 = none := by kernel_rfl
theorem ti107 : intT Try.prog 107 = none := by kernel_rfl
theorem tc107 : cellT Try.prog 107 = some (false, 1) := by kernel_rfl
theorem tz107 : szT Try.prog 107 = 1 := by kernel_rfl
theorem ty107 : Try.prog.bytesOf 107 = 8 := by kernel_rfl
theorem tm107 : mapT Try.prog 107 = none := by kernel_rfl
theorem tn107 : zeroSz Try.prog 107 = 1 := by kernel_rfl
theorem t0107 : zeroT Try.prog 107 = some (.nilf) := by kernel_rfl
theorem tu107 : (Try.prog.underlying 107).isNone = false := by kernel_rfl
theorem tr107 : structT Try.prog 107 = none := by kernel_rfl
theorem ts108 : isStr Try.prog 108 = false := by kernel_rfl
theorem tb108 : isBl Try.prog 108 = false := by kernel_rfl
theorem tf108 : isIf Try.prog 108 = false := by kernel_rfl
theorem te108 : elemT Try.prog 108 = none := by kernel_rfl
theorem ta108 : arrT Try.prog 108 = none := by kernel_rfl
theorem ti108 : intT Try.prog 108 = none := by kernel_rfl
theorem tc108 : cellT Try.prog 108 = some (false, 1) := by kernel_rfl
theorem tz108 : szT Try.prog 108 = 1 := by kernel_rfl
theorem ty108 : Try.prog.bytesOf 108 = 8 := by kernel_rfl
theorem tm108 : mapT Try.prog 108 = none := by kernel_rfl
theorem tn108 : zeroSz Try.prog 108 = 1 := by kernel_rfl
theorem t0108 : zeroT Try.prog 108 = some (.nilf) := by kernel_rfl
theorem tu108 : (Try.prog.underlying 108).isNone = false := by kernel_rfl
theorem tr108 : structT Try.prog 108 = none := by kernel_rfl
theorem ts109 : isStr Try.prog 109 = false := by kernel_rfl
theorem tb109 : isBl Try.prog 109 = false := by kernel_rfl
theorem tf109 : isIf Try.prog 109 = false := by kernel_rfl
theorem te109 : elemT Try.prog 109 = none := by kernel_rfl
theorem ta109 : arrT Try.prog 109 = none := by kernel_rfl
theorem ti109 : intT Try.prog 109 = none := by kernel_rfl
theorem tc109 : cellT Try.prog 109 = some (false, 1) := by kernel_rfl
theorem tz109 : szT Try.prog 109 = 1 := by kernel_rfl
theorem ty109 : Try.prog.bytesOf 109 = 8 := by kernel_rfl
theorem tm109 : mapT Try.prog 109 = none := by kernel_rfl
theorem tn109 : zeroSz Try.prog 109 = 1 := by kernel_rfl
theorem t0109 : zeroT Try.prog 109 = some (.nilf) := by kernel_rfl
theorem tu109 : (Try.prog.underlying 109).isNone = false := by kernel_rfl
theorem tr109 : structT Try.prog 109 = none := by kernel_rfl
theorem ts110 : isStr Try.prog 110 = false := by kernel_rfl
theorem tb110 : isBl Try.prog 110 = false := by kernel_rfl
theorem tf110 : isIf Try.prog 110 = false := by kernel_rfl
theorem te110 : elemT Try.prog 110 = none := by kernel_rfl
theorem ta110 : arrT Try.prog 110 = none := by kernel_rfl
theorem ti110 : intT Try.prog 110 = none := by kernel_rfl
theorem tc110 : cellT Try.prog 110 = some (false, 1) := by kernel_rfl
theorem tz110 : szT Try.prog 110 = 1 := by kernel_rfl
theorem ty110 : Try.prog.bytesOf 110 = 8 := by kernel_rfl
theorem tm110 : mapT Try.prog 110 = none := by kernel_rfl
theorem tn110 : zeroSz Try.prog 110 = 1 := by kernel_rfl
theorem t0110 : zeroT Try.prog 110 = some (.nilf) := by kernel_rfl
theorem tu110 : (Try.prog.underlying 110).isNone = false := by kernel_rfl
theorem tr110 : structT Try.prog 110 = none := by kernel_rfl
theorem ts111 : isStr Try.prog 111 = false := by kernel_rfl
theorem tb111 : isBl Try.prog 111 = false := by kernel_rfl
theorem tf111 : isIf Try.prog 111 = false := by kernel_rfl
theorem te111 : elemT Try.prog 111 = none := by kernel_rfl
theorem ta111 : arrT Try.prog 111 = none := by kernel_rfl
theorem ti111 : intT Try.prog 111 = some .i64 := by kernel_rfl
theorem tc111 : cellT Try.prog 111 = some (false, 1) := by kernel_rfl
theorem tz111 : szT Try.prog 111 = 1 := by kernel_rfl
theorem ty111 : Try.prog.bytesOf 111 = 8 := by kernel_rfl
theorem tm111 : mapT Try.prog 111 = none := by kernel_rfl
theorem tn111 : zeroSz Try.prog 111 = 1 := by kernel_rfl
theorem t0111 : zeroT Try.prog 111 = some (.int .i64 0) := by kernel_rfl
theorem tu111 : (Try.prog.underlying 111).isNone = false := by kernel_rfl
theorem tr111 : structT Try.prog 111 = none := by kernel_rfl
theorem ts112 : isStr Try.prog 112 = false := by kernel_rfl
theorem tb112 : isBl Try.prog 112 = false := by kernel_rfl
theorem tf112 : isIf Try.prog 112 = false := by kernel_rfl
theorem te112 : elemT Try.prog 112 = none := by kernel_rfl
theorem ta112 : arrT Try.prog 112 = none := by kernel_rfl
theorem ti112 : intT Try.prog 112 = none := by kernel_rfl
theorem tc112 : cellT Try.prog 112 = some (false, 1) := by kernel_rfl
theorem tz112 : szT Try.prog 112 = 1 := by kernel_rfl
theorem ty112 : Try.prog.bytesOf 112 = 0 := by kernel_rfl
theorem tm112 : mapT Try.prog 112 = none := by kernel_rfl
theorem tn112 : zeroSz Try.prog 112 = 1 := by kernel_rfl
theorem t0112 : zeroT Try.prog 112 = some (.junk) := by kernel_rfl
theorem tu112 : (Try.prog.underlying 112).isNone = false := by kernel_rfl
theorem tr112 : structT Try.prog 112 = none := by kernel_rfl
theorem ts113 : isStr Try.prog 113 = false := by kernel_rfl
theorem tb113 : isBl Try.prog 113 = false := by kernel_rfl
theorem tf113 : isIf Try.prog 113 = false := by kernel_rfl
theorem te113 : elemT Try.prog 113 = none := by kernel_rfl
theorem ta113 : arrT Try.prog 113 = none := by kernel_rfl
theorem ti113 : intT Try.prog 113 = none := by kernel_rfl
theorem tc113 : cellT Try.prog 113 = some (false, 1) := by kernel_rfl
theorem tz113 : szT Try.prog 113 = 1 := by kernel_rfl
theorem ty113 : Try.prog.bytesOf 113 = 8 := by kernel_rfl
theorem tm113 : mapT Try.prog 113 = none := by kernel_rfl
theorem tn113 : zeroSz Try.prog 113 = 1 := by kernel_rfl
theorem t0113 : zeroT Try.prog 113 = some (.nilf) := by kernel_rfl
theorem tu113 : (Try.prog.underlying 113).isNone = false := by kernel_rfl
theorem tr113 : structT Try.prog 113 = none := by kernel_rfl
theorem ts114 : isStr Try.prog 114 = false := by kernel_rfl
theorem tb114 : isBl Try.prog 114 = false := by kernel_rfl
theorem tf114 : isIf Try.prog 114 = false := by kernel_rfl
theorem te114 : elemT Try.prog 114 = none := by kernel_rfl
theorem ta114 : arrT Try.prog 114 = none := by kernel_rfl
theorem ti114 : intT Try.prog 114 = none := by kernel_rfl
theorem tc114 : cellT Try.prog 114 = some (false, 1) := by kernel_rfl
theorem tz114 : szT Try.prog 114 = 1 := by kernel_rfl
theorem ty114 : Try.prog.bytesOf 114 = 8 := by kernel_rfl
theorem tm114 : mapT Try.prog 114 = none := by kernel_rfl
theorem tn114 : zeroSz Try.prog 114 = 1 := by kernel_rfl
theorem t0114 : zeroT Try.prog 114 = some (.nilf) := by kernel_rfl
theorem tu114 : (Try.prog.underlying 114).isNone = false := by kernel_rfl
theorem tr114 : structT Try.prog 114 = none := by kernel_rfl
theorem ts115 : isStr Try.prog 115 = false := by kernel_rfl
theorem tb115 : isBl Try.prog 115 = false := by kernel_rfl
theorem tf115 : isIf Try.prog 115 = false := by kernel_rfl
theorem te115 : elemT Try.prog 115 = none := by kernel_rfl
theorem ta115 : arrT Try.prog 115 = none := by kernel_rfl
theorem ti115 : intT Try.prog 115 = none := by kernel_rfl
theorem tc115 : cellT Try.prog 115 = some (false, 1) := by kernel_rfl
theorem tz115 : szT Try.prog 115 = 1 := by kernel_rfl
theorem ty115 : Try.prog.bytesOf 115 = 8 := by kernel_rfl
theorem tm115 : mapT Try.prog 115 = none := by kernel_rfl
theorem tn115 : zeroSz Try.prog 115 = 1 := by kernel_rfl
theorem t0115 : zeroT Try.prog 115 = some (.nilf) := by kernel_rfl
theorem tu115 : (Try.prog.underlying 115).isNone = false := by kernel_rfl
theorem tr115 : structT Try.prog 115 = none := by kernel_rfl
theorem ts116 : isStr Try.prog 116 = false := by kernel_rfl
theorem tb116 : isBl Try.prog 116 = false := by kernel_rfl
theorem tf116 : isIf Try.prog 116 = false := by kernel_rfl
theorem te116 : elemT Try.prog 116 = none := by kernel_rfl
theorem ta116 : arrT Try.prog 116 = none := by kernel_rfl
theorem ti116 : intT Try.prog 116 = none := by kernel_rfl
theorem tc116 : cellT Try.prog 116 = some (false, 1) := by kernel_rfl
theorem tz116 : szT Try.prog 116 = 1 := by kernel_rfl
theorem ty116 : Try.prog.bytesOf 116 = 8 := by kernel_rfl
theorem tm116 : mapT Try.prog 116 = none := by kernel_rfl
theorem tn116 : zeroSz Try.prog 116 = 1 := by kernel_rfl
theorem t0116 : zeroT Try.prog 116 = some (.nilf) := by kernel_rfl
theorem tu116 : (Try.prog.underlying 116).isNone = false := by kernel_rfl
theorem tr116 : structT Try.prog 116 = none := by kernel_rfl
theorem ts117 : isStr Try.prog 117 = false := by kernel_rfl
theorem tb117 : isBl Try.prog 117 = false := by kernel_rfl
theorem tf117 : isIf Try.prog 117 = false := by kernel_rfl
theorem te117 : elemT Try.prog 117 = none := by kernel_rfl
theorem ta117 : arrT Try.prog 117 = none := by kernel_rfl
theorem ti117 : intT Try.prog 117 = none := by kernel_rfl
theorem tc117 : cellT Try.prog 117 = some (false, 1) := by kernel_rfl
theorem tz117 : szT Try.prog 117 = 1 := by kernel_rfl
theorem ty117 : Try.prog.bytesOf 117 = 8 := by kernel_rfl
theorem tm117 : mapT Try.prog 117 = none := by kernel_rfl
theorem tn117 : zeroSz Try.prog 117 = 1 := by kernel_rfl
theorem t0117 : zeroT Try.prog 117 = some (.nilf) := by kernel_rfl
theorem tu117 : (Try.prog.underlying 117).isNone = false := by kernel_rfl
theorem tr117 : structT Try.prog 117 = none := by kernel_rfl
theorem ts118 : isStr Try.prog 118 = false := by kernel_rfl
theorem tb118 : isBl Try.prog 118 = false := by kernel_rfl
theorem tf118 : isIf Try.prog 118 = false := by kernel_rfl
theorem te118 : elemT Try.prog 118 = none := by kernel_rfl
theorem ta118 : arrT Try.prog 118 = none := by kernel_rfl
theorem ti118 : intT Try.prog 118 = some .u32 := by kernel_rfl
theorem tc118 : cellT Try.prog 118 = some (false, 1) := by kernel_rfl
theorem tz118 : szT Try.prog 118 = 1 := by kernel_rfl
theorem ty118 : Try.prog.bytesOf 118 = 4 := by kernel_rfl
theorem tm118 : mapT Try.prog 118 = none := by kernel_rfl
theorem tn118 : zeroSz Try.prog 118 = 1 := by kernel_rfl
theorem t0118 : zeroT Try.prog 118 = some (.int .u32 0) := by kernel_rfl
theorem tu118 : (Try.prog.underlying 118).isNone = false := by kernel_rfl
theorem tr118 : structT Try.prog 118 = none := by kernel_rfl
theorem ts119 : isStr Try.prog 119 = false := by kernel_rfl
theorem tb119 : isBl Try.prog 119 = false := by kernel_rfl
theorem tf119 : isIf Try.prog 119 = false := by kernel_rfl
theorem te119 : elemT Try.prog 119 = none := by kernel_rfl
theorem ta119 : arrT Try.prog 119 = none := by kernel_rfl
theorem ti119 : intT Try.prog 119 = none := by kernel_rfl
theorem tc119 : cellT Try.prog 119 = some (false, 1) := by kernel_rfl
theorem tz119 : szT Try.prog 119 = 1 := by kernel_rfl
theorem ty119 : Try.prog.bytesOf 119 = 8 := by kernel_rfl
theorem tm119 : mapT Try.prog 119 = none := by kernel_rfl
theorem tn119 : zeroSz Try.prog 119 = 1 := by kernel_rfl
theorem t0119 : zeroT Try.prog 119 = some (.nilf) := by kernel_rfl
theorem tu119 : (Try.prog.underlying 119).isNone = false := by kernel_rfl
theorem tr119 : structT Try.prog 119 = none := by kernel_rfl
theorem ts120 : isStr Try.prog 120 = false := by kernel_rfl
theorem tb120 : isBl Try.prog 120 = false := by kernel_rfl
theorem tf120 : isIf Try.prog 120 = false := by kernel_rfl
theorem te120 : elemT Try.prog 120 = none := by kernel_rfl
theorem ta120 : arrT Try.prog 120 = none := by kernel_rfl
theorem ti120 : intT Try.prog 120 = some .u64 := by kernel_rfl
theorem tc120 : cellT Try.prog 120 = some (false, 1) := by kernel_rfl
theorem tz120 : szT Try.prog 120 = 1 := by kernel_rfl
theorem ty120 : Try.prog.bytesOf 120 = 8 := by kernel_rfl
theorem tm120 : mapT Try.prog 120 = none := by kernel_rfl
theorem tn120 : zeroSz Try.prog 120 = 1 := by kernel_rfl
theorem t0120 : zeroT Try.prog 120 = some (.int .u64 0) := by kernel_rfl
theorem tu120 : (Try.prog.underlying 120).isNone = false := by kernel_rfl
theorem tr120 : structT Try.prog 120 = none := by kernel_rfl
theorem ts121 : isStr Try.prog 121 = false := by kernel_rfl
theorem tb121 : isBl Try.prog 121 = false := by kernel_rfl
theorem tf121 : isIf Try.prog 121 = false := by kernel_rfl
theorem te121 : elemT Try.prog 121 = none := by kernel_rfl
theorem ta121 : arrT Try.prog 121 = none := by kernel_rfl
theorem ti121 : intT Try.prog 121 = none := by kernel_rfl
theorem tc121 : cellT Try.prog 121 = some (false, 1) := by kernel_rfl
theorem tz121 : szT Try.prog 121 = 1 := by kernel_rfl
theorem ty121 : Try.prog.bytesOf 121 = 8 := by kernel_rfl
theorem tm121 : mapT Try.prog 121 = none := by kernel_rfl
theorem tn121 : zeroSz Try.prog 121 = 1 := by kernel_rfl
theorem t0121 : zeroT Try.prog 121 = some (.nilf) := by kernel_rfl
theorem tu121 : (Try.prog.underlying 121).isNone = false := by kernel_rfl
theorem tr121 : structT Try.prog 121 = none := by kernel_rfl
theorem ts122 : isStr Try.prog 122 = false := by kernel_rfl
theorem tb122 : isBl Try.prog 122 = false := by kernel_rfl
theorem tf122 : isIf Try.prog 122 = false := by kernel_rfl
theorem te122 : elemT Try.prog 122 = none := by kernel_rfl
theorem ta122 : arrT Try.prog 122 = none := by kernel_rfl
theorem ti122 : intT Try.prog 122 = none := by kernel_rfl
theorem tc122 : cellT Try.prog 122 = some (false, 1) := by kernel_rfl
theorem tz122 : szT Try.prog 122 = 1 := by kernel_rfl
theorem ty122 : Try.prog.bytesOf 122 = 8 := by kernel_rfl
theorem tm122 : mapT Try.prog 122 = none := by kernel_rfl
theorem tn122 : zeroSz Try.prog 122 = 1 := by kernel_rfl
theorem t0122 : zeroT Try.prog 122 = some (.nilf) := by kernel_rfl
theorem tu122 : (Try.prog.underlying 122).isNone = false := by kernel_rfl
theorem tr122 : structT Try.prog 122 = none := by kernel_rfl
theorem ts123 : isStr Try.prog 123 = false := by kernel_rfl
theorem tb123 : isBl Try.prog 123 = false := by kernel_rfl
theorem tf123 : isIf Try.prog 123 = false := by kernel_rfl
theorem te123 : elemT Try.prog 123 = none := by kernel_rfl
theorem ta123 : arrT Try.prog 123 = some (8, 9) := by kernel_rfl
theorem ti123 : intT Try.prog 123 = none := by kernel_rfl
theorem tc123 : cellT Try.prog 123 = some (true, 8) := by kernel_rfl
theorem tz123 : szT Try.prog 123 = 8 := by kernel_rfl
theorem ty123 : Try.prog.bytesOf 123 = 128 := by kernel_rfl
theorem tm123 : mapT Try.prog 123 = none := by kernel_rfl
theorem tn123 : zeroSz Try.prog 123 = 8 := by kernel_rfl
theorem t0123 : zeroT Try.prog 123 = some (.agg [.str [], .str [], .str [], .str [], .str [], .str [], .str [], .str []]) := by kernel_rfl
theorem tu123 : (Try.prog.underlying 123).isNone = false := by kernel_rfl
theorem tr123 : structT Try.prog 123 = none := by kernel_rfl
theorem ts124 : isStr Try.prog 124 = false := by kernel_rfl
theorem tb124 : isBl Try.prog 124 = false := by kernel_rfl
theorem tf124 : isIf Try.prog 124 = false := by kernel_rfl
theorem te124 : elemT Try.prog 124 = none := by kernel_rfl
theorem ta124 : arrT Try.prog 124 = some (22, 9) := by kernel_rfl
theorem ti124 : intT Try.prog 124 = none := by kernel_rfl
theorem tc124 : cellT Try.prog 124 = some (true, 22) := by kernel_rfl
theorem tz124 : szT Try.prog 124 = 22 := by kernel_rfl
theorem ty124 : Try.prog.bytesOf 124 = 352 := by kernel_rfl
theorem tm124 : mapT Try.prog 124 = none := by kernel_rfl
theorem tn124 : zeroSz Try.prog 124 = 22 := by kernel_rfl
theorem t0124 : zeroT Try.prog 124 = some (.agg [.str [], .str [], .str [], .str [], .str [], .str [], .str [], .str [], .str [], .str [], .str [], .str [], .str [], .str [], .str [], .str [], .str [], .str [], .str [], .str [], .str [], .str []]) := by kernel_rfl
theorem tu124 : (Try.prog.underlying 124).isNone = false := by kernel_rfl
theorem tr124 : structT Try.prog 124 = none := by kernel_rfl
theorem ts125 : isStr Try.prog 125 = false := by kernel_rfl
theorem tb125 : isBl Try.prog 125 = false := by kernel_rfl
theorem tf125 : isIf Try.prog 125 = false := by kernel_rfl
theorem te125 : elemT Try.prog 125 = none := by kernel_rfl
theorem ta125 : arrT Try.prog 125 = none := by kernel_rfl
theorem ti125 : intT Try.prog 125 = none := by kernel_rfl
theorem tc125 : cellT Try.prog 125 = some (true, 4) := by kernel_rfl
theorem tz125 : szT Try.prog 125 = 4 := by kernel_rfl
theorem ty125 : Try.prog.bytesOf 125 = 16 := by kernel_rfl
theorem tm125 : mapT Try.prog 125 = none := by kernel_rfl
theorem tn125 : zeroSz Try.prog 125 = 4 := by kernel_rfl
theorem t0125 : zeroT Try.prog 125 = some (.agg [.int .i64 0, .bool false, .bool false, .bool false]) := by kernel_rfl
theorem tu125 : (Try.prog.underlying 125).isNone = false := by kernel_rfl
theorem tr125 : structT Try.prog 125 = some [(0, 1), (1, 1), (2, 1), (3, 1)] := by kernel_rfl
theorem tg125_0 : fieldT Try.prog 125 0 = some (0, 3) := by kernel_rfl
theorem tg125_1 : fieldT Try.prog 125 1 = some (1, 4) := by kernel_rfl
theorem tg125_2 : fieldT Try.prog 125 2 = some (2, 4) := by kernel_rfl
theorem tg125_3 : fieldT Try.prog 125 3 = some (3, 4) := by kernel_rfl
theorem ts126 : isStr Try.prog 126 = false := by kernel_rfl
theorem tb126 : isBl Try.prog 126 = false := by kernel_rfl
theorem tf126 : isIf Try.prog 126 = false := by kernel_rfl
theorem te126 : elemT Try.prog 126 = none := by kernel_rfl
theorem ta126 : arrT Try.prog 126 = none := by kernel_rfl
theorem ti126 : intT Try.prog 126 = none := by kernel_rfl
theorem tc126 : cellT Try.prog 126 = some (true, 4) := by kernel_rfl
theorem tz126 : szT Try.prog 126 = 4 := by kernel_rfl
theorem ty126 : Try.prog.bytesOf 126 = 16 := by kernel_rfl
theorem tm126 : mapT Try.prog 126 = none := by kernel_rfl
theorem tn126 : zeroSz Try.prog 126 = 4 := by kernel_rfl
theorem t0126 : zeroT Try.prog 126 = some (.agg [.int .i64 0, .bool false, .bool false, .bool false]) := by kernel_rfl
theorem tu126 : (Try.prog.underlying 126).isNone = false := by kernel_rfl
theorem tr126 : structT Try.prog 126 = some [(0, 1), (1, 1), (2, 1), (3, 1)] := by kernel_rfl
theorem tg126_0 : fieldT Try.prog 126 0 = some (0, 3) := by kernel_rfl
theorem tg126_1 : fieldT Try.prog 126 1 = some (1, 4) := by kernel_rfl
theorem tg126_2 : fieldT Try.prog 126 2 = some (2, 4) := by kernel_rfl
theorem tg126_3 : fieldT Try.prog 126 3 = some (3, 4) := by kernel_rfl
theorem ts127 : isStr Try.prog 127 = false := by kernel_rfl
theorem tb127 : isBl Try.prog 127 = false := by kernel_rfl
theorem tf127 : isIf Try.prog 127 = false := by kernel_rfl
theorem te127 : elemT Try.prog 127 = none := by kernel_rfl
theorem ta127 : arrT Try.prog 127 = some (7, 126) := by kernel_rfl
theorem ti127 : intT Try.prog 127 = none := by kernel_rfl
theorem tc127 : cellT Try.prog 127 = some (true, 28) := by kernel_rfl
theorem tz127 : szT Try.prog 127 = 28 := by kernel_rfl
theorem ty127 : Try.prog.bytesOf 127 = 112 := by kernel_rfl
theorem tm127 : mapT Try.prog 127 = none := by kernel_rfl
theorem tn127 : zeroSz Try.prog 127 = 28 := by kernel_rfl
theorem t0127 : zeroT Try.prog 127 = some (.agg [.int .i64 0, .bool false, .bool false, .bool false, .int .i64 0, .bool false, .bool false, .bool false, .int .i64 0, .bool false, .bool false, .bool false, .int .i64 0, .bool false, .bool false, .bool false, .int .i64 0, .bool false, .bool false, .bool false, .int .i64 0, .bool false, .bool false, .bool false, .int .i64 0, .bool false, .bool false, .bool false]) := by kernel_rfl
theorem tu127 : (Try.prog.underlying 127).isNone = false := by kernel_rfl
theorem tr127 : structT Try.prog 127 = none := by kernel_rfl
theorem ts128 : isStr Try.prog 128 = false := by kernel_rfl
theorem tb128 : isBl Try.prog 128 = false := by kernel_rfl
theorem tf128 : isIf Try.prog 128 = false := by kernel_rfl
theorem te128 : elemT Try.prog 128 = none := by kernel_rfl
theorem ta128 : arrT Try.prog 128 = none := by kernel_rfl
theorem ti128 : intT Try.prog 128 = none := by kernel_rfl
theorem tc128 : cellT Try.prog 128 = some (false, 1) := by kernel_rfl
theorem tz128 : szT Try.prog 128 = 1 := by kernel_rfl
theorem ty128 : Try.prog.bytesOf 128 = 8 := by kernel_rfl
theorem tm128 : mapT Try.prog 128 = none := by kernel_rfl
theorem tn128 : zeroSz Try.prog 128 = 1 := by kernel_rfl
theorem t0128 : zeroT Try.prog 128 = some (.nilf) := by kernel_rfl
theorem tu128 : (Try.prog.underlying 128).isNone = false := by kernel_rfl
theorem tr128 : structT Try.prog 128 = none := by kernel_rfl
theorem ts129 : isStr Try.prog 129 = false := by kernel_rfl
theorem tb129 : isBl Try.prog 129 = false := by kernel_rfl
theorem tf129 : isIf Try.prog 129 = false := by kernel_rfl
theorem te129 : elemT Try.prog 129 = none := by kernel_rfl
theorem ta129 : arrT Try.prog 129 = none := by kernel_rfl
theorem ti129 : intT Try.prog 129 = none := by kernel_rfl
theorem tc129 : cellT Try.prog 129 = some (false, 1) := by kernel_rfl
theorem tz129 : szT Try.prog 129 = 1 := by kernel_rfl
theorem ty129 : Try.prog.bytesOf 129 = 8 := by kernel_rfl
theorem tm129 : mapT Try.prog 129 = none := by kernel_rfl
theorem tn129 : zeroSz Try.prog 129 = 1 := by kernel_rfl
theorem t0129 : zeroT Try.prog 129 = some (.nilf) := by kernel_rfl
theorem tu129 : (Try.prog.underlying 129).isNone = false := by kernel_rfl
theorem tr129 : structT Try.prog 129 = none := by kernel_rfl
theorem ts130 : isStr Try.prog 130 = false := by kernel_rfl
theorem tb130 : isBl Try.prog 130 = false := by kernel_rfl
theorem tf130 : isIf Try.prog 130 = false := by kernel_rfl
theorem te130 : elemT Try.prog 130 = none := by kernel_rfl
theorem ta130 : arrT Try.prog 130 = none := by kernel_rfl
theorem ti130 : intT Try.prog 130 = some .u64 := by kernel_rfl
theorem tc130 : cellT Try.prog 130 = some (false, 1) := by kernel_rfl
theorem tz130 : szT Try.prog 130 = 1 := by kernel_rfl
theorem ty130 : Try.prog.bytesOf 130 = 8 := by kernel_rfl
theorem tm130 : mapT Try.prog 130 = none := by kernel_rfl
theorem tn130 : zeroSz Try.prog 130 = 1 := by kernel_rfl
theorem t0130 : zeroT Try.prog 130 = some (.int .u64 0) := by kernel_rfl
theorem tu130 : (Try.prog.underlying 130).isNone = false := by kernel_rfl
theorem tr130 : structT Try.prog 130 = none := by kernel_rfl
theorem ts131 : isStr Try.prog 131 = false := by kernel_rfl
theorem tb131 : isBl Try.prog 131 = false := by kernel_rfl
theorem tf131 : isIf Try.prog 131 = false := by kernel_rfl
theorem te131 : elemT Try.prog 131 = none := by kernel_rfl
theorem ta131 : arrT Try.prog 131 = none := by kernel_rfl
theorem ti131 : intT Try.prog 131 = none := by kernel_rfl
theorem tc131 : cellT Try.prog 131 = some (false, 1) := by kernel_rfl
theorem tz131 : szT Try.prog 131 = 1 := by kernel_rfl
theorem ty131 : Try.prog.bytesOf 131 = 8 := by kernel_rfl
theorem tm131 : mapT Try.prog 131 = none := by kernel_rfl
theorem tn131 : zeroSz Try.prog 131 = 1 := by kernel_rfl
theorem t0131 : zeroT Try.prog 131 = some (.nilf) := by kernel_rfl
theorem tu131 : (Try.prog.underlying 131).isNone = false := by kernel_rfl
theorem tr131 : structT Try.prog 131 = none := by kernel_rfl
theorem ts132 : isStr Try.prog 132 = false := by kernel_rfl
theorem tb132 : isBl Try.prog 132 = false := by kernel_rfl
theorem tf132 : isIf Try.prog 132 = false := by kernel_rfl
theorem te132 : elemT Try.prog 132 = none := by kernel_rfl
theorem ta132 : arrT Try.prog 132 = none := by kernel_rfl
theorem ti132 : intT Try.prog 132 = none := by kernel_rfl
theorem tc132 : cellT Try.prog 132 = some (false, 1) := by kernel_rfl
theorem tz132 : szT Try.prog 132 = 1 := by kernel_rfl
theorem ty132 : Try.prog.bytesOf 132 = 8 := by kernel_rfl
theorem tm132 : mapT Try.prog 132 = none := by kernel_rfl
theorem tn132 : zeroSz Try.prog 132 = 1 := by kernel_rfl
theorem t0132 : zeroT Try.prog 132 = some (.nilf) := by kernel_rfl
theorem tu132 : (Try.prog.underlying 132).isNone = false := by kernel_rfl
theorem tr132 : structT Try.prog 132 = none := by kernel_rfl
theorem ts133 : isStr Try.prog 133 = false := by kernel_rfl
theorem tb133 : isBl Try.prog 133 = false := by kernel_rfl
theorem tf133 : isIf Try.prog 133 = false := by kernel_rfl
theorem te133 : elemT Try.prog 133 = none := by kernel_rfl
theorem ta133 : arrT Try.prog 133 = none := by kernel_rfl
theorem ti133 : intT Try.prog 133 = none := by kernel_rfl
theorem tc133 : cellT Try.prog 133 = some (false, 1) := by kernel_rfl
theorem tz133 : szT Try.prog 133 = 1 := by kernel_rfl
theorem ty133 : Try.prog.bytesOf 133 = 8 := by kernel_rfl
theorem tm133 : mapT Try.prog 133 = none := by kernel_rfl
theorem tn133 : zeroSz Try.prog 133 = 1 := by kernel_rfl
theorem t0133 : zeroT Try.prog 133 = some (.nilf) := by kernel_rfl
theorem tu133 : (Try.prog.underlying 133).isNone = false := by kernel_rfl
theorem tr133 : structT Try.prog 133 = none := by kernel_rfl
theorem ts134 : isStr Try.prog 134 = false := by kernel_rfl
theorem tb134 : isBl Try.prog 134 = false := by kernel_rfl
theorem tf134 : isIf Try.prog 134 = false := by kernel_rfl
theorem te134 : elemT Try.prog 134 = none := by kernel_rfl
theorem ta134 : arrT Try.prog 134 = none := by kernel_rfl
theorem ti134 : intT Try.prog 134 = none := by kernel_rfl
theorem tc134 : cellT Try.prog 134 = some (false, 1) := by kernel_rfl
theorem tz134 : szT Try.prog 134 = 1 := by kernel_rfl
theorem ty134 : Try.prog.bytesOf 134 = 8 := by kernel_rfl
theorem tm134 : mapT Try.prog 134 = none := by kernel_rfl
theorem tn134 : zeroSz Try.prog 134 = 1 := by kernel_rfl
theorem t0134 : zeroT Try.prog 134 = some (.nilp) := by kernel_rfl
theorem tu134 : (Try.prog.underlying 134).isNone = false := by kernel_rfl
theorem tr134 : structT Try.prog 134 = none := by kernel_rfl
theorem ts135 : isStr Try.prog 135 = false := by kernel_rfl
theorem tb135 : isBl Try.prog 135 = false := by kernel_rfl
theorem tf135 : isIf Try.prog 135 = false := by kernel_rfl
theorem te135 : elemT Try.prog 135 = none := by kernel_rfl
theorem ta135 : arrT Try.prog 135 = none := by kernel_rfl
theorem ti135 : intT Try.prog 135 = none := by kernel_rfl
theorem tc135 : cellT Try.prog 135 = some (false, 1) := by kernel_rfl
theorem tz135 : szT Try.prog 135 = 1 := by kernel_rfl
theorem ty135 : Try.prog.bytesOf 135 = 8 := by kernel_rfl
theorem tm135 : mapT Try.prog 135 = none := by kernel_rfl
theorem tn135 : zeroSz Try.prog 135 = 1 := by kernel_rfl
theorem t0135 : zeroT Try.prog 135 = some (.nilf) := by kernel_rfl
theorem tu135 : (Try.prog.underlying 135).isNone = false := by kernel_rfl
theorem tr135 : structT Try.prog 135 = none := by kernel_rfl
theorem ts136 : isStr Try.prog 136 = false := by kernel_rfl
theorem tb136 : isBl Try.prog 136 = false := by kernel_rfl
theorem tf136 : isIf Try.prog 136 = false := by kernel_rfl
theorem te136 : elemT Try.prog 136 = none := by kernel_rfl
theorem ta136 : arrT Try.prog 136 = none := by kernel_rfl
theorem ti136 : intT Try.prog 136 = none := by kernel_rfl
theorem tc136 : cellT Try.prog 136 = some (false, 1) := by kernel_rfl
theorem tz136 : szT Try.prog 136 = 1 := by kernel_rfl
theorem ty136 : Try.prog.bytesOf 136 = 8 := by kernel_rfl
theorem tm136 : mapT Try.prog 136 = none := by kernel_rfl
theorem tn136 : zeroSz Try.prog 136 = 1 := by kernel_rfl
theorem t0136 : zeroT Try.prog 136 = some (.nilf) := by kernel_rfl
theorem tu136 : (Try.prog.underlying 136).isNone = false := by kernel_rfl
theorem tr136 : structT Try.prog 136 = none := by kernel_rfl
theorem ts137 : isStr Try.prog 137 = false := by kernel_rfl
theorem tb137 : isBl Try.prog 137 = false := by kernel_rfl
theorem tf137 : isIf Try.prog 137 = false := by kernel_rfl
theorem te137 : elemT Try.prog 137 = none := by kernel_rfl
theorem ta137 : arrT Try.prog 137 = some (16, 9) := by kernel_rfl
theorem ti137 : intT Try.prog 137 = none := by kernel_rfl
theorem tc137 : cellT Try.prog 137 = some (true, 16) := by kernel_rfl
theorem tz137 : szT Try.prog 137 = 16 := by kernel_rfl
theorem ty137 : Try.prog.bytesOf 137 = 256 := by kernel_rfl
theorem tm137 : mapT Try.prog 137 = none := by kernel_rfl
theorem tn137 : zeroSz Try.prog 137 = 16 := by kernel_rfl
theorem t0137 : zeroT Try.prog 137 = some (.agg [.str [], .str [], .str [], .str [], .str [], .str [], .str [], .str [], .str [], .str [], .str [], .str [], .str [], .str [], .str [], .str []]) := by kernel_rfl
theorem tu137 : (Try.prog.underlying 137).isNone = false := by kernel_rfl
theorem tr137 : structT Try.prog 137 = none := by kernel_rfl
theorem ts138 : isStr Try.prog 138 = false := by kernel_rfl
theorem tb138 : isBl Try.prog 138 = false := by kernel_rfl
theorem tf138 : isIf Try.prog 138 = false := by kernel_rfl
theorem te138 : elemT Try.prog 138 = none := by kernel_rfl
theorem ta138 : arrT Try.prog 138 = none := by kernel_rfl
theorem ti138 : intT Try.prog 138 = none := by kernel_rfl
theorem tc138 : cellT Try.prog 138 = some (false, 1) := by kernel_rfl
theorem tz138 : szT Try.prog 138 = 1 := by kernel_rfl
theorem ty138 : Try.prog.bytesOf 138 = 8 := by kernel_rfl
theorem tm138 : mapT Try.prog 138 = none := by kernel_rfl
theorem tn138 : zeroSz Try.prog 138 = 1 := by kernel_rfl
theorem t0138 : zeroT Try.prog 138 = some (.nilp) := by kernel_rfl
theorem tu138 : (Try.prog.underlying 138).isNone = false := by kernel_rfl
theorem tr138 : structT Try.prog 138 = none := by kernel_rfl
theorem ts139 : isStr Try.prog 139 = false := by kernel_rfl
theorem tb139 : isBl Try.prog 139 = false := by kernel_rfl
theorem tf139 : isIf Try.prog 139 = false := by kernel_rfl
theorem te139 : elemT Try.prog 139 = none := by kernel_rfl
theorem ta139 : arrT Try.prog 139 = none := by kernel_rfl
theorem ti139 : intT Try.prog 139 = none := by kernel_rfl
theorem tc139 : cellT Try.prog 139 = some (false, 1) := by kernel_rfl
theorem tz139 : szT Try.prog 139 = 1 := by kernel_rfl
theorem ty139 : Try.prog.bytesOf 139 = 8 := by kernel_rfl
theorem tm139 : mapT Try.prog 139 = none := by kernel_rfl
theorem tn139 : zeroSz Try.prog 139 = 1 := by kernel_rfl
theorem t0139 : zeroT Try.prog 139 = some (.nilf) := by kernel_rfl
theorem tu139 : (Try.prog.underlying 139).isNone = false := by kernel_rfl
theorem tr139 : structT Try.prog 139 = none := by kernel_rfl
theorem ts140 : isStr Try.prog 140 = false := by kernel_rfl
theorem tb140 : isBl Try.prog 140 = false := by kernel_rfl
theorem tf140 : isIf Try.prog 140 = false := by kernel_rfl
theorem te140 : elemT Try.prog 140 = none := by kernel_rfl
theorem ta140 : arrT Try.prog 140 = none := by kernel_rfl
theorem ti140 : intT Try.prog 140 = none := by kernel_rfl
theorem tc140 : cellT Try.prog 140 = some (true, 4) := by kernel_rfl
theorem tz140 : szT Try.prog 140 = 4 := by kernel_rfl
theorem ty140 : Try.prog.bytesOf 140 = 40 := by kernel_rfl
theorem tm140 : mapT Try.prog 140 = none := by kernel_rfl
theorem tn140 : zeroSz Try.prog 140 = 4 := by kernel_rfl
theorem t0140 : zeroT Try.prog 140 = some (.agg [.nilp, .nilp, .nilp, .str []]) := by kernel_rfl
theorem tu140 : (Try.prog.underlying 140).isNone = false := by kernel_rfl
theorem tr140 : structT Try.prog 140 = some [(0, 1), (1, 1), (2, 1), (3, 1)] := by kernel_rfl
theorem tg140_0 : fieldT Try.prog 140 0 = some (0, 17) := by kernel_rfl
theorem tg140_1 : fieldT Try.prog 140 1 = some (1, 17) := by kernel_rfl
theorem tg140_2 : fieldT Try.prog 140 2 = some (2, 17) := by kernel_rfl
theorem tg140_3 : fieldT Try.prog 140 3 = some (3, 9) := by kernel_rfl
theorem ts141 : isStr Try.prog 141 = false := by kernel_rfl
theorem tb141 : isBl Try.prog 141 = false := by kernel_rfl
theorem tf141 : isIf Try.prog 141 = false := by kernel_rfl
theorem te141 : elemT Try.prog 141 = none := by kernel_rfl
theorem ta141 : arrT Try.prog 141 = none := by kernel_rfl
theorem ti141 : intT Try.prog 141 = none := by kernel_rfl
theorem tc141 : cellT Try.prog 141 = some (true, 4) := by kernel_rfl
theorem tz141 : szT Try.prog 141 = 4 := by kernel_rfl
theorem ty141 : Try.prog.bytesOf 141 = 40 := by kernel_rfl
theorem tm141 : mapT Try.prog 141 = none := by kernel_rfl
theorem tn141 : zeroSz Try.prog 141 = 4 := by kernel_rfl
theorem t0141 : zeroT Try.prog 141 = some (.agg [.nilp, .nilp, .nilp, .str []]) := by kernel_rfl
theorem tu141 : (Try.prog.underlying 141).isNone = false := by kernel_rfl
theorem tr141 : structT Try.prog 141 = some [(0, 1), (1, 1), (2, 1), (3, 1)] := by kernel_rfl
theorem tg141_0 : fieldT Try.prog 141 0 = some (0, 17) := by kernel_rfl
theorem tg141_1 : fieldT Try.prog 141 1 = some (1, 17) := by kernel_rfl
theorem tg141_2 : fieldT Try.prog 141 2 = some (2, 17) := by kernel_rfl
theorem tg141_3 : fieldT Try.prog 141 3 = some (3, 9) := by kernel_rfl
theorem ts142 : isStr Try.prog 142 = false := by kernel_rfl
theorem tb142 : isBl Try.prog 142 = false := by kernel_rfl
theorem tf142 : isIf Try.prog 142 = false := by kernel_rfl
theorem te142 : elemT Try.prog 142 = none := by kernel_rfl
theorem ta142 : arrT Try.prog 142 = some (0, 16) := by kernel_rfl
theorem ti142 : intT Try.prog 142 = none := by kernel_rfl
theorem tc142 : cellT Try.prog 142 = some (true, 0) := by kernel_rfl
theorem tz142 : szT Try.prog 142 = 0 := by kernel_rfl
theorem ty142 : Try.prog.bytesOf 142 = 0 := by kernel_rfl
theorem tm142 : mapT Try.prog 142 = none := by kernel_rfl
theorem tn142 : zeroSz Try.prog 142 = 0 := by kernel_rfl
theorem t0142 : zeroT Try.prog 142 = some (.agg []) := by kernel_rfl
theorem tu142 : (Try.prog.underlying 142).isNone = false := by kernel_rfl
theorem tr142 : structT Try.prog 142 = none := by kernel_rfl
theorem ts143 : isStr Try.prog 143 = false := by kernel_rfl
theorem tb143 : isBl Try.prog 143 = false := by kernel_rfl
theorem tf143 : isIf Try.prog 143 = false := by kernel_rfl
theorem te143 : elemT Try.prog 143 = none := by kernel_rfl
theorem ta143 : arrT Try.prog 143 = none := by kernel_rfl
theorem ti143 : intT Try.prog 143 = none := by kernel_rfl
theorem tc143 : cellT Try.prog 143 = some (true, 0) := by kernel_rfl
theorem tz143 : szT Try.prog 143 = 0 := by kernel_rfl
theorem ty143 : Try.prog.bytesOf 143 = 0 := by kernel_rfl
theorem tm143 : mapT Try.prog 143 = none := by kernel_rfl
theorem tn143 : zeroSz Try.prog 143 = 0 := by kernel_rfl
theorem t0143 : zeroT Try.prog 143 = some (.agg []) := by kernel_rfl
theorem tu143 : (Try.prog.underlying 143).isNone = false := by kernel_rfl
theorem tr143 : structT Try.prog 143 = some [(0, 0)] := by kernel_rfl
theorem tg143_0 : fieldT Try.prog 143 0 = some (0, 142) := by kernel_rfl
theorem ts144 : isStr Try.prog 144 = false := by kernel_rfl
theorem tb144 : isBl Try.prog 144 = false := by kernel_rfl
theorem tf144 : isIf Try.prog 144 = false := by kernel_rfl
theorem te144 : elemT Try.prog 144 = none := by kernel_rfl
theorem ta144 : arrT Try.prog 144 = none := by kernel_rfl
theorem ti144 : intT Try.prog 144 = none := by kernel_rfl
theorem tc144 : cellT Try.prog 144 = some (true, 0) := by kernel_rfl
theorem tz144 : szT Try.prog 144 = 0 := by kernel_rfl
theorem ty144 : Try.prog.bytesOf 144 = 0 := by kernel_rfl
theorem tm144 : mapT Try.prog 144 = none := by kernel_rfl
theorem tn144 : zeroSz Try.prog 144 = 0 := by kernel_rfl
theorem t0144 : zeroT Try.prog 144 = some (.agg []) := by kernel_rfl
theorem tu144 : (Try.prog.underlying 144).isNone = false := by kernel_rfl
theorem tr144 : structT Try.prog 144 = some [(0, 0)] := by kernel_rfl
theorem tg144_0 : fieldT Try.prog 144 0 = some (0, 142) := by kernel_rfl
theorem ts145 : isStr Try.prog 145 = false := by kernel_rfl
theorem tb145 : isBl Try.prog 145 = false := by kernel_rfl
theorem tf145 : isIf Try.prog 145 = false := by kernel_rfl
theorem te145 : elemT Try.prog 145 = none := by kernel_rfl
theorem ta145 : arrT Try.prog 145 = none := by kernel_rfl
theorem ti145 : intT Try.prog 145 = none := by kernel_rfl
theorem tc145 : cellT Try.prog 145 = some (false, 1) := by kernel_rfl
theorem tz145 : szT Try.prog 145 = 1 := by kernel_rfl
theorem ty145 : Try.prog.bytesOf 145 = 8 := by kernel_rfl
theorem tm145 : mapT Try.prog 145 = none := by kernel_rfl
theorem tn145 : zeroSz Try.prog 145 = 1 := by kernel_rfl
theorem t0145 : zeroT Try.prog 145 = some (.nilf) := by kernel_rfl
theorem tu145 : (Try.prog.underlying 145).isNone = false := by kernel_rfl
theorem tr145 : structT Try.prog 145 = none := by kernel_rfl
theorem ts146 : isStr Try.prog 146 = false := by kernel_rfl
theorem tb146 : isBl Try.prog 146 = false := by kernel_rfl
theorem tf146 : isIf Try.prog 146 = false := by kernel_rfl
theorem te146 : elemT Try.prog 146 = none := by kernel_rfl
theorem ta146 : arrT Try.prog 146 = none := by kernel_rfl
theorem ti146 : intT Try.prog 146 = some .u8 := by kernel_rfl
theorem tc146 : cellT Try.prog 146 = some (false, 1) := by kernel_rfl
theorem tz146 : szT Try.prog 146 = 1 := by kernel_rfl
theorem ty146 : Try.prog.bytesOf 146 = 1 := by kernel_rfl
theorem tm146 : mapT Try.prog 146 = none := by kernel_rfl
theorem tn146 : zeroSz Try.prog 146 = 1 := by kernel_rfl
theorem t0146 : zeroT Try.prog 146 = some (.int .u8 0) := by kernel_rfl
theorem tu146 : (Try.prog.underlying 146).isNone = false := by kernel_rfl
theorem tr146 : structT Try.prog 146 = none := by kernel_rfl
theorem ts147 : isStr Try.prog 147 = false := by kernel_rfl
theorem tb147 : isBl Try.prog 147 = false := by kernel_rfl
theorem tf147 : isIf Try.prog 147 = false := by kernel_rfl
theorem te147 : elemT Try.prog 147 = none := by kernel_rfl
theorem ta147 : arrT Try.prog 147 = none := by kernel_rfl
theorem ti147 : intT Try.prog 147 = some .u8 := by kernel_rfl
theorem tc147 : cellT Try.prog 147 = some (false, 1) := by kernel_rfl
theorem tz147 : szT Try.prog 147 = 1 := by kernel_rfl
theorem ty147 : Try.prog.bytesOf 147 = 1 := by kernel_rfl
theorem tm147 : mapT Try.prog 147 = none := by kernel_rfl
theorem tn147 : zeroSz Try.prog 147 = 1 := by kernel_rfl
theorem t0147 : zeroT Try.prog 147 = some (.int .u8 0) := by kernel_rfl
theorem tu147 : (Try.prog.underlying 147).isNone = false := by kernel_rfl
theorem tr147 : structT Try.prog 147 = none := by kernel_rfl
theorem ts148 : isStr Try.prog 148 = false := by kernel_rfl
theorem tb148 : isBl Try.prog 148 = false := by kernel_rfl
theorem tf148 : isIf Try.prog 148 = false := by kernel_rfl
theorem te148 : elemT Try.prog 148 = none := by kernel_rfl
theorem ta148 : arrT Try.prog 148 = none := by kernel_rfl
theorem ti148 : intT Try.prog 148 = none := by kernel_rfl
theorem tc148 : cellT Try.prog 148 = some (false, 1) := by kernel_rfl
theorem tz148 : szT Try.prog 148 = 1 := by kernel_rfl
theorem ty148 : Try.prog.bytesOf 148 = 8 := by kernel_rfl
theorem tm148 : mapT Try.prog 148 = none := by kernel_rfl
theorem tn148 : zeroSz Try.prog 148 = 1 := by kernel_rfl
theorem t0148 : zeroT Try.prog 148 = some (.nilf) := by kernel_rfl
theorem tu148 : (Try.prog.underlying 148).isNone = false := by kernel_rfl
theorem tr148 : structT Try.prog 148 = none := by kernel_rfl
theorem ts149 : isStr Try.prog 149 = false := by kernel_rfl
theorem tb149 : isBl Try.prog 149 = false := by kernel_rfl
theorem tf149 : isIf Try.prog 149 = false := by kernel_rfl
theorem te149 : elemT Try.prog 149 = none := by kernel_rfl
theorem ta149 : arrT Try.prog 149 = none := by kernel_rfl
theorem ti149 : intT Try.prog 149 = none := by kernel_rfl
theorem tc149 : cellT Try.prog 149 = some (false, 1) := by kernel_rfl
theorem tz149 : szT Try.prog 149 = 1 := by kernel_rfl
theorem ty149 : Try.prog.bytesOf 149 = 8 := by kernel_rfl
theorem tm149 : mapT Try.prog 149 = none := by kernel_rfl
theorem tn149 : zeroSz Try.prog 149 = 1 := by kernel_rfl
theorem t0149 : zeroT Try.prog 149 = some (.nilp) := by kernel_rfl
theorem tu149 : (Try.prog.underlying 149).isNone = false := by kernel_rfl
theorem tr149 : structT Try.prog 149 = none := by kernel_rfl
theorem ts150 : isStr Try.prog 150 = false := by kernel_rfl
theorem tb150 : isBl Try.prog 150 = false := by kernel_rfl
theorem tf150 : isIf Try.prog 150 = false := by kernel_rfl
theorem te150 : elemT Try.prog 150 = none := by kernel_rfl
theorem ta150 : arrT Try.prog 150 = none := by kernel_rfl
theorem ti150 : intT Try.prog 150 = some .i32 := by kernel_rfl
theorem tc150 : cellT Try.prog 150 = some (false, 1) := by kernel_rfl
theorem tz150 : szT Try.prog 150 = 1 := by kernel_rfl
theorem ty150 : Try.prog.bytesOf 150 = 4 := by kernel_rfl
theorem tm150 : mapT Try.prog 150 = none := by kernel_rfl
theorem tn150 : zeroSz Try.prog 150 = 1 := by kernel_rfl
theorem t0150 : zeroT Try.prog 150 = some (.int .i32 0) := by kernel_rfl
theorem tu150 : (Try.prog.underlying 150).isNone = false := by kernel_rfl
theorem tr150 : structT Try.prog 150 = none := by kernel_rfl
theorem ts151 : isStr Try.prog 151 = false := by kernel_rfl
theorem tb151 : isBl Try.prog 151 = false := by kernel_rfl
theorem tf151 : isIf Try.prog 151 = false := by kernel_rfl
theorem te151 : elemT Try.prog 151 = none := by kernel_rfl
theorem ta151 : arrT Try.prog 151 = none := by kernel_rfl
theorem ti151 : intT Try.prog 151 = some .i32 := by kernel_rfl
theorem tc151 : cellT Try.prog 151 = some (false, 1) := by kernel_rfl
theorem tz151 : szT Try.prog 151 = 1 := by kernel_rfl
theorem ty151 : Try.prog.bytesOf 151 = 4 := by kernel_rfl
theorem tm151 : mapT Try.prog 151 = none := by kernel_rfl
theorem tn151 : zeroSz Try.prog 151 = 1 := by kernel_rfl
theorem t0151 : zeroT Try.prog 151 = some (.int .i32 0) := by kernel_rfl
theorem tu151 : (Try.prog.underlying 151).isNone = false := by kernel_rfl
theorem tr151 : structT Try.prog 151 = none := by kernel_rfl
theorem ts152 : isStr Try.prog 152 = false := by kernel_rfl
theorem tb152 : isBl Try.prog 152 = false := by kernel_rfl
theorem tf152 : isIf Try.prog 152 = false := by kernel_rfl
theorem te152 : elemT Try.prog 152 = none := by kernel_rfl
theorem ta152 : arrT Try.prog 152 = none := by kernel_rfl
theorem ti152 : intT Try.prog 152 = none := by kernel_rfl
theorem tc152 : cellT Try.prog 152 = some (true, 11) := by kernel_rfl
theorem tz152 : szT Try.prog 152 = 11 := by kernel_rfl
theorem ty152 : Try.prog.bytesOf 152 = 48 := by kernel_rfl
theorem tm152 : mapT Try.prog 152 = none := by kernel_rfl
theorem tn152 : zeroSz Try.prog 152 = 11 := by kernel_rfl
theorem t0152 : zeroT Try.prog 152 = some (.agg [.int .u64 0, .int .u64 0, .int .u32 0, .int .u8 0, .int .u8 0, .int .u8 0, .int .u8 0, .nilf, .nilp, .int .i32 0, .int .i32 0]) := by kernel_rfl
theorem tu152 : (Try.prog.underlying 152).isNone = false := by kernel_rfl
theorem tr152 : structT Try.prog 152 = some [(0, 1), (1, 1), (2, 1), (3, 1), (4, 1), (5, 1), (6, 1), (7, 1), (8, 1), (9, 1), (10, 1)] := by kernel_rfl
theorem tg152_0 : fieldT Try.prog 152 0 = some (0, 12) := by kernel_rfl
theorem tg152_1 : fieldT Try.prog 152 1 = some (1, 12) := by kernel_rfl
theorem tg152_2 : fieldT Try.prog 152 2 = some (2, 118) := by kernel_rfl
theorem tg152_3 : fieldT Try.prog 152 3 = some (3, 146) := by kernel_rfl
theorem tg152_4 : fieldT Try.prog 152 4 = some (4, 5) := by kernel_rfl
theorem tg152_5 : fieldT Try.prog 152 5 = some (5, 5) := by kernel_rfl
theorem tg152_6 : fieldT Try.prog 152 6 = some (6, 147) := by kernel_rfl
theorem tg152_7 : fieldT Try.prog 152 7 = some (7, 148) := by kernel_rfl
theorem tg152_8 : fieldT Try.prog 152 8 = some (8, 149) := by kernel_rfl
theorem tg152_9 : fieldT Try.prog 152 9 = some (9, 150) := by kernel_rfl
theorem tg152_10 : fieldT Try.prog 152 10 = some (10, 151) := by kernel_rfl
theorem ts153 : isStr Try.prog 153 = false := by kernel_rfl
theorem tb153 : isBl Try.prog 153 = false := by kernel_rfl
theorem tf153 : isIf Try.prog 153 = false := by kernel_rfl
theorem te153 : elemT Try.prog 153 = none := by kernel_rfl
theorem ta153 : arrT Try.prog 153 = none := by kernel_rfl
theorem ti153 : intT Try.prog 153 = none := by kernel_rfl
theorem tc153 : cellT Try.prog 153 = some (true, 11) := by kernel_rfl
theorem tz153 : szT Try.prog 153 = 11 := by kernel_rfl
theorem ty153 : Try.prog.bytesOf 153 = 48 := by kernel_rfl
theorem tm153 : mapT Try.prog 153 = none := by kernel_rfl
theorem tn153 : zeroSz Try.prog 153 = 11 := by kernel_rfl
theorem t0153 : zeroT Try.prog 153 = some (.agg [.int .u64 0, .int .u64 0, .int .u32 0, .int .u8 0, .int .u8 0, .int .u8 0, .int .u8 0, .nilf, .nilp, .int .i32 0, .int .i32 0]) := by kernel_rfl
theorem tu153 : (Try.prog.underlying 153).isNone = false := by kernel_rfl
theorem tr153 : structT Try.prog 153 = some [(0, 1), (1, 1), (2, 1), (3, 1), (4, 1), (5, 1), (6, 1), (7, 1), (8, 1), (9, 1), (10, 1)] := by kernel_rfl
theorem tg153_0 : fieldT Try.prog 153 0 = some (0, 12) := by kernel_rfl
theorem tg153_1 : fieldT Try.prog 153 1 = some (1, 12) := by kernel_rfl
theorem tg153_2 : fieldT Try.prog 153 2 = some (2, 118) := by kernel_rfl
theorem tg153_3 : fieldT Try.prog 153 3 = some (3, 146) := by kernel_rfl
theorem tg153_4 : fieldT Try.prog 153 4 = some (4, 5) := by kernel_rfl
theorem tg153_5 : fieldT Try.prog 153 5 = some (5, 5) := by kernel_rfl
theorem tg153_6 : fieldT Try.prog 153 6 = some (6, 147) := by kernel_rfl
theorem tg153_7 : fieldT Try.prog 153 7 = some (7, 148) := by kernel_rfl
theorem tg153_8 : fieldT Try.prog 153 8 = some (8, 149) := by kernel_rfl
theorem tg153_9 : fieldT Try.prog 153 9 = some (9, 150) := by kernel_rfl
theorem tg153_10 : fieldT Try.prog 153 10 = some (10, 151) := by kernel_rfl
theorem ts154 : isStr Try.prog 154 = false := by kernel_rfl
theorem tb154 : isBl Try.prog 154 = false := by kernel_rfl
theorem tf154 : isIf Try.prog 154 = false := by kernel_rfl
theorem te154 : elemT Try.prog 154 = none := by kernel_rfl
theorem ta154 : arrT Try.prog 154 = none := by kernel_rfl
theorem ti154 : intT Try.prog 154 = none := by kernel_rfl
theorem tc154 : cellT Try.prog 154 = some (false, 1) := by kernel_rfl
theorem tz154 : szT Try.prog 154 = 1 := by kernel_rfl
theorem ty154 : Try.prog.bytesOf 154 = 8 := by kernel_rfl
theorem tm154 : mapT Try.prog 154 = none := by kernel_rfl
theorem tn154 : zeroSz Try.prog 154 = 1 := by kernel_rfl
theorem t0154 : zeroT Try.prog 154 = some (.nilp) := by kernel_rfl
theorem tu154 : (Try.prog.underlying 154).isNone = false := by kernel_rfl
theorem tr154 : structT Try.prog 154 = none := by kernel_rfl
attribute [go_sem] ts0 tb0 tf0 te0 ta0 ti0 tc0 tz0 ty0 tm0 tn0 t00 tu0 tr0 ts1 tb1 tf1 te1 ta1 ti1 tc1 tz1 ty1 tm1 tn1 t01 tu1 tr1 ts2 tb2 tf2 te2 ta2 ti2 tc2 tz2 ty2 tm2 tn2 t02 tu2 tr2 ts3 tb3 tf3 te3 ta3 ti3 tc3 tz3 ty3 tm3 tn3 t03 tu3 tr3 ts4 tb4 tf4 te4 ta4 ti4 tc4 tz4 ty4 tm4 tn4 t04 tu4 tr4 ts5 tb5 tf5 te5 ta5 ti5 tc5 tz5 ty5 tm5 tn5 t05 tu5 tr5 ts6 tb6 tf6 te6 ta6 ti6 tc6 tz6 ty6 tm6 tn6 t06 tu6 tr6 ts7 tb7 tf7 te7 ta7 ti7 tc7 tz7 ty7 tm7 tn7 t07 tu7 tr7 tg7_0 tg7_1 tg7_2 tg7_3 ts8 tb8 tf8 te8 ta8 ti8 tc8 tz8 ty8 tm8 tn8 t08 tu8 tr8 tg8_0 tg8_1 tg8_2 tg8_3 ts9 tb9 tf9 te9 ta9 ti9 tc9 tz9 ty9 tm9 tn9 t09 tu9 tr9 ts10 tb10 tf10 te10 ta10 ti10 tc10 tz10 ty10 tm10 tn10 t010 tu10 tr10 ts11 tb11 tf11 te11 ta11 ti11 tc11 tz11 ty11 tm11 tn11 t011 tu11 tr11 ts12 tb12 tf12 te12 ta12 ti12 tc12 tz12 ty12 tm12 tn12 t012 tu12 tr12 ts13 tb13 tf13 te13 ta13 ti13 tc13 tz13 ty13 tm13 tn13 t013 tu13 tr13 tg13_0 tg13_1 ts14 tb14 tf14 te14 ta14 ti14 tc14 tz14 ty14 tm14 tn14 t014 tu14 tr14 tg14_0 tg14_1 ts15 tb15 tf15 te15 ta15 ti15 tc15 tz15 ty15 tm15 tn15 t015 tu15 tr15 ts16 tb16 tf16 te16 ta16 ti16 tc16 tz16 ty16 tm16 tn16 t016 tu16 tr16 ts17 tb17 tf17 te17 ta17 ti17 tc17 tz17 ty17 tm17 tn17 t017 tu17 tr17 ts18 tb18 tf18 te18 ta18 ti18 tc18 tz18 ty18 tm18 tn18 t018 tu18 tr18 tg18_0 ts19 tb19 tf19 te19 ta19 ti19 tc19 tz19 ty19 tm19 tn19 t019 tu19 tr19 tg19_0 ts20 tb20 tf20 te20 ta20 ti20 tc20 tz20 ty20 tm20 tn20 t020 tu20 tr20 ts21 tb21 tf21 te21 ta21 ti21 tc21 tz21 ty21 tm21 tn21 t021 tu21 tr21 ts22 tb22 tf22 te22 ta22 ti22 tc22 tz22 ty22 tm22 tn22 t022 tu22 tr22 ts23 tb23 tf23 te23 ta23 ti23 tc23 tz23 ty23 tm23 tn23 t023 tu23 tr23 ts24 tb24 tf24 te24 ta24 ti24 tc24 tz24 ty24 tm24 tn24 t024 tu24 tr24 tg24_0 ts25 tb25 tf25 te25 ta25 ti25 tc25 tz25 ty25 tm25 tn25 t025 tu25 tr25 tg25_0 ts26 tb26 tf26 te26 ta26 ti26 tc26 tz26 ty26 tm26 tn26 t026 tu26 tr26 ts27 tb27 tf27 te27 ta27 ti27 tc27 tz27 ty27 tm27 tn27 t027 tu27 tr27 ts28 tb28 tf28 te28 ta28 ti28 tc28 tz28 ty28 tm28 tn28 t028 tu28 tr28 ts29 tb29 tf29 te29 ta29 ti29 tc29 tz29 ty29 tm29 tn29 t029 tu29 tr29 tg29_0 tg29_1 tg29_2 ts30 tb30 tf30 te30 ta30 ti30 tc30 tz30 ty30 tm30 tn30 t030 tu30 tr30 tg30_0 tg30_1 tg30_2 ts31 tb31 tf31 te31 ta31 ti31 tc31 tz31 ty31 tm31 tn31 t031 tu31 tr31 ts32 tb32 tf32 te32 ta32 ti32 tc32 tz32 ty32 tm32 tn32 t032 tu32 tr32 ts33 tb33 tf33 te33 ta33 ti33 tc33 tz33 ty33 tm33 tn33 t033 tu33 tr33 ts34 tb34 tf34 te34 ta34 ti34 tc34 tz34 ty34 tm34 tn34 t034 tu34 tr34 ts35 tb35 tf35 te35 ta35 ti35 tc35 tz35 ty35 tm35 tn35 t035 tu35 tr35 ts36 tb36 tf36 te36 ta36 ti36 tc36 tz36 ty36 tm36 tn36 t036 tu36 tr36 ts37 tb37 tf37 te37 ta37 ti37 tc37 tz37 ty37 tm37 tn37 t037 tu37 tr37 ts38 tb38 tf38 te38 ta38 ti38 tc38 tz38 ty38 tm38 tn38 t038 tu38 tr38 ts39 tb39 tf39 te39 ta39 ti39 tc39 tz39 ty39 tm39 tn39 t039 tu39 tr39 ts40 tb40 tf40 te40 ta40 ti40 tc40 tz40 ty40 tm40 tn40 t040 tu40 tr40 ts41 tb41 tf41 te41 ta41 ti41 tc41 tz41 ty41 tm41 tn41 t041 tu41 tr41 ts42 tb42 tf42 te42 ta42 ti42 tc42 tz42 ty42 tm42 tn42 t042 tu42 tr42 ts43 tb43 tf43 te43 ta43 ti43 tc43 tz43 ty43 tm43 tn43 t043 tu43 tr43 tg43_0 tg43_1 tg43_2 tg43_3 ts44 tb44 tf44 te44 ta44 ti44 tc44 tz44 ty44 tm44 tn44 t044 tu44 tr44 tg44_0 tg44_1 tg44_2 tg44_3 ts45 tb45 tf45 te45 ta45 ti45 tc45 tz45 ty45 tm45 tn45 t045 tu45 tr45 ts46 tb46 tf46 te46 ta46 ti46 tc46 tz46 ty46 tm46 tn46 t046 tu46 tr46 ts47 tb47 tf47 te47 ta47 ti47 tc47 tz47 ty47 tm47 tn47 t047 tu47 tr47 ts48 tb48 tf48 te48 ta48 ti48 tc48 tz48 ty48 tm48 tn48 t048 tu48 tr48 ts49 tb49 tf49 te49 ta49 ti49 tc49 tz49 ty49 tm49 tn49 t049 tu49 tr49 ts50 tb50 tf50 te50 ta50 ti50 tc50 tz50 ty50 tm50 tn50 t050 tu50 tr50 ts51 tb51 tf51 te51 ta51 ti51 tc51 tz51 ty51 tm51 tn51 t051 tu51 tr51 ts52 tb52 tf52 te52 ta52 ti52 tc52 tz52 ty52 tm52 tn52 t052 tu52 tr52 ts53 tb53 tf53 te53 ta53 ti53 tc53 tz53 ty53 tm53 tn53 t053 tu53 tr53 ts54 tb54 tf54 te54 ta54 ti54 tc54 tz54 ty54 tm54 tn54 t054 tu54 tr54 ts55 tb55 tf55 te55 ta55 ti55 tc55 tz55 ty55 tm55 tn55 t055 tu55 tr55 tg55_0 tg55_1 ts56 tb56 tf56 te56 ta56 ti56 tc56 tz56 ty56 tm56 tn56 t056 tu56 tr56 tg56_0 tg56_1 ts57 tb57 tf57 te57 ta57 ti57 tc57 tz57 ty57 tm57 tn57 t057 tu57 tr57 ts58 tb58 tf58 te58 ta58 ti58 tc58 tz58 ty58 tm58 tn58 t058 tu58 tr58 ts59 tb59 tf59 te59 ta59 ti59 tc59 tz59 ty59 tm59 tn59 t059 tu59 tr59 ts60 tb60 tf60 te60 ta60 ti60 tc60 tz60 ty60 tm60 tn60 t060 tu60 tr60 ts61 tb61 tf61 te61 ta61 ti61 tc61 tz61 ty61 tm61 tn61 t061 tu61 tr61 ts62 tb62 tf62 te62 ta62 ti62 tc62 tz62 ty62 tm62 tn62 t062 tu62 tr62 ts63 tb63 tf63 te63 ta63 ti63 tc63 tz63 ty63 tm63 tn63 t063 tu63 tr63 ts64 tb64 tf64 te64 ta64 ti64 tc64 tz64 ty64 tm64 tn64 t064 tu64 tr64 tg64_0 tg64_1 tg64_2 tg64_3 ts65 tb65 tf65 te65 ta65 ti65 tc65 tz65 ty65 tm65 tn65 t065 tu65 tr65 tg65_0 tg65_1 tg65_2 tg65_3 ts66 tb66 tf66 te66 ta66 ti66 tc66 tz66 ty66 tm66 tn66 t066 tu66 tr66 ts67 tb67 tf67 te67 ta67 ti67 tc67 tz67 ty67 tm67 tn67 t067 tu67 tr67 ts68 tb68 tf68 te68 ta68 ti68 tc68 tz68 ty68 tm68 tn68 t068 tu68 tr68 ts69 tb69 tf69 te69 ta69 ti69 tc69 tz69 ty69 tm69 tn69 t069 tu69 tr69 tg69_0 ts70 tb70 tf70 te70 ta70 ti70 tc70 tz70 ty70 tm70 tn70 t070 tu70 tr70 ts71 tb71 tf71 te71 ta71 ti71 tc71 tz71 ty71 tm71 tn71 t071 tu71 tr71 ts72 tb72 tf72 te72 ta72 ti72 tc72 tz72 ty72 tm72 tn72 t072 tu72 tr72 ts73 tb73 tf73 te73 ta73 ti73 tc73 tz73 ty73 tm73 tn73 t073 tu73 tr73 ts74 tb74 tf74 te74 ta74 ti74 tc74 tz74 ty74 tm74 tn74 t074 tu74 tr74 ts75 tb75 tf75 te75 ta75 ti75 tc75 tz75 ty75 tm75 tn75 t075 tu75 tr75 ts76 tb76 tf76 te76 ta76 ti76 tc76 tz76 ty76 tm76 tn76 t076 tu76 tr76 ts77 tb77 tf77 te77 ta77 ti77 tc77 tz77 ty77 tm77 tn77 t077 tu77 tr77 ts78 tb78 tf78 te78 ta78 ti78 tc78 tz78 ty78 tm78 tn78 t078 tu78 tr78 ts79 tb79 tf79 te79 ta79 ti79 tc79 tz79 ty79 tm79 tn79 t079 tu79 tr79 tg79_0 tg79_1 tg79_2 tg79_3 ts80 tb80 tf80 te80 ta80 ti80 tc80 tz80 ty80 tm80 tn80 t080 tu80 tr80 ts81 tb81 tf81 te81 ta81 ti81 tc81 tz81 ty81 tm81 tn81 t081 tu81 tr81 ts82 tb82 tf82 te82 ta82 ti82 tc82 tz82 ty82 tm82 tn82 t082 tu82 tr82 ts83 tb83 tf83 te83 ta83 ti83 tc83 tz83 ty83 tm83 tn83 t083 tu83 tr83 ts84 tb84 tf84 te84 ta84 ti84 tc84 tz84 ty84 tm84 tn84 t084 tu84 tr84 ts85 tb85 tf85 te85 ta85 ti85 tc85 tz85 ty85 tm85 tn85 t085 tu85 tr85 ts86 tb86 tf86 te86 ta86 ti86 tc86 tz86 ty86 tm86 tn86 t086 tu86 tr86 ts87 tb87 tf87 te87 ta87 ti87 tc87 tz87 ty87 tm87 tn87 t087 tu87 tr87 ts88 tb88 tf88 te88 ta88 ti88 tc88 tz88 ty88 tm88 tn88 t088 tu88 tr88 ts89 tb89 tf89 te89 ta89 ti89 tc89 tz89 ty89 tm89 tn89 t089 tu89 tr89 ts90 tb90 tf90 te90 ta90 ti90 tc90 tz90 ty90 tm90 tn90 t090 tu90 tr90 ts91 tb91 tf91 te91 ta91 ti91 tc91 tz91 ty91 tm91 tn91 t091 tu91 tr91 ts92 tb92 tf92 te92 ta92 ti92 tc92 tz92 ty92 tm92 tn92 t092 tu92 tr92 ts93 tb93 tf93 te93 ta93 ti93 tc93 tz93 ty93 tm93 tn93 t093 tu93 tr93 ts94 tb94 tf94 te94 ta94 ti94 tc94 tz94 ty94 tm94 tn94 t094 tu94 tr94 ts95 tb95 tf95 te95 ta95 ti95 tc95 tz95 ty95 tm95 tn95 t095 tu95 tr95 ts96 tb96 tf96 te96 ta96 ti96 tc96 tz96 ty96 tm96 tn96 t096 tu96 tr96 ts97 tb97 tf97 te97 ta97 ti97 tc97 tz97 ty97 tm97 tn97 t097 tu97 tr97 ts98 tb98 tf98 te98 ta98 ti98 tc98 tz98 ty98 tm98 tn98 t098 tu98 tr98 ts99 tb99 tf99 te99 ta99 ti99 tc99 tz99 ty99 tm99 tn99 t099 tu99 tr99 ts100 tb100 tf100 te100 ta100 ti100 tc100 tz100 ty100 tm100 tn100 t0100 tu100 tr100 ts101 tb101 tf101 te101 ta101 ti101 tc101 tz101 ty101 tm101 tn101 t0101 tu101 tr101 ts102 tb102 tf102 te102 ta102 ti102 tc102 tz102 ty102 tm102 tn102 t0102 tu102 tr102 ts103 tb103 tf103 te103 ta103 ti103 tc103 tz103 ty103 tm103 tn103 t0103 tu103 tr103 ts104 tb104 tf104 te104 ta104 ti104 tc104 tz104 ty104 tm104 tn104 t0104 tu104 tr104 ts105 tb105 tf105 te105 ta105 ti105 tc105 tz105 ty105 tm105 tn105 t0105 tu105 tr105 ts106 tb106 tf106 te106 ta106 ti106 tc106 tz106 ty106 tm106 tn106 t0106 tu106 tr106 ts107 tb107 tf107 te107 ta107 ti107 tc107 tz107 ty107 tm107 tn107 t0107 tu107 tr107 ts108 tb108 tf108 te108 ta108 ti108 tc108 tz108 ty108 tm108 tn108 t0108 tu108 tr108 ts109 tb109 tf109 te109 ta109 ti109 tc109 tz109 ty109 tm109 tn109 t0109 tu109 tr109 ts110 tb110 tf110 te110 ta110 ti110 tc110 tz110 ty110 tm110 tn110 t0110 tu110 tr110 ts111 tb111 tf111 te111 ta111 ti111 tc111 tz111 ty111 tm111 tn111 t0111 tu111 tr111 ts112 tb112 tf112 te112 ta112 ti112 tc112 tz112 ty112 tm112 tn112 t0112 tu112 tr112 ts113 tb113 tf113 te113 ta113 ti113 tc113 tz113 ty113 tm113 tn113 t0113 tu113 tr113 ts114 tb114 tf114 te114 ta114 ti114 tc114 tz114 ty114 tm114 tn114 t0114 tu114 tr114 ts115 tb115 tf115 te115 ta115 ti115 tc115 tz115 ty115 tm115 tn115 t0115 tu115 tr115 ts116 tb116 tf116 te116 ta116 ti116 tc116 tz116 ty116 tm116 tn116 t0116 tu116 tr116 ts117 tb117 tf117 te117 ta117 ti117 tc117 tz117 ty117 tm117 tn117 t0117 tu117 tr117 ts118 tb118 tf118 te118 ta118 ti118 tc118 tz118 ty118 tm118 tn118 t0118 tu118 tr118 ts119 tb119 tf119 te119 ta119 ti119 tc119 tz119 ty119 tm119 tn119 t0119 tu119 tr119 ts120 tb120 tf120 te120 ta120 ti120 tc120 tz120 ty120 tm120 tn120 t0120 tu120 tr120 ts121 tb121 tf121 te121 ta121 ti121 tc121 tz121 ty121 tm121 tn121 t0121 tu121 tr121 ts122 tb122 tf122 te122 ta122 ti122 tc122 tz122 ty122 tm122 tn122 t0122 tu122 tr122 ts123 tb123 tf123 te123 ta123 ti123 tc123 tz123 ty123 tm123 tn123 t0123 tu123 tr123 ts124 tb124 tf124 te124 ta124 ti124 tc124 tz124 ty124 tm124 tn124 t0124 tu124 tr124 ts125 tb125 tf125 te125 ta125 ti125 tc125 tz125 ty125 tm125 tn125 t0125 tu125 tr125 tg125_0 tg125_1 tg125_2 tg125_3 ts126 tb126 tf126 te126 ta126 ti126 tc126 tz126 ty126 tm126 tn126 t0126 tu126 tr126 tg126_0 tg126_1 tg126_2 tg126_3 ts127 tb127 tf127 te127 ta127 ti127 tc127 tz127 ty127 tm127 tn127 t0127 tu127 tr127 ts128 tb128 tf128 te128 ta128 ti128 tc128 tz128 ty128 tm128 tn128 t0128 tu128 tr128 ts129 tb129 tf129 te129 ta129 ti129 tc129 tz129 ty129 tm129 tn129 t0129 tu129 tr129 ts130 tb130 tf130 te130 ta130 ti130 tc130 tz130 ty130 tm130 tn130 t0130 tu130 tr130 ts131 tb131 tf131 te131 ta131 ti131 tc131 tz131 ty131 tm131 tn131 t0131 tu131 tr131 ts132 tb132 tf132 te132 ta132 ti132 tc132 tz132 ty132 tm132 tn132 t0132 tu132 tr132 ts133 tb133 tf133 te133 ta133 ti133 tc133 tz133 ty133 tm133 tn133 t0133 tu133 tr133 ts134 tb134 tf134 te134 ta134 ti134 tc134 tz134 ty134 tm134 tn134 t0134 tu134 tr134 ts135 tb135 tf135 te135 ta135 ti135 tc135 tz135 ty135 tm135 tn135 t0135 tu135 tr135 ts136 tb136 tf136 te136 ta136 ti136 tc136 tz136 ty136 tm136 tn136 t0136 tu136 tr136 ts137 tb137 tf137 te137 ta137 ti137 tc137 tz137 ty137 tm137 tn137 t0137 tu137 tr137 ts138 tb138 tf138 te138 ta138 ti138 tc138 tz138 ty138 tm138 tn138 t0138 tu138 tr138 ts139 tb139 tf139 te139 ta139 ti139 tc139 tz139 ty139 tm139 tn139 t0139 tu139 tr139 ts140 tb140 tf140 te140 ta140 ti140 tc140 tz140 ty140 tm140 tn140 t0140 tu140 tr140 tg140_0 tg140_1 tg140_2 tg140_3 ts141 tb141 tf141 te141 ta141 ti141 tc141 tz141 ty141 tm141 tn141 t0141 tu141 tr141 tg141_0 tg141_1 tg141_2 tg141_3 ts142 tb142 tf142 te142 ta142 ti142 tc142 tz142 ty142 tm142 tn142 t0142 tu142 tr142 ts143 tb143 tf143 te143 ta143 ti143 tc143 tz143 ty143 tm143 tn143 t0143 tu143 tr143 tg143_0 ts144 tb144 tf144 te144 ta144 ti144 tc144 tz144 ty144 tm144 tn144 t0144 tu144 tr144 tg144_0 ts145 tb145 tf145 te145 ta145 ti145 tc145 tz145 ty145 tm145 tn145 t0145 tu145 tr145 ts146 tb146 tf146 te146 ta146 ti146 tc146 tz146 ty146 tm146 tn146 t0146 tu146 tr146 ts147 tb147 tf147 te147 ta147 ti147 tc147 tz147 ty147 tm147 tn147 t0147 tu147 tr147 ts148 tb148 tf148 te148 ta148 ti148 tc148 tz148 ty148 tm148 tn148 t0148 tu148 tr148 ts149 tb149 tf149 te149 ta149 ti149 tc149 tz149 ty149 tm149 tn149 t0149 tu149 tr149 ts150 tb150 tf150 te150 ta150 ti150 tc150 tz150 ty150 tm150 tn150 t0150 tu150 tr150 ts151 tb151 tf151 te151 ta151 ti151 tc151 tz151 ty151 tm151 tn151 t0151 tu151 tr151 ts152 tb152 tf152 te152 ta152 ti152 tc152 tz152 ty152 tm152 tn152 t0152 tu152 tr152 tg152_0 tg152_1 tg152_2 tg152_3 tg152_4 tg152_5 tg152_6 tg152_7 tg152_8 tg152_9 tg152_10 ts153 tb153 tf153 te153 ta153 ti153 tc153 tz153 ty153 tm153 tn153 t0153 tu153 tr153 tg153_0 tg153_1 tg153_2 tg153_3 tg153_4 tg153_5 tg153_6 tg153_7 tg153_8 tg153_9 tg153_10 ts154 tb154 tf154 te154 ta154 ti154 tc154 tz154 ty154 tm154 tn154 t0154 tu154 tr154
end Ev
