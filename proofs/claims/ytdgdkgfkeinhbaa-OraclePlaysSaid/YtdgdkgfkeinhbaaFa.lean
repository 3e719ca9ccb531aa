import Derived.Test.YtdgdkgfkeinhbaaRows
import Derived.Test.YtdgdkgfkeinhbaaMxR
namespace Go.Proofs.Ytdgdkgfkeinhbaa
open Go.Mx
theorem sz3 : szT Try.prog 3 = some 1 := by kernel_rfl
theorem ag3 : aggT Try.prog 3 = some false := by kernel_rfl
theorem tk3 : tkOf Try.prog 3 = .num := by kernel_rfl
theorem by3 : (Try.prog.info? 3).map (·.bytes) = some 8 := by kernel_rfl
theorem ze3 : zerosT Try.prog 3 = some [.v (.int .i64 0)] := by kernel_rfl
theorem sz4 : szT Try.prog 4 = some 1 := by kernel_rfl
theorem ag4 : aggT Try.prog 4 = some false := by kernel_rfl
theorem tk4 : tkOf Try.prog 4 = .bool := by kernel_rfl
theorem by4 : (Try.prog.info? 4).map (·.bytes) = some 1 := by kernel_rfl
theorem ze4 : zerosT Try.prog 4 = some [.v (.bool false)] := by kernel_rfl
theorem sz5 : szT Try.prog 5 = some 1 := by kernel_rfl
theorem ag5 : aggT Try.prog 5 = some false := by kernel_rfl
theorem tk5 : tkOf Try.prog 5 = .num := by kernel_rfl
theorem by5 : (Try.prog.info? 5).map (·.bytes) = some 1 := by kernel_rfl
theorem ze5 : zerosT Try.prog 5 = some [.v (.int .u8 0)] := by kernel_rfl
theorem sz9 : szT Try.prog 9 = some 1 := by kernel_rfl
theorem ag9 : aggT Try.prog 9 = some false := by kernel_rfl
theorem tk9 : tkOf Try.prog 9 = .str := by kernel_rfl
theorem st9 : isStrTy Try.prog 9 = some true := by kernel_rfl
theorem by9 : (Try.prog.info? 9).map (·.bytes) = some 16 := by kernel_rfl
theorem ze9 : zerosT Try.prog 9 = some [.v (.string ⟨#[]⟩)] := by kernel_rfl
theorem sz22 : szT Try.prog 22 = some 1 := by kernel_rfl
theorem ag22 : aggT Try.prog 22 = some false := by kernel_rfl
theorem tk22 : tkOf Try.prog 22 = .slice := by kernel_rfl
theorem st22 : isStrTy Try.prog 22 = some false := by kernel_rfl
theorem by22 : (Try.prog.info? 22).map (·.bytes) = some 24 := by kernel_rfl
theorem ze22 : zerosT Try.prog 22 = some [.v (.slice none 0 0)] := by kernel_rfl
theorem sz23 : szT Try.prog 23 = some 1 := by kernel_rfl
theorem ag23 : aggT Try.prog 23 = some false := by kernel_rfl
theorem tk23 : tkOf Try.prog 23 = .ptr := by kernel_rfl
theorem by23 : (Try.prog.info? 23).map (·.bytes) = some 8 := by kernel_rfl
theorem ze23 : zerosT Try.prog 23 = some [.v (.pointer none)] := by kernel_rfl
theorem sz24 : szT Try.prog 24 = some 1 := by kernel_rfl
theorem ag24 : aggT Try.prog 24 = some false := by kernel_rfl
theorem tk24 : tkOf Try.prog 24 = .num := by kernel_rfl
theorem by24 : (Try.prog.info? 24).map (·.bytes) = some 8 := by kernel_rfl
theorem ze24 : zerosT Try.prog 24 = some [.v (.int .i64 0)] := by kernel_rfl
theorem sz28 : szT Try.prog 28 = some 1 := by kernel_rfl
theorem ag28 : aggT Try.prog 28 = some false := by kernel_rfl
theorem tk28 : tkOf Try.prog 28 = .slice := by kernel_rfl
theorem st28 : isStrTy Try.prog 28 = some false := by kernel_rfl
theorem by28 : (Try.prog.info? 28).map (·.bytes) = some 24 := by kernel_rfl
theorem ze28 : zerosT Try.prog 28 = some [.v (.slice none 0 0)] := by kernel_rfl
theorem sz31 : szT Try.prog 31 = some 1 := by kernel_rfl
theorem ag31 : aggT Try.prog 31 = some false := by kernel_rfl
theorem tk31 : tkOf Try.prog 31 = .slice := by kernel_rfl
theorem st31 : isStrTy Try.prog 31 = some false := by kernel_rfl
theorem by31 : (Try.prog.info? 31).map (·.bytes) = some 24 := by kernel_rfl
theorem ze31 : zerosT Try.prog 31 = some [.v (.slice none 0 0)] := by kernel_rfl
theorem sz33 : szT Try.prog 33 = some 5 := by kernel_rfl
theorem ag33 : aggT Try.prog 33 = some true := by kernel_rfl
theorem tk33 : tkOf Try.prog 33 = .other := by kernel_rfl
theorem by33 : (Try.prog.info? 33).map (·.bytes) = some 64 := by kernel_rfl
theorem ze33 : zerosT Try.prog 33 = some [.v (.int .i64 0), .v (.string ⟨#[]⟩), .v (.string ⟨#[]⟩), .v (.string ⟨#[]⟩), .v (.int .i64 0)] := by kernel_rfl
theorem of33 : offsT Try.prog 33 = some [(0, 1), (1, 1), (2, 1), (3, 1), (4, 1)] := by kernel_rfl
theorem sz41 : szT Try.prog 41 = some 1 := by kernel_rfl
theorem ag41 : aggT Try.prog 41 = some false := by kernel_rfl
theorem tk41 : tkOf Try.prog 41 = .ptr := by kernel_rfl
theorem by41 : (Try.prog.info? 41).map (·.bytes) = some 8 := by kernel_rfl
theorem ze41 : zerosT Try.prog 41 = some [.v (.pointer none)] := by kernel_rfl
theorem sz45 : szT Try.prog 45 = some 1 := by kernel_rfl
theorem ag45 : aggT Try.prog 45 = some false := by kernel_rfl
theorem tk45 : tkOf Try.prog 45 = .slice := by kernel_rfl
theorem st45 : isStrTy Try.prog 45 = some false := by kernel_rfl
theorem by45 : (Try.prog.info? 45).map (·.bytes) = some 24 := by kernel_rfl
theorem ze45 : zerosT Try.prog 45 = some [.v (.slice none 0 0)] := by kernel_rfl
theorem sz47 : szT Try.prog 47 = some 3 := by kernel_rfl
theorem ag47 : aggT Try.prog 47 = some true := by kernel_rfl
theorem tk47 : tkOf Try.prog 47 = .other := by kernel_rfl
theorem by47 : (Try.prog.info? 47).map (·.bytes) = some 72 := by kernel_rfl
theorem ze47 : zerosT Try.prog 47 = some [.v (.slice none 0 0), .v (.slice none 0 0), .v (.slice none 0 0)] := by kernel_rfl
theorem of47 : offsT Try.prog 47 = some [(0, 1), (1, 1), (2, 1)] := by kernel_rfl
theorem sz49 : szT Try.prog 49 = some 1 := by kernel_rfl
theorem ag49 : aggT Try.prog 49 = some false := by kernel_rfl
theorem tk49 : tkOf Try.prog 49 = .map := by kernel_rfl
theorem by49 : (Try.prog.info? 49).map (·.bytes) = some 8 := by kernel_rfl
theorem ze49 : zerosT Try.prog 49 = some [.v (.map none)] := by kernel_rfl
theorem sz50 : szT Try.prog 50 = some 1 := by kernel_rfl
theorem ag50 : aggT Try.prog 50 = some false := by kernel_rfl
theorem tk50 : tkOf Try.prog 50 = .map := by kernel_rfl
theorem by50 : (Try.prog.info? 50).map (·.bytes) = some 8 := by kernel_rfl
theorem ze50 : zerosT Try.prog 50 = some [.v (.map none)] := by kernel_rfl
theorem sz52 : szT Try.prog 52 = some 3 := by kernel_rfl
theorem ag52 : aggT Try.prog 52 = some true := by kernel_rfl
theorem tk52 : tkOf Try.prog 52 = .other := by kernel_rfl
theorem by52 : (Try.prog.info? 52).map (·.bytes) = some 40 := by kernel_rfl
theorem ze52 : zerosT Try.prog 52 = some [.v (.slice none 0 0), .v (.map none), .v (.map none)] := by kernel_rfl
theorem of52 : offsT Try.prog 52 = some [(0, 1), (1, 1), (2, 1)] := by kernel_rfl
theorem sz53 : szT Try.prog 53 = some 1 := by kernel_rfl
theorem ag53 : aggT Try.prog 53 = some false := by kernel_rfl
theorem tk53 : tkOf Try.prog 53 = .slice := by kernel_rfl
theorem st53 : isStrTy Try.prog 53 = some false := by kernel_rfl
theorem by53 : (Try.prog.info? 53).map (·.bytes) = some 24 := by kernel_rfl
theorem ze53 : zerosT Try.prog 53 = some [.v (.slice none 0 0)] := by kernel_rfl
theorem sz57 : szT Try.prog 57 = some 1 := by kernel_rfl
theorem ag57 : aggT Try.prog 57 = some false := by kernel_rfl
theorem tk57 : tkOf Try.prog 57 = .func := by kernel_rfl
theorem by57 : (Try.prog.info? 57).map (·.bytes) = some 8 := by kernel_rfl
theorem ze57 : zerosT Try.prog 57 = some [.v (.nilFunc)] := by kernel_rfl
theorem sz64 : szT Try.prog 64 = some 2 := by kernel_rfl
theorem ag64 : aggT Try.prog 64 = some true := by kernel_rfl
theorem tk64 : tkOf Try.prog 64 = .other := by kernel_rfl
theorem by64 : (Try.prog.info? 64).map (·.bytes) = some 32 := by kernel_rfl
theorem ze64 : zerosT Try.prog 64 = some [.v (.string ⟨#[]⟩), .v (.string ⟨#[]⟩)] := by kernel_rfl
theorem of64 : offsT Try.prog 64 = some [(0, 1), (1, 1)] := by kernel_rfl
theorem sz68 : szT Try.prog 68 = some 2 := by kernel_rfl
theorem ag68 : aggT Try.prog 68 = some true := by kernel_rfl
theorem tk68 : tkOf Try.prog 68 = .other := by kernel_rfl
theorem by68 : (Try.prog.info? 68).map (·.bytes) = some 32 := by kernel_rfl
theorem ze68 : zerosT Try.prog 68 = some [.v (.string ⟨#[]⟩), .v (.string ⟨#[]⟩)] := by kernel_rfl
theorem of68 : offsT Try.prog 68 = some [(0, 1), (1, 1)] := by kernel_rfl
theorem sz70 : szT Try.prog 70 = some 8 := by kernel_rfl
theorem ag70 : aggT Try.prog 70 = some true := by kernel_rfl
theorem tk70 : tkOf Try.prog 70 = .other := by kernel_rfl
theorem by70 : (Try.prog.info? 70).map (·.bytes) = some 8 := by kernel_rfl
theorem ze70 : zerosT Try.prog 70 = some [.v (.int .u8 0), .v (.int .u8 0), .v (.int .u8 0), .v (.int .u8 0), .v (.int .u8 0), .v (.int .u8 0), .v (.int .u8 0), .v (.int .u8 0)] := by kernel_rfl
theorem sz77 : szT Try.prog 77 = some 3 := by kernel_rfl
theorem ag77 : aggT Try.prog 77 = some true := by kernel_rfl
theorem tk77 : tkOf Try.prog 77 = .other := by kernel_rfl
theorem by77 : (Try.prog.info? 77).map (·.bytes) = some 3 := by kernel_rfl
theorem ze77 : zerosT Try.prog 77 = some [.v (.int .u8 0), .v (.int .u8 0), .v (.int .u8 0)] := by kernel_rfl
theorem sz78 : szT Try.prog 78 = some 1 := by kernel_rfl
theorem ag78 : aggT Try.prog 78 = some false := by kernel_rfl
theorem tk78 : tkOf Try.prog 78 = .slice := by kernel_rfl
theorem st78 : isStrTy Try.prog 78 = some false := by kernel_rfl
theorem by78 : (Try.prog.info? 78).map (·.bytes) = some 24 := by kernel_rfl
theorem ze78 : zerosT Try.prog 78 = some [.v (.slice none 0 0)] := by kernel_rfl
theorem mo : Try.prog.follows .mixedOrders = true := by kernel_rfl
theorem ok3 : bodyOk Try.prog 3 = true := by kernel_rfl
theorem ok4 : bodyOk Try.prog 4 = true := by kernel_rfl
theorem ok5 : bodyOk Try.prog 5 = true := by kernel_rfl
theorem ok6 : bodyOk Try.prog 6 = true := by kernel_rfl
theorem ok7 : bodyOk Try.prog 7 = true := by kernel_rfl
theorem ok8 : bodyOk Try.prog 8 = true := by kernel_rfl
theorem ok9 : bodyOk Try.prog 9 = true := by kernel_rfl
theorem ok10 : bodyOk Try.prog 10 = true := by kernel_rfl
theorem ok11 : bodyOk Try.prog 11 = true := by kernel_rfl
theorem ok12 : bodyOk Try.prog 12 = true := by kernel_rfl
theorem ok13 : bodyOk Try.prog 13 = true := by kernel_rfl
theorem ok14 : bodyOk Try.prog 14 = true := by kernel_rfl
theorem ok15 : bodyOk Try.prog 15 = true := by kernel_rfl
theorem ok16 : bodyOk Try.prog 16 = true := by kernel_rfl
theorem ok17 : bodyOk Try.prog 17 = true := by kernel_rfl
theorem ok18 : bodyOk Try.prog 18 = true := by kernel_rfl
theorem ok19 : bodyOk Try.prog 19 = true := by kernel_rfl
theorem ok20 : bodyOk Try.prog 20 = true := by kernel_rfl
theorem ok21 : bodyOk Try.prog 21 = true := by kernel_rfl
theorem ok22 : bodyOk Try.prog 22 = true := by kernel_rfl
theorem ok23 : bodyOk Try.prog 23 = true := by kernel_rfl
theorem ok24 : bodyOk Try.prog 24 = true := by kernel_rfl
theorem ok25 : bodyOk Try.prog 25 = true := by kernel_rfl
theorem ok26 : bodyOk Try.prog 26 = true := by kernel_rfl
theorem ok27 : bodyOk Try.prog 27 = true := by kernel_rfl
theorem ok28 : bodyOk Try.prog 28 = true := by kernel_rfl
theorem ok29 : bodyOk Try.prog 29 = true := by kernel_rfl
theorem ok30 : bodyOk Try.prog 30 = true := by kernel_rfl
theorem ok31 : bodyOk Try.prog 31 = true := by kernel_rfl
theorem ok32 : bodyOk Try.prog 32 = true := by kernel_rfl
theorem ok33 : bodyOk Try.prog 33 = true := by kernel_rfl
theorem ok34 : bodyOk Try.prog 34 = true := by kernel_rfl
theorem ok35 : bodyOk Try.prog 35 = true := by kernel_rfl
theorem ok36 : bodyOk Try.prog 36 = true := by kernel_rfl
theorem ok37 : bodyOk Try.prog 37 = true := by kernel_rfl
theorem ok38 : bodyOk Try.prog 38 = true := by kernel_rfl
theorem ok41 : bodyOk Try.prog 41 = true := by kernel_rfl
theorem ok42 : bodyOk Try.prog 42 = true := by kernel_rfl
theorem ok43 : bodyOk Try.prog 43 = true := by kernel_rfl
def pl3 : List (Nat × List Stp) := [(17, [.q 0, .q 1, .q 2, .q 3, .q 4, .q 5, .q 6, .q 7, .q 8, .q 9, .q 10, .q 11, .q 12, .q 13, .q 14, .q 15, .q 16, .q 17, .q 18, .q 19, .q 20, .q 21, .q 22, .q 23, .q 24, .q 25, .q 27, .q 28, .q 29, .q 30, .s 26 [27, 28, 29, 30] [20, 25, 19, 24, 18, 23, 8, 17, 21, 22, 3, 7, 12, 16, 2, 6, 11, 15, 0, 1, 4, 5, 9, 10, 13, 14], .q 31, .q 32])]
def tb3 : List (Nat × List Ent) := [(17, [⟨0, 32, 55, true⟩, ⟨0, 128, 56, true⟩, ⟨3, 54043195528445952, 57, true⟩, ⟨4, 72057594037927936, 58, true⟩, ⟨0, 32, 59, true⟩, ⟨0, 256, 60, true⟩, ⟨48, 864691128455135232, 61, true⟩, ⟨64, 1152921504606846976, 62, true⟩, ⟨136, 2449958197289549824, 63, true⟩, ⟨0, 1, 64, true⟩, ⟨0, 128, 65, true⟩, ⟨1536, 27670116110564327424, 66, true⟩, ⟨2048, 36893488147419103232, 67, true⟩, ⟨0, 1, 68, true⟩, ⟨0, 256, 69, true⟩, ⟨24576, 442721857769029238784, 70, true⟩, ⟨32768, 590295810358705651712, 71, true⟩, ⟨69632, 1254378597012249509888, 72, true⟩, ⟨131328, 2365794927453249994752, 73, true⟩, ⟨262144, 4722366482869645213696, 74, true⟩, ⟨524288, 9444732965739290427400, 75, true⟩, ⟨524288, 9444732965739290427393, 76, true⟩, ⟨524288, 9444732965739290427648, 77, true⟩, ⟨6815744, 122781528554610775556096, 78, true⟩, ⟨8912896, 160560460417567937265664, 79, true⟩, ⟨17301504, 311676187869396584103936, 80, true⟩, ⟨35127296, 632797108704532458635264, 81, false⟩, ⟨524288, 9444732965739290427424, 82, true⟩, ⟨524288, 9444732965739290427648, 83, true⟩, ⟨403177472, 7262999650653514338664448, 84, true⟩, ⟨537395200, 9680851289882772688076800, 85, true⟩, ⟨1141374976, 20561183666414435260432384, 86, true⟩, ⟨2148007936, 38695070960633872881025024, 87, true⟩])]
def pl4 : List (Nat × List Stp) := [(15, [.q 0, .q 1, .q 2, .q 3, .q 4, .q 5, .q 6, .q 7, .q 8, .q 9, .q 10, .q 11, .s 12 [] [0, 5, 11, 4, 10, 3, 9, 1, 2, 8, 6, 7], .q 13, .q 14, .q 15, .s 16 [15] [14, 12, 0, 1, 2, 3, 4, 5, 6, 7, 8, 9, 10, 11, 13], .s 17 [] [15, 16, 0, 1, 2, 3, 4, 5, 6, 7, 8, 9, 10, 11, 12, 13, 14]]), (17, [.q 0, .q 1, .q 2, .q 3, .q 4, .q 5, .q 6, .q 7, .q 8, .q 9, .q 10, .q 11, .q 12, .q 13, .q 14, .q 15, .q 16, .q 17, .q 18, .q 19, .q 20, .q 21, .q 22, .q 23, .q 24, .s 25 [] [24, 14, 0, 1, 2, 3, 4, 5, 6, 7, 8, 9, 10, 11, 12, 13, 15, 16, 17, 18, 19, 20, 21, 22, 23]]), (19, [.q 0, .q 1, .q 2, .q 3, .q 4, .q 5, .q 6, .q 7, .q 8, .q 9, .q 10, .q 11, .q 12, .q 13, .q 14, .q 15, .q 16, .s 17 [0, 1, 2, 3, 4, 5, 6, 7, 8, 9, 10, 11] [15, 16, 14, 12, 13], .s 18 [] [0, 5, 11, 17, 4, 10, 15, 16, 3, 9, 14, 1, 2, 8, 12, 13, 6, 7]]), (23, [.q 0, .q 1, .q 2, .q 3, .q 4, .q 5, .q 6, .q 7, .q 8, .q 9, .q 10, .q 11, .q 12, .s 13 [] [3, 5, 8, 12, 2, 4, 7, 11, 1, 6, 9, 10, 0], .q 14])]
def tb4 : List (Nat × List Ent) := [(15, [⟨0, 128, 58, true⟩, ⟨0, 2, 59, true⟩, ⟨0, 2048, 60, true⟩, ⟨6, 864691128455135232, 61, true⟩, ⟨8, 1152921504606846976, 62, true⟩, ⟨16, 2305843009213693952, 63, true⟩, ⟨0, 2, 64, true⟩, ⟨0, 2048, 65, true⟩, ⟨192, 27670116110564327424, 66, true⟩, ⟨256, 36893488147419103232, 67, true⟩, ⟨512, 73786976294838206464, 68, true⟩, ⟨1024, 147573952589676412928, 69, true⟩, ⟨2081, 299903706385856069632, 70, false⟩, ⟨4096, 590295810358705651712, 57, true⟩, ⟨8192, 72057594037927936, 71, true⟩, ⟨8192, 72057594037927936, 72, true⟩, ⟨32767, 1180591620717411303424, 13, false⟩, ⟨131071, 2361183241434822606848, 14, false⟩]), (17, [⟨0, 1024, 77, true⟩, ⟨1, 75557863725914323419136, 78, true⟩, ⟨2, 151115727451828646846464, 79, true⟩, ⟨6, 453347182355485940514816, 80, true⟩, ⟨10, 755578637259143234191360, 81, true⟩, ⟨16, 1208925819614629174706178, 82, true⟩, ⟨16, 1208925819614629174708224, 83, true⟩, ⟨112, 8462480737302404222943232, 84, true⟩, ⟨144, 10880332376531662572355584, 85, true⟩, ⟨272, 20551738933448695970004992, 86, true⟩, ⟨16, 1208925819614629174706208, 87, true⟩, ⟨1040, 78580178274950896355901440, 88, true⟩, ⟨2576, 194637056957955297127694336, 89, true⟩, ⟨4114, 310845051368411526546325504, 90, true⟩, ⟨8210, 619121135370141966096400384, 91, true⟩, ⟨16384, 1237940039285380274899124226, 92, true⟩, ⟨16384, 1237940039285380274899126272, 93, true⟩, ⟨114688, 8665580274997661924293869568, 94, true⟩, ⟨147456, 11141460353568422474092118016, 95, true⟩, ⟨278528, 21044980667851464673285111808, 96, true⟩, ⟨16384, 1237940039285380274899124256, 97, true⟩, ⟨1064960, 80466102553549717868443074560, 98, true⟩, ⟨2637824, 199308346324946224258759000064, 99, true⟩, ⟨4210690, 318150741212070182477721763840, 100, true⟩, ⟨8388610, 633825451229842152576998440960, 101, true⟩, ⟨33554431, 1267650600228229401496703205376, 11, false⟩]), (19, [⟨0, 128, 104, true⟩, ⟨0, 2, 105, true⟩, ⟨0, 2048, 106, true⟩, ⟨6, 60847228810955011271841753858048, 107, true⟩, ⟨8, 81129638414606681695789005144064, 108, true⟩, ⟨16, 162259276829213363391578010288128, 109, true⟩, ⟨0, 2, 110, true⟩, ⟨0, 2048, 111, true⟩, ⟨192, 1947111321950560360698936123457536, 112, true⟩, ⟨256, 2596148429267413814265248164610048, 113, true⟩, ⟨512, 5192296858534827628530496329220096, 114, true⟩, ⟨1024, 10384593717069655257060992658440192, 115, true⟩, ⟨0, 2, 116, true⟩, ⟨0, 2048, 117, true⟩, ⟨12288, 124615124604835863084731911901282304, 118, true⟩, ⟨16384, 166153499473114484112975882535043072, 119, true⟩, ⟨0, 512, 120, true⟩, ⟨98304, 996920996838686904677855295210258432, 121, false⟩, ⟨133153, 1350331842977515435979924175243444224, 122, false⟩]), (23, [⟨0, 1024, 129, true⟩, ⟨1, 340282366920938463463374607431768211456, 130, true⟩, ⟨2, 680564733841876926926749214863536422912, 131, true⟩, ⟨4, 1361129467683753853853498429727072845952, 132, true⟩, ⟨4, 1361129467683753853853498429727072845856, 133, true⟩, ⟨20, 6805647338418769269267492148635364229120, 134, true⟩, ⟨4, 1361129467683753853853498429727072845856, 135, true⟩, ⟨68, 23139200950623815515509473305360238379008, 136, true⟩, ⟨132, 44917272433563877177165448180993403912192, 137, true⟩, ⟨4, 1361129467683753853853498429727072846336, 138, true⟩, ⟨4, 1361129467683753853853498429727072862208, 139, true⟩, ⟨1540, 524034845058245233733596895444923045642240, 140, true⟩, ⟨2052, 698259416921765727026844694449988369907712, 141, true⟩, ⟨4396, 1495881284984445485384994774270053057560576, 142, false⟩, ⟨8196, 2788954279284011646545818282510772261093376, 143, true⟩])]
def pl5 : List (Nat × List Stp) := [(13, [.q 0, .q 1, .q 2, .q 3, .q 4, .q 5, .q 6, .q 7, .q 8, .q 9, .q 10, .q 11, .s 12 [] [0, 5, 11, 4, 10, 3, 9, 1, 2, 8, 6, 7], .q 13, .q 14, .q 15, .s 16 [15] [14, 12, 0, 1, 2, 3, 4, 5, 6, 7, 8, 9, 10, 11, 13], .s 17 [] [15, 16, 0, 1, 2, 3, 4, 5, 6, 7, 8, 9, 10, 11, 12, 13, 14]]), (14, [.q 0, .q 1, .q 2, .q 3, .q 4, .q 5, .q 6, .q 7, .q 8, .q 9, .q 10, .q 11, .q 12, .q 13, .q 14, .q 15, .q 16, .q 17, .q 18, .q 19, .q 20, .q 21, .q 22, .q 23, .q 24, .q 25])]
def tb5 : List (Nat × List Ent) := [(13, [⟨0, 128, 74, true⟩, ⟨0, 2, 75, true⟩, ⟨0, 2048, 76, true⟩, ⟨6, 56668397794435742564352, 77, true⟩, ⟨8, 75557863725914323419136, 78, true⟩, ⟨16, 151115727451828646838272, 79, true⟩, ⟨0, 2, 80, true⟩, ⟨0, 2048, 81, true⟩, ⟨192, 1813388729421943762059264, 82, true⟩, ⟨256, 2417851639229258349412352, 83, true⟩, ⟨512, 4835703278458516698824704, 84, true⟩, ⟨1024, 9671406556917033397649408, 85, true⟩, ⟨2081, 19654489301703463379402752, 86, false⟩, ⟨4096, 38685626227668133590597632, 73, true⟩, ⟨8192, 4722366482869645213696, 87, true⟩, ⟨8192, 4722366482869645213696, 88, true⟩, ⟨32767, 77371252455336267181195264, 13, false⟩, ⟨131071, 154742504910672534362390528, 14, false⟩]), (14, [⟨0, 8192, 89, true⟩, ⟨1, 309485009821345068724781056, 90, true⟩, ⟨2, 618970019642690137449562112, 91, true⟩, ⟨4, 1237940039285380274899128320, 92, true⟩, ⟨4, 1237940039285380274899124736, 93, true⟩, ⟨28, 8665580274997661924293869568, 94, true⟩, ⟨4, 1237940039285380274899124226, 95, true⟩, ⟨4, 1237940039285380274899126272, 96, true⟩, ⟨196, 60659061924983633470057086976, 97, true⟩, ⟨260, 80466102553549717868443074560, 98, true⟩, ⟨516, 159694265067814055461987024896, 99, true⟩, ⟨4, 1237940039285380274899124256, 100, true⟩, ⟨2052, 635063240153400081023250726912, 101, true⟩, ⟨5124, 1585801190324572132145778130944, 102, true⟩, ⟨8196, 2536539140495744183268305534976, 103, true⟩, ⟨16384, 5070602400912917605986812821506, 104, true⟩, ⟨16384, 5070602400912917605986812823552, 105, true⟩, ⟨114688, 35494216806390423241907689750528, 106, true⟩, ⟨147456, 45635421608216258453881315393536, 107, true⟩, ⟨278528, 86200240815519599301775817965568, 108, true⟩, ⟨16384, 5070602400912917605986812821536, 109, true⟩, ⟨1064960, 329589156059339644389142833397760, 110, true⟩, ⟨2637824, 816366986546979734563876864262144, 111, true⟩, ⟨4210692, 1303146054974659110118885794250752, 112, true⟩, ⟨8388644, 2596159570727767382687722256728064, 113, true⟩, ⟨16777220, 5192298096474866913910771228344320, 114, true⟩])]
def pl6 : List (Nat × List Stp) := [(15, [.q 0, .q 1, .q 2, .q 3, .q 4, .q 5, .q 6, .q 7, .q 8]), (26, [.q 0, .q 1, .q 2, .q 3, .q 5, .q 6, .q 7, .q 8, .s 4 [5, 6, 7, 8] [0, 3, 2, 1], .s 9 [] [5, 8, 4, 7, 0, 3, 6, 2, 1], .q 10, .s 11 [] [10, 9, 0, 1, 2, 3, 4, 5, 6, 7, 8]]), (34, [.q 0, .q 1, .q 2, .q 3, .q 4, .q 5, .q 6, .q 8, .q 9, .q 10, .q 11, .q 12, .q 13, .q 14, .s 7 [8, 9, 10, 11, 12, 13, 14] [0, 2, 5, 6, 1, 4, 3], .s 15 [] [8, 10, 13, 14, 7, 9, 12, 0, 2, 5, 6, 11, 1, 4, 3], .q 16, .s 17 [] [16, 15, 0, 1, 2, 3, 4, 5, 6, 7, 8, 9, 10, 11, 12, 13, 14]]), (35, [.q 0, .q 1, .q 2, .q 3, .q 5, .q 6, .q 7, .q 8, .q 9, .s 4 [5, 6, 7, 8, 9] [3, 2, 1, 0], .q 10, .q 11, .q 12, .q 13, .q 15, .q 16, .q 17, .q 18, .q 19, .s 14 [15, 16, 17, 18, 19] [13, 12, 11, 4, 2, 10, 3, 1, 9, 0, 8, 7, 6, 5], .q 20, .q 21])]
def tb6 : List (Nat × List Ent) := [(15, [⟨0, 512, 63, true⟩, ⟨0, 1024, 64, true⟩, ⟨3, 13835058055282163712, 65, true⟩, ⟨4, 18446744073709551616, 66, true⟩, ⟨0, 1, 67, true⟩, ⟨0, 1024, 68, true⟩, ⟨48, 221360928884514619392, 69, true⟩, ⟨64, 295147905179352825856, 70, true⟩, ⟨136, 627189298506124754944, 71, true⟩]), (26, [⟨0, 32, 86, true⟩, ⟨0, 8192, 87, true⟩, ⟨2, 77371252455336267181195264, 88, true⟩, ⟨4, 154742504910672534362390528, 89, true⟩, ⟨9, 348170636049013202315378688, 90, false⟩, ⟨0, 128, 91, true⟩, ⟨0, 8192, 92, true⟩, ⟨64, 2475880078570760549798248448, 93, true⟩, ⟨128, 4951760157141521099596496896, 94, true⟩, ⟨304, 11141460353568422474092118016, 95, false⟩, ⟨528, 20426010648208774535835549696, 96, true⟩, ⟨2047, 39614081257132168796771975168, 15, false⟩]), (34, [⟨0, 32, 136, true⟩, ⟨0, 8192, 137, true⟩, ⟨2, 87112285931760246646623899502532662132736, 138, true⟩, ⟨0, 8192, 139, true⟩, ⟨8, 348449143727040986586495598010130648530944, 140, true⟩, ⟨16, 696898287454081973172991196020261297061888, 141, true⟩, ⟨0, 524288, 142, true⟩, ⟨101, 4399170439553892455654506924877899437703168, 143, false⟩, ⟨0, 128, 144, true⟩, ⟨0, 8192, 145, true⟩, ⟨512, 22300745198530623141535718272648361505980416, 146, true⟩, ⟨0, 8192, 147, true⟩, ⟨2048, 89202980794122492566142873090593446023921664, 148, true⟩, ⟨4096, 178405961588244985132285746181186892047843328, 149, true⟩, ⟨0, 524288, 150, true⟩, ⟨25984, 1126187632525796468647553772768742256052011008, 151, false⟩, ⟨32896, 1432822879005592536843669899017657226759241728, 152, true⟩, ⟨131071, 2854495385411919762116571938898990272765493248, 15, false⟩]), (35, [⟨0, 16384, 153, true⟩, ⟨1, 5708990770823839524233143877797980545530986496, 154, true⟩, ⟨2, 11417981541647679048466287755595961091061972992, 155, true⟩, ⟨4, 22835963083295358096932575511191922182123946016, 156, true⟩, ⟨12, 68507889249886074290797726533575766546371837952, 157, false⟩, ⟨4, 22835963083295358096932575511191922182123946112, 158, true⟩, ⟨36, 205523667749658222872393179600727299639115513856, 159, true⟩, ⟨68, 388211372416021087647853783690262677096107081728, 160, true⟩, ⟨132, 753586781748746817198774991869333432010090217472, 161, true⟩, ⟨260, 1484337600414198276300617408227474941838056488960, 162, true⟩, ⟨532, 3037183090078282626892032542988525650222484815872, 163, true⟩, ⟨1028, 5868842512406907030911671906376324000805854117888, 164, true⟩, ⟨2064, 11692013098647223345629478661730264157247460343808, 165, true⟩, ⟨4096, 23384026197294446691258957323460528314494920687648, 166, true⟩, ⟨12288, 70152078591883340073776871970381584943484762062848, 167, false⟩, ⟨4096, 23384026197294446691258957323460528314494920687744, 168, true⟩, ⟨36864, 210456235775650020221330615911144754830454286188544, 169, true⟩, ⟨69632, 397528445354005593751402274498828981346413651689472, 170, true⟩, ⟨135168, 771672864510716740811545591674197434378332382691328, 171, true⟩, ⟨266240, 1519961702824139034931832226024934340442169844695040, 172, true⟩, ⟨544768, 3110075484240161409937441324020250265827824451452928, 173, true⟩, ⟨1052672, 6009694732704672799653552032129355776825194616717312, 174, true⟩])]
def pl9 : List (Nat × List Stp) := [(3, [.q 0, .q 1, .q 2, .q 3, .q 4, .q 5, .q 6, .q 7, .q 8, .q 9, .s 10 [9] [8, 0, 1, 2, 3, 4, 5, 6, 7], .s 11 [] [9, 10, 0, 1, 2, 3, 4, 5, 6, 7, 8]]), (6, [.q 0, .q 1, .q 2, .q 3, .q 4, .q 5, .q 6, .s 7 [] [3, 5, 6, 0, 1, 2, 4]])]
def tb9 : List (Nat × List Ent) := [(3, [⟨0, 1, 12, true⟩, ⟨1, 2048, 13, true⟩, ⟨2, 4096, 14, true⟩, ⟨4, 8192, 15, true⟩, ⟨0, 2, 16, true⟩, ⟨16, 32768, 17, true⟩, ⟨40, 81920, 18, true⟩, ⟨64, 131072, 11, true⟩, ⟨128, 1024, 19, true⟩, ⟨128, 1024, 20, true⟩, ⟨511, 262144, 6, false⟩, ⟨2047, 524288, 7, false⟩]), (6, [⟨0, 1, 29, true⟩, ⟨1, 268435456, 30, true⟩, ⟨2, 536870912, 31, true⟩, ⟨4, 1073741824, 32, true⟩, ⟨0, 2, 33, true⟩, ⟨16, 4294967296, 34, true⟩, ⟨0, 32, 35, true⟩, ⟨127, 27917287424, 0, false⟩])]
def pl12 : List (Nat × List Stp) := [(4, [.q 0, .q 1, .q 2, .q 3, .q 4, .q 5, .q 6, .q 7, .q 8, .s 9 [8] [7, 0, 1, 2, 3, 4, 5, 6], .s 10 [] [8, 9, 0, 1, 2, 3, 4, 5, 6, 7]]), (7, [.q 0, .q 1, .q 2, .q 3, .q 4, .q 5, .s 6 [] [3, 4, 5, 0, 1, 2]])]
def tb12 : List (Nat × List Ent) := [(4, [⟨0, 1, 29, true⟩, ⟨1, 268435456, 30, true⟩, ⟨2, 536870912, 31, true⟩, ⟨4, 1073741824, 32, true⟩, ⟨0, 256, 33, true⟩, ⟨24, 6442450944, 34, true⟩, ⟨32, 8589934592, 28, true⟩, ⟨64, 134217728, 35, true⟩, ⟨64, 134217728, 36, true⟩, ⟨255, 17179869184, 10, false⟩, ⟨1023, 34359738368, 11, false⟩]), (7, [⟨0, 1, 45, true⟩, ⟨1, 17592186044416, 46, true⟩, ⟨2, 35184372088832, 47, true⟩, ⟨4, 70368744177664, 48, true⟩, ⟨0, 256, 49, true⟩, ⟨0, 512, 50, true⟩, ⟨63, 985162418487296, 0, false⟩])]
def pl13 : List (Nat × List Stp) := [(3, [.q 0, .q 1, .q 2, .q 3, .q 4, .q 5, .q 6, .q 7, .q 8, .q 9, .q 10, .q 11, .s 12 [11] [10, 0, 1, 2, 3, 4, 5, 6, 7, 8, 9], .s 13 [] [11, 12, 0, 1, 2, 3, 4, 5, 6, 7, 8, 9, 10]])]
def tb13 : List (Nat × List Ent) := [(3, [⟨0, 1, 16, true⟩, ⟨1, 32768, 17, true⟩, ⟨2, 65536, 18, true⟩, ⟨4, 131072, 19, true⟩, ⟨0, 2, 20, true⟩, ⟨0, 4, 21, true⟩, ⟨32, 1048576, 22, true⟩, ⟨80, 2621440, 23, true⟩, ⟨136, 4456448, 24, true⟩, ⟨256, 8388608, 15, true⟩, ⟨512, 16384, 25, true⟩, ⟨512, 16384, 26, true⟩, ⟨2047, 16777216, 10, false⟩, ⟨8191, 33554432, 11, false⟩])]
def pl16 : List (Nat × List Stp) := [(9, [.q 0, .q 1, .q 2, .q 3, .q 4, .q 5, .q 6, .q 7, .q 8])]
def tb16 : List (Nat × List Ent) := [(9, [⟨0, 1, 21, true⟩, ⟨0, 16, 22, true⟩, ⟨3, 3145728, 23, true⟩, ⟨4, 4194304, 24, true⟩, ⟨0, 1, 25, true⟩, ⟨0, 32, 26, true⟩, ⟨48, 50331648, 27, true⟩, ⟨64, 67108864, 28, true⟩, ⟨136, 142606336, 29, true⟩])]
def pl18 : List (Nat × List Stp) := [(4, [.q 0, .q 1, .q 2, .q 3, .q 4, .q 5, .q 6, .q 7, .q 8, .q 9]), (6, [.q 0, .q 1, .q 2, .q 3, .q 4, .q 5, .q 6, .s 7 [0, 1, 2, 3, 4] [6, 5], .s 8 [0] [4, 7, 3, 6, 2, 5, 1], .q 9, .q 10, .s 11 [] [10, 8, 0, 1, 2, 3, 4, 5, 6, 7, 9]])]
def tb18 : List (Nat × List Ent) := [(4, [⟨0, 1, 16, true⟩, ⟨1, 32768, 17, true⟩, ⟨2, 65536, 18, true⟩, ⟨4, 131072, 19, true⟩, ⟨0, 32, 20, true⟩, ⟨24, 786432, 21, true⟩, ⟨32, 1048576, 22, true⟩, ⟨0, 2, 23, true⟩, ⟨128, 4194304, 24, true⟩, ⟨320, 10485760, 25, true⟩]), (6, [⟨0, 1, 29, true⟩, ⟨0, 1, 30, true⟩, ⟨2, 536870912, 31, true⟩, ⟨4, 1073741824, 32, true⟩, ⟨8, 2147483648, 33, true⟩, ⟨0, 2, 34, true⟩, ⟨32, 8589934592, 35, true⟩, ⟨64, 17179869184, 36, false⟩, ⟨144, 38654705664, 37, false⟩, ⟨511, 268435456, 38, true⟩, ⟨1023, 137438953472, 39, true⟩, ⟨1535, 343597383680, 0, false⟩])]
def pl19 : List (Nat × List Stp) := [(5, [.q 0, .q 1, .q 2, .q 3, .q 4, .q 5, .q 6, .q 7, .q 8, .s 9 [0, 1, 2, 3, 4] [8, 5, 7, 6], .s 10 [0] [4, 9, 3, 8, 2, 5, 7, 1, 6], .q 11, .q 12, .s 13 [] [12, 10, 0, 1, 2, 3, 4, 5, 6, 7, 8, 9, 11]])]
def tb19 : List (Nat × List Ent) := [(5, [⟨0, 1, 20, true⟩, ⟨0, 1, 21, true⟩, ⟨2, 1048576, 22, true⟩, ⟨4, 2097152, 23, true⟩, ⟨8, 4194304, 24, true⟩, ⟨0, 2, 25, true⟩, ⟨0, 4, 26, true⟩, ⟨64, 33554432, 27, true⟩, ⟨160, 83886080, 28, true⟩, ⟨256, 134217728, 29, false⟩, ⟨528, 276824064, 30, false⟩, ⟨2047, 524288, 31, true⟩, ⟨4095, 1073741824, 32, true⟩, ⟨6143, 2684354560, 0, false⟩])]
def pl24 : List (Nat × List Stp) := [(6, [.q 0, .q 1, .q 2, .q 3, .q 4, .q 5, .q 6, .q 7, .q 8, .q 9]), (11, [.q 0, .q 1, .q 2, .q 3, .q 4, .q 5, .q 6, .q 7, .q 8, .q 9])]
def tb24 : List (Nat × List Ent) := [(6, [⟨0, 1, 17, true⟩, ⟨0, 8, 18, true⟩, ⟨3, 196608, 19, true⟩, ⟨4, 262144, 20, true⟩, ⟨0, 1, 21, true⟩, ⟨0, 8, 22, true⟩, ⟨32, 2097152, 23, true⟩, ⟨80, 5242880, 24, true⟩, ⟨128, 8388608, 25, true⟩, ⟨264, 17301504, 26, true⟩]), (11, [⟨0, 16, 36, true⟩, ⟨0, 32, 37, true⟩, ⟨3, 103079215104, 38, true⟩, ⟨4, 137438953472, 39, true⟩, ⟨0, 16, 40, true⟩, ⟨0, 32, 41, true⟩, ⟨32, 1099511627776, 42, true⟩, ⟨80, 2748779069440, 43, true⟩, ⟨128, 4398046511104, 44, true⟩, ⟨264, 9070970929152, 45, true⟩])]
def pl31 : List (Nat × List Stp) := [(4, [.q 0, .q 1, .q 2, .q 3, .q 4, .q 5, .q 6, .q 7, .q 8, .q 9, .q 10, .q 11, .q 12, .q 13, .q 14, .q 15, .q 16, .q 17, .q 18, .q 19, .q 20, .q 21, .q 22])]
def tb31 : List (Nat × List Ent) := [(4, [⟨0, 1, 18, true⟩, ⟨1, 131072, 19, true⟩, ⟨2, 262144, 20, true⟩, ⟨4, 524288, 21, true⟩, ⟨0, 128, 22, true⟩, ⟨24, 3145728, 23, true⟩, ⟨32, 4194304, 24, true⟩, ⟨64, 8388608, 25, true⟩, ⟨0, 2, 26, true⟩, ⟨384, 50331648, 27, true⟩, ⟨512, 67108864, 28, true⟩, ⟨1024, 134217729, 29, true⟩, ⟨3072, 402653184, 30, true⟩, ⟨5120, 671088640, 31, true⟩, ⟨9216, 1207959552, 32, true⟩, ⟨1024, 134217856, 33, true⟩, ⟨50176, 6576668672, 34, true⟩, ⟨66560, 8724152320, 35, true⟩, ⟨132096, 17314086912, 36, true⟩, ⟨1024, 134217732, 37, true⟩, ⟨525312, 68853694464, 38, true⟩, ⟨1311744, 171932909568, 39, true⟩, ⟨2098176, 275012124672, 40, true⟩])]
end Go.Proofs.Ytdgdkgfkeinhbaa
