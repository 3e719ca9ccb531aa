import Derived.Test.YtamhmecfjkahdaaRows
import Derived.Test.YtamhmecfjkahdaaMxR
import Derived.Test.YtamhmecfjkahdaaProg
import Derived.Shelf.Sort.Plain
namespace Go.Proofs.Ytamhmecfjkahdaa
open Go.Mx
theorem sz2 : szT Try.prog 2 = some 1 := by kernel_rfl
theorem ag2 : aggT Try.prog 2 = some false := by kernel_rfl
theorem tk2 : tkOf Try.prog 2 = .num := by kernel_rfl
theorem by2 : (Try.prog.info? 2).map (·.bytes) = some 8 := by kernel_rfl
theorem ze2 : zerosT Try.prog 2 = some [.v (.int .i64 0)] := by kernel_rfl
theorem sz3 : szT Try.prog 3 = some 1 := by kernel_rfl
theorem ag3 : aggT Try.prog 3 = some false := by kernel_rfl
theorem tk3 : tkOf Try.prog 3 = .num := by kernel_rfl
theorem by3 : (Try.prog.info? 3).map (·.bytes) = some 8 := by kernel_rfl
theorem ze3 : zerosT Try.prog 3 = some [.v (.int .i64 0)] := by kernel_rfl
theorem sz4 : szT Try.prog 4 = some 1 := by kernel_rfl
theorem ag4 : aggT Try.prog 4 = some false := by kernel_rfl
theorem tk4 : tkOf Try.prog 4 = .bool := by kernel_rfl
theorem by4 : (Try.prog.info? 4).map (·.bytes) = some 1 := by kernel_rfl
theorem ze4 : zerosT Try.prog 4 = some [.v (.bool false)] := by kernel_rfl
theorem sz5 : szT Try.prog 5 = some 1 := by kernel_rfl
theorem ag5 : aggT Try.prog 5 = some false := by kernel_rfl
theorem tk5 : tkOf Try.prog 5 = .num := by kernel_rfl
theorem by5 : (Try.prog.info? 5).map (·.bytes) = some 1 := by kernel_rfl
theorem ze5 : zerosT Try.prog 5 = some [.v (.int .u8 0)] := by kernel_rfl
theorem sz9 : szT Try.prog 9 = some 1 := by kernel_rfl
theorem ag9 : aggT Try.prog 9 = some false := by kernel_rfl
theorem tk9 : tkOf Try.prog 9 = .str := by kernel_rfl
theorem st9 : isStrTy Try.prog 9 = some true := by kernel_rfl
theorem by9 : (Try.prog.info? 9).map (·.bytes) = some 16 := by kernel_rfl
theorem ze9 : zerosT Try.prog 9 = some [.v (.string ⟨#[]⟩)] := by kernel_rfl
theorem sz22 : szT Try.prog 22 = some 1 := by kernel_rfl
theorem ag22 : aggT Try.prog 22 = some false := by kernel_rfl
theorem tk22 : tkOf Try.prog 22 = .slice := by kernel_rfl
theorem st22 : isStrTy Try.prog 22 = some false := by kernel_rfl
theorem by22 : (Try.prog.info? 22).map (·.bytes) = some 24 := by kernel_rfl
theorem ze22 : zerosT Try.prog 22 = some [.v (.slice none 0 0)] := by kernel_rfl
theorem sz24 : szT Try.prog 24 = some 1 := by kernel_rfl
theorem ag24 : aggT Try.prog 24 = some false := by kernel_rfl
theorem tk24 : tkOf Try.prog 24 = .ptr := by kernel_rfl
theorem by24 : (Try.prog.info? 24).map (·.bytes) = some 8 := by kernel_rfl
theorem ze24 : zerosT Try.prog 24 = some [.v (.pointer none)] := by kernel_rfl
theorem sz26 : szT Try.prog 26 = some 1 := by kernel_rfl
theorem ag26 : aggT Try.prog 26 = some false := by kernel_rfl
theorem tk26 : tkOf Try.prog 26 = .num := by kernel_rfl
theorem by26 : (Try.prog.info? 26).map (·.bytes) = some 8 := by kernel_rfl
theorem ze26 : zerosT Try.prog 26 = some [.v (.int .i64 0)] := by kernel_rfl
theorem sz28 : szT Try.prog 28 = some 1 := by kernel_rfl
theorem ag28 : aggT Try.prog 28 = some false := by kernel_rfl
theorem tk28 : tkOf Try.prog 28 = .slice := by kernel_rfl
theorem st28 : isStrTy Try.prog 28 = some false := by kernel_rfl
theorem by28 : (Try.prog.info? 28).map (·.bytes) = some 24 := by kernel_rfl
theorem ze28 : zerosT Try.prog 28 = some [.v (.slice none 0 0)] := by kernel_rfl
theorem sz30 : szT Try.prog 30 = some 5 := by kernel_rfl
theorem ag30 : aggT Try.prog 30 = some true := by kernel_rfl
theorem tk30 : tkOf Try.prog 30 = .other := by kernel_rfl
theorem by30 : (Try.prog.info? 30).map (·.bytes) = some 80 := by kernel_rfl
theorem ze30 : zerosT Try.prog 30 = some [.v (.string ⟨#[]⟩), .v (.string ⟨#[]⟩), .v (.string ⟨#[]⟩), .v (.string ⟨#[]⟩), .v (.string ⟨#[]⟩)] := by kernel_rfl
theorem of30 : offsT Try.prog 30 = some [(0, 1), (1, 1), (2, 1), (3, 1), (4, 1)] := by kernel_rfl
theorem sz32 : szT Try.prog 32 = some 10 := by kernel_rfl
theorem ag32 : aggT Try.prog 32 = some true := by kernel_rfl
theorem tk32 : tkOf Try.prog 32 = .other := by kernel_rfl
theorem by32 : (Try.prog.info? 32).map (·.bytes) = some 136 := by kernel_rfl
theorem ze32 : zerosT Try.prog 32 = some [.v (.int .i64 0), .v (.string ⟨#[]⟩), .v (.string ⟨#[]⟩), .v (.string ⟨#[]⟩), .v (.string ⟨#[]⟩), .v (.string ⟨#[]⟩), .v (.string ⟨#[]⟩), .v (.string ⟨#[]⟩), .v (.int .i64 0), .v (.int .i64 0)] := by kernel_rfl
theorem of32 : offsT Try.prog 32 = some [(0, 1), (1, 1), (2, 1), (3, 5), (8, 1), (9, 1)] := by kernel_rfl
theorem sz42 : szT Try.prog 42 = some 1 := by kernel_rfl
theorem ag42 : aggT Try.prog 42 = some false := by kernel_rfl
theorem tk42 : tkOf Try.prog 42 = .ptr := by kernel_rfl
theorem by42 : (Try.prog.info? 42).map (·.bytes) = some 8 := by kernel_rfl
theorem ze42 : zerosT Try.prog 42 = some [.v (.pointer none)] := by kernel_rfl
theorem sz43 : szT Try.prog 43 = some 1 := by kernel_rfl
theorem ag43 : aggT Try.prog 43 = some false := by kernel_rfl
theorem tk43 : tkOf Try.prog 43 = .slice := by kernel_rfl
theorem st43 : isStrTy Try.prog 43 = some false := by kernel_rfl
theorem by43 : (Try.prog.info? 43).map (·.bytes) = some 24 := by kernel_rfl
theorem ze43 : zerosT Try.prog 43 = some [.v (.slice none 0 0)] := by kernel_rfl
theorem sz45 : szT Try.prog 45 = some 2 := by kernel_rfl
theorem ag45 : aggT Try.prog 45 = some true := by kernel_rfl
theorem tk45 : tkOf Try.prog 45 = .other := by kernel_rfl
theorem by45 : (Try.prog.info? 45).map (·.bytes) = some 48 := by kernel_rfl
theorem ze45 : zerosT Try.prog 45 = some [.v (.slice none 0 0), .v (.slice none 0 0)] := by kernel_rfl
theorem of45 : offsT Try.prog 45 = some [(0, 1), (1, 1)] := by kernel_rfl
theorem sz48 : szT Try.prog 48 = some 1 := by kernel_rfl
theorem ag48 : aggT Try.prog 48 = some false := by kernel_rfl
theorem tk48 : tkOf Try.prog 48 = .slice := by kernel_rfl
theorem st48 : isStrTy Try.prog 48 = some false := by kernel_rfl
theorem by48 : (Try.prog.info? 48).map (·.bytes) = some 24 := by kernel_rfl
theorem ze48 : zerosT Try.prog 48 = some [.v (.slice none 0 0)] := by kernel_rfl
theorem sz52 : szT Try.prog 52 = some 1 := by kernel_rfl
theorem ag52 : aggT Try.prog 52 = some false := by kernel_rfl
theorem tk52 : tkOf Try.prog 52 = .map := by kernel_rfl
theorem by52 : (Try.prog.info? 52).map (·.bytes) = some 8 := by kernel_rfl
theorem ze52 : zerosT Try.prog 52 = some [.v (.map none)] := by kernel_rfl
theorem sz53 : szT Try.prog 53 = some 1 := by kernel_rfl
theorem ag53 : aggT Try.prog 53 = some false := by kernel_rfl
theorem tk53 : tkOf Try.prog 53 = .map := by kernel_rfl
theorem by53 : (Try.prog.info? 53).map (·.bytes) = some 8 := by kernel_rfl
theorem ze53 : zerosT Try.prog 53 = some [.v (.map none)] := by kernel_rfl
theorem sz55 : szT Try.prog 55 = some 2 := by kernel_rfl
theorem ag55 : aggT Try.prog 55 = some true := by kernel_rfl
theorem tk55 : tkOf Try.prog 55 = .other := by kernel_rfl
theorem by55 : (Try.prog.info? 55).map (·.bytes) = some 16 := by kernel_rfl
theorem ze55 : zerosT Try.prog 55 = some [.v (.map none), .v (.map none)] := by kernel_rfl
theorem of55 : offsT Try.prog 55 = some [(0, 1), (1, 1)] := by kernel_rfl
theorem sz56 : szT Try.prog 56 = some 1 := by kernel_rfl
theorem ag56 : aggT Try.prog 56 = some false := by kernel_rfl
theorem tk56 : tkOf Try.prog 56 = .slice := by kernel_rfl
theorem st56 : isStrTy Try.prog 56 = some false := by kernel_rfl
theorem by56 : (Try.prog.info? 56).map (·.bytes) = some 24 := by kernel_rfl
theorem ze56 : zerosT Try.prog 56 = some [.v (.slice none 0 0)] := by kernel_rfl
theorem sz59 : szT Try.prog 59 = some 1 := by kernel_rfl
theorem ag59 : aggT Try.prog 59 = some false := by kernel_rfl
theorem tk59 : tkOf Try.prog 59 = .ptr := by kernel_rfl
theorem by59 : (Try.prog.info? 59).map (·.bytes) = some 8 := by kernel_rfl
theorem ze59 : zerosT Try.prog 59 = some [.v (.pointer none)] := by kernel_rfl
theorem sz62 : szT Try.prog 62 = some 2 := by kernel_rfl
theorem ag62 : aggT Try.prog 62 = some true := by kernel_rfl
theorem tk62 : tkOf Try.prog 62 = .other := by kernel_rfl
theorem by62 : (Try.prog.info? 62).map (·.bytes) = some 32 := by kernel_rfl
theorem ze62 : zerosT Try.prog 62 = some [.v (.slice none 0 0), .v (.int .i64 0)] := by kernel_rfl
theorem of62 : offsT Try.prog 62 = some [(0, 1), (1, 1)] := by kernel_rfl
theorem sz63 : szT Try.prog 63 = some 2 := by kernel_rfl
theorem ag63 : aggT Try.prog 63 = some true := by kernel_rfl
theorem tk63 : tkOf Try.prog 63 = .other := by kernel_rfl
theorem by63 : (Try.prog.info? 63).map (·.bytes) = some 32 := by kernel_rfl
theorem ze63 : zerosT Try.prog 63 = some [.v (.string ⟨#[]⟩), .v (.string ⟨#[]⟩)] := by kernel_rfl
theorem of63 : offsT Try.prog 63 = some [(0, 1), (1, 1)] := by kernel_rfl
theorem sz65 : szT Try.prog 65 = some 1 := by kernel_rfl
theorem ag65 : aggT Try.prog 65 = some false := by kernel_rfl
theorem tk65 : tkOf Try.prog 65 = .ptr := by kernel_rfl
theorem by65 : (Try.prog.info? 65).map (·.bytes) = some 8 := by kernel_rfl
theorem ze65 : zerosT Try.prog 65 = some [.v (.pointer none)] := by kernel_rfl
theorem sz67 : szT Try.prog 67 = some 4 := by kernel_rfl
theorem ag67 : aggT Try.prog 67 = some true := by kernel_rfl
theorem tk67 : tkOf Try.prog 67 = .other := by kernel_rfl
theorem by67 : (Try.prog.info? 67).map (·.bytes) = some 64 := by kernel_rfl
theorem ze67 : zerosT Try.prog 67 = some [.v (.string ⟨#[]⟩), .v (.string ⟨#[]⟩), .v (.slice none 0 0), .v (.int .i64 0)] := by kernel_rfl
theorem of67 : offsT Try.prog 67 = some [(0, 1), (1, 1), (2, 1), (3, 1)] := by kernel_rfl
theorem sz74 : szT Try.prog 74 = some 1 := by kernel_rfl
theorem ag74 : aggT Try.prog 74 = some false := by kernel_rfl
theorem tk74 : tkOf Try.prog 74 = .slice := by kernel_rfl
theorem st74 : isStrTy Try.prog 74 = some false := by kernel_rfl
theorem by74 : (Try.prog.info? 74).map (·.bytes) = some 24 := by kernel_rfl
theorem ze74 : zerosT Try.prog 74 = some [.v (.slice none 0 0)] := by kernel_rfl
theorem mo : Try.prog.follows .mixedOrders = true := by kernel_rfl
theorem ok3 : bodyOk Try.prog 3 = true := by kernel_rfl
theorem ok4 : bodyOk Try.prog 4 = true := by kernel_rfl
theorem ok5 : bodyOk Try.prog 5 = true := by kernel_rfl
theorem ok6 : bodyOk Try.prog 6 = true := by kernel_rfl
theorem ok7 : bodyOk Try.prog 7 = true := by kernel_rfl
theorem ok8 : bodyOk Try.prog 8 = true := by kernel_rfl
theorem ok9 : bodyOk Try.prog 9 = true := by kernel_rfl
theorem ok10 : bodyOk Try.prog 10 = true := by kernel_rfl
theorem ok11 : bodyOk Try.prog 11 = true := by kernel_rfl
theorem ok12 : bodyOk Try.prog 12 = true := by kernel_rfl
theorem ok13 : bodyOk Try.prog 13 = true := by kernel_rfl
theorem ok14 : bodyOk Try.prog 14 = true := by kernel_rfl
theorem ok15 : bodyOk Try.prog 15 = true := by kernel_rfl
theorem ok16 : bodyOk Try.prog 16 = true := by kernel_rfl
theorem ok17 : bodyOk Try.prog 17 = true := by kernel_rfl
theorem ok18 : bodyOk Try.prog 18 = true := by kernel_rfl
theorem ok19 : bodyOk Try.prog 19 = true := by kernel_rfl
theorem ok20 : bodyOk Try.prog 20 = true := by kernel_rfl
theorem ok21 : bodyOk Try.prog 21 = true := by kernel_rfl
theorem ok22 : bodyOk Try.prog 22 = true := by kernel_rfl
theorem ok23 : bodyOk Try.prog 23 = true := by kernel_rfl
theorem ok24 : bodyOk Try.prog 24 = true := by kernel_rfl
theorem ok25 : bodyOk Try.prog 25 = true := by kernel_rfl
theorem ok26 : bodyOk Try.prog 26 = true := by kernel_rfl
theorem ok27 : bodyOk Try.prog 27 = true := by kernel_rfl
theorem ok28 : bodyOk Try.prog 28 = true := by kernel_rfl
theorem ok29 : bodyOk Try.prog 29 = true := by kernel_rfl
theorem ok30 : bodyOk Try.prog 30 = true := by kernel_rfl
theorem ok31 : bodyOk Try.prog 31 = true := by kernel_rfl
theorem ok32 : bodyOk Try.prog 32 = true := by kernel_rfl
theorem ok33 : bodyOk Try.prog 33 = true := by kernel_rfl
theorem ok34 : bodyOk Try.prog 34 = true := by kernel_rfl
theorem ok35 : bodyOk Try.prog 35 = true := by kernel_rfl
theorem ok36 : bodyOk Try.prog 36 = true := by kernel_rfl
theorem ok37 : bodyOk Try.prog 37 = true := by kernel_rfl
theorem ok39 : bodyOk Try.prog 39 = true := by kernel_rfl
theorem ok40 : bodyOk Try.prog 40 = true := by kernel_rfl
theorem ok41 : bodyOk Try.prog 41 = true := by kernel_rfl
theorem ok42 : bodyOk Try.prog 42 = true := by kernel_rfl
theorem ok45 : bodyOk Try.prog 45 = true := by kernel_rfl
theorem ok46 : bodyOk Try.prog 46 = true := by kernel_rfl
theorem ok47 : bodyOk Try.prog 47 = true := by kernel_rfl
theorem ok59 : bodyOk Try.prog 59 = true := by kernel_rfl
theorem ok60 : bodyOk Try.prog 60 = true := by kernel_rfl
theorem ok61 : bodyOk Try.prog 61 = true := by kernel_rfl
theorem ok62 : bodyOk Try.prog 62 = true := by kernel_rfl
theorem ok63 : bodyOk Try.prog 63 = true := by kernel_rfl
theorem ok64 : bodyOk Try.prog 64 = true := by kernel_rfl
theorem ok71 : bodyOk Try.prog 71 = true := by kernel_rfl
theorem ok72 : bodyOk Try.prog 72 = true := by kernel_rfl
theorem ok73 : bodyOk Try.prog 73 = true := by kernel_rfl
theorem ok74 : bodyOk Try.prog 74 = true := by kernel_rfl
theorem ok75 : bodyOk Try.prog 75 = true := by kernel_rfl
theorem ok76 : bodyOk Try.prog 76 = true := by kernel_rfl
theorem ok77 : bodyOk Try.prog 77 = true := by kernel_rfl
theorem ok79 : bodyOk Try.prog 79 = true := by kernel_rfl
theorem ok80 : bodyOk Try.prog 80 = true := by kernel_rfl
theorem ok81 : bodyOk Try.prog 81 = true := by kernel_rfl
def pl4 : List (Nat × List Stp) := [(9, [.q 0, .q 1, .q 2, .q 3, .q 4, .q 5, .q 6, .q 7, .q 8, .q 9, .q 10, .s 11 [] [0, 5, 10, 4, 9, 3, 8, 1, 2, 6, 7]]), (13, [.q 0, .q 1, .q 2, .q 3, .q 4, .q 5, .q 6, .q 7, .q 8, .q 9, .q 10, .q 11, .q 12, .q 13, .q 14, .q 15, .q 16, .q 17, .q 18, .q 19, .q 20, .s 21 [] [0, 5, 10, 15, 20, 4, 9, 14, 19, 3, 8, 13, 18, 1, 2, 6, 7, 11, 12, 16, 17]])]
def tb4 : List (Nat × List Ent) := [(9, [⟨0, 32, 41, 1⟩, ⟨0, 1, 42, 1⟩, ⟨0, 64, 43, 1⟩, ⟨6, 6597069766656, 44, 1⟩, ⟨8, 8796093022208, 45, 1⟩, ⟨16, 17592186044416, 46, 1⟩, ⟨0, 1, 47, 1⟩, ⟨0, 64, 48, 1⟩, ⟨192, 211106232532992, 49, 1⟩, ⟨256, 281474976710656, 50, 1⟩, ⟨512, 562949953421312, 51, 1⟩, ⟨1057, 1162183790559232, 52, 0⟩]), (13, [⟨0, 32, 64, 1⟩, ⟨0, 1, 65, 1⟩, ⟨0, 64, 66, 1⟩, ⟨6, 55340232221128654848, 67, 1⟩, ⟨8, 73786976294838206464, 68, 1⟩, ⟨16, 147573952589676412928, 69, 1⟩, ⟨0, 1, 70, 1⟩, ⟨0, 64, 71, 1⟩, ⟨192, 1770887431076116955136, 72, 1⟩, ⟨256, 2361183241434822606848, 73, 1⟩, ⟨512, 4722366482869645213696, 74, 1⟩, ⟨0, 1, 75, 1⟩, ⟨0, 64, 76, 1⟩, ⟨6144, 56668397794435742564352, 77, 1⟩, ⟨8192, 75557863725914323419136, 78, 1⟩, ⟨16384, 151115727451828646838272, 79, 1⟩, ⟨0, 1, 80, 1⟩, ⟨0, 64, 81, 1⟩, ⟨196608, 1813388729421943762059264, 82, 1⟩, ⟨262144, 2417851639229258349412352, 83, 1⟩, ⟨524288, 4835703278458516698824704, 84, 1⟩, ⟨1082401, 9983387116063646189355008, 85, 0⟩])]
def pl6 : List (Nat × List Stp) := [(12, [.q 0, .q 1, .q 2, .q 3, .q 4, .q 6, .q 7, .q 8, .q 9, .q 10, .s 5 [6, 7, 8, 9, 10] [0, 2, 4, 1, 3], .s 11 [] [6, 8, 10, 5, 7, 9, 0, 2, 4, 1, 3], .q 12, .s 13 [] [12, 11, 0, 1, 2, 3, 4, 5, 6, 7, 8, 9, 10]]), (14, [.q 0, .q 1, .q 2, .q 3, .q 4, .q 6, .q 7, .q 8, .q 9, .q 10, .s 5 [6, 7, 8, 9, 10] [0, 2, 4, 1, 3], .s 11 [] [6, 8, 10, 5, 7, 9, 0, 2, 4, 1, 3], .q 12, .s 13 [] [12, 11, 0, 1, 2, 3, 4, 5, 6, 7, 8, 9, 10]]), (23, [.q 0, .q 1, .q 2, .q 3, .q 4, .q 5, .q 6, .q 7, .q 9, .q 10, .q 11, .q 12, .q 13, .s 8 [9, 10, 11, 12, 13] [3, 5, 7, 2, 4, 6, 1, 0], .s 14 [] [9, 11, 13, 8, 2, 10, 12, 3, 5, 7, 1, 4, 6, 0], .q 15, .q 16, .q 17, .q 18, .q 19, .q 20, .q 21, .q 22, .q 23, .q 24, .q 26, .q 27, .q 28, .q 29, .q 30, .q 31, .q 32, .s 25 [26, 27, 28, 29, 30, 31, 32] [18, 21, 24, 17, 20, 23, 16, 14, 19, 22, 2, 15, 9, 11, 13, 8, 1, 10, 12, 3, 5, 7, 0, 4, 6], .s 33 [] [26, 29, 32, 25, 17, 28, 31, 18, 21, 24, 16, 14, 27, 30, 20, 23, 2, 15, 9, 11, 13, 8, 19, 22, 1, 10, 12, 3, 5, 7, 0, 4, 6], .q 34, .q 35, .q 36, .q 37, .q 38, .q 39, .q 41, .q 42, .q 43, .s 40 [41, 42, 43] [37, 39, 36, 38, 35, 33, 17, 34, 26, 29, 32, 25, 16, 14, 28, 31, 18, 21, 24, 2, 15, 9, 11, 13, 8, 27, 30, 20, 23, 1, 10, 12, 3, 5, 7, 19, 22, 0, 4, 6], .s 44 [] [41, 43, 40, 36, 42, 37, 39, 35, 33, 38, 17, 34, 26, 29, 32, 25, 16, 14, 28, 31, 18, 21, 24, 2, 15, 9, 11, 13, 8, 27, 30, 20, 23, 1, 10, 12, 3, 5, 7, 19, 22, 0, 4, 6], .s 45 [] [40, 44, 36, 37, 39, 41, 43, 35, 33, 38, 42, 17, 34, 26, 29, 32, 25, 16, 14, 28, 31, 18, 21, 24, 2, 15, 9, 11, 13, 8, 27, 30, 20, 23, 1, 10, 12, 3, 5, 7, 19, 22, 0, 4, 6], .q 46, .q 47])]
def tb6 : List (Nat × List Ent) := [(12, [⟨0, 8, 39, 1⟩, ⟨0, 64, 40, 1⟩, ⟨2, 549755813888, 41, 1⟩, ⟨0, 64, 42, 1⟩, ⟨8, 2199023255552, 43, 1⟩, ⟨21, 5772436045824, 44, 0⟩, ⟨0, 16, 45, 1⟩, ⟨0, 64, 46, 1⟩, ⟨128, 35184372088832, 47, 1⟩, ⟨0, 64, 48, 1⟩, ⟨512, 140737488355328, 49, 1⟩, ⟨1376, 369435906932736, 50, 0⟩, ⟨2080, 571746046443520, 51, 1⟩, ⟨8191, 1125899906842624, 8, 0⟩]), (14, [⟨0, 8, 54, 1⟩, ⟨0, 64, 55, 1⟩, ⟨2, 18014398509481984, 56, 1⟩, ⟨0, 64, 57, 1⟩, ⟨8, 72057594037927936, 58, 1⟩, ⟨21, 189151184349560832, 59, 0⟩, ⟨0, 16, 60, 1⟩, ⟨0, 64, 61, 1⟩, ⟨128, 1152921504606846976, 62, 1⟩, ⟨0, 64, 63, 1⟩, ⟨512, 4611686018427387904, 64, 1⟩, ⟨1376, 12105675798371893248, 65, 0⟩, ⟨2080, 18734974449861263360, 66, 1⟩, ⟨8191, 36893488147419103232, 8, 0⟩]), (23, [⟨0, 128, 134, 1⟩, ⟨1, 10889035741470030830827987437816582766592, 135, 1⟩, ⟨2, 21778071482940061661655974875633165533184, 136, 1⟩, ⟨4, 43556142965880123323311949751266331066376, 137, 1⟩, ⟨4, 43556142965880123323311949751266331066432, 138, 1⟩, ⟨20, 217780714829400616616559748756331655331840, 139, 1⟩, ⟨4, 43556142965880123323311949751266331066432, 140, 1⟩, ⟨68, 740454430419962096496303145771527628128256, 141, 1⟩, ⟨172, 1872914147532845302902413839304452235853824, 142, 0⟩, ⟨4, 43556142965880123323311949751266331066384, 143, 1⟩, ⟨4, 43556142965880123323311949751266331066432, 144, 1⟩, ⟨1028, 11193928742231191694091171086075447084056576, 145, 1⟩, ⟨4, 43556142965880123323311949751266331066432, 146, 1⟩, ⟨4100, 44645046540027126406394748495047989343027200, 147, 1⟩, ⟨11012, 117122468435251651616385832881155164237463552, 148, 0⟩, ⟨16644, 181237110881027193148301022915019203567157248, 149, 1⟩, ⟨32772, 356855479319455850387894804312125050426753024, 150, 1⟩, ⟨81920, 713623846352979940529142984724747568191373312, 151, 1⟩, ⟨131072, 1427247692705959881058285969449495136382746632, 152, 1⟩, ⟨131072, 1427247692705959881058285969449495136382746688, 153, 1⟩, ⟨655360, 7136238463529799405291429847247475681913733120, 154, 1⟩, ⟨1179648, 12845229234353638929524573725045456227444719616, 155, 1⟩, ⟨131072, 1427247692705959881058285969449495136382746688, 156, 1⟩, ⟨4325376, 47099173859296676074923436991833339500630638592, 157, 1⟩, ⟨8519680, 92771100025887392268788588014217183864878530560, 158, 1⟩, ⟨19267584, 209805410827776102515568037509075785048263753728, 159, 0⟩, ⟨131072, 1427247692705959881058285969449495136382746640, 160, 1⟩, ⟨131072, 1427247692705959881058285969449495136382746688, 161, 1⟩, ⟨134348800, 1462928885023608878084743118685732514792315289600, 162, 1⟩, ⟨268566528, 2924430522354511796288427951402015534448247832576, 163, 1⟩, ⟨131072, 1427247692705959881058285969449495136382746688, 164, 1⟩, ⟨1073872896, 11693440346339929305510536947699713652383843090432, 165, 1⟩, ⟨2147614720, 23385453444987152651140015609429977809631303434240, 166, 1⟩, ⟨4932632576, 53346237010270662474315554680113779712577920565248, 167, 0⟩, ⟨8623620096, 93902907446203218454467808787990633508030048632832, 168, 1⟩, ⟨17180000256, 187073636826048279489952716873653676011095748247552, 169, 1⟩, ⟨42949672960, 374144419156711147060143317175368453031918731001856, 170, 1⟩, ⟨68719476736, 748288838313422294120286634350736906063837462003720, 171, 1⟩, ⟨68719476736, 748288838313422294120286634350736906063837462003776, 172, 1⟩, ⟨343597383680, 3741444191567111470601433171753684530319187310018560, 173, 1⟩, ⟨755914244096, 8231177221447645235323152977858105966702212082040832, 174, 0⟩, ⟨68719476736, 748288838313422294120286634350736906063837462003728, 175, 1⟩, ⟨68719476736, 748288838313422294120286634350736906063837462003776, 176, 1⟩, ⟨4466765987840, 48638774490372449117818631232797898894149435030241280, 177, 1⟩, ⟨12163347382272, 120474502968460989353366148130468641876277831382597632, 178, 0⟩, ⟨18760417148928, 204282852859564286294838251177751175355427627127013376, 179, 0⟩, ⟨35253091565568, 383872174054785636883707043421928032810748618007904256, 180, 1⟩, ⟨70437463654400, 766996059271257851473293800209505328715433398553804800, 181, 1⟩])]
def pl7 : List (Nat × List Stp) := [(9, [.q 0, .q 1, .q 2, .q 3, .q 4, .q 5, .q 6, .q 7, .q 8, .q 9, .q 10, .s 11 [] [0, 5, 10, 4, 9, 3, 8, 1, 2, 6, 7]]), (11, [.q 0, .q 1, .q 2, .q 3, .q 4, .q 5, .q 6, .q 7, .q 8, .q 9, .q 10, .s 11 [] [0, 5, 10, 4, 9, 3, 8, 1, 2, 6, 7]])]
def tb7 : List (Nat × List Ent) := [(9, [⟨0, 32, 39, 1⟩, ⟨0, 1, 40, 1⟩, ⟨0, 64, 41, 1⟩, ⟨6, 1649267441664, 42, 1⟩, ⟨8, 2199023255552, 43, 1⟩, ⟨16, 4398046511104, 44, 1⟩, ⟨0, 1, 45, 1⟩, ⟨0, 64, 46, 1⟩, ⟨192, 52776558133248, 47, 1⟩, ⟨256, 70368744177664, 48, 1⟩, ⟨512, 140737488355328, 49, 1⟩, ⟨1057, 290545947639808, 50, 0⟩]), (11, [⟨0, 32, 53, 1⟩, ⟨0, 1, 54, 1⟩, ⟨0, 64, 55, 1⟩, ⟨6, 27021597764222976, 56, 1⟩, ⟨8, 36028797018963968, 57, 1⟩, ⟨16, 72057594037927936, 58, 1⟩, ⟨0, 1, 59, 1⟩, ⟨0, 64, 60, 1⟩, ⟨192, 864691128455135232, 61, 1⟩, ⟨256, 1152921504606846976, 62, 1⟩, ⟨512, 2305843009213693952, 63, 1⟩, ⟨1057, 4760304806130614272, 64, 0⟩])]
def pl9 : List (Nat × List Stp) := [(7, [.q 0, .q 1, .q 2, .q 3, .q 4, .q 5, .q 6, .q 7, .q 8, .q 9, .q 10, .q 11, .q 12, .q 13, .q 14, .q 15, .q 16, .q 17, .q 18, .q 19, .q 20, .q 21, .q 22, .q 23, .q 24, .q 25, .q 26, .q 27, .q 28, .q 29, .q 30, .q 31, .q 32, .q 33, .q 34, .q 35])]
def tb9 : List (Nat × List Ent) := [(7, [⟨0, 1, 20, 1⟩, ⟨0, 8, 21, 1⟩, ⟨3, 1572864, 22, 1⟩, ⟨4, 2097152, 23, 1⟩, ⟨8, 4194304, 24, 1⟩, ⟨16, 8388608, 25, 1⟩, ⟨0, 1, 26, 1⟩, ⟨0, 8, 27, 1⟩, ⟨192, 100663296, 28, 1⟩, ⟨256, 134217728, 29, 1⟩, ⟨512, 268435456, 30, 1⟩, ⟨1024, 536870912, 31, 1⟩, ⟨2080, 1090519040, 32, 1⟩, ⟨4096, 2147483648, 33, 1⟩, ⟨8192, 4294967296, 34, 1⟩, ⟨16384, 8589934608, 35, 1⟩, ⟨49152, 25769803776, 36, 1⟩, ⟨81920, 42949672960, 37, 1⟩, ⟨16384, 8589934608, 38, 1⟩, ⟨278528, 146028888064, 39, 1⟩, ⟨540672, 283467841536, 40, 1⟩, ⟨1196032, 627065225216, 41, 1⟩, ⟨16384, 8589934608, 42, 1⟩, ⟨4210688, 2207613190144, 43, 1⟩, ⟨8404992, 4406636445696, 44, 1⟩, ⟨18890752, 9904194584576, 45, 1⟩, ⟨16384, 8589934608, 46, 1⟩, ⟨67125248, 35192962023424, 47, 1⟩, ⟨134234112, 70377334112256, 48, 1⟩, ⟨302006272, 158338264334336, 49, 1⟩, ⟨16384, 8589934608, 50, 1⟩, ⟨1073758208, 562958543355904, 51, 1⟩, ⟨2147500032, 1125908496777216, 52, 1⟩, ⟨4831854592, 2533283380330496, 53, 1⟩, ⟨8589950976, 4503608217305088, 54, 1⟩, ⟨17179885568, 9007207844675584, 55, 1⟩])]
def pl12 : List (Nat × List Stp) := [(17, [.q 0, .q 1, .q 2, .q 3, .q 4, .q 5, .s 6 [] [5, 3, 4, 2, 1, 0]]), (27, [.q 0, .q 1, .q 2, .q 3, .q 4, .q 5, .q 6, .s 7 [0] [4, 6, 3, 5, 2, 1], .q 8, .q 9, .s 10 [] [9, 7, 0, 1, 2, 3, 4, 5, 6, 8]]), (29, [.q 0, .q 1, .q 2, .q 3, .q 4, .s 5 [] [3, 4, 0, 1, 2]])]
def tb12 : List (Nat × List Ent) := [(17, [⟨0, 1, 89, 1⟩, ⟨1, 309485009821345068724781056, 90, 1⟩, ⟨2, 618970019642690137449562112, 91, 1⟩, ⟨4, 1237940039285380274899124224, 92, 1⟩, ⟨0, 64, 93, 1⟩, ⟨24, 7427640235712281649394745344, 94, 1⟩, ⟨32, 9903520314283042199192993792, 88, 0⟩]), (27, [⟨0, 32768, 111, 1⟩, ⟨0, 32768, 112, 1⟩, ⟨2, 2596148429267413814265248164610048, 113, 1⟩, ⟨4, 5192296858534827628530496329220096, 114, 1⟩, ⟨8, 10384593717069655257060992658440192, 115, 1⟩, ⟨0, 8, 116, 1⟩, ⟨32, 41538374868278621028243970633760768, 117, 1⟩, ⟨80, 103845937170696552570609926584401920, 118, 0⟩, ⟨255, 1298074214633706907132624082305024, 119, 1⟩, ⟨511, 332306998946228968225951765070086144, 120, 1⟩, ⟨767, 830767497365572420564879412675215360, 0, 0⟩]), (29, [⟨0, 1, 122, 1⟩, ⟨1, 2658455991569831745807614120560689152, 123, 1⟩, ⟨2, 5316911983139663491615228241121378304, 124, 1⟩, ⟨4, 10633823966279326983230456482242756608, 125, 1⟩, ⟨0, 64, 126, 1⟩, ⟨31, 63802943797675961899382738893456539648, 0, 0⟩])]
def pl13 : List (Nat × List Stp) := [(4, [.q 0, .q 1, .q 2, .q 3, .q 4, .q 5, .q 6, .q 7, .q 8, .q 9, .s 10 [] [9, 0, 1, 2, 3, 4, 5, 6, 7, 8]]), (10, [.q 0, .q 1, .q 2, .q 3, .q 4, .q 5, .q 6, .q 7, .q 8, .q 9, .q 10, .q 11, .q 12, .s 13 [] [12, 3, 11, 2, 5, 10, 1, 4, 9, 0, 8, 7, 6], .s 14 [] [13, 0, 1, 2, 3, 4, 5, 6, 7, 8, 9, 10, 11, 12]])]
def tb13 : List (Nat × List Ent) := [(4, [⟨0, 8192, 24, 1⟩, ⟨1, 8388608, 25, 1⟩, ⟨2, 16777216, 26, 1⟩, ⟨4, 33554432, 27, 1⟩, ⟨0, 8192, 28, 1⟩, ⟨16, 134217728, 29, 1⟩, ⟨32, 268435456, 30, 1⟩, ⟨64, 536870912, 31, 1⟩, ⟨128, 1073741824, 32, 1⟩, ⟨264, 2214592512, 33, 1⟩, ⟨1023, 4294967296, 15, 0⟩]), (10, [⟨0, 8192, 60, 1⟩, ⟨1, 576460752303423488, 61, 1⟩, ⟨2, 1152921504606846976, 62, 1⟩, ⟨4, 2305843009213693952, 63, 1⟩, ⟨0, 16, 64, 1⟩, ⟨16, 9223372036854775808, 65, 1⟩, ⟨0, 8192, 66, 1⟩, ⟨64, 36893488147419103232, 67, 1⟩, ⟨128, 73786976294838206464, 68, 1⟩, ⟨256, 147573952589676412928, 69, 1⟩, ⟨512, 295147905179352825856, 70, 1⟩, ⟨1056, 608742554432415203328, 71, 1⟩, ⟨2056, 1185203306735838691328, 72, 1⟩, ⟨4096, 2361183241434822606848, 73, 0⟩, ⟨16383, 4722366482869645213696, 17, 0⟩])]
def pl14 : List (Nat × List Stp) := [(6, [.q 0, .q 1, .q 2, .q 3, .q 4, .q 5, .q 6, .q 7, .q 8])]
def tb14 : List (Nat × List Ent) := [(6, [⟨0, 1, 18, 1⟩, ⟨0, 32, 19, 1⟩, ⟨3, 393216, 20, 1⟩, ⟨4, 524288, 21, 1⟩, ⟨0, 2, 22, 1⟩, ⟨0, 32, 23, 1⟩, ⟨48, 6291456, 24, 1⟩, ⟨64, 8388608, 25, 1⟩, ⟨136, 17825792, 26, 1⟩])]
def pl19 : List (Nat × List Stp) := [(4, [.q 0, .q 1, .q 2, .q 3, .q 4, .q 5, .q 6, .q 7, .q 9, .q 10, .q 11, .q 12, .q 13, .q 14, .q 15, .s 8 [0, 9, 10, 11, 12, 13, 14, 15] [1, 7, 5, 6, 4, 3, 2], .s 16 [0] [8, 15, 1, 7, 12, 14, 5, 6, 11, 13, 4, 10, 3, 9, 2], .q 17, .q 18, .s 19 [] [18, 16, 0, 1, 2, 3, 4, 5, 6, 7, 8, 9, 10, 11, 12, 13, 14, 15, 17]])]
def tb19 : List (Nat × List Ent) := [(4, [⟨0, 1, 15, 1⟩, ⟨0, 0, 16, 1⟩, ⟨0, 1, 17, 1⟩, ⟨4, 65536, 18, 1⟩, ⟨8, 131072, 19, 1⟩, ⟨16, 262144, 20, 1⟩, ⟨0, 128, 21, 1⟩, ⟨96, 1572864, 22, 1⟩, ⟨130, 2129920, 23, 0⟩, ⟨0, 1, 24, 1⟩, ⟨512, 8388608, 25, 1⟩, ⟨1024, 16777216, 26, 1⟩, ⟨2048, 33554432, 27, 1⟩, ⟨0, 128, 28, 1⟩, ⟨8192, 134217728, 29, 1⟩, ⟨20480, 335544320, 30, 1⟩, ⟨33024, 541065216, 31, 0⟩, ⟨131071, 16384, 32, 1⟩, ⟨262143, 2147483648, 33, 1⟩, ⟨393215, 5368709120, 0, 0⟩])]
def pl20 : List (Nat × List Stp) := [(11, [.q 0, .q 1, .q 2, .q 3, .q 4, .q 5, .q 6, .q 7, .q 8, .q 9, .q 10, .q 11, .q 12, .q 13, .q 14, .q 15, .q 16, .q 17, .q 18, .q 19, .q 20]), (22, [.q 0, .q 1, .q 2, .q 3, .q 4, .q 5, .q 6, .s 7 [0] [4, 6, 3, 5, 2, 1], .q 8, .q 9, .s 10 [] [9, 7, 0, 1, 2, 3, 4, 5, 6, 8]]), (23, [.q 0, .q 1, .q 2, .q 3, .q 4, .q 5, .q 6, .s 7 [0] [4, 6, 3, 5, 2, 1], .q 8, .q 9, .s 10 [] [9, 7, 0, 1, 2, 3, 4, 5, 6, 8]])]
def tb20 : List (Nat × List Ent) := [(11, [⟨0, 512, 61, 1⟩, ⟨1, 1152921504606846976, 62, 1⟩, ⟨2, 2305843009213693952, 63, 1⟩, ⟨4, 4611686018427387904, 64, 1⟩, ⟨0, 8, 65, 1⟩, ⟨16, 18446744073709551616, 66, 1⟩, ⟨40, 46116860184273879040, 67, 1⟩, ⟨64, 73786976294838206464, 68, 1⟩, ⟨128, 147573952589676413440, 69, 1⟩, ⟨384, 442721857769029238784, 70, 1⟩, ⟨640, 737869762948382064640, 71, 1⟩, ⟨1152, 1328165573307087716352, 72, 1⟩, ⟨128, 147573952589676412936, 73, 1⟩, ⟨4224, 4869940435459321626624, 74, 1⟩, ⟨10368, 11953490159763789447168, 75, 1⟩, ⟨16512, 19037039884068257267712, 76, 1⟩, ⟨32768, 37778931862957161709576, 77, 1⟩, ⟨98304, 113336795588871485128704, 78, 1⟩, ⟨163840, 188894659314785808547840, 79, 1⟩, ⟨295040, 340157960719204131799040, 80, 1⟩, ⟨524416, 604610483759904263766016, 81, 1⟩]), (22, [⟨0, 2048, 106, 1⟩, ⟨0, 2048, 107, 1⟩, ⟨2, 81129638414606681695789005144064, 108, 1⟩, ⟨4, 162259276829213363391578010288128, 109, 1⟩, ⟨8, 324518553658426726783156020576256, 110, 1⟩, ⟨0, 8, 111, 1⟩, ⟨32, 1298074214633706907132624082305024, 112, 1⟩, ⟨80, 3245185536584267267831560205762560, 113, 0⟩, ⟨255, 40564819207303340847894502572032, 114, 1⟩, ⟨511, 10384593717069655257060992658440192, 115, 1⟩, ⟨767, 25961484292674138142652481646100480, 0, 0⟩]), (23, [⟨0, 1, 116, 1⟩, ⟨0, 1, 117, 1⟩, ⟨2, 83076749736557242056487941267521536, 118, 1⟩, ⟨4, 166153499473114484112975882535043072, 119, 1⟩, ⟨8, 332306998946228968225951765070086144, 120, 1⟩, ⟨0, 8, 121, 1⟩, ⟨32, 1329227995784915872903807060280344576, 122, 1⟩, ⟨80, 3323069989462289682259517650700861440, 123, 0⟩, ⟨255, 41538374868278621028243970633760768, 124, 1⟩, ⟨511, 10633823966279326983230456482242756608, 125, 1⟩, ⟨767, 26584559915698317458076141205606891520, 0, 0⟩])]
def pl25 : List (Nat × List Stp) := [(6, [.q 0, .q 1, .q 2, .q 3, .q 4, .q 5, .q 6, .q 7, .q 8])]
def tb25 : List (Nat × List Ent) := [(6, [⟨0, 1, 18, 1⟩, ⟨0, 32, 19, 1⟩, ⟨3, 393216, 20, 1⟩, ⟨4, 524288, 21, 1⟩, ⟨0, 2, 22, 1⟩, ⟨0, 32, 23, 1⟩, ⟨48, 6291456, 24, 1⟩, ⟨64, 8388608, 25, 1⟩, ⟨136, 17825792, 26, 1⟩])]
def pl27 : List (Nat × List Stp) := [(7, [.q 0, .q 1, .q 2, .q 3, .q 4, .q 5, .q 6, .q 7, .q 8, .q 9, .q 10, .q 11, .q 12, .q 13, .q 14, .q 15, .q 16, .q 17, .q 18, .q 19, .q 20]), (9, [.q 0, .q 1, .q 2, .q 3, .q 5, .q 6, .q 7, .q 8, .q 9, .q 10, .q 11, .q 12, .q 13, .q 14, .q 15, .q 17, .q 18, .q 19, .s 4 [5, 6, 7, 8, 9, 10, 11, 12, 13, 14, 15, 17, 18, 19] [0, 3, 1, 2], .s 16 [17, 18, 19] [4, 15, 0, 3, 14, 1, 2, 13, 12, 11, 10, 8, 9, 7, 6, 5], .s 20 [] [16, 19, 4, 15, 17, 18, 0, 3, 14, 1, 2, 13, 12, 11, 10, 8, 9, 7, 6, 5], .s 21 [] [20, 0, 1, 2, 3, 4, 5, 6, 7, 8, 9, 10, 11, 12, 13, 14, 15, 16, 17, 18, 19]])]
def tb27 : List (Nat × List Ent) := [(7, [⟨0, 128, 30, 1⟩, ⟨0, 32, 31, 1⟩, ⟨2, 1073741824, 32, 1⟩, ⟨5, 2684354560, 33, 1⟩, ⟨8, 4294967296, 34, 1⟩, ⟨16, 8589934624, 35, 1⟩, ⟨16, 8589934720, 36, 1⟩, ⟨112, 60129542144, 37, 1⟩, ⟨144, 77309411328, 38, 1⟩, ⟨16, 8589934593, 39, 1⟩, ⟨528, 283467841536, 40, 1⟩, ⟨1040, 558345748480, 41, 1⟩, ⟨2064, 1108101562368, 42, 1⟩, ⟨16, 8589934656, 43, 1⟩, ⟨12304, 6605659701248, 44, 1⟩, ⟨16400, 8804682956800, 45, 1⟩, ⟨32784, 17600775979008, 46, 1⟩, ⟨65552, 35192962023424, 47, 1⟩, ⟨131088, 70377334112256, 48, 1⟩, ⟨262416, 140883517243392, 49, 1⟩, ⟨524304, 281483566645248, 50, 1⟩]), (9, [⟨0, 0, 53, 1⟩, ⟨0, 32, 54, 1⟩, ⟨0, 128, 55, 1⟩, ⟨6, 27021597764222976, 56, 1⟩, ⟨9, 40532396646334464, 57, 0⟩, ⟨0, 1, 58, 1⟩, ⟨32, 144115188075855872, 59, 1⟩, ⟨64, 288230376151711744, 60, 1⟩, ⟨128, 576460752303423488, 61, 1⟩, ⟨0, 64, 62, 1⟩, ⟨768, 3458764513820540928, 63, 1⟩, ⟨1024, 4611686018427387904, 64, 1⟩, ⟨2048, 9223372036854775808, 65, 1⟩, ⟨4096, 18446744073709551616, 66, 1⟩, ⟨8192, 36893488147419103232, 67, 1⟩, ⟨16384, 73786976294838206464, 68, 1⟩, ⟨32784, 147646010183714340864, 69, 0⟩, ⟨0, 32, 70, 1⟩, ⟨0, 128, 71, 1⟩, ⟨393216, 1770887431076116955136, 72, 1⟩, ⟨589824, 2656331146614175432704, 73, 0⟩, ⟨2097151, 4722366482869645213696, 6, 0⟩])]
def pl37 : List (Nat × List Stp) := [(1, [.q 0, .q 1, .q 2, .q 3, .q 4, .q 5, .q 6, .q 7, .q 8, .q 9, .s 10 [] [9, 0, 1, 2, 3, 4, 5, 6, 7, 8]])]
def tb37 : List (Nat × List Ent) := [(1, [⟨0, 1, 4, 1⟩, ⟨1, 8, 5, 1⟩, ⟨2, 16, 6, 1⟩, ⟨4, 32, 7, 1⟩, ⟨8, 64, 8, 1⟩, ⟨0, 1, 9, 1⟩, ⟨32, 256, 10, 1⟩, ⟨64, 512, 11, 1⟩, ⟨128, 1024, 12, 1⟩, ⟨272, 2176, 13, 1⟩, ⟨1023, 4096, 3, 0⟩])]
def pl47 : List (Nat × List Stp) := [(6, [.q 0, .q 1, .q 2, .q 3, .q 4, .q 5, .q 6, .s 7 [3, 4, 5, 6] [2, 0, 1], .s 8 [] [6, 7, 0, 1, 2, 3, 4, 5], .s 9 [] [8, 0, 1, 2, 3, 4, 5, 6, 7]])]
def tb47 : List (Nat × List Ent) := [(6, [⟨0, 2, 36, 1⟩, ⟨0, 128, 37, 1⟩, ⟨3, 103079215104, 38, 1⟩, ⟨0, 2, 39, 1⟩, ⟨0, 128, 40, 1⟩, ⟨16, 549755813888, 41, 1⟩, ⟨40, 1374389534720, 42, 1⟩, ⟨7, 137438953472, 5, 0⟩, ⟨255, 2199023255552, 6, 0⟩, ⟨511, 0, 7, 0⟩])]
def pl72 : List (Nat × List Stp) := [(3, [.q 0, .q 1, .q 2, .q 3, .q 4, .q 5, .q 6, .q 7, .q 8, .s 9 [3, 4, 5, 6, 7, 8] [2, 0, 1], .s 10 [] [8, 9, 0, 1, 2, 3, 4, 5, 6, 7], .s 11 [] [10, 0, 1, 2, 3, 4, 5, 6, 7, 8, 9]])]
def tb72 : List (Nat × List Ent) := [(3, [⟨0, 1, 14, 1⟩, ⟨0, 128, 15, 1⟩, ⟨3, 24576, 16, 1⟩, ⟨0, 1, 17, 1⟩, ⟨0, 128, 18, 1⟩, ⟨0, 2, 19, 1⟩, ⟨32, 262144, 20, 1⟩, ⟨80, 655360, 21, 1⟩, ⟨136, 1114112, 22, 1⟩, ⟨7, 32768, 5, 0⟩, ⟨1023, 2097152, 6, 0⟩, ⟨2047, 0, 7, 0⟩])]
end Go.Proofs.Ytamhmecfjkahdaa

namespace Go.Proofs.Ytamhmecfjkahdaa
def lays190_ren : Go.Shelf.Ren := ⟨fun | 190 => 38 | 125 => 44 | 258 => 43 | 128 => 57 | 129 => 58 | 302 => 48 | 303 => 49 | 304 => 50 | 305 => 51 | 306 => 52 | 307 => 53 | 308 => 54 | 309 => 55 | 310 => 56 | 333 => 65 | 329 => 66 | 330 => 67 | 334 => 68 | 335 => 69 | 336 => 70 | 344 => 78 | n => n, fun | 31 => 48 | 9 => 9 | 3 => 3 | 46 => 77 | 0 => 0 | 51 => 90 | 53 => 92 | 4 => 4 | 183 => 83 | 182 => 82 | 131 => 87 | 5 => 5 | 218 => 95 | 222 => 99 | 228 => 102 | 229 => 103 | n => n, fun n => n⟩
theorem lays190 : Go.Proofs.Lays.n190 Try.prog lays190_ren := { mixed := by kernel_rfl, f125 := Try.func44.trans (congrArg some (by kernel_rfl)), f128 := Try.func57.trans (congrArg some (by kernel_rfl)), f129 := Try.func58.trans (congrArg some (by kernel_rfl)), f190 := Try.func38.trans (congrArg some (by kernel_rfl)), f258 := Try.func43.trans (congrArg some (by kernel_rfl)), f302 := Try.func48.trans (congrArg some (by kernel_rfl)), f303 := Try.func49.trans (congrArg some (by kernel_rfl)), f304 := Try.func50.trans (congrArg some (by kernel_rfl)), f305 := Try.func51.trans (congrArg some (by kernel_rfl)), f306 := Try.func52.trans (congrArg some (by kernel_rfl)), f307 := Try.func53.trans (congrArg some (by kernel_rfl)), f308 := Try.func54.trans (congrArg some (by kernel_rfl)), f309 := Try.func55.trans (congrArg some (by kernel_rfl)), f310 := Try.func56.trans (congrArg some (by kernel_rfl)), f329 := Try.func66.trans (congrArg some (by kernel_rfl)), f330 := Try.func67.trans (congrArg some (by kernel_rfl)), f333 := Try.func65.trans (congrArg some (by kernel_rfl)), f334 := Try.func68.trans (congrArg some (by kernel_rfl)), f335 := Try.func69.trans (congrArg some (by kernel_rfl)), f336 := Try.func70.trans (congrArg some (by kernel_rfl)), f344 := Try.func78.trans (congrArg some (by kernel_rfl)), t0 := Try.underlying0, a0 := Try.isAgg0, z0 := Try.sizeOf0, v0 := Try.zeroValue0, t3 := Try.underlying3, a3 := Try.isAgg3, z3 := Try.sizeOf3, v3 := Try.zeroValue3, t4 := Try.underlying4, a4 := Try.isAgg4, z4 := Try.sizeOf4, v4 := Try.zeroValue4, t5 := Try.underlying5, a5 := Try.isAgg5, z5 := Try.sizeOf5, v5 := Try.zeroValue5, t9 := Try.underlying9, a9 := Try.isAgg9, z9 := Try.sizeOf9, v9 := Try.zeroValue9, t31 := Try.underlying48, a31 := Try.isAgg48, z31 := Try.sizeOf48, v31 := Try.zeroValue48, t46 := Try.underlying77, a46 := Try.isAgg77, z46 := Try.sizeOf77, v46 := Try.zeroValue77, t51 := Try.underlying90, a51 := Try.isAgg90, z51 := Try.sizeOf90, v51 := Try.zeroValue90, t53 := Try.underlying92, a53 := Try.isAgg92, z53 := Try.sizeOf92, v53 := Try.zeroValue92, t131 := Try.underlying87, a131 := Try.isAgg87, z131 := Try.sizeOf87, v131 := Try.zeroValue87, t182 := Try.underlying82, a182 := Try.isAgg82, z182 := Try.sizeOf82, v182 := Try.zeroValue82, t183 := Try.underlying83, a183 := Try.isAgg83, z183 := Try.sizeOf83, v183 := Try.zeroValue83, t218 := Try.underlying95, a218 := Try.isAgg95, z218 := Try.sizeOf95, v218 := Try.zeroValue95, t222 := Try.underlying99, a222 := Try.isAgg99, z222 := Try.sizeOf99, v222 := Try.zeroValue99, t228 := Try.underlying102, a228 := Try.isAgg102, z228 := Try.sizeOf102, v228 := Try.zeroValue102, t229 := Try.underlying103, a229 := Try.isAgg103, z229 := Try.sizeOf103, v229 := Try.zeroValue103 }

end Go.Proofs.Ytamhmecfjkahdaa
