import Derived.Test.YtohmgnbndhojpaaRows
import Derived.Test.YtohmgnbndhojpaaMxR
namespace Go.Proofs.Ytohmgnbndhojpaa
open Go.Mx
theorem sz2 : szT Try.prog 2 = some 1 := by kernel_rfl
theorem ag2 : aggT Try.prog 2 = some false := by kernel_rfl
theorem tk2 : tkOf Try.prog 2 = .num := by kernel_rfl
theorem by2 : (Try.prog.info? 2).map (·.bytes) = some 8 := by kernel_rfl
theorem ze2 : zerosT Try.prog 2 = some [.v (.int .i64 0)] := by kernel_rfl
theorem sz3 : szT Try.prog 3 = some 1 := by kernel_rfl
theorem ag3 : aggT Try.prog 3 = some false := by kernel_rfl
theorem tk3 : tkOf Try.prog 3 = .num := by kernel_rfl
theorem by3 : (Try.prog.info? 3).map (·.bytes) = some 8 := by kernel_rfl
theorem ze3 : zerosT Try.prog 3 = some [.v (.int .i64 0)] := by kernel_rfl
theorem sz4 : szT Try.prog 4 = some 1 := by kernel_rfl
theorem ag4 : aggT Try.prog 4 = some false := by kernel_rfl
theorem tk4 : tkOf Try.prog 4 = .bool := by kernel_rfl
theorem by4 : (Try.prog.info? 4).map (·.bytes) = some 1 := by kernel_rfl
theorem ze4 : zerosT Try.prog 4 = some [.v (.bool false)] := by kernel_rfl
theorem sz5 : szT Try.prog 5 = some 1 := by kernel_rfl
theorem ag5 : aggT Try.prog 5 = some false := by kernel_rfl
theorem tk5 : tkOf Try.prog 5 = .num := by kernel_rfl
theorem by5 : (Try.prog.info? 5).map (·.bytes) = some 1 := by kernel_rfl
theorem ze5 : zerosT Try.prog 5 = some [.v (.int .u8 0)] := by kernel_rfl
theorem sz9 : szT Try.prog 9 = some 1 := by kernel_rfl
theorem ag9 : aggT Try.prog 9 = some false := by kernel_rfl
theorem tk9 : tkOf Try.prog 9 = .str := by kernel_rfl
theorem st9 : isStrTy Try.prog 9 = some true := by kernel_rfl
theorem by9 : (Try.prog.info? 9).map (·.bytes) = some 16 := by kernel_rfl
theorem ze9 : zerosT Try.prog 9 = some [.v (.string ⟨#[]⟩)] := by kernel_rfl
theorem sz22 : szT Try.prog 22 = some 1 := by kernel_rfl
theorem ag22 : aggT Try.prog 22 = some false := by kernel_rfl
theorem tk22 : tkOf Try.prog 22 = .slice := by kernel_rfl
theorem st22 : isStrTy Try.prog 22 = some false := by kernel_rfl
theorem by22 : (Try.prog.info? 22).map (·.bytes) = some 24 := by kernel_rfl
theorem ze22 : zerosT Try.prog 22 = some [.v (.slice none 0 0)] := by kernel_rfl
theorem sz23 : szT Try.prog 23 = some 2 := by kernel_rfl
theorem ag23 : aggT Try.prog 23 = some true := by kernel_rfl
theorem tk23 : tkOf Try.prog 23 = .other := by kernel_rfl
theorem by23 : (Try.prog.info? 23).map (·.bytes) = some 16 := by kernel_rfl
theorem ze23 : zerosT Try.prog 23 = some [.v (.int .i64 0), .v (.int .i64 0)] := by kernel_rfl
theorem sz25 : szT Try.prog 25 = some 1 := by kernel_rfl
theorem ag25 : aggT Try.prog 25 = some false := by kernel_rfl
theorem tk25 : tkOf Try.prog 25 = .ptr := by kernel_rfl
theorem by25 : (Try.prog.info? 25).map (·.bytes) = some 8 := by kernel_rfl
theorem ze25 : zerosT Try.prog 25 = some [.v (.pointer none)] := by kernel_rfl
theorem sz29 : szT Try.prog 29 = some 4 := by kernel_rfl
theorem ag29 : aggT Try.prog 29 = some true := by kernel_rfl
theorem tk29 : tkOf Try.prog 29 = .other := by kernel_rfl
theorem by29 : (Try.prog.info? 29).map (·.bytes) = some 40 := by kernel_rfl
theorem ze29 : zerosT Try.prog 29 = some [.v (.string ⟨#[]⟩), .v (.int .i64 0), .v (.int .i64 0), .v (.int .i64 0)] := by kernel_rfl
theorem of29 : offsT Try.prog 29 = some [(0, 1), (1, 1), (2, 1), (3, 1)] := by kernel_rfl
theorem sz31 : szT Try.prog 31 = some 1 := by kernel_rfl
theorem ag31 : aggT Try.prog 31 = some false := by kernel_rfl
theorem tk31 : tkOf Try.prog 31 = .slice := by kernel_rfl
theorem st31 : isStrTy Try.prog 31 = some false := by kernel_rfl
theorem by31 : (Try.prog.info? 31).map (·.bytes) = some 24 := by kernel_rfl
theorem ze31 : zerosT Try.prog 31 = some [.v (.slice none 0 0)] := by kernel_rfl
theorem sz37 : szT Try.prog 37 = some 1 := by kernel_rfl
theorem ag37 : aggT Try.prog 37 = some false := by kernel_rfl
theorem tk37 : tkOf Try.prog 37 = .num := by kernel_rfl
theorem by37 : (Try.prog.info? 37).map (·.bytes) = some 8 := by kernel_rfl
theorem ze37 : zerosT Try.prog 37 = some [.v (.int .i64 0)] := by kernel_rfl
theorem sz44 : szT Try.prog 44 = some 1 := by kernel_rfl
theorem ag44 : aggT Try.prog 44 = some false := by kernel_rfl
theorem tk44 : tkOf Try.prog 44 = .ptr := by kernel_rfl
theorem by44 : (Try.prog.info? 44).map (·.bytes) = some 8 := by kernel_rfl
theorem ze44 : zerosT Try.prog 44 = some [.v (.pointer none)] := by kernel_rfl
theorem sz46 : szT Try.prog 46 = some 1 := by kernel_rfl
theorem ag46 : aggT Try.prog 46 = some true := by kernel_rfl
theorem tk46 : tkOf Try.prog 46 = .other := by kernel_rfl
theorem by46 : (Try.prog.info? 46).map (·.bytes) = some 24 := by kernel_rfl
theorem ze46 : zerosT Try.prog 46 = some [.v (.slice none 0 0)] := by kernel_rfl
theorem of46 : offsT Try.prog 46 = some [(0, 1)] := by kernel_rfl
theorem sz49 : szT Try.prog 49 = some 1 := by kernel_rfl
theorem ag49 : aggT Try.prog 49 = some false := by kernel_rfl
theorem tk49 : tkOf Try.prog 49 = .map := by kernel_rfl
theorem by49 : (Try.prog.info? 49).map (·.bytes) = some 8 := by kernel_rfl
theorem ze49 : zerosT Try.prog 49 = some [.v (.map none)] := by kernel_rfl
theorem sz51 : szT Try.prog 51 = some 1 := by kernel_rfl
theorem ag51 : aggT Try.prog 51 = some true := by kernel_rfl
theorem tk51 : tkOf Try.prog 51 = .other := by kernel_rfl
theorem by51 : (Try.prog.info? 51).map (·.bytes) = some 8 := by kernel_rfl
theorem ze51 : zerosT Try.prog 51 = some [.v (.map none)] := by kernel_rfl
theorem of51 : offsT Try.prog 51 = some [(0, 1)] := by kernel_rfl
theorem sz52 : szT Try.prog 52 = some 1 := by kernel_rfl
theorem ag52 : aggT Try.prog 52 = some false := by kernel_rfl
theorem tk52 : tkOf Try.prog 52 = .slice := by kernel_rfl
theorem st52 : isStrTy Try.prog 52 = some false := by kernel_rfl
theorem by52 : (Try.prog.info? 52).map (·.bytes) = some 24 := by kernel_rfl
theorem ze52 : zerosT Try.prog 52 = some [.v (.slice none 0 0)] := by kernel_rfl
theorem sz55 : szT Try.prog 55 = some 2 := by kernel_rfl
theorem ag55 : aggT Try.prog 55 = some true := by kernel_rfl
theorem tk55 : tkOf Try.prog 55 = .other := by kernel_rfl
theorem by55 : (Try.prog.info? 55).map (·.bytes) = some 24 := by kernel_rfl
theorem ze55 : zerosT Try.prog 55 = some [.v (.string ⟨#[]⟩), .v (.bool false)] := by kernel_rfl
theorem of55 : offsT Try.prog 55 = some [(0, 1), (1, 1)] := by kernel_rfl
theorem sz73 : szT Try.prog 73 = some 1 := by kernel_rfl
theorem ag73 : aggT Try.prog 73 = some false := by kernel_rfl
theorem tk73 : tkOf Try.prog 73 = .slice := by kernel_rfl
theorem st73 : isStrTy Try.prog 73 = some false := by kernel_rfl
theorem by73 : (Try.prog.info? 73).map (·.bytes) = some 24 := by kernel_rfl
theorem ze73 : zerosT Try.prog 73 = some [.v (.slice none 0 0)] := by kernel_rfl
theorem mo : Try.prog.follows .mixedOrders = true := by kernel_rfl
theorem ok3 : bodyOk Try.prog 3 = true := by kernel_rfl
theorem ok4 : bodyOk Try.prog 4 = true := by kernel_rfl
theorem ok5 : bodyOk Try.prog 5 = true := by kernel_rfl
theorem ok6 : bodyOk Try.prog 6 = true := by kernel_rfl
theorem ok7 : bodyOk Try.prog 7 = true := by kernel_rfl
theorem ok8 : bodyOk Try.prog 8 = true := by kernel_rfl
theorem ok9 : bodyOk Try.prog 9 = true := by kernel_rfl
theorem ok10 : bodyOk Try.prog 10 = true := by kernel_rfl
theorem ok11 : bodyOk Try.prog 11 = true := by kernel_rfl
theorem ok12 : bodyOk Try.prog 12 = true := by kernel_rfl
theorem ok13 : bodyOk Try.prog 13 = true := by kernel_rfl
theorem ok14 : bodyOk Try.prog 14 = true := by kernel_rfl
theorem ok15 : bodyOk Try.prog 15 = true := by kernel_rfl
theorem ok16 : bodyOk Try.prog 16 = true := by kernel_rfl
theorem ok17 : bodyOk Try.prog 17 = true := by kernel_rfl
theorem ok18 : bodyOk Try.prog 18 = true := by kernel_rfl
theorem ok19 : bodyOk Try.prog 19 = true := by kernel_rfl
theorem ok20 : bodyOk Try.prog 20 = true := by kernel_rfl
theorem ok21 : bodyOk Try.prog 21 = true := by kernel_rfl
theorem ok22 : bodyOk Try.prog 22 = true := by kernel_rfl
theorem ok23 : bodyOk Try.prog 23 = true := by kernel_rfl
theorem ok24 : bodyOk Try.prog 24 = true := by kernel_rfl
theorem ok25 : bodyOk Try.prog 25 = true := by kernel_rfl
theorem ok26 : bodyOk Try.prog 26 = true := by kernel_rfl
theorem ok28 : bodyOk Try.prog 28 = true := by kernel_rfl
theorem ok29 : bodyOk Try.prog 29 = true := by kernel_rfl
theorem ok30 : bodyOk Try.prog 30 = true := by kernel_rfl
theorem ok31 : bodyOk Try.prog 31 = true := by kernel_rfl
theorem ok32 : bodyOk Try.prog 32 = true := by kernel_rfl
theorem ok33 : bodyOk Try.prog 33 = true := by kernel_rfl
theorem ok34 : bodyOk Try.prog 34 = true := by kernel_rfl
theorem ok35 : bodyOk Try.prog 35 = true := by kernel_rfl
theorem ok36 : bodyOk Try.prog 36 = true := by kernel_rfl
theorem ok37 : bodyOk Try.prog 37 = true := by kernel_rfl
theorem ok38 : bodyOk Try.prog 38 = true := by kernel_rfl
theorem ok39 : bodyOk Try.prog 39 = true := by kernel_rfl
theorem ok40 : bodyOk Try.prog 40 = true := by kernel_rfl
theorem ok43 : bodyOk Try.prog 43 = true := by kernel_rfl
theorem ok44 : bodyOk Try.prog 44 = true := by kernel_rfl
theorem ok45 : bodyOk Try.prog 45 = true := by kernel_rfl
theorem ok46 : bodyOk Try.prog 46 = true := by kernel_rfl
theorem ok47 : bodyOk Try.prog 47 = true := by kernel_rfl
theorem ok58 : bodyOk Try.prog 58 = true := by kernel_rfl
theorem ok59 : bodyOk Try.prog 59 = true := by kernel_rfl
theorem ok65 : bodyOk Try.prog 65 = true := by kernel_rfl
theorem ok66 : bodyOk Try.prog 66 = true := by kernel_rfl
theorem ok67 : bodyOk Try.prog 67 = true := by kernel_rfl
theorem ok68 : bodyOk Try.prog 68 = true := by kernel_rfl
theorem ok69 : bodyOk Try.prog 69 = true := by kernel_rfl
theorem ok70 : bodyOk Try.prog 70 = true := by kernel_rfl
theorem ok72 : bodyOk Try.prog 72 = true := by kernel_rfl
theorem ok73 : bodyOk Try.prog 73 = true := by kernel_rfl
theorem ok74 : bodyOk Try.prog 74 = true := by kernel_rfl
theorem ok75 : bodyOk Try.prog 75 = true := by kernel_rfl
theorem ok76 : bodyOk Try.prog 76 = true := by kernel_rfl
theorem ok77 : bodyOk Try.prog 77 = true := by kernel_rfl
theorem ok78 : bodyOk Try.prog 78 = true := by kernel_rfl
theorem ok79 : bodyOk Try.prog 79 = true := by kernel_rfl
theorem ok80 : bodyOk Try.prog 80 = true := by kernel_rfl
theorem ok81 : bodyOk Try.prog 81 = true := by kernel_rfl
def pl3 : List (Nat × List Stp) := [(10, [.q 0, .q 1, .q 2, .q 4, .q 5, .q 6, .s 3 [4, 5, 6] [0, 2, 1], .s 7 [] [4, 6, 3, 5, 0, 2, 1], .s 8 [] [3, 7, 0, 1, 2, 4, 6, 5], .s 9 [] [7, 8, 0, 1, 2, 3, 4, 5, 6]]), (18, [.q 0, .q 1, .q 2, .q 3, .q 4, .q 5, .q 6, .q 7, .q 8, .q 9, .q 10, .q 11, .s 12 [] [11, 1, 0, 2, 3, 4, 5, 6, 7, 8, 9, 10]]), (21, [.q 0, .q 1, .q 2, .q 3, .q 6, .q 7, .q 8, .q 9, .s 4 [6, 7, 8, 9] [0, 1, 3, 2], .s 5 [6, 7, 8, 9] [4, 0, 1, 3, 2], .s 10 [] [6, 7, 9, 5, 8, 4, 0, 1, 3, 2], .s 11 [] [10, 6, 7, 9, 5, 8, 4, 0, 1, 3, 2], .q 12, .q 13, .s 14 [] [13, 12, 11, 5, 10, 4, 6, 7, 9, 0, 1, 3, 8, 2], .q 15, .s 16 [] [15, 14, 0, 1, 2, 3, 4, 5, 6, 7, 8, 9, 10, 11, 12, 13]])]
def tb3 : List (Nat × List Ent) := [(10, [⟨0, 128, 47, 1⟩, ⟨0, 32, 48, 1⟩, ⟨2, 140737488355328, 49, 1⟩, ⟨5, 351843720888320, 50, 0⟩, ⟨0, 128, 51, 1⟩, ⟨0, 32, 52, 1⟩, ⟨32, 2251799813685248, 53, 1⟩, ⟨88, 5629499534213120, 54, 0⟩, ⟨143, 562949953421312, 11, 0⟩, ⟨511, 9007199254740992, 12, 0⟩]), (18, [⟨0, 8192, 67, 1⟩, ⟨1, 73786976294838206464, 68, 1⟩, ⟨2, 147573952589676413952, 69, 1⟩, ⟨2, 147573952589676429312, 70, 1⟩, ⟨14, 1033017668127734890496, 71, 1⟩, ⟨18, 1328165573307087716352, 72, 1⟩, ⟨2, 147573952589676414976, 73, 1⟩, ⟨2, 147573952589676417024, 74, 1⟩, ⟨194, 14314673401198612054016, 75, 1⟩, ⟨258, 19037039884068257267712, 76, 1⟩, ⟨546, 40287689056981660729344, 77, 1⟩, ⟨1026, 75705437678503999832064, 78, 1⟩, ⟨4095, 151115727451828646838272, 14, 0⟩]), (21, [⟨0, 128, 81, 1⟩, ⟨0, 2, 82, 1⟩, ⟨0, 32, 83, 1⟩, ⟨4, 4835703278458516698824704, 84, 1⟩, ⟨11, 13298184015760920921767936, 85, 0⟩, ⟨16, 19342813113834066795298816, 86, 0⟩, ⟨0, 128, 87, 1⟩, ⟨0, 2, 88, 1⟩, ⟨0, 32, 89, 1⟩, ⟨256, 309485009821345068724781056, 90, 1⟩, ⟨736, 851083777008698938993147904, 91, 0⟩, ⟨1024, 1237940039285380274899124224, 92, 0⟩, ⟨2080, 2514565704798428683388846080, 93, 1⟩, ⟨6144, 4951760157141521099596496896, 94, 1⟩, ⟨8192, 9903520314283042199192993792, 95, 0⟩, ⟨24576, 29710560942849126597578981376, 96, 1⟩, ⟨65535, 39614081257132168796771975168, 7, 0⟩])]
def pl4 : List (Nat × List Stp) := [(23, [.q 0, .q 1, .q 2, .q 3, .q 4, .q 5, .q 6, .q 7, .q 8, .q 9, .s 10 [] [9, 1, 0, 2, 3, 4, 5, 6, 7, 8]])]
def tb4 : List (Nat × List Ent) := [(23, [⟨0, 2048, 108, 1⟩, ⟨1, 162259276829213363391578010288128, 109, 1⟩, ⟨2, 324518553658426726783156020577280, 110, 1⟩, ⟨2, 324518553658426726783156020580352, 111, 1⟩, ⟨14, 2271629875608987087482092144033792, 112, 1⟩, ⟨18, 2920666982925840541048404185186304, 113, 1⟩, ⟨2, 324518553658426726783156020576264, 114, 1⟩, ⟨66, 10709112270728081983844148679016448, 115, 1⟩, ⟨162, 26286002846332564869435637666676736, 116, 1⟩, ⟨258, 41862893421937047755027126654337024, 117, 1⟩, ⟨1023, 83076749736557242056487941267521536, 12, 0⟩])]
def pl5 : List (Nat × List Stp) := [(7, [.q 0, .q 1, .q 2, .q 3, .q 4, .q 5, .q 6, .q 7, .q 8, .q 9, .s 10 [] [0, 9, 4, 8, 3, 7, 1, 2, 5, 6], .s 11 [] [10, 0, 1, 2, 3, 4, 5, 6, 7, 8, 9]])]
def tb5 : List (Nat × List Ent) := [(7, [⟨0, 32, 28, 1⟩, ⟨0, 2, 29, 1⟩, ⟨0, 64, 30, 1⟩, ⟨6, 805306368, 31, 1⟩, ⟨8, 1073741824, 32, 1⟩, ⟨0, 2, 33, 1⟩, ⟨0, 64, 34, 1⟩, ⟨96, 12884901888, 35, 1⟩, ⟨128, 17179869184, 36, 1⟩, ⟨272, 36507222016, 37, 1⟩, ⟨513, 68853694464, 38, 0⟩, ⟨2047, 137438953472, 6, 0⟩])]
def pl6 : List (Nat × List Stp) := [(9, [.q 0, .q 1, .q 2, .q 3, .q 4, .q 5, .q 6, .q 7, .q 8, .q 9, .q 11, .q 12, .q 13, .q 14, .s 10 [11, 12, 13, 14] [9, 8, 7, 3, 6, 2, 4, 5, 0, 1], .s 15 [] [10, 14, 8, 9, 13, 7, 3, 12, 6, 2, 11, 4, 5, 0, 1], .q 16, .q 17]), (14, [.q 0, .q 1, .q 2, .q 3, .q 5, .q 6, .q 7, .q 8, .s 4 [5, 6, 7, 8] [0, 3, 2, 1], .s 9 [] [5, 8, 4, 7, 0, 3, 6, 2, 1], .s 10 [] [4, 9, 0, 3, 5, 8, 2, 7, 1, 6], .q 11, .q 12, .q 13, .q 14, .q 15, .q 16, .q 17, .q 19, .q 20, .q 21, .q 22, .q 23, .s 18 [19, 20, 21, 22, 23] [13, 14, 17, 12, 16, 11, 10, 15, 4, 9, 0, 3, 5, 8, 2, 7, 1, 6], .s 24 [] [19, 20, 23, 18, 12, 22, 13, 14, 17, 11, 10, 21, 16, 4, 9, 15, 0, 3, 5, 8, 2, 7, 1, 6], .q 25, .q 26]), (16, [.q 0, .q 1, .q 2, .q 3, .q 5, .q 6, .q 7, .q 8, .s 4 [5, 6, 7, 8] [0, 3, 2, 1], .s 9 [] [5, 8, 4, 7, 0, 3, 6, 2, 1], .q 10, .q 11, .q 12, .q 14, .q 15, .q 16, .q 17, .s 13 [14, 15, 16, 17] [12, 11, 10, 9, 4, 5, 8, 0, 3, 7, 2, 6, 1], .s 18 [] [13, 17, 11, 12, 16, 10, 9, 15, 4, 5, 8, 14, 0, 3, 7, 2, 6, 1], .q 19, .q 20])]
def tb6 : List (Nat × List Ent) := [(9, [⟨0, 1024, 51, 1⟩, ⟨0, 4096, 52, 1⟩, ⟨3, 3377699720527872, 53, 1⟩, ⟨4, 4503599627370496, 54, 1⟩, ⟨8, 9007199254743040, 55, 1⟩, ⟨8, 9007199254749184, 56, 1⟩, ⟨56, 63050394783186944, 57, 1⟩, ⟨72, 81064793292668928, 58, 1⟩, ⟨136, 144115188075855872, 59, 1⟩, ⟨256, 288230376151711872, 60, 1⟩, ⟨768, 864691128455135232, 61, 0⟩, ⟨256, 288230376151712000, 62, 1⟩, ⟨2304, 2594073385365405696, 63, 1⟩, ⟨4352, 4899916394579099648, 64, 1⟩, ⟨8448, 9511602413006487552, 65, 1⟩, ⟨17664, 19887895954468110336, 66, 0⟩, ⟨33024, 37181718523570814976, 67, 1⟩, ⟨65792, 74075206670989918208, 68, 1⟩]), (14, [⟨0, 128, 73, 1⟩, ⟨0, 16384, 74, 1⟩, ⟨2, 9444732965739290427424, 75, 1⟩, ⟨4, 18889465931478580854784, 76, 1⟩, ⟨9, 42501298345826806923264, 77, 0⟩, ⟨0, 256, 78, 1⟩, ⟨0, 16384, 79, 1⟩, ⟨64, 302231454903657293676576, 80, 1⟩, ⟨128, 604462909807314587353088, 81, 1⟩, ⟨304, 1360041547066457821544448, 82, 0⟩, ⟨528, 2493409502955172672831488, 83, 0⟩, ⟨1024, 4835703278458516698824704, 84, 1⟩, ⟨3072, 9671406556917033397649408, 85, 1⟩, ⟨4096, 19342813113834066795298944, 86, 1⟩, ⟨4096, 19342813113834066795298818, 87, 1⟩, ⟨4096, 19342813113834066795315200, 88, 1⟩, ⟨36864, 174085318024506601157689376, 89, 1⟩, ⟨69632, 328827822935179135520079872, 90, 1⟩, ⟨159744, 754369711439528605016653824, 91, 0⟩, ⟨4096, 19342813113834066795299072, 92, 1⟩, ⟨4096, 19342813113834066795298818, 93, 1⟩, ⟨4096, 19342813113834066795315200, 94, 1⟩, ⟨2101248, 9922863127396876265988292640, 95, 1⟩, ⟨4198400, 19826383441679918465181286400, 96, 1⟩, ⟨10227712, 47061064305958284512962019328, 97, 0⟩, ⟨17043456, 80485445366663551935238373376, 98, 1⟩, ⟨33558528, 158475667841642509253883199488, 99, 1⟩]), (16, [⟨0, 128, 100, 1⟩, ⟨0, 16384, 101, 1⟩, ⟨2, 1267650600228229401496703205408, 102, 1⟩, ⟨4, 2535301200456458802993406410752, 103, 1⟩, ⟨9, 5704427701027032306735164424192, 104, 0⟩, ⟨0, 256, 105, 1⟩, ⟨0, 16384, 106, 1⟩, ⟨64, 40564819207303340847894502572064, 107, 1⟩, ⟨128, 81129638414606681695789005144064, 108, 1⟩, ⟨304, 182541686432865033815525261574144, 109, 0⟩, ⟨528, 334659758460252561995129646219264, 110, 1⟩, ⟨1536, 649037107316853453566312041152512, 111, 1⟩, ⟨2048, 1298074214633706907132624082305152, 112, 1⟩, ⟨6144, 3894222643901120721397872246915072, 113, 0⟩, ⟨2048, 1298074214633706907132624082305280, 114, 1⟩, ⟨18432, 11682667931703362164193616740745216, 115, 1⟩, ⟨34816, 22067261648773017421254609399185408, 116, 1⟩, ⟨67584, 42836449082912327935376594716065792, 117, 1⟩, ⟨141312, 89567120809725776592151061679046656, 118, 0⟩, ⟨264192, 167451573687748191020108506617348096, 119, 1⟩, ⟨526336, 333605073160862675133084389152391168, 120, 1⟩])]
def pl7 : List (Nat × List Stp) := [(9, [.q 0, .q 1, .q 2, .q 3, .q 5, .q 6, .q 7, .q 8, .s 4 [5, 6, 7, 8] [0, 3, 2, 1], .s 9 [] [5, 8, 4, 7, 0, 3, 6, 2, 1], .s 10 [] [4, 9, 0, 3, 5, 8, 2, 7, 1, 6], .q 11, .q 12, .q 13, .q 14, .q 15, .q 16, .q 17, .q 19, .q 20, .q 21, .q 22, .q 23, .s 18 [19, 20, 21, 22, 23] [13, 14, 17, 12, 16, 11, 10, 15, 4, 9, 0, 3, 5, 8, 2, 7, 1, 6], .s 24 [] [19, 20, 23, 18, 12, 22, 13, 14, 17, 11, 10, 21, 16, 4, 9, 15, 0, 3, 5, 8, 2, 7, 1, 6], .q 25, .q 26])]
def tb7 : List (Nat × List Ent) := [(9, [⟨0, 128, 44, 1⟩, ⟨0, 2048, 45, 1⟩, ⟨2, 17592186044448, 46, 1⟩, ⟨4, 35184372088832, 47, 1⟩, ⟨9, 79164837199872, 48, 0⟩, ⟨0, 256, 49, 1⟩, ⟨0, 2048, 50, 1⟩, ⟨64, 562949953421344, 51, 1⟩, ⟨128, 1125899906842624, 52, 1⟩, ⟨304, 2533274790395904, 53, 0⟩, ⟨528, 4644337115725824, 54, 0⟩, ⟨1024, 9007199254740992, 55, 1⟩, ⟨3072, 18014398509481984, 56, 1⟩, ⟨4096, 36028797018964096, 57, 1⟩, ⟨4096, 36028797018963970, 58, 1⟩, ⟨4096, 36028797018966016, 59, 1⟩, ⟨36864, 324259173170675744, 60, 1⟩, ⟨69632, 612489549322387456, 61, 1⟩, ⟨159744, 1405123083739594752, 62, 0⟩, ⟨4096, 36028797018964224, 63, 1⟩, ⟨4096, 36028797018963970, 64, 1⟩, ⟨4096, 36028797018966016, 65, 1⟩, ⟨2101248, 18482772870728515616, 66, 1⟩, ⟨4198400, 36929516944438067200, 67, 1⟩, ⟨10227712, 87658063147139334144, 68, 0⟩, ⟨17043456, 149915824395909070848, 69, 1⟩, ⟨33558528, 295183933976371789824, 70, 1⟩])]
def pl8 : List (Nat × List Stp) := [(7, [.q 0, .q 1, .q 2, .q 3, .q 4, .s 5 [] [3, 4, 2, 0, 1], .q 6, .q 7, .q 8, .s 9 [8] [7, 5, 0, 1, 2, 3, 4, 6], .s 10 [] [8, 9, 0, 1, 2, 3, 4, 5, 6, 7]]), (8, [.q 0, .q 1, .q 2, .q 3, .q 4, .q 5, .q 6, .q 7, .q 8, .q 9, .q 10, .q 13, .q 14, .q 15, .q 16, .q 20, .q 21, .q 22, .q 23, .q 24, .q 27, .q 28, .q 29, .q 30, .q 31, .q 32, .s 11 [13, 14, 15, 16, 20, 21, 22, 23, 24, 27, 28, 29, 30, 31, 32] [9, 10, 5, 8, 4, 1, 6, 7, 3, 0, 2], .q 12, .s 17 [12, 20, 21, 22, 23, 24, 27, 28, 29, 30, 31, 32] [16, 11, 5, 15, 9, 10, 4, 1, 13, 14, 8, 3, 0, 6, 7, 2], .q 18, .q 19, .s 25 [12, 18, 19, 27, 28, 29, 30, 31, 32] [23, 24, 17, 5, 22, 16, 11, 4, 1, 20, 21, 15, 9, 10, 3, 0, 13, 14, 8, 2, 6, 7], .q 26, .s 33 [12, 18, 19, 26, 27, 28, 29, 30] [32, 25, 5, 31, 23, 24, 17, 4, 1, 22, 16, 11, 3, 0, 20, 21, 15, 9, 10, 2, 13, 14, 8, 6, 7], .s 34 [12, 18, 19, 26] [30, 33, 5, 29, 32, 25, 4, 1, 27, 28, 31, 23, 24, 17, 3, 0, 22, 16, 11, 2, 20, 21, 15, 9, 10, 13, 14, 8, 6, 7], .q 35, .q 36, .q 37, .q 38, .q 39, .q 40, .q 41, .q 42, .q 43, .q 44, .q 45, .s 46 [] [42, 44, 45, 38, 41, 43, 37, 34, 39, 40, 5, 36, 30, 33, 4, 1, 35, 29, 32, 25, 3, 0, 26, 27, 28, 31, 23, 24, 17, 2, 19, 22, 16, 11, 12, 18, 20, 21, 15, 9, 10, 13, 14, 8, 6, 7], .q 47, .q 48])]
def tb8 : List (Nat × List Ent) := [(7, [⟨0, 32, 27, 1⟩, ⟨0, 64, 28, 1⟩, ⟨3, 201326592, 29, 1⟩, ⟨4, 268435456, 30, 1⟩, ⟨0, 4, 31, 1⟩, ⟨24, 1610612736, 32, 0⟩, ⟨32, 2147483648, 26, 1⟩, ⟨64, 33554432, 33, 1⟩, ⟨64, 33554432, 34, 1⟩, ⟨255, 4294967296, 8, 0⟩, ⟨1023, 8589934592, 9, 0⟩]), (8, [⟨0, 128, 35, 1⟩, ⟨1, 17179869184, 36, 1⟩, ⟨2, 34359738624, 37, 1⟩, ⟨6, 103079215104, 38, 1⟩, ⟨10, 171798691840, 39, 1⟩, ⟨18, 274877906944, 40, 1⟩, ⟨32, 549755813920, 41, 1⟩, ⟨32, 549755813952, 42, 1⟩, ⟨224, 3848290697216, 43, 1⟩, ⟨288, 4947802324992, 44, 1⟩, ⟨32, 549755813890, 45, 1⟩, ⟨1568, 26938034880512, 46, 0⟩, ⟨2080, 35734127902720, 47, 1⟩, ⟨32, 549755813920, 48, 1⟩, ⟨32, 549755813952, 49, 1⟩, ⟨24608, 422762220879872, 50, 1⟩, ⟨32800, 563499709235200, 51, 1⟩, ⟨67616, 1126449662656512, 52, 0⟩, ⟨131104, 2252349569499136, 53, 1⟩, ⟨266272, 4574518127362048, 54, 1⟩, ⟨32, 549755813920, 55, 1⟩, ⟨32, 549755813952, 56, 1⟩, ⟨3145760, 54043745284259840, 57, 1⟩, ⟨4194336, 72058143793741824, 58, 1⟩, ⟨32, 549755813890, 59, 1⟩, ⟨25296928, 432346113983381504, 60, 0⟩, ⟨34078752, 585468501313978368, 61, 1⟩, ⟨32, 549755813920, 62, 1⟩, ⟨32, 549755813952, 63, 1⟩, ⟨402653216, 6917529577396895744, 64, 1⟩, ⟨536870944, 9223372586610589696, 65, 1⟩, ⟨32, 549755813892, 66, 1⟩, ⟨2147483680, 36893488697174917120, 67, 1⟩, ⟨4328521760, 73786976844594020352, 68, 0⟩, ⟨9663676448, 166020697213141778432, 69, 0⟩, ⟨17246978080, 296300827233715486720, 70, 1⟩, ⟨34359738400, 590295810908461465600, 71, 1⟩, ⟨68719476768, 1180591621267167117312, 72, 1⟩, ⟨154618822656, 2361183241434822606848, 73, 1⟩, ⟨274877906944, 4722366482869645213728, 74, 1⟩, ⟨274877906944, 4722366482869645213760, 75, 1⟩, ⟨1924145348608, 33056565380087516495872, 76, 1⟩, ⟨2473901162496, 42501298345826806923264, 77, 1⟩, ⟨274877906944, 4722366482869645213700, 78, 1⟩, ⟨9070970929152, 155838093934698292051968, 79, 1⟩, ⟨274877906944, 4722366482869645213698, 80, 1⟩, ⟨57449482551296, 986974594919755849662464, 81, 0⟩, ⟨70643622084608, 1213648186097498819919872, 82, 1⟩, ⟨141012366262272, 2422574005712127994626048, 83, 1⟩])]
def pl17 : List (Nat × List Stp) := [(3, [.q 0, .q 1, .q 2, .q 3, .q 4, .s 5 [0, 1, 2, 3] [4], .q 6, .q 7, .q 8, .q 9, .s 10 [0, 1, 2, 3, 4, 6, 7, 8, 9] [], .s 11 [9] [10, 8, 5, 0, 1, 2, 3, 4, 6, 7], .s 12 [] [9, 11, 0, 1, 2, 3, 4, 5, 6, 7, 8, 10]]), (4, [.q 0, .q 1, .q 2, .q 3, .q 4, .q 5, .q 7, .q 8, .q 9, .q 10, .q 12, .q 13, .q 14, .q 15, .s 6 [7, 8, 9, 10, 12, 13, 14, 15] [3, 5, 1, 2, 4, 0], .s 11 [12, 13, 14, 15] [8, 10, 6, 1, 7, 9, 3, 5, 0, 2, 4], .s 16 [] [13, 15, 11, 1, 12, 14, 8, 10, 6, 0, 7, 9, 3, 5, 2, 4], .q 17, .s 18 [] [17, 16, 1, 6, 11, 13, 15, 0, 3, 5, 8, 10, 12, 14, 2, 4, 7, 9], .q 19, .q 20]), (6, [.q 0, .q 1, .q 2, .q 3, .q 4, .q 6, .s 5 [0, 1, 2, 3, 6] [4], .s 7 [] [3, 5, 6, 0, 1, 2, 4]])]
def tb17 : List (Nat × List Ent) := [(3, [⟨0, 1, 24, 1⟩, ⟨1, 8388608, 25, 1⟩, ⟨2, 16777216, 26, 1⟩, ⟨4, 33554432, 27, 1⟩, ⟨0, 8, 28, 1⟩, ⟨16, 134217728, 29, 0⟩, ⟨40, 335544320, 30, 1⟩, ⟨64, 536870912, 23, 1⟩, ⟨128, 4194304, 31, 1⟩, ⟨128, 4194304, 32, 1⟩, ⟨0, 0, 7, 2⟩, ⟨1535, 1073741888, 0, 0⟩, ⟨4095, 2147483648, 8, 0⟩]), (4, [⟨0, 128, 33, 1⟩, ⟨1, 4294967296, 34, 1⟩, ⟨2, 8589934600, 35, 1⟩, ⟨6, 25769803776, 36, 1⟩, ⟨2, 8589934656, 37, 1⟩, ⟨18, 77309411328, 38, 1⟩, ⟨42, 180388626432, 39, 0⟩, ⟨2, 8589934600, 40, 1⟩, ⟨130, 558345748480, 41, 1⟩, ⟨2, 8589934656, 42, 1⟩, ⟨514, 2207613190144, 43, 1⟩, ⟨1346, 5506148073472, 44, 0⟩, ⟨2, 8589934600, 45, 1⟩, ⟨4098, 17600775979008, 46, 1⟩, ⟨2, 8589934656, 47, 1⟩, ⟨16386, 70377334112256, 48, 1⟩, ⟨43010, 175930450378752, 49, 0⟩, ⟨67650, 290554537574400, 50, 1⟩, ⟨196610, 562958543355904, 51, 0⟩, ⟨262146, 1125908496777216, 52, 1⟩, ⟨524290, 2251808403619840, 53, 1⟩]), (6, [⟨0, 1, 54, 1⟩, ⟨1, 9007199254740992, 55, 1⟩, ⟨2, 18014398509481984, 56, 1⟩, ⟨4, 36028797018963968, 57, 1⟩, ⟨0, 8, 58, 1⟩, ⟨16, 144115188075855872, 59, 0⟩, ⟨0, 8, 60, 1⟩, ⟨127, 936748722493063168, 0, 0⟩])]
def pl19 : List (Nat × List Stp) := [(6, [.q 0, .q 1, .q 2, .q 3, .q 4, .q 5, .q 6, .q 7, .q 8])]
def tb19 : List (Nat × List Ent) := [(6, [⟨0, 1, 18, 1⟩, ⟨0, 32, 19, 1⟩, ⟨3, 393216, 20, 1⟩, ⟨4, 524288, 21, 1⟩, ⟨0, 2, 22, 1⟩, ⟨0, 32, 23, 1⟩, ⟨48, 6291456, 24, 1⟩, ⟨64, 8388608, 25, 1⟩, ⟨136, 17825792, 26, 1⟩])]
def pl22 : List (Nat × List Stp) := [(6, [.q 0, .q 1, .q 2, .q 3, .q 4, .q 5, .q 6, .q 7, .q 8])]
def tb22 : List (Nat × List Ent) := [(6, [⟨0, 1, 18, 1⟩, ⟨0, 32, 19, 1⟩, ⟨3, 393216, 20, 1⟩, ⟨4, 524288, 21, 1⟩, ⟨0, 2, 22, 1⟩, ⟨0, 32, 23, 1⟩, ⟨48, 6291456, 24, 1⟩, ⟨64, 8388608, 25, 1⟩, ⟨136, 17825792, 26, 1⟩])]
def pl25 : List (Nat × List Stp) := [(6, [.q 0, .q 1, .q 2, .q 3, .q 4, .s 5 [0, 1, 2, 3] [4], .s 6 [] [3, 5, 2, 4, 1, 0]])]
def tb25 : List (Nat × List Ent) := [(6, [⟨0, 1, 20, 1⟩, ⟨1, 524288, 21, 1⟩, ⟨2, 1048576, 22, 1⟩, ⟨4, 2097152, 23, 1⟩, ⟨0, 128, 24, 1⟩, ⟨16, 8388608, 25, 0⟩, ⟨40, 20971520, 0, 0⟩])]
def pl58 : List (Nat × List Stp) := [(6, [.q 0, .q 1, .q 2, .q 3, .q 4, .q 5, .q 6, .s 7 [3, 4, 5, 6] [2, 0, 1], .s 8 [] [6, 7, 0, 1, 2, 3, 4, 5], .s 9 [] [8, 0, 1, 2, 3, 4, 5, 6, 7]])]
def tb58 : List (Nat × List Ent) := [(6, [⟨0, 2, 36, 1⟩, ⟨0, 128, 37, 1⟩, ⟨3, 103079215104, 38, 1⟩, ⟨0, 2, 39, 1⟩, ⟨0, 128, 40, 1⟩, ⟨16, 549755813888, 41, 1⟩, ⟨40, 1374389534720, 42, 1⟩, ⟨7, 137438953472, 5, 0⟩, ⟨255, 2199023255552, 6, 0⟩, ⟨511, 0, 7, 0⟩])]
def pl74 : List (Nat × List Stp) := [(3, [.q 0, .q 1, .q 2, .q 3, .q 4, .q 5, .q 6, .q 7, .q 8, .s 9 [3, 4, 5, 6, 7, 8] [2, 0, 1], .s 10 [] [8, 9, 0, 1, 2, 3, 4, 5, 6, 7], .s 11 [] [10, 0, 1, 2, 3, 4, 5, 6, 7, 8, 9]])]
def tb74 : List (Nat × List Ent) := [(3, [⟨0, 1, 14, 1⟩, ⟨0, 128, 15, 1⟩, ⟨3, 24576, 16, 1⟩, ⟨0, 1, 17, 1⟩, ⟨0, 128, 18, 1⟩, ⟨0, 2, 19, 1⟩, ⟨32, 262144, 20, 1⟩, ⟨80, 655360, 21, 1⟩, ⟨136, 1114112, 22, 1⟩, ⟨7, 32768, 5, 0⟩, ⟨1023, 2097152, 6, 0⟩, ⟨2047, 0, 7, 0⟩])]
end Go.Proofs.Ytohmgnbndhojpaa
