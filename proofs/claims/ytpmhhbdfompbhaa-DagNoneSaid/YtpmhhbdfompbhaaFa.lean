import Derived.Test.YtpmhhbdfompbhaaRows
import Derived.Test.YtpmhhbdfompbhaaMxR
namespace Go.Proofs.Ytpmhhbdfompbhaa
open Go.Mx
theorem sz3 : szT Try.prog 3 = some 1 := by kernel_rfl
theorem ag3 : aggT Try.prog 3 = some false := by kernel_rfl
theorem tk3 : tkOf Try.prog 3 = .num := by kernel_rfl
theorem by3 : (Try.prog.info? 3).map (·.bytes) = some 8 := by kernel_rfl
theorem ze3 : zerosT Try.prog 3 = some [.v (.int .i64 0)] := by kernel_rfl
theorem sz4 : szT Try.prog 4 = some 1 := by kernel_rfl
theorem ag4 : aggT Try.prog 4 = some false := by kernel_rfl
theorem tk4 : tkOf Try.prog 4 = .bool := by kernel_rfl
theorem by4 : (Try.prog.info? 4).map (·.bytes) = some 1 := by kernel_rfl
theorem ze4 : zerosT Try.prog 4 = some [.v (.bool false)] := by kernel_rfl
theorem sz5 : szT Try.prog 5 = some 1 := by kernel_rfl
theorem ag5 : aggT Try.prog 5 = some false := by kernel_rfl
theorem tk5 : tkOf Try.prog 5 = .num := by kernel_rfl
theorem by5 : (Try.prog.info? 5).map (·.bytes) = some 1 := by kernel_rfl
theorem ze5 : zerosT Try.prog 5 = some [.v (.int .u8 0)] := by kernel_rfl
theorem sz9 : szT Try.prog 9 = some 1 := by kernel_rfl
theorem ag9 : aggT Try.prog 9 = some false := by kernel_rfl
theorem tk9 : tkOf Try.prog 9 = .str := by kernel_rfl
theorem st9 : isStrTy Try.prog 9 = some true := by kernel_rfl
theorem by9 : (Try.prog.info? 9).map (·.bytes) = some 16 := by kernel_rfl
theorem ze9 : zerosT Try.prog 9 = some [.v (.string ⟨#[]⟩)] := by kernel_rfl
theorem sz22 : szT Try.prog 22 = some 1 := by kernel_rfl
theorem ag22 : aggT Try.prog 22 = some false := by kernel_rfl
theorem tk22 : tkOf Try.prog 22 = .slice := by kernel_rfl
theorem st22 : isStrTy Try.prog 22 = some false := by kernel_rfl
theorem by22 : (Try.prog.info? 22).map (·.bytes) = some 24 := by kernel_rfl
theorem ze22 : zerosT Try.prog 22 = some [.v (.slice none 0 0)] := by kernel_rfl
theorem sz23 : szT Try.prog 23 = some 1 := by kernel_rfl
theorem ag23 : aggT Try.prog 23 = some false := by kernel_rfl
theorem tk23 : tkOf Try.prog 23 = .slice := by kernel_rfl
theorem st23 : isStrTy Try.prog 23 = some false := by kernel_rfl
theorem by23 : (Try.prog.info? 23).map (·.bytes) = some 24 := by kernel_rfl
theorem ze23 : zerosT Try.prog 23 = some [.v (.slice none 0 0)] := by kernel_rfl
theorem sz25 : szT Try.prog 25 = some 1 := by kernel_rfl
theorem ag25 : aggT Try.prog 25 = some false := by kernel_rfl
theorem tk25 : tkOf Try.prog 25 = .ptr := by kernel_rfl
theorem by25 : (Try.prog.info? 25).map (·.bytes) = some 8 := by kernel_rfl
theorem ze25 : zerosT Try.prog 25 = some [.v (.pointer none)] := by kernel_rfl
theorem sz26 : szT Try.prog 26 = some 1 := by kernel_rfl
theorem ag26 : aggT Try.prog 26 = some false := by kernel_rfl
theorem tk26 : tkOf Try.prog 26 = .ptr := by kernel_rfl
theorem by26 : (Try.prog.info? 26).map (·.bytes) = some 8 := by kernel_rfl
theorem ze26 : zerosT Try.prog 26 = some [.v (.pointer none)] := by kernel_rfl
theorem sz30 : szT Try.prog 30 = some 1 := by kernel_rfl
theorem ag30 : aggT Try.prog 30 = some false := by kernel_rfl
theorem tk30 : tkOf Try.prog 30 = .slice := by kernel_rfl
theorem st30 : isStrTy Try.prog 30 = some false := by kernel_rfl
theorem by30 : (Try.prog.info? 30).map (·.bytes) = some 24 := by kernel_rfl
theorem ze30 : zerosT Try.prog 30 = some [.v (.slice none 0 0)] := by kernel_rfl
theorem sz38 : szT Try.prog 38 = some 1 := by kernel_rfl
theorem ag38 : aggT Try.prog 38 = some false := by kernel_rfl
theorem tk38 : tkOf Try.prog 38 = .func := by kernel_rfl
theorem by38 : (Try.prog.info? 38).map (·.bytes) = some 8 := by kernel_rfl
theorem ze38 : zerosT Try.prog 38 = some [.v (.nilFunc)] := by kernel_rfl
theorem sz42 : szT Try.prog 42 = some 1 := by kernel_rfl
theorem ag42 : aggT Try.prog 42 = some false := by kernel_rfl
theorem tk42 : tkOf Try.prog 42 = .num := by kernel_rfl
theorem by42 : (Try.prog.info? 42).map (·.bytes) = some 8 := by kernel_rfl
theorem ze42 : zerosT Try.prog 42 = some [.v (.int .i64 0)] := by kernel_rfl
theorem sz44 : szT Try.prog 44 = some 1 := by kernel_rfl
theorem ag44 : aggT Try.prog 44 = some false := by kernel_rfl
theorem tk44 : tkOf Try.prog 44 = .slice := by kernel_rfl
theorem st44 : isStrTy Try.prog 44 = some false := by kernel_rfl
theorem by44 : (Try.prog.info? 44).map (·.bytes) = some 24 := by kernel_rfl
theorem ze44 : zerosT Try.prog 44 = some [.v (.slice none 0 0)] := by kernel_rfl
theorem sz46 : szT Try.prog 46 = some 3 := by kernel_rfl
theorem ag46 : aggT Try.prog 46 = some true := by kernel_rfl
theorem tk46 : tkOf Try.prog 46 = .other := by kernel_rfl
theorem by46 : (Try.prog.info? 46).map (·.bytes) = some 64 := by kernel_rfl
theorem ze46 : zerosT Try.prog 46 = some [.v (.string ⟨#[]⟩), .v (.slice none 0 0), .v (.slice none 0 0)] := by kernel_rfl
theorem of46 : offsT Try.prog 46 = some [(0, 1), (1, 1), (2, 1)] := by kernel_rfl
theorem sz50 : szT Try.prog 50 = some 1 := by kernel_rfl
theorem ag50 : aggT Try.prog 50 = some false := by kernel_rfl
theorem tk50 : tkOf Try.prog 50 = .slice := by kernel_rfl
theorem st50 : isStrTy Try.prog 50 = some false := by kernel_rfl
theorem by50 : (Try.prog.info? 50).map (·.bytes) = some 24 := by kernel_rfl
theorem ze50 : zerosT Try.prog 50 = some [.v (.slice none 0 0)] := by kernel_rfl
theorem sz52 : szT Try.prog 52 = some 1 := by kernel_rfl
theorem ag52 : aggT Try.prog 52 = some true := by kernel_rfl
theorem tk52 : tkOf Try.prog 52 = .other := by kernel_rfl
theorem by52 : (Try.prog.info? 52).map (·.bytes) = some 24 := by kernel_rfl
theorem ze52 : zerosT Try.prog 52 = some [.v (.slice none 0 0)] := by kernel_rfl
theorem of52 : offsT Try.prog 52 = some [(0, 1)] := by kernel_rfl
theorem sz54 : szT Try.prog 54 = some 3 := by kernel_rfl
theorem ag54 : aggT Try.prog 54 = some true := by kernel_rfl
theorem tk54 : tkOf Try.prog 54 = .other := by kernel_rfl
theorem by54 : (Try.prog.info? 54).map (·.bytes) = some 64 := by kernel_rfl
theorem ze54 : zerosT Try.prog 54 = some [.v (.string ⟨#[]⟩), .v (.slice none 0 0), .v (.slice none 0 0)] := by kernel_rfl
theorem of54 : offsT Try.prog 54 = some [(0, 1), (1, 1), (2, 1)] := by kernel_rfl
theorem sz59 : szT Try.prog 59 = some 1 := by kernel_rfl
theorem ag59 : aggT Try.prog 59 = some false := by kernel_rfl
theorem tk59 : tkOf Try.prog 59 = .slice := by kernel_rfl
theorem st59 : isStrTy Try.prog 59 = some false := by kernel_rfl
theorem by59 : (Try.prog.info? 59).map (·.bytes) = some 24 := by kernel_rfl
theorem ze59 : zerosT Try.prog 59 = some [.v (.slice none 0 0)] := by kernel_rfl
theorem sz60 : szT Try.prog 60 = some 1 := by kernel_rfl
theorem ag60 : aggT Try.prog 60 = some false := by kernel_rfl
theorem tk60 : tkOf Try.prog 60 = .map := by kernel_rfl
theorem by60 : (Try.prog.info? 60).map (·.bytes) = some 8 := by kernel_rfl
theorem ze60 : zerosT Try.prog 60 = some [.v (.map none)] := by kernel_rfl
theorem sz62 : szT Try.prog 62 = some 2 := by kernel_rfl
theorem ag62 : aggT Try.prog 62 = some true := by kernel_rfl
theorem tk62 : tkOf Try.prog 62 = .other := by kernel_rfl
theorem by62 : (Try.prog.info? 62).map (·.bytes) = some 32 := by kernel_rfl
theorem ze62 : zerosT Try.prog 62 = some [.v (.slice none 0 0), .v (.map none)] := by kernel_rfl
theorem of62 : offsT Try.prog 62 = some [(0, 1), (1, 1)] := by kernel_rfl
theorem sz63 : szT Try.prog 63 = some 1 := by kernel_rfl
theorem ag63 : aggT Try.prog 63 = some false := by kernel_rfl
theorem tk63 : tkOf Try.prog 63 = .slice := by kernel_rfl
theorem st63 : isStrTy Try.prog 63 = some false := by kernel_rfl
theorem by63 : (Try.prog.info? 63).map (·.bytes) = some 24 := by kernel_rfl
theorem ze63 : zerosT Try.prog 63 = some [.v (.slice none 0 0)] := by kernel_rfl
theorem sz69 : szT Try.prog 69 = some 3 := by kernel_rfl
theorem ag69 : aggT Try.prog 69 = some true := by kernel_rfl
theorem tk69 : tkOf Try.prog 69 = .other := by kernel_rfl
theorem by69 : (Try.prog.info? 69).map (·.bytes) = some 64 := by kernel_rfl
theorem ze69 : zerosT Try.prog 69 = some [.v (.string ⟨#[]⟩), .v (.slice none 0 0), .v (.slice none 0 0)] := by kernel_rfl
theorem of69 : offsT Try.prog 69 = some [(0, 1), (1, 1), (2, 1)] := by kernel_rfl
theorem sz72 : szT Try.prog 72 = some 1 := by kernel_rfl
theorem ag72 : aggT Try.prog 72 = some false := by kernel_rfl
theorem tk72 : tkOf Try.prog 72 = .map := by kernel_rfl
theorem by72 : (Try.prog.info? 72).map (·.bytes) = some 8 := by kernel_rfl
theorem ze72 : zerosT Try.prog 72 = some [.v (.map none)] := by kernel_rfl
theorem mo : Try.prog.follows .mixedOrders = true := by kernel_rfl
theorem ok3 : bodyOk Try.prog 3 = true := by kernel_rfl
theorem ok4 : bodyOk Try.prog 4 = true := by kernel_rfl
theorem ok5 : bodyOk Try.prog 5 = true := by kernel_rfl
theorem ok6 : bodyOk Try.prog 6 = true := by kernel_rfl
theorem ok7 : bodyOk Try.prog 7 = true := by kernel_rfl
theorem ok8 : bodyOk Try.prog 8 = true := by kernel_rfl
theorem ok9 : bodyOk Try.prog 9 = true := by kernel_rfl
theorem ok10 : bodyOk Try.prog 10 = true := by kernel_rfl
theorem ok11 : bodyOk Try.prog 11 = true := by kernel_rfl
theorem ok12 : bodyOk Try.prog 12 = true := by kernel_rfl
theorem ok13 : bodyOk Try.prog 13 = true := by kernel_rfl
theorem ok14 : bodyOk Try.prog 14 = true := by kernel_rfl
theorem ok15 : bodyOk Try.prog 15 = true := by kernel_rfl
theorem ok16 : bodyOk Try.prog 16 = true := by kernel_rfl
theorem ok17 : bodyOk Try.prog 17 = true := by kernel_rfl
theorem ok18 : bodyOk Try.prog 18 = true := by kernel_rfl
theorem ok19 : bodyOk Try.prog 19 = true := by kernel_rfl
theorem ok20 : bodyOk Try.prog 20 = true := by kernel_rfl
theorem ok21 : bodyOk Try.prog 21 = true := by kernel_rfl
theorem ok22 : bodyOk Try.prog 22 = true := by kernel_rfl
theorem ok23 : bodyOk Try.prog 23 = true := by kernel_rfl
theorem ok24 : bodyOk Try.prog 24 = true := by kernel_rfl
theorem ok25 : bodyOk Try.prog 25 = true := by kernel_rfl
theorem ok26 : bodyOk Try.prog 26 = true := by kernel_rfl
theorem ok27 : bodyOk Try.prog 27 = true := by kernel_rfl
theorem ok28 : bodyOk Try.prog 28 = true := by kernel_rfl
theorem ok29 : bodyOk Try.prog 29 = true := by kernel_rfl
theorem ok30 : bodyOk Try.prog 30 = true := by kernel_rfl
theorem ok31 : bodyOk Try.prog 31 = true := by kernel_rfl
theorem ok32 : bodyOk Try.prog 32 = true := by kernel_rfl
theorem ok33 : bodyOk Try.prog 33 = true := by kernel_rfl
theorem ok34 : bodyOk Try.prog 34 = true := by kernel_rfl
theorem ok35 : bodyOk Try.prog 35 = true := by kernel_rfl
theorem ok36 : bodyOk Try.prog 36 = true := by kernel_rfl
theorem ok37 : bodyOk Try.prog 37 = true := by kernel_rfl
theorem ok38 : bodyOk Try.prog 38 = true := by kernel_rfl
theorem ok39 : bodyOk Try.prog 39 = true := by kernel_rfl
theorem ok40 : bodyOk Try.prog 40 = true := by kernel_rfl
theorem ok41 : bodyOk Try.prog 41 = true := by kernel_rfl
theorem ok42 : bodyOk Try.prog 42 = true := by kernel_rfl
theorem ok43 : bodyOk Try.prog 43 = true := by kernel_rfl
theorem ok44 : bodyOk Try.prog 44 = true := by kernel_rfl
def pl5 : List (Nat × List Stp) := [(18, [.q 0, .q 1, .q 2, .q 3, .q 4, .q 5, .s 6 [0, 1, 2, 3] [4, 5], .q 7, .q 8, .q 9, .s 10 [0, 1, 2, 3] [8, 9, 7, 6, 4, 5], .q 11, .q 12, .q 13, .q 14, .q 15, .s 16 [] [14, 15, 13, 12, 10, 3, 11, 8, 9, 7, 2, 6, 0, 1, 4, 5], .q 17, .q 18, .q 19, .s 20 [] [18, 19, 17, 16, 13, 14, 15, 12, 10, 3, 11, 8, 9, 7, 2, 6, 0, 1, 4, 5], .q 21, .q 22])]
def tb5 : List (Nat × List Ent) := [(18, [⟨0, 2, 83, true⟩, ⟨0, 8192, 84, true⟩, ⟨3, 14507109835375550096474112, 85, true⟩, ⟨4, 19342813113834066795298816, 86, true⟩, ⟨0, 8192, 87, true⟩, ⟨0, 2048, 88, true⟩, ⟨48, 232113757366008801543585792, 89, false⟩, ⟨64, 309485009821345068724781056, 90, true⟩, ⟨128, 618970019642690137449570304, 91, true⟩, ⟨128, 618970019642690137449566208, 92, true⟩, ⟨896, 4332790137498830962146934784, 93, false⟩, ⟨1152, 5570730176784211237046059008, 94, true⟩, ⟨2056, 9942205940510710332783591424, 95, true⟩, ⟨5120, 19807040628566084398385987584, 96, true⟩, ⟨8192, 39614081257132168796771983360, 97, true⟩, ⟨8192, 39614081257132168796771977216, 98, true⟩, ⟨57344, 277298568799925181577403826176, 99, false⟩, ⟨73728, 356526731314189519170947776512, 100, true⟩, ⟨131072, 633825300114114700748351610880, 101, true⟩, ⟨131072, 633825300114114700748351606784, 102, true⟩, ⟨917504, 4436777100798802905238461218816, 103, false⟩, ⟨1187840, 5744041782284164475531936399360, 104, true⟩, ⟨2105344, 10180818883082967380770397618176, 105, true⟩])]
def pl7 : List (Nat × List Stp) := [(8, [.q 0, .q 1, .q 2, .q 3, .q 4, .q 5, .q 6, .q 7, .q 8, .q 9, .q 10, .q 11, .q 12, .q 13, .q 14, .q 15, .s 16 [] [0, 5, 10, 15, 4, 9, 14, 3, 8, 13, 1, 2, 6, 7, 11, 12], .s 17 [] [16, 0, 1, 2, 3, 4, 5, 6, 7, 8, 9, 10, 11, 12, 13, 14, 15]]), (15, [.q 0, .q 1, .q 2, .q 3, .q 4, .s 5 [0, 1, 2, 3] [4], .q 6])]
def tb7 : List (Nat × List Ent) := [(8, [⟨0, 32, 34, true⟩, ⟨0, 1, 35, true⟩, ⟨0, 64, 36, true⟩, ⟨6, 51539607552, 37, true⟩, ⟨8, 68719476736, 38, true⟩, ⟨16, 137438953472, 39, true⟩, ⟨0, 1, 40, true⟩, ⟨0, 64, 41, true⟩, ⟨192, 1649267441664, 42, true⟩, ⟨256, 2199023255552, 43, true⟩, ⟨512, 4398046511104, 44, true⟩, ⟨0, 1, 45, true⟩, ⟨0, 64, 46, true⟩, ⟨6144, 52776558133248, 47, true⟩, ⟨8192, 70368744177664, 48, true⟩, ⟨16384, 140737488355328, 49, true⟩, ⟨33825, 290554537574400, 50, false⟩, ⟨131071, 562949953421312, 9, false⟩]), (15, [⟨0, 2, 75, true⟩, ⟨0, 1024, 76, true⟩, ⟨3, 56668397794435742564352, 77, true⟩, ⟨4, 75557863725914323419136, 78, true⟩, ⟨0, 32, 79, true⟩, ⟨16, 302231454903657293676544, 80, false⟩, ⟨40, 755578637259143234191360, 81, true⟩])]
def pl8 : List (Nat × List Stp) := [(12, [.q 0, .q 1, .q 3, .q 4, .s 2 [3, 4] [0, 1], .q 5, .q 6, .q 7, .q 8, .q 10, .q 11, .s 9 [10, 11] [7, 8, 6, 5, 2, 4, 0, 1, 3], .s 12 [] [9, 11, 6, 7, 8, 10, 5, 2, 4, 0, 1, 3], .q 13, .q 14, .q 15, .q 16, .q 17, .q 19, .q 20, .s 18 [19, 20] [16, 17, 15, 14, 12, 6, 13, 9, 11, 5, 2, 7, 8, 10, 4, 0, 1, 3], .s 21 [] [18, 20, 15, 16, 17, 19, 14, 12, 6, 13, 9, 11, 5, 2, 7, 8, 10, 4, 0, 1, 3], .q 22, .q 23])]
def tb8 : List (Nat × List Ent) := [(12, [⟨0, 32, 69, true⟩, ⟨0, 256, 70, true⟩, ⟨3, 885443715538058477568, 71, false⟩, ⟨0, 512, 72, true⟩, ⟨8, 2361183241434822606848, 73, true⟩, ⟨20, 5902958103587056517120, 74, true⟩, ⟨36, 9444732965739290427392, 75, true⟩, ⟨64, 18889465931478580854816, 76, true⟩, ⟨64, 18889465931478580855040, 77, true⟩, ⟨448, 132226261520350065983488, 78, false⟩, ⟨64, 18889465931478580855296, 79, true⟩, ⟨1088, 321120920835135874531328, 80, true⟩, ⟨2624, 774468103190621815046144, 81, false⟩, ⟨4160, 1227815285546107755560960, 82, true⟩, ⟨8256, 2436741105160736930267136, 83, true⟩, ⟨20480, 4835703278458516698824704, 84, true⟩, ⟨32768, 9671406556917033397649440, 85, true⟩, ⟨32768, 9671406556917033397649664, 86, true⟩, ⟨229376, 67699845898419233783545856, 87, false⟩, ⟨32768, 9671406556917033397649920, 88, true⟩, ⟨557056, 164413911467589567760039936, 89, true⟩, ⟨1343488, 396527668833598369303625728, 90, false⟩, ⟨2129920, 628641426199607170847211520, 91, true⟩, ⟨4227072, 1247611445842297308296773632, 92, true⟩])]
def pl11 : List (Nat × List Stp) := [(5, [.q 0, .q 1, .q 2, .q 3, .q 4, .q 5, .q 6, .q 7, .q 8, .q 9, .q 10, .q 11, .q 12, .q 13, .q 14, .q 15, .q 17, .q 18, .q 19, .q 20, .q 21, .q 22, .q 23, .q 24, .q 25, .q 26, .q 27, .q 28, .q 29, .q 30, .q 31, .q 32, .s 16 [17, 18, 19, 20, 21, 22, 23, 24, 25, 26, 27, 28, 29, 30, 31, 32] [0, 5, 10, 15, 4, 9, 14, 3, 8, 13, 1, 2, 6, 7, 11, 12], .s 33 [] [17, 22, 27, 32, 16, 21, 26, 31, 0, 5, 10, 15, 20, 25, 30, 4, 9, 14, 18, 19, 23, 24, 28, 29, 3, 8, 13, 1, 2, 6, 7, 11, 12], .q 34]), (7, [.q 0, .q 1, .q 2, .q 4, .q 5, .q 6, .q 7, .q 8, .s 3 [0, 1, 4, 5, 6, 7, 8] [2], .q 9, .s 10 [1, 4, 5, 6, 7, 8, 9] [0, 3, 2], .s 11 [4, 5, 6, 7, 8, 9] [1, 10, 0, 3, 2], .s 12 [] [9, 11, 0, 1, 2, 3, 4, 5, 6, 7, 8, 10]])]
def tb11 : List (Nat × List Ent) := [(5, [⟨0, 32, 18, true⟩, ⟨0, 1, 19, true⟩, ⟨0, 128, 20, true⟩, ⟨6, 786432, 21, true⟩, ⟨8, 1048576, 22, true⟩, ⟨16, 2097152, 23, true⟩, ⟨0, 1, 24, true⟩, ⟨0, 128, 25, true⟩, ⟨192, 25165824, 26, true⟩, ⟨256, 33554432, 27, true⟩, ⟨512, 67108864, 28, true⟩, ⟨0, 1, 29, true⟩, ⟨0, 128, 30, true⟩, ⟨6144, 805306368, 31, true⟩, ⟨8192, 1073741824, 32, true⟩, ⟨16384, 2147483648, 33, true⟩, ⟨33825, 4433510400, 34, false⟩, ⟨0, 64, 35, true⟩, ⟨0, 1, 36, true⟩, ⟨0, 128, 37, true⟩, ⟨786432, 103079215104, 38, true⟩, ⟨1048576, 137438953472, 39, true⟩, ⟨2097152, 274877906944, 40, true⟩, ⟨0, 1, 41, true⟩, ⟨0, 128, 42, true⟩, ⟨25165824, 3298534883328, 43, true⟩, ⟨33554432, 4398046511104, 44, true⟩, ⟨67108864, 8796093022208, 45, true⟩, ⟨0, 1, 46, true⟩, ⟨0, 128, 47, true⟩, ⟨805306368, 105553116266496, 48, true⟩, ⟨1073741824, 140737488355328, 49, true⟩, ⟨2147483648, 281474976710656, 50, true⟩, ⟨4433575936, 581109075148800, 51, false⟩, ⟨8590000128, 1125908496777216, 52, true⟩]), (7, [⟨0, 32, 55, true⟩, ⟨0, 64, 56, true⟩, ⟨0, 32, 57, true⟩, ⟨4, 72057594037927936, 58, false⟩, ⟨0, 64, 59, true⟩, ⟨16, 288230376151711744, 60, true⟩, ⟨32, 576460752303423488, 61, true⟩, ⟨64, 1152921504606846976, 62, true⟩, ⟨128, 2305843009213693952, 63, true⟩, ⟨264, 4755801206503243776, 64, true⟩, ⟨9, 18014398509481984, 3, false⟩, ⟨1027, 36028797018963968, 4, false⟩, ⟨4095, 9223372036854775808, 5, false⟩])]
def pl12 : List (Nat × List Stp) := [(6, [.q 0, .q 1, .q 2, .q 3, .q 4, .q 5, .q 6, .q 7, .q 8])]
def tb12 : List (Nat × List Ent) := [(6, [⟨0, 1, 18, true⟩, ⟨0, 32, 19, true⟩, ⟨3, 393216, 20, true⟩, ⟨4, 524288, 21, true⟩, ⟨0, 2, 22, true⟩, ⟨0, 32, 23, true⟩, ⟨48, 6291456, 24, true⟩, ⟨64, 8388608, 25, true⟩, ⟨136, 17825792, 26, true⟩])]
def pl23 : List (Nat × List Stp) := [(10, [.q 0, .q 1, .q 2, .q 3, .q 4, .q 5, .q 6, .q 7, .q 8, .q 9, .s 10 [] [3, 4, 9, 0, 1, 2, 5, 6, 7, 8]])]
def tb23 : List (Nat × List Ent) := [(10, [⟨0, 1, 57, true⟩, ⟨1, 72057594037927936, 58, true⟩, ⟨2, 144115188075855872, 59, true⟩, ⟨4, 288230376151711744, 60, true⟩, ⟨0, 2, 61, true⟩, ⟨0, 1, 62, true⟩, ⟨32, 2305843009213693952, 63, true⟩, ⟨64, 4611686018427387904, 64, true⟩, ⟨128, 9223372036854775808, 65, true⟩, ⟨256, 18446744073709551616, 66, true⟩, ⟨1023, 38622870404329373696, 0, false⟩])]
def pl26 : List (Nat × List Stp) := [(6, [.q 0, .q 1, .q 2, .q 3, .q 4, .q 5, .q 6, .q 7, .q 8])]
def tb26 : List (Nat × List Ent) := [(6, [⟨0, 1, 18, true⟩, ⟨0, 32, 19, true⟩, ⟨3, 393216, 20, true⟩, ⟨4, 524288, 21, true⟩, ⟨0, 2, 22, true⟩, ⟨0, 32, 23, true⟩, ⟨48, 6291456, 24, true⟩, ⟨64, 8388608, 25, true⟩, ⟨136, 17825792, 26, true⟩])]
def pl28 : List (Nat × List Stp) := [(9, [.q 0, .q 1, .q 2, .q 3, .q 4, .q 5, .q 6, .q 7, .q 8, .q 9, .q 10, .q 11, .s 12 [] [11, 1, 0, 2, 3, 4, 5, 6, 7, 8, 9, 10]])]
def tb28 : List (Nat × List Ent) := [(9, [⟨0, 256, 31, true⟩, ⟨1, 1073741824, 32, true⟩, ⟨2, 2147483650, 33, true⟩, ⟨2, 2147484160, 34, true⟩, ⟨14, 15032385536, 35, true⟩, ⟨18, 19327352832, 36, true⟩, ⟨2, 2147483650, 37, true⟩, ⟨2, 2147483712, 38, true⟩, ⟨194, 208305913856, 39, true⟩, ⟨258, 277025390592, 40, true⟩, ⟨546, 586263035904, 41, true⟩, ⟨1026, 1101659111424, 42, true⟩, ⟨4095, 2199023255552, 9, false⟩])]
def pl43 : List (Nat × List Stp) := [(6, [.q 0, .q 1, .q 2, .q 3, .q 4, .q 5, .q 6, .q 7, .q 8, .q 9]), (11, [.q 0, .q 1, .q 2, .q 3, .q 4, .q 5, .q 6, .q 7, .q 8, .q 9])]
def tb43 : List (Nat × List Ent) := [(6, [⟨0, 1, 17, true⟩, ⟨0, 8, 18, true⟩, ⟨3, 196608, 19, true⟩, ⟨4, 262144, 20, true⟩, ⟨0, 1, 21, true⟩, ⟨0, 8, 22, true⟩, ⟨32, 2097152, 23, true⟩, ⟨80, 5242880, 24, true⟩, ⟨128, 8388608, 25, true⟩, ⟨264, 17301504, 26, true⟩]), (11, [⟨0, 16, 36, true⟩, ⟨0, 32, 37, true⟩, ⟨3, 103079215104, 38, true⟩, ⟨4, 137438953472, 39, true⟩, ⟨0, 16, 40, true⟩, ⟨0, 32, 41, true⟩, ⟨32, 1099511627776, 42, true⟩, ⟨80, 2748779069440, 43, true⟩, ⟨128, 4398046511104, 44, true⟩, ⟨264, 9070970929152, 45, true⟩])]
end Go.Proofs.Ytpmhhbdfompbhaa
