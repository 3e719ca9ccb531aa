import Derived.Test.YtoakdmkjlpjahaaDoorRows
import Derived.Test.YtoakdmkjlpjahaaDoorMxR
import Derived.Test.YtoakdmkjlpjahaaDoorMxSd
import Derived.Test.YtoakdmkjlpjahaaDoorMxSk
import Derived.Lib.DecodeN
namespace Go.Proofs.YtoakdmkjlpjahaaDoor
open Go.Mx
theorem sz2 : szT Tryd.prog 2 = some 1 := by kernel_rfl
theorem ag2 : aggT Tryd.prog 2 = some false := by kernel_rfl
theorem tk2 : tkOf Tryd.prog 2 = .num := by kernel_rfl
theorem by2 : (Tryd.prog.info? 2).map (·.bytes) = some 8 := by kernel_rfl
theorem ze2 : zerosT Tryd.prog 2 = some [.v (.int .i64 0)] := by kernel_rfl
theorem sz3 : szT Tryd.prog 3 = some 1 := by kernel_rfl
theorem ag3 : aggT Tryd.prog 3 = some false := by kernel_rfl
theorem tk3 : tkOf Tryd.prog 3 = .num := by kernel_rfl
theorem by3 : (Tryd.prog.info? 3).map (·.bytes) = some 8 := by kernel_rfl
theorem ze3 : zerosT Tryd.prog 3 = some [.v (.int .i64 0)] := by kernel_rfl
theorem sz4 : szT Tryd.prog 4 = some 1 := by kernel_rfl
theorem ag4 : aggT Tryd.prog 4 = some false := by kernel_rfl
theorem tk4 : tkOf Tryd.prog 4 = .bool := by kernel_rfl
theorem by4 : (Tryd.prog.info? 4).map (·.bytes) = some 1 := by kernel_rfl
theorem ze4 : zerosT Tryd.prog 4 = some [.v (.bool false)] := by kernel_rfl
theorem sz5 : szT Tryd.prog 5 = some 1 := by kernel_rfl
theorem ag5 : aggT Tryd.prog 5 = some false := by kernel_rfl
theorem tk5 : tkOf Tryd.prog 5 = .num := by kernel_rfl
theorem by5 : (Tryd.prog.info? 5).map (·.bytes) = some 1 := by kernel_rfl
theorem ze5 : zerosT Tryd.prog 5 = some [.v (.int .u8 0)] := by kernel_rfl
theorem sz9 : szT Tryd.prog 9 = some 1 := by kernel_rfl
theorem ag9 : aggT Tryd.prog 9 = some false := by kernel_rfl
theorem tk9 : tkOf Tryd.prog 9 = .str := by kernel_rfl
theorem st9 : isStrTy Tryd.prog 9 = some true := by kernel_rfl
theorem by9 : (Tryd.prog.info? 9).map (·.bytes) = some 16 := by kernel_rfl
theorem ze9 : zerosT Tryd.prog 9 = some [.v (.string ⟨#[]⟩)] := by kernel_rfl
theorem sz12 : szT Tryd.prog 12 = some 1 := by kernel_rfl
theorem ag12 : aggT Tryd.prog 12 = some false := by kernel_rfl
theorem tk12 : tkOf Tryd.prog 12 = .num := by kernel_rfl
theorem by12 : (Tryd.prog.info? 12).map (·.bytes) = some 8 := by kernel_rfl
theorem ze12 : zerosT Tryd.prog 12 = some [.v (.int .u64 0)] := by kernel_rfl
theorem sz21 : szT Tryd.prog 21 = some 1 := by kernel_rfl
theorem ag21 : aggT Tryd.prog 21 = some false := by kernel_rfl
theorem tk21 : tkOf Tryd.prog 21 = .num := by kernel_rfl
theorem by21 : (Tryd.prog.info? 21).map (·.bytes) = some 4 := by kernel_rfl
theorem ze21 : zerosT Tryd.prog 21 = some [.v (.int .i32 0)] := by kernel_rfl
theorem sz23 : szT Tryd.prog 23 = some 1 := by kernel_rfl
theorem ag23 : aggT Tryd.prog 23 = some false := by kernel_rfl
theorem tk23 : tkOf Tryd.prog 23 = .slice := by kernel_rfl
theorem st23 : isStrTy Tryd.prog 23 = some false := by kernel_rfl
theorem by23 : (Tryd.prog.info? 23).map (·.bytes) = some 24 := by kernel_rfl
theorem ze23 : zerosT Tryd.prog 23 = some [.v (.slice none 0 0)] := by kernel_rfl
theorem sz27 : szT Tryd.prog 27 = some 1 := by kernel_rfl
theorem ag27 : aggT Tryd.prog 27 = some false := by kernel_rfl
theorem tk27 : tkOf Tryd.prog 27 = .slice := by kernel_rfl
theorem st27 : isStrTy Tryd.prog 27 = some false := by kernel_rfl
theorem by27 : (Tryd.prog.info? 27).map (·.bytes) = some 24 := by kernel_rfl
theorem ze27 : zerosT Tryd.prog 27 = some [.v (.slice none 0 0)] := by kernel_rfl
theorem sz29 : szT Tryd.prog 29 = some 1 := by kernel_rfl
theorem ag29 : aggT Tryd.prog 29 = some false := by kernel_rfl
theorem tk29 : tkOf Tryd.prog 29 = .ptr := by kernel_rfl
theorem by29 : (Tryd.prog.info? 29).map (·.bytes) = some 8 := by kernel_rfl
theorem ze29 : zerosT Tryd.prog 29 = some [.v (.pointer none)] := by kernel_rfl
theorem sz31 : szT Tryd.prog 31 = some 1 := by kernel_rfl
theorem ag31 : aggT Tryd.prog 31 = some false := by kernel_rfl
theorem tk31 : tkOf Tryd.prog 31 = .num := by kernel_rfl
theorem by31 : (Tryd.prog.info? 31).map (·.bytes) = some 8 := by kernel_rfl
theorem ze31 : zerosT Tryd.prog 31 = some [.v (.int .i64 0)] := by kernel_rfl
theorem sz34 : szT Tryd.prog 34 = some 5 := by kernel_rfl
theorem ag34 : aggT Tryd.prog 34 = some true := by kernel_rfl
theorem tk34 : tkOf Tryd.prog 34 = .other := by kernel_rfl
theorem by34 : (Tryd.prog.info? 34).map (·.bytes) = some 56 := by kernel_rfl
theorem ze34 : zerosT Tryd.prog 34 = some [.v (.int .i64 0), .v (.string ⟨#[]⟩), .v (.string ⟨#[]⟩), .v (.int .i64 0), .v (.int .i64 0)] := by kernel_rfl
theorem of34 : offsT Tryd.prog 34 = some [(0, 1), (1, 1), (2, 1), (3, 1), (4, 1)] := by kernel_rfl
theorem sz42 : szT Tryd.prog 42 = some 1 := by kernel_rfl
theorem ag42 : aggT Tryd.prog 42 = some false := by kernel_rfl
theorem tk42 : tkOf Tryd.prog 42 = .ptr := by kernel_rfl
theorem by42 : (Tryd.prog.info? 42).map (·.bytes) = some 8 := by kernel_rfl
theorem ze42 : zerosT Tryd.prog 42 = some [.v (.pointer none)] := by kernel_rfl
theorem sz43 : szT Tryd.prog 43 = some 1 := by kernel_rfl
theorem ag43 : aggT Tryd.prog 43 = some false := by kernel_rfl
theorem tk43 : tkOf Tryd.prog 43 = .slice := by kernel_rfl
theorem st43 : isStrTy Tryd.prog 43 = some false := by kernel_rfl
theorem by43 : (Tryd.prog.info? 43).map (·.bytes) = some 24 := by kernel_rfl
theorem ze43 : zerosT Tryd.prog 43 = some [.v (.slice none 0 0)] := by kernel_rfl
theorem sz45 : szT Tryd.prog 45 = some 1 := by kernel_rfl
theorem ag45 : aggT Tryd.prog 45 = some true := by kernel_rfl
theorem tk45 : tkOf Tryd.prog 45 = .other := by kernel_rfl
theorem by45 : (Tryd.prog.info? 45).map (·.bytes) = some 24 := by kernel_rfl
theorem ze45 : zerosT Tryd.prog 45 = some [.v (.slice none 0 0)] := by kernel_rfl
theorem of45 : offsT Tryd.prog 45 = some [(0, 1)] := by kernel_rfl
theorem sz48 : szT Tryd.prog 48 = some 1 := by kernel_rfl
theorem ag48 : aggT Tryd.prog 48 = some false := by kernel_rfl
theorem tk48 : tkOf Tryd.prog 48 = .map := by kernel_rfl
theorem by48 : (Tryd.prog.info? 48).map (·.bytes) = some 8 := by kernel_rfl
theorem ze48 : zerosT Tryd.prog 48 = some [.v (.map none)] := by kernel_rfl
theorem sz49 : szT Tryd.prog 49 = some 1 := by kernel_rfl
theorem ag49 : aggT Tryd.prog 49 = some false := by kernel_rfl
theorem tk49 : tkOf Tryd.prog 49 = .map := by kernel_rfl
theorem by49 : (Tryd.prog.info? 49).map (·.bytes) = some 8 := by kernel_rfl
theorem ze49 : zerosT Tryd.prog 49 = some [.v (.map none)] := by kernel_rfl
theorem sz51 : szT Tryd.prog 51 = some 3 := by kernel_rfl
theorem ag51 : aggT Tryd.prog 51 = some true := by kernel_rfl
theorem tk51 : tkOf Tryd.prog 51 = .other := by kernel_rfl
theorem by51 : (Tryd.prog.info? 51).map (·.bytes) = some 40 := by kernel_rfl
theorem ze51 : zerosT Tryd.prog 51 = some [.v (.map none), .v (.map none), .v (.slice none 0 0)] := by kernel_rfl
theorem of51 : offsT Tryd.prog 51 = some [(0, 1), (1, 1), (2, 1)] := by kernel_rfl
theorem sz52 : szT Tryd.prog 52 = some 1 := by kernel_rfl
theorem ag52 : aggT Tryd.prog 52 = some false := by kernel_rfl
theorem tk52 : tkOf Tryd.prog 52 = .slice := by kernel_rfl
theorem st52 : isStrTy Tryd.prog 52 = some false := by kernel_rfl
theorem by52 : (Tryd.prog.info? 52).map (·.bytes) = some 24 := by kernel_rfl
theorem ze52 : zerosT Tryd.prog 52 = some [.v (.slice none 0 0)] := by kernel_rfl
theorem sz53 : szT Tryd.prog 53 = some 1 := by kernel_rfl
theorem ag53 : aggT Tryd.prog 53 = some false := by kernel_rfl
theorem tk53 : tkOf Tryd.prog 53 = .slice := by kernel_rfl
theorem st53 : isStrTy Tryd.prog 53 = some false := by kernel_rfl
theorem by53 : (Tryd.prog.info? 53).map (·.bytes) = some 24 := by kernel_rfl
theorem ze53 : zerosT Tryd.prog 53 = some [.v (.slice none 0 0)] := by kernel_rfl
theorem sz56 : szT Tryd.prog 56 = some 2 := by kernel_rfl
theorem ag56 : aggT Tryd.prog 56 = some true := by kernel_rfl
theorem tk56 : tkOf Tryd.prog 56 = .other := by kernel_rfl
theorem by56 : (Tryd.prog.info? 56).map (·.bytes) = some 24 := by kernel_rfl
theorem ze56 : zerosT Tryd.prog 56 = some [.v (.string ⟨#[]⟩), .v (.bool false)] := by kernel_rfl
theorem of56 : offsT Tryd.prog 56 = some [(0, 1), (1, 1)] := by kernel_rfl
theorem sz57 : szT Tryd.prog 57 = some 1 := by kernel_rfl
theorem ag57 : aggT Tryd.prog 57 = some false := by kernel_rfl
theorem tk57 : tkOf Tryd.prog 57 = .slice := by kernel_rfl
theorem st57 : isStrTy Tryd.prog 57 = some false := by kernel_rfl
theorem by57 : (Tryd.prog.info? 57).map (·.bytes) = some 24 := by kernel_rfl
theorem ze57 : zerosT Tryd.prog 57 = some [.v (.slice none 0 0)] := by kernel_rfl
theorem sz60 : szT Tryd.prog 60 = some 2 := by kernel_rfl
theorem ag60 : aggT Tryd.prog 60 = some true := by kernel_rfl
theorem tk60 : tkOf Tryd.prog 60 = .other := by kernel_rfl
theorem by60 : (Tryd.prog.info? 60).map (·.bytes) = some 24 := by kernel_rfl
theorem ze60 : zerosT Tryd.prog 60 = some [.v (.string ⟨#[]⟩), .v (.bool false)] := by kernel_rfl
theorem of60 : offsT Tryd.prog 60 = some [(0, 1), (1, 1)] := by kernel_rfl
theorem sz62 : szT Tryd.prog 62 = some 2 := by kernel_rfl
theorem ag62 : aggT Tryd.prog 62 = some true := by kernel_rfl
theorem tk62 : tkOf Tryd.prog 62 = .other := by kernel_rfl
theorem by62 : (Tryd.prog.info? 62).map (·.bytes) = some 32 := by kernel_rfl
theorem ze62 : zerosT Tryd.prog 62 = some [.v (.int .i64 0), .v (.slice none 0 0)] := by kernel_rfl
theorem of62 : offsT Tryd.prog 62 = some [(0, 1), (1, 1)] := by kernel_rfl
theorem sz64 : szT Tryd.prog 64 = some 1 := by kernel_rfl
theorem ag64 : aggT Tryd.prog 64 = some false := by kernel_rfl
theorem tk64 : tkOf Tryd.prog 64 = .map := by kernel_rfl
theorem by64 : (Tryd.prog.info? 64).map (·.bytes) = some 8 := by kernel_rfl
theorem ze64 : zerosT Tryd.prog 64 = some [.v (.map none)] := by kernel_rfl
theorem sz65 : szT Tryd.prog 65 = some 1 := by kernel_rfl
theorem ag65 : aggT Tryd.prog 65 = some false := by kernel_rfl
theorem tk65 : tkOf Tryd.prog 65 = .map := by kernel_rfl
theorem by65 : (Tryd.prog.info? 65).map (·.bytes) = some 8 := by kernel_rfl
theorem ze65 : zerosT Tryd.prog 65 = some [.v (.map none)] := by kernel_rfl
theorem sz71 : szT Tryd.prog 71 = some 1 := by kernel_rfl
theorem ag71 : aggT Tryd.prog 71 = some false := by kernel_rfl
theorem tk71 : tkOf Tryd.prog 71 = .func := by kernel_rfl
theorem by71 : (Tryd.prog.info? 71).map (·.bytes) = some 8 := by kernel_rfl
theorem ze71 : zerosT Tryd.prog 71 = some [.v (.nilFunc)] := by kernel_rfl
theorem sz74 : szT Tryd.prog 74 = some 1 := by kernel_rfl
theorem ag74 : aggT Tryd.prog 74 = some false := by kernel_rfl
theorem tk74 : tkOf Tryd.prog 74 = .func := by kernel_rfl
theorem by74 : (Tryd.prog.info? 74).map (·.bytes) = some 8 := by kernel_rfl
theorem ze74 : zerosT Tryd.prog 74 = some [.v (.nilFunc)] := by kernel_rfl
theorem sz76 : szT Tryd.prog 76 = some 3 := by kernel_rfl
theorem ag76 : aggT Tryd.prog 76 = some true := by kernel_rfl
theorem tk76 : tkOf Tryd.prog 76 = .other := by kernel_rfl
theorem by76 : (Tryd.prog.info? 76).map (·.bytes) = some 40 := by kernel_rfl
theorem ze76 : zerosT Tryd.prog 76 = some [.v (.string ⟨#[]⟩), .v (.int .i64 0), .v (.string ⟨#[]⟩)] := by kernel_rfl
theorem of76 : offsT Tryd.prog 76 = some [(0, 1), (1, 1), (2, 1)] := by kernel_rfl
theorem sz79 : szT Tryd.prog 79 = some 1 := by kernel_rfl
theorem ag79 : aggT Tryd.prog 79 = some false := by kernel_rfl
theorem tk79 : tkOf Tryd.prog 79 = .ptr := by kernel_rfl
theorem by79 : (Tryd.prog.info? 79).map (·.bytes) = some 8 := by kernel_rfl
theorem ze79 : zerosT Tryd.prog 79 = some [.v (.pointer none)] := by kernel_rfl
theorem sz80 : szT Tryd.prog 80 = some 1 := by kernel_rfl
theorem ag80 : aggT Tryd.prog 80 = some false := by kernel_rfl
theorem tk80 : tkOf Tryd.prog 80 = .slice := by kernel_rfl
theorem st80 : isStrTy Tryd.prog 80 = some false := by kernel_rfl
theorem by80 : (Tryd.prog.info? 80).map (·.bytes) = some 24 := by kernel_rfl
theorem ze80 : zerosT Tryd.prog 80 = some [.v (.slice none 0 0)] := by kernel_rfl
theorem sz82 : szT Tryd.prog 82 = some 2 := by kernel_rfl
theorem ag82 : aggT Tryd.prog 82 = some true := by kernel_rfl
theorem tk82 : tkOf Tryd.prog 82 = .other := by kernel_rfl
theorem by82 : (Tryd.prog.info? 82).map (·.bytes) = some 32 := by kernel_rfl
theorem ze82 : zerosT Tryd.prog 82 = some [.v (.pointer none), .v (.slice none 0 0)] := by kernel_rfl
theorem of82 : offsT Tryd.prog 82 = some [(0, 1), (1, 1)] := by kernel_rfl
theorem sz92 : szT Tryd.prog 92 = some 1 := by kernel_rfl
theorem ag92 : aggT Tryd.prog 92 = some false := by kernel_rfl
theorem tk92 : tkOf Tryd.prog 92 = .num := by kernel_rfl
theorem by92 : (Tryd.prog.info? 92).map (·.bytes) = some 8 := by kernel_rfl
theorem ze92 : zerosT Tryd.prog 92 = some [.v (.int .u64 0)] := by kernel_rfl
theorem sz97 : szT Tryd.prog 97 = some 1 := by kernel_rfl
theorem ag97 : aggT Tryd.prog 97 = some false := by kernel_rfl
theorem tk97 : tkOf Tryd.prog 97 = .slice := by kernel_rfl
theorem st97 : isStrTy Tryd.prog 97 = some false := by kernel_rfl
theorem by97 : (Tryd.prog.info? 97).map (·.bytes) = some 24 := by kernel_rfl
theorem ze97 : zerosT Tryd.prog 97 = some [.v (.slice none 0 0)] := by kernel_rfl
theorem sz101 : szT Tryd.prog 101 = some 1 := by kernel_rfl
theorem ag101 : aggT Tryd.prog 101 = some false := by kernel_rfl
theorem tk101 : tkOf Tryd.prog 101 = .ptr := by kernel_rfl
theorem by101 : (Tryd.prog.info? 101).map (·.bytes) = some 8 := by kernel_rfl
theorem ze101 : zerosT Tryd.prog 101 = some [.v (.pointer none)] := by kernel_rfl
theorem sz112 : szT Tryd.prog 112 = some 1 := by kernel_rfl
theorem ag112 : aggT Tryd.prog 112 = some false := by kernel_rfl
theorem tk112 : tkOf Tryd.prog 112 = .num := by kernel_rfl
theorem by112 : (Tryd.prog.info? 112).map (·.bytes) = some 4 := by kernel_rfl
theorem ze112 : zerosT Tryd.prog 112 = some [.v (.int .u32 0)] := by kernel_rfl
theorem sz115 : szT Tryd.prog 115 = some 256 := by kernel_rfl
theorem ag115 : aggT Tryd.prog 115 = some true := by kernel_rfl
theorem tk115 : tkOf Tryd.prog 115 = .other := by kernel_rfl
theorem by115 : (Tryd.prog.info? 115).map (·.bytes) = some 256 := by kernel_rfl
theorem sz117 : szT Tryd.prog 117 = some 2 := by kernel_rfl
theorem ag117 : aggT Tryd.prog 117 = some true := by kernel_rfl
theorem tk117 : tkOf Tryd.prog 117 = .other := by kernel_rfl
theorem by117 : (Tryd.prog.info? 117).map (·.bytes) = some 2 := by kernel_rfl
theorem ze117 : zerosT Tryd.prog 117 = some [.v (.int .u8 0), .v (.int .u8 0)] := by kernel_rfl
theorem of117 : offsT Tryd.prog 117 = some [(0, 1), (1, 1)] := by kernel_rfl
theorem sz118 : szT Tryd.prog 118 = some 32 := by kernel_rfl
theorem ag118 : aggT Tryd.prog 118 = some true := by kernel_rfl
theorem tk118 : tkOf Tryd.prog 118 = .other := by kernel_rfl
theorem by118 : (Tryd.prog.info? 118).map (·.bytes) = some 32 := by kernel_rfl
theorem ze118 : zerosT Tryd.prog 118 = some [.v (.int .u8 0), .v (.int .u8 0), .v (.int .u8 0), .v (.int .u8 0), .v (.int .u8 0), .v (.int .u8 0), .v (.int .u8 0), .v (.int .u8 0), .v (.int .u8 0), .v (.int .u8 0), .v (.int .u8 0), .v (.int .u8 0), .v (.int .u8 0), .v (.int .u8 0), .v (.int .u8 0), .v (.int .u8 0), .v (.int .u8 0), .v (.int .u8 0), .v (.int .u8 0), .v (.int .u8 0), .v (.int .u8 0), .v (.int .u8 0), .v (.int .u8 0), .v (.int .u8 0), .v (.int .u8 0), .v (.int .u8 0), .v (.int .u8 0), .v (.int .u8 0), .v (.int .u8 0), .v (.int .u8 0), .v (.int .u8 0), .v (.int .u8 0)] := by kernel_rfl
theorem of118 : offsT Tryd.prog 118 = some [(0, 2), (2, 2), (4, 2), (6, 2), (8, 2), (10, 2), (12, 2), (14, 2), (16, 2), (18, 2), (20, 2), (22, 2), (24, 2), (26, 2), (28, 2), (30, 2)] := by kernel_rfl
theorem mo : Tryd.prog.follows .mixedOrders = true := by kernel_rfl
theorem ok3 : bodyOk Tryd.prog 3 = true := by kernel_rfl
theorem ok4 : bodyOk Tryd.prog 4 = true := by kernel_rfl
theorem ok5 : bodyOk Tryd.prog 5 = true := by kernel_rfl
theorem ok6 : bodyOk Tryd.prog 6 = true := by kernel_rfl
theorem ok7 : bodyOk Tryd.prog 7 = true := by kernel_rfl
theorem ok8 : bodyOk Tryd.prog 8 = true := by kernel_rfl
theorem ok9 : bodyOk Tryd.prog 9 = true := by kernel_rfl
theorem ok10 : bodyOk Tryd.prog 10 = true := by kernel_rfl
theorem ok11 : bodyOk Tryd.prog 11 = true := by kernel_rfl
theorem ok12 : bodyOk Tryd.prog 12 = true := by kernel_rfl
theorem ok13 : bodyOk Tryd.prog 13 = true := by kernel_rfl
theorem ok14 : bodyOk Tryd.prog 14 = true := by kernel_rfl
theorem ok15 : bodyOk Tryd.prog 15 = true := by kernel_rfl
theorem ok16 : bodyOk Tryd.prog 16 = true := by kernel_rfl
theorem ok17 : bodyOk Tryd.prog 17 = true := by kernel_rfl
theorem ok18 : bodyOk Tryd.prog 18 = true := by kernel_rfl
theorem ok19 : bodyOk Tryd.prog 19 = true := by kernel_rfl
theorem ok20 : bodyOk Tryd.prog 20 = true := by kernel_rfl
theorem ok21 : bodyOk Tryd.prog 21 = true := by kernel_rfl
theorem ok22 : bodyOk Tryd.prog 22 = true := by kernel_rfl
theorem ok23 : bodyOk Tryd.prog 23 = true := by kernel_rfl
theorem ok24 : bodyOk Tryd.prog 24 = true := by kernel_rfl
theorem ok25 : bodyOk Tryd.prog 25 = true := by kernel_rfl
theorem ok26 : bodyOk Tryd.prog 26 = true := by kernel_rfl
theorem ok27 : bodyOk Tryd.prog 27 = true := by kernel_rfl
theorem ok28 : bodyOk Tryd.prog 28 = true := by kernel_rfl
theorem ok29 : bodyOk Tryd.prog 29 = true := by kernel_rfl
theorem ok31 : bodyOk Tryd.prog 31 = true := by kernel_rfl
theorem ok32 : bodyOk Tryd.prog 32 = true := by kernel_rfl
theorem ok34 : bodyOk Tryd.prog 34 = true := by kernel_rfl
theorem ok35 : bodyOk Tryd.prog 35 = true := by kernel_rfl
theorem ok36 : bodyOk Tryd.prog 36 = true := by kernel_rfl
theorem ok37 : bodyOk Tryd.prog 37 = true := by kernel_rfl
theorem ok38 : bodyOk Tryd.prog 38 = true := by kernel_rfl
theorem ok39 : bodyOk Tryd.prog 39 = true := by kernel_rfl
theorem ok40 : bodyOk Tryd.prog 40 = true := by kernel_rfl
theorem ok41 : bodyOk Tryd.prog 41 = true := by kernel_rfl
theorem ok42 : bodyOk Tryd.prog 42 = true := by kernel_rfl
theorem ok44 : bodyOk Tryd.prog 44 = true := by kernel_rfl
theorem ok46 : bodyOk Tryd.prog 46 = true := by kernel_rfl
theorem ok47 : bodyOk Tryd.prog 47 = true := by kernel_rfl
theorem ok48 : bodyOk Tryd.prog 48 = true := by kernel_rfl
theorem ok49 : bodyOk Tryd.prog 49 = true := by kernel_rfl
theorem ok50 : bodyOk Tryd.prog 50 = true := by kernel_rfl
theorem ok51 : bodyOk Tryd.prog 51 = true := by kernel_rfl
theorem ok54 : bodyOk Tryd.prog 54 = true := by kernel_rfl
theorem ok57 : bodyOk Tryd.prog 57 = true := by kernel_rfl
theorem ok58 : bodyOk Tryd.prog 58 = true := by kernel_rfl
theorem ok59 : bodyOk Tryd.prog 59 = true := by kernel_rfl
theorem ok60 : bodyOk Tryd.prog 60 = true := by kernel_rfl
theorem ok63 : bodyOk Tryd.prog 63 = true := by kernel_rfl
theorem ok65 : bodyOk Tryd.prog 65 = true := by kernel_rfl
theorem ok78 : bodyOk Tryd.prog 78 = true := by kernel_rfl
def pl4 : List (Nat × List Stp) := [(7, [.q 0, .q 1, .q 2, .q 3, .q 4, .q 5, .q 6, .q 7, .q 8, .q 9, .q 10, .q 11, .q 12, .q 13, .q 14, .q 15, .s 16 [] [0, 5, 10, 15, 4, 9, 14, 3, 8, 13, 1, 2, 6, 7, 11, 12]]), (15, [.q 0, .q 1, .q 2, .q 3, .q 4, .q 5, .q 6, .q 7, .q 8, .q 9, .q 10, .q 11, .q 12, .q 13, .s 14 [] [13, 1, 0, 2, 3, 4, 5, 6, 7, 8, 9, 10, 11, 12]]), (17, [.q 0, .q 1, .q 2, .q 3, .q 4, .q 5, .q 6, .q 7, .q 8, .q 9, .q 10, .q 11, .q 12, .q 13, .q 14, .q 15, .s 16 [] [0, 5, 10, 15, 4, 9, 14, 3, 8, 13, 1, 2, 6, 7, 11, 12]])]
def tb4 : List (Nat × List Ent) := [(7, [⟨0, 128, 30, 1⟩, ⟨0, 1, 31, 1⟩, ⟨0, 512, 32, 1⟩, ⟨6, 3221225472, 33, 1⟩, ⟨8, 4294967296, 34, 1⟩, ⟨16, 8589934592, 35, 1⟩, ⟨0, 1, 36, 1⟩, ⟨0, 512, 37, 1⟩, ⟨192, 103079215104, 38, 1⟩, ⟨256, 137438953472, 39, 1⟩, ⟨512, 274877906944, 40, 1⟩, ⟨0, 1, 41, 1⟩, ⟨0, 512, 42, 1⟩, ⟨6144, 3298534883328, 43, 1⟩, ⟨8192, 4398046511104, 44, 1⟩, ⟨16384, 8796093022208, 45, 1⟩, ⟨33825, 18159658598400, 46, 0⟩]), (15, [⟨0, 2048, 59, 1⟩, ⟨1, 288230376151711744, 60, 1⟩, ⟨2, 576460752303423489, 61, 1⟩, ⟨2, 576460752303427584, 62, 1⟩, ⟨14, 4035225266123964416, 63, 1⟩, ⟨18, 5188146770730811392, 64, 1⟩, ⟨34, 9799832789158199296, 65, 1⟩, ⟨2, 576460752303423489, 66, 1⟩, ⟨2, 576460752303424512, 67, 1⟩, ⟨386, 111256925194560733184, 68, 1⟩, ⟨514, 148150413341979836416, 69, 1⟩, ⟨1026, 295724365931656249344, 70, 1⟩, ⟨2114, 609319015184718626816, 71, 1⟩, ⟨4098, 1181168081469714726912, 72, 1⟩, ⟨16383, 2361183241434822606848, 12, 0⟩]), (17, [⟨0, 256, 74, 1⟩, ⟨0, 1, 75, 1⟩, ⟨0, 1024, 76, 1⟩, ⟨6, 56668397794435742564352, 77, 1⟩, ⟨8, 75557863725914323419136, 78, 1⟩, ⟨16, 151115727451828646838272, 79, 1⟩, ⟨0, 1, 80, 1⟩, ⟨0, 1024, 81, 1⟩, ⟨192, 1813388729421943762059264, 82, 1⟩, ⟨256, 2417851639229258349412352, 83, 1⟩, ⟨512, 4835703278458516698824704, 84, 1⟩, ⟨0, 1, 85, 1⟩, ⟨0, 1024, 86, 1⟩, ⟨6144, 58028439341502200385896448, 87, 1⟩, ⟨8192, 77371252455336267181195264, 88, 1⟩, ⟨16384, 154742504910672534362390528, 89, 1⟩, ⟨33825, 319468092566131498706534400, 90, 0⟩])]
def pl6 : List (Nat × List Stp) := [(12, [.q 0, .q 1, .q 2, .q 3, .q 4, .q 5, .q 6, .q 8, .q 9, .q 10, .q 11, .q 12, .q 13, .q 14, .s 7 [8, 9, 10, 11, 12, 13, 14] [0, 2, 4, 6, 1, 3, 5], .s 15 [] [8, 10, 12, 14, 7, 9, 11, 13, 0, 2, 4, 6, 1, 3, 5], .q 16, .s 17 [] [16, 15, 0, 1, 2, 3, 4, 5, 6, 7, 8, 9, 10, 11, 12, 13, 14]]), (14, [.q 0, .q 1, .q 2, .q 4, .q 5, .q 6, .s 3 [4, 5, 6] [0, 2, 1], .s 7 [] [4, 6, 3, 5, 0, 2, 1], .q 8, .s 9 [] [8, 7, 0, 1, 2, 3, 4, 5, 6]]), (16, [.q 0, .q 1, .q 2, .q 3, .q 4, .q 6, .q 7, .q 8, .q 9, .q 10, .s 5 [6, 7, 8, 9, 10] [0, 2, 4, 1, 3], .s 11 [] [6, 8, 10, 5, 7, 9, 0, 2, 4, 1, 3], .s 12 [] [5, 11, 0, 2, 4, 6, 8, 10, 1, 3, 7, 9], .s 13 [] [12, 0, 1, 2, 3, 4, 5, 6, 7, 8, 9, 10, 11]]), (17, [.q 0, .q 1, .q 2, .q 3, .q 5, .q 6, .q 7, .q 8, .q 9, .s 4 [5, 6, 7, 8, 9] [3, 2, 1, 0], .q 10, .q 11, .q 12, .q 13, .q 14, .q 16, .q 17, .s 15 [16, 17] [13, 14, 12, 11, 4, 2, 10, 3, 1, 9, 0, 8, 7, 6, 5], .s 18 [] [16, 17, 15, 12, 13, 14, 11, 4, 2, 10, 3, 1, 9, 0, 8, 7, 6, 5], .q 19, .q 20])]
def tb6 : List (Nat × List Ent) := [(12, [⟨0, 32, 36, 1⟩, ⟨0, 256, 37, 1⟩, ⟨2, 68719476736, 38, 1⟩, ⟨0, 256, 39, 1⟩, ⟨8, 274877906944, 40, 1⟩, ⟨0, 256, 41, 1⟩, ⟨32, 1099511627776, 42, 1⟩, ⟨85, 2920577761280, 43, 0⟩, ⟨0, 64, 44, 1⟩, ⟨0, 256, 45, 1⟩, ⟨512, 17592186044416, 46, 1⟩, ⟨0, 256, 47, 1⟩, ⟨2048, 70368744177664, 48, 1⟩, ⟨0, 256, 49, 1⟩, ⟨8192, 281474976710656, 50, 1⟩, ⟨21888, 747667906887680, 51, 0⟩, ⟨32896, 1130297953353728, 52, 1⟩, ⟨131071, 2251799813685248, 10, 0⟩]), (14, [⟨0, 32, 55, 1⟩, ⟨0, 256, 56, 1⟩, ⟨2, 36028797018963968, 57, 1⟩, ⟨5, 90071992547409920, 58, 0⟩, ⟨0, 64, 59, 1⟩, ⟨0, 256, 60, 1⟩, ⟨32, 576460752303423488, 61, 1⟩, ⟨88, 1441151880758558720, 62, 0⟩, ⟨136, 2449958197289549824, 63, 1⟩, ⟨511, 4611686018427387904, 10, 0⟩]), (16, [⟨0, 32, 66, 1⟩, ⟨0, 256, 67, 1⟩, ⟨2, 73786976294838206464, 68, 1⟩, ⟨0, 256, 69, 1⟩, ⟨8, 295147905179352825856, 70, 1⟩, ⟨21, 774763251095801167872, 71, 0⟩, ⟨0, 64, 72, 1⟩, ⟨0, 256, 73, 1⟩, ⟨128, 4722366482869645213696, 74, 1⟩, ⟨0, 256, 75, 1⟩, ⟨512, 18889465931478580854784, 76, 1⟩, ⟨1376, 49584848070131274743808, 77, 0⟩, ⟨2080, 76738455346631734722560, 78, 0⟩, ⟨8191, 151115727451828646838272, 10, 0⟩]), (17, [⟨0, 512, 79, 1⟩, ⟨1, 302231454903657293676544, 80, 1⟩, ⟨2, 604462909807314587353088, 81, 1⟩, ⟨4, 1208925819614629174706208, 82, 1⟩, ⟨12, 3626777458843887524118528, 83, 0⟩, ⟨4, 1208925819614629174706240, 84, 1⟩, ⟨36, 10880332376531662572355584, 85, 1⟩, ⟨68, 20551738933448695970004992, 86, 1⟩, ⟨132, 39894552047282762765303808, 87, 1⟩, ⟨260, 78580178274950896355901440, 88, 1⟩, ⟨532, 160787134008745680235921408, 89, 1⟩, ⟨1028, 310693935640959697899487232, 90, 1⟩, ⟨2064, 618970019642690137449562112, 91, 1⟩, ⟨4096, 1237940039285380274899124256, 92, 1⟩, ⟨4096, 1237940039285380274899124226, 93, 1⟩, ⟨28672, 8665580274997661924293869568, 94, 0⟩, ⟨4096, 1237940039285380274899124288, 95, 1⟩, ⟨4096, 1237940039285380274899124226, 96, 1⟩, ⟨233472, 60659061924983633470057086976, 97, 0⟩, ⟨299008, 90369622867832760067636068352, 98, 1⟩, ⟨528384, 159694265067814055461987024896, 99, 1⟩])]
def pl7 : List (Nat × List Stp) := [(11, [.q 0, .q 1, .q 2, .q 3, .q 4, .q 5, .q 6, .s 7 [0, 1] [2, 6, 5, 3, 4], .s 8 [] [1, 7, 0, 2, 6, 5, 3, 4], .q 9])]
def tb7 : List (Nat × List Ent) := [(11, [⟨0, 16, 58, 1⟩, ⟨1, 144115188075855872, 59, 1⟩, ⟨0, 256, 60, 1⟩, ⟨0, 1024, 61, 1⟩, ⟨0, 2048, 62, 1⟩, ⟨24, 3458764513820540928, 63, 1⟩, ⟨32, 4611686018427387904, 64, 1⟩, ⟨68, 9799832789158199296, 65, 0⟩, ⟨130, 18734974449861263360, 66, 0⟩, ⟨256, 36893488147419103232, 67, 1⟩])]
def pl9 : List (Nat × List Stp) := [(6, [.q 0, .q 1, .q 2, .q 3, .q 4, .q 5, .q 6, .q 7, .q 8])]
def tb9 : List (Nat × List Ent) := [(6, [⟨0, 1, 18, 1⟩, ⟨0, 32, 19, 1⟩, ⟨3, 393216, 20, 1⟩, ⟨4, 524288, 21, 1⟩, ⟨0, 2, 22, 1⟩, ⟨0, 32, 23, 1⟩, ⟨48, 6291456, 24, 1⟩, ⟨64, 8388608, 25, 1⟩, ⟨136, 17825792, 26, 1⟩])]
def pl16 : List (Nat × List Stp) := [(4, [.q 0, .q 1, .q 2, .q 3, .s 4 [] [0, 3, 2, 1], .s 5 [] [4, 0, 1, 2, 3]])]
def tb16 : List (Nat × List Ent) := [(4, [⟨0, 8, 28, 1⟩, ⟨0, 128, 29, 1⟩, ⟨2, 268435456, 30, 1⟩, ⟨4, 536870912, 31, 1⟩, ⟨9, 1207959552, 32, 0⟩, ⟨31, 2147483648, 9, 0⟩])]
def pl18 : List (Nat × List Stp) := [(7, [.q 0, .q 1, .q 2, .q 3, .q 4, .q 5, .q 6, .q 7, .q 8, .q 9, .q 10, .q 11, .q 12, .q 13, .q 14, .q 15, .s 16 [] [0, 5, 10, 15, 4, 9, 14, 3, 8, 13, 1, 2, 6, 7, 11, 12]])]
def tb18 : List (Nat × List Ent) := [(7, [⟨0, 8, 20, 1⟩, ⟨0, 1, 21, 1⟩, ⟨0, 16, 22, 1⟩, ⟨6, 3145728, 23, 1⟩, ⟨8, 4194304, 24, 1⟩, ⟨16, 8388608, 25, 1⟩, ⟨0, 1, 26, 1⟩, ⟨0, 16, 27, 1⟩, ⟨192, 100663296, 28, 1⟩, ⟨256, 134217728, 29, 1⟩, ⟨512, 268435456, 30, 1⟩, ⟨0, 1, 31, 1⟩, ⟨0, 16, 32, 1⟩, ⟨6144, 3221225472, 33, 1⟩, ⟨8192, 4294967296, 34, 1⟩, ⟨16384, 8589934592, 35, 1⟩, ⟨33825, 17734041600, 36, 0⟩])]
def pl23 : List (Nat × List Stp) := [(4, [.q 0, .q 1, .q 2, .q 3, .q 4, .q 5, .q 6, .q 7, .q 9, .q 10, .q 11, .q 12, .q 13, .q 14, .q 15, .s 8 [0, 9, 10, 11, 12, 13, 14, 15] [1, 7, 5, 6, 4, 3, 2], .s 16 [0] [8, 15, 1, 7, 12, 14, 5, 6, 11, 13, 4, 10, 3, 9, 2], .q 17, .q 18, .s 19 [] [18, 16, 0, 1, 2, 3, 4, 5, 6, 7, 8, 9, 10, 11, 12, 13, 14, 15, 17]])]
def tb23 : List (Nat × List Ent) := [(4, [⟨0, 1, 12, 1⟩, ⟨0, 0, 13, 1⟩, ⟨0, 1, 14, 1⟩, ⟨4, 8192, 15, 1⟩, ⟨8, 16384, 16, 1⟩, ⟨16, 32768, 17, 1⟩, ⟨0, 32, 18, 1⟩, ⟨96, 196608, 19, 1⟩, ⟨130, 266240, 20, 0⟩, ⟨0, 1, 21, 1⟩, ⟨512, 1048576, 22, 1⟩, ⟨1024, 2097152, 23, 1⟩, ⟨2048, 4194304, 24, 1⟩, ⟨0, 32, 25, 1⟩, ⟨8192, 16777216, 26, 1⟩, ⟨20480, 41943040, 27, 1⟩, ⟨33024, 67633152, 28, 0⟩, ⟨131071, 2048, 29, 1⟩, ⟨262143, 268435456, 30, 1⟩, ⟨393215, 671088640, 0, 0⟩])]
def pl24 : List (Nat × List Stp) := [(12, [.q 0, .q 1, .q 2, .q 3, .q 4, .q 5, .q 6, .q 7, .q 8, .q 9, .q 10, .q 11, .q 12, .q 13, .s 14 [] [9, 13, 1, 8, 12, 0, 7, 10, 11, 5, 6, 4, 3, 2], .q 15, .s 16 [] [15, 14, 0, 1, 2, 3, 4, 5, 6, 7, 8, 9, 10, 11, 12, 13]]), (21, [.q 0, .q 1, .q 2, .q 3, .q 4, .q 5, .q 6, .q 7, .q 8, .q 9, .q 10, .q 11, .q 12, .q 13, .q 14, .q 15, .q 16, .q 17, .q 18, .q 19, .q 20, .q 21, .q 22, .q 23, .q 24, .q 25, .q 26, .q 27, .q 28, .q 29, .q 30, .q 31, .q 32, .q 33, .q 34, .q 35, .q 36]), (24, [.q 0, .q 1, .q 2, .q 3, .q 5, .q 6, .q 7, .q 8, .s 4 [5, 6, 7, 8] [0, 3, 1, 2], .s 9 [] [4, 8, 0, 3, 5, 7, 1, 2, 6], .s 10 [] [9, 0, 1, 2, 3, 4, 5, 6, 7, 8]])]
def tb24 : List (Nat × List Ent) := [(12, [⟨0, 1024, 36, 1⟩, ⟨1, 34359738368, 37, 1⟩, ⟨2, 68719476737, 38, 1⟩, ⟨6, 206158430208, 39, 1⟩, ⟨10, 343597383680, 40, 1⟩, ⟨18, 618475290624, 41, 1⟩, ⟨2, 68719477248, 42, 1⟩, ⟨98, 3367254360064, 43, 1⟩, ⟨130, 4466765987840, 44, 1⟩, ⟨258, 8864812498944, 45, 1⟩, ⟨2, 68719476864, 46, 1⟩, ⟨2, 68719478784, 47, 1⟩, ⟨3074, 105621835743232, 48, 1⟩, ⟨4098, 140806207832064, 49, 1⟩, ⟨8706, 299135882231808, 50, 0⟩, ⟨16386, 563018672898048, 51, 1⟩, ⟨65535, 1125899906842624, 11, 0⟩]), (21, [⟨0, 256, 78, 1⟩, ⟨0, 16384, 79, 1⟩, ⟨3, 453347182355485940514816, 80, 1⟩, ⟨4, 604462909807314587353088, 81, 1⟩, ⟨8, 1208925819614629174706176, 82, 1⟩, ⟨0, 256, 83, 1⟩, ⟨0, 8192, 84, 1⟩, ⟨96, 14507109835375550096474112, 85, 1⟩, ⟨128, 19342813113834066795298816, 86, 1⟩, ⟨256, 38685626227668133590597632, 87, 1⟩, ⟨528, 79789104094565525530607616, 88, 1⟩, ⟨1024, 154742504910672534362390528, 89, 1⟩, ⟨2048, 309485009821345068724781312, 90, 1⟩, ⟨2048, 309485009821345068724797440, 91, 1⟩, ⟨14336, 2166395068749415481073467392, 92, 1⟩, ⟨18432, 2785365088392105618523029504, 93, 1⟩, ⟨34816, 5261245166962866168321277952, 94, 1⟩, ⟨2048, 309485009821345068724781312, 95, 1⟩, ⟨2048, 309485009821345068724789248, 96, 1⟩, ⟨395264, 59730606895519598263882743808, 97, 1⟩, ⟨526336, 79537647524085682662268731392, 98, 1⟩, ⟨1050624, 158765810038350020255812681728, 99, 1⟩, ⟨2164736, 327125655381161737642093576192, 100, 1⟩, ⟨4196352, 634134785123936045817076383744, 101, 1⟩, ⟨8388608, 1267650600228229401496703205632, 102, 1⟩, ⟨8388608, 1267650600228229401496703221760, 103, 1⟩, ⟨58720256, 8873554201597605810476922437632, 104, 1⟩, ⟨75497472, 11408855402054064613470328848384, 105, 1⟩, ⟨142606336, 21550060203879899825443954491392, 106, 1⟩, ⟨8388608, 1267650600228229401496703205632, 107, 1⟩, ⟨8388608, 1267650600228229401496703213568, 108, 1⟩, ⟨1619001344, 244656565844048274488863718637568, 109, 1⟩, ⟨2155872256, 325786204258654956184652723781632, 110, 1⟩, ⟨4303355904, 650304757917081682967808744357888, 111, 1⟩, ⟨8866758656, 1339906684441238477382015288082432, 112, 1⟩, ⟨17188259840, 2597416389352651865011813592596480, 113, 1⟩, ⟨34359740416, 5192297168019837449875565054001152, 114, 1⟩]), (24, [⟨0, 0, 124, 1⟩, ⟨0, 256, 125, 1⟩, ⟨0, 8192, 126, 1⟩, ⟨6, 63802943797675961899382738893456539648, 127, 1⟩, ⟨9, 95704415696513942849074108340184809472, 128, 0⟩, ⟨0, 256, 129, 1⟩, ⟨0, 8192, 130, 1⟩, ⟨64, 680564733841876926926749214863536422912, 131, 1⟩, ⟨160, 1701411834604692317316873037158841057280, 132, 1⟩, ⟨272, 2892400118827976939438684163170029797376, 133, 0⟩, ⟨1023, 5444517870735015415413993718908291383296, 9, 0⟩])]
def pl31 : List (Nat × List Stp) := [(2, [.q 0, .q 1, .q 2, .q 3, .q 4, .q 5, .s 6 [] [3, 5, 2, 4, 1, 0], .q 7, .q 8, .q 9, .s 10 [9] [8, 6, 0, 1, 2, 3, 4, 5, 7], .s 11 [] [9, 10, 0, 1, 2, 3, 4, 5, 6, 7, 8]])]
def tb31 : List (Nat × List Ent) := [(2, [⟨0, 1, 14, 1⟩, ⟨1, 8192, 15, 1⟩, ⟨2, 16384, 16, 1⟩, ⟨4, 32768, 17, 1⟩, ⟨0, 8, 18, 1⟩, ⟨16, 131072, 19, 1⟩, ⟨40, 327680, 20, 0⟩, ⟨64, 524288, 13, 1⟩, ⟨128, 4096, 21, 1⟩, ⟨128, 4096, 22, 1⟩, ⟨511, 1048576, 7, 0⟩, ⟨2047, 2097152, 8, 0⟩])]
def pl34 : List (Nat × List Stp) := [(1, [.q 0, .q 1, .q 2, .q 3, .q 4, .q 5, .q 6, .q 7, .q 8, .q 9, .q 10, .q 11, .q 12, .q 13, .q 15, .q 16, .s 14 [15, 16] [6, 13, 5, 12, 3, 4, 10, 11, 2, 9, 1, 8, 0, 7], .s 17 [] [15, 16, 14, 6, 13, 5, 12, 3, 4, 10, 11, 2, 9, 1, 8, 0, 7], .q 18, .s 19 [] [18, 17, 14, 15, 16, 6, 13, 5, 12, 3, 4, 10, 11, 2, 9, 1, 8, 0, 7], .s 20 [] [19, 0, 1, 2, 3, 4, 5, 6, 7, 8, 9, 10, 11, 12, 13, 14, 15, 16, 17, 18]])]
def tb34 : List (Nat × List Ent) := [(1, [⟨0, 4, 7, 1⟩, ⟨1, 64, 8, 1⟩, ⟨2, 128, 9, 1⟩, ⟨4, 256, 10, 1⟩, ⟨0, 2, 11, 1⟩, ⟨24, 1536, 12, 1⟩, ⟨32, 2048, 13, 1⟩, ⟨0, 4, 14, 1⟩, ⟨128, 8192, 15, 1⟩, ⟨256, 16384, 16, 1⟩, ⟨512, 32768, 17, 1⟩, ⟨0, 1, 18, 1⟩, ⟨3072, 196608, 19, 1⟩, ⟨4096, 262144, 20, 1⟩, ⟨8256, 528384, 21, 0⟩, ⟨0, 2, 22, 1⟩, ⟨0, 1, 23, 1⟩, ⟨114688, 6291456, 24, 0⟩, ⟨147456, 9437184, 25, 1⟩, ⟨393216, 16777216, 26, 0⟩, ⟨1048575, 33554432, 6, 0⟩])]
def pl39 : List (Nat × List Stp) := [(5, [.q 0, .q 1, .q 2, .q 3, .q 4, .q 5, .s 6 [] [2, 5, 0, 1, 3, 4], .s 7 [] [6, 0, 1, 2, 3, 4, 5]])]
def tb39 : List (Nat × List Ent) := [(5, [⟨0, 1, 21, 1⟩, ⟨0, 2, 22, 1⟩, ⟨3, 3145728, 23, 1⟩, ⟨0, 1, 24, 1⟩, ⟨0, 4, 25, 1⟩, ⟨24, 25165824, 26, 1⟩, ⟨36, 37748736, 27, 0⟩, ⟨127, 67108864, 1, 0⟩])]
def pl40 : List (Nat × List Stp) := [(5, [.q 0, .q 1, .q 2, .q 3, .q 4, .s 5 [] [0, 4, 3, 1, 2]])]
def tb40 : List (Nat × List Ent) := [(5, [⟨0, 8, 16, 1⟩, ⟨0, 32, 17, 1⟩, ⟨0, 64, 18, 1⟩, ⟨6, 196608, 19, 1⟩, ⟨8, 262144, 20, 1⟩, ⟨17, 557056, 21, 0⟩])]
def pl59 : List (Nat × List Stp) := [(1, [.q 0, .q 1, .q 2, .q 3, .q 4, .q 5, .q 6, .q 7, .q 8, .q 9, .q 10, .q 11, .q 12, .q 13, .q 14, .q 15, .q 16, .q 17, .q 18, .q 19, .q 20, .q 21, .q 22, .q 23, .q 24, .q 25, .s 26 [] [25, 15, 0, 1, 2, 3, 4, 5, 6, 7, 8, 9, 10, 11, 12, 13, 14, 16, 17, 18, 19, 20, 21, 22, 23, 24]])]
def tb59 : List (Nat × List Ent) := [(1, [⟨0, 4, 6, 1⟩, ⟨1, 32, 7, 1⟩, ⟨0, 2, 8, 1⟩, ⟨6, 192, 9, 1⟩, ⟨8, 256, 10, 1⟩, ⟨16, 516, 11, 1⟩, ⟨48, 1536, 12, 1⟩, ⟨80, 2560, 13, 1⟩, ⟨128, 4098, 14, 1⟩, ⟨384, 12288, 15, 1⟩, ⟨128, 4100, 16, 1⟩, ⟨1152, 36864, 17, 1⟩, ⟨2176, 69632, 18, 1⟩, ⟨4736, 151552, 19, 1⟩, ⟨8336, 266752, 20, 1⟩, ⟨16528, 524800, 21, 1⟩, ⟨32768, 1048578, 22, 1⟩, ⟨32768, 1048580, 23, 1⟩, ⟨163840, 5242880, 24, 1⟩, ⟨294912, 9437184, 25, 1⟩, ⟨622592, 19922944, 26, 1⟩, ⟨32768, 1048580, 27, 1⟩, ⟨2129920, 68157440, 28, 1⟩, ⟨5275648, 168820736, 29, 1⟩, ⟨8421392, 269484544, 30, 1⟩, ⟨16777232, 536871424, 31, 1⟩, ⟨67108863, 1073741824, 5, 0⟩])]
end Go.Proofs.YtoakdmkjlpjahaaDoor

namespace Go.Proofs.YtoakdmkjlpjahaaDoor
open Go.Mx
set_option linter.unusedVariables false
set_option linter.unusedSimpArgs false
set_option linter.unnecessarySimpa false
set_option maxRecDepth 100000

/-- What the first byte of a text in UTF-8 says of the text. -/
def firstN : List Nat := List.replicate 128 240 ++ List.replicate 66 241 ++ List.replicate 30 2 ++ [19] ++ List.replicate 12 3 ++ [35] ++ List.replicate 2 3 ++ [52] ++ List.replicate 3 4 ++ [68] ++ List.replicate 11 241
def acceptN : List Nat := [128, 191, 160, 191, 128, 159, 144, 191, 128, 143] ++ List.replicate 22 0
def firstT : List Value := firstN.map fun n => .int .u8 (n : Nat)
def acceptT : List Value := acceptN.map fun n => .int .u8 (n : Nat)
/-- The heap holds the two tables. -/
def Tb (H : Hp) : Prop := H[0]? = some (.tab 0 firstT) ∧ H[1]? = some (.tab 1 acceptT)
theorem Tb.same {H H' : Hp} (h : Tb H) (hs : Same [] H H') : Tb H' := ⟨hs.2 _ _ h.1 (by simp), hs.2 _ _ h.2 (by simp)⟩

/-- The ways of a first byte from 128 on: its row's entry, how many bytes, and between what the second one lies. -/
def Way (c x sz ai lo hi : Nat) : Prop := (sz = 2 ∧ lo = 128 ∧ hi = 191 ∧ x = 2 ∧ ai = 0 ∧ 194 ≤ c ∧ c ≤ 223) ∨ (sz = 3 ∧ lo = 160 ∧ hi = 191 ∧ x = 19 ∧ ai = 1 ∧ c = 224) ∨ (sz = 3 ∧ lo = 128 ∧ hi = 191 ∧ x = 3 ∧ ai = 0 ∧ ((225 ≤ c ∧ c ≤ 236) ∨ (238 ≤ c ∧ c ≤ 239))) ∨ (sz = 3 ∧ lo = 128 ∧ hi = 159 ∧ x = 35 ∧ ai = 2 ∧ c = 237) ∨
  (sz = 4 ∧ lo = 144 ∧ hi = 191 ∧ x = 52 ∧ ai = 3 ∧ c = 240) ∨ (sz = 4 ∧ lo = 128 ∧ hi = 191 ∧ x = 4 ∧ ai = 0 ∧ 241 ≤ c ∧ c ≤ 243) ∨ (sz = 4 ∧ lo = 128 ∧ hi = 143 ∧ x = 68 ∧ ai = 4 ∧ c = 244)
instance (c x sz ai lo hi : Nat) : Decidable (Way c x sz ai lo hi) := by unfold Way; infer_instance
/-- The ways, listed. -/
def waysN : List (Nat × Nat × Nat × Nat × Nat) := [(2, 2, 0, 128, 191), (19, 3, 1, 160, 191), (3, 3, 0, 128, 191), (35, 3, 2, 128, 159), (52, 4, 3, 144, 191), (4, 4, 0, 128, 191), (68, 4, 4, 128, 143)]
theorem firstN_at : ∀ i : Nat, i < 256 → 128 ≤ i → (firstN[i]? = some 241 ∧ (i ≤ 193 ∨ 245 ≤ i)) ∨ ∃ w ∈ waysN, firstN[i]? = some w.1 ∧ Way i w.1 w.2.1 w.2.2.1 w.2.2.2.1 w.2.2.2.2 := by decide
theorem firstT_at {i x : Nat} (h : firstN[i]? = some x) : (firstT.map AV.v)[i]? = some (.v (.int .u8 x)) := by
  simp only [firstT, List.getElem?_map, h]; rfl
theorem indexStr_tx1 (c b : UInt8) (l : List UInt8) (k : IntKind) : indexStr (.v (.string (tx (c :: b :: l)))) (.v (.int k 1)) = some (u8A b) := indexStr_tx (c :: b :: l) k 1 (by simp)
theorem indexStr_tx2 (c b d : UInt8) (l : List UInt8) (k : IntKind) : indexStr (.v (.string (tx (c :: b :: d :: l)))) (.v (.int k 2)) = some (u8A d) := indexStr_tx (c :: b :: d :: l) k 2 (by simp)
theorem indexStr_tx3 (c b d e : UInt8) (l : List UInt8) (k : IntKind) : indexStr (.v (.string (tx (c :: b :: d :: e :: l)))) (.v (.int k 3)) = some (u8A e) := indexStr_tx (c :: b :: d :: e :: l) k 3 (by simp)
/-- What a text's first rune is, and how many bytes it takes. -/
def dec (l : List UInt8) : Nat × Nat := if l = [] then (65533, 0) else Utf8.decode (tx l) 0
theorem get_tx (l : List UInt8) (i : Nat) : ((tx l).get! i).toNat = (l.getD i 0).toNat := by
  have : (tx l).get! i = l.getD i 0 := by
    show (l.toArray)[i]! = _
    rw [List.getElem!_toArray, List.getD_eq_getElem?_getD]
    rw [List.getElem!_eq_getElem?_getD]; rfl
  rw [this]
theorem dec_cons (c : UInt8) (l : List UInt8) : dec (c :: l) = Go.Lib.decodeN (l.length + 1) c.toNat (l.getD 0 0).toNat (l.getD 1 0).toNat (l.getD 2 0).toNat := by
  unfold dec
  rw [if_neg (by simp), Go.Lib.decode_at]
  simp only [get_tx, tx_size, List.length_cons, Nat.sub_zero, Nat.zero_add]
  rfl
theorem pick6 (c b : UInt8) : orI .i32 (shlI .i32 (IntKind.i32.wrap (andI .u8 (c.toNat : Int) 31)) 6) (IntKind.i32.wrap (andI .u8 (b.toNat : Int) 63)) = ((c.toNat % 32 * 64 + b.toNat % 64 : Nat) : Int) := by
  have h1 := UInt8.toNat_lt c
  have h2 := UInt8.toNat_lt b
  rw [andI_u8 _ 31 5 (by omega) (by rfl) (by omega), andI_u8 _ 63 6 (by omega) (by rfl) (by omega)]
  rw [wr_i32 (x := (c.toNat : Int) % 2 ^ 5) (by omega), wr_i32 (x := (b.toNat : Int) % 2 ^ 6) (by omega)]
  rw [show (6 : Int) = ((6 : Nat) : Int) from rfl, shlI_eq _ _ _ (by decide), wr_i32 (by omega)]
  rw [orI_i32 _ _ 6 ((c.toNat : Int) % 2 ^ 5) rfl (by omega) (by omega) (by omega) (by omega)]
  omega
theorem pick12 (c b d : UInt8) : orI .i32 (orI .i32 (shlI .i32 (IntKind.i32.wrap (andI .u8 (c.toNat : Int) 15)) 12) (shlI .i32 (IntKind.i32.wrap (andI .u8 (b.toNat : Int) 63)) 6)) (IntKind.i32.wrap (andI .u8 (d.toNat : Int) 63)) = ((c.toNat % 16 * 4096 + b.toNat % 64 * 64 + d.toNat % 64 : Nat) : Int) := by
  have h1 := UInt8.toNat_lt c
  have h2 := UInt8.toNat_lt b
  have h3 := UInt8.toNat_lt d
  rw [andI_u8 _ 15 4 (by omega) (by rfl) (by omega), andI_u8 (b.toNat : Int) 63 6 (by omega) (by rfl) (by omega), andI_u8 (d.toNat : Int) 63 6 (by omega) (by rfl) (by omega)]
  rw [wr_i32 (x := (c.toNat : Int) % 2 ^ 4) (by omega), wr_i32 (x := (b.toNat : Int) % 2 ^ 6) (by omega), wr_i32 (x := (d.toNat : Int) % 2 ^ 6) (by omega)]
  rw [show (6 : Int) = ((6 : Nat) : Int) from rfl, show (12 : Int) = ((12 : Nat) : Int) from rfl, shlI_eq _ _ _ (by decide), shlI_eq _ _ _ (by decide), wr_i32 (x := (c.toNat : Int) % 2 ^ 4 * 2 ^ 12) (by omega), wr_i32 (x := (b.toNat : Int) % 2 ^ 6 * 2 ^ 6) (by omega)]
  rw [orI_i32 _ _ 12 ((c.toNat : Int) % 2 ^ 4) rfl (by omega) (by omega) (by omega) (by omega)]
  rw [orI_i32 _ _ 6 ((c.toNat : Int) % 2 ^ 4 * 64 + (b.toNat : Int) % 2 ^ 6) (by omega) (by omega) (by omega) (by omega) (by omega)]
  omega
theorem pick18 (c b d e : UInt8) : orI .i32 (orI .i32 (orI .i32 (shlI .i32 (IntKind.i32.wrap (andI .u8 (c.toNat : Int) 7)) 18) (shlI .i32 (IntKind.i32.wrap (andI .u8 (b.toNat : Int) 63)) 12)) (shlI .i32 (IntKind.i32.wrap (andI .u8 (d.toNat : Int) 63)) 6)) (IntKind.i32.wrap (andI .u8 (e.toNat : Int) 63)) = ((c.toNat % 8 * 262144 + b.toNat % 64 * 4096 + d.toNat % 64 * 64 + e.toNat % 64 : Nat) : Int) := by
  have h1 := UInt8.toNat_lt c
  have h2 := UInt8.toNat_lt b
  have h3 := UInt8.toNat_lt d
  have h4 := UInt8.toNat_lt e
  rw [andI_u8 _ 7 3 (by omega) (by rfl) (by omega), andI_u8 (b.toNat : Int) 63 6 (by omega) (by rfl) (by omega), andI_u8 (d.toNat : Int) 63 6 (by omega) (by rfl) (by omega), andI_u8 (e.toNat : Int) 63 6 (by omega) (by rfl) (by omega)]
  rw [wr_i32 (x := (c.toNat : Int) % 2 ^ 3) (by omega), wr_i32 (x := (b.toNat : Int) % 2 ^ 6) (by omega), wr_i32 (x := (d.toNat : Int) % 2 ^ 6) (by omega), wr_i32 (x := (e.toNat : Int) % 2 ^ 6) (by omega)]
  rw [show (6 : Int) = ((6 : Nat) : Int) from rfl, show (12 : Int) = ((12 : Nat) : Int) from rfl, show (18 : Int) = ((18 : Nat) : Int) from rfl, shlI_eq _ _ _ (by decide), shlI_eq _ _ _ (by decide), shlI_eq _ _ _ (by decide), wr_i32 (x := (c.toNat : Int) % 2 ^ 3 * 2 ^ 18) (by omega), wr_i32 (x := (b.toNat : Int) % 2 ^ 6 * 2 ^ 12) (by omega), wr_i32 (x := (d.toNat : Int) % 2 ^ 6 * 2 ^ 6) (by omega)]
  rw [orI_i32 _ _ 18 ((c.toNat : Int) % 2 ^ 3) rfl (by omega) (by omega) (by omega) (by omega)]
  rw [orI_i32 ((c.toNat : Int) % 2 ^ 3 * 2 ^ 18 + (b.toNat : Int) % 2 ^ 6 * 2 ^ 12) ((d.toNat : Int) % 2 ^ 6 * 2 ^ 6) 12 ((c.toNat : Int) % 2 ^ 3 * 64 + (b.toNat : Int) % 2 ^ 6) (by omega) (by omega) (by omega) (by omega) (by omega)]
  rw [orI_i32 _ _ 6 ((c.toNat : Int) % 2 ^ 3 * 4096 + (b.toNat : Int) % 2 ^ 6 * 64 + (d.toNat : Int) % 2 ^ 6) (by omega) (by omega) (by omega) (by omega) (by omega)]
  omega

theorem slow_A (c  : UInt8) (l : List UInt8) (x sz ai lo hi : Nat) (hx : (firstT.map AV.v)[c.toNat]? = some (.v (.int .u8 x))) (h240 : ((240 : Int) ≤ (x : Int)) = False) (hs : shrI .u8 (x : Int) 4 = (ai : Int)) (hai : ((ai : Int) < 16) = True) (hsz : IntKind.i64.wrap (andI .u8 (x : Int) 7) = (sz : Int)) (htk : ((acceptT.map AV.v).drop (ai * 2)).take 2 = [.v (.int .u8 (lo : Nat)), .v (.int .u8 (hi : Nat))]) (hle : (ai * 2 + 2 ≤ acceptT.length) = True) (hlen : ((l.length : Int) + 1 < (sz : Int)) = True) (H : Hp) (hT : Tb H) : Sp Tryd.prog 60 [.v (.string (tx (c :: l)))] (fun v H' => v = .tup [.v (.int .i32 (65533 : Nat)), .v (.int .i64 (1 : Nat))] ∧ H' = H) H := by
  have hc : ((c.toNat : Int) < 256) = True := eq_true (by have := UInt8.toNat_lt c; omega)
  have hc0 : ((0 : Int) ≤ (c.toNat : Int)) = True := eq_true (by omega)
  have ha0 : ((0 : Int) ≤ (ai : Int)) = True := eq_true (by omega)
  have hl : ((l.length : Int) + 1 < 1) = False := eq_false (by omega)
  refine Sp.body [] ⟨[9], [], []⟩ [] mo Tryd.func60 rfl (Nat.le_of_ble_eq_true rfl) (by kernel_rfl) ?_
  simp [ev_skip, ev_seq, ev_cond2, ev_ret, ev_region2, evOps_nil, evOps_cons, opG_none, opA_move, opA_assign, opA_bin, opA_load, opA_index, opA_indexAddr, opA_len, opA_alloc, opA_store, opA_convert, putO_some, putH_lt, putU_none, condB_true, condB_false, binT_some, binA, avO_some, loadT, lenT_str, indexT, indexAddrT, allocT, storeT, convV, convT, io_shr, io_and, io_lss, io_geq, opS, opV, Go.Mx.look, fr0, argSlots, seqK, Fr.known, Fr.newBox, dropBp, retK, retA, resA, mapO, convInt, cellsA_agg, okPart_agg, partA, loadA, loadS, newK, storeS, orO_some, eqT_some, indexTabA, tabO, tk3, Tryd.underlying3, sz5, ag5, tk5, Tryd.underlying5, Tryd.underlying9, Tryd.underlying115, sz117, ag117, ze117, Tryd.underlying118, tx_size, u8A, splice, hl, hc, hc0, hT.1, hT.2, hx, indexStr_tx0, h240, hs, hai, ha0, hsz, htk, hle, hlen]

theorem slow_B1 (c b : UInt8) (l : List UInt8) (x sz ai lo hi : Nat) (hx : (firstT.map AV.v)[c.toNat]? = some (.v (.int .u8 x))) (h240 : ((240 : Int) ≤ (x : Int)) = False) (hs : shrI .u8 (x : Int) 4 = (ai : Int)) (hai : ((ai : Int) < 16) = True) (hsz : IntKind.i64.wrap (andI .u8 (x : Int) 7) = (sz : Int)) (htk : ((acceptT.map AV.v).drop (ai * 2)).take 2 = [.v (.int .u8 (lo : Nat)), .v (.int .u8 (hi : Nat))]) (hle : (ai * 2 + 2 ≤ acceptT.length) = True) (hlen : ((l.length : Int) + 1 + 1 < (sz : Int)) = False) (hb : ((b.toNat : Int) < (lo : Int)) = True) (H : Hp) (hT : Tb H) : Sp Tryd.prog 60 [.v (.string (tx (c :: b :: l)))] (fun v H' => v = .tup [.v (.int .i32 (65533 : Nat)), .v (.int .i64 (1 : Nat))] ∧ H' = H) H := by
  have hc : ((c.toNat : Int) < 256) = True := eq_true (by have := UInt8.toNat_lt c; omega)
  have hc0 : ((0 : Int) ≤ (c.toNat : Int)) = True := eq_true (by omega)
  have ha0 : ((0 : Int) ≤ (ai : Int)) = True := eq_true (by omega)
  have hl : ((l.length : Int) + 1 + 1 < 1) = False := eq_false (by omega)
  refine Sp.body [] ⟨[9], [], []⟩ [] mo Tryd.func60 rfl (Nat.le_of_ble_eq_true rfl) (by kernel_rfl) ?_
  simp [ev_skip, ev_seq, ev_cond2, ev_ret, ev_region2, evOps_nil, evOps_cons, opG_none, opG_some, opJ, opU_ff, isU_bool, opA_move, opA_assign, opA_pick, opA_bin, opA_load, opA_index, opA_indexAddr, opA_fieldAddr, opA_len, opA_alloc, opA_store, opA_convert, putO_some, putH_lt, putU_none, putV_lt, condB_true, condB_false, binT_some, binA, avO_some, pickT, loadT, lenT_str, fieldAddrT, indexT, indexAddrT, allocT, storeT, convV, convT, io_shr, io_and, io_lss, io_geq, opS, opV, Go.Mx.look, fr0, argSlots, seqK, Fr.known, Fr.newBox, dropBp, retK, retA, resA, mapO, convInt, cellsA_agg, okPart_agg, partA, loadA, loadS, plusS, newK, storeS, orO_some, eqT_some, indexTabA, tabO, tk3, Tryd.underlying3, sz5, ag5, tk5, Tryd.underlying5, Tryd.underlying9, Tryd.underlying115, sz117, ag117, ze117, Tryd.underlying117, Tryd.underlying118, tx_size, u8A, splice, hl, hc, hc0, hT.1, hT.2, hx, indexStr_tx0, indexStr_tx1, h240, hs, hai, ha0, hsz, htk, hle, hlen, hb]

theorem slow_B2 (c b : UInt8) (l : List UInt8) (x sz ai lo hi : Nat) (hx : (firstT.map AV.v)[c.toNat]? = some (.v (.int .u8 x))) (h240 : ((240 : Int) ≤ (x : Int)) = False) (hs : shrI .u8 (x : Int) 4 = (ai : Int)) (hai : ((ai : Int) < 16) = True) (hsz : IntKind.i64.wrap (andI .u8 (x : Int) 7) = (sz : Int)) (htk : ((acceptT.map AV.v).drop (ai * 2)).take 2 = [.v (.int .u8 (lo : Nat)), .v (.int .u8 (hi : Nat))]) (hle : (ai * 2 + 2 ≤ acceptT.length) = True) (hlen : ((l.length : Int) + 1 + 1 < (sz : Int)) = False) (hb : ((b.toNat : Int) < (lo : Int)) = False) (hb' : ((hi : Int) < (b.toNat : Int)) = True) (H : Hp) (hT : Tb H) : Sp Tryd.prog 60 [.v (.string (tx (c :: b :: l)))] (fun v H' => v = .tup [.v (.int .i32 (65533 : Nat)), .v (.int .i64 (1 : Nat))] ∧ H' = H) H := by
  have hc : ((c.toNat : Int) < 256) = True := eq_true (by have := UInt8.toNat_lt c; omega)
  have hc0 : ((0 : Int) ≤ (c.toNat : Int)) = True := eq_true (by omega)
  have ha0 : ((0 : Int) ≤ (ai : Int)) = True := eq_true (by omega)
  have hl : ((l.length : Int) + 1 + 1 < 1) = False := eq_false (by omega)
  refine Sp.body [] ⟨[9], [], []⟩ [] mo Tryd.func60 rfl (Nat.le_of_ble_eq_true rfl) (by kernel_rfl) ?_
  simp [ev_skip, ev_seq, ev_cond2, ev_ret, ev_region2, evOps_nil, evOps_cons, opG_none, opG_some, opJ, opU_ff, isU_bool, opK_eq, opA_move, opA_assign, opA_pick, opA_bin, opA_load, opA_index, opA_indexAddr, opA_fieldAddr, opA_len, opA_alloc, opA_store, opA_convert, putO_some, putH_lt, putU_none, condB_true, condB_false, binT_some, binA, avO_some, pickT, loadT, lenT_str, fieldAddrT, indexT, indexAddrT, allocT, storeT, convV, convT, io_shr, io_and, io_lss, io_geq, opS, opV, Go.Mx.look, fr0, argSlots, seqK, Fr.known, Fr.newBox, dropBp, retK, retA, resA, mapO, convInt, cellsA_agg, okPart_agg, partA, loadA, loadS, plusS, newK, storeS, orO_some, eqT_some, indexTabA, tabO, tk3, Tryd.underlying3, sz5, ag5, tk5, Tryd.underlying5, Tryd.underlying9, Tryd.underlying115, sz117, ag117, ze117, Tryd.underlying117, Tryd.underlying118, tx_size, u8A, splice, hl, hc, hc0, hT.1, hT.2, hx, indexStr_tx0, indexStr_tx1, h240, hs, hai, ha0, hsz, htk, hle, hlen, hb, hb']

theorem slow_C (c b : UInt8) (l : List UInt8) (x sz ai lo hi : Nat) (hx : (firstT.map AV.v)[c.toNat]? = some (.v (.int .u8 x))) (h240 : ((240 : Int) ≤ (x : Int)) = False) (hs : shrI .u8 (x : Int) 4 = (ai : Int)) (hai : ((ai : Int) < 16) = True) (hsz : IntKind.i64.wrap (andI .u8 (x : Int) 7) = (sz : Int)) (htk : ((acceptT.map AV.v).drop (ai * 2)).take 2 = [.v (.int .u8 (lo : Nat)), .v (.int .u8 (hi : Nat))]) (hle : (ai * 2 + 2 ≤ acceptT.length) = True) (hlen : ((l.length : Int) + 1 + 1 < (sz : Int)) = False) (hb : ((b.toNat : Int) < (lo : Int)) = False) (hb' : ((hi : Int) < (b.toNat : Int)) = False) (h2 : ((sz : Int) ≤ 2) = True) (H : Hp) (hT : Tb H) : Sp Tryd.prog 60 [.v (.string (tx (c :: b :: l)))] (fun v H' => v = .tup [.v (.int .i32 (c.toNat % 32 * 64 + b.toNat % 64 : Nat)), .v (.int .i64 (2 : Nat))] ∧ H' = H) H := by
  have hc : ((c.toNat : Int) < 256) = True := eq_true (by have := UInt8.toNat_lt c; omega)
  have hc0 : ((0 : Int) ≤ (c.toNat : Int)) = True := eq_true (by omega)
  have ha0 : ((0 : Int) ≤ (ai : Int)) = True := eq_true (by omega)
  have hl : ((l.length : Int) + 1 + 1 < 1) = False := eq_false (by omega)
  refine Sp.body [] ⟨[9], [], []⟩ [] mo Tryd.func60 rfl (Nat.le_of_ble_eq_true rfl) (by kernel_rfl) ?_
  simp [ev_skip, ev_seq, ev_cond2, ev_ret, ev_region2, evOps_nil, evOps_cons, opG_none, opG_some, opJ, opU_ff, isU_bool, opK_eq, opA_move, opA_assign, opA_pick, opA_bin, opA_load, opA_index, opA_indexAddr, opA_fieldAddr, opA_len, opA_alloc, opA_store, opA_convert, putO_some, putH_lt, putU_none, condB_true, condB_false, binT_some, binA, avO_some, pickT, loadT, lenT_str, fieldAddrT, indexT, indexAddrT, allocT, storeT, convV, convT, io_shl, io_shr, io_and, io_or, io_lss, io_leq, io_geq, opS, opV, Go.Mx.look, fr0, argSlots, seqK, Fr.known, Fr.newBox, dropBp, retK, retA, resA, mapO, convInt, cellsA_agg, okPart_agg, partA, loadA, loadS, plusS, newK, storeS, orO_some, eqT_some, indexTabA, tabO, tk3, Tryd.underlying3, sz5, ag5, tk5, Tryd.underlying5, Tryd.underlying9, tk21, Tryd.underlying21, Tryd.underlying115, sz117, ag117, ze117, Tryd.underlying117, Tryd.underlying118, tx_size, u8A, splice, hl, hc, hc0, hT.1, hT.2, hx, indexStr_tx0, indexStr_tx1, h240, hs, hai, ha0, hsz, htk, hle, hlen, hb, hb', h2]
  exact pick6 c b

theorem slow_D1 (c b d : UInt8) (l : List UInt8) (x sz ai lo hi : Nat) (hx : (firstT.map AV.v)[c.toNat]? = some (.v (.int .u8 x))) (h240 : ((240 : Int) ≤ (x : Int)) = False) (hs : shrI .u8 (x : Int) 4 = (ai : Int)) (hai : ((ai : Int) < 16) = True) (hsz : IntKind.i64.wrap (andI .u8 (x : Int) 7) = (sz : Int)) (htk : ((acceptT.map AV.v).drop (ai * 2)).take 2 = [.v (.int .u8 (lo : Nat)), .v (.int .u8 (hi : Nat))]) (hle : (ai * 2 + 2 ≤ acceptT.length) = True) (hlen : ((l.length : Int) + 1 + 1 + 1 < (sz : Int)) = False) (hb : ((b.toNat : Int) < (lo : Int)) = False) (hb' : ((hi : Int) < (b.toNat : Int)) = False) (h2 : ((sz : Int) ≤ 2) = False) (hd : ((d.toNat : Int) < 128) = True) (H : Hp) (hT : Tb H) : Sp Tryd.prog 60 [.v (.string (tx (c :: b :: d :: l)))] (fun v H' => v = .tup [.v (.int .i32 (65533 : Nat)), .v (.int .i64 (1 : Nat))] ∧ H' = H) H := by
  have hc : ((c.toNat : Int) < 256) = True := eq_true (by have := UInt8.toNat_lt c; omega)
  have hc0 : ((0 : Int) ≤ (c.toNat : Int)) = True := eq_true (by omega)
  have ha0 : ((0 : Int) ≤ (ai : Int)) = True := eq_true (by omega)
  have hl : ((l.length : Int) + 1 + 1 + 1 < 1) = False := eq_false (by omega)
  refine Sp.body [] ⟨[9], [], []⟩ [] mo Tryd.func60 rfl (Nat.le_of_ble_eq_true rfl) (by kernel_rfl) ?_
  simp [ev_skip, ev_seq, ev_cond2, ev_ret, ev_region2, evOps_nil, evOps_cons, opG_none, opG_some, opJ, opU_ff, isU_bool, opK_eq, opA_move, opA_assign, opA_pick, opA_bin, opA_load, opA_index, opA_indexAddr, opA_fieldAddr, opA_len, opA_alloc, opA_store, opA_convert, putO_some, putH_lt, putU_none, putV_lt, condB_true, condB_false, binT_some, binA, avO_some, pickT, loadT, lenT_str, fieldAddrT, indexT, indexAddrT, allocT, storeT, convV, convT, io_shr, io_and, io_lss, io_leq, io_geq, opS, opV, Go.Mx.look, fr0, argSlots, seqK, Fr.known, Fr.newBox, dropBp, retK, retA, resA, mapO, convInt, cellsA_agg, okPart_agg, partA, loadA, loadS, plusS, newK, storeS, orO_some, eqT_some, indexTabA, tabO, tk3, Tryd.underlying3, sz5, ag5, tk5, Tryd.underlying5, Tryd.underlying9, Tryd.underlying115, sz117, ag117, ze117, Tryd.underlying117, Tryd.underlying118, tx_size, u8A, splice, hl, hc, hc0, hT.1, hT.2, hx, indexStr_tx0, indexStr_tx1, indexStr_tx2, h240, hs, hai, ha0, hsz, htk, hle, hlen, hb, hb', h2, hd]

theorem slow_D2 (c b d : UInt8) (l : List UInt8) (x sz ai lo hi : Nat) (hx : (firstT.map AV.v)[c.toNat]? = some (.v (.int .u8 x))) (h240 : ((240 : Int) ≤ (x : Int)) = False) (hs : shrI .u8 (x : Int) 4 = (ai : Int)) (hai : ((ai : Int) < 16) = True) (hsz : IntKind.i64.wrap (andI .u8 (x : Int) 7) = (sz : Int)) (htk : ((acceptT.map AV.v).drop (ai * 2)).take 2 = [.v (.int .u8 (lo : Nat)), .v (.int .u8 (hi : Nat))]) (hle : (ai * 2 + 2 ≤ acceptT.length) = True) (hlen : ((l.length : Int) + 1 + 1 + 1 < (sz : Int)) = False) (hb : ((b.toNat : Int) < (lo : Int)) = False) (hb' : ((hi : Int) < (b.toNat : Int)) = False) (h2 : ((sz : Int) ≤ 2) = False) (hd : ((d.toNat : Int) < 128) = False) (hd' : ((191 : Int) < (d.toNat : Int)) = True) (H : Hp) (hT : Tb H) : Sp Tryd.prog 60 [.v (.string (tx (c :: b :: d :: l)))] (fun v H' => v = .tup [.v (.int .i32 (65533 : Nat)), .v (.int .i64 (1 : Nat))] ∧ H' = H) H := by
  have hc : ((c.toNat : Int) < 256) = True := eq_true (by have := UInt8.toNat_lt c; omega)
  have hc0 : ((0 : Int) ≤ (c.toNat : Int)) = True := eq_true (by omega)
  have ha0 : ((0 : Int) ≤ (ai : Int)) = True := eq_true (by omega)
  have hl : ((l.length : Int) + 1 + 1 + 1 < 1) = False := eq_false (by omega)
  refine Sp.body [] ⟨[9], [], []⟩ [] mo Tryd.func60 rfl (Nat.le_of_ble_eq_true rfl) (by kernel_rfl) ?_
  simp [ev_skip, ev_seq, ev_cond2, ev_ret, ev_region2, evOps_nil, evOps_cons, opG_none, opG_some, opJ, opU_ff, isU_bool, opK_eq, opA_move, opA_assign, opA_pick, opA_bin, opA_load, opA_index, opA_indexAddr, opA_fieldAddr, opA_len, opA_alloc, opA_store, opA_convert, putO_some, putH_lt, putU_none, condB_true, condB_false, binT_some, binA, avO_some, pickT, loadT, lenT_str, fieldAddrT, indexT, indexAddrT, allocT, storeT, convV, convT, io_shr, io_and, io_lss, io_leq, io_geq, opS, opV, Go.Mx.look, fr0, argSlots, seqK, Fr.known, Fr.newBox, dropBp, retK, retA, resA, mapO, convInt, cellsA_agg, okPart_agg, partA, loadA, loadS, plusS, newK, storeS, orO_some, eqT_some, indexTabA, tabO, tk3, Tryd.underlying3, sz5, ag5, tk5, Tryd.underlying5, Tryd.underlying9, Tryd.underlying115, sz117, ag117, ze117, Tryd.underlying117, Tryd.underlying118, tx_size, u8A, splice, hl, hc, hc0, hT.1, hT.2, hx, indexStr_tx0, indexStr_tx1, indexStr_tx2, h240, hs, hai, ha0, hsz, htk, hle, hlen, hb, hb', h2, hd, hd']

theorem slow_E (c b d : UInt8) (l : List UInt8) (x sz ai lo hi : Nat) (hx : (firstT.map AV.v)[c.toNat]? = some (.v (.int .u8 x))) (h240 : ((240 : Int) ≤ (x : Int)) = False) (hs : shrI .u8 (x : Int) 4 = (ai : Int)) (hai : ((ai : Int) < 16) = True) (hsz : IntKind.i64.wrap (andI .u8 (x : Int) 7) = (sz : Int)) (htk : ((acceptT.map AV.v).drop (ai * 2)).take 2 = [.v (.int .u8 (lo : Nat)), .v (.int .u8 (hi : Nat))]) (hle : (ai * 2 + 2 ≤ acceptT.length) = True) (hlen : ((l.length : Int) + 1 + 1 + 1 < (sz : Int)) = False) (hb : ((b.toNat : Int) < (lo : Int)) = False) (hb' : ((hi : Int) < (b.toNat : Int)) = False) (h2 : ((sz : Int) ≤ 2) = False) (hd : ((d.toNat : Int) < 128) = False) (hd' : ((191 : Int) < (d.toNat : Int)) = False) (h3 : ((sz : Int) ≤ 3) = True) (H : Hp) (hT : Tb H) : Sp Tryd.prog 60 [.v (.string (tx (c :: b :: d :: l)))] (fun v H' => v = .tup [.v (.int .i32 (c.toNat % 16 * 4096 + b.toNat % 64 * 64 + d.toNat % 64 : Nat)), .v (.int .i64 (3 : Nat))] ∧ H' = H) H := by
  have hc : ((c.toNat : Int) < 256) = True := eq_true (by have := UInt8.toNat_lt c; omega)
  have hc0 : ((0 : Int) ≤ (c.toNat : Int)) = True := eq_true (by omega)
  have ha0 : ((0 : Int) ≤ (ai : Int)) = True := eq_true (by omega)
  have hl : ((l.length : Int) + 1 + 1 + 1 < 1) = False := eq_false (by omega)
  refine Sp.body [] ⟨[9], [], []⟩ [] mo Tryd.func60 rfl (Nat.le_of_ble_eq_true rfl) (by kernel_rfl) ?_
  simp [ev_skip, ev_seq, ev_cond2, ev_ret, ev_region2, evOps_nil, evOps_cons, opG_none, opG_some, opJ, opU_ff, isU_bool, opK_eq, opA_move, opA_assign, opA_pick, opA_bin, opA_load, opA_index, opA_indexAddr, opA_fieldAddr, opA_len, opA_alloc, opA_store, opA_convert, putO_some, putH_lt, putU_none, condB_true, condB_false, binT_some, binA, avO_some, pickT, loadT, lenT_str, fieldAddrT, indexT, indexAddrT, allocT, storeT, convV, convT, io_shl, io_shr, io_and, io_or, io_lss, io_leq, io_geq, opS, opV, Go.Mx.look, fr0, argSlots, seqK, Fr.known, Fr.newBox, dropBp, retK, retA, resA, mapO, convInt, cellsA_agg, okPart_agg, partA, loadA, loadS, plusS, newK, storeS, orO_some, eqT_some, indexTabA, tabO, tk3, Tryd.underlying3, sz5, ag5, tk5, Tryd.underlying5, Tryd.underlying9, tk21, Tryd.underlying21, Tryd.underlying115, sz117, ag117, ze117, Tryd.underlying117, Tryd.underlying118, tx_size, u8A, splice, hl, hc, hc0, hT.1, hT.2, hx, indexStr_tx0, indexStr_tx1, indexStr_tx2, h240, hs, hai, ha0, hsz, htk, hle, hlen, hb, hb', h2, hd, hd', h3]
  exact pick12 c b d

theorem slow_F1 (c b d e : UInt8) (l : List UInt8) (x sz ai lo hi : Nat) (hx : (firstT.map AV.v)[c.toNat]? = some (.v (.int .u8 x))) (h240 : ((240 : Int) ≤ (x : Int)) = False) (hs : shrI .u8 (x : Int) 4 = (ai : Int)) (hai : ((ai : Int) < 16) = True) (hsz : IntKind.i64.wrap (andI .u8 (x : Int) 7) = (sz : Int)) (htk : ((acceptT.map AV.v).drop (ai * 2)).take 2 = [.v (.int .u8 (lo : Nat)), .v (.int .u8 (hi : Nat))]) (hle : (ai * 2 + 2 ≤ acceptT.length) = True) (hlen : ((l.length : Int) + 1 + 1 + 1 + 1 < (sz : Int)) = False) (hb : ((b.toNat : Int) < (lo : Int)) = False) (hb' : ((hi : Int) < (b.toNat : Int)) = False) (h2 : ((sz : Int) ≤ 2) = False) (hd : ((d.toNat : Int) < 128) = False) (hd' : ((191 : Int) < (d.toNat : Int)) = False) (h3 : ((sz : Int) ≤ 3) = False) (he : ((e.toNat : Int) < 128) = True) (H : Hp) (hT : Tb H) : Sp Tryd.prog 60 [.v (.string (tx (c :: b :: d :: e :: l)))] (fun v H' => v = .tup [.v (.int .i32 (65533 : Nat)), .v (.int .i64 (1 : Nat))] ∧ H' = H) H := by
  have hc : ((c.toNat : Int) < 256) = True := eq_true (by have := UInt8.toNat_lt c; omega)
  have hc0 : ((0 : Int) ≤ (c.toNat : Int)) = True := eq_true (by omega)
  have ha0 : ((0 : Int) ≤ (ai : Int)) = True := eq_true (by omega)
  have hl : ((l.length : Int) + 1 + 1 + 1 + 1 < 1) = False := eq_false (by omega)
  refine Sp.body [] ⟨[9], [], []⟩ [] mo Tryd.func60 rfl (Nat.le_of_ble_eq_true rfl) (by kernel_rfl) ?_
  simp [ev_skip, ev_seq, ev_cond2, ev_ret, ev_region2, evOps_nil, evOps_cons, opG_none, opG_some, opJ, opU_ff, isU_bool, opK_eq, opA_move, opA_assign, opA_pick, opA_bin, opA_load, opA_index, opA_indexAddr, opA_fieldAddr, opA_len, opA_alloc, opA_store, opA_convert, putO_some, putH_lt, putU_none, putV_lt, condB_true, condB_false, binT_some, binA, avO_some, pickT, loadT, lenT_str, fieldAddrT, indexT, indexAddrT, allocT, storeT, convV, convT, io_shr, io_and, io_lss, io_leq, io_geq, opS, opV, Go.Mx.look, fr0, argSlots, seqK, Fr.known, Fr.newBox, dropBp, retK, retA, resA, mapO, convInt, cellsA_agg, okPart_agg, partA, loadA, loadS, plusS, newK, storeS, orO_some, eqT_some, indexTabA, tabO, tk3, Tryd.underlying3, sz5, ag5, tk5, Tryd.underlying5, Tryd.underlying9, Tryd.underlying115, sz117, ag117, ze117, Tryd.underlying117, Tryd.underlying118, tx_size, u8A, splice, hl, hc, hc0, hT.1, hT.2, hx, indexStr_tx0, indexStr_tx1, indexStr_tx2, indexStr_tx3, h240, hs, hai, ha0, hsz, htk, hle, hlen, hb, hb', h2, hd, hd', h3, he]

theorem slow_F2 (c b d e : UInt8) (l : List UInt8) (x sz ai lo hi : Nat) (hx : (firstT.map AV.v)[c.toNat]? = some (.v (.int .u8 x))) (h240 : ((240 : Int) ≤ (x : Int)) = False) (hs : shrI .u8 (x : Int) 4 = (ai : Int)) (hai : ((ai : Int) < 16) = True) (hsz : IntKind.i64.wrap (andI .u8 (x : Int) 7) = (sz : Int)) (htk : ((acceptT.map AV.v).drop (ai * 2)).take 2 = [.v (.int .u8 (lo : Nat)), .v (.int .u8 (hi : Nat))]) (hle : (ai * 2 + 2 ≤ acceptT.length) = True) (hlen : ((l.length : Int) + 1 + 1 + 1 + 1 < (sz : Int)) = False) (hb : ((b.toNat : Int) < (lo : Int)) = False) (hb' : ((hi : Int) < (b.toNat : Int)) = False) (h2 : ((sz : Int) ≤ 2) = False) (hd : ((d.toNat : Int) < 128) = False) (hd' : ((191 : Int) < (d.toNat : Int)) = False) (h3 : ((sz : Int) ≤ 3) = False) (he : ((e.toNat : Int) < 128) = False) (he' : ((191 : Int) < (e.toNat : Int)) = True) (H : Hp) (hT : Tb H) : Sp Tryd.prog 60 [.v (.string (tx (c :: b :: d :: e :: l)))] (fun v H' => v = .tup [.v (.int .i32 (65533 : Nat)), .v (.int .i64 (1 : Nat))] ∧ H' = H) H := by
  have hc : ((c.toNat : Int) < 256) = True := eq_true (by have := UInt8.toNat_lt c; omega)
  have hc0 : ((0 : Int) ≤ (c.toNat : Int)) = True := eq_true (by omega)
  have ha0 : ((0 : Int) ≤ (ai : Int)) = True := eq_true (by omega)
  have hl : ((l.length : Int) + 1 + 1 + 1 + 1 < 1) = False := eq_false (by omega)
  refine Sp.body [] ⟨[9], [], []⟩ [] mo Tryd.func60 rfl (Nat.le_of_ble_eq_true rfl) (by kernel_rfl) ?_
  simp [ev_skip, ev_seq, ev_cond2, ev_ret, ev_region2, evOps_nil, evOps_cons, opG_none, opG_some, opJ, opU_ff, isU_bool, opK_eq, opA_move, opA_assign, opA_pick, opA_bin, opA_load, opA_index, opA_indexAddr, opA_fieldAddr, opA_len, opA_alloc, opA_store, opA_convert, putO_some, putH_lt, putU_none, condB_true, condB_false, binT_some, binA, avO_some, pickT, loadT, lenT_str, fieldAddrT, indexT, indexAddrT, allocT, storeT, convV, convT, io_shr, io_and, io_lss, io_leq, io_geq, opS, opV, Go.Mx.look, fr0, argSlots, seqK, Fr.known, Fr.newBox, dropBp, retK, retA, resA, mapO, convInt, cellsA_agg, okPart_agg, partA, loadA, loadS, plusS, newK, storeS, orO_some, eqT_some, indexTabA, tabO, tk3, Tryd.underlying3, sz5, ag5, tk5, Tryd.underlying5, Tryd.underlying9, Tryd.underlying115, sz117, ag117, ze117, Tryd.underlying117, Tryd.underlying118, tx_size, u8A, splice, hl, hc, hc0, hT.1, hT.2, hx, indexStr_tx0, indexStr_tx1, indexStr_tx2, indexStr_tx3, h240, hs, hai, ha0, hsz, htk, hle, hlen, hb, hb', h2, hd, hd', h3, he, he']

theorem slow_G (c b d e : UInt8) (l : List UInt8) (x sz ai lo hi : Nat) (hx : (firstT.map AV.v)[c.toNat]? = some (.v (.int .u8 x))) (h240 : ((240 : Int) ≤ (x : Int)) = False) (hs : shrI .u8 (x : Int) 4 = (ai : Int)) (hai : ((ai : Int) < 16) = True) (hsz : IntKind.i64.wrap (andI .u8 (x : Int) 7) = (sz : Int)) (htk : ((acceptT.map AV.v).drop (ai * 2)).take 2 = [.v (.int .u8 (lo : Nat)), .v (.int .u8 (hi : Nat))]) (hle : (ai * 2 + 2 ≤ acceptT.length) = True) (hlen : ((l.length : Int) + 1 + 1 + 1 + 1 < (sz : Int)) = False) (hb : ((b.toNat : Int) < (lo : Int)) = False) (hb' : ((hi : Int) < (b.toNat : Int)) = False) (h2 : ((sz : Int) ≤ 2) = False) (hd : ((d.toNat : Int) < 128) = False) (hd' : ((191 : Int) < (d.toNat : Int)) = False) (h3 : ((sz : Int) ≤ 3) = False) (he : ((e.toNat : Int) < 128) = False) (he' : ((191 : Int) < (e.toNat : Int)) = False) (H : Hp) (hT : Tb H) : Sp Tryd.prog 60 [.v (.string (tx (c :: b :: d :: e :: l)))] (fun v H' => v = .tup [.v (.int .i32 (c.toNat % 8 * 262144 + b.toNat % 64 * 4096 + d.toNat % 64 * 64 + e.toNat % 64 : Nat)), .v (.int .i64 (4 : Nat))] ∧ H' = H) H := by
  have hc : ((c.toNat : Int) < 256) = True := eq_true (by have := UInt8.toNat_lt c; omega)
  have hc0 : ((0 : Int) ≤ (c.toNat : Int)) = True := eq_true (by omega)
  have ha0 : ((0 : Int) ≤ (ai : Int)) = True := eq_true (by omega)
  have hl : ((l.length : Int) + 1 + 1 + 1 + 1 < 1) = False := eq_false (by omega)
  refine Sp.body [] ⟨[9], [], []⟩ [] mo Tryd.func60 rfl (Nat.le_of_ble_eq_true rfl) (by kernel_rfl) ?_
  simp [ev_skip, ev_seq, ev_cond2, ev_ret, ev_region2, evOps_nil, evOps_cons, opG_none, opG_some, opJ, opU_ff, isU_bool, opK_eq, opA_move, opA_assign, opA_pick, opA_bin, opA_load, opA_index, opA_indexAddr, opA_fieldAddr, opA_len, opA_alloc, opA_store, opA_convert, putO_some, putH_lt, putU_none, condB_false, binT_some, binA, avO_some, pickT, loadT, lenT_str, fieldAddrT, indexT, indexAddrT, allocT, storeT, convV, convT, io_shl, io_shr, io_and, io_or, io_lss, io_leq, io_geq, opS, opV, Go.Mx.look, fr0, argSlots, seqK, Fr.known, Fr.newBox, dropBp, retK, retA, resA, mapO, convInt, cellsA_agg, okPart_agg, partA, loadA, loadS, plusS, newK, storeS, orO_some, eqT_some, indexTabA, tabO, tk3, Tryd.underlying3, sz5, ag5, tk5, Tryd.underlying5, Tryd.underlying9, tk21, Tryd.underlying21, Tryd.underlying115, sz117, ag117, ze117, Tryd.underlying117, Tryd.underlying118, tx_size, u8A, splice, hl, hc, hc0, hT.1, hT.2, hx, indexStr_tx0, indexStr_tx1, indexStr_tx2, indexStr_tx3, h240, hs, hai, ha0, hsz, htk, hle, hlen, hb, hb', h2, hd, hd', h3, he, he']
  exact pick18 c b d e

theorem dec_len (c : UInt8) (l : List UInt8) (x sz ai lo hi : Nat) (hw : Way c.toNat x sz ai lo hi) (h : l.length + 1 < sz) : dec (c :: l) = (65533, 1) := by
  rw [dec_cons]; unfold Way at hw; unfold Go.Lib.decodeN
  rcases hw with ⟨h1, h2, h3, _, _, h4⟩ | ⟨h1, h2, h3, _, _, h4⟩ | ⟨h1, h2, h3, _, _, h4⟩ | ⟨h1, h2, h3, _, _, h4⟩ | ⟨h1, h2, h3, _, _, h4⟩ | ⟨h1, h2, h3, _, _, h4⟩ | ⟨h1, h2, h3, _, _, h4⟩ <;>
    (repeat' split) <;> (first | rfl | (exfalso; omega))
set_option maxHeartbeats 4000000 in
theorem dec_at (c b : UInt8) (l : List UInt8) (x sz ai lo hi : Nat) (hw : Way c.toNat x sz ai lo hi) (h : sz ≤ l.length + 2) :
    dec (c :: b :: l) = if b.toNat < lo ∨ hi < b.toNat then (65533, 1) else if sz = 2 then (c.toNat % 32 * 64 + b.toNat % 64, 2) else if (l.getD 0 0).toNat < 128 ∨ 191 < (l.getD 0 0).toNat then (65533, 1) else
      if sz = 3 then (c.toNat % 16 * 4096 + b.toNat % 64 * 64 + (l.getD 0 0).toNat % 64, 3) else if (l.getD 1 0).toNat < 128 ∨ 191 < (l.getD 1 0).toNat then (65533, 1) else (c.toNat % 8 * 262144 + b.toNat % 64 * 4096 + (l.getD 0 0).toNat % 64 * 64 + (l.getD 1 0).toNat % 64, 4) := by
  have hb := UInt8.toNat_lt b
  have hd := UInt8.toNat_lt (l.getD 0 0)
  have he := UInt8.toNat_lt (l.getD 1 0)
  rw [dec_cons]
  have g0 : ((b :: l).getD 0 0) = b := rfl
  have g1 : ((b :: l).getD 1 0) = l.getD 0 0 := rfl
  have g2 : ((b :: l).getD 2 0) = l.getD 1 0 := rfl
  rw [g0, g1, g2]
  generalize (l.getD 0 0).toNat = d at *
  generalize (l.getD 1 0).toNat = e at *
  generalize b.toNat = b at *
  generalize c.toNat = c at *
  simp only [List.length_cons]
  generalize l.length = n at *
  unfold Way at hw
  by_cases k1 : b < lo ∨ hi < b
  · rw [if_pos k1]; unfold Go.Lib.decodeN
    rcases hw with ⟨h1, h2, h3, _, _, h4⟩ | ⟨h1, h2, h3, _, _, h4⟩ | ⟨h1, h2, h3, _, _, h4⟩ | ⟨h1, h2, h3, _, _, h4⟩ | ⟨h1, h2, h3, _, _, h4⟩ | ⟨h1, h2, h3, _, _, h4⟩ | ⟨h1, h2, h3, _, _, h4⟩ <;> (repeat' split) <;> (first | rfl | (exfalso; omega))
  rw [if_neg k1]
  by_cases k2 : sz = 2
  · rw [if_pos k2]; unfold Go.Lib.decodeN
    rcases hw with ⟨h1, h2, h3, _, _, h4⟩ | ⟨h1, h2, h3, _, _, h4⟩ | ⟨h1, h2, h3, _, _, h4⟩ | ⟨h1, h2, h3, _, _, h4⟩ | ⟨h1, h2, h3, _, _, h4⟩ | ⟨h1, h2, h3, _, _, h4⟩ | ⟨h1, h2, h3, _, _, h4⟩ <;> (repeat' split) <;> (first | rfl | (exfalso; omega))
  rw [if_neg k2]
  by_cases k3 : d < 128 ∨ 191 < d
  · rw [if_pos k3]; unfold Go.Lib.decodeN
    rcases hw with ⟨h1, h2, h3, _, _, h4⟩ | ⟨h1, h2, h3, _, _, h4⟩ | ⟨h1, h2, h3, _, _, h4⟩ | ⟨h1, h2, h3, _, _, h4⟩ | ⟨h1, h2, h3, _, _, h4⟩ | ⟨h1, h2, h3, _, _, h4⟩ | ⟨h1, h2, h3, _, _, h4⟩ <;> (repeat' split) <;> (first | rfl | (exfalso; omega))
  rw [if_neg k3]
  by_cases k4 : sz = 3
  · rw [if_pos k4]; unfold Go.Lib.decodeN
    rcases hw with ⟨h1, h2, h3, _, _, h4⟩ | ⟨h1, h2, h3, _, _, h4⟩ | ⟨h1, h2, h3, _, _, h4⟩ | ⟨h1, h2, h3, _, _, h4⟩ | ⟨h1, h2, h3, _, _, h4⟩ | ⟨h1, h2, h3, _, _, h4⟩ | ⟨h1, h2, h3, _, _, h4⟩ <;> (repeat' split) <;> (first | rfl | (exfalso; omega))
  rw [if_neg k4]
  by_cases k5 : e < 128 ∨ 191 < e
  · rw [if_pos k5]; unfold Go.Lib.decodeN
    rcases hw with ⟨h1, h2, h3, _, _, h4⟩ | ⟨h1, h2, h3, _, _, h4⟩ | ⟨h1, h2, h3, _, _, h4⟩ | ⟨h1, h2, h3, _, _, h4⟩ | ⟨h1, h2, h3, _, _, h4⟩ | ⟨h1, h2, h3, _, _, h4⟩ | ⟨h1, h2, h3, _, _, h4⟩ <;> (repeat' split) <;> (first | rfl | (exfalso; omega))
  rw [if_neg k5]; unfold Go.Lib.decodeN
  rcases hw with ⟨h1, h2, h3, _, _, h4⟩ | ⟨h1, h2, h3, _, _, h4⟩ | ⟨h1, h2, h3, _, _, h4⟩ | ⟨h1, h2, h3, _, _, h4⟩ | ⟨h1, h2, h3, _, _, h4⟩ | ⟨h1, h2, h3, _, _, h4⟩ | ⟨h1, h2, h3, _, _, h4⟩ <;> (repeat' split) <;> (first | rfl | (exfalso; omega))
theorem dec_no (c : UInt8) (l : List UInt8) (h : 128 ≤ c.toNat) (h2 : c.toNat ≤ 193 ∨ 245 ≤ c.toNat) : dec (c :: l) = (65533, 1) := by
  have hb := UInt8.toNat_lt (l.getD 0 0)
  have hc := UInt8.toNat_lt c
  rw [dec_cons]; unfold Go.Lib.decodeN
  (repeat' split) <;> (first | rfl | (exfalso; omega))
theorem dec_ascii (c : UInt8) (l : List UInt8) (h : c.toNat < 128) : dec (c :: l) = (c.toNat, 1) := by
  rw [dec_cons]; unfold Go.Lib.decodeN; rw [if_pos h]
theorem waysN_fact : ∀ w ∈ waysN, ((240 : Int) ≤ (w.1 : Int)) = False ∧ shrI .u8 (w.1 : Int) 4 = (w.2.2.1 : Int) ∧ ((w.2.2.1 : Int) < 16) = True ∧ IntKind.i64.wrap (andI .u8 (w.1 : Int) 7) = (w.2.1 : Int) ∧ ((acceptT.map AV.v).drop (w.2.2.1 * 2)).take 2 = [.v (.int .u8 (w.2.2.2.1 : Nat)), .v (.int .u8 (w.2.2.2.2 : Nat))] ∧ (w.2.2.1 * 2 + 2 ≤ acceptT.length) = True := by
  intro w hw
  simp only [waysN, List.mem_cons, List.not_mem_nil, or_false] at hw
  rcases hw with rfl | rfl | rfl | rfl | rfl | rfl | rfl <;> exact ⟨by decide, by decide, by decide, by decide, by rfl, by decide⟩

theorem slow_sp (c : UInt8) (l : List UInt8) (hc : 128 ≤ c.toNat) (H : Hp) (hT : Tb H) : Sp Tryd.prog 60 [.v (.string (tx (c :: l)))] (fun v H' => v = .tup [.v (.int .i32 ((dec (c :: l)).1 : Nat)), .v (.int .i64 ((dec (c :: l)).2 : Nat))] ∧ H' = H) H := by
  rcases firstN_at c.toNat (UInt8.toNat_lt c) hc with ⟨hx, hr⟩ | ⟨⟨x, sz, ai, lo, hi⟩, hwm, hx, hw⟩
  · rw [dec_no c l hc hr]
    have hx' := firstT_at hx
    have hc1 : ((c.toNat : Int) < 256) = True := eq_true (by have := UInt8.toNat_lt c; omega)
    have hc0 : ((0 : Int) ≤ (c.toNat : Int)) = True := eq_true (by omega)
    have hl : ((l.length : Int) + 1 < 1) = False := eq_false (by omega)
    refine Sp.body [] ⟨[9], [], []⟩ [] mo Tryd.func60 rfl (Nat.le_of_ble_eq_true rfl) (by kernel_rfl) ?_
    simp [ev_skip, ev_seq, ev_cond2, ev_ret, ev_region2, evOps_nil, evOps_cons, opG_none, opA_move, opA_assign, opA_bin, opA_load, opA_index, opA_indexAddr, opA_len, opA_convert, putO_some, putH_lt, condB_true, condB_false, binT_some, binA, avO_some, loadT, lenT_str, indexT, indexAddrT, convV, convT, io_shl, io_shr, io_and, io_or, io_lss, io_geq, opS, opV, Go.Mx.look, fr0, argSlots, seqK, Fr.known, retK, retA, resA, mapO, convInt, partA, loadA, loadS, orO_some, eqT_some, indexTabA, tabO, io_andNot, tk3, sz5, ag5, tk5, Tryd.underlying5, Tryd.underlying9, tk21, Tryd.underlying21, Tryd.underlying115, tx_size, u8A, hl, hc1, hc0, hT.1, hx', indexStr_tx0]
    have e : shrI .i32 (shlI .i32 (IntKind.i32.wrap 241) 31) 31 = -1 := by decide
    rw [e, andNotI_all]
    decide
  obtain ⟨h240, hs, hai, hsz, htk, hle⟩ := waysN_fact _ hwm
  simp only at hx hw h240 hs hai hsz htk hle
  have hx := firstT_at hx
  have hsz' : sz = 2 ∨ sz = 3 ∨ sz = 4 := by unfold Way at hw; omega
  by_cases hlen : (l.length : Int) + 1 < (sz : Int)
  · rw [dec_len c l x sz ai lo hi hw (by omega)]
    exact slow_A c l x sz ai lo hi hx h240 hs hai hsz htk hle (eq_true hlen) H hT
  cases l with
  | nil => simp at hlen; omega
  | cons b l =>
  have hn2 : (((l.length : Nat) : Int) + 1 + 1 < (sz : Int)) = False := eq_false (by simp at hlen; omega)
  have hda := dec_at c b l x sz ai lo hi hw (by simp at hlen; omega)
  by_cases hb : (b.toNat : Int) < (lo : Int)
  · rw [if_pos (.inl (by omega))] at hda
    rw [hda]
    exact slow_B1 c b l x sz ai lo hi hx h240 hs hai hsz htk hle hn2 (eq_true hb) H hT
  by_cases hb' : (hi : Int) < (b.toNat : Int)
  · rw [if_pos (.inr (by omega))] at hda
    rw [hda]
    exact slow_B2 c b l x sz ai lo hi hx h240 hs hai hsz htk hle hn2 (eq_false hb) (eq_true hb') H hT
  rw [if_neg (by omega)] at hda
  by_cases h2 : (sz : Int) ≤ 2
  · rw [if_pos (by omega)] at hda
    rw [hda]
    exact slow_C c b l x sz ai lo hi hx h240 hs hai hsz htk hle hn2 (eq_false hb) (eq_false hb') (eq_true h2) H hT
  rw [if_neg (by omega)] at hda
  cases l with
  | nil => simp at hlen; omega
  | cons d l =>
  have hn3 : (((l.length : Nat) : Int) + 1 + 1 + 1 < (sz : Int)) = False := eq_false (by simp at hlen; omega)
  have g0 : ((d :: l).getD 0 0) = d := rfl
  have g1 : ((d :: l).getD 1 0) = l.getD 0 0 := rfl
  rw [g0, g1] at hda
  by_cases hd : (d.toNat : Int) < 128
  · rw [if_pos (.inl (by omega))] at hda
    rw [hda]
    exact slow_D1 c b d l x sz ai lo hi hx h240 hs hai hsz htk hle hn3 (eq_false hb) (eq_false hb') (eq_false h2) (eq_true hd) H hT
  by_cases hd' : (191 : Int) < (d.toNat : Int)
  · rw [if_pos (.inr (by omega))] at hda
    rw [hda]
    exact slow_D2 c b d l x sz ai lo hi hx h240 hs hai hsz htk hle hn3 (eq_false hb) (eq_false hb') (eq_false h2) (eq_false hd) (eq_true hd') H hT
  rw [if_neg (by omega)] at hda
  by_cases h3 : (sz : Int) ≤ 3
  · rw [if_pos (by omega)] at hda
    rw [hda]
    exact slow_E c b d l x sz ai lo hi hx h240 hs hai hsz htk hle hn3 (eq_false hb) (eq_false hb') (eq_false h2) (eq_false hd) (eq_false hd') (eq_true h3) H hT
  rw [if_neg (by omega)] at hda
  cases l with
  | nil => simp at hlen; omega
  | cons e l =>
  have hn4 : (((l.length : Nat) : Int) + 1 + 1 + 1 + 1 < (sz : Int)) = False := eq_false (by simp at hlen; omega)
  have g2 : ((e :: l).getD 0 0) = e := rfl
  rw [g2] at hda
  by_cases he : (e.toNat : Int) < 128
  · rw [if_pos (.inl (by omega))] at hda
    rw [hda]
    exact slow_F1 c b d e l x sz ai lo hi hx h240 hs hai hsz htk hle hn4 (eq_false hb) (eq_false hb') (eq_false h2) (eq_false hd) (eq_false hd') (eq_false h3) (eq_true he) H hT
  by_cases he' : (191 : Int) < (e.toNat : Int)
  · rw [if_pos (.inr (by omega))] at hda
    rw [hda]
    exact slow_F2 c b d e l x sz ai lo hi hx h240 hs hai hsz htk hle hn4 (eq_false hb) (eq_false hb') (eq_false h2) (eq_false hd) (eq_false hd') (eq_false h3) (eq_false he) (eq_true he') H hT
  rw [if_neg (by omega)] at hda
  rw [hda]
  exact slow_G c b d e l x sz ai lo hi hx h240 hs hai hsz htk hle hn4 (eq_false hb) (eq_false hb') (eq_false h2) (eq_false hd) (eq_false hd') (eq_false h3) (eq_false he) (eq_false he') H hT

theorem slow0_sp (H : Hp) : Sp Tryd.prog 60 [.v (.string (tx []))] (fun v H' => v = .tup [.v (.int .i32 65533), .v (.int .i64 0)] ∧ H' = H) H := by
  refine Sp.body [] ⟨[9], [], []⟩ [] mo Tryd.func60 rfl (Nat.le_of_ble_eq_true rfl) (by kernel_rfl) ?_
  simp [ev_seq, ev_cond2, ev_ret, ev_region2, evOps_nil, evOps_cons, opG_none, opA_move, opA_assign, opA_bin, opA_len, putO_some, putH_lt, condB_true, binT_some, binA, avO_some, lenT_str, io_lss, opS, opV, Go.Mx.look, fr0, argSlots, seqK, Fr.known, retK, retA, resA, mapO, orO_some, eqT_some, tk3, Tryd.underlying9, tx_size]
/-- utf8.DecodeRuneInString. -/
theorem decode_sp (l : List UInt8) (H : Hp) (hT : Tb H) : Sp Tryd.prog 41 [.v (.string (tx l))] (fun v H' => v = .tup [.v (.int .i32 ((dec l).1 : Nat)), .v (.int .i64 ((dec l).2 : Nat))] ∧ H' = H) H := by
  refine Sp.body [] ⟨[], [], []⟩ [] mo Tryd.func41 rfl (Nat.le_of_ble_eq_true rfl) (by kernel_rfl) ?_
  cases l with
  | nil =>
    simp [ev_seq, ev_cond2, ev_region2, evOps_nil, evOps_cons, opG_none, opG_some, opJ, opU_ft, isU_bool, opA_move, opA_assign, opA_pick, opA_bin, opA_call, putO_some, putH_lt, putV_lt, condB_false, binT_some, binA, avO_some, pickT, strOp, opS, opV, Go.Mx.look, fr0, argSlots, seqK, Fr.known, mapO, callA, orO_some, eqT_some, tk9, ok60, mk_tx, tx_list]
    refine (slow0_sp H).mono ?_
    rintro v H' ⟨rfl, rfl⟩
    simp [ev_ret, evOps_nil, evOps_cons, opG_none, opA_move, opA_assign, opA_extract, putO_some, putH_lt, putC_lt, extractT, opS, opV, Go.Mx.look, seqK, retK, retA, resA, mapO, extractA, dec]
  | cons c l =>
    by_cases h : (c.toNat : Int) < 128
    · rw [dec_ascii c l (by omega)]
      have w : IntKind.i32.wrap (c.toNat : Int) = c.toNat := wr_i32 (by omega)
      simp [ev_seq, ev_cond2, ev_ret, ev_region2, evOps_nil, evOps_cons, opG_none, opG_some, opJ, opU_ft, isU_bool, opK_eq, opA_move, opA_assign, opA_pick, opA_bin, opA_index, opA_convert, putO_some, putH_lt, condB_true, binT_some, binA, avO_some, pickT, indexT, convV, convT, io_lss, strOp, opS, opV, Go.Mx.look, fr0, argSlots, seqK, Fr.known, retK, retA, resA, mapO, convInt, orO_some, eqT_some, tk5, Tryd.underlying5, tk9, Tryd.underlying9, Tryd.underlying21, mk_tx, tx_list, u8A, indexStr_tx0, h, w]
    · simp [ev_seq, ev_cond2, ev_region2, evOps_nil, evOps_cons, opG_none, opG_some, opJ, opU_ft, isU_bool, opK_eq, opA_move, opA_assign, opA_pick, opA_bin, opA_index, opA_call, putO_some, putH_lt, condB_true, condB_false, binT_some, binA, avO_some, pickT, indexT, io_lss, strOp, opS, opV, Go.Mx.look, fr0, argSlots, seqK, Fr.known, mapO, callA, orO_some, eqT_some, tk5, tk9, Tryd.underlying9, ok60, mk_tx, tx_list, u8A, indexStr_tx0, h]
      refine (slow_sp c l (by omega) H hT).mono ?_
      rintro v H' ⟨rfl, rfl⟩
      simp [ev_ret, evOps_nil, evOps_cons, opG_none, opA_move, opA_assign, opA_extract, putO_some, putH_lt, putC_lt, extractT, opS, opV, Go.Mx.look, seqK, retK, retA, resA, mapO, extractA]
end Go.Proofs.YtoakdmkjlpjahaaDoor
