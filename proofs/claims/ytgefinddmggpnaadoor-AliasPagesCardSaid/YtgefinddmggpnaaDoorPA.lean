import Derived.Test.YtgefinddmggpnaaDoorRows
import Derived.Test.YtgefinddmggpnaaDoorMxR
import Derived.Test.YtgefinddmggpnaaDoorMxSd
import Derived.Lib.Bytealg
import Derived.Lib.IndexLaws
import Derived.Test.YtgefinddmggpnaaDoorMxSg
import Derived.Test.YtgefinddmggpnaaDoorMxSb
namespace Go.Proofs.YtgefinddmggpnaaDoor
open Go.Mx
theorem sz2 : szT Tryd.prog 2 = some 1 := by kernel_rfl
theorem ag2 : aggT Tryd.prog 2 = some false := by kernel_rfl
theorem tk2 : tkOf Tryd.prog 2 = .num := by kernel_rfl
theorem by2 : (Tryd.prog.info? 2).map (·.bytes) = some 8 := by kernel_rfl
theorem ze2 : zerosT Tryd.prog 2 = some [.v (.int .i64 0)] := by kernel_rfl
theorem sz3 : szT Tryd.prog 3 = some 1 := by kernel_rfl
theorem ag3 : aggT Tryd.prog 3 = some false := by kernel_rfl
theorem tk3 : tkOf Tryd.prog 3 = .num := by kernel_rfl
theorem by3 : (Tryd.prog.info? 3).map (·.bytes) = some 8 := by kernel_rfl
theorem ze3 : zerosT Tryd.prog 3 = some [.v (.int .i64 0)] := by kernel_rfl
theorem sz4 : szT Tryd.prog 4 = some 1 := by kernel_rfl
theorem ag4 : aggT Tryd.prog 4 = some false := by kernel_rfl
theorem tk4 : tkOf Tryd.prog 4 = .bool := by kernel_rfl
theorem by4 : (Tryd.prog.info? 4).map (·.bytes) = some 1 := by kernel_rfl
theorem ze4 : zerosT Tryd.prog 4 = some [.v (.bool false)] := by kernel_rfl
theorem sz5 : szT Tryd.prog 5 = some 1 := by kernel_rfl
theorem ag5 : aggT Tryd.prog 5 = some false := by kernel_rfl
theorem tk5 : tkOf Tryd.prog 5 = .num := by kernel_rfl
theorem by5 : (Tryd.prog.info? 5).map (·.bytes) = some 1 := by kernel_rfl
theorem ze5 : zerosT Tryd.prog 5 = some [.v (.int .u8 0)] := by kernel_rfl
theorem sz9 : szT Tryd.prog 9 = some 1 := by kernel_rfl
theorem ag9 : aggT Tryd.prog 9 = some false := by kernel_rfl
theorem tk9 : tkOf Tryd.prog 9 = .str := by kernel_rfl
theorem st9 : isStrTy Tryd.prog 9 = some true := by kernel_rfl
theorem by9 : (Tryd.prog.info? 9).map (·.bytes) = some 16 := by kernel_rfl
theorem ze9 : zerosT Tryd.prog 9 = some [.v (.string ⟨#[]⟩)] := by kernel_rfl
theorem sz21 : szT Tryd.prog 21 = some 1 := by kernel_rfl
theorem ag21 : aggT Tryd.prog 21 = some false := by kernel_rfl
theorem tk21 : tkOf Tryd.prog 21 = .num := by kernel_rfl
theorem by21 : (Tryd.prog.info? 21).map (·.bytes) = some 4 := by kernel_rfl
theorem ze21 : zerosT Tryd.prog 21 = some [.v (.int .i32 0)] := by kernel_rfl
theorem sz22 : szT Tryd.prog 22 = some 1 := by kernel_rfl
theorem ag22 : aggT Tryd.prog 22 = some false := by kernel_rfl
theorem tk22 : tkOf Tryd.prog 22 = .slice := by kernel_rfl
theorem st22 : isStrTy Tryd.prog 22 = some false := by kernel_rfl
theorem by22 : (Tryd.prog.info? 22).map (·.bytes) = some 24 := by kernel_rfl
theorem ze22 : zerosT Tryd.prog 22 = some [.v (.slice none 0 0)] := by kernel_rfl
theorem sz24 : szT Tryd.prog 24 = some 1 := by kernel_rfl
theorem ag24 : aggT Tryd.prog 24 = some false := by kernel_rfl
theorem tk24 : tkOf Tryd.prog 24 = .ptr := by kernel_rfl
theorem by24 : (Tryd.prog.info? 24).map (·.bytes) = some 8 := by kernel_rfl
theorem ze24 : zerosT Tryd.prog 24 = some [.v (.pointer none)] := by kernel_rfl
theorem sz26 : szT Tryd.prog 26 = some 1 := by kernel_rfl
theorem ag26 : aggT Tryd.prog 26 = some false := by kernel_rfl
theorem tk26 : tkOf Tryd.prog 26 = .slice := by kernel_rfl
theorem st26 : isStrTy Tryd.prog 26 = some false := by kernel_rfl
theorem by26 : (Tryd.prog.info? 26).map (·.bytes) = some 24 := by kernel_rfl
theorem ze26 : zerosT Tryd.prog 26 = some [.v (.slice none 0 0)] := by kernel_rfl
theorem sz30 : szT Tryd.prog 30 = some 4 := by kernel_rfl
theorem ag30 : aggT Tryd.prog 30 = some true := by kernel_rfl
theorem tk30 : tkOf Tryd.prog 30 = .other := by kernel_rfl
theorem by30 : (Tryd.prog.info? 30).map (·.bytes) = some 56 := by kernel_rfl
theorem ze30 : zerosT Tryd.prog 30 = some [.v (.string ⟨#[]⟩), .v (.string ⟨#[]⟩), .v (.string ⟨#[]⟩), .v (.int .i64 0)] := by kernel_rfl
theorem of30 : offsT Tryd.prog 30 = some [(0, 1), (1, 1), (2, 1), (3, 1)] := by kernel_rfl
theorem sz35 : szT Tryd.prog 35 = some 8 := by kernel_rfl
theorem ag35 : aggT Tryd.prog 35 = some true := by kernel_rfl
theorem tk35 : tkOf Tryd.prog 35 = .other := by kernel_rfl
theorem by35 : (Tryd.prog.info? 35).map (·.bytes) = some 112 := by kernel_rfl
theorem ze35 : zerosT Tryd.prog 35 = some [.v (.int .i64 0), .v (.string ⟨#[]⟩), .v (.string ⟨#[]⟩), .v (.string ⟨#[]⟩), .v (.string ⟨#[]⟩), .v (.string ⟨#[]⟩), .v (.string ⟨#[]⟩), .v (.int .i64 0)] := by kernel_rfl
theorem of35 : offsT Tryd.prog 35 = some [(0, 1), (1, 1), (2, 1), (3, 1), (4, 4)] := by kernel_rfl
theorem sz36 : szT Tryd.prog 36 = some 1 := by kernel_rfl
theorem ag36 : aggT Tryd.prog 36 = some false := by kernel_rfl
theorem tk36 : tkOf Tryd.prog 36 = .num := by kernel_rfl
theorem by36 : (Tryd.prog.info? 36).map (·.bytes) = some 8 := by kernel_rfl
theorem ze36 : zerosT Tryd.prog 36 = some [.v (.int .i64 0)] := by kernel_rfl
theorem sz41 : szT Tryd.prog 41 = some 3 := by kernel_rfl
theorem ag41 : aggT Tryd.prog 41 = some true := by kernel_rfl
theorem tk41 : tkOf Tryd.prog 41 = .other := by kernel_rfl
theorem by41 : (Tryd.prog.info? 41).map (·.bytes) = some 32 := by kernel_rfl
theorem ze41 : zerosT Tryd.prog 41 = some [.v (.string ⟨#[]⟩), .v (.int .i64 0), .v (.int .i64 0)] := by kernel_rfl
theorem of41 : offsT Tryd.prog 41 = some [(0, 1), (1, 1), (2, 1)] := by kernel_rfl
theorem sz42 : szT Tryd.prog 42 = some 1 := by kernel_rfl
theorem ag42 : aggT Tryd.prog 42 = some false := by kernel_rfl
theorem tk42 : tkOf Tryd.prog 42 = .map := by kernel_rfl
theorem by42 : (Tryd.prog.info? 42).map (·.bytes) = some 8 := by kernel_rfl
theorem ze42 : zerosT Tryd.prog 42 = some [.v (.map none)] := by kernel_rfl
theorem sz43 : szT Tryd.prog 43 = some 1 := by kernel_rfl
theorem ag43 : aggT Tryd.prog 43 = some false := by kernel_rfl
theorem tk43 : tkOf Tryd.prog 43 = .map := by kernel_rfl
theorem by43 : (Tryd.prog.info? 43).map (·.bytes) = some 8 := by kernel_rfl
theorem ze43 : zerosT Tryd.prog 43 = some [.v (.map none)] := by kernel_rfl
theorem sz45 : szT Tryd.prog 45 = some 3 := by kernel_rfl
theorem ag45 : aggT Tryd.prog 45 = some true := by kernel_rfl
theorem tk45 : tkOf Tryd.prog 45 = .other := by kernel_rfl
theorem by45 : (Tryd.prog.info? 45).map (·.bytes) = some 32 := by kernel_rfl
theorem ze45 : zerosT Tryd.prog 45 = some [.v (.string ⟨#[]⟩), .v (.map none), .v (.map none)] := by kernel_rfl
theorem of45 : offsT Tryd.prog 45 = some [(0, 1), (1, 1), (2, 1)] := by kernel_rfl
theorem sz46 : szT Tryd.prog 46 = some 1 := by kernel_rfl
theorem ag46 : aggT Tryd.prog 46 = some false := by kernel_rfl
theorem tk46 : tkOf Tryd.prog 46 = .slice := by kernel_rfl
theorem st46 : isStrTy Tryd.prog 46 = some false := by kernel_rfl
theorem by46 : (Tryd.prog.info? 46).map (·.bytes) = some 24 := by kernel_rfl
theorem ze46 : zerosT Tryd.prog 46 = some [.v (.slice none 0 0)] := by kernel_rfl
theorem sz50 : szT Tryd.prog 50 = some 1 := by kernel_rfl
theorem ag50 : aggT Tryd.prog 50 = some false := by kernel_rfl
theorem tk50 : tkOf Tryd.prog 50 = .slice := by kernel_rfl
theorem st50 : isStrTy Tryd.prog 50 = some false := by kernel_rfl
theorem by50 : (Tryd.prog.info? 50).map (·.bytes) = some 24 := by kernel_rfl
theorem ze50 : zerosT Tryd.prog 50 = some [.v (.slice none 0 0)] := by kernel_rfl
theorem sz61 : szT Tryd.prog 61 = some 1 := by kernel_rfl
theorem ag61 : aggT Tryd.prog 61 = some false := by kernel_rfl
theorem tk61 : tkOf Tryd.prog 61 = .slice := by kernel_rfl
theorem st61 : isStrTy Tryd.prog 61 = some false := by kernel_rfl
theorem by61 : (Tryd.prog.info? 61).map (·.bytes) = some 24 := by kernel_rfl
theorem ze61 : zerosT Tryd.prog 61 = some [.v (.slice none 0 0)] := by kernel_rfl
theorem sz64 : szT Tryd.prog 64 = some 1 := by kernel_rfl
theorem ag64 : aggT Tryd.prog 64 = some false := by kernel_rfl
theorem tk64 : tkOf Tryd.prog 64 = .slice := by kernel_rfl
theorem st64 : isStrTy Tryd.prog 64 = some false := by kernel_rfl
theorem by64 : (Tryd.prog.info? 64).map (·.bytes) = some 24 := by kernel_rfl
theorem ze64 : zerosT Tryd.prog 64 = some [.v (.slice none 0 0)] := by kernel_rfl
theorem sz72 : szT Tryd.prog 72 = some 2 := by kernel_rfl
theorem ag72 : aggT Tryd.prog 72 = some true := by kernel_rfl
theorem tk72 : tkOf Tryd.prog 72 = .other := by kernel_rfl
theorem by72 : (Tryd.prog.info? 72).map (·.bytes) = some 32 := by kernel_rfl
theorem ze72 : zerosT Tryd.prog 72 = some [.v (.string ⟨#[]⟩), .v (.string ⟨#[]⟩)] := by kernel_rfl
theorem of72 : offsT Tryd.prog 72 = some [(0, 1), (1, 1)] := by kernel_rfl
theorem sz78 : szT Tryd.prog 78 = some 1 := by kernel_rfl
theorem ag78 : aggT Tryd.prog 78 = some false := by kernel_rfl
theorem tk78 : tkOf Tryd.prog 78 = .num := by kernel_rfl
theorem by78 : (Tryd.prog.info? 78).map (·.bytes) = some 8 := by kernel_rfl
theorem ze78 : zerosT Tryd.prog 78 = some [.v (.int .u64 0)] := by kernel_rfl
theorem sz93 : szT Tryd.prog 93 = some 1 := by kernel_rfl
theorem ag93 : aggT Tryd.prog 93 = some false := by kernel_rfl
theorem tk93 : tkOf Tryd.prog 93 = .slice := by kernel_rfl
theorem st93 : isStrTy Tryd.prog 93 = some false := by kernel_rfl
theorem by93 : (Tryd.prog.info? 93).map (·.bytes) = some 24 := by kernel_rfl
theorem ze93 : zerosT Tryd.prog 93 = some [.v (.slice none 0 0)] := by kernel_rfl
theorem sz97 : szT Tryd.prog 97 = some 2 := by kernel_rfl
theorem ag97 : aggT Tryd.prog 97 = some true := by kernel_rfl
theorem tk97 : tkOf Tryd.prog 97 = .other := by kernel_rfl
theorem by97 : (Tryd.prog.info? 97).map (·.bytes) = some 8 := by kernel_rfl
theorem ze97 : zerosT Tryd.prog 97 = some [.v (.int .i32 0), .v (.bool false)] := by kernel_rfl
theorem of97 : offsT Tryd.prog 97 = some [(0, 1), (1, 1)] := by kernel_rfl
theorem sz135 : szT Tryd.prog 135 = some 256 := by kernel_rfl
theorem ag135 : aggT Tryd.prog 135 = some true := by kernel_rfl
theorem tk135 : tkOf Tryd.prog 135 = .other := by kernel_rfl
theorem by135 : (Tryd.prog.info? 135).map (·.bytes) = some 256 := by kernel_rfl
theorem sz137 : szT Tryd.prog 137 = some 2 := by kernel_rfl
theorem ag137 : aggT Tryd.prog 137 = some true := by kernel_rfl
theorem tk137 : tkOf Tryd.prog 137 = .other := by kernel_rfl
theorem by137 : (Tryd.prog.info? 137).map (·.bytes) = some 2 := by kernel_rfl
theorem ze137 : zerosT Tryd.prog 137 = some [.v (.int .u8 0), .v (.int .u8 0)] := by kernel_rfl
theorem of137 : offsT Tryd.prog 137 = some [(0, 1), (1, 1)] := by kernel_rfl
theorem sz138 : szT Tryd.prog 138 = some 32 := by kernel_rfl
theorem ag138 : aggT Tryd.prog 138 = some true := by kernel_rfl
theorem tk138 : tkOf Tryd.prog 138 = .other := by kernel_rfl
theorem by138 : (Tryd.prog.info? 138).map (·.bytes) = some 32 := by kernel_rfl
theorem ze138 : zerosT Tryd.prog 138 = some [.v (.int .u8 0), .v (.int .u8 0), .v (.int .u8 0), .v (.int .u8 0), .v (.int .u8 0), .v (.int .u8 0), .v (.int .u8 0), .v (.int .u8 0), .v (.int .u8 0), .v (.int .u8 0), .v (.int .u8 0), .v (.int .u8 0), .v (.int .u8 0), .v (.int .u8 0), .v (.int .u8 0), .v (.int .u8 0), .v (.int .u8 0), .v (.int .u8 0), .v (.int .u8 0), .v (.int .u8 0), .v (.int .u8 0), .v (.int .u8 0), .v (.int .u8 0), .v (.int .u8 0), .v (.int .u8 0), .v (.int .u8 0), .v (.int .u8 0), .v (.int .u8 0), .v (.int .u8 0), .v (.int .u8 0), .v (.int .u8 0), .v (.int .u8 0)] := by kernel_rfl
theorem of138 : offsT Tryd.prog 138 = some [(0, 2), (2, 2), (4, 2), (6, 2), (8, 2), (10, 2), (12, 2), (14, 2), (16, 2), (18, 2), (20, 2), (22, 2), (24, 2), (26, 2), (28, 2), (30, 2)] := by kernel_rfl
theorem mo : Tryd.prog.follows .mixedOrders = true := by kernel_rfl
theorem ok3 : bodyOk Tryd.prog 3 = true := by kernel_rfl
theorem ok4 : bodyOk Tryd.prog 4 = true := by kernel_rfl
theorem ok5 : bodyOk Tryd.prog 5 = true := by kernel_rfl
theorem ok6 : bodyOk Tryd.prog 6 = true := by kernel_rfl
theorem ok7 : bodyOk Tryd.prog 7 = true := by kernel_rfl
theorem ok8 : bodyOk Tryd.prog 8 = true := by kernel_rfl
theorem ok9 : bodyOk Tryd.prog 9 = true := by kernel_rfl
theorem ok10 : bodyOk Tryd.prog 10 = true := by kernel_rfl
theorem ok11 : bodyOk Tryd.prog 11 = true := by kernel_rfl
theorem ok12 : bodyOk Tryd.prog 12 = true := by kernel_rfl
theorem ok13 : bodyOk Tryd.prog 13 = true := by kernel_rfl
theorem ok14 : bodyOk Tryd.prog 14 = true := by kernel_rfl
theorem ok15 : bodyOk Tryd.prog 15 = true := by kernel_rfl
theorem ok16 : bodyOk Tryd.prog 16 = true := by kernel_rfl
theorem ok17 : bodyOk Tryd.prog 17 = true := by kernel_rfl
theorem ok18 : bodyOk Tryd.prog 18 = true := by kernel_rfl
theorem ok19 : bodyOk Tryd.prog 19 = true := by kernel_rfl
theorem ok21 : bodyOk Tryd.prog 21 = true := by kernel_rfl
theorem ok22 : bodyOk Tryd.prog 22 = true := by kernel_rfl
theorem ok23 : bodyOk Tryd.prog 23 = true := by kernel_rfl
theorem ok24 : bodyOk Tryd.prog 24 = true := by kernel_rfl
theorem ok25 : bodyOk Tryd.prog 25 = true := by kernel_rfl
theorem ok26 : bodyOk Tryd.prog 26 = true := by kernel_rfl
theorem ok27 : bodyOk Tryd.prog 27 = true := by kernel_rfl
theorem ok28 : bodyOk Tryd.prog 28 = true := by kernel_rfl
theorem ok29 : bodyOk Tryd.prog 29 = true := by kernel_rfl
theorem ok30 : bodyOk Tryd.prog 30 = true := by kernel_rfl
theorem ok32 : bodyOk Tryd.prog 32 = true := by kernel_rfl
theorem ok33 : bodyOk Tryd.prog 33 = true := by kernel_rfl
theorem ok38 : bodyOk Tryd.prog 38 = true := by kernel_rfl
theorem ok39 : bodyOk Tryd.prog 39 = true := by kernel_rfl
theorem ok40 : bodyOk Tryd.prog 40 = true := by kernel_rfl
theorem ok41 : bodyOk Tryd.prog 41 = true := by kernel_rfl
theorem ok42 : bodyOk Tryd.prog 42 = true := by kernel_rfl
theorem ok43 : bodyOk Tryd.prog 43 = true := by kernel_rfl
theorem ok44 : bodyOk Tryd.prog 44 = true := by kernel_rfl
theorem ok46 : bodyOk Tryd.prog 46 = true := by kernel_rfl
theorem ok47 : bodyOk Tryd.prog 47 = true := by kernel_rfl
theorem ok48 : bodyOk Tryd.prog 48 = true := by kernel_rfl
theorem ok49 : bodyOk Tryd.prog 49 = true := by kernel_rfl
theorem ok50 : bodyOk Tryd.prog 50 = true := by kernel_rfl
theorem ok51 : bodyOk Tryd.prog 51 = true := by kernel_rfl
theorem ok52 : bodyOk Tryd.prog 52 = true := by kernel_rfl
theorem ok53 : bodyOk Tryd.prog 53 = true := by kernel_rfl
theorem ok64 : bodyOk Tryd.prog 64 = true := by kernel_rfl
theorem ok65 : bodyOk Tryd.prog 65 = true := by kernel_rfl
theorem ok66 : bodyOk Tryd.prog 66 = true := by kernel_rfl
theorem ok67 : bodyOk Tryd.prog 67 = true := by kernel_rfl
theorem ok68 : bodyOk Tryd.prog 68 = true := by kernel_rfl
theorem ok69 : bodyOk Tryd.prog 69 = true := by kernel_rfl
theorem ok79 : bodyOk Tryd.prog 79 = true := by kernel_rfl
theorem ok80 : bodyOk Tryd.prog 80 = true := by kernel_rfl
theorem ok86 : bodyOk Tryd.prog 86 = true := by kernel_rfl
theorem ok87 : bodyOk Tryd.prog 87 = true := by kernel_rfl
theorem ok88 : bodyOk Tryd.prog 88 = true := by kernel_rfl
theorem ok92 : bodyOk Tryd.prog 92 = true := by kernel_rfl
theorem ok94 : bodyOk Tryd.prog 94 = true := by kernel_rfl
theorem ok96 : bodyOk Tryd.prog 96 = true := by kernel_rfl
def pl4 : List (Nat × List Stp) := [(14, [.q 0, .q 1, .q 2, .q 3, .q 4, .q 5, .q 6, .q 7]), (16, [.q 0, .q 1, .q 2, .q 3, .q 4, .q 5])]
def tb4 : List (Nat × List Ent) := [(14, [⟨0, 128, 50, 1⟩, ⟨0, 1024, 51, 1⟩, ⟨3, 1688849860263936, 52, 1⟩, ⟨4, 2251799813685248, 53, 1⟩, ⟨8, 4503599627370496, 54, 1⟩, ⟨0, 8, 55, 1⟩, ⟨32, 18014398509481984, 56, 1⟩, ⟨80, 45035996273704960, 57, 1⟩]), (16, [⟨0, 128, 60, 1⟩, ⟨0, 1024, 61, 1⟩, ⟨3, 1729382256910270464, 62, 1⟩, ⟨4, 2305843009213693952, 63, 1⟩, ⟨0, 8, 64, 1⟩, ⟨24, 13835058055282163712, 65, 1⟩])]
def pl6 : List (Nat × List Stp) := [(6, [.q 0, .q 1, .q 2, .q 3, .q 4, .q 5, .q 6, .q 7, .q 8, .q 9, .q 10, .q 11, .q 12, .q 13, .q 14, .q 15, .q 16, .q 17, .q 18, .q 19, .q 20, .q 21, .q 22, .q 23, .q 24, .q 25, .q 26, .q 27, .q 28, .q 29, .q 30, .q 31, .q 32, .q 33, .q 34, .q 35, .q 36, .q 37, .q 38, .q 39, .q 40, .q 41, .q 42, .q 43, .q 44, .q 45, .q 46, .q 47, .q 48, .q 49, .q 50])]
def tb6 : List (Nat × List Ent) := [(6, [⟨0, 1, 14, 1⟩, ⟨0, 8, 15, 1⟩, ⟨3, 24576, 16, 1⟩, ⟨4, 32768, 17, 1⟩, ⟨8, 65536, 18, 1⟩, ⟨16, 131072, 19, 1⟩, ⟨0, 1, 20, 1⟩, ⟨0, 8, 21, 1⟩, ⟨192, 1572864, 22, 1⟩, ⟨256, 2097152, 23, 1⟩, ⟨512, 4194304, 24, 1⟩, ⟨1024, 8388608, 25, 1⟩, ⟨2080, 17039360, 26, 1⟩, ⟨0, 1, 27, 1⟩, ⟨0, 8, 28, 1⟩, ⟨24576, 201326592, 29, 1⟩, ⟨32768, 268435456, 30, 1⟩, ⟨65536, 536870912, 31, 1⟩, ⟨131072, 1073741824, 32, 1⟩, ⟨266240, 2181038080, 33, 1⟩, ⟨524288, 4294967296, 34, 1⟩, ⟨1048576, 8589934592, 35, 1⟩, ⟨2097152, 17179869185, 36, 1⟩, ⟨2097152, 17179869192, 37, 1⟩, ⟨14680064, 120259084288, 38, 1⟩, ⟨18874368, 154618822656, 39, 1⟩, ⟨35651584, 292057776128, 40, 1⟩, ⟨69206016, 566935683072, 41, 1⟩, ⟨136314880, 1116691496960, 42, 1⟩, ⟨270532608, 2216203124736, 43, 1⟩, ⟨538968064, 4415226380288, 44, 1⟩, ⟨1075838976, 8796093022208, 45, 1⟩, ⟨2147483648, 17592186044417, 46, 1⟩, ⟨2147483648, 17592186044424, 47, 1⟩, ⟨15032385536, 123145302310912, 48, 1⟩, ⟨19327352832, 158329674399744, 49, 1⟩, ⟨36507222016, 299067162755072, 50, 1⟩, ⟨70866960384, 580542139465728, 51, 1⟩, ⟨139586437120, 1143492092887040, 52, 1⟩, ⟨277025390592, 2269391999729664, 53, 1⟩, ⟨551903297536, 4521191813414912, 54, 1⟩, ⟨1101659111424, 9007199254740992, 55, 1⟩, ⟨2199023255552, 18014398509481985, 56, 1⟩, ⟨2199023255552, 18014398509481992, 57, 1⟩, ⟨15393162788864, 126100789566373888, 58, 1⟩, ⟨19791209299968, 162129586585337856, 59, 1⟩, ⟨37383395344384, 306244774661193728, 60, 1⟩, ⟨72567767433216, 594475150812905472, 61, 1⟩, ⟨142936511610880, 1170935903116328960, 62, 1⟩, ⟨283673999966208, 2323857407723175936, 63, 1⟩, ⟨565148976676864, 4629700416936869888, 64, 1⟩])]
def pl7 : List (Nat × List Stp) := [(7, [.q 0, .q 1, .q 2, .q 3, .q 4, .q 5, .q 6, .q 7, .q 8, .q 9, .q 10, .q 11, .q 12, .q 13, .q 14, .q 15, .s 16 [] [0, 5, 10, 15, 4, 9, 14, 3, 8, 13, 1, 2, 6, 7, 11, 12]]), (9, [.q 0, .q 1, .q 2, .q 3, .q 4, .q 5, .q 6, .q 7, .q 8, .q 9, .q 10, .s 11 [] [0, 5, 10, 4, 9, 3, 8, 1, 2, 6, 7]])]
def tb7 : List (Nat × List Ent) := [(7, [⟨0, 8, 24, 1⟩, ⟨0, 1, 25, 1⟩, ⟨0, 32, 26, 1⟩, ⟨6, 50331648, 27, 1⟩, ⟨8, 67108864, 28, 1⟩, ⟨16, 134217728, 29, 1⟩, ⟨0, 1, 30, 1⟩, ⟨0, 32, 31, 1⟩, ⟨192, 1610612736, 32, 1⟩, ⟨256, 2147483648, 33, 1⟩, ⟨512, 4294967296, 34, 1⟩, ⟨0, 1, 35, 1⟩, ⟨0, 32, 36, 1⟩, ⟨6144, 51539607552, 37, 1⟩, ⟨8192, 68719476736, 38, 1⟩, ⟨16384, 137438953472, 39, 1⟩, ⟨33825, 283744665600, 40, 0⟩]), (9, [⟨0, 8, 43, 1⟩, ⟨0, 1, 44, 1⟩, ⟨0, 32, 45, 1⟩, ⟨6, 26388279066624, 46, 1⟩, ⟨8, 35184372088832, 47, 1⟩, ⟨16, 70368744177664, 48, 1⟩, ⟨0, 1, 49, 1⟩, ⟨0, 32, 50, 1⟩, ⟨192, 844424930131968, 51, 1⟩, ⟨256, 1125899906842624, 52, 1⟩, ⟨512, 2251799813685248, 53, 1⟩, ⟨1057, 4648735162236928, 54, 0⟩])]
def pl9 : List (Nat × List Stp) := [(6, [.q 0, .q 1, .q 2, .q 3, .q 4, .q 5, .q 6, .q 7, .q 8])]
def tb9 : List (Nat × List Ent) := [(6, [⟨0, 1, 18, 1⟩, ⟨0, 32, 19, 1⟩, ⟨3, 393216, 20, 1⟩, ⟨4, 524288, 21, 1⟩, ⟨0, 2, 22, 1⟩, ⟨0, 32, 23, 1⟩, ⟨48, 6291456, 24, 1⟩, ⟨64, 8388608, 25, 1⟩, ⟨136, 17825792, 26, 1⟩])]
def pl11 : List (Nat × List Stp) := [(3, [.q 0, .q 1, .q 2, .q 3, .q 4, .q 5, .q 6, .s 7 [] [3, 5, 6, 0, 1, 2, 4]])]
def tb11 : List (Nat × List Ent) := [(3, [⟨0, 1, 31, 1⟩, ⟨1, 1073741824, 32, 1⟩, ⟨2, 2147483648, 33, 1⟩, ⟨4, 4294967296, 34, 1⟩, ⟨0, 8, 35, 1⟩, ⟨16, 17179869184, 36, 1⟩, ⟨0, 8, 37, 1⟩, ⟨127, 111669149696, 0, 0⟩])]
def pl21 : List (Nat × List Stp) := [(1, [.q 0, .q 1, .q 2, .q 3, .q 5, .q 6, .q 7, .q 8, .s 4 [5, 6, 7, 8] [1, 3, 0, 2], .s 9 [] [6, 8, 4, 5, 7, 1, 3, 0, 2], .q 10, .s 11 [] [10, 9, 4, 6, 8, 1, 3, 5, 7, 0, 2], .s 12 [] [11, 0, 1, 2, 3, 4, 5, 6, 7, 8, 9, 10]])]
def tb21 : List (Nat × List Ent) := [(1, [⟨0, 8, 6, 1⟩, ⟨1, 32, 7, 1⟩, ⟨0, 4, 8, 1⟩, ⟨4, 128, 9, 1⟩, ⟨10, 320, 10, 0⟩, ⟨0, 4, 11, 1⟩, ⟨32, 1024, 12, 1⟩, ⟨0, 8, 13, 1⟩, ⟨128, 4096, 14, 1⟩, ⟨336, 10240, 15, 0⟩, ⟨528, 16896, 16, 1⟩, ⟨1536, 32768, 17, 0⟩, ⟨4095, 65536, 5, 0⟩])]
def pl25 : List (Nat × List Stp) := [(6, [.q 0, .q 1, .q 2, .q 3, .q 4, .q 5, .q 6, .s 7 [1, 2, 3, 4, 5, 6] [0], .s 8 [] [6, 7, 0, 1, 2, 3, 4, 5]])]
def tb25 : List (Nat × List Ent) := [(6, [⟨0, 512, 27, 1⟩, ⟨0, 512, 28, 1⟩, ⟨0, 4, 29, 1⟩, ⟨4, 268435456, 30, 1⟩, ⟨10, 671088640, 31, 1⟩, ⟨16, 1073741824, 32, 1⟩, ⟨32, 2147483648, 33, 1⟩, ⟨1, 67108864, 7, 0⟩, ⟨255, 4294967296, 8, 0⟩])]
def pl26 : List (Nat × List Stp) := [(9, [.q 0, .q 1, .q 2, .q 3, .q 4, .q 5, .q 6, .s 7 [0] [3, 6, 1, 2, 4, 5], .q 8, .s 9 [] [8, 7, 0, 1, 2, 3, 4, 5, 6]])]
def tb26 : List (Nat × List Ent) := [(9, [⟨0, 256, 39, 1⟩, ⟨0, 128, 40, 1⟩, ⟨0, 256, 41, 1⟩, ⟨6, 1649267441664, 42, 1⟩, ⟨0, 128, 43, 1⟩, ⟨0, 256, 44, 1⟩, ⟨48, 13194139533312, 45, 1⟩, ⟨72, 19791209299968, 46, 0⟩, ⟨129, 35459249995776, 47, 1⟩, ⟨511, 70368744177664, 9, 0⟩])]
def pl87 : List (Nat × List Stp) := [(3, [.q 0, .q 1, .q 2, .q 3, .q 4, .q 5, .q 6, .q 7, .q 8, .s 9 [3, 4, 5, 6, 7, 8] [2, 0, 1], .s 10 [] [8, 9, 0, 1, 2, 3, 4, 5, 6, 7], .s 11 [] [10, 0, 1, 2, 3, 4, 5, 6, 7, 8, 9]])]
def tb87 : List (Nat × List Ent) := [(3, [⟨0, 1, 14, 1⟩, ⟨0, 128, 15, 1⟩, ⟨3, 24576, 16, 1⟩, ⟨0, 1, 17, 1⟩, ⟨0, 128, 18, 1⟩, ⟨0, 2, 19, 1⟩, ⟨32, 262144, 20, 1⟩, ⟨80, 655360, 21, 1⟩, ⟨136, 1114112, 22, 1⟩, ⟨7, 32768, 5, 0⟩, ⟨1023, 2097152, 6, 0⟩, ⟨2047, 0, 7, 0⟩])]
def pl3 : List (Nat × List Stp) := [(20, [.q 0, .q 1, .q 2, .q 3, .q 4, .q 5, .q 6, .q 7, .q 8, .q 9, .q 10, .q 11, .q 12, .q 13, .q 14, .q 15, .q 16, .q 17, .q 18, .q 19, .q 20, .q 21, .q 22, .q 23, .q 24, .q 25, .q 26, .q 27, .q 28, .q 29, .q 30, .q 31, .q 32, .q 33, .q 34, .q 35, .q 36, .q 37, .q 38, .q 39])]
def tb3 : List (Nat × List Ent) := [(20, [⟨0, 256, 72, 1⟩, ⟨0, 32768, 73, 1⟩, ⟨2, 4722366482869645213696, 74, 1⟩, ⟨5, 11805916207174113034240, 75, 1⟩, ⟨8, 18889465931478580854784, 76, 1⟩, ⟨16, 37778931862957161709568, 77, 1⟩, ⟨0, 256, 78, 1⟩, ⟨0, 32768, 79, 1⟩, ⟨192, 453347182355485940514816, 80, 1⟩, ⟨256, 604462909807314587353088, 81, 1⟩, ⟨512, 1208925819614629174706176, 82, 1⟩, ⟨1056, 2493409502955172672831488, 83, 1⟩, ⟨2048, 4835703278458516698824704, 84, 1⟩, ⟨4096, 9671406556917033397649664, 85, 1⟩, ⟨4096, 9671406556917033397682176, 86, 1⟩, ⟨20480, 48357032784585166988247040, 87, 1⟩, ⟨45056, 106385472126087367374143488, 88, 1⟩, ⟨69632, 164413911467589567760039936, 89, 1⟩, ⟨135168, 319156416378262102122430464, 90, 1⟩, ⟨4096, 9671406556917033397649664, 91, 1⟩, ⟨4096, 9671406556917033397682176, 92, 1⟩, ⟨1576960, 3723491524413057858095022080, 93, 1⟩, ⟨2101248, 4961431563698438132994146304, 94, 1⟩, ⟨4198400, 9913191720839959232590643200, 95, 1⟩, ⟨8654848, 20435682054765691569233199104, 96, 1⟩, ⟨16781312, 39623752663689085830169624576, 97, 1⟩, ⟨33554432, 79228162514264337593543950592, 98, 1⟩, ⟨33554432, 79228162514264337593543983104, 99, 1⟩, ⟨167772160, 396140812571321687967719751680, 100, 1⟩, ⟨369098752, 871509787656907713528983453696, 101, 1⟩, ⟨570425344, 1346878762742493739090247155712, 102, 1⟩, ⟨1107296256, 2614529362970723140586950361088, 103, 1⟩, ⟨33554432, 79228162514264337593543950592, 104, 1⟩, ⟨33554432, 79228162514264337593543983104, 105, 1⟩, ⟨12918456320, 30502842567991769973514420879360, 106, 1⟩, ⟨17213423616, 40644047369817605185488046522368, 107, 1⟩, ⟨34393292800, 81208866577120946033382549094400, 108, 1⟩, ⟨70900514816, 167409107392640545335158367059968, 109, 1⟩, ⟨137472512000, 324597791492347548037782962176000, 110, 1⟩, ⟨274877911040, 649037116988260010483345438801920, 111, 1⟩])]
def pl53 : List (Nat × List Stp) := [(7, [.q 0, .q 1, .q 2, .q 3, .q 4, .q 5, .q 6, .q 7, .q 8, .s 9 [] [8, 4, 7, 3, 5, 6, 0, 2, 1], .q 10, .q 11, .q 12, .q 13, .q 14, .q 15, .q 16, .q 17, .q 18, .q 19, .q 20, .q 21, .s 22 [] [21, 10, 4, 20, 9, 3, 19, 8, 0, 2, 14, 18, 7, 1, 13, 17, 5, 6, 11, 12, 15, 16]])]
def tb53 : List (Nat × List Ent) := [(7, [⟨0, 32, 31, 1⟩, ⟨0, 1, 32, 1⟩, ⟨2, 2147483648, 33, 1⟩, ⟨5, 5368709120, 34, 1⟩, ⟨8, 8589934592, 35, 1⟩, ⟨16, 17179869185, 36, 1⟩, ⟨16, 17179869216, 37, 1⟩, ⟨112, 120259084288, 38, 1⟩, ⟨144, 154618822656, 39, 1⟩, ⟨272, 292057776128, 40, 0⟩, ⟨528, 566935683072, 41, 1⟩, ⟨1024, 1099511627777, 42, 1⟩, ⟨1024, 1099511627808, 43, 1⟩, ⟨7168, 7696581394432, 44, 1⟩, ⟨9216, 9895604649984, 45, 1⟩, ⟨1024, 1099511627778, 46, 1⟩, ⟨1024, 1099511627840, 47, 1⟩, ⟨99328, 106652627894272, 48, 1⟩, ⟨132096, 141836999983104, 49, 1⟩, ⟨279552, 300166674382848, 50, 1⟩, ⟨525328, 564066644918272, 51, 1⟩, ⟨1048592, 1125917086711808, 52, 1⟩, ⟨2098176, 2251799813685248, 30, 0⟩])]
end Go.Proofs.YtgefinddmggpnaaDoor

namespace Go.Proofs.YtgefinddmggpnaaDoor
open Go.Mx
set_option linter.unusedVariables false
set_option linter.unusedSimpArgs false

def smallB (c : UInt8) : Bool := (decide (97 ≤ c.toNat) && decide (c.toNat ≤ 122)) || (decide (48 ≤ c.toNat) && decide (c.toNat ≤ 57)) || decide (c.toNat = 46)
def kServer (c : UInt8) : Bool := smallB c || decide (c.toNat = 45)
def kLocal (c : UInt8) : Bool := smallB c || decide (c.toNat = 45) || decide (c.toNat = 95)
def kType (c : UInt8) : Bool := smallB c || decide (c.toNat = 95)
def ofB (most : Nat) (k : UInt8 → Bool) (l : List UInt8) : Bool := decide (1 ≤ l.length) && decide (l.length ≤ most) && l.all k
def serverB : List UInt8 → Bool := ofB 32 kServer
def localB : List UInt8 → Bool := ofB 32 kLocal
def typeB : List UInt8 → Bool := ofB 64 kType

theorem small_sp (c : UInt8) (H : Hp) (Q : AV → Hp → Prop) (h : Q (.v (.bool (smallB c))) H) : Sp Tryd.prog 48 [u8A c] Q H := by
  refine Sp.body [] ⟨[], [], []⟩ [] mo Tryd.func48 rfl (Nat.le_of_ble_eq_true rfl) (by kernel_rfl) ?_
  have key : ∀ b : Bool, (b = true ↔ smallB c = true) → Q (.v (.bool b)) H := fun b hb => by rwa [Bool.eq_iff_iff.2 hb]
  unfold smallB at key
  simp [ev_seq, ev_ret, ev_region2, evOps_nil, evOps_cons, opG_none, opG_some, opJ, opU_true, opU_ft, opU_ff, isU_undef, isU_bool, opK_eq, opA_move, opA_assign, opA_pick, opA_bin, putO_some, putH_lt, putV_lt, condB_true, condB_false, binT_some, binA, avO_some, pickT, io_eql, io_leq, opS, opV, Go.Mx.look, fr0, argSlots, seqK, Fr.known, retK, retA, resA, mapO, orO_some, eqT_some, tk5, u8A]
  (repeat' (first | apply And.intro | intro _)) <;> apply key <;> simp <;> omega
theorem kserver_sp (c : UInt8) (H : Hp) (Q : AV → Hp → Prop) (h : Q (.v (.bool (kServer c))) H) : Sp Tryd.prog 47 [u8A c] Q H := by
  refine Sp.body [] ⟨[], [], []⟩ [] mo Tryd.func47 rfl (Nat.le_of_ble_eq_true rfl) (by kernel_rfl) ?_
  have key : ∀ b : Bool, (b = true ↔ kServer c = true) → Q (.v (.bool b)) H := fun b hb => by rwa [Bool.eq_iff_iff.2 hb]
  unfold kServer at key
  simp [ev_seq, ev_region2, evOps_nil, evOps_cons, opG_none, opA_move, opA_assign, opA_call, putO_some, putH_lt, opS, opV, Go.Mx.look, fr0, argSlots, seqK, mapO, callA, ok48]
  refine small_sp c H _ ?_
  simp [ev_ret, evOps_nil, evOps_cons, opG_none, opG_some, opJ, opU_ff, isU_bool, opK_eq, opA_move, opA_assign, opA_pick, opA_bin, putO_some, putH_lt, putC_lt, putV_lt, condB_true, condB_false, binT_some, binA, avO_some, pickT, io_eql, opS, opV, Go.Mx.look, seqK, Fr.known, retK, retA, resA, mapO, orO_some, eqT_some, tk5, u8A]
  (repeat' (first | apply And.intro | intro _)) <;> apply key <;> simp_all <;> omega
theorem klocal_sp (c : UInt8) (H : Hp) (Q : AV → Hp → Prop) (h : Q (.v (.bool (kLocal c))) H) : Sp Tryd.prog 88 [u8A c] Q H := by
  refine Sp.body [] ⟨[], [], []⟩ [] mo Tryd.func88 rfl (Nat.le_of_ble_eq_true rfl) (by kernel_rfl) ?_
  have key : ∀ b : Bool, (b = true ↔ kLocal c = true) → Q (.v (.bool b)) H := fun b hb => by rwa [Bool.eq_iff_iff.2 hb]
  unfold kLocal at key
  simp [ev_seq, ev_region2, evOps_nil, evOps_cons, opG_none, opA_move, opA_assign, opA_call, putO_some, putH_lt, opS, opV, Go.Mx.look, fr0, argSlots, seqK, mapO, callA, ok48]
  refine small_sp c H _ ?_
  simp [ev_ret, evOps_nil, evOps_cons, opG_none, opG_some, opJ, opU_ff, isU_bool, opK_eq, opA_move, opA_assign, opA_pick, opA_bin, putO_some, putH_lt, putC_lt, putV_lt, condB_true, condB_false, binT_some, binA, avO_some, pickT, io_eql, opS, opV, Go.Mx.look, seqK, Fr.known, retK, retA, resA, mapO, orO_some, eqT_some, tk5, u8A]
  (repeat' (first | apply And.intro | intro _)) <;> apply key <;> simp_all <;> omega

/-- A text whose letters are all of a kind. -/
theorem of_sp (l : List UInt8) (most : Nat) (g : Nat) (k : UInt8 → Bool) (hg : bodyOk Tryd.prog g = true) (hk : ∀ c H Q, Q (.v (.bool (k c))) H → Sp Tryd.prog g [u8A c] Q H) (H : Hp) (Q : AV → Hp → Prop) (hl : l.length ≤ 100000) (hm : most ≤ 1000)
    (h : Q (.v (.bool (ofB most k l))) H) : Sp Tryd.prog 46 [.v (.string (tx l)), .v (.int .i64 most), .fn (.func g) [] []] Q H := by
  refine Sp.body [(4, ⟨[0, 2, 17, 18], [], []⟩)] ⟨[], [], []⟩ [] mo Tryd.func46 rfl (Nat.le_of_ble_eq_true rfl) (by kernel_rfl) ?_
  have key : ∀ b : Bool, (b = true ↔ ofB most k l = true) → Q (.v (.bool b)) H := fun b hb => by rwa [Bool.eq_iff_iff.2 hb]
  simp [ev_skip, ev_seq, ev_cond2, ev_block, ev_ret, ev_region2, ev_loop, loopK, evOps_nil, evOps_cons, opG_none, opG_some, opJ, opU_ff, isU_bool, opK_eq, opA_move, opA_assign, opA_pick, opA_bin, opA_len, putO_some, putH_lt, putV_lt, condB_true, condB_false, binT_some, binA, avO_some, pickT, lenT_str, io_gtr, strOp, opS, opV, Go.Mx.look, fr0, argSlots, seqK, Fr.known, retK, retA, resA, mapO, headK, getV, getB, chkP, firstReg, orO_some, eqT_some, tk3, tk9, Tryd.underlying9, mk_tx, tx_size, tx_list]
  refine ⟨fun h0 => key _ (by subst h0; simp [ofB]), fun h0 => ⟨fun h1 => key _ (by simp [ofB]; omega), fun h1 => ?_⟩⟩
  have hp : 1 ≤ l.length := by cases l <;> simp_all
  refine LoopC.intro (fun n xs _ H2 => ∃ i : Nat, i ≤ l.length ∧ n = l.length - i ∧ (∀ j c, j < i → l[j]? = some c → k c = true) ∧ xs = [.v (.string (tx l)), .fn (.func g) [] [], .v (.int .i64 l.length), .v (.int .i64 i)] ∧ H2 = H) l.length
    ⟨0, by omega, rfl, fun j c hj => by omega, rfl, rfl⟩ ?_
  rintro n xs bs H2 ⟨i, hi, rfl, hall, rfl, rfl⟩
  simp [ev_skip, ev_seq, ev_cond2, ev_block, ev_exit, ev_ret, ev_region2, evOps_nil, evOps_cons, opG_none, opA_move, opA_assign, opA_bin, opA_index, putO_some, putH_lt, binT_some, binA, avO_some, indexT, io_lss, opS, opV, Go.Mx.look, seqK, blockK, Fr.known, retK, retA, resA, mapO, mkFr, slotsOf, ptrsOf, boxesOf, orO_some, eqT_some, tk3, Tryd.underlying9]
  refine ⟨fun hlt => ?_, fun hge => key _ ?_⟩
  · have hx := List.getElem?_eq_getElem hlt
    have e := indexStr_tx l .i64 i hlt
    rw [List.getD_eq_getElem?_getD, hx, Option.getD_some] at e
    generalize l[i] = c at hx e
    have w1 : IntKind.i64.wrap ((i : Int) + 1) = (i : Int) + 1 := wr_i64 (by omega)
    simp [evOps_cons, opG_none, opA_call, putO_some, putH_lt, opS, opV, Go.Mx.look, mapO, callA, e, hg]
    refine hk c _ _ ?_
    simp [ev_skip, ev_seq, ev_cond2, ev_ret, ev_region2, evOps_nil, evOps_cons, opG_none, opA_move, opA_assign, opA_bin, opA_un, putO_some, putH_lt, putC_lt, binT_some, binA, avO_some, unT, io_add, opS, opV, Go.Mx.look, seqK, blockK, Fr.known, retK, retA, resA, mapO, unA, headK, getV, getB, chkP, orO_some, eqT_some, tk3, w1]
    refine ⟨fun hc => key _ ?_, fun hc => ⟨l.length - (i + 1), by omega, i + 1, by omega, rfl, fun j d hj hd => ?_, by simp⟩⟩
    · simp [ofB]
      intro _ _
      exact ⟨c, List.mem_of_getElem? hx, hc⟩
    · rcases Nat.lt_or_ge j i with h3 | h3
      · exact hall j d h3 hd
      · obtain rfl : j = i := by omega
        rw [hx] at hd; simp at hd; subst hd; exact hc
  · simp [ofB]
    refine ⟨⟨hp, h1⟩, fun c hc => ?_⟩
    obtain ⟨j, hj⟩ := List.getElem?_of_mem hc
    exact hall j c (by have := (List.getElem?_eq_some_iff.1 hj).1; omega) hj

theorem server_sp (l : List UInt8) (H : Hp) (Q : AV → Hp → Prop) (hl : l.length ≤ 100000) (h : Q (.v (.bool (serverB l))) H) : Sp Tryd.prog 32 [.v (.string (tx l))] Q H := by
  refine Sp.body [] ⟨[], [], []⟩ [] mo Tryd.func32 rfl (Nat.le_of_ble_eq_true rfl) (by kernel_rfl) ?_
  simp [ev_seq, ev_region2, evOps_nil, evOps_cons, opG_none, opA_move, opA_assign, opA_call, putO_some, putH_lt, opS, opV, Go.Mx.look, fr0, argSlots, seqK, mapO, callA, ok46]
  refine of_sp l 32 47 kServer ok47 kserver_sp H _ hl (by omega) ?_
  simp [ev_ret, evOps_nil, evOps_cons, opG_none, opA_assign, putO_some, putH_lt, putC_lt, opS, opV, Go.Mx.look, seqK, retK, retA, resA, mapO]; exact h
theorem local_sp (l : List UInt8) (H : Hp) (Q : AV → Hp → Prop) (hl : l.length ≤ 100000) (h : Q (.v (.bool (localB l))) H) : Sp Tryd.prog 69 [.v (.string (tx l))] Q H := by
  refine Sp.body [] ⟨[], [], []⟩ [] mo Tryd.func69 rfl (Nat.le_of_ble_eq_true rfl) (by kernel_rfl) ?_
  simp [ev_seq, ev_region2, evOps_nil, evOps_cons, opG_none, opA_move, opA_assign, opA_call, putO_some, putH_lt, opS, opV, Go.Mx.look, fr0, argSlots, seqK, mapO, callA, ok46]
  refine of_sp l 32 88 kLocal ok88 klocal_sp H _ hl (by omega) ?_
  simp [ev_ret, evOps_nil, evOps_cons, opG_none, opA_assign, putO_some, putH_lt, putC_lt, opS, opV, Go.Mx.look, seqK, retK, retA, resA, mapO]; exact h
end Go.Proofs.YtgefinddmggpnaaDoor

namespace Go.Proofs.YtgefinddmggpnaaDoor
open Go.Mx
set_option linter.unusedVariables false
set_option linter.unusedSimpArgs false

/-- The first place of a byte in a text. -/
theorem bytealg_ex (s : ByteArray) (c : UInt8) (H : Hp) (k : AV → Hp → Prop) (h : k (.v (.int .i64 (Lib.indexByte s.data.toList c))) H) :
    Ex Tryd.prog 100 [.v (.string s), .v (.int .u8 c.toNat)] k H := by
  intro ρ I w us hs hv
  have h0 := hv.2 0 _ rfl
  have h1 := hv.2 1 _ rfl
  have hl := hv.1
  match us, hl with
  | [a, b], _ =>
    have ha : a = .string s := by simpa using h0.v_inv
    have hb : b = .int .u8 c.toNat := by simpa using h1.v_inv
    subst ha hb
    refine ⟨.int .i64 (Lib.indexByte s.data.toList c), _, ?_, .v _, h⟩
    have e := run_callFunc_indexByte (P := Tryd.prog) Tryd.func100 (by decide +kernel) (by kernel_rfl) (by kernel_rfl) (by kernel_rfl) #[.string s, .int .u8 c.toNat] w
    rw [show ([Value.string s, Value.int .u8 c.toNat] : List Value).toArray = #[.string s, .int .u8 c.toNat] from rfl, e, Lib.run_indexByteString]
    simp
theorem no100 : bodyOk Tryd.prog 100 = false := by kernel_rfl

theorem slindex_sp (l : List UInt8) (c : UInt8) (H : Hp) (Q : AV → Hp → Prop) (h : Q (.v (.int .i64 (Lib.indexByte l c))) H) :
    Sp Tryd.prog 96 [.v (.string (tx l)), u8A c] Q H := by
  refine Sp.body [] ⟨[], [], []⟩ [] mo Tryd.func96 rfl (Nat.le_of_ble_eq_true rfl) (by kernel_rfl) ?_
  simp [ev_seq, ev_region2, evOps_nil, evOps_cons, opG_none, opA_move, opA_assign, opA_call, putO_some, putH_lt, opS, opV, Go.Mx.look, fr0, argSlots, seqK, mapO, callA, no100]
  exact bytealg_ex (tx l) c H _ (by simpa [ev_skip, ev_seq, ev_cond2, ev_block, ev_exit, ev_ret, ev_region2, ev_loop, loopK, evOps_nil, evOps_cons, opG_none, opG_some, opJ, opU_true, opU_ft, opU_ff, isU_undef, isU_bool, valU_true, valU_false, opK_eq, opA_move, opA_assign, opA_pick, opA_bin, opA_un, opA_extract, opA_field, opA_load, opA_index, opA_indexAddr, opA_fieldAddr, opA_nilCheck, opA_len, opA_call, opA_max, opA_min, opA_alloc, opA_box, opA_store, opA_buildSlice, opA_makeSlice, opA_append, opA_copy, opA_convert, opA_makeMap, opA_slice, opA_makeFunc, opA_build, putO_some, putH_lt, putH_none, putC_lt, putC_none, putU_lt, putU_none, putV_lt, putV_none, condB_true, condB_false, CondP_true, CondP_false, binT_some, binA_int, binA_str, binA_eqb, binA_neb, binA, eqRef, avO_some, avO_none, avOf, pickT_true, pickT_false, pickT, unT, extractT, loadT, nilCheckT, lenT_str, lenT_row, lenT_sl, lenT_nil, lenT_arr, lenT_mp, lenT_nomp, maxT, minT, maxA, minA, fieldT, fieldAddrT, indexT, indexAddrT, allocT, boxT, storeT, buildSliceT, makeSliceT, appendT, copyT, convV, convC, convT, makeMapT, bndT, sliceT, fnT, bytesOf_nil, bytesOf_one, repeatL_0, repeatL_1, repeatL_2, repeatL_3, repeatL_4, buildZ, partsZ, fillO, aggO, io_add, io_sub, io_mul, io_quo, io_rem, io_shl, io_shr, io_and, io_or, io_xor, io_eql, io_neq, io_lss, io_leq, io_gtr, io_geq, strOp, opS_tmp, opS_const, opV_tmp, opV_const, opS, opV, look_eq, look_ne, Go.Mx.look, fr0, argSlots, seqK_n, seqK_r, seqK_e, seqK, blockK_n, blockK_r, blockK, Fr.known, Fr.newBox, dropBp, retK, retA, resA, mapO, unA, convInt, convStr, strOf, callA, extractA, lenM, cellsA_v, cellsA_agg, cellsA_row, cellsA_sl, cellsA_ptr, cellsA_rp, cellsA_mp, cellsA_fn, okPart_v, okPart_agg, okPart_row, okPart_sl, okPart_ptr, okPart_rp, okPart_mp, okPart_fn, Value.oneCell', fieldA, partA, loadA, loadS, plusS, indexAddrA, indexArrA, nilCheckS, sliceA, sliceArr, fillA, newK, storeS, headK, getV, getB, chkP, mkFr, slotsOf, ptrsOf, boxesOf, firstReg, bindO, makeA, appA, copyA, srcA, srcTy, okPart_u8, cellsA_u8, Cond_iff, orO_some, orO_none, eqT_some, opA_entry, entryT_some, lookT_some, updT_some, delT_some, clearT_some, rangeT_some, nextT_some, makeMapH, opA_lookup, opA_makeMap2, opA_upd, opA_delete, opA_clear, opA_range, opA_next, valS_lookup, ev_draw, drawK, evP_nil, evP_q, evP_s, opAt_some, chkK_eq, sameV_some, sameO_some, allQ_nil, allQ_cons, valG_some, valJ, valQ_none, valQ_some, valS_move, valS_pick, valS_bin, valS_un, valS_extract, valS_field, valS_load, valS_index, valS_indexAddr, valS_fieldAddr, valS_nilCheck, valS_len, valS_max, valS_min, valS_slice, valS_convert, valS_makeFunc, valS_build, valS_buildSlice, rowT, rowF, sz2, ag2, tk2, by2, ze2, Tryd.underlying2, sz3, ag3, tk3, by3, ze3, Tryd.underlying3, sz4, ag4, tk4, by4, ze4, Tryd.underlying4, sz5, ag5, tk5, by5, ze5, Tryd.underlying5, sz9, ag9, tk9, st9, by9, ze9, Tryd.underlying9, sz21, ag21, tk21, by21, ze21, Tryd.underlying21, sz22, ag22, tk22, st22, by22, ze22, Tryd.underlying22, sz24, ag24, tk24, by24, ze24, Tryd.underlying24, sz26, ag26, tk26, st26, by26, ze26, Tryd.underlying26, sz30, ag30, tk30, by30, ze30, of30, Tryd.underlying30, sz35, ag35, tk35, by35, ze35, of35, Tryd.underlying35, sz36, ag36, tk36, by36, ze36, Tryd.underlying36, sz41, ag41, tk41, by41, ze41, of41, Tryd.underlying41, sz42, ag42, tk42, by42, ze42, Tryd.underlying42, sz43, ag43, tk43, by43, ze43, Tryd.underlying43, sz45, ag45, tk45, by45, ze45, of45, Tryd.underlying45, sz46, ag46, tk46, st46, by46, ze46, Tryd.underlying46, sz50, ag50, tk50, st50, by50, ze50, Tryd.underlying50, sz61, ag61, tk61, st61, by61, ze61, Tryd.underlying61, sz64, ag64, tk64, st64, by64, ze64, Tryd.underlying64, sz72, ag72, tk72, by72, ze72, of72, Tryd.underlying72, sz78, ag78, tk78, by78, ze78, Tryd.underlying78, mo, ok4, ok5, ok6, ok7, ok8, ok9, ok10, ok11, ok12, ok13, ok14, ok15, ok16, ok17, ok18, ok19, ok21, ok22, ok23, ok24, ok25, ok26, ok27, ok28, ok29, ok30, ok32, ok38, ok39, ok40, ok41, ok42, ok43, ok44, ok46, ok47, ok48, ok64, ok65, ok66, ok67, ok68, ok69, ok86, ok87, ok88, ok94, ok96, pl4, pl6, pl7, pl9, pl11, pl21, pl25, pl26, pl87, tx_data] using h)
theorem index1_sp (l : List UInt8) (c : UInt8) (H : Hp) (Q : AV → Hp → Prop) (h : Q (.v (.int .i64 (Lib.indexByte l c))) H) :
    Sp Tryd.prog 94 [.v (.string (tx l)), .v (.string (tx [c]))] Q H := by
  refine Sp.body [] ⟨[], [], []⟩ [] mo Tryd.func94 rfl (Nat.le_of_ble_eq_true rfl) (by kernel_rfl) ?_
  have e0 := indexStr_tx0 c [] .i64
  simp [ev_seq, ev_cond2, ev_block, ev_ret, ev_region2, evOps_nil, evOps_cons, opG_none, opG_some, opJ, opU_ff, isU_bool, opK_eq, opA_move, opA_assign, opA_pick, opA_bin, opA_index, opA_len, opA_call, putO_some, putH_lt, condB_true, condB_false, binT_some, binA, avO_some, pickT, lenT_str, indexT, io_eql, strOp, opS, opV, Go.Mx.look, fr0, argSlots, seqK, blockK, Fr.known, retK, retA, resA, mapO, callA, orO_some, eqT_some, tk3, tk9, Tryd.underlying9, ok96, tx_size, tx_list, e0]
  refine ⟨fun he => by subst he; simpa [Lib.indexByte] using h, fun _ => ?_⟩
  refine slindex_sp l c H _ ?_
  simp [ev_ret, evOps_nil, evOps_cons, opG_none, opA_assign, putO_some, putH_lt, putC_lt, opS, opV, Go.Mx.look, seqK, blockK, retK, retA, resA, mapO]; exact h

theorem ixb_le (c : UInt8) : ∀ l : List UInt8, Lib.indexByte l c = -1 ∨ ∃ i : Nat, i < l.length ∧ Lib.indexByte l c = i
  | [] => .inl rfl
  | b :: l => by
    unfold Lib.indexByte
    by_cases hb : (b == c) = true
    · rw [if_pos hb]; exact .inr ⟨0, by simp, rfl⟩
    · rw [if_neg hb]
      rcases ixb_le c l with h | ⟨i, hi, h⟩
      · rw [h]; exact .inl rfl
      · rw [h]
        have : ((i : Int) == -1) = false := by simp
        rw [this]
        exact .inr ⟨i + 1, by simpa using hi, by simp⟩

theorem scut_sp (l : List UInt8) (c : UInt8) (H : Hp) (Q : AV → Hp → Prop) (hl : l.length ≤ 100000) (h0 : Lib.indexByte l c = -1 → Q (.tup [.v (.string (tx l)), .v (.string (tx [])), .v (.bool false)]) H)
    (h1 : ∀ i : Nat, i < l.length → Lib.indexByte l c = i → Q (.tup [.v (.string (tx (l.take i))), .v (.string (tx (l.drop (i + 1)))), .v (.bool true)]) H) :
    Sp Tryd.prog 87 [.v (.string (tx l)), .v (.string (tx [c]))] Q H := by
  refine Sp.body [] ⟨[], [], pl87⟩ tb87 mo Tryd.func87 rfl (Nat.le_of_ble_eq_true rfl) (by kernel_rfl) ?_
  simp [ev_seq, ev_region2, evOps_nil, evOps_cons, opG_none, opA_move, opA_assign, opA_call, putO_some, putH_lt, opS, opV, Go.Mx.look, fr0, argSlots, seqK, mapO, callA, ok94, pl87, mk_tx]
  refine index1_sp l c H _ ?_
  rcases ixb_le c l with h | ⟨i, hi, h⟩
  · rw [h]
    simp [ev_skip, ev_seq, ev_cond2, ev_ret, ev_region2, evOps_nil, evOps_cons, opG_none, opA_move, opA_assign, opA_bin, putO_some, putH_lt, putC_lt, condB_false, binT_some, binA, avO_some, io_geq, opS, opV, Go.Mx.look, seqK, Fr.known, retK, retA, resA, mapO, orO_some, eqT_some, tk3]; exact h0 h
  · rw [h]
    have w1 : IntKind.i64.wrap ((i : Int) + 1) = (i : Int) + 1 := wr_i64 (by omega)
    have e1 := sliceStr_tx l 0 i (by omega)
    have e2 := sliceStr_tx l ((i : Int) + 1) l.length (by omega)
    simp at e1
    have e3 : ((i : Int) + 1).toNat = i + 1 := by omega
    rw [e3, List.take_of_length_le (by simp)] at e2
    simp [ev_seq, ev_cond2, ev_ret, ev_region2, evOps_nil, evOps_cons, opG_none, opA_move, opA_assign, opA_bin, opA_len, opA_slice, putO_some, putH_lt, putC_lt, condB_true, binT_some, binA, avO_some, lenT_str, bndT, sliceT, io_add, io_geq, opS, opV, Go.Mx.look, seqK, Fr.known, retK, retA, resA, mapO, sliceA, orO_some, eqT_some, ev_draw, drawK, evP_nil, evP_q, evP_s, opAt_some, chkK_eq, sameV_some, sameO_some, allQ_nil, allQ_cons, valQ_none, valS_move, valS_bin, valS_len, valS_slice, tk3, Tryd.underlying9, tx_size, e1, e2, w1]
    exact h1 i hi h
theorem cut1_sp (l : List UInt8) (c : UInt8) (H : Hp) (Q : AV → Hp → Prop) (hl : l.length ≤ 100000) (h0 : Lib.indexByte l c = -1 → Q (.tup [.v (.string (tx l)), .v (.string (tx [])), .v (.bool false)]) H)
    (h1 : ∀ i : Nat, i < l.length → Lib.indexByte l c = i → Q (.tup [.v (.string (tx (l.take i))), .v (.string (tx (l.drop (i + 1)))), .v (.bool true)]) H) :
    Sp Tryd.prog 68 [.v (.string (tx l)), .v (.string (tx [c]))] Q H := by
  refine Sp.body [] ⟨[], [], []⟩ [] mo Tryd.func68 rfl (Nat.le_of_ble_eq_true rfl) (by kernel_rfl) ?_
  simp [ev_seq, ev_region2, evOps_nil, evOps_cons, opG_none, opA_move, opA_assign, opA_call, putO_some, putH_lt, opS, opV, Go.Mx.look, fr0, argSlots, seqK, mapO, callA, ok87, mk_tx]
  refine scut_sp l c H _ hl (fun h => ?_) (fun i hi h => ?_)
  · simp [ev_ret, evOps_nil, evOps_cons, opG_none, opA_assign, opA_extract, putO_some, putH_lt, putC_lt, extractT, opS, opV, Go.Mx.look, seqK, retK, retA, resA, mapO, extractA]; exact h0 h
  · simp [ev_ret, evOps_nil, evOps_cons, opG_none, opA_assign, opA_extract, putO_some, putH_lt, putC_lt, extractT, opS, opV, Go.Mx.look, seqK, retK, retA, resA, mapO, extractA]; exact h1 i hi h

theorem prefix_sp (l : List UInt8) (g : UInt8) (H : Hp) (Q : AV → Hp → Prop) (h : Q (.v (.bool (decide (l.head? = some g)))) H) :
    Sp Tryd.prog 86 [.v (.string (tx l)), .v (.string (tx [g]))] Q H := by
  refine Sp.body [] ⟨[], [], []⟩ [] mo Tryd.func86 rfl (Nat.le_of_ble_eq_true rfl) (by kernel_rfl) ?_
  cases l with
  | nil => simp [ev_seq, ev_ret, ev_region2, evOps_nil, evOps_cons, opG_none, opG_some, opJ, opU_ft, isU_bool, opA_move, opA_assign, opA_pick, opA_bin, opA_len, putO_some, putH_lt, putV_lt, condB_false, binT_some, binA, avO_some, pickT, lenT_str, io_geq, opS, opV, Go.Mx.look, fr0, argSlots, seqK, Fr.known, retK, retA, resA, mapO, orO_some, eqT_some, tk3, Tryd.underlying9, tx_size]; simpa using h
  | cons c r =>
    have e1 := sliceStr_tx (c :: r) 0 1 (by simp; omega)
    simp at e1
    simp [ev_seq, ev_ret, ev_region2, evOps_nil, evOps_cons, opG_none, opG_some, opJ, opU_ft, isU_bool, opK_eq, opA_move, opA_assign, opA_pick, opA_bin, opA_len, opA_slice, putO_some, putH_lt, putV_lt, condB_true, condB_false, binT_some, binA, avO_some, pickT, lenT_str, bndT, sliceT, io_geq, strOp, opS, opV, Go.Mx.look, fr0, argSlots, seqK, Fr.known, retK, retA, resA, mapO, sliceA, orO_some, eqT_some, tk3, tk9, Tryd.underlying9, tx_size, tx_list, e1]
    refine ⟨fun _ => ?_, fun h => by omega⟩
    have e2 : (c == g) = decide (c = g) := by rw [Bool.eq_iff_iff]; simp
    rw [e2]; simpa using h
theorem sprefix_sp (l : List UInt8) (g : UInt8) (H : Hp) (Q : AV → Hp → Prop) (h0 : l.head? ≠ some g → Q (.tup [.v (.string (tx l)), .v (.bool false)]) H) (h1 : l.head? = some g → Q (.tup [.v (.string (tx (l.drop 1))), .v (.bool true)]) H) :
    Sp Tryd.prog 67 [.v (.string (tx l)), .v (.string (tx [g]))] Q H := by
  refine Sp.body [] ⟨[], [], []⟩ [] mo Tryd.func67 rfl (Nat.le_of_ble_eq_true rfl) (by kernel_rfl) ?_
  simp [ev_seq, ev_region2, evOps_nil, evOps_cons, opG_none, opA_move, opA_assign, opA_call, putO_some, putH_lt, opS, opV, Go.Mx.look, fr0, argSlots, seqK, mapO, callA, ok86, mk_tx]
  refine prefix_sp l g H _ ?_
  by_cases hg : l.head? = some g
  · have h := h1 hg
    cases l with
    | nil => simp at hg
    | cons c r =>
      have e1 := sliceStr_tx (c :: r) 1 ((r.length : Int) + 1) (by simp; omega)
      simp at e1 h
      simp [ev_skip, ev_seq, ev_cond2, ev_ret, ev_region2, evOps_nil, evOps_cons, opG_none, opA_move, opA_assign, opA_un, opA_len, opA_slice, putO_some, putH_lt, putC_lt, condB_false, unT, lenT_str, bndT, sliceT, opS, opV, Go.Mx.look, seqK, Fr.known, retK, retA, resA, mapO, unA, sliceA, Tryd.underlying9, tx_size, hg, e1]
      exact h
  · simp [ev_seq, ev_cond2, ev_ret, ev_region2, evOps_nil, evOps_cons, opG_none, opA_move, opA_assign, opA_un, putO_some, putH_lt, putC_lt, condB_true, unT, opS, opV, Go.Mx.look, seqK, Fr.known, retK, retA, resA, mapO, unA, hg]; exact h0 hg
theorem cutprefix_sp (l : List UInt8) (g : UInt8) (H : Hp) (Q : AV → Hp → Prop) (h0 : l.head? ≠ some g → Q (.tup [.v (.string (tx l)), .v (.bool false)]) H) (h1 : l.head? = some g → Q (.tup [.v (.string (tx (l.drop 1))), .v (.bool true)]) H) :
    Sp Tryd.prog 43 [.v (.string (tx l)), .v (.string (tx [g]))] Q H := by
  refine Sp.body [] ⟨[], [], []⟩ [] mo Tryd.func43 rfl (Nat.le_of_ble_eq_true rfl) (by kernel_rfl) ?_
  simp [ev_seq, ev_region2, evOps_nil, evOps_cons, opG_none, opA_move, opA_assign, opA_call, putO_some, putH_lt, opS, opV, Go.Mx.look, fr0, argSlots, seqK, mapO, callA, ok67, mk_tx]
  refine sprefix_sp l g H _ (fun h => ?_) (fun h => ?_)
  · simp [ev_ret, evOps_nil, evOps_cons, opG_none, opA_assign, opA_extract, putO_some, putH_lt, putC_lt, extractT, opS, opV, Go.Mx.look, seqK, retK, retA, resA, mapO, extractA]; exact h0 h
  · simp [ev_ret, evOps_nil, evOps_cons, opG_none, opA_assign, opA_extract, putO_some, putH_lt, putC_lt, extractT, opS, opV, Go.Mx.look, seqK, retK, retA, resA, mapO, extractA]; simpa using h1 h
end Go.Proofs.YtgefinddmggpnaaDoor

namespace Go.Proofs.YtgefinddmggpnaaDoor
open Go.Mx
set_option linter.unusedVariables false
set_option linter.unusedSimpArgs false

abbrev P3 := List UInt8 × List UInt8 × Bool
def none3 : P3 := ([], [], false)
def tupP (p : P3) : AV := .tup [.v (.string (tx p.1)), .v (.string (tx p.2.1)), .v (.bool p.2.2)]
/-- The parts of a name that begins with a sign. -/
def splitP (r : List UInt8) : P3 :=
  if Lib.indexByte r 58 = -1 then none3
  else if localB (r.take (Lib.indexByte r 58).toNat) = true ∧ serverB (r.drop ((Lib.indexByte r 58).toNat + 1)) = true then (r.take (Lib.indexByte r 58).toNat, r.drop ((Lib.indexByte r 58).toNat + 1), true) else none3
def partsP (g : UInt8) : List UInt8 → P3
  | [] => none3
  | c :: r => if c = g then splitP r else none3
theorem partsP_no {g : UInt8} {l : List UInt8} (h : l.head? ≠ some g) : partsP g l = none3 := by
  cases l with
  | nil => rfl
  | cons c r => simp only [partsP]; rw [if_neg (fun e : c = g => h (by simp [e]))]
theorem partsP_yes (g : UInt8) (r : List UInt8) : partsP g (g :: r) = splitP r := by simp [partsP]

theorem cut_sp (g : UInt8) (l : List UInt8) (H : Hp) (Q : AV → Hp → Prop) (hl : l.length ≤ 100000) (h : Q (tupP (partsP g l)) H) : Sp Tryd.prog 44 [.v (.string (tx [g])), .v (.string (tx l))] Q H := by
  refine Sp.body [] ⟨[], [], []⟩ [] mo Tryd.func44 rfl (Nat.le_of_ble_eq_true rfl) (by kernel_rfl) ?_
  simp [ev_seq, ev_region2, evOps_nil, evOps_cons, opG_none, opA_move, opA_assign, opA_call, putO_some, putH_lt, opS, opV, Go.Mx.look, fr0, argSlots, seqK, mapO, callA, ok43, mk_tx]
  refine cutprefix_sp l g H _ (fun hg => ?_) (fun hg => ?_)
  · rw [partsP_no hg] at h
    simp [ev_seq, ev_region2, evOps_nil, evOps_cons, opG_none, opA_move, opA_assign, opA_extract, opA_call, putO_some, putH_lt, putC_lt, extractT, opS, opV, Go.Mx.look, seqK, mapO, callA, extractA, ok68]
    refine cut1_sp l 58 H _ hl (fun h1 => ?_) (fun i hi h1 => ?_)
    · simp [ev_seq, ev_cond2, ev_ret, ev_region2, evOps_nil, evOps_cons, opG_none, opG_some, opJ, opU_ff, isU_bool, opA_move, opA_assign, opA_pick, opA_un, opA_extract, putO_some, putH_lt, putC_lt, putV_lt, condB_true, pickT, unT, extractT, opS, opV, Go.Mx.look, seqK, Fr.known, retK, retA, resA, mapO, unA, extractA]; exact h
    · simp [ev_seq, ev_cond2, ev_ret, ev_region2, evOps_nil, evOps_cons, opG_none, opG_some, opJ, opU_ff, isU_bool, opA_move, opA_assign, opA_pick, opA_un, opA_extract, putO_some, putH_lt, putC_lt, putV_lt, condB_true, pickT, unT, extractT, opS, opV, Go.Mx.look, seqK, Fr.known, retK, retA, resA, mapO, unA, extractA]; exact h
  · obtain ⟨r, rfl⟩ : ∃ r, l = g :: r := by cases l with
      | nil => simp at hg
      | cons c r => simp at hg; exact ⟨r, by rw [hg]⟩
    rw [partsP_yes] at h
    unfold splitP at h
    simp at hl
    simp [ev_seq, ev_region2, evOps_nil, evOps_cons, opG_none, opA_move, opA_assign, opA_extract, opA_call, putO_some, putH_lt, putC_lt, extractT, opS, opV, Go.Mx.look, seqK, mapO, callA, extractA, ok68]
    refine cut1_sp r 58 H _ (by omega) (fun h1 => ?_) (fun i hi h1 => ?_)
    · rw [h1] at h
      simp [ev_seq, ev_cond2, ev_ret, ev_region2, evOps_nil, evOps_cons, opG_none, opG_some, opJ, opU_ff, isU_bool, opK_eq, opA_move, opA_assign, opA_pick, opA_un, opA_extract, putO_some, putH_lt, putC_lt, putV_lt, condB_true, condB_false, pickT, unT, extractT, opS, opV, Go.Mx.look, seqK, Fr.known, retK, retA, resA, mapO, unA, extractA]; exact h
    · rw [h1] at h
      rw [if_neg (by omega), Int.toNat_natCast] at h
      simp [ev_seq, ev_region2, evOps_nil, evOps_cons, opG_none, opG_some, opJ, opU_ff, isU_bool, opK_eq, opA_move, opA_assign, opA_pick, opA_un, opA_extract, opA_call, putO_some, putH_lt, putC_lt, condB_false, pickT, unT, extractT, opS, opV, Go.Mx.look, seqK, Fr.known, mapO, unA, callA, extractA, ok69]
      refine local_sp _ H _ (by simp; omega) ?_
      by_cases hlo : localB (r.take i) = true
      · simp [evOps_cons, opG_none, opG_some, opJ, opU_ff, isU_bool, opK_eq, opA_move, opA_pick, opA_un, opA_call, putO_some, putH_lt, putC_lt, condB_false, pickT, unT, opS, opV, Go.Mx.look, Fr.known, mapO, unA, callA, ok32, hlo]
        refine server_sp _ H _ (by simp; omega) ?_
        by_cases hse : serverB (r.drop (i + 1)) = true
        · rw [if_pos ⟨hlo, hse⟩] at h
          simp [ev_skip, ev_seq, ev_cond2, ev_ret, ev_region2, evOps_nil, evOps_cons, opG_none, opG_some, opJ, opU_ff, isU_bool, opK_eq, opA_move, opA_assign, opA_pick, opA_un, putO_some, putH_lt, putC_lt, condB_false, pickT, unT, opS, opV, Go.Mx.look, seqK, Fr.known, retK, retA, resA, mapO, unA, hse]; exact h
        · rw [if_neg (fun hc => hse hc.2)] at h
          simp [ev_seq, ev_cond2, ev_ret, ev_region2, evOps_nil, evOps_cons, opG_none, opG_some, opJ, opU_ff, isU_bool, opK_eq, opA_assign, opA_pick, opA_un, putO_some, putH_lt, putC_lt, condB_true, condB_false, pickT, unT, opS, opV, Go.Mx.look, seqK, Fr.known, retK, retA, resA, mapO, unA, hse]; exact h
      · rw [if_neg (fun hc => hlo hc.1)] at h
        simp [ev_seq, ev_cond2, ev_ret, ev_region2, evOps_nil, evOps_cons, opG_none, opG_some, opJ, opU_ff, isU_bool, opK_eq, opA_move, opA_assign, opA_pick, opA_un, putO_some, putH_lt, putC_lt, putV_lt, condB_true, condB_false, pickT, unT, opS, opV, Go.Mx.look, seqK, Fr.known, retK, retA, resA, mapO, unA, hlo]; exact h

theorem user_sp (l : List UInt8) (H : Hp) (Q : AV → Hp → Prop) (hl : l.length ≤ 100000) (h : Q (tupP (partsP 64 l)) H) : Sp Tryd.prog 30 [.v (.string (tx l))] Q H := by
  refine Sp.body [] ⟨[], [], []⟩ [] mo Tryd.func30 rfl (Nat.le_of_ble_eq_true rfl) (by kernel_rfl) ?_
  simp [ev_seq, ev_region2, evOps_nil, evOps_cons, opG_none, opA_move, opA_assign, opA_call, putO_some, putH_lt, opS, opV, Go.Mx.look, fr0, argSlots, seqK, mapO, callA, ok44, mk_tx]
  refine cut_sp 64 l H _ hl ?_
  simp [ev_ret, evOps_nil, evOps_cons, opG_none, opA_assign, opA_extract, putO_some, putH_lt, putC_lt, extractT, opS, opV, Go.Mx.look, seqK, retK, retA, resA, mapO, extractA, tupP]; exact h
theorem room_sp (l : List UInt8) (H : Hp) (Q : AV → Hp → Prop) (hl : l.length ≤ 100000) (h : Q (tupP (partsP 33 l)) H) : Sp Tryd.prog 42 [.v (.string (tx l))] Q H := by
  refine Sp.body [] ⟨[], [], []⟩ [] mo Tryd.func42 rfl (Nat.le_of_ble_eq_true rfl) (by kernel_rfl) ?_
  simp [ev_seq, ev_region2, evOps_nil, evOps_cons, opG_none, opA_move, opA_assign, opA_call, putO_some, putH_lt, opS, opV, Go.Mx.look, fr0, argSlots, seqK, mapO, callA, ok44, mk_tx]
  refine cut_sp 33 l H _ hl ?_
  simp [ev_ret, evOps_nil, evOps_cons, opG_none, opA_assign, opA_extract, putO_some, putH_lt, putC_lt, extractT, opS, opV, Go.Mx.look, seqK, retK, retA, resA, mapO, extractA, tupP]; exact h

theorem ixb_none {r : List UInt8} {c : UInt8} (h : ∀ k : Nat, r[k]? ≠ some c) : Lib.indexByte r c = -1 := by
  rcases ixb_le c r with h1 | ⟨i, _, h1⟩
  · exact h1
  · exact absurd (Lib.indexByte_some h1).1 (h i)
theorem ixb_some {r : List UInt8} {c : UInt8} {i : Nat} (h0 : r[i]? = some c) (h : ∀ k : Nat, k < i → r[k]? ≠ some c) : Lib.indexByte r c = i := by
  rcases ixb_le c r with h1 | ⟨j, _, h1⟩
  · exact absurd h0 (Lib.indexByte_none h1 i)
  · obtain ⟨h2, h3⟩ := Lib.indexByte_some h1
    rw [h1]
    rcases Nat.lt_trichotomy i j with h4 | h4 | h4
    · exact absurd h0 (h3 i h4)
    · rw [h4]
    · exact absurd h2 (h j h4)

end Go.Proofs.YtgefinddmggpnaaDoor

namespace Go.Proofs.YtgefinddmggpnaaDoor
open Go.Mx
set_option linter.unusedVariables false
set_option linter.unusedSimpArgs false

/-- A place. -/
structure Pl where
  al : ByteArray
  rm : ByteArray
  nm : ByteArray
  n : Int
def plC (p : Pl) : List AV := [.v (.string p.al), .v (.string p.rm), .v (.string p.nm), .v (.int .i64 p.n)]
def entV (p : ByteArray × ByteArray) : AV := .agg [.v (.string p.1), .v (.string p.2)]
def fA (f : ByteArray → Option (ByteArray × ByteArray)) : AV → Option AV
  | .v (.string s) => (f s).map entV
  | _ => none
def fP (g : ByteArray → Option Pl) : AV → Option AV
  | .v (.string s) => (g s).map (fun p => .agg (plC p))
  | _ => none
def updF {α : Type} (f : ByteArray → Option α) (s : ByteArray) (o : Option α) : ByteArray → Option α := fun x => if x = s then o else f x
theorem strV_inj {s t : ByteArray} : (AV.v (.string s) = AV.v (.string t)) ↔ s = t := by simp
open Classical in
theorem fA_upd (f : ByteArray → Option (ByteArray × ByteArray)) (s : ByteArray) (o : Option (ByteArray × ByteArray)) : (fun x => if x = AV.v (.string s) then o.map entV else fA f x) = fA (updF f s o) := by
  funext x
  by_cases h : x = AV.v (.string s)
  · subst h; simp [fA, updF]
  · rw [if_neg h]
    cases x with
    | v y =>
      cases y with
      | string t => have : ¬ t = s := fun e => h (by rw [e]); simp [fA, updF, this]
      | _ => rfl
    | _ => rfl
open Classical in
theorem fP_upd (g : ByteArray → Option Pl) (s : ByteArray) (o : Option Pl) : (fun x => if x = AV.v (.string s) then o.map (fun p => AV.agg (plC p)) else fP g x) = fP (updF g s o) := by
  funext x
  by_cases h : x = AV.v (.string s)
  · subst h; simp [fP, updF]
  · rw [if_neg h]
    cases x with
    | v y =>
      cases y with
      | string t => have : ¬ t = s := fun e => h (by rw [e]); simp [fP, updF, this]
      | _ => rfl
    | _ => rfl
structure Dir where
  sv : ByteArray
  f : ByteArray → Option (ByteArray × ByteArray)
  g : ByteArray → Option Pl
/-- A directory at this address. -/
def DirAt (H : Hp) (a : Nat) (D : Dir) (fp : List Nat) : Prop :=
  ∃ m1 m2, H[a]? = some (.cells 0 [.v (.string D.sv), .mp m1, .mp m2]) ∧ MapAt Tryd.prog 9 H m1 (fA D.f) ∧ MapAt Tryd.prog 9 H m2 (fP D.g) ∧ m1 ≠ m2 ∧ fp = [a, m1, m2]
theorem DirAt.same {H H' : Hp} {a : Nat} {D : Dir} {fp fp' : List Nat} (h : DirAt H a D fp) (hs : Same fp' H H') (hd : ∀ j ∈ fp, j ∉ fp') : DirAt H' a D fp := by
  obtain ⟨m1, m2, h1, h2, h3, h4, rfl⟩ := h
  exact ⟨m1, m2, hs.2 _ _ h1 (hd _ (by simp)), h2.same hs (hd _ (by simp)), h3.same hs (hd _ (by simp)), h4, rfl⟩
theorem DirAt.lt {H : Hp} {a : Nat} {D : Dir} {fp : List Nat} (h : DirAt H a D fp) : ∀ j ∈ fp, j < H.length := by
  obtain ⟨m1, m2, h1, h2, h3, h4, rfl⟩ := h
  simpa using ⟨Hp.lt h1, h2.lt, h3.lt⟩

theorem made_sp (a : Nat) (D : Dir) (fp : List Nat) (H : Hp) (Q : AV → Hp → Prop) (hd : DirAt H a D fp) (h : Q (.v (.bool true)) H) : Sp Tryd.prog 18 [.ptr a 0 0] Q H := by
  refine Sp.body [] ⟨[], [], []⟩ [] mo Tryd.func18 rfl (Nat.le_of_ble_eq_true rfl) (by kernel_rfl) ?_
  obtain ⟨m1, m2, h1, h2, h3, h4, rfl⟩ := hd
  simp [ev_seq, ev_ret, ev_region2, evOps_nil, evOps_cons, opG_none, opG_some, opJ, opU_ft, isU_bool, opK_eq, opA_move, opA_assign, opA_pick, opA_bin, opA_load, opA_fieldAddr, opA_nilCheck, putO_some, putH_lt, condB_true, binT_some, binA, eqRef, avO_some, pickT, loadT, nilCheckT, fieldAddrT, opS, opV, Go.Mx.look, fr0, argSlots, seqK, Fr.known, retK, retA, resA, mapO, partA, loadA, loadS, plusS, nilCheckS, orO_some, eqT_some, tk24, sz42, ag42, tk42, Tryd.underlying45, h1]
  exact h

/-- The server of an alias. -/
def homeP (l : List UInt8) : List UInt8 × Bool := if l.head? = some 35 then ((partsP 64 (64 :: l.tail)).2.1, (partsP 64 (64 :: l.tail)).2.2) else ((partsP 64 (64 :: l)).2.1, false)
theorem home_sp (l : List UInt8) (H : Hp) (Q : AV → Hp → Prop) (hl : l.length ≤ 90000) (h : Q (.tup [.v (.string (tx (homeP l).1)), .v (.bool (homeP l).2)]) H) : Sp Tryd.prog 29 [.v (.string (tx l))] Q H := by
  refine Sp.body [] ⟨[], [], []⟩ [] mo Tryd.func29 rfl (Nat.le_of_ble_eq_true rfl) (by kernel_rfl) ?_
  simp [ev_seq, ev_region2, evOps_nil, evOps_cons, opG_none, opA_move, opA_assign, opA_call, putO_some, putH_lt, opS, opV, Go.Mx.look, fr0, argSlots, seqK, mapO, callA, ok43, mk_tx]
  refine cutprefix_sp l 35 H _ (fun hg => ?_) (fun hg => ?_)
  · have e1 := addStr_tx [64] l (by simp; omega)
    simp only [homeP, if_neg hg] at h
    simp [ev_seq, ev_region2, evOps_nil, evOps_cons, opG_none, opA_move, opA_assign, opA_bin, opA_extract, opA_call, putO_some, putH_lt, putC_lt, binT_some, binA, avO_some, extractT, strOp, opS, opV, Go.Mx.look, seqK, mapO, callA, extractA, orO_some, eqT_some, tk9, ok30, e1]
    refine user_sp (64 :: l) H _ (by simp; omega) ?_
    simp [ev_seq, ev_ret, ev_region2, evOps_nil, evOps_cons, opG_none, opG_some, opJ, opU_ft, isU_bool, opA_move, opA_assign, opA_pick, opA_extract, putO_some, putH_lt, putC_lt, putV_lt, condB_false, pickT, extractT, opS, opV, Go.Mx.look, seqK, Fr.known, retK, retA, resA, mapO, extractA, tupP]
    exact h
  · have e1 := addStr_tx [64] (l.tail) (by simp; omega)
    simp only [homeP, if_pos hg] at h
    simp [ev_seq, ev_region2, evOps_nil, evOps_cons, opG_none, opA_move, opA_assign, opA_bin, opA_extract, opA_call, putO_some, putH_lt, putC_lt, binT_some, binA, avO_some, extractT, strOp, opS, opV, Go.Mx.look, seqK, mapO, callA, extractA, orO_some, eqT_some, tk9, ok30, e1]
    refine user_sp (64 :: l.tail) H _ (by simp; omega) ?_
    simp [ev_seq, ev_ret, ev_region2, evOps_nil, evOps_cons, opG_none, opG_some, opJ, opU_ft, isU_bool, opK_eq, opA_move, opA_assign, opA_pick, opA_extract, putO_some, putH_lt, putC_lt, condB_true, pickT, extractT, opS, opV, Go.Mx.look, seqK, Fr.known, retK, retA, resA, mapO, extractA, tupP]
    exact h
def roomB (s : ByteArray) : Bool := (partsP 33 s.data.toList).2.2
def homeB (s : ByteArray) : ByteArray × Bool := (tx (homeP s.data.toList).1, (homeP s.data.toList).2)
def userB (s : ByteArray) : ByteArray × Bool := (tx (partsP 64 s.data.toList).2.1, (partsP 64 s.data.toList).2.2)
theorem tx_back (s : ByteArray) : tx s.data.toList = s := by unfold tx; cases s; rfl
theorem sz_list (s : ByteArray) : s.data.toList.length = s.size := rfl
theorem homeS_sp (s : ByteArray) (H : Hp) (Q : AV → Hp → Prop) (hl : s.size ≤ 90000) (h : Q (.tup [.v (.string (homeB s).1), .v (.bool (homeB s).2)]) H) : Sp Tryd.prog 29 [.v (.string s)] Q H := by
  have := home_sp s.data.toList H Q (by rw [sz_list]; exact hl) h
  rwa [tx_back] at this
theorem userS_sp (s : ByteArray) (H : Hp) (Q : AV → Hp → Prop) (hl : s.size ≤ 90000) (h : ∀ x : ByteArray, Q (.tup [.v (.string x), .v (.string (userB s).1), .v (.bool (userB s).2)]) H) : Sp Tryd.prog 30 [.v (.string s)] Q H := by
  have := user_sp s.data.toList H Q (by rw [sz_list]; omega) (h _)
  rwa [tx_back] at this
theorem isRoom_sp (s : ByteArray) (H : Hp) (Q : AV → Hp → Prop) (hl : s.size ≤ 90000) (h : Q (.v (.bool (roomB s))) H) : Sp Tryd.prog 27 [.v (.string s)] Q H := by
  refine Sp.body [] ⟨[], [], []⟩ [] mo Tryd.func27 rfl (Nat.le_of_ble_eq_true rfl) (by kernel_rfl) ?_
  simp [ev_seq, ev_region2, evOps_nil, evOps_cons, opG_none, opA_move, opA_assign, opA_call, putO_some, putH_lt, opS, opV, Go.Mx.look, fr0, argSlots, seqK, mapO, callA, ok42]
  have := fun Q2 h2 => room_sp s.data.toList H Q2 (by rw [sz_list]; omega) h2
  rw [tx_back] at this
  refine this _ ?_
  simp [ev_seq, ev_ret, ev_region2, evOps_nil, evOps_cons, opG_none, opA_move, opA_assign, opA_extract, putO_some, putH_lt, putC_lt, extractT, opS, opV, Go.Mx.look, seqK, retK, retA, resA, mapO, extractA, tupP]
  exact h
theorem is_sp (s : ByteArray) (H : Hp) (Q : AV → Hp → Prop) (hl : s.size ≤ 90000) (h : Q (.v (.bool (homeB s).2)) H) : Sp Tryd.prog 28 [.v (.string s)] Q H := by
  refine Sp.body [] ⟨[], [], []⟩ [] mo Tryd.func28 rfl (Nat.le_of_ble_eq_true rfl) (by kernel_rfl) ?_
  simp [ev_seq, ev_region2, evOps_nil, evOps_cons, opG_none, opA_move, opA_assign, opA_call, putO_some, putH_lt, opS, opV, Go.Mx.look, fr0, argSlots, seqK, mapO, callA, ok29]
  refine homeS_sp s H _ hl ?_
  simp [ev_seq, ev_ret, ev_region2, evOps_nil, evOps_cons, opG_none, opA_move, opA_assign, opA_extract, putO_some, putH_lt, putC_lt, extractT, opS, opV, Go.Mx.look, seqK, retK, retA, resA, mapO, extractA]
  exact h
end Go.Proofs.YtgefinddmggpnaaDoor

namespace Go.Proofs.YtgefinddmggpnaaDoor
open Go.Mx
set_option linter.unusedVariables false
set_option linter.unusedSimpArgs false
set_option maxRecDepth 100000

theorem tl_inj (s t : ByteArray) : (s.toList = t.toList) = (s = t) := by
  rw [ByteArray.toList_eq, ByteArray.toList_eq]
  exact propext ⟨fun h => ByteArray.ext (Array.toList_inj.1 h), fun h => by rw [h]⟩
theorem tl_nil (s : ByteArray) : (s.toList = []) = (s = ⟨#[]⟩) := by
  rw [← tl_inj]
  have : (⟨#[]⟩ : ByteArray).toList = [] := by decide +kernel
  rw [this]
theorem fA_none : fA (fun _ => none) = fun _ => none := by
  funext x
  cases x with
  | v y => cases y <;> rfl
  | _ => rfl
theorem fP_none : fP (fun _ => none) = fun _ => none := by
  funext x
  cases x with
  | v y => cases y <;> rfl
  | _ => rfl
theorem new_sp (s : ByteArray) (H : Hp) (Q : AV → Hp → Prop) (hl : s.size ≤ 90000) (h0 : serverB s.data.toList = false → Q (.tup [.v (.pointer none), .v (.int .i64 1)]) H)
    (h1 : serverB s.data.toList = true → ∀ H', DirAt H' (H.length + 2) ⟨s, fun _ => none, fun _ => none⟩ [H.length + 2, H.length, H.length + 1] → Same [] H H' → H'.length = H.length + 3 → Q (.tup [.ptr (H.length + 2) 0 0, .v (.int .i64 0)]) H') : Sp Tryd.prog 17 [.v (.string s)] Q H := by
  refine Sp.body [] ⟨[], [], []⟩ [] mo Tryd.func17 rfl (Nat.le_of_ble_eq_true rfl) (by kernel_rfl) ?_
  simp [ev_seq, ev_region2, evOps_nil, evOps_cons, opG_none, opA_move, opA_assign, opA_call, putO_some, putH_lt, opS, opV, Go.Mx.look, fr0, argSlots, seqK, mapO, callA, ok32]
  have := fun Q2 h2 => server_sp s.data.toList H Q2 (by rw [sz_list]; omega) h2
  rw [tx_back] at this
  refine this _ ?_
  cases hs : serverB s.data.toList with
  | false => simp [ev_seq, ev_cond2, ev_ret, ev_region2, evOps_nil, evOps_cons, opG_none, opA_assign, opA_un, putO_some, putH_lt, putC_lt, condB_true, unT, opS, opV, Go.Mx.look, seqK, Fr.known, retK, retA, resA, mapO, unA]; exact h0 hs
  | true =>
    simp [ev_skip, ev_seq, ev_cond2, ev_ret, ev_region2, evOps_nil, evOps_cons, opG_none, opA_move, opA_assign, opA_un, opA_box, opA_makeMap, opA_build, putO_some, putH_lt, putC_lt, condB_false, unT, boxT, makeMapT, buildZ, partsZ, fillO, aggO, opS, opV, Go.Mx.look, seqK, Fr.known, retK, retA, resA, mapO, unA, cellsA_v, cellsA_agg, cellsA_mp, okPart_v, okPart_agg, okPart_mp, Value.oneCell', fillA, newK, Tryd.underlying42, Tryd.underlying43, ze45, of45]
    refine h1 hs _ ⟨H.length, H.length + 1, ?_, ?_, ?_, by omega, rfl⟩ ?_ (by simp)
    · rw [List.getElem?_append_right (by omega)]; simp
    · rw [fA_none]
      exact (MapN.put Tryd.prog 9 (by rw [List.getElem?_append_right (by omega)]; simp)).at
    · rw [fP_none]
      exact (MapN.put Tryd.prog 9 (by rw [List.getElem?_append_right (by omega)]; simp)).at
    · exact Same.app _ _ _

/-- What is taken as an alias of a room. -/
def putB (D : Dir) (al rm by_ : ByteArray) : Prop := (homeB al).2 = true ∧ (homeB al).1 = D.sv ∧ roomB rm = true ∧ (userB by_).2 = true ∧ (userB by_).1 = D.sv
theorem look_al {H : Hp} {m : Nat} {f : ByteArray → Option (ByteArray × ByteArray)} (hm : MapAt Tryd.prog 9 H m (fA f)) (s : ByteArray) : lookV Tryd.prog H 42 (.mp m) (.v (.string s)) true = some (.tup [entV ((f s).getD (⟨#[]⟩, ⟨#[]⟩)), .v (.bool (f s).isSome)]) := by
  rw [hm.look Tryd.underlying42 (KGood.str Tryd.underlying9 s)]
  show Go.Mx.valOf Tryd.prog 72 true ((f s).map entV) = _
  cases f s <;> rfl
theorem look_al1 {H : Hp} {m : Nat} {f : ByteArray → Option (ByteArray × ByteArray)} (hm : MapAt Tryd.prog 9 H m (fA f)) (s : ByteArray) : lookV Tryd.prog H 42 (.mp m) (.v (.string s)) false = some (entV ((f s).getD (⟨#[]⟩, ⟨#[]⟩))) := by
  rw [hm.look Tryd.underlying42 (KGood.str Tryd.underlying9 s)]
  show Go.Mx.valOf Tryd.prog 72 false ((f s).map entV) = _
  cases f s <;> rfl
theorem put_sp (a : Nat) (D : Dir) (fp : List Nat) (al rm by_ : ByteArray) (H : Hp) (Q : AV → Hp → Prop) (hd : DirAt H a D fp) (z1 : al.size ≤ 80000) (z2 : rm.size ≤ 80000) (z3 : by_.size ≤ 80000)
    (h1 : ¬ putB D al rm by_ → Q (.v (.int .i64 1)) H) (h4 : putB D al rm by_ → D.f al ≠ none → Q (.v (.int .i64 4)) H)
    (h0 : putB D al rm by_ → D.f al = none → ∀ H', DirAt H' a ⟨D.sv, updF D.f al (some (rm, by_)), D.g⟩ fp → Same fp H H' → Q (.v (.int .i64 0)) H') :
    Sp Tryd.prog 13 [.ptr a 0 0, .v (.string al), .v (.string rm), .v (.string by_)] Q H := by
  refine Sp.body [] ⟨[14], [], []⟩ [] mo Tryd.func13 rfl (Nat.le_of_ble_eq_true rfl) (by kernel_rfl) ?_
  simp [ev_seq, ev_region2, evOps_nil, evOps_cons, opG_none, opA_move, opA_assign, opA_call, putO_some, putH_lt, opS, opV, Go.Mx.look, fr0, argSlots, seqK, mapO, callA, ok29]
  refine homeS_sp al H _ (by omega) ?_
  simp [ev_seq, ev_region2, evOps_nil, evOps_cons, opG_none, opA_move, opA_assign, opA_extract, opA_call, putO_some, putH_lt, putC_lt, extractT, opS, opV, Go.Mx.look, seqK, mapO, callA, extractA, ok30]
  refine userS_sp by_ H _ (by omega) (fun x => ?_)
  simp [ev_seq, ev_region2, evOps_nil, evOps_cons, opG_none, opA_move, opA_assign, opA_extract, opA_call, putO_some, putH_lt, putC_lt, extractT, opS, opV, Go.Mx.look, seqK, mapO, callA, extractA, ok18]
  refine made_sp a D fp H _ hd ?_
  have hd' := hd
  obtain ⟨m1, m2, g1, g2, g3, g4, rfl⟩ := hd
  unfold putB at h1 h4 h0
  cases e1 : (homeB al).2 with
  | false => simp [ev_seq, ev_cond2, ev_ret, ev_region2, evOps_nil, evOps_cons, opG_none, opG_some, opJ, opU_ff, isU_bool, opK_eq, opA_move, opA_assign, opA_pick, opA_un, putO_some, putH_lt, putC_lt, putV_lt, condB_true, condB_false, pickT, unT, opS, opV, Go.Mx.look, seqK, Fr.known, retK, retA, resA, mapO, unA]; exact h1 (by simp [e1])
  | true =>
  simp [ev_seq, ev_cond2, ev_ret, ev_region2, evOps_nil, evOps_cons, opG_none, opG_some, opJ, opU_ff, isU_bool, opK_eq, opA_move, opA_assign, opA_pick, opA_bin, opA_un, opA_load, opA_fieldAddr, opA_nilCheck, opA_call, putO_some, putH_lt, putC_lt, putV_lt, condB_true, condB_false, binT_some, binA, avO_some, pickT, unT, loadT, nilCheckT, fieldAddrT, strOp, opS, opV, Go.Mx.look, seqK, Fr.known, retK, retA, resA, mapO, unA, callA, partA, loadA, loadS, plusS, nilCheckS, orO_some, eqT_some, sz9, ag9, tk9, Tryd.underlying45, ok27, g1, tl_inj]
  refine ⟨fun e2 => h1 (fun h => e2 h.2.1), fun e2 => ?_⟩
  refine isRoom_sp rm H _ (by omega) ?_
  cases e3 : roomB rm with
  | false => simp [ev_seq, ev_cond2, ev_ret, ev_region2, evOps_nil, evOps_cons, opG_none, opG_some, opJ, opU_ff, isU_bool, opK_eq, opA_move, opA_assign, opA_pick, opA_un, putO_some, putH_lt, putC_lt, putV_lt, condB_true, condB_false, pickT, unT, opS, opV, Go.Mx.look, seqK, Fr.known, retK, retA, resA, mapO, unA]; exact h1 (by simp [e3])
  | true =>
  simp [ev_seq, ev_cond2, ev_ret, ev_region2, evOps_nil, evOps_cons, opG_none, opG_some, opJ, opU_ff, isU_bool, opK_eq, opA_move, opA_assign, opA_pick, opA_un, opA_load, opA_fieldAddr, opA_nilCheck, putO_some, putH_lt, putC_lt, putV_lt, condB_true, condB_false, pickT, unT, loadT, nilCheckT, fieldAddrT, opS, opV, Go.Mx.look, seqK, Fr.known, retK, retA, resA, mapO, unA, partA, loadA, loadS, plusS, nilCheckS, sz9, ag9, Tryd.underlying45]
  cases e4 : (userB by_).2 with
  | false => simp; exact h1 (by simp [e4])
  | true =>
  simp [ev_skip, ev_seq, ev_cond2, ev_ret, ev_region2, evOps_nil, evOps_cons, opG_none, opG_some, opJ, opU_ff, isU_bool, opK_eq, opA_move, opA_assign, opA_pick, opA_bin, opA_load, opA_fieldAddr, opA_nilCheck, putO_some, putH_lt, condB_false, binT_some, binA, avO_some, pickT, loadT, nilCheckT, fieldAddrT, strOp, opS, opV, Go.Mx.look, seqK, Fr.known, retK, retA, resA, mapO, partA, loadA, loadS, plusS, nilCheckS, orO_some, eqT_some, lookT_some, opA_lookup, tk9, sz42, ag42, Tryd.underlying45, g1, tl_inj]
  refine ⟨fun e5 => h1 (fun h => e5 h.2.2.2.2), fun e5 => ?_⟩
  have hp : (homeB al).2 = true ∧ (homeB al).1 = D.sv ∧ roomB rm = true ∧ (userB by_).2 = true ∧ (userB by_).1 = D.sv := ⟨e1, e2, e3, e4, e5⟩
  have hl := look_al g2 al
  simp [ev_skip, ev_seq, ev_cond2, ev_ret, ev_region2, evOps_nil, evOps_cons, opG_none, opA_move, opA_assign, opA_extract, opA_load, opA_fieldAddr, opA_nilCheck, opA_alloc, opA_store, putO_some, putH_lt, putU_none, avO_some, extractT, loadT, nilCheckT, fieldAddrT, allocT, storeT, opS, opV, Go.Mx.look, seqK, Fr.known, Fr.newBox, dropBp, retK, retA, resA, mapO, extractA, cellsA_agg, okPart_agg, partA, loadA, loadS, plusS, nilCheckS, newK, storeS, sz42, ag42, Tryd.underlying45, sz72, ze72, hl, entV]
  cases hf : D.f al with
  | some p => simp; exact h4 hp (by simp [hf])
  | none =>
    simp [evOps_cons, opG_none, opA_move, opA_build, putO_some, putH_lt, buildZ, partsZ, fillO, aggO, opS, opV, Go.Mx.look, cellsA_v, okPart_v, Value.oneCell', fillA, updT_some, opA_upd, ze72, of72, g1]
    refine g2.upd Tryd.underlying42 (KGood.str Tryd.underlying9 al) (fun H' g5 hs hl' => ?_)
    have e6 := fA_upd D.f al (some (rm, by_))
    simp only [Option.map_some, entV] at e6
    rw [e6] at g5
    have hlt := Hp.lt g1
    simp [ev_seq, ev_ret, ev_region2, evOps_nil, evOps_cons, opG_none, opA_assign, putO_some, putH_lt, putU_none, opS, opV, Go.Mx.look, seqK, retK, retA, resA, mapO]
    refine h0 hp hf H' ⟨m1, m2, ?_, g5, ?_, g4, rfl⟩ (hs.wide (by simp))
    · refine hs.2 _ _ g1 ?_
      simp only [List.mem_singleton]
      rintro rfl
      obtain ⟨es, c, q1, _⟩ := g2
      rw [g1] at q1; simp at q1
    · exact g3.same hs (by simpa using fun e => g4 e.symm)

theorem find_sp (a : Nat) (D : Dir) (fp : List Nat) (al : ByteArray) (H : Hp) (Q : AV → Hp → Prop) (hd : DirAt H a D fp) (h : Q (.v (.string (((D.f al).map (·.1)).getD ⟨#[]⟩))) H) :
    Sp Tryd.prog 15 [.ptr a 0 0, .v (.string al)] Q H := by
  refine Sp.body [] ⟨[], [], []⟩ [] mo Tryd.func15 rfl (Nat.le_of_ble_eq_true rfl) (by kernel_rfl) ?_
  simp [ev_seq, ev_region2, evOps_nil, evOps_cons, opG_none, opA_move, opA_assign, opA_call, putO_some, putH_lt, opS, opV, Go.Mx.look, fr0, argSlots, seqK, mapO, callA, ok18]
  refine made_sp a D fp H _ hd ?_
  obtain ⟨m1, m2, g1, g2, g3, g4, rfl⟩ := hd
  have hl := look_al1 g2 al
  simp [ev_skip, ev_seq, ev_cond2, ev_ret, ev_region2, evOps_nil, evOps_cons, opG_none, opA_move, opA_assign, opA_un, opA_field, opA_load, opA_fieldAddr, opA_nilCheck, putO_some, putH_lt, putC_lt, condB_false, avO_some, unT, loadT, nilCheckT, fieldT, fieldAddrT, opS, opV, Go.Mx.look, seqK, Fr.known, retK, retA, resA, mapO, unA, fieldA, partA, loadA, loadS, plusS, nilCheckS, lookT_some, opA_lookup, sz9, ag9, sz42, ag42, Tryd.underlying45, Tryd.underlying72, g1, hl, entV]
  cases hf : D.f al <;> rw [hf] at h <;> exact h

theorem remove_sp (a : Nat) (D : Dir) (fp : List Nat) (al by_ : ByteArray) (H : Hp) (Q : AV → Hp → Prop) (hd : DirAt H a D fp)
    (h2 : D.f al = none → Q (.v (.int .i64 2)) H) (h1 : ∀ p, D.f al = some p → p.2 ≠ by_ → Q (.v (.int .i64 110)) H)
    (h0 : ∀ p, D.f al = some p → p.2 = by_ → ∀ H', DirAt H' a ⟨D.sv, updF D.f al none, D.g⟩ fp → Same fp H H' → Q (.v (.int .i64 0)) H') :
    Sp Tryd.prog 14 [.ptr a 0 0, .v (.string al), .v (.string by_)] Q H := by
  refine Sp.body [] ⟨[7], [], []⟩ [] mo Tryd.func14 rfl (Nat.le_of_ble_eq_true rfl) (by kernel_rfl) ?_
  simp [ev_seq, ev_region2, evOps_nil, evOps_cons, opG_none, opA_move, opA_assign, opA_call, putO_some, putH_lt, opS, opV, Go.Mx.look, fr0, argSlots, seqK, mapO, callA, ok18]
  refine made_sp a D fp H _ hd ?_
  obtain ⟨m1, m2, g1, g2, g3, g4, rfl⟩ := hd
  have hl := look_al g2 al
  simp [ev_skip, ev_seq, ev_cond2, ev_block, ev_ret, ev_region2, evOps_nil, evOps_cons, opG_none, opA_move, opA_assign, opA_un, opA_extract, opA_load, opA_fieldAddr, opA_nilCheck, opA_alloc, opA_store, putO_some, putH_lt, putC_lt, putU_none, condB_false, avO_some, unT, extractT, loadT, nilCheckT, fieldAddrT, allocT, storeT, opS, opV, Go.Mx.look, seqK, blockK, Fr.known, Fr.newBox, dropBp, retK, retA, resA, mapO, unA, extractA, cellsA_agg, okPart_agg, partA, loadA, loadS, plusS, nilCheckS, newK, storeS, lookT_some, opA_lookup, sz9, ag9, sz42, ag42, Tryd.underlying45, sz72, ze72, Tryd.underlying72, g1, hl, entV]
  cases hf : D.f al with
  | none => simp; exact h2 hf
  | some p =>
    simp [ev_skip, ev_seq, ev_cond2, ev_ret, ev_region2, evOps_nil, evOps_cons, opG_none, opA_move, opA_assign, opA_bin, opA_load, opA_fieldAddr, opA_nilCheck, putO_some, putH_lt, binT_some, binA, avO_some, loadT, nilCheckT, fieldAddrT, strOp, opS, opV, Go.Mx.look, seqK, blockK, Fr.known, retK, retA, resA, mapO, partA, loadA, loadS, plusS, nilCheckS, orO_some, eqT_some, delT_some, opA_delete, tk9, sz42, ag42, Tryd.underlying45, g1, tl_inj, splice]
    refine ⟨fun e => h1 p hf e, fun e => ?_⟩
    refine g2.del Tryd.underlying42 (KGood.str Tryd.underlying9 al) (fun H' g5 hs hl' => ?_)
    have e6 := fA_upd D.f al none
    simp only [Option.map_none] at e6
    rw [e6] at g5
    simp [ev_seq, ev_ret, ev_region2, evOps_nil, evOps_cons, opG_none, opA_assign, putO_some, putH_lt, putC_none, opS, opV, Go.Mx.look, seqK, retK, retA, resA, mapO]
    refine h0 p hf e H' ⟨m1, m2, ?_, g5, ?_, g4, rfl⟩ (hs.wide (by simp))
    · refine hs.2 _ _ g1 ?_
      simp only [List.mem_singleton]
      rintro rfl
      obtain ⟨es, c, q1, _⟩ := g2
      rw [g1] at q1; simp at q1
    · exact g3.same hs (by simpa using fun e => g4 e.symm)

theorem look_pl {H : Hp} {m : Nat} {g : ByteArray → Option Pl} (hm : MapAt Tryd.prog 9 H m (fP g)) (s : ByteArray) : lookV Tryd.prog H 43 (.mp m) (.v (.string s)) true = some (.tup [.agg (plC ((g s).getD ⟨⟨#[]⟩, ⟨#[]⟩, ⟨#[]⟩, 0⟩)), .v (.bool (g s).isSome)]) := by
  rw [hm.look Tryd.underlying43 (KGood.str Tryd.underlying9 s)]
  show Go.Mx.valOf Tryd.prog 30 true ((g s).map (fun p => .agg (plC p))) = _
  cases g s <;> rfl
def listB (p : Pl) : Prop := roomB p.rm = true ∧ 0 ≤ p.n ∧ (p.al = ⟨#[]⟩ ∨ (homeB p.al).2 = true)
theorem updA_mono {P : Program} {H : Hp} {t : TypeId} {m key val : AV} {k k' : Hp → Prop} (h : updA P H t m key val k) (hk : ∀ H', k H' → k' H') : updA P H t m key val k' := by
  unfold updA at h ⊢
  split at h <;> (try exact h.elim)
  · split at h <;> (try exact h.elim)
    exact ⟨h.1, h.2.1, hk _ h.2.2⟩
theorem list_sp (a : Nat) (D : Dir) (fp : List Nat) (p : Pl) (H : Hp) (Q : AV → Hp → Prop) (hd : DirAt H a D fp) (z1 : p.al.size ≤ 80000) (z2 : p.rm.size ≤ 80000)
    (h1 : ¬ listB p → Q (.v (.int .i64 1)) H) (h0 : listB p → ∀ H', DirAt H' a ⟨D.sv, D.f, updF D.g p.rm (some p)⟩ fp → Same fp H H' → Q (.v (.int .i64 0)) H') :
    Sp Tryd.prog 11 [.ptr a 0 0, .agg (plC p)] Q H := by
  refine Sp.body [] ⟨[3], [], pl11⟩ tb11 mo Tryd.func11 rfl (Nat.le_of_ble_eq_true rfl) (by kernel_rfl) ?_
  simp [ev_seq, ev_region2, evOps_nil, evOps_cons, opG_none, opA_move, opA_assign, opA_call, opA_box, putO_some, putH_lt, boxT, opS, opV, Go.Mx.look, fr0, argSlots, seqK, Fr.newBox, dropBp, mapO, callA, cellsA_agg, okPart_agg, newK, ok18, pl11, plC]
  refine made_sp a D fp H _ hd ?_
  obtain ⟨m1, m2, g1, g2, g3, g4, rfl⟩ := hd
  unfold listB at h1 h0
  simp [evOps_cons, opG_none, opG_some, opJ, opU_ff, isU_bool, opK_eq, opA_move, opA_un, opA_load, opA_fieldAddr, opA_call, putO_some, putH_lt, putC_lt, condB_false, unT, loadT, fieldAddrT, opS, opV, Go.Mx.look, Fr.known, mapO, unA, callA, partA, loadS, plusS, sz9, ag9, Tryd.underlying30, ok27]
  refine isRoom_sp p.rm H _ (by omega) ?_
  cases e1 : roomB p.rm with
  | false => simp [ev_seq, ev_cond2, ev_ret, ev_region2, evOps_nil, evOps_cons, opG_none, opG_some, opJ, opU_true, opU_ff, isU_undef, isU_bool, opK_eq, opA_move, opA_assign, opA_pick, opA_un, putO_some, putH_lt, putC_lt, putV_lt, condB_true, condB_false, pickT, unT, opS, opV, Go.Mx.look, seqK, Fr.known, retK, retA, resA, mapO, unA]; exact h1 (by simp [e1])
  | true =>
  have fin : (p.al = ⟨#[]⟩ ∨ (homeB p.al).2 = true) → ¬ p.n < 0 → updA Tryd.prog H 43 (.mp m2) (.v (.string p.rm)) (.agg (plC p)) (fun H' => Q (.v (.int .i64 0)) H') := by
    intro e3 e2
    refine g3.upd Tryd.underlying43 (KGood.str Tryd.underlying9 p.rm) (fun H' g5 hs hl' => ?_)
    have e6 := fP_upd D.g p.rm (some p)
    simp only [Option.map_some] at e6
    rw [e6] at g5
    refine h0 ⟨e1, by omega, e3⟩ H' ⟨m1, m2, ?_, ?_, g5, g4, rfl⟩ (hs.wide (by simp))
    · refine hs.2 _ _ g1 ?_
      simp only [List.mem_singleton]
      rintro rfl
      obtain ⟨es, c, q1, _⟩ := g3
      rw [g1] at q1; simp at q1
    · exact g2.same hs (by simpa using g4)
  simp [ev_skip, ev_seq, ev_cond2, ev_ret, ev_region2, evOps_nil, evOps_cons, opG_none, opG_some, opJ, opU_true, opU_ft, opU_ff, isU_undef, isU_bool, opK_eq, opA_move, opA_assign, opA_pick, opA_bin, opA_un, opA_load, opA_fieldAddr, opA_nilCheck, opA_call, putO_some, putH_lt, putC_lt, putV_lt, condB_true, condB_false, binT_some, binA, avO_some, pickT, unT, loadT, nilCheckT, fieldAddrT, io_lss, strOp, opS, opV, Go.Mx.look, seqK, Fr.known, retK, retA, resA, mapO, unA, callA, partA, loadA, loadS, plusS, nilCheckS, orO_some, eqT_some, ev_draw, drawK, evP_q, opAt_some, sz3, ag3, tk3, sz9, ag9, tk9, Tryd.underlying30, sz43, ag43, Tryd.underlying45, ok28, tl_nil]
  refine ⟨fun e2 => h1 (fun h => by omega), fun e2 => ⟨fun e3 => ?_, fun e3 => ?_⟩⟩
  · refine is_sp p.al H _ (by omega) ?_
    cases e4 : (homeB p.al).2 with
    | false => simp [ev_seq, ev_cond2, ev_ret, ev_region2, evOps_nil, evOps_cons, opG_none, opG_some, opJ, opU_ft, opU_ff, isU_bool, opK_eq, opA_assign, opA_pick, opA_un, putO_some, putH_lt, putC_lt, condB_true, condB_false, pickT, unT, opS, opV, Go.Mx.look, seqK, Fr.known, retK, retA, resA, mapO, unA]; exact h1 (by simp [e4]; intro _ _; exact e3)
    | true =>
      simp [ev_skip, ev_seq, ev_cond2, evOps_nil, evOps_cons, opG_none, opG_some, opJ, opU_ft, opU_ff, isU_bool, opK_eq, opA_move, opA_pick, opA_un, opA_load, opA_fieldAddr, opA_nilCheck, putO_some, putH_lt, putC_lt, condB_true, condB_false, pickT, unT, loadT, nilCheckT, fieldAddrT, opS, opV, Go.Mx.look, seqK, Fr.known, unA, partA, loadA, loadS, plusS, nilCheckS, updT_some, opA_upd, ev_draw, drawK, evP_q, evP_s, opAt_some, sz9, ag9, sz30, ag30, Tryd.underlying30, sz43, ag43, Tryd.underlying45, g1]
      refine updA_mono (fin (.inr e4) (by omega)) (fun H' h => ?_)
      simpa [ev_skip, ev_seq, ev_cond2, ev_block, ev_exit, ev_ret, ev_region2, ev_loop, loopK, evOps_nil, evOps_cons, opG_none, opG_some, opJ, opU_true, opU_ft, opU_ff, isU_undef, isU_bool, valU_true, valU_false, opK_eq, opA_move, opA_assign, opA_pick, opA_bin, opA_un, opA_extract, opA_field, opA_load, opA_index, opA_indexAddr, opA_fieldAddr, opA_nilCheck, opA_len, opA_call, opA_max, opA_min, opA_alloc, opA_box, opA_store, opA_buildSlice, opA_makeSlice, opA_append, opA_copy, opA_convert, opA_makeMap, opA_slice, opA_makeFunc, opA_build, putO_some, putH_lt, putH_none, putC_lt, putC_none, putU_lt, putU_none, putV_lt, putV_none, condB_true, condB_false, CondP_true, CondP_false, binT_some, binA_int, binA_str, binA_eqb, binA_neb, binA, eqRef, avO_some, avO_none, avOf, pickT_true, pickT_false, pickT, unT, extractT, loadT, nilCheckT, lenT_str, lenT_row, lenT_sl, lenT_nil, lenT_arr, lenT_mp, lenT_nomp, maxT, minT, maxA, minA, fieldT, fieldAddrT, indexT, indexAddrT, allocT, boxT, storeT, buildSliceT, makeSliceT, appendT, copyT, convV, convC, convT, makeMapT, bndT, sliceT, fnT, bytesOf_nil, bytesOf_one, repeatL_0, repeatL_1, repeatL_2, repeatL_3, repeatL_4, buildZ, partsZ, fillO, aggO, io_add, io_sub, io_mul, io_quo, io_rem, io_shl, io_shr, io_and, io_or, io_xor, io_eql, io_neq, io_lss, io_leq, io_gtr, io_geq, strOp, opS_tmp, opS_const, opV_tmp, opV_const, opS, opV, look_eq, look_ne, Go.Mx.look, fr0, argSlots, seqK_n, seqK_r, seqK_e, seqK, blockK_n, blockK_r, blockK, Fr.known, Fr.newBox, dropBp, retK, retA, resA, mapO, unA, convInt, convStr, strOf, callA, extractA, lenM, cellsA_v, cellsA_agg, cellsA_row, cellsA_sl, cellsA_ptr, cellsA_rp, cellsA_mp, cellsA_fn, okPart_v, okPart_agg, okPart_row, okPart_sl, okPart_ptr, okPart_rp, okPart_mp, okPart_fn, Value.oneCell', fieldA, partA, loadA, loadS, plusS, indexAddrA, indexArrA, nilCheckS, sliceA, sliceArr, fillA, newK, storeS, headK, getV, getB, chkP, mkFr, slotsOf, ptrsOf, boxesOf, firstReg, bindO, makeA, appA, copyA, srcA, srcTy, okPart_u8, cellsA_u8, Cond_iff, orO_some, orO_none, eqT_some, opA_entry, entryT_some, lookT_some, updT_some, delT_some, clearT_some, rangeT_some, nextT_some, makeMapH, opA_lookup, opA_makeMap2, opA_upd, opA_delete, opA_clear, opA_range, opA_next, valS_lookup, ev_draw, drawK, evP_nil, evP_q, evP_s, opAt_some, chkK_eq, sameV_some, sameO_some, allQ_nil, allQ_cons, valG_some, valJ, valQ_none, valQ_some, valS_move, valS_pick, valS_bin, valS_un, valS_extract, valS_field, valS_load, valS_index, valS_indexAddr, valS_fieldAddr, valS_nilCheck, valS_len, valS_max, valS_min, valS_slice, valS_convert, valS_makeFunc, valS_build, valS_buildSlice, rowT, rowF, sz2, ag2, tk2, by2, ze2, Tryd.underlying2, sz3, ag3, tk3, by3, ze3, Tryd.underlying3, sz4, ag4, tk4, by4, ze4, Tryd.underlying4, sz5, ag5, tk5, by5, ze5, Tryd.underlying5, sz9, ag9, tk9, st9, by9, ze9, Tryd.underlying9, sz21, ag21, tk21, by21, ze21, Tryd.underlying21, sz22, ag22, tk22, st22, by22, ze22, Tryd.underlying22, sz24, ag24, tk24, by24, ze24, Tryd.underlying24, sz26, ag26, tk26, st26, by26, ze26, Tryd.underlying26, sz30, ag30, tk30, by30, ze30, of30, Tryd.underlying30, sz35, ag35, tk35, by35, ze35, of35, Tryd.underlying35, sz36, ag36, tk36, by36, ze36, Tryd.underlying36, sz41, ag41, tk41, by41, ze41, of41, Tryd.underlying41, sz42, ag42, tk42, by42, ze42, Tryd.underlying42, sz43, ag43, tk43, by43, ze43, Tryd.underlying43, sz45, ag45, tk45, by45, ze45, of45, Tryd.underlying45, sz46, ag46, tk46, st46, by46, ze46, Tryd.underlying46, sz50, ag50, tk50, st50, by50, ze50, Tryd.underlying50, sz61, ag61, tk61, st61, by61, ze61, Tryd.underlying61, sz64, ag64, tk64, st64, by64, ze64, Tryd.underlying64, sz72, ag72, tk72, by72, ze72, of72, Tryd.underlying72, sz78, ag78, tk78, by78, ze78, Tryd.underlying78, mo, ok4, ok5, ok6, ok7, ok8, ok9, ok10, ok11, ok12, ok13, ok14, ok15, ok16, ok17, ok18, ok19, ok21, ok22, ok23, ok24, ok25, ok26, ok27, ok28, ok29, ok30, ok32, ok38, ok39, ok40, ok41, ok42, ok43, ok44, ok46, ok47, ok48, ok64, ok65, ok66, ok67, ok68, ok69, ok86, ok87, ok88, ok94, ok96, pl4, pl6, pl7, pl9, pl11, pl21, pl25, pl26, pl87] using h
  · simp [opG_none, opA_load, opA_fieldAddr, putO_some, putH_lt, loadT, fieldAddrT, opS, opV, Go.Mx.look, partA, loadS, plusS, updT_some, opA_upd, evP_q, evP_s, opAt_some, sz9, ag9, sz30, ag30, Tryd.underlying30, g1]
    refine updA_mono (fin (.inl e3) (by omega)) (fun H' h => ?_)
    simpa [ev_skip, ev_seq, ev_cond2, ev_block, ev_exit, ev_ret, ev_region2, ev_loop, loopK, evOps_nil, evOps_cons, opG_none, opG_some, opJ, opU_true, opU_ft, opU_ff, isU_undef, isU_bool, valU_true, valU_false, opK_eq, opA_move, opA_assign, opA_pick, opA_bin, opA_un, opA_extract, opA_field, opA_load, opA_index, opA_indexAddr, opA_fieldAddr, opA_nilCheck, opA_len, opA_call, opA_max, opA_min, opA_alloc, opA_box, opA_store, opA_buildSlice, opA_makeSlice, opA_append, opA_copy, opA_convert, opA_makeMap, opA_slice, opA_makeFunc, opA_build, putO_some, putH_lt, putH_none, putC_lt, putC_none, putU_lt, putU_none, putV_lt, putV_none, condB_true, condB_false, CondP_true, CondP_false, binT_some, binA_int, binA_str, binA_eqb, binA_neb, binA, eqRef, avO_some, avO_none, avOf, pickT_true, pickT_false, pickT, unT, extractT, loadT, nilCheckT, lenT_str, lenT_row, lenT_sl, lenT_nil, lenT_arr, lenT_mp, lenT_nomp, maxT, minT, maxA, minA, fieldT, fieldAddrT, indexT, indexAddrT, allocT, boxT, storeT, buildSliceT, makeSliceT, appendT, copyT, convV, convC, convT, makeMapT, bndT, sliceT, fnT, bytesOf_nil, bytesOf_one, repeatL_0, repeatL_1, repeatL_2, repeatL_3, repeatL_4, buildZ, partsZ, fillO, aggO, io_add, io_sub, io_mul, io_quo, io_rem, io_shl, io_shr, io_and, io_or, io_xor, io_eql, io_neq, io_lss, io_leq, io_gtr, io_geq, strOp, opS_tmp, opS_const, opV_tmp, opV_const, opS, opV, look_eq, look_ne, Go.Mx.look, fr0, argSlots, seqK_n, seqK_r, seqK_e, seqK, blockK_n, blockK_r, blockK, Fr.known, Fr.newBox, dropBp, retK, retA, resA, mapO, unA, convInt, convStr, strOf, callA, extractA, lenM, cellsA_v, cellsA_agg, cellsA_row, cellsA_sl, cellsA_ptr, cellsA_rp, cellsA_mp, cellsA_fn, okPart_v, okPart_agg, okPart_row, okPart_sl, okPart_ptr, okPart_rp, okPart_mp, okPart_fn, Value.oneCell', fieldA, partA, loadA, loadS, plusS, indexAddrA, indexArrA, nilCheckS, sliceA, sliceArr, fillA, newK, storeS, headK, getV, getB, chkP, mkFr, slotsOf, ptrsOf, boxesOf, firstReg, bindO, makeA, appA, copyA, srcA, srcTy, okPart_u8, cellsA_u8, Cond_iff, orO_some, orO_none, eqT_some, opA_entry, entryT_some, lookT_some, updT_some, delT_some, clearT_some, rangeT_some, nextT_some, makeMapH, opA_lookup, opA_makeMap2, opA_upd, opA_delete, opA_clear, opA_range, opA_next, valS_lookup, ev_draw, drawK, evP_nil, evP_q, evP_s, opAt_some, chkK_eq, sameV_some, sameO_some, allQ_nil, allQ_cons, valG_some, valJ, valQ_none, valQ_some, valS_move, valS_pick, valS_bin, valS_un, valS_extract, valS_field, valS_load, valS_index, valS_indexAddr, valS_fieldAddr, valS_nilCheck, valS_len, valS_max, valS_min, valS_slice, valS_convert, valS_makeFunc, valS_build, valS_buildSlice, rowT, rowF, sz2, ag2, tk2, by2, ze2, Tryd.underlying2, sz3, ag3, tk3, by3, ze3, Tryd.underlying3, sz4, ag4, tk4, by4, ze4, Tryd.underlying4, sz5, ag5, tk5, by5, ze5, Tryd.underlying5, sz9, ag9, tk9, st9, by9, ze9, Tryd.underlying9, sz21, ag21, tk21, by21, ze21, Tryd.underlying21, sz22, ag22, tk22, st22, by22, ze22, Tryd.underlying22, sz24, ag24, tk24, by24, ze24, Tryd.underlying24, sz26, ag26, tk26, st26, by26, ze26, Tryd.underlying26, sz30, ag30, tk30, by30, ze30, of30, Tryd.underlying30, sz35, ag35, tk35, by35, ze35, of35, Tryd.underlying35, sz36, ag36, tk36, by36, ze36, Tryd.underlying36, sz41, ag41, tk41, by41, ze41, of41, Tryd.underlying41, sz42, ag42, tk42, by42, ze42, Tryd.underlying42, sz43, ag43, tk43, by43, ze43, Tryd.underlying43, sz45, ag45, tk45, by45, ze45, of45, Tryd.underlying45, sz46, ag46, tk46, st46, by46, ze46, Tryd.underlying46, sz50, ag50, tk50, st50, by50, ze50, Tryd.underlying50, sz61, ag61, tk61, st61, by61, ze61, Tryd.underlying61, sz64, ag64, tk64, st64, by64, ze64, Tryd.underlying64, sz72, ag72, tk72, by72, ze72, of72, Tryd.underlying72, sz78, ag78, tk78, by78, ze78, Tryd.underlying78, mo, ok4, ok5, ok6, ok7, ok8, ok9, ok10, ok11, ok12, ok13, ok14, ok15, ok16, ok17, ok18, ok19, ok21, ok22, ok23, ok24, ok25, ok26, ok27, ok28, ok29, ok30, ok32, ok38, ok39, ok40, ok41, ok42, ok43, ok44, ok46, ok47, ok48, ok64, ok65, ok66, ok67, ok68, ok69, ok86, ok87, ok88, ok94, ok96, pl4, pl6, pl7, pl9, pl11, pl21, pl25, pl26, pl87] using h
theorem unlist_sp (a : Nat) (D : Dir) (fp : List Nat) (rm : ByteArray) (H : Hp) (Q : AV → Hp → Prop) (hd : DirAt H a D fp)
    (h0 : ∀ H', DirAt H' a ⟨D.sv, D.f, updF D.g rm none⟩ fp → Same fp H H' → Q (.v (.bool (D.g rm).isSome)) H') :
    Sp Tryd.prog 12 [.ptr a 0 0, .v (.string rm)] Q H := by
  refine Sp.body [] ⟨[5], [], []⟩ [] mo Tryd.func12 rfl (Nat.le_of_ble_eq_true rfl) (by kernel_rfl) ?_
  simp [ev_seq, ev_region2, evOps_nil, evOps_cons, opG_none, opA_move, opA_assign, opA_call, putO_some, putH_lt, opS, opV, Go.Mx.look, fr0, argSlots, seqK, mapO, callA, ok18]
  refine made_sp a D fp H _ hd ?_
  obtain ⟨m1, m2, g1, g2, g3, g4, rfl⟩ := hd
  have hl := look_pl g3 rm
  simp [ev_skip, ev_seq, ev_cond2, ev_region2, evOps_nil, evOps_cons, opG_none, opA_move, opA_assign, opA_un, opA_extract, opA_load, opA_fieldAddr, opA_nilCheck, opA_alloc, opA_store, putO_some, putH_lt, putC_lt, putU_none, condB_false, avO_some, unT, extractT, loadT, nilCheckT, fieldAddrT, allocT, storeT, opS, opV, Go.Mx.look, seqK, Fr.known, Fr.newBox, dropBp, unA, extractA, cellsA_agg, okPart_agg, partA, loadA, loadS, plusS, nilCheckS, newK, storeS, lookT_some, delT_some, opA_lookup, opA_delete, sz30, ze30, sz43, ag43, Tryd.underlying45, g1, hl, plC]
  refine g3.del Tryd.underlying43 (KGood.str Tryd.underlying9 rm) (fun H' g5 hs hl' => ?_)
  have e6 := fP_upd D.g rm none
  simp only [Option.map_none] at e6
  rw [e6] at g5
  simp [ev_seq, ev_ret, ev_region2, evOps_nil, evOps_cons, opG_none, opA_move, opA_assign, putO_some, putH_lt, putC_none, opS, opV, Go.Mx.look, seqK, retK, retA, resA, mapO]
  refine h0 H' ⟨m1, m2, ?_, ?_, g5, g4, rfl⟩ (hs.wide (by simp))
  · refine hs.2 _ _ g1 ?_
    simp only [List.mem_singleton]
    rintro rfl
    obtain ⟨es, c, q1, _⟩ := g3
    rw [g1] at q1; simp at q1
  · exact g2.same hs (by simpa using g4)
end Go.Proofs.YtgefinddmggpnaaDoor

namespace Go.Proofs.YtgefinddmggpnaaDoor
open Go.Mx
set_option linter.unusedVariables false
set_option linter.unusedSimpArgs false
set_option maxRecDepth 100000

structure Dd where
  k : Int
  al : ByteArray
  rm : ByteArray
  by_ : ByteArray
  p : Pl
def ddC (x : Dd) : List AV := [.v (.int .i64 x.k), .v (.string x.al), .v (.string x.rm), .v (.string x.by_), .v (.string x.p.al), .v (.string x.p.rm), .v (.string x.p.nm), .v (.int .i64 x.p.n)]
theorem ddC_len (x : Dd) : (ddC x).length = 8 := rfl
def SzD (x : Dd) : Prop := x.al.size ≤ 140737488351232 ∧ x.rm.size ≤ 140737488351232 ∧ x.by_.size ≤ 140737488351232
theorem dd_read {xs : List AV} (h : Shp Tryd.prog 35 xs) : ∃ x : Dd, xs = ddC x ∧ SzD x := by
  obtain ⟨ps, rfl, hp⟩ := shp_struct Tryd.underlying35 h
  obtain ⟨n0, e0, _⟩ := shp_int Tryd.underlying3 (hp 0 _ rfl)
  obtain ⟨s1, e1, z1⟩ := shp_str Tryd.underlying9 (hp 1 _ rfl)
  obtain ⟨s2, e2, z2⟩ := shp_str Tryd.underlying9 (hp 2 _ rfl)
  obtain ⟨s3, e3, z3⟩ := shp_str Tryd.underlying9 (hp 3 _ rfl)
  obtain ⟨qs, e4, hq⟩ := shp_struct Tryd.underlying30 (hp 4 _ rfl)
  obtain ⟨t0, f0, _⟩ := shp_str Tryd.underlying9 (hq 0 _ rfl)
  obtain ⟨t1, f1, _⟩ := shp_str Tryd.underlying9 (hq 1 _ rfl)
  obtain ⟨t2, f2, _⟩ := shp_str Tryd.underlying9 (hq 2 _ rfl)
  obtain ⟨t3, f3, _⟩ := shp_int Tryd.underlying3 (hq 3 _ rfl)
  exact ⟨⟨n0, s1, s2, s3, ⟨t0, t1, t2, t3⟩⟩, by simp [List.range_succ, e0, e1, e2, e3, e4, f0, f1, f2, f3, ddC], z1, z2, z3⟩
def ddsV (l : List Dd) : AV := .row false l.length (l.flatMap ddC)
theorem dds_read {x : AV} (h : Shp Tryd.prog 22 [x]) : ∃ l : {l : List Dd // ∀ x ∈ l, SzD x}, x = ddsV l.1 := by
  obtain ⟨l, h1, _, h2⟩ := shp_rows Tryd.underlying22 (fun _ ha => dd_read ha) h
  simp at h1
  exact ⟨⟨l, h2⟩, h1⟩
theorem one_read {xs : List AV} (h : Shp Tryd.prog 35 xs) : ∃ x : {x : Dd // SzD x}, xs = ddC x.1 := by
  obtain ⟨x, h1, h2⟩ := dd_read h
  exact ⟨⟨x, h2⟩, h1⟩

/-- Few and small. -/
def FewD (x : Dd) : Prop := x.al.size + x.rm.size + x.by_.size ≤ 300 ∧ x.p.al.size ≤ 80 ∧ x.p.nm.size ≤ 60 ∧ x.p.rm.size ≤ 100
def Few (l : List Dd) : Prop := l.length ≤ 50 ∧ ∀ x ∈ l, FewD x
set_option maxRecDepth 20000 in
theorem few_sp (l : List Dd) (x0 : Bool) (H : Hp) (Q : AV → Hp → Prop) (hz : ∀ x ∈ l, SzD x) (h1 : Few l → Q (.v (.bool true)) H) (h0 : ¬ Few l → Q (.v (.bool false)) H) :
    Sp Tryd.prog 6 [.row x0 l.length (l.flatMap ddC)] Q H := by
  refine Sp.body [(4, ⟨[0, 3], [], []⟩)] ⟨[], [], pl6⟩ tb6 mo Tryd.func6 rfl (Nat.le_of_ble_eq_true rfl) (by kernel_rfl) ?_
  simp [ev_skip, ev_seq, ev_cond2, ev_block, ev_ret, ev_region2, ev_loop, loopK, evOps_nil, evOps_cons, opG_none, opA_move, opA_assign, opA_bin, opA_len, putO_some, putH_lt, binT_some, binA, avO_some, lenT_row, io_gtr, opS, opV, Go.Mx.look, fr0, argSlots, seqK, Fr.known, retK, retA, resA, mapO, headK, getV, getB, chkP, firstReg, orO_some, eqT_some, tk3, Tryd.underlying22, pl6]
  refine ⟨fun h => h0 (fun hf => by have := hf.1; omega), fun h => ?_⟩
  refine LoopC.intro (fun n xs _ H2 => ∃ i : Nat, i ≤ l.length ∧ n = l.length - i ∧ (∀ j x, j < i → l[j]? = some x → FewD x) ∧ xs = [.row x0 l.length (l.flatMap ddC), .v (.int .i64 i)] ∧ H2 = H) l.length
    ⟨0, by omega, by omega, fun j x hj => by omega, by simp, rfl⟩ ?_
  rintro n xs bs H2 ⟨i, hi, rfl, hj, rfl, rfl⟩
  simp [ev_skip, ev_seq, ev_cond2, ev_block, ev_exit, ev_ret, ev_region2, evOps_nil, evOps_cons, opG_none, opA_move, opA_assign, opA_bin, opA_indexAddr, opA_len, putO_some, putH_lt, binT_some, binA, avO_some, lenT_row, indexAddrT, io_lss, opS, opV, Go.Mx.look, seqK, blockK, Fr.known, retK, retA, resA, mapO, indexAddrA, mkFr, slotsOf, ptrsOf, boxesOf, orO_some, eqT_some, ev_draw, drawK, evP_q, opAt_some, tk3, Tryd.underlying22, sz35]
  refine ⟨fun hlt => ?_, fun hge => ?_⟩
  · have hx := List.getElem?_eq_getElem hlt
    generalize l[i] = x at hx
    have g1 := flat_get ddC_len hx 1 (by omega)
    have g2 := flat_get ddC_len hx 2 (by omega)
    have g3 := flat_get ddC_len hx 3 (by omega)
    have g4 := flat_get ddC_len hx 4 (by omega)
    have g5 := flat_get ddC_len hx 5 (by omega)
    have g6 := flat_get ddC_len hx 6 (by omega)
    simp [ddC] at g1 g2 g3 g4 g5 g6
    obtain ⟨z1, z2, z3⟩ := hz x (List.mem_of_getElem? hx)
    have w1 : IntKind.i64.wrap ((i : Int) + 1) = (i : Int) + 1 := wr_i64 (by omega)
    have w2 : IntKind.i64.wrap ((x.al.size : Int) + x.rm.size) = (x.al.size : Int) + x.rm.size := wr_i64 (by omega)
    have w3 : IntKind.i64.wrap ((x.al.size : Int) + x.rm.size + x.by_.size) = (x.al.size : Int) + x.rm.size + x.by_.size := wr_i64 (by omega)
    have hm := List.mem_of_getElem? hx
    simp [ev_skip, ev_seq, ev_cond2, ev_ret, ev_region2, evOps_nil, evOps_cons, opG_none, opG_some, opJ, opU_ff, isU_bool, opK_eq, opA_move, opA_assign, opA_pick, opA_bin, opA_load, opA_indexAddr, opA_fieldAddr, opA_len, putO_some, putH_lt, putV_lt, condB_true, condB_false, binT_some, binA, avO_some, pickT, loadT, lenT_str, fieldAddrT, indexAddrT, io_add, io_gtr, opS, opV, Go.Mx.look, seqK, blockK, Fr.known, retK, retA, resA, mapO, partA, loadA, loadS, plusS, indexAddrA, headK, getV, getB, chkP, orO_some, eqT_some, evP_nil, evP_q, opAt_some, tk3, sz9, ag9, Tryd.underlying9, Tryd.underlying22, sz30, Tryd.underlying30, sz35, Tryd.underlying35, g1, g2, g3, g4, g5, g6, hlt, w1, w2, w3]
    refine ⟨fun hb => h0 (fun hf => ?_), fun hb => ⟨fun hb2 => h0 (fun hf => ?_), fun hb2 => ⟨fun hb3 => h0 (fun hf => ?_), fun hb3 => ⟨fun hb4 => h0 (fun hf => ?_), fun hb4 => ?_⟩⟩⟩⟩
    · have := (hf.2 x hm).1; omega
    · have := (hf.2 x hm).2.1; omega
    · have := (hf.2 x hm).2.2.1; omega
    · have := (hf.2 x hm).2.2.2; omega
    refine ⟨l.length - (i + 1), by omega, i + 1, by omega, rfl, fun j y hj2 hy => ?_, by simp⟩
    rcases Nat.lt_or_ge j i with h3 | h3
    · exact hj j y h3 hy
    · obtain rfl : j = i := by omega
      rw [hx] at hy; simp at hy; subst hy; exact ⟨by omega, by omega, by omega, by omega⟩
  · refine h1 ⟨by omega, fun x hx => ?_⟩
    obtain ⟨j, hj2⟩ := List.getElem?_of_mem hx
    exact hj j x (by have := (List.getElem?_eq_some_iff.1 hj2).1; omega) hj2

def s1 : ByteArray := ⟨#[115, 49]⟩
def hall : ByteArray := ⟨#[35, 104, 97, 108, 108, 58, 115, 49]⟩
def rS1 : ByteArray := ⟨#[33, 114, 58, 115, 49]⟩
def aS1 : ByteArray := ⟨#[64, 97, 58, 115, 49]⟩
def bS1 : ByteArray := ⟨#[64, 98, 58, 115, 49]⟩
theorem s1_ok : serverB s1.data.toList = true := by decide +kernel
theorem put_ok (f : ByteArray → Option (ByteArray × ByteArray)) (g : ByteArray → Option Pl) : putB ⟨s1, f, g⟩ hall rS1 aS1 := by
  refine ⟨by decide +kernel, ?_, by decide +kernel, by decide +kernel, ?_⟩
  · show (homeB hall).1 = s1
    decide +kernel
  · show (userB aS1).1 = s1
    decide +kernel
theorem awake_sp (H : Hp) (Q : AV → Hp → Prop) (h : ∀ H', Same [] H H' → Q (.v (.bool true)) H') : Sp Tryd.prog 10 [] Q H := by
  refine Sp.body [] ⟨[], [], []⟩ [] mo Tryd.func10 rfl (Nat.le_of_ble_eq_true rfl) (by kernel_rfl) ?_
  simp [ev_seq, ev_region2, evOps_nil, evOps_cons, opG_none, opA_assign, opA_call, putO_some, putH_lt, opS, opV, fr0, argSlots, seqK, mapO, callA, ok17]
  refine new_sp s1 H _ (by decide) (fun e => by rw [s1_ok] at e; simp at e) (fun _ H1 hd hs1 hl1 => ?_)
  simp [ev_seq, ev_region2, evOps_nil, evOps_cons, opG_none, opA_move, opA_assign, opA_extract, opA_call, putO_some, putH_lt, putC_lt, extractT, opS, opV, Go.Mx.look, seqK, mapO, callA, extractA, ok13]
  refine put_sp _ _ _ hall rS1 aS1 H1 _ hd (by decide) (by decide) (by decide) (fun hn => absurd (put_ok _ _) hn) (fun _ hn => absurd rfl hn) (fun _ _ H2 hd2 hs2 => ?_)
  simp [ev_seq, ev_region2, evOps_nil, evOps_cons, opG_none, opG_some, opJ, opU_ft, isU_bool, opK_eq, opA_move, opA_assign, opA_pick, opA_bin, opA_call, putO_some, putH_lt, putC_lt, condB_true, binT_some, binA, avO_some, pickT, io_eql, opS, opV, Go.Mx.look, seqK, Fr.known, mapO, callA, orO_some, eqT_some, tk36, ok15]
  refine find_sp _ _ _ hall H2 _ hd2 ?_
  have e1 : updF (fun _ => none) hall (some (rS1, aS1)) hall = some (rS1, aS1) := by simp [updF]
  simp [ev_ret, evOps_nil, evOps_cons, opG_none, opG_some, opJ, opU_ft, isU_bool, opK_eq, opA_move, opA_assign, opA_pick, opA_bin, opA_call, putO_some, putH_lt, putC_lt, putV_lt, condB_true, condB_false, binT_some, binA, avO_some, pickT, strOp, opS, opV, Go.Mx.look, seqK, Fr.known, retK, retA, resA, mapO, callA, orO_some, eqT_some, tk9, ok14, e1]
  simp [rS1]
  refine remove_sp _ _ _ hall bS1 H2 _ hd2 (fun e => by simp [updF] at e) (fun p hp hne => ?_) (fun p hp he => ?_)
  · simp [ev_ret, evOps_nil, evOps_cons, opG_none, opG_some, opJ, opU_ft, isU_bool, opK_eq, opA_assign, opA_pick, opA_bin, putO_some, putH_lt, putC_lt, condB_true, binT_some, binA, avO_some, pickT, io_eql, opS, opV, Go.Mx.look, seqK, Fr.known, retK, retA, resA, mapO, orO_some, eqT_some, tk36]
    exact h _ (hs1.new hs2 (by simp))
  · replace hp : updF (fun _ => none) hall (some (rS1, aS1)) hall = some p := hp
    rw [e1] at hp
    simp at hp; subst hp
    exact absurd he (by decide +kernel)
end Go.Proofs.YtgefinddmggpnaaDoor

namespace Go.Proofs.YtgefinddmggpnaaDoor
open Go.Mx
set_option linter.unusedVariables false
set_option linter.unusedSimpArgs false
set_option maxRecDepth 100000

def DOk (D : Dir) (n : Nat) : Prop := D.sv = s1 ∧ (∃ K : List ByteArray, K.length ≤ n ∧ ∀ s, D.f s ≠ none → s ∈ K) ∧ ∀ s p, D.f s = some p → (homeB s).2 = true ∧ s.size ≤ 300
theorem DOk.put {D : Dir} {n : Nat} (h : DOk D n) {al : ByteArray} {p : ByteArray × ByteArray} (h1 : (homeB al).2 = true) (h2 : al.size ≤ 300) : DOk ⟨D.sv, updF D.f al (some p), D.g⟩ (n + 1) := by
  obtain ⟨a, ⟨K, hK, hk⟩, c⟩ := h
  refine ⟨a, ⟨al :: K, by simp; omega, fun s hs => ?_⟩, fun s q hs => ?_⟩
  · by_cases e : s = al
    · simp [e]
    · simp [updF, e] at hs; simp [hk s hs]
  · by_cases e : s = al
    · subst e; exact ⟨h1, h2⟩
    · simp [updF, e] at hs; exact c s q hs
theorem DOk.del {D : Dir} {n : Nat} (h : DOk D n) (al : ByteArray) : DOk ⟨D.sv, updF D.f al none, D.g⟩ n := by
  obtain ⟨a, ⟨K, hK, hk⟩, c⟩ := h
  refine ⟨a, ⟨K, hK, fun s hs => ?_⟩, fun s q hs => ?_⟩
  · by_cases e : s = al
    · simp [updF, e] at hs
    · simp [updF, e] at hs; exact hk s hs
  · by_cases e : s = al
    · simp [updF, e] at hs
    · simp [updF, e] at hs; exact c s q hs
theorem DOk.le {D : Dir} {n m : Nat} (h : DOk D n) (hm : n ≤ m) : DOk D m := by
  obtain ⟨a, ⟨K, hK, hk⟩, c⟩ := h
  exact ⟨a, ⟨K, Nat.le_trans hK hm, hk⟩, c⟩
theorem DOk.g {D : Dir} {n : Nat} (h : DOk D n) (g) : DOk ⟨D.sv, D.f, g⟩ n := h
/-- Places stand under their rooms, so many at most. -/
def GOk (g : ByteArray → Option Pl) (n : Nat) : Prop := (∀ k p, g k = some p → p.rm = k) ∧ ∃ K : List ByteArray, K.length ≤ n ∧ ∀ s, g s ≠ none → s ∈ K
theorem GOk.put {g : ByteArray → Option Pl} {n : Nat} (h : GOk g n) (p : Pl) : GOk (updF g p.rm (some p)) (n + 1) := by
  obtain ⟨a, K, hK, hk⟩ := h
  refine ⟨fun k q hq => ?_, p.rm :: K, by simp; omega, fun s hs => ?_⟩
  · by_cases e : k = p.rm
    · simp [updF, e] at hq; rw [e, ← hq]
    · simp [updF, e] at hq; exact a k q hq
  · by_cases e : s = p.rm
    · simp [e]
    · simp [updF, e] at hs; simp [hk s hs]
theorem GOk.del {g : ByteArray → Option Pl} {n : Nat} (h : GOk g n) (rm : ByteArray) : GOk (updF g rm none) n := by
  obtain ⟨a, K, hK, hk⟩ := h
  refine ⟨fun k q hq => ?_, K, hK, fun s hs => ?_⟩
  · by_cases e : k = rm
    · simp [updF, e] at hq
    · simp [updF, e] at hq; exact a k q hq
  · by_cases e : s = rm
    · simp [updF, e] at hs
    · simp [updF, e] at hs; exact hk s hs
theorem GOk.le {g : ByteArray → Option Pl} {n m : Nat} (h : GOk g n) (hm : n ≤ m) : GOk g m := by
  obtain ⟨a, K, hK, hk⟩ := h
  exact ⟨a, K, Nat.le_trans hK hm, hk⟩
def RowD (v : AV) (l : List Dd) : Prop := (∃ x, v = .row x l.length (l.flatMap ddC)) ∨ (v = .v (.slice none 0 0) ∧ l = [])

end Go.Proofs.YtgefinddmggpnaaDoor
