import Derived.Test.YtgefinddmggpnaaDoorRows
import Derived.Test.YtgefinddmggpnaaDoorMxR
namespace Go.Proofs.YtgefinddmggpnaaDoor
open Go.Mx
theorem sz2 : szT Tryd.prog 2 = some 1 := by kernel_rfl
theorem ag2 : aggT Tryd.prog 2 = some false := by kernel_rfl
theorem tk2 : tkOf Tryd.prog 2 = .num := by kernel_rfl
theorem by2 : (Tryd.prog.info? 2).map (·.bytes) = some 8 := by kernel_rfl
theorem ze2 : zerosT Tryd.prog 2 = some [.v (.int .i64 0)] := by kernel_rfl
theorem sz3 : szT Tryd.prog 3 = some 1 := by kernel_rfl
theorem ag3 : aggT Tryd.prog 3 = some false := by kernel_rfl
theorem tk3 : tkOf Tryd.prog 3 = .num := by kernel_rfl
theorem by3 : (Tryd.prog.info? 3).map (·.bytes) = some 8 := by kernel_rfl
theorem ze3 : zerosT Tryd.prog 3 = some [.v (.int .i64 0)] := by kernel_rfl
theorem sz4 : szT Tryd.prog 4 = some 1 := by kernel_rfl
theorem ag4 : aggT Tryd.prog 4 = some false := by kernel_rfl
theorem tk4 : tkOf Tryd.prog 4 = .bool := by kernel_rfl
theorem by4 : (Tryd.prog.info? 4).map (·.bytes) = some 1 := by kernel_rfl
theorem ze4 : zerosT Tryd.prog 4 = some [.v (.bool false)] := by kernel_rfl
theorem sz5 : szT Tryd.prog 5 = some 1 := by kernel_rfl
theorem ag5 : aggT Tryd.prog 5 = some false := by kernel_rfl
theorem tk5 : tkOf Tryd.prog 5 = .num := by kernel_rfl
theorem by5 : (Tryd.prog.info? 5).map (·.bytes) = some 1 := by kernel_rfl
theorem ze5 : zerosT Tryd.prog 5 = some [.v (.int .u8 0)] := by kernel_rfl
theorem sz9 : szT Tryd.prog 9 = some 1 := by kernel_rfl
theorem ag9 : aggT Tryd.prog 9 = some false := by kernel_rfl
theorem tk9 : tkOf Tryd.prog 9 = .str := by kernel_rfl
theorem st9 : isStrTy Tryd.prog 9 = some true := by kernel_rfl
theorem by9 : (Tryd.prog.info? 9).map (·.bytes) = some 16 := by kernel_rfl
theorem ze9 : zerosT Tryd.prog 9 = some [.v (.string ⟨#[]⟩)] := by kernel_rfl
theorem sz21 : szT Tryd.prog 21 = some 1 := by kernel_rfl
theorem ag21 : aggT Tryd.prog 21 = some false := by kernel_rfl
theorem tk21 : tkOf Tryd.prog 21 = .num := by kernel_rfl
theorem by21 : (Tryd.prog.info? 21).map (·.bytes) = some 4 := by kernel_rfl
theorem ze21 : zerosT Tryd.prog 21 = some [.v (.int .i32 0)] := by kernel_rfl
theorem sz22 : szT Tryd.prog 22 = some 1 := by kernel_rfl
theorem ag22 : aggT Tryd.prog 22 = some false := by kernel_rfl
theorem tk22 : tkOf Tryd.prog 22 = .slice := by kernel_rfl
theorem st22 : isStrTy Tryd.prog 22 = some false := by kernel_rfl
theorem by22 : (Tryd.prog.info? 22).map (·.bytes) = some 24 := by kernel_rfl
theorem ze22 : zerosT Tryd.prog 22 = some [.v (.slice none 0 0)] := by kernel_rfl
theorem sz24 : szT Tryd.prog 24 = some 1 := by kernel_rfl
theorem ag24 : aggT Tryd.prog 24 = some false := by kernel_rfl
theorem tk24 : tkOf Tryd.prog 24 = .ptr := by kernel_rfl
theorem by24 : (Tryd.prog.info? 24).map (·.bytes) = some 8 := by kernel_rfl
theorem ze24 : zerosT Tryd.prog 24 = some [.v (.pointer none)] := by kernel_rfl
theorem sz26 : szT Tryd.prog 26 = some 1 := by kernel_rfl
theorem ag26 : aggT Tryd.prog 26 = some false := by kernel_rfl
theorem tk26 : tkOf Tryd.prog 26 = .slice := by kernel_rfl
theorem st26 : isStrTy Tryd.prog 26 = some false := by kernel_rfl
theorem by26 : (Tryd.prog.info? 26).map (·.bytes) = some 24 := by kernel_rfl
theorem ze26 : zerosT Tryd.prog 26 = some [.v (.slice none 0 0)] := by kernel_rfl
theorem sz30 : szT Tryd.prog 30 = some 4 := by kernel_rfl
theorem ag30 : aggT Tryd.prog 30 = some true := by kernel_rfl
theorem tk30 : tkOf Tryd.prog 30 = .other := by kernel_rfl
theorem by30 : (Tryd.prog.info? 30).map (·.bytes) = some 56 := by kernel_rfl
theorem ze30 : zerosT Tryd.prog 30 = some [.v (.string ⟨#[]⟩), .v (.string ⟨#[]⟩), .v (.string ⟨#[]⟩), .v (.int .i64 0)] := by kernel_rfl
theorem of30 : offsT Tryd.prog 30 = some [(0, 1), (1, 1), (2, 1), (3, 1)] := by kernel_rfl
theorem sz35 : szT Tryd.prog 35 = some 8 := by kernel_rfl
theorem ag35 : aggT Tryd.prog 35 = some true := by kernel_rfl
theorem tk35 : tkOf Tryd.prog 35 = .other := by kernel_rfl
theorem by35 : (Tryd.prog.info? 35).map (·.bytes) = some 112 := by kernel_rfl
theorem ze35 : zerosT Tryd.prog 35 = some [.v (.int .i64 0), .v (.string ⟨#[]⟩), .v (.string ⟨#[]⟩), .v (.string ⟨#[]⟩), .v (.string ⟨#[]⟩), .v (.string ⟨#[]⟩), .v (.string ⟨#[]⟩), .v (.int .i64 0)] := by kernel_rfl
theorem of35 : offsT Tryd.prog 35 = some [(0, 1), (1, 1), (2, 1), (3, 1), (4, 4)] := by kernel_rfl
theorem sz36 : szT Tryd.prog 36 = some 1 := by kernel_rfl
theorem ag36 : aggT Tryd.prog 36 = some false := by kernel_rfl
theorem tk36 : tkOf Tryd.prog 36 = .num := by kernel_rfl
theorem by36 : (Tryd.prog.info? 36).map (·.bytes) = some 8 := by kernel_rfl
theorem ze36 : zerosT Tryd.prog 36 = some [.v (.int .i64 0)] := by kernel_rfl
theorem sz41 : szT Tryd.prog 41 = some 3 := by kernel_rfl
theorem ag41 : aggT Tryd.prog 41 = some true := by kernel_rfl
theorem tk41 : tkOf Tryd.prog 41 = .other := by kernel_rfl
theorem by41 : (Tryd.prog.info? 41).map (·.bytes) = some 32 := by kernel_rfl
theorem ze41 : zerosT Tryd.prog 41 = some [.v (.string ⟨#[]⟩), .v (.int .i64 0), .v (.int .i64 0)] := by kernel_rfl
theorem of41 : offsT Tryd.prog 41 = some [(0, 1), (1, 1), (2, 1)] := by kernel_rfl
theorem sz42 : szT Tryd.prog 42 = some 1 := by kernel_rfl
theorem ag42 : aggT Tryd.prog 42 = some false := by kernel_rfl
theorem tk42 : tkOf Tryd.prog 42 = .map := by kernel_rfl
theorem by42 : (Tryd.prog.info? 42).map (·.bytes) = some 8 := by kernel_rfl
theorem ze42 : zerosT Tryd.prog 42 = some [.v (.map none)] := by kernel_rfl
theorem sz43 : szT Tryd.prog 43 = some 1 := by kernel_rfl
theorem ag43 : aggT Tryd.prog 43 = some false := by kernel_rfl
theorem tk43 : tkOf Tryd.prog 43 = .map := by kernel_rfl
theorem by43 : (Tryd.prog.info? 43).map (·.bytes) = some 8 := by kernel_rfl
theorem ze43 : zerosT Tryd.prog 43 = some [.v (.map none)] := by kernel_rfl
theorem sz45 : szT Tryd.prog 45 = some 3 := by kernel_rfl
theorem ag45 : aggT Tryd.prog 45 = some true := by kernel_rfl
theorem tk45 : tkOf Tryd.prog 45 = .other := by kernel_rfl
theorem by45 : (Tryd.prog.info? 45).map (·.bytes) = some 32 := by kernel_rfl
theorem ze45 : zerosT Tryd.prog 45 = some [.v (.string ⟨#[]⟩), .v (.map none), .v (.map none)] := by kernel_rfl
theorem of45 : offsT Tryd.prog 45 = some [(0, 1), (1, 1), (2, 1)] := by kernel_rfl
theorem sz46 : szT Tryd.prog 46 = some 1 := by kernel_rfl
theorem ag46 : aggT Tryd.prog 46 = some false := by kernel_rfl
theorem tk46 : tkOf Tryd.prog 46 = .slice := by kernel_rfl
theorem st46 : isStrTy Tryd.prog 46 = some false := by kernel_rfl
theorem by46 : (Tryd.prog.info? 46).map (·.bytes) = some 24 := by kernel_rfl
theorem ze46 : zerosT Tryd.prog 46 = some [.v (.slice none 0 0)] := by kernel_rfl
theorem sz50 : szT Tryd.prog 50 = some 1 := by kernel_rfl
theorem ag50 : aggT Tryd.prog 50 = some false := by kernel_rfl
theorem tk50 : tkOf Tryd.prog 50 = .slice := by kernel_rfl
theorem st50 : isStrTy Tryd.prog 50 = some false := by kernel_rfl
theorem by50 : (Tryd.prog.info? 50).map (·.bytes) = some 24 := by kernel_rfl
theorem ze50 : zerosT Tryd.prog 50 = some [.v (.slice none 0 0)] := by kernel_rfl
theorem sz61 : szT Tryd.prog 61 = some 1 := by kernel_rfl
theorem ag61 : aggT Tryd.prog 61 = some false := by kernel_rfl
theorem tk61 : tkOf Tryd.prog 61 = .slice := by kernel_rfl
theorem st61 : isStrTy Tryd.prog 61 = some false := by kernel_rfl
theorem by61 : (Tryd.prog.info? 61).map (·.bytes) = some 24 := by kernel_rfl
theorem ze61 : zerosT Tryd.prog 61 = some [.v (.slice none 0 0)] := by kernel_rfl
theorem sz64 : szT Tryd.prog 64 = some 1 := by kernel_rfl
theorem ag64 : aggT Tryd.prog 64 = some false := by kernel_rfl
theorem tk64 : tkOf Tryd.prog 64 = .slice := by kernel_rfl
theorem st64 : isStrTy Tryd.prog 64 = some false := by kernel_rfl
theorem by64 : (Tryd.prog.info? 64).map (·.bytes) = some 24 := by kernel_rfl
theorem ze64 : zerosT Tryd.prog 64 = some [.v (.slice none 0 0)] := by kernel_rfl
theorem sz72 : szT Tryd.prog 72 = some 2 := by kernel_rfl
theorem ag72 : aggT Tryd.prog 72 = some true := by kernel_rfl
theorem tk72 : tkOf Tryd.prog 72 = .other := by kernel_rfl
theorem by72 : (Tryd.prog.info? 72).map (·.bytes) = some 32 := by kernel_rfl
theorem ze72 : zerosT Tryd.prog 72 = some [.v (.string ⟨#[]⟩), .v (.string ⟨#[]⟩)] := by kernel_rfl
theorem of72 : offsT Tryd.prog 72 = some [(0, 1), (1, 1)] := by kernel_rfl
theorem sz78 : szT Tryd.prog 78 = some 1 := by kernel_rfl
theorem ag78 : aggT Tryd.prog 78 = some false := by kernel_rfl
theorem tk78 : tkOf Tryd.prog 78 = .num := by kernel_rfl
theorem by78 : (Tryd.prog.info? 78).map (·.bytes) = some 8 := by kernel_rfl
theorem ze78 : zerosT Tryd.prog 78 = some [.v (.int .u64 0)] := by kernel_rfl
theorem mo : Tryd.prog.follows .mixedOrders = true := by kernel_rfl
theorem ok4 : bodyOk Tryd.prog 4 = true := by kernel_rfl
theorem ok5 : bodyOk Tryd.prog 5 = true := by kernel_rfl
theorem ok6 : bodyOk Tryd.prog 6 = true := by kernel_rfl
theorem ok7 : bodyOk Tryd.prog 7 = true := by kernel_rfl
theorem ok8 : bodyOk Tryd.prog 8 = true := by kernel_rfl
theorem ok9 : bodyOk Tryd.prog 9 = true := by kernel_rfl
theorem ok10 : bodyOk Tryd.prog 10 = true := by kernel_rfl
theorem ok11 : bodyOk Tryd.prog 11 = true := by kernel_rfl
theorem ok12 : bodyOk Tryd.prog 12 = true := by kernel_rfl
theorem ok13 : bodyOk Tryd.prog 13 = true := by kernel_rfl
theorem ok14 : bodyOk Tryd.prog 14 = true := by kernel_rfl
theorem ok15 : bodyOk Tryd.prog 15 = true := by kernel_rfl
theorem ok16 : bodyOk Tryd.prog 16 = true := by kernel_rfl
theorem ok17 : bodyOk Tryd.prog 17 = true := by kernel_rfl
theorem ok18 : bodyOk Tryd.prog 18 = true := by kernel_rfl
theorem ok19 : bodyOk Tryd.prog 19 = true := by kernel_rfl
theorem ok21 : bodyOk Tryd.prog 21 = true := by kernel_rfl
theorem ok22 : bodyOk Tryd.prog 22 = true := by kernel_rfl
theorem ok23 : bodyOk Tryd.prog 23 = true := by kernel_rfl
theorem ok24 : bodyOk Tryd.prog 24 = true := by kernel_rfl
theorem ok25 : bodyOk Tryd.prog 25 = true := by kernel_rfl
theorem ok26 : bodyOk Tryd.prog 26 = true := by kernel_rfl
theorem ok27 : bodyOk Tryd.prog 27 = true := by kernel_rfl
theorem ok28 : bodyOk Tryd.prog 28 = true := by kernel_rfl
theorem ok29 : bodyOk Tryd.prog 29 = true := by kernel_rfl
theorem ok30 : bodyOk Tryd.prog 30 = true := by kernel_rfl
theorem ok32 : bodyOk Tryd.prog 32 = true := by kernel_rfl
theorem ok38 : bodyOk Tryd.prog 38 = true := by kernel_rfl
theorem ok39 : bodyOk Tryd.prog 39 = true := by kernel_rfl
theorem ok40 : bodyOk Tryd.prog 40 = true := by kernel_rfl
theorem ok41 : bodyOk Tryd.prog 41 = true := by kernel_rfl
theorem ok42 : bodyOk Tryd.prog 42 = true := by kernel_rfl
theorem ok43 : bodyOk Tryd.prog 43 = true := by kernel_rfl
theorem ok44 : bodyOk Tryd.prog 44 = true := by kernel_rfl
theorem ok46 : bodyOk Tryd.prog 46 = true := by kernel_rfl
theorem ok47 : bodyOk Tryd.prog 47 = true := by kernel_rfl
theorem ok48 : bodyOk Tryd.prog 48 = true := by kernel_rfl
theorem ok64 : bodyOk Tryd.prog 64 = true := by kernel_rfl
theorem ok65 : bodyOk Tryd.prog 65 = true := by kernel_rfl
theorem ok66 : bodyOk Tryd.prog 66 = true := by kernel_rfl
theorem ok67 : bodyOk Tryd.prog 67 = true := by kernel_rfl
theorem ok68 : bodyOk Tryd.prog 68 = true := by kernel_rfl
theorem ok69 : bodyOk Tryd.prog 69 = true := by kernel_rfl
theorem ok86 : bodyOk Tryd.prog 86 = true := by kernel_rfl
theorem ok87 : bodyOk Tryd.prog 87 = true := by kernel_rfl
theorem ok88 : bodyOk Tryd.prog 88 = true := by kernel_rfl
theorem ok94 : bodyOk Tryd.prog 94 = true := by kernel_rfl
theorem ok96 : bodyOk Tryd.prog 96 = true := by kernel_rfl
def pl4 : List (Nat × List Stp) := [(14, [.q 0, .q 1, .q 2, .q 3, .q 4, .q 5, .q 6, .q 7]), (16, [.q 0, .q 1, .q 2, .q 3, .q 4, .q 5])]
def tb4 : List (Nat × List Ent) := [(14, [⟨0, 128, 50, 1⟩, ⟨0, 1024, 51, 1⟩, ⟨3, 1688849860263936, 52, 1⟩, ⟨4, 2251799813685248, 53, 1⟩, ⟨8, 4503599627370496, 54, 1⟩, ⟨0, 8, 55, 1⟩, ⟨32, 18014398509481984, 56, 1⟩, ⟨80, 45035996273704960, 57, 1⟩]), (16, [⟨0, 128, 60, 1⟩, ⟨0, 1024, 61, 1⟩, ⟨3, 1729382256910270464, 62, 1⟩, ⟨4, 2305843009213693952, 63, 1⟩, ⟨0, 8, 64, 1⟩, ⟨24, 13835058055282163712, 65, 1⟩])]
def pl6 : List (Nat × List Stp) := [(6, [.q 0, .q 1, .q 2, .q 3, .q 4, .q 5, .q 6, .q 7, .q 8, .q 9, .q 10, .q 11, .q 12, .q 13, .q 14, .q 15, .q 16, .q 17, .q 18, .q 19, .q 20, .q 21, .q 22, .q 23, .q 24, .q 25, .q 26, .q 27, .q 28, .q 29, .q 30, .q 31, .q 32, .q 33, .q 34, .q 35, .q 36, .q 37, .q 38, .q 39, .q 40, .q 41, .q 42, .q 43, .q 44, .q 45, .q 46, .q 47, .q 48, .q 49, .q 50])]
def tb6 : List (Nat × List Ent) := [(6, [⟨0, 1, 14, 1⟩, ⟨0, 8, 15, 1⟩, ⟨3, 24576, 16, 1⟩, ⟨4, 32768, 17, 1⟩, ⟨8, 65536, 18, 1⟩, ⟨16, 131072, 19, 1⟩, ⟨0, 1, 20, 1⟩, ⟨0, 8, 21, 1⟩, ⟨192, 1572864, 22, 1⟩, ⟨256, 2097152, 23, 1⟩, ⟨512, 4194304, 24, 1⟩, ⟨1024, 8388608, 25, 1⟩, ⟨2080, 17039360, 26, 1⟩, ⟨0, 1, 27, 1⟩, ⟨0, 8, 28, 1⟩, ⟨24576, 201326592, 29, 1⟩, ⟨32768, 268435456, 30, 1⟩, ⟨65536, 536870912, 31, 1⟩, ⟨131072, 1073741824, 32, 1⟩, ⟨266240, 2181038080, 33, 1⟩, ⟨524288, 4294967296, 34, 1⟩, ⟨1048576, 8589934592, 35, 1⟩, ⟨2097152, 17179869185, 36, 1⟩, ⟨2097152, 17179869192, 37, 1⟩, ⟨14680064, 120259084288, 38, 1⟩, ⟨18874368, 154618822656, 39, 1⟩, ⟨35651584, 292057776128, 40, 1⟩, ⟨69206016, 566935683072, 41, 1⟩, ⟨136314880, 1116691496960, 42, 1⟩, ⟨270532608, 2216203124736, 43, 1⟩, ⟨538968064, 4415226380288, 44, 1⟩, ⟨1075838976, 8796093022208, 45, 1⟩, ⟨2147483648, 17592186044417, 46, 1⟩, ⟨2147483648, 17592186044424, 47, 1⟩, ⟨15032385536, 123145302310912, 48, 1⟩, ⟨19327352832, 158329674399744, 49, 1⟩, ⟨36507222016, 299067162755072, 50, 1⟩, ⟨70866960384, 580542139465728, 51, 1⟩, ⟨139586437120, 1143492092887040, 52, 1⟩, ⟨277025390592, 2269391999729664, 53, 1⟩, ⟨551903297536, 4521191813414912, 54, 1⟩, ⟨1101659111424, 9007199254740992, 55, 1⟩, ⟨2199023255552, 18014398509481985, 56, 1⟩, ⟨2199023255552, 18014398509481992, 57, 1⟩, ⟨15393162788864, 126100789566373888, 58, 1⟩, ⟨19791209299968, 162129586585337856, 59, 1⟩, ⟨37383395344384, 306244774661193728, 60, 1⟩, ⟨72567767433216, 594475150812905472, 61, 1⟩, ⟨142936511610880, 1170935903116328960, 62, 1⟩, ⟨283673999966208, 2323857407723175936, 63, 1⟩, ⟨565148976676864, 4629700416936869888, 64, 1⟩])]
def pl7 : List (Nat × List Stp) := [(7, [.q 0, .q 1, .q 2, .q 3, .q 4, .q 5, .q 6, .q 7, .q 8, .q 9, .q 10, .q 11, .q 12, .q 13, .q 14, .q 15, .s 16 [] [0, 5, 10, 15, 4, 9, 14, 3, 8, 13, 1, 2, 6, 7, 11, 12]]), (9, [.q 0, .q 1, .q 2, .q 3, .q 4, .q 5, .q 6, .q 7, .q 8, .q 9, .q 10, .s 11 [] [0, 5, 10, 4, 9, 3, 8, 1, 2, 6, 7]])]
def tb7 : List (Nat × List Ent) := [(7, [⟨0, 8, 24, 1⟩, ⟨0, 1, 25, 1⟩, ⟨0, 32, 26, 1⟩, ⟨6, 50331648, 27, 1⟩, ⟨8, 67108864, 28, 1⟩, ⟨16, 134217728, 29, 1⟩, ⟨0, 1, 30, 1⟩, ⟨0, 32, 31, 1⟩, ⟨192, 1610612736, 32, 1⟩, ⟨256, 2147483648, 33, 1⟩, ⟨512, 4294967296, 34, 1⟩, ⟨0, 1, 35, 1⟩, ⟨0, 32, 36, 1⟩, ⟨6144, 51539607552, 37, 1⟩, ⟨8192, 68719476736, 38, 1⟩, ⟨16384, 137438953472, 39, 1⟩, ⟨33825, 283744665600, 40, 0⟩]), (9, [⟨0, 8, 43, 1⟩, ⟨0, 1, 44, 1⟩, ⟨0, 32, 45, 1⟩, ⟨6, 26388279066624, 46, 1⟩, ⟨8, 35184372088832, 47, 1⟩, ⟨16, 70368744177664, 48, 1⟩, ⟨0, 1, 49, 1⟩, ⟨0, 32, 50, 1⟩, ⟨192, 844424930131968, 51, 1⟩, ⟨256, 1125899906842624, 52, 1⟩, ⟨512, 2251799813685248, 53, 1⟩, ⟨1057, 4648735162236928, 54, 0⟩])]
def pl9 : List (Nat × List Stp) := [(6, [.q 0, .q 1, .q 2, .q 3, .q 4, .q 5, .q 6, .q 7, .q 8])]
def tb9 : List (Nat × List Ent) := [(6, [⟨0, 1, 18, 1⟩, ⟨0, 32, 19, 1⟩, ⟨3, 393216, 20, 1⟩, ⟨4, 524288, 21, 1⟩, ⟨0, 2, 22, 1⟩, ⟨0, 32, 23, 1⟩, ⟨48, 6291456, 24, 1⟩, ⟨64, 8388608, 25, 1⟩, ⟨136, 17825792, 26, 1⟩])]
def pl11 : List (Nat × List Stp) := [(3, [.q 0, .q 1, .q 2, .q 3, .q 4, .q 5, .q 6, .s 7 [] [3, 5, 6, 0, 1, 2, 4]])]
def tb11 : List (Nat × List Ent) := [(3, [⟨0, 1, 31, 1⟩, ⟨1, 1073741824, 32, 1⟩, ⟨2, 2147483648, 33, 1⟩, ⟨4, 4294967296, 34, 1⟩, ⟨0, 8, 35, 1⟩, ⟨16, 17179869184, 36, 1⟩, ⟨0, 8, 37, 1⟩, ⟨127, 111669149696, 0, 0⟩])]
def pl21 : List (Nat × List Stp) := [(1, [.q 0, .q 1, .q 2, .q 3, .q 5, .q 6, .q 7, .q 8, .s 4 [5, 6, 7, 8] [1, 3, 0, 2], .s 9 [] [6, 8, 4, 5, 7, 1, 3, 0, 2], .q 10, .s 11 [] [10, 9, 4, 6, 8, 1, 3, 5, 7, 0, 2], .s 12 [] [11, 0, 1, 2, 3, 4, 5, 6, 7, 8, 9, 10]])]
def tb21 : List (Nat × List Ent) := [(1, [⟨0, 8, 6, 1⟩, ⟨1, 32, 7, 1⟩, ⟨0, 4, 8, 1⟩, ⟨4, 128, 9, 1⟩, ⟨10, 320, 10, 0⟩, ⟨0, 4, 11, 1⟩, ⟨32, 1024, 12, 1⟩, ⟨0, 8, 13, 1⟩, ⟨128, 4096, 14, 1⟩, ⟨336, 10240, 15, 0⟩, ⟨528, 16896, 16, 1⟩, ⟨1536, 32768, 17, 0⟩, ⟨4095, 65536, 5, 0⟩])]
def pl25 : List (Nat × List Stp) := [(6, [.q 0, .q 1, .q 2, .q 3, .q 4, .q 5, .q 6, .s 7 [1, 2, 3, 4, 5, 6] [0], .s 8 [] [6, 7, 0, 1, 2, 3, 4, 5]])]
def tb25 : List (Nat × List Ent) := [(6, [⟨0, 512, 27, 1⟩, ⟨0, 512, 28, 1⟩, ⟨0, 4, 29, 1⟩, ⟨4, 268435456, 30, 1⟩, ⟨10, 671088640, 31, 1⟩, ⟨16, 1073741824, 32, 1⟩, ⟨32, 2147483648, 33, 1⟩, ⟨1, 67108864, 7, 0⟩, ⟨255, 4294967296, 8, 0⟩])]
def pl26 : List (Nat × List Stp) := [(9, [.q 0, .q 1, .q 2, .q 3, .q 4, .q 5, .q 6, .s 7 [0] [3, 6, 1, 2, 4, 5], .q 8, .s 9 [] [8, 7, 0, 1, 2, 3, 4, 5, 6]])]
def tb26 : List (Nat × List Ent) := [(9, [⟨0, 256, 39, 1⟩, ⟨0, 128, 40, 1⟩, ⟨0, 256, 41, 1⟩, ⟨6, 1649267441664, 42, 1⟩, ⟨0, 128, 43, 1⟩, ⟨0, 256, 44, 1⟩, ⟨48, 13194139533312, 45, 1⟩, ⟨72, 19791209299968, 46, 0⟩, ⟨129, 35459249995776, 47, 1⟩, ⟨511, 70368744177664, 9, 0⟩])]
def pl87 : List (Nat × List Stp) := [(3, [.q 0, .q 1, .q 2, .q 3, .q 4, .q 5, .q 6, .q 7, .q 8, .s 9 [3, 4, 5, 6, 7, 8] [2, 0, 1], .s 10 [] [8, 9, 0, 1, 2, 3, 4, 5, 6, 7], .s 11 [] [10, 0, 1, 2, 3, 4, 5, 6, 7, 8, 9]])]
def tb87 : List (Nat × List Ent) := [(3, [⟨0, 1, 14, 1⟩, ⟨0, 128, 15, 1⟩, ⟨3, 24576, 16, 1⟩, ⟨0, 1, 17, 1⟩, ⟨0, 128, 18, 1⟩, ⟨0, 2, 19, 1⟩, ⟨32, 262144, 20, 1⟩, ⟨80, 655360, 21, 1⟩, ⟨136, 1114112, 22, 1⟩, ⟨7, 32768, 5, 0⟩, ⟨1023, 2097152, 6, 0⟩, ⟨2047, 0, 7, 0⟩])]
end Go.Proofs.YtgefinddmggpnaaDoor
