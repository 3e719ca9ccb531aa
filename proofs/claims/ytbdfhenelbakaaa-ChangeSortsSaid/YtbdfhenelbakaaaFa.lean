import Derived.Test.YtbdfhenelbakaaaRows
import Derived.Test.YtbdfhenelbakaaaMxR
namespace Go.Proofs.Ytbdfhenelbakaaa
open Go.Mx
theorem sz3 : szT Try.prog 3 = some 1 := by kernel_rfl
theorem ag3 : aggT Try.prog 3 = some false := by kernel_rfl
theorem tk3 : tkOf Try.prog 3 = .num := by kernel_rfl
theorem by3 : (Try.prog.info? 3).map (·.bytes) = some 8 := by kernel_rfl
theorem ze3 : zerosT Try.prog 3 = some [.v (.int .i64 0)] := by kernel_rfl
theorem sz4 : szT Try.prog 4 = some 1 := by kernel_rfl
theorem ag4 : aggT Try.prog 4 = some false := by kernel_rfl
theorem tk4 : tkOf Try.prog 4 = .bool := by kernel_rfl
theorem by4 : (Try.prog.info? 4).map (·.bytes) = some 1 := by kernel_rfl
theorem ze4 : zerosT Try.prog 4 = some [.v (.bool false)] := by kernel_rfl
theorem sz9 : szT Try.prog 9 = some 1 := by kernel_rfl
theorem ag9 : aggT Try.prog 9 = some false := by kernel_rfl
theorem tk9 : tkOf Try.prog 9 = .str := by kernel_rfl
theorem st9 : isStrTy Try.prog 9 = some true := by kernel_rfl
theorem by9 : (Try.prog.info? 9).map (·.bytes) = some 16 := by kernel_rfl
theorem ze9 : zerosT Try.prog 9 = some [.v (.string ⟨#[]⟩)] := by kernel_rfl
theorem sz22 : szT Try.prog 22 = some 1 := by kernel_rfl
theorem ag22 : aggT Try.prog 22 = some false := by kernel_rfl
theorem tk22 : tkOf Try.prog 22 = .slice := by kernel_rfl
theorem st22 : isStrTy Try.prog 22 = some false := by kernel_rfl
theorem by22 : (Try.prog.info? 22).map (·.bytes) = some 24 := by kernel_rfl
theorem ze22 : zerosT Try.prog 22 = some [.v (.slice none 0 0)] := by kernel_rfl
theorem sz28 : szT Try.prog 28 = some 2 := by kernel_rfl
theorem ag28 : aggT Try.prog 28 = some true := by kernel_rfl
theorem tk28 : tkOf Try.prog 28 = .other := by kernel_rfl
theorem by28 : (Try.prog.info? 28).map (·.bytes) = some 48 := by kernel_rfl
theorem ze28 : zerosT Try.prog 28 = some [.v (.slice none 0 0), .v (.slice none 0 0)] := by kernel_rfl
theorem of28 : offsT Try.prog 28 = some [(0, 1), (1, 1)] := by kernel_rfl
theorem sz32 : szT Try.prog 32 = some 3 := by kernel_rfl
theorem ag32 : aggT Try.prog 32 = some true := by kernel_rfl
theorem tk32 : tkOf Try.prog 32 = .other := by kernel_rfl
theorem by32 : (Try.prog.info? 32).map (·.bytes) = some 48 := by kernel_rfl
theorem ze32 : zerosT Try.prog 32 = some [.v (.string ⟨#[]⟩), .v (.string ⟨#[]⟩), .v (.string ⟨#[]⟩)] := by kernel_rfl
theorem of32 : offsT Try.prog 32 = some [(0, 1), (1, 1), (2, 1)] := by kernel_rfl
theorem sz37 : szT Try.prog 37 = some 2 := by kernel_rfl
theorem ag37 : aggT Try.prog 37 = some true := by kernel_rfl
theorem tk37 : tkOf Try.prog 37 = .other := by kernel_rfl
theorem by37 : (Try.prog.info? 37).map (·.bytes) = some 48 := by kernel_rfl
theorem ze37 : zerosT Try.prog 37 = some [.v (.slice none 0 0), .v (.slice none 0 0)] := by kernel_rfl
theorem sz39 : szT Try.prog 39 = some 1 := by kernel_rfl
theorem ag39 : aggT Try.prog 39 = some false := by kernel_rfl
theorem tk39 : tkOf Try.prog 39 = .slice := by kernel_rfl
theorem st39 : isStrTy Try.prog 39 = some false := by kernel_rfl
theorem by39 : (Try.prog.info? 39).map (·.bytes) = some 24 := by kernel_rfl
theorem ze39 : zerosT Try.prog 39 = some [.v (.slice none 0 0)] := by kernel_rfl
theorem sz41 : szT Try.prog 41 = some 1 := by kernel_rfl
theorem ag41 : aggT Try.prog 41 = some false := by kernel_rfl
theorem tk41 : tkOf Try.prog 41 = .map := by kernel_rfl
theorem by41 : (Try.prog.info? 41).map (·.bytes) = some 8 := by kernel_rfl
theorem ze41 : zerosT Try.prog 41 = some [.v (.map none)] := by kernel_rfl
theorem sz47 : szT Try.prog 47 = some 2 := by kernel_rfl
theorem ag47 : aggT Try.prog 47 = some true := by kernel_rfl
theorem tk47 : tkOf Try.prog 47 = .other := by kernel_rfl
theorem by47 : (Try.prog.info? 47).map (·.bytes) = some 32 := by kernel_rfl
theorem ze47 : zerosT Try.prog 47 = some [.v (.string ⟨#[]⟩), .v (.string ⟨#[]⟩)] := by kernel_rfl
theorem of47 : offsT Try.prog 47 = some [(0, 1), (1, 1)] := by kernel_rfl
theorem sz51 : szT Try.prog 51 = some 1 := by kernel_rfl
theorem ag51 : aggT Try.prog 51 = some false := by kernel_rfl
theorem tk51 : tkOf Try.prog 51 = .map := by kernel_rfl
theorem by51 : (Try.prog.info? 51).map (·.bytes) = some 8 := by kernel_rfl
theorem ze51 : zerosT Try.prog 51 = some [.v (.map none)] := by kernel_rfl
theorem sz62 : szT Try.prog 62 = some 1 := by kernel_rfl
theorem ag62 : aggT Try.prog 62 = some false := by kernel_rfl
theorem tk62 : tkOf Try.prog 62 = .slice := by kernel_rfl
theorem st62 : isStrTy Try.prog 62 = some false := by kernel_rfl
theorem by62 : (Try.prog.info? 62).map (·.bytes) = some 24 := by kernel_rfl
theorem ze62 : zerosT Try.prog 62 = some [.v (.slice none 0 0)] := by kernel_rfl
theorem mo : Try.prog.follows .mixedOrders = true := by kernel_rfl
theorem ok3 : bodyOk Try.prog 3 = true := by kernel_rfl
theorem ok4 : bodyOk Try.prog 4 = true := by kernel_rfl
theorem ok5 : bodyOk Try.prog 5 = true := by kernel_rfl
theorem ok6 : bodyOk Try.prog 6 = true := by kernel_rfl
theorem ok7 : bodyOk Try.prog 7 = true := by kernel_rfl
theorem ok8 : bodyOk Try.prog 8 = true := by kernel_rfl
theorem ok9 : bodyOk Try.prog 9 = true := by kernel_rfl
theorem ok10 : bodyOk Try.prog 10 = true := by kernel_rfl
theorem ok11 : bodyOk Try.prog 11 = true := by kernel_rfl
theorem ok12 : bodyOk Try.prog 12 = true := by kernel_rfl
theorem ok13 : bodyOk Try.prog 13 = true := by kernel_rfl
theorem ok14 : bodyOk Try.prog 14 = true := by kernel_rfl
theorem ok15 : bodyOk Try.prog 15 = true := by kernel_rfl
theorem ok16 : bodyOk Try.prog 16 = true := by kernel_rfl
theorem ok17 : bodyOk Try.prog 17 = true := by kernel_rfl
theorem ok18 : bodyOk Try.prog 18 = true := by kernel_rfl
theorem ok19 : bodyOk Try.prog 19 = true := by kernel_rfl
theorem ok20 : bodyOk Try.prog 20 = true := by kernel_rfl
theorem ok21 : bodyOk Try.prog 21 = true := by kernel_rfl
theorem ok22 : bodyOk Try.prog 22 = true := by kernel_rfl
theorem ok23 : bodyOk Try.prog 23 = true := by kernel_rfl
theorem ok24 : bodyOk Try.prog 24 = true := by kernel_rfl
theorem ok25 : bodyOk Try.prog 25 = true := by kernel_rfl
theorem ok26 : bodyOk Try.prog 26 = true := by kernel_rfl
theorem ok27 : bodyOk Try.prog 27 = true := by kernel_rfl
theorem ok28 : bodyOk Try.prog 28 = true := by kernel_rfl
theorem ok30 : bodyOk Try.prog 30 = true := by kernel_rfl
theorem ok31 : bodyOk Try.prog 31 = true := by kernel_rfl
theorem ok32 : bodyOk Try.prog 32 = true := by kernel_rfl
theorem ok33 : bodyOk Try.prog 33 = true := by kernel_rfl
theorem ok34 : bodyOk Try.prog 34 = true := by kernel_rfl
theorem ok35 : bodyOk Try.prog 35 = true := by kernel_rfl
theorem ok38 : bodyOk Try.prog 38 = true := by kernel_rfl
def pl4 : List (Nat × List Stp) := [(11, [.q 0, .q 1, .q 2, .q 3, .q 4, .q 5, .q 6, .q 7, .q 8, .q 9]), (19, [.q 0, .q 1, .q 2, .q 3, .q 4, .q 5, .q 6, .q 7, .q 8, .q 9, .q 10, .q 11, .q 12, .q 13, .q 14, .q 15, .q 16, .q 17, .q 18, .q 19, .q 20, .q 21, .q 22, .q 23, .q 24, .q 25])]
def tb4 : List (Nat × List Ent) := [(11, [⟨0, 32, 39, 1⟩, ⟨1, 274877906944, 40, 1⟩, ⟨0, 512, 41, 1⟩, ⟨6, 1649267441664, 42, 1⟩, ⟨8, 2199023255552, 43, 1⟩, ⟨0, 64, 44, 1⟩, ⟨0, 256, 45, 1⟩, ⟨96, 26388279066624, 46, 1⟩, ⟨128, 35184372088832, 47, 1⟩, ⟨272, 74766790688768, 48, 1⟩]), (19, [⟨0, 32, 62, 1⟩, ⟨1, 2305843009213693952, 63, 1⟩, ⟨0, 1024, 64, 1⟩, ⟨6, 13835058055282163712, 65, 1⟩, ⟨8, 18446744073709551616, 66, 1⟩, ⟨16, 36893488147419103232, 67, 1⟩, ⟨0, 128, 68, 1⟩, ⟨0, 2048, 69, 1⟩, ⟨192, 442721857769029238784, 70, 1⟩, ⟨256, 590295810358705651712, 71, 1⟩, ⟨512, 1180591620717411303424, 72, 1⟩, ⟨1056, 2434970217729660813312, 73, 1⟩, ⟨2048, 4722366482869645213696, 74, 1⟩, ⟨4096, 9444732965739290427424, 75, 1⟩, ⟨12288, 28334198897217871282176, 76, 1⟩, ⟨4096, 9444732965739290428416, 77, 1⟩, ⟨53248, 122781528554610775556096, 78, 1⟩, ⟨69632, 160560460417567937265664, 79, 1⟩, ⟨135168, 311676187869396584103936, 80, 1⟩, ⟨4096, 9444732965739290427520, 81, 1⟩, ⟨4096, 9444732965739290429440, 82, 1⟩, ⟨1576960, 3636222191809626814545920, 83, 1⟩, ⟨2101248, 4845148011424255989252096, 84, 1⟩, ⟨4198400, 9680851289882772688076800, 85, 1⟩, ⟨8654848, 19956720756607120673079296, 86, 1⟩, ⟨16781312, 38695070960633872881025024, 87, 1⟩])]
def pl5 : List (Nat × List Stp) := [(7, [.q 0, .q 1, .q 2, .q 3, .q 4, .q 5, .q 6, .q 7, .q 8, .q 9, .q 10, .q 11, .q 12, .q 13, .q 14, .q 15, .q 16, .q 17, .q 18, .q 19, .q 20, .q 21, .q 22, .q 23, .q 24, .q 25, .q 26, .q 27, .q 28, .q 29, .q 30, .q 31, .q 32, .q 33, .q 34, .q 35, .q 36, .q 37, .q 38, .q 39, .q 40, .q 41, .q 42, .q 43, .q 44, .q 45, .q 46, .q 47, .q 48, .q 49, .q 50, .q 51])]
def tb5 : List (Nat × List Ent) := [(7, [⟨0, 8, 18, 1⟩, ⟨0, 16, 19, 1⟩, ⟨3, 393216, 20, 1⟩, ⟨4, 524288, 21, 1⟩, ⟨8, 1048576, 22, 1⟩, ⟨16, 2097152, 23, 1⟩, ⟨32, 4194304, 24, 1⟩, ⟨64, 8388624, 25, 1⟩, ⟨192, 25165824, 26, 1⟩, ⟨320, 41943040, 27, 1⟩, ⟨512, 67108872, 28, 1⟩, ⟨512, 67108880, 29, 1⟩, ⟨3584, 469762048, 30, 1⟩, ⟨4608, 603979776, 31, 1⟩, ⟨8704, 1140850688, 32, 1⟩, ⟨512, 67108872, 33, 1⟩, ⟨512, 67108880, 34, 1⟩, ⟨66048, 8657043456, 35, 1⟩, ⟨164352, 21541945344, 36, 1⟩, ⟨262656, 34426847232, 37, 1⟩, ⟨524800, 68786585600, 38, 1⟩, ⟨1065472, 139653545984, 39, 1⟩, ⟨2097664, 274945015808, 40, 1⟩, ⟨4194304, 549755813896, 41, 1⟩, ⟨4194304, 549755813904, 42, 1⟩, ⟨29360128, 3848290697216, 43, 1⟩, ⟨37748736, 4947802324992, 44, 1⟩, ⟨71303168, 9345848836096, 45, 1⟩, ⟨4194304, 549755813896, 46, 1⟩, ⟨4194304, 549755813904, 47, 1⟩, ⟨541065216, 70918499991552, 48, 1⟩, ⟨1346371584, 176471616258048, 49, 1⟩, ⟨2151677952, 282024732524544, 50, 1⟩, ⟨4299161600, 563499709235200, 51, 1⟩, ⟨8728346624, 1144041848700928, 52, 1⟩, ⟨17184063488, 2252349569499136, 53, 1⟩, ⟨34359738368, 4503599627370504, 54, 1⟩, ⟨34359738368, 4503599627370512, 55, 1⟩, ⟨240518168576, 31525197391593472, 56, 1⟩, ⟨309237645312, 40532396646334464, 57, 1⟩, ⟨584115552256, 76561193665298432, 58, 1⟩, ⟨34359738368, 4503599627370504, 59, 1⟩, ⟨34359738368, 4503599627370512, 60, 1⟩, ⟨4432406249472, 580964351930793984, 61, 1⟩, ⟨11029476016128, 1445655480385929216, 62, 1⟩, ⟨17626545782784, 2310346608841064448, 63, 1⟩, ⟨35218731827200, 4616189618054758400, 64, 1⟩, ⟨71502615543808, 9371990824558002176, 65, 1⟩, ⟨140771852288000, 18451248223092736000, 66, 1⟩, ⟨281474980905472, 36893488697242025984, 67, 1⟩, ⟨562949953421888, 73786976294913703936, 68, 1⟩, ⟨1125899906842688, 147573952589684801536, 69, 1⟩])]
def pl6 : List (Nat × List Stp) := [(4, [.q 0, .q 1, .q 3, .s 2 [3] [0, 1], .s 4 [] [2, 3, 0, 1], .s 5 [] [4, 0, 1, 2, 3]])]
def tb6 : List (Nat × List Ent) := [(4, [⟨0, 1, 24, 1⟩, ⟨0, 128, 25, 1⟩, ⟨3, 25165824, 26, 0⟩, ⟨0, 256, 27, 1⟩, ⟨12, 100663296, 28, 0⟩, ⟨31, 134217728, 10, 0⟩])]
def pl7 : List (Nat × List Stp) := [(3, [.q 0, .q 1, .q 2, .q 3, .q 5, .q 6, .q 7, .q 8, .q 10, .q 11, .q 12, .q 13, .s 4 [5, 6, 7, 8, 10, 11, 12, 13] [1, 3, 0, 2], .s 9 [10, 11, 12, 13] [6, 8, 4, 5, 7, 1, 3, 0, 2], .s 14 [] [11, 13, 9, 10, 12, 6, 8, 4, 5, 7, 1, 3, 0, 2], .s 15 [0, 1, 2, 3, 5, 6, 7, 8, 10, 11, 12, 13] [], .s 16 [0, 1, 2, 3, 5, 6, 7, 8, 10, 11, 12, 13] [], .s 17 [0, 1, 2, 3, 5, 6, 7, 8, 10, 11, 12, 13] [], .s 18 [] [15, 4, 14, 0, 1, 2, 3, 16, 17, 11, 13, 9, 10, 12, 6, 8, 5, 7], .s 19 [] [16, 9, 18, 0, 1, 2, 3, 4, 5, 6, 7, 8, 15, 17, 14, 11, 13, 10, 12], .s 20 [] [17, 14, 19, 0, 1, 2, 3, 4, 5, 6, 7, 8, 9, 10, 11, 12, 13, 15, 16, 18]]), (4, [.q 0, .q 1, .q 2, .q 3, .q 5, .s 4 [0, 1, 5] [2, 3], .s 6 [0, 1] [4, 5, 2, 3], .s 7 [] [1, 6, 0, 4, 5, 2, 3], .s 8 [] [7, 0, 1, 2, 3, 4, 5, 6]]), (5, [.q 0, .q 1, .q 2, .q 3, .q 4, .s 5 [0, 1, 2] [3, 4], .s 6 [0, 1] [2, 5, 3, 4], .s 7 [] [1, 6, 0, 2, 5, 3, 4], .s 8 [] [7, 0, 1, 2, 3, 4, 5, 6]])]
def tb7 : List (Nat × List Ent) := [(3, [⟨0, 4, 22, 1⟩, ⟨1, 2097152, 23, 1⟩, ⟨0, 4, 24, 1⟩, ⟨4, 8388608, 25, 1⟩, ⟨10, 20971520, 26, 0⟩, ⟨0, 4, 27, 1⟩, ⟨32, 67108864, 28, 1⟩, ⟨0, 8, 29, 1⟩, ⟨128, 268435456, 30, 1⟩, ⟨336, 671088640, 31, 0⟩, ⟨0, 8, 32, 1⟩, ⟨1024, 2147483648, 33, 1⟩, ⟨0, 8, 34, 1⟩, ⟨4096, 8589934592, 35, 1⟩, ⟨10752, 21474836480, 36, 0⟩, ⟨0, 0, 6, 2⟩, ⟨0, 0, 7, 2⟩, ⟨0, 0, 8, 2⟩, ⟨245791, 33554464, 0, 0⟩, ⟨492543, 1073741888, 0, 0⟩, ⟨1048575, 34359738496, 0, 0⟩]), (4, [⟨0, 4, 37, 1⟩, ⟨1, 68719476736, 38, 1⟩, ⟨0, 32, 39, 1⟩, ⟨0, 64, 40, 1⟩, ⟨12, 824633720832, 41, 0⟩, ⟨0, 128, 42, 1⟩, ⟨48, 3298534883328, 43, 0⟩, ⟨66, 4535485464576, 44, 0⟩, ⟨255, 8796093022208, 9, 0⟩]), (5, [⟨0, 4, 45, 1⟩, ⟨1, 17592186044416, 46, 1⟩, ⟨0, 32, 47, 1⟩, ⟨0, 64, 48, 1⟩, ⟨0, 128, 49, 1⟩, ⟨24, 422212465065984, 50, 0⟩, ⟨36, 633318697598976, 51, 0⟩, ⟨66, 1161084278931456, 52, 0⟩, ⟨255, 2251799813685248, 10, 0⟩])]
def pl8 : List (Nat × List Stp) := [(9, [.q 0, .q 1, .q 2, .q 3, .q 4, .q 5, .q 6, .q 7, .q 8, .q 9, .q 10, .q 11, .q 12, .q 13, .q 14, .q 15, .q 16, .q 17, .q 18, .q 19, .q 20, .q 21, .q 22, .q 23, .q 24, .q 25, .q 26, .q 27, .q 28, .q 29])]
def tb8 : List (Nat × List Ent) := [(9, [⟨0, 1, 27, 1⟩, ⟨0, 8, 28, 1⟩, ⟨3, 201326592, 29, 1⟩, ⟨4, 268435456, 30, 1⟩, ⟨0, 16, 31, 1⟩, ⟨24, 1610612736, 32, 1⟩, ⟨32, 2147483648, 33, 1⟩, ⟨64, 4294967296, 34, 1⟩, ⟨128, 8589934592, 35, 1⟩, ⟨0, 1, 36, 1⟩, ⟨0, 8, 37, 1⟩, ⟨1536, 103079215104, 38, 1⟩, ⟨2048, 137438953472, 39, 1⟩, ⟨0, 16, 40, 1⟩, ⟨12288, 824633720832, 41, 1⟩, ⟨16384, 1099511627776, 42, 1⟩, ⟨32768, 2199023255552, 43, 1⟩, ⟨65536, 4398046511104, 44, 1⟩, ⟨131328, 8813272891392, 45, 1⟩, ⟨0, 1, 46, 1⟩, ⟨0, 8, 47, 1⟩, ⟨1572864, 105553116266496, 48, 1⟩, ⟨2097152, 140737488355328, 49, 1⟩, ⟨0, 16, 50, 1⟩, ⟨12582912, 844424930131968, 51, 1⟩, ⟨16777216, 1125899906842624, 52, 1⟩, ⟨33554432, 2251799813685248, 53, 1⟩, ⟨67108864, 4503599627370496, 54, 1⟩, ⟨134479872, 9024791440785408, 55, 1⟩, ⟨268435456, 18014398509481984, 56, 1⟩])]
def pl9 : List (Nat × List Stp) := [(6, [.q 0, .q 1, .q 2, .q 3, .q 4, .q 5, .q 6, .q 7, .q 8])]
def tb9 : List (Nat × List Ent) := [(6, [⟨0, 1, 18, 1⟩, ⟨0, 32, 19, 1⟩, ⟨3, 393216, 20, 1⟩, ⟨4, 524288, 21, 1⟩, ⟨0, 2, 22, 1⟩, ⟨0, 32, 23, 1⟩, ⟨48, 6291456, 24, 1⟩, ⟨64, 8388608, 25, 1⟩, ⟨136, 17825792, 26, 1⟩])]
def pl13 : List (Nat × List Stp) := [(2, [.q 0, .q 1, .q 3, .q 4, .s 2 [3, 4] [0, 1], .s 5 [] [3, 4, 2, 0, 1], .q 6, .s 7 [] [6, 5, 0, 1, 2, 3, 4]])]
def tb13 : List (Nat × List Ent) := [(2, [⟨0, 64, 12, 1⟩, ⟨0, 32, 13, 1⟩, ⟨3, 6144, 14, 0⟩, ⟨0, 32, 15, 1⟩, ⟨0, 64, 16, 1⟩, ⟨28, 49152, 17, 0⟩, ⟨36, 73728, 18, 1⟩, ⟨127, 131088, 0, 0⟩])]
def pl14 : List (Nat × List Stp) := [(10, [.q 0, .q 1, .q 2, .q 3, .q 4, .q 5, .q 6, .q 7, .q 8, .q 9, .q 10, .q 11, .s 12 [] [11, 1, 0, 2, 3, 4, 5, 6, 7, 8, 9, 10]]), (12, [.q 0, .q 1, .q 2, .q 3, .q 4, .q 5, .q 6, .s 7 [] [1, 6, 0, 5, 4, 2, 3], .q 8, .s 9 [] [8, 7, 0, 1, 2, 3, 4, 5, 6]]), (17, [.q 0, .q 1, .q 2, .q 3, .q 4, .q 5, .q 6, .s 7 [] [1, 6, 0, 5, 4, 2, 3], .q 8, .s 9 [] [8, 7, 0, 1, 2, 3, 4, 5, 6]])]
def tb14 : List (Nat × List Ent) := [(10, [⟨0, 512, 29, 1⟩, ⟨1, 268435456, 30, 1⟩, ⟨2, 536870944, 31, 1⟩, ⟨2, 536871936, 32, 1⟩, ⟨14, 3758096384, 33, 1⟩, ⟨18, 4831838208, 34, 1⟩, ⟨2, 536870976, 35, 1⟩, ⟨2, 536871168, 36, 1⟩, ⟨194, 52076478464, 37, 1⟩, ⟨258, 69256347648, 38, 1⟩, ⟨546, 146565758976, 39, 1⟩, ⟨1026, 275414777856, 40, 1⟩, ⟨4095, 549755813888, 10, 0⟩]), (12, [⟨0, 128, 43, 1⟩, ⟨1, 4398046511104, 44, 1⟩, ⟨0, 64, 45, 1⟩, ⟨0, 256, 46, 1⟩, ⟨12, 52776558133248, 47, 1⟩, ⟨16, 70368744177664, 48, 1⟩, ⟨32, 140737488355328, 49, 1⟩, ⟨66, 290271069732864, 50, 0⟩, ⟨255, 128, 51, 1⟩, ⟨511, 1688849860263936, 0, 0⟩]), (17, [⟨0, 128, 65, 1⟩, ⟨1, 18446744073709551616, 66, 1⟩, ⟨0, 32, 67, 1⟩, ⟨0, 2048, 68, 1⟩, ⟨12, 221360928884514619392, 69, 1⟩, ⟨16, 295147905179352825856, 70, 1⟩, ⟨32, 590295810358705651712, 71, 1⟩, ⟨66, 1217485108864830406656, 72, 0⟩, ⟨255, 128, 73, 1⟩, ⟨511, 7083549724304467820544, 0, 0⟩])]
def pl15 : List (Nat × List Stp) := [(2, [.q 0, .q 1, .q 2, .q 3, .q 4, .q 6, .q 7, .q 8, .q 9, .q 10, .s 5 [6, 7, 8, 9, 10] [1, 4, 0, 2, 3], .s 11 [] [8, 10, 5, 6, 7, 9, 1, 4, 0, 2, 3], .s 12 [0, 1, 2, 3, 4, 6, 7, 8, 9, 10] [], .s 13 [0, 1, 2, 3, 4, 6, 7, 8, 9, 10] [], .s 14 [] [12, 5, 11, 0, 1, 2, 3, 4, 13, 8, 10, 6, 7, 9], .s 15 [] [13, 11, 14, 0, 1, 2, 3, 4, 5, 6, 7, 8, 9, 10, 12]])]
def tb15 : List (Nat × List Ent) := [(2, [⟨0, 2, 10, 1⟩, ⟨1, 512, 11, 1⟩, ⟨0, 8, 12, 1⟩, ⟨0, 4, 13, 1⟩, ⟨12, 6144, 14, 1⟩, ⟨18, 9216, 15, 0⟩, ⟨0, 8, 16, 1⟩, ⟨0, 4, 17, 1⟩, ⟨192, 98304, 18, 1⟩, ⟨0, 2, 19, 1⟩, ⟨512, 262144, 20, 1⟩, ⟨1312, 655360, 21, 0⟩, ⟨0, 0, 5, 2⟩, ⟨0, 0, 6, 2⟩, ⟨14399, 16400, 0, 0⟩, ⟨32767, 1048608, 0, 0⟩])]
def pl17 : List (Nat × List Stp) := [(1, [.q 0, .q 1, .q 4, .q 5, .q 7, .q 8, .s 2 [4, 5, 7, 8] [1, 0], .s 3 [4, 5, 7, 8] [2, 1, 0], .s 6 [7, 8] [5, 3, 4, 2, 1, 0], .s 9 [] [8, 6, 7, 5, 3, 4, 2, 1, 0], .s 10 [] [3, 9, 0, 1, 2, 8, 6, 7, 5, 4], .s 11 [] [6, 10, 0, 1, 2, 3, 4, 5, 9, 8, 7], .s 12 [] [9, 11, 0, 1, 2, 3, 4, 5, 6, 7, 8, 10]])]
def tb17 : List (Nat × List Ent) := [(1, [⟨0, 4, 17, 1⟩, ⟨1, 65536, 18, 1⟩, ⟨2, 131072, 19, 0⟩, ⟨4, 262144, 20, 0⟩, ⟨0, 8, 21, 1⟩, ⟨16, 1048576, 22, 1⟩, ⟨40, 2097152, 23, 0⟩, ⟨0, 8, 24, 1⟩, ⟨128, 8388608, 25, 1⟩, ⟨320, 16777216, 26, 0⟩, ⟨527, 524288, 6, 0⟩, ⟨1151, 4194304, 7, 0⟩, ⟨4095, 33554432, 8, 0⟩])]
def pl21 : List (Nat × List Stp) := [(9, [.q 0, .q 1, .q 2, .q 3, .q 4, .q 5, .q 6, .q 7, .s 8 [] [3, 7, 2, 6, 1, 4, 5, 0], .q 9])]
def tb21 : List (Nat × List Ent) := [(9, [⟨0, 64, 22, 1⟩, ⟨1, 2097152, 23, 1⟩, ⟨2, 4194304, 24, 1⟩, ⟨4, 8388616, 25, 1⟩, ⟨4, 8388609, 26, 1⟩, ⟨4, 8388736, 27, 1⟩, ⟨52, 109051904, 28, 1⟩, ⟨68, 142606336, 29, 1⟩, ⟨140, 293601280, 30, 0⟩, ⟨260, 545259520, 31, 1⟩])]
def pl24 : List (Nat × List Stp) := [(4, [.q 0, .q 1, .q 2, .q 3, .q 4, .s 5 [] [3, 4, 2, 0, 1]])]
def tb24 : List (Nat × List Ent) := [(4, [⟨0, 1, 13, 1⟩, ⟨0, 32, 14, 1⟩, ⟨3, 12288, 15, 1⟩, ⟨4, 16384, 16, 1⟩, ⟨0, 8, 17, 1⟩, ⟨24, 98304, 18, 0⟩])]
def pl26 : List (Nat × List Stp) := [(5, [.q 0, .q 1, .q 3, .q 4, .s 2 [0, 3, 4] [1], .s 5 [] [0, 2, 4, 1, 3]])]
def tb26 : List (Nat × List Ent) := [(5, [⟨0, 1, 19, 1⟩, ⟨0, 32, 20, 1⟩, ⟨2, 524288, 21, 0⟩, ⟨0, 32, 22, 1⟩, ⟨8, 2097152, 23, 1⟩, ⟨31, 5505024, 0, 0⟩])]
def pl30 : List (Nat × List Stp) := [(1, [.q 0, .q 1, .q 2, .q 3, .q 5, .q 6, .q 7, .q 8, .s 4 [5, 6, 7, 8] [1, 3, 0, 2], .s 9 [] [6, 8, 4, 5, 7, 1, 3, 0, 2], .q 10, .s 11 [] [10, 9, 4, 6, 8, 1, 3, 5, 7, 0, 2], .s 12 [] [11, 0, 1, 2, 3, 4, 5, 6, 7, 8, 9, 10]])]
def tb30 : List (Nat × List Ent) := [(1, [⟨0, 4, 6, 1⟩, ⟨1, 32, 7, 1⟩, ⟨0, 8, 8, 1⟩, ⟨4, 128, 9, 1⟩, ⟨10, 320, 10, 0⟩, ⟨0, 4, 11, 1⟩, ⟨32, 1024, 12, 1⟩, ⟨0, 8, 13, 1⟩, ⟨128, 4096, 14, 1⟩, ⟨336, 10240, 15, 0⟩, ⟨528, 16896, 16, 1⟩, ⟨1536, 32768, 17, 0⟩, ⟨4095, 65536, 5, 0⟩])]
def pl33 : List (Nat × List Stp) := [(5, [.q 0, .q 1, .q 2, .q 3, .q 4, .s 5 [] [3, 4, 2, 0, 1], .q 6])]
def tb33 : List (Nat × List Ent) := [(5, [⟨0, 1, 14, 1⟩, ⟨0, 64, 15, 1⟩, ⟨3, 24576, 16, 1⟩, ⟨4, 32768, 17, 1⟩, ⟨0, 8, 18, 1⟩, ⟨24, 196608, 19, 0⟩, ⟨32, 262144, 20, 1⟩])]
end Go.Proofs.Ytbdfhenelbakaaa
