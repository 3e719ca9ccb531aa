import Derived.Test.YtaiajeomlfmegaaRows
import Derived.Test.YtaiajeomlfmegaaMxR
namespace Go.Proofs.Ytaiajeomlfmegaa
open Go.Mx
theorem sz3 : szT Try.prog 3 = some 1 := by kernel_rfl
theorem ag3 : aggT Try.prog 3 = some false := by kernel_rfl
theorem tk3 : tkOf Try.prog 3 = .num := by kernel_rfl
theorem by3 : (Try.prog.info? 3).map (·.bytes) = some 8 := by kernel_rfl
theorem ze3 : zerosT Try.prog 3 = some [.v (.int .i64 0)] := by kernel_rfl
theorem sz4 : szT Try.prog 4 = some 1 := by kernel_rfl
theorem ag4 : aggT Try.prog 4 = some false := by kernel_rfl
theorem tk4 : tkOf Try.prog 4 = .bool := by kernel_rfl
theorem by4 : (Try.prog.info? 4).map (·.bytes) = some 1 := by kernel_rfl
theorem ze4 : zerosT Try.prog 4 = some [.v (.bool false)] := by kernel_rfl
theorem sz5 : szT Try.prog 5 = some 1 := by kernel_rfl
theorem ag5 : aggT Try.prog 5 = some false := by kernel_rfl
theorem tk5 : tkOf Try.prog 5 = .num := by kernel_rfl
theorem by5 : (Try.prog.info? 5).map (·.bytes) = some 1 := by kernel_rfl
theorem ze5 : zerosT Try.prog 5 = some [.v (.int .u8 0)] := by kernel_rfl
theorem sz9 : szT Try.prog 9 = some 1 := by kernel_rfl
theorem ag9 : aggT Try.prog 9 = some false := by kernel_rfl
theorem tk9 : tkOf Try.prog 9 = .str := by kernel_rfl
theorem st9 : isStrTy Try.prog 9 = some true := by kernel_rfl
theorem by9 : (Try.prog.info? 9).map (·.bytes) = some 16 := by kernel_rfl
theorem ze9 : zerosT Try.prog 9 = some [.v (.string ⟨#[]⟩)] := by kernel_rfl
theorem sz21 : szT Try.prog 21 = some 1 := by kernel_rfl
theorem ag21 : aggT Try.prog 21 = some false := by kernel_rfl
theorem tk21 : tkOf Try.prog 21 = .num := by kernel_rfl
theorem by21 : (Try.prog.info? 21).map (·.bytes) = some 4 := by kernel_rfl
theorem ze21 : zerosT Try.prog 21 = some [.v (.int .i32 0)] := by kernel_rfl
theorem sz22 : szT Try.prog 22 = some 1 := by kernel_rfl
theorem ag22 : aggT Try.prog 22 = some false := by kernel_rfl
theorem tk22 : tkOf Try.prog 22 = .slice := by kernel_rfl
theorem st22 : isStrTy Try.prog 22 = some false := by kernel_rfl
theorem by22 : (Try.prog.info? 22).map (·.bytes) = some 24 := by kernel_rfl
theorem ze22 : zerosT Try.prog 22 = some [.v (.slice none 0 0)] := by kernel_rfl
theorem sz24 : szT Try.prog 24 = some 1 := by kernel_rfl
theorem ag24 : aggT Try.prog 24 = some false := by kernel_rfl
theorem tk24 : tkOf Try.prog 24 = .ptr := by kernel_rfl
theorem by24 : (Try.prog.info? 24).map (·.bytes) = some 8 := by kernel_rfl
theorem ze24 : zerosT Try.prog 24 = some [.v (.pointer none)] := by kernel_rfl
theorem sz25 : szT Try.prog 25 = some 1 := by kernel_rfl
theorem ag25 : aggT Try.prog 25 = some false := by kernel_rfl
theorem tk25 : tkOf Try.prog 25 = .num := by kernel_rfl
theorem by25 : (Try.prog.info? 25).map (·.bytes) = some 8 := by kernel_rfl
theorem ze25 : zerosT Try.prog 25 = some [.v (.int .i64 0)] := by kernel_rfl
theorem sz30 : szT Try.prog 30 = some 5 := by kernel_rfl
theorem ag30 : aggT Try.prog 30 = some true := by kernel_rfl
theorem tk30 : tkOf Try.prog 30 = .other := by kernel_rfl
theorem by30 : (Try.prog.info? 30).map (·.bytes) = some 48 := by kernel_rfl
theorem ze30 : zerosT Try.prog 30 = some [.v (.int .i64 0), .v (.int .i64 0), .v (.int .i64 0), .v (.int .i64 0), .v (.string ⟨#[]⟩)] := by kernel_rfl
theorem of30 : offsT Try.prog 30 = some [(0, 1), (1, 1), (2, 1), (3, 1), (4, 1)] := by kernel_rfl
theorem sz31 : szT Try.prog 31 = some 1 := by kernel_rfl
theorem ag31 : aggT Try.prog 31 = some false := by kernel_rfl
theorem tk31 : tkOf Try.prog 31 = .slice := by kernel_rfl
theorem st31 : isStrTy Try.prog 31 = some false := by kernel_rfl
theorem by31 : (Try.prog.info? 31).map (·.bytes) = some 24 := by kernel_rfl
theorem ze31 : zerosT Try.prog 31 = some [.v (.slice none 0 0)] := by kernel_rfl
theorem sz33 : szT Try.prog 33 = some 3 := by kernel_rfl
theorem ag33 : aggT Try.prog 33 = some true := by kernel_rfl
theorem tk33 : tkOf Try.prog 33 = .other := by kernel_rfl
theorem by33 : (Try.prog.info? 33).map (·.bytes) = some 40 := by kernel_rfl
theorem ze33 : zerosT Try.prog 33 = some [.v (.int .i64 0), .v (.int .i64 0), .v (.slice none 0 0)] := by kernel_rfl
theorem of33 : offsT Try.prog 33 = some [(0, 1), (1, 1), (2, 1)] := by kernel_rfl
theorem sz38 : szT Try.prog 38 = some 1 := by kernel_rfl
theorem ag38 : aggT Try.prog 38 = some false := by kernel_rfl
theorem tk38 : tkOf Try.prog 38 = .map := by kernel_rfl
theorem by38 : (Try.prog.info? 38).map (·.bytes) = some 8 := by kernel_rfl
theorem ze38 : zerosT Try.prog 38 = some [.v (.map none)] := by kernel_rfl
theorem sz43 : szT Try.prog 43 = some 1 := by kernel_rfl
theorem ag43 : aggT Try.prog 43 = some false := by kernel_rfl
theorem tk43 : tkOf Try.prog 43 = .ptr := by kernel_rfl
theorem by43 : (Try.prog.info? 43).map (·.bytes) = some 8 := by kernel_rfl
theorem ze43 : zerosT Try.prog 43 = some [.v (.pointer none)] := by kernel_rfl
theorem sz46 : szT Try.prog 46 = some 1 := by kernel_rfl
theorem ag46 : aggT Try.prog 46 = some false := by kernel_rfl
theorem tk46 : tkOf Try.prog 46 = .slice := by kernel_rfl
theorem st46 : isStrTy Try.prog 46 = some false := by kernel_rfl
theorem by46 : (Try.prog.info? 46).map (·.bytes) = some 24 := by kernel_rfl
theorem ze46 : zerosT Try.prog 46 = some [.v (.slice none 0 0)] := by kernel_rfl
theorem sz48 : szT Try.prog 48 = some 2 := by kernel_rfl
theorem ag48 : aggT Try.prog 48 = some true := by kernel_rfl
theorem tk48 : tkOf Try.prog 48 = .other := by kernel_rfl
theorem by48 : (Try.prog.info? 48).map (·.bytes) = some 32 := by kernel_rfl
theorem ze48 : zerosT Try.prog 48 = some [.v (.int .i64 0), .v (.slice none 0 0)] := by kernel_rfl
theorem of48 : offsT Try.prog 48 = some [(0, 1), (1, 1)] := by kernel_rfl
theorem sz51 : szT Try.prog 51 = some 2 := by kernel_rfl
theorem ag51 : aggT Try.prog 51 = some true := by kernel_rfl
theorem tk51 : tkOf Try.prog 51 = .other := by kernel_rfl
theorem by51 : (Try.prog.info? 51).map (·.bytes) = some 32 := by kernel_rfl
theorem ze51 : zerosT Try.prog 51 = some [.v (.slice none 0 0), .v (.int .i64 0)] := by kernel_rfl
theorem of51 : offsT Try.prog 51 = some [(0, 1), (1, 1)] := by kernel_rfl
theorem sz52 : szT Try.prog 52 = some 1 := by kernel_rfl
theorem ag52 : aggT Try.prog 52 = some false := by kernel_rfl
theorem tk52 : tkOf Try.prog 52 = .slice := by kernel_rfl
theorem st52 : isStrTy Try.prog 52 = some false := by kernel_rfl
theorem by52 : (Try.prog.info? 52).map (·.bytes) = some 24 := by kernel_rfl
theorem ze52 : zerosT Try.prog 52 = some [.v (.slice none 0 0)] := by kernel_rfl
theorem mo : Try.prog.follows .mixedOrders = true := by kernel_rfl
theorem ok3 : bodyOk Try.prog 3 = true := by kernel_rfl
theorem ok4 : bodyOk Try.prog 4 = true := by kernel_rfl
theorem ok5 : bodyOk Try.prog 5 = true := by kernel_rfl
theorem ok6 : bodyOk Try.prog 6 = true := by kernel_rfl
theorem ok7 : bodyOk Try.prog 7 = true := by kernel_rfl
theorem ok8 : bodyOk Try.prog 8 = true := by kernel_rfl
theorem ok9 : bodyOk Try.prog 9 = true := by kernel_rfl
theorem ok10 : bodyOk Try.prog 10 = true := by kernel_rfl
theorem ok11 : bodyOk Try.prog 11 = true := by kernel_rfl
theorem ok12 : bodyOk Try.prog 12 = true := by kernel_rfl
theorem ok13 : bodyOk Try.prog 13 = true := by kernel_rfl
theorem ok14 : bodyOk Try.prog 14 = true := by kernel_rfl
theorem ok15 : bodyOk Try.prog 15 = true := by kernel_rfl
theorem ok16 : bodyOk Try.prog 16 = true := by kernel_rfl
theorem ok17 : bodyOk Try.prog 17 = true := by kernel_rfl
theorem ok18 : bodyOk Try.prog 18 = true := by kernel_rfl
theorem ok19 : bodyOk Try.prog 19 = true := by kernel_rfl
theorem ok20 : bodyOk Try.prog 20 = true := by kernel_rfl
theorem ok21 : bodyOk Try.prog 21 = true := by kernel_rfl
theorem ok22 : bodyOk Try.prog 22 = true := by kernel_rfl
theorem ok23 : bodyOk Try.prog 23 = true := by kernel_rfl
theorem ok24 : bodyOk Try.prog 24 = true := by kernel_rfl
theorem ok25 : bodyOk Try.prog 25 = true := by kernel_rfl
theorem ok26 : bodyOk Try.prog 26 = true := by kernel_rfl
theorem ok27 : bodyOk Try.prog 27 = true := by kernel_rfl
theorem ok28 : bodyOk Try.prog 28 = true := by kernel_rfl
theorem ok29 : bodyOk Try.prog 29 = true := by kernel_rfl
theorem ok30 : bodyOk Try.prog 30 = true := by kernel_rfl
def pl3 : List (Nat × List Stp) := [(9, [.q 0, .q 1, .q 2, .q 3, .q 4, .q 5, .q 6, .q 7, .q 8, .q 9, .q 10, .q 11, .q 12, .q 13, .q 14, .q 15, .s 16 [0, 1, 2, 3, 4, 5, 6, 7, 8, 9, 10] [15, 14, 13, 11, 12], .q 17, .s 18 [] [0, 17, 5, 10, 16, 4, 9, 15, 3, 8, 14, 1, 2, 6, 7, 13, 11, 12], .q 19]), (15, [.q 0, .q 1, .q 2, .q 3, .q 4, .q 5, .q 6, .q 7, .q 8, .q 9, .q 10, .q 11, .q 12, .q 13, .q 14, .q 15, .q 16, .q 17, .q 18, .q 19, .q 20, .q 21, .q 22, .q 23, .q 24, .q 25, .q 26, .q 27, .q 28, .q 29, .q 30, .q 31, .q 32])]
def tb3 : List (Nat × List Ent) := [(9, [⟨0, 8, 27, true⟩, ⟨0, 1, 28, true⟩, ⟨0, 32, 29, true⟩, ⟨6, 402653184, 30, true⟩, ⟨8, 536870912, 31, true⟩, ⟨16, 1073741824, 32, true⟩, ⟨0, 1, 33, true⟩, ⟨0, 32, 34, true⟩, ⟨192, 12884901888, 35, true⟩, ⟨256, 17179869184, 36, true⟩, ⟨512, 34359738368, 37, true⟩, ⟨0, 1, 38, true⟩, ⟨0, 32, 39, true⟩, ⟨6144, 412316860416, 40, true⟩, ⟨8192, 549755813888, 41, true⟩, ⟨16384, 1099511627776, 42, true⟩, ⟨32768, 2199023255552, 43, false⟩, ⟨66592, 4468913471488, 44, true⟩, ⟨131073, 8796160131072, 45, false⟩, ⟨262144, 17592186044416, 46, true⟩]), (15, [⟨0, 256, 58, true⟩, ⟨1, 144115188075855872, 59, true⟩, ⟨2, 288230376151711744, 60, true⟩, ⟨4, 576460752303423616, 61, true⟩, ⟨12, 1729382256910270464, 62, true⟩, ⟨4, 576460752303423489, 63, true⟩, ⟨4, 576460752303423552, 64, true⟩, ⟨100, 14411518807585587200, 65, true⟩, ⟨132, 19023204826012975104, 66, true⟩, ⟨260, 37469948899722526720, 67, true⟩, ⟨532, 76669280056355323904, 68, true⟩, ⟨1028, 148150413341979836416, 69, true⟩, ⟨2052, 295147905179352825856, 70, true⟩, ⟨4096, 590295810358705651840, 71, true⟩, ⟨12288, 1770887431076116955136, 72, true⟩, ⟨4096, 590295810358705651713, 73, true⟩, ⟨4096, 590295810358705651776, 74, true⟩, ⟨102400, 14757395258967641292800, 75, true⟩, ⟨135168, 19479761741837286506496, 76, true⟩, ⟨266240, 38369227673315867361280, 77, true⟩, ⟨544768, 78509342777707851677696, 78, true⟩, ⟨1052672, 151706023262187352489984, 79, true⟩, ⟨2101248, 302231454903657293676544, 80, true⟩, ⟨4194304, 604462909807314587353216, 81, true⟩, ⟨12582912, 1813388729421943762059264, 82, true⟩, ⟨20971520, 3022314549036572936765440, 83, true⟩, ⟨4194304, 604462909807314587353089, 84, true⟩, ⟨4194304, 604462909807314587353152, 85, true⟩, ⟨205520896, 29618682580558414780301312, 86, true⟩, ⟨272629760, 39290089137475448177950720, 87, true⟩, ⟨541065216, 77975715365143581768548352, 88, true⟩, ⟨1111490560, 160182671098938365648568320, 89, true⟩, ⟨2151677952, 310089472731152383312134144, 90, true⟩])]
def pl5 : List (Nat × List Stp) := [(18, [.q 0, .q 1, .q 3, .q 4, .s 2 [3, 4] [0, 1], .s 5 [] [3, 4, 2, 0, 1], .q 6, .s 7 [] [6, 5, 0, 1, 2, 3, 4]]), (27, [.q 0, .q 1, .q 2, .q 4, .q 5, .q 6, .s 3 [4, 5, 6] [0, 2, 1], .s 7 [] [4, 6, 3, 5, 0, 2, 1], .q 8, .s 9 [] [8, 7, 0, 1, 2, 3, 4, 5, 6]]), (30, [.q 0, .q 1, .q 2, .q 3, .q 5, .q 6, .q 7, .q 8, .q 9, .s 4 [5, 6, 7, 8, 9] [3, 2, 1, 0], .q 10, .q 11, .q 12, .q 13, .q 14, .q 15, .q 16, .q 17, .q 18, .q 19, .s 20 [] [18, 19, 17, 16, 12, 15, 11, 4, 13, 14, 2, 10, 3, 1, 9, 0, 8, 7, 6, 5], .q 21, .q 22, .q 23, .q 24, .q 25, .q 26, .q 27, .q 28, .q 30, .q 31, .q 32, .q 33, .q 34, .s 29 [30, 31, 32, 33, 34] [24, 26, 28, 23, 25, 27, 22, 20, 17, 21, 18, 19, 16, 12, 15, 11, 4, 13, 14, 2, 10, 3, 1, 9, 0, 8, 7, 6, 5], .s 35 [] [30, 32, 34, 29, 23, 31, 33, 24, 26, 28, 22, 20, 25, 27, 17, 21, 18, 19, 16, 12, 15, 11, 4, 13, 14, 2, 10, 3, 1, 9, 0, 8, 7, 6, 5], .q 36, .q 37])]
def tb5 : List (Nat × List Ent) := [(18, [⟨0, 32, 72, true⟩, ⟨0, 4096, 73, true⟩, ⟨3, 7083549724304467820544, 74, false⟩, ⟨0, 128, 75, true⟩, ⟨0, 4096, 76, true⟩, ⟨28, 56668397794435742564352, 77, false⟩, ⟨36, 85002596691653613846528, 78, true⟩, ⟨127, 151115727451828646838272, 12, false⟩]), (27, [⟨0, 32, 120, true⟩, ⟨0, 1024, 121, true⟩, ⟨2, 1329227995784915872903807060280344576, 122, true⟩, ⟨5, 3323069989462289682259517650700861440, 123, false⟩, ⟨0, 128, 124, true⟩, ⟨0, 1024, 125, true⟩, ⟨32, 21267647932558653966460912964485513216, 126, true⟩, ⟨88, 53169119831396634916152282411213783040, 127, false⟩, ⟨136, 90387503713374279357458880099063431168, 128, true⟩, ⟨511, 170141183460469231731687303715884105728, 12, false⟩]), (30, [⟨0, 2048, 143, true⟩, ⟨1, 5575186299632655785383929568162090376495104, 144, true⟩, ⟨2, 11150372599265311570767859136324180752990208, 145, true⟩, ⟨4, 22300745198530623141535718272648361505980448, 146, true⟩, ⟨12, 66902235595591869424607154817945084517941248, 147, false⟩, ⟨4, 22300745198530623141535718272648361505980544, 148, true⟩, ⟨36, 200706706786775608273821464453835253553823744, 149, true⟩, ⟨68, 379112668375020593406107210635022145601667072, 150, true⟩, ⟨132, 735924591551510563670678702997395929697353728, 151, true⟩, ⟨260, 1449548437904490504199821687722143497888727040, 152, true⟩, ⟨532, 2965999111404572877824250530262232080295395328, 153, true⟩, ⟨1028, 5731291516022370147374679596070628907036966912, 154, true⟩, ⟨2064, 11417981541647679048466287755595961091061972992, 155, true⟩, ⟨4096, 22835963083295358096932575511191922182124994560, 156, true⟩, ⟨4096, 22835963083295358096932575511191922182128140288, 157, true⟩, ⟨28672, 159851741583067506678528028578343455274867621888, 158, true⟩, ⟨36864, 205523667749658222872393179600727299639115513856, 159, true⟩, ⟨69632, 365375409332725729550921208179070754913983135744, 160, true⟩, ⟨131072, 730750818665451459101842416358141509827966795776, 161, true⟩, ⟨131072, 730750818665451459101842416358141509827968368640, 162, true⟩, ⟨917504, 5115255730658160213712896914506990568795763900416, 163, false⟩, ⟨1179648, 6576757367989063131916581747223273588451696443392, 164, true⟩, ⟨2228224, 12422763917312674804731321078088405667075426615296, 165, true⟩, ⟨5242880, 23384026197294446691258957323460528314494920687616, 166, true⟩, ⟨8388608, 46768052394588893382517914646921056628989841375264, 167, true⟩, ⟨8388608, 46768052394588893382517914646921056628989841376256, 168, true⟩, ⟨41943040, 233840261972944466912589573234605283144949206876160, 169, true⟩, ⟨8388608, 46768052394588893382517914646921056628989841376256, 170, true⟩, ⟨142606336, 795056890708011187502804548997657962692827303378944, 171, true⟩, ⟨360710144, 2011026252967322415448270329817605435046563179134976, 172, false⟩, ⟨8388608, 46768052394588893382517914646921056628989841375360, 173, true⟩, ⟨8388608, 46768052394588893382517914646921056628989841376256, 174, true⟩, ⟨2155872256, 12019389465409345599307104064258711553650389233434624, 175, true⟩, ⟨8388608, 46768052394588893382517914646921056628989841376256, 176, true⟩, ⟨8598323200, 47937253704453615717080862513094083044714587409612800, 177, true⟩, ⟨23093837824, 125759292889049534305590672485570721275353683457998848, 178, false⟩, ⟨34904997888, 194601866013884385364657042845838516633226729962340352, 179, true⟩, ⟨68727865344, 383170653268866803482969274702224216961313770387275776, 180, true⟩])]
def pl9 : List (Nat × List Stp) := [(5, [.q 0, .q 1, .q 2, .q 3, .q 4, .q 5, .q 6, .q 7, .q 8, .q 9, .s 10 [] [9, 4, 8, 3, 7, 2, 6, 1, 5, 0]]), (7, [.q 0, .q 1, .q 2, .q 3, .q 4, .q 5, .s 6 [0, 1, 2, 3, 4] [5], .s 7 [0, 1, 2, 3, 4] [6, 5], .s 8 [0] [4, 7, 6, 3, 5, 2, 1], .q 9, .q 10, .s 11 [] [10, 8, 0, 1, 2, 3, 4, 5, 6, 7, 9]])]
def tb9 : List (Nat × List Ent) := [(5, [⟨0, 1, 22, true⟩, ⟨1, 2097152, 23, true⟩, ⟨2, 4194304, 24, true⟩, ⟨4, 8388608, 25, true⟩, ⟨8, 16777216, 26, true⟩, ⟨0, 1, 27, true⟩, ⟨32, 67108864, 28, true⟩, ⟨64, 134217728, 29, true⟩, ⟨128, 268435456, 30, true⟩, ⟨272, 570425344, 31, true⟩, ⟨512, 1073741824, 21, false⟩]), (7, [⟨0, 1, 32, true⟩, ⟨0, 1, 33, true⟩, ⟨2, 4294967296, 34, true⟩, ⟨4, 8589934592, 35, true⟩, ⟨8, 17179869184, 36, true⟩, ⟨0, 8, 37, true⟩, ⟨32, 68719476736, 38, false⟩, ⟨64, 137438953472, 39, false⟩, ⟨208, 309237645312, 40, false⟩, ⟨511, 2147483648, 41, true⟩, ⟨1023, 1099511627776, 42, true⟩, ⟨1535, 2748779069440, 0, false⟩])]
def pl10 : List (Nat × List Stp) := [(4, [.q 0, .q 1, .q 2, .q 3, .q 4, .q 5, .q 6, .q 7, .q 8, .q 9, .q 10, .q 11, .q 12, .s 13 [] [5, 12, 3, 4, 9, 11, 2, 8, 10, 1, 7, 0, 6]]), (5, [.q 0, .q 1, .q 2, .q 3, .q 4, .q 7, .s 5 [0, 1, 2, 3, 7] [4], .q 6, .q 8, .s 9 [] [8, 7, 5, 0, 1, 2, 3, 4, 6]]), (6, [.q 0, .q 1, .q 2, .q 3, .q 4, .q 5, .s 6 [0, 1, 2, 3, 4] [5], .q 7, .q 8, .q 9, .q 10, .s 11 [] [10, 8, 6, 0, 1, 2, 3, 4, 5, 7, 9]])]
def tb10 : List (Nat × List Ent) := [(4, [⟨0, 1, 20, true⟩, ⟨1, 524288, 21, true⟩, ⟨2, 1048576, 22, true⟩, ⟨4, 2097152, 23, true⟩, ⟨0, 256, 24, true⟩, ⟨24, 12582912, 25, true⟩, ⟨0, 1, 26, true⟩, ⟨64, 33554432, 27, true⟩, ⟨128, 67108864, 28, true⟩, ⟨256, 134217728, 29, true⟩, ⟨0, 256, 30, true⟩, ⟨1024, 536870912, 31, true⟩, ⟨2560, 1342177280, 32, true⟩, ⟨4128, 2164260864, 33, false⟩]), (5, [⟨0, 1, 34, true⟩, ⟨1, 8589934592, 35, true⟩, ⟨2, 17179869184, 36, true⟩, ⟨4, 34359738368, 37, true⟩, ⟨0, 1, 38, true⟩, ⟨16, 137438953472, 39, false⟩, ⟨32, 274877906944, 40, true⟩, ⟨0, 0, 41, true⟩, ⟨255, 618475290624, 42, true⟩, ⟨511, 3298534883328, 0, false⟩]), (6, [⟨0, 1, 43, true⟩, ⟨0, 1, 44, true⟩, ⟨2, 8796093022208, 45, true⟩, ⟨4, 17592186044416, 46, true⟩, ⟨8, 35184372088832, 47, true⟩, ⟨0, 1, 48, true⟩, ⟨32, 140737488355328, 49, false⟩, ⟨64, 281474976710656, 50, true⟩, ⟨144, 633318697598976, 51, true⟩, ⟨511, 4398046511104, 52, true⟩, ⟨1023, 2251799813685248, 53, true⟩, ⟨1535, 5629499534213120, 0, false⟩])]
def pl13 : List (Nat × List Stp) := [(3, [.q 0, .q 1, .q 2, .q 3, .q 4, .q 5, .s 6 [0, 1, 2, 3] [4, 5], .q 7, .q 8, .s 9 [] [8, 6, 7, 4, 5, 3, 2, 1, 0], .s 10 [] [9, 0, 1, 2, 3, 4, 5, 6, 7, 8], .s 11 [] [10, 0, 1, 2, 3, 4, 5, 6, 7, 8, 9]])]
def tb13 : List (Nat × List Ent) := [(3, [⟨0, 1, 11, true⟩, ⟨1, 1024, 12, true⟩, ⟨2, 2048, 13, true⟩, ⟨4, 4096, 14, true⟩, ⟨0, 1, 15, true⟩, ⟨0, 2, 16, true⟩, ⟨48, 49152, 17, false⟩, ⟨72, 73728, 18, true⟩, ⟨128, 131072, 19, true⟩, ⟨320, 262144, 20, false⟩, ⟨1023, 524304, 0, false⟩, ⟨2047, 0, 6, false⟩])]
def pl19 : List (Nat × List Stp) := [(3, [.q 0, .q 1, .q 2, .q 3, .q 4, .q 5, .q 6, .q 7, .q 8, .q 9]), (5, [.q 0, .q 1, .q 2, .q 3, .q 4, .q 5, .s 6 [0, 1, 2, 3, 4] [5], .s 7 [0, 1, 2, 3, 4] [6, 5], .s 8 [0] [4, 7, 6, 3, 5, 2, 1], .q 9, .q 10, .s 11 [] [10, 8, 0, 1, 2, 3, 4, 5, 6, 7, 9]])]
def tb19 : List (Nat × List Ent) := [(3, [⟨0, 1, 10, true⟩, ⟨1, 512, 11, true⟩, ⟨2, 1024, 12, true⟩, ⟨4, 2048, 13, true⟩, ⟨8, 4096, 14, true⟩, ⟨0, 1, 15, true⟩, ⟨32, 16384, 16, true⟩, ⟨64, 32768, 17, true⟩, ⟨128, 65536, 18, true⟩, ⟨272, 139264, 19, true⟩]), (5, [⟨0, 1, 20, true⟩, ⟨0, 1, 21, true⟩, ⟨2, 1048576, 22, true⟩, ⟨4, 2097152, 23, true⟩, ⟨8, 4194304, 24, true⟩, ⟨0, 8, 25, true⟩, ⟨32, 16777216, 26, false⟩, ⟨64, 33554432, 27, false⟩, ⟨208, 75497472, 28, false⟩, ⟨511, 524288, 29, true⟩, ⟨1023, 268435456, 30, true⟩, ⟨1535, 671088640, 0, false⟩])]
def pl20 : List (Nat × List Stp) := [(4, [.q 0, .q 2, .q 3, .q 4, .q 5, .q 6, .q 7, .q 9, .q 10, .q 11, .q 12, .q 13, .q 14, .q 15, .s 1 [0, 2, 3, 4, 5, 6, 7, 9, 10, 11, 12, 13, 14, 15] [], .s 8 [0, 9, 10, 11, 12, 13, 14, 15] [1, 7, 5, 6, 4, 3, 2], .s 16 [0] [8, 15, 1, 7, 12, 14, 5, 6, 11, 13, 4, 10, 3, 9, 2], .q 17, .q 18, .s 19 [] [18, 16, 0, 1, 2, 3, 4, 5, 6, 7, 8, 9, 10, 11, 12, 13, 14, 15, 17]])]
def tb20 : List (Nat × List Ent) := [(4, [⟨0, 1, 20, true⟩, ⟨0, 0, 21, false⟩, ⟨0, 1, 22, true⟩, ⟨4, 2097152, 23, true⟩, ⟨8, 4194304, 24, true⟩, ⟨16, 8388608, 25, true⟩, ⟨0, 256, 26, true⟩, ⟨96, 50331648, 27, true⟩, ⟨130, 68157440, 28, false⟩, ⟨0, 1, 29, true⟩, ⟨512, 268435456, 30, true⟩, ⟨1024, 536870912, 31, true⟩, ⟨2048, 1073741824, 32, true⟩, ⟨0, 256, 33, true⟩, ⟨8192, 4294967296, 34, true⟩, ⟨20480, 10737418240, 35, true⟩, ⟨33024, 17314086912, 36, false⟩, ⟨131071, 524288, 37, true⟩, ⟨262143, 68719476736, 38, true⟩, ⟨393215, 171798691840, 0, false⟩])]
def pl27 : List (Nat × List Stp) := [(1, [.q 0, .q 1, .q 2, .q 3, .q 5, .q 6, .s 4 [0, 1, 2, 3, 5, 6] [], .s 7 [0, 1, 2, 3] [4, 6, 5], .q 8, .s 9 [] [8, 7, 0, 1, 2, 3, 4, 5, 6]])]
def tb27 : List (Nat × List Ent) := [(1, [⟨0, 2, 4, true⟩, ⟨1, 8, 5, true⟩, ⟨0, 2, 6, true⟩, ⟨4, 32, 7, true⟩, ⟨0, 0, 8, false⟩, ⟨0, 2, 9, true⟩, ⟨32, 256, 10, true⟩, ⟨80, 640, 11, false⟩, ⟨138, 1104, 12, true⟩, ⟨511, 2052, 0, false⟩])]
end Go.Proofs.Ytaiajeomlfmegaa
