import Derived.Test.YtkjfodfljchhcaaRows
import Derived.Test.YtkjfodfljchhcaaMxR
namespace Go.Proofs.Ytkjfodfljchhcaa
open Go.Mx
theorem sz3 : szT Try.prog 3 = some 1 := by kernel_rfl
theorem ag3 : aggT Try.prog 3 = some false := by kernel_rfl
theorem tk3 : tkOf Try.prog 3 = .num := by kernel_rfl
theorem by3 : (Try.prog.info? 3).map (·.bytes) = some 8 := by kernel_rfl
theorem ze3 : zerosT Try.prog 3 = some [.v (.int .i64 0)] := by kernel_rfl
theorem sz4 : szT Try.prog 4 = some 1 := by kernel_rfl
theorem ag4 : aggT Try.prog 4 = some false := by kernel_rfl
theorem tk4 : tkOf Try.prog 4 = .bool := by kernel_rfl
theorem by4 : (Try.prog.info? 4).map (·.bytes) = some 1 := by kernel_rfl
theorem ze4 : zerosT Try.prog 4 = some [.v (.bool false)] := by kernel_rfl
theorem sz5 : szT Try.prog 5 = some 1 := by kernel_rfl
theorem ag5 : aggT Try.prog 5 = some false := by kernel_rfl
theorem tk5 : tkOf Try.prog 5 = .num := by kernel_rfl
theorem by5 : (Try.prog.info? 5).map (·.bytes) = some 1 := by kernel_rfl
theorem ze5 : zerosT Try.prog 5 = some [.v (.int .u8 0)] := by kernel_rfl
theorem sz9 : szT Try.prog 9 = some 1 := by kernel_rfl
theorem ag9 : aggT Try.prog 9 = some false := by kernel_rfl
theorem tk9 : tkOf Try.prog 9 = .str := by kernel_rfl
theorem st9 : isStrTy Try.prog 9 = some true := by kernel_rfl
theorem by9 : (Try.prog.info? 9).map (·.bytes) = some 16 := by kernel_rfl
theorem ze9 : zerosT Try.prog 9 = some [.v (.string ⟨#[]⟩)] := by kernel_rfl
theorem sz22 : szT Try.prog 22 = some 1 := by kernel_rfl
theorem ag22 : aggT Try.prog 22 = some false := by kernel_rfl
theorem tk22 : tkOf Try.prog 22 = .slice := by kernel_rfl
theorem st22 : isStrTy Try.prog 22 = some false := by kernel_rfl
theorem by22 : (Try.prog.info? 22).map (·.bytes) = some 24 := by kernel_rfl
theorem ze22 : zerosT Try.prog 22 = some [.v (.slice none 0 0)] := by kernel_rfl
theorem sz24 : szT Try.prog 24 = some 4 := by kernel_rfl
theorem ag24 : aggT Try.prog 24 = some true := by kernel_rfl
theorem tk24 : tkOf Try.prog 24 = .other := by kernel_rfl
theorem by24 : (Try.prog.info? 24).map (·.bytes) = some 56 := by kernel_rfl
theorem ze24 : zerosT Try.prog 24 = some [.v (.string ⟨#[]⟩), .v (.string ⟨#[]⟩), .v (.string ⟨#[]⟩), .v (.int .i64 0)] := by kernel_rfl
theorem of24 : offsT Try.prog 24 = some [(0, 1), (1, 1), (2, 1), (3, 1)] := by kernel_rfl
theorem sz26 : szT Try.prog 26 = some 8 := by kernel_rfl
theorem ag26 : aggT Try.prog 26 = some true := by kernel_rfl
theorem tk26 : tkOf Try.prog 26 = .other := by kernel_rfl
theorem by26 : (Try.prog.info? 26).map (·.bytes) = some 112 := by kernel_rfl
theorem ze26 : zerosT Try.prog 26 = some [.v (.int .i64 0), .v (.string ⟨#[]⟩), .v (.string ⟨#[]⟩), .v (.string ⟨#[]⟩), .v (.string ⟨#[]⟩), .v (.string ⟨#[]⟩), .v (.string ⟨#[]⟩), .v (.int .i64 0)] := by kernel_rfl
theorem of26 : offsT Try.prog 26 = some [(0, 1), (1, 1), (2, 1), (3, 1), (4, 4)] := by kernel_rfl
theorem sz28 : szT Try.prog 28 = some 1 := by kernel_rfl
theorem ag28 : aggT Try.prog 28 = some false := by kernel_rfl
theorem tk28 : tkOf Try.prog 28 = .ptr := by kernel_rfl
theorem by28 : (Try.prog.info? 28).map (·.bytes) = some 8 := by kernel_rfl
theorem ze28 : zerosT Try.prog 28 = some [.v (.pointer none)] := by kernel_rfl
theorem sz30 : szT Try.prog 30 = some 1 := by kernel_rfl
theorem ag30 : aggT Try.prog 30 = some false := by kernel_rfl
theorem tk30 : tkOf Try.prog 30 = .num := by kernel_rfl
theorem by30 : (Try.prog.info? 30).map (·.bytes) = some 8 := by kernel_rfl
theorem ze30 : zerosT Try.prog 30 = some [.v (.int .i64 0)] := by kernel_rfl
theorem sz36 : szT Try.prog 36 = some 1 := by kernel_rfl
theorem ag36 : aggT Try.prog 36 = some false := by kernel_rfl
theorem tk36 : tkOf Try.prog 36 = .slice := by kernel_rfl
theorem st36 : isStrTy Try.prog 36 = some false := by kernel_rfl
theorem by36 : (Try.prog.info? 36).map (·.bytes) = some 24 := by kernel_rfl
theorem ze36 : zerosT Try.prog 36 = some [.v (.slice none 0 0)] := by kernel_rfl
theorem sz47 : szT Try.prog 47 = some 1 := by kernel_rfl
theorem ag47 : aggT Try.prog 47 = some false := by kernel_rfl
theorem tk47 : tkOf Try.prog 47 = .map := by kernel_rfl
theorem by47 : (Try.prog.info? 47).map (·.bytes) = some 8 := by kernel_rfl
theorem ze47 : zerosT Try.prog 47 = some [.v (.map none)] := by kernel_rfl
theorem sz48 : szT Try.prog 48 = some 1 := by kernel_rfl
theorem ag48 : aggT Try.prog 48 = some false := by kernel_rfl
theorem tk48 : tkOf Try.prog 48 = .map := by kernel_rfl
theorem by48 : (Try.prog.info? 48).map (·.bytes) = some 8 := by kernel_rfl
theorem ze48 : zerosT Try.prog 48 = some [.v (.map none)] := by kernel_rfl
theorem sz50 : szT Try.prog 50 = some 3 := by kernel_rfl
theorem ag50 : aggT Try.prog 50 = some true := by kernel_rfl
theorem tk50 : tkOf Try.prog 50 = .other := by kernel_rfl
theorem by50 : (Try.prog.info? 50).map (·.bytes) = some 32 := by kernel_rfl
theorem ze50 : zerosT Try.prog 50 = some [.v (.string ⟨#[]⟩), .v (.map none), .v (.map none)] := by kernel_rfl
theorem of50 : offsT Try.prog 50 = some [(0, 1), (1, 1), (2, 1)] := by kernel_rfl
theorem sz52 : szT Try.prog 52 = some 2 := by kernel_rfl
theorem ag52 : aggT Try.prog 52 = some true := by kernel_rfl
theorem tk52 : tkOf Try.prog 52 = .other := by kernel_rfl
theorem by52 : (Try.prog.info? 52).map (·.bytes) = some 32 := by kernel_rfl
theorem ze52 : zerosT Try.prog 52 = some [.v (.string ⟨#[]⟩), .v (.string ⟨#[]⟩)] := by kernel_rfl
theorem of52 : offsT Try.prog 52 = some [(0, 1), (1, 1)] := by kernel_rfl
theorem mo : Try.prog.follows .mixedOrders = true := by kernel_rfl
theorem ok3 : bodyOk Try.prog 3 = true := by kernel_rfl
theorem ok4 : bodyOk Try.prog 4 = true := by kernel_rfl
theorem ok5 : bodyOk Try.prog 5 = true := by kernel_rfl
theorem ok6 : bodyOk Try.prog 6 = true := by kernel_rfl
theorem ok7 : bodyOk Try.prog 7 = true := by kernel_rfl
theorem ok8 : bodyOk Try.prog 8 = true := by kernel_rfl
theorem ok9 : bodyOk Try.prog 9 = true := by kernel_rfl
theorem ok10 : bodyOk Try.prog 10 = true := by kernel_rfl
theorem ok11 : bodyOk Try.prog 11 = true := by kernel_rfl
theorem ok12 : bodyOk Try.prog 12 = true := by kernel_rfl
theorem ok13 : bodyOk Try.prog 13 = true := by kernel_rfl
theorem ok14 : bodyOk Try.prog 14 = true := by kernel_rfl
theorem ok15 : bodyOk Try.prog 15 = true := by kernel_rfl
theorem ok16 : bodyOk Try.prog 16 = true := by kernel_rfl
theorem ok17 : bodyOk Try.prog 17 = true := by kernel_rfl
theorem ok18 : bodyOk Try.prog 18 = true := by kernel_rfl
theorem ok19 : bodyOk Try.prog 19 = true := by kernel_rfl
theorem ok20 : bodyOk Try.prog 20 = true := by kernel_rfl
theorem ok21 : bodyOk Try.prog 21 = true := by kernel_rfl
theorem ok22 : bodyOk Try.prog 22 = true := by kernel_rfl
theorem ok23 : bodyOk Try.prog 23 = true := by kernel_rfl
theorem ok24 : bodyOk Try.prog 24 = true := by kernel_rfl
theorem ok27 : bodyOk Try.prog 27 = true := by kernel_rfl
theorem ok28 : bodyOk Try.prog 28 = true := by kernel_rfl
theorem ok29 : bodyOk Try.prog 29 = true := by kernel_rfl
theorem ok30 : bodyOk Try.prog 30 = true := by kernel_rfl
theorem ok31 : bodyOk Try.prog 31 = true := by kernel_rfl
theorem ok32 : bodyOk Try.prog 32 = true := by kernel_rfl
theorem ok44 : bodyOk Try.prog 44 = true := by kernel_rfl
theorem ok45 : bodyOk Try.prog 45 = true := by kernel_rfl
theorem ok46 : bodyOk Try.prog 46 = true := by kernel_rfl
theorem ok53 : bodyOk Try.prog 53 = true := by kernel_rfl
theorem ok55 : bodyOk Try.prog 55 = true := by kernel_rfl
def pl3 : List (Nat × List Stp) := [(15, [.q 0, .q 1, .q 2, .q 3, .q 4, .q 5, .q 6, .q 7, .q 8, .q 9, .q 10, .q 11, .q 12, .q 13, .q 14, .q 15, .s 16 [] [0, 5, 10, 15, 4, 9, 14, 3, 8, 13, 1, 2, 6, 7, 11, 12], .s 17 [] [16, 0, 1, 2, 3, 4, 5, 6, 7, 8, 9, 10, 11, 12, 13, 14, 15]]), (16, [.q 0, .q 1, .q 2, .q 3, .q 4, .q 5, .q 6, .q 7, .q 8, .q 9, .q 10, .q 11, .q 12, .q 13, .q 14]), (18, [.q 0, .q 1, .q 2, .q 3, .q 4, .q 5, .q 6, .q 7, .q 8, .q 9, .q 10, .q 11, .q 12, .q 13, .q 14, .q 15]), (21, [.q 0, .q 1, .q 2, .q 3, .q 4, .q 5, .q 6, .q 7, .q 8, .q 9, .q 10, .s 11 [] [0, 5, 10, 4, 9, 3, 8, 1, 2, 6, 7], .s 12 [] [11, 0, 1, 2, 3, 4, 5, 6, 7, 8, 9, 10]]), (22, [.q 0, .q 1, .q 2, .q 3, .q 4, .q 5, .q 6, .q 7, .q 8, .q 9, .q 10, .q 11]), (23, [.q 0, .q 1, .q 2, .q 3, .q 4, .q 5, .q 6, .q 7, .q 8, .q 9, .q 10, .q 11]), (26, [.q 0, .q 1, .q 2, .q 3, .q 4, .q 6, .q 7, .s 5 [6, 7] [2, 4, 1, 3, 0], .q 8, .q 9, .q 10, .q 11, .q 12, .q 13, .q 14, .q 15, .q 16, .s 17 [] [14, 16, 13, 15, 12, 10, 11, 9, 5, 1, 8, 2, 4, 0, 7, 3, 6], .q 18, .q 19, .q 20])]
def tb3 : List (Nat × List Ent) := [(15, [⟨0, 32, 55, true⟩, ⟨0, 1, 56, true⟩, ⟨0, 256, 57, true⟩, ⟨6, 108086391056891904, 58, true⟩, ⟨8, 144115188075855872, 59, true⟩, ⟨16, 288230376151711744, 60, true⟩, ⟨0, 1, 61, true⟩, ⟨0, 256, 62, true⟩, ⟨192, 3458764513820540928, 63, true⟩, ⟨256, 4611686018427387904, 64, true⟩, ⟨512, 9223372036854775808, 65, true⟩, ⟨0, 1, 66, true⟩, ⟨0, 256, 67, true⟩, ⟨6144, 110680464442257309696, 68, true⟩, ⟨8192, 147573952589676412928, 69, true⟩, ⟨16384, 295147905179352825856, 70, true⟩, ⟨33825, 609337029583228108800, 71, false⟩, ⟨131071, 1180591620717411303424, 10, false⟩]), (16, [⟨0, 128, 72, true⟩, ⟨1, 2361183241434822606848, 73, true⟩, ⟨2, 4722366482869645213697, 74, true⟩, ⟨2, 4722366482869645213952, 75, true⟩, ⟨14, 33056565380087516495872, 76, true⟩, ⟨18, 42501298345826806923264, 77, true⟩, ⟨34, 80280230208783968632832, 78, true⟩, ⟨2, 4722366482869645213704, 79, true⟩, ⟨130, 306953821386526938890240, 80, true⟩, ⟨322, 760301003742012879405056, 81, true⟩, ⟨514, 1213648186097498819919872, 82, true⟩, ⟨1026, 2417851639229258349412352, 83, true⟩, ⟨2048, 4835703278458516698825216, 84, true⟩, ⟨6144, 14507109835375550096474112, 85, true⟩, ⟨10240, 24178516392292583494123520, 86, true⟩]), (18, [⟨0, 128, 87, true⟩, ⟨1, 77371252455336267181195264, 88, true⟩, ⟨2, 154742504910672534362390528, 89, true⟩, ⟨4, 309485009821345068724781057, 90, true⟩, ⟨4, 309485009821345068724781312, 91, true⟩, ⟨28, 2166395068749415481073467392, 92, true⟩, ⟨36, 2785365088392105618523029504, 93, true⟩, ⟨68, 5261245166962866168321277952, 94, true⟩, ⟨4, 309485009821345068724781064, 95, true⟩, ⟨260, 20116525638387429467110768640, 96, true⟩, ⟨644, 49827086581236556064689750016, 97, true⟩, ⟨1028, 79537647524085682662268731392, 98, true⟩, ⟨2052, 158456325028528675187087900672, 99, true⟩, ⟨4096, 316912650057057350374175801856, 100, true⟩, ⟨12288, 950737950171172051122527404032, 101, true⟩, ⟨20480, 1584563250285286751870879006720, 102, true⟩]), (21, [⟨0, 32, 106, true⟩, ⟨0, 1, 107, true⟩, ⟨0, 256, 108, true⟩, ⟨6, 243388915243820045087367015432192, 109, true⟩, ⟨8, 324518553658426726783156020576256, 110, true⟩, ⟨16, 649037107316853453566312041152512, 111, true⟩, ⟨0, 1, 112, true⟩, ⟨0, 256, 113, true⟩, ⟨192, 7788445287802241442795744493830144, 114, true⟩, ⟨256, 10384593717069655257060992658440192, 115, true⟩, ⟨512, 20769187434139310514121985316880384, 116, true⟩, ⟨1057, 42877013902119631276224489218637824, 117, false⟩, ⟨4095, 83076749736557242056487941267521536, 11, false⟩]), (22, [⟨0, 1, 118, true⟩, ⟨0, 256, 119, true⟩, ⟨3, 498460498419343452338927647605129216, 120, true⟩, ⟨4, 664613997892457936451903530140172288, 121, true⟩, ⟨8, 1329227995784915872903807060280344576, 122, true⟩, ⟨0, 8, 123, true⟩, ⟨32, 5316911983139663491615228241121378304, 124, true⟩, ⟨80, 13292279957849158729038070602803445760, 125, true⟩, ⟨128, 21267647932558653966460912964485513216, 126, true⟩, ⟨256, 42535295865117307932921825928971027456, 127, true⟩, ⟨768, 127605887595351923798765477786913079296, 128, true⟩, ⟨1280, 212676479325586539664609129644855132160, 129, true⟩]), (23, [⟨0, 1, 130, true⟩, ⟨0, 256, 131, true⟩, ⟨3, 2041694201525630780780247644590609268736, 132, true⟩, ⟨4, 2722258935367507707706996859454145691648, 133, true⟩, ⟨8, 5444517870735015415413993718908291383296, 134, true⟩, ⟨0, 8, 135, true⟩, ⟨32, 21778071482940061661655974875633165533184, 136, true⟩, ⟨80, 54445178707350154154139937189082913832960, 137, true⟩, ⟨128, 87112285931760246646623899502532662132736, 138, true⟩, ⟨256, 174224571863520493293247799005065324265600, 139, true⟩, ⟨768, 522673715590561479879743397015195972796416, 140, true⟩, ⟨1280, 871122859317602466466238995025326621327360, 141, true⟩]), (26, [⟨0, 128, 142, true⟩, ⟨1, 2787593149816327892691964784081045188247552, 143, true⟩, ⟨2, 5575186299632655785383929568162090376495136, 144, true⟩, ⟨2, 5575186299632655785383929568162090376495112, 145, true⟩, ⟨10, 27875931498163278926919647840810451882475520, 146, true⟩, ⟨22, 61327049295959213639223225249782994141446144, 147, false⟩, ⟨2, 5575186299632655785383929568162090376495112, 148, true⟩, ⟨66, 183981147887877640917669675749348982424338432, 149, true⟩, ⟨162, 451590090270245118616098295021129320496103424, 150, true⟩, ⟨258, 719199032652612596314526914292909658567868416, 151, true⟩, ⟨544, 1427247692705959881058285969449495136382746624, 152, true⟩, ⟨1024, 2854495385411919762116571938898990272765493376, 153, true⟩, ⟨3072, 8563486156235759286349715816696970818296479744, 154, true⟩, ⟨5120, 14272476927059598810582859694494951363827466240, 155, true⟩, ⟨8192, 22835963083295358096932575511191922182123946016, 156, true⟩, ⟨8192, 22835963083295358096932575511191922182123945992, 157, true⟩, ⟨40960, 114179815416476790484662877555959610910619729920, 158, true⟩, ⟨90112, 251195593916248939066258330623111144003363405824, 159, false⟩, ⟨139264, 388211372416021087647853783690262677096107081728, 160, true⟩, ⟨271360, 756441277134158736960891563808232422282855710720, 161, true⟩, ⟨525312, 1464356132716314837965801404655182009928698036224, 162, true⟩])]
def pl4 : List (Nat × List Stp) := [(10, [.q 0, .q 1, .q 2, .q 3, .q 4, .q 6, .s 5 [6] [0, 4, 3, 1, 2], .q 7, .q 8, .q 9, .q 10, .q 11, .q 12, .q 13, .q 14, .q 15, .q 16, .q 17, .q 18, .q 19, .q 20, .q 21, .q 22, .q 23, .q 24, .q 25, .q 26, .q 27, .q 28, .s 29 [] [28, 24, 27, 23, 11, 25, 26, 8, 22, 10, 7, 5, 21, 9, 6, 0, 4, 16, 20, 3, 15, 19, 1, 2, 12, 14, 17, 18, 13], .q 30, .q 31]), (20, [.q 0, .q 1, .q 2, .q 3, .q 4, .q 5, .q 6, .q 7, .q 8, .q 9, .q 10, .q 11, .q 12, .s 13 [] [12, 1, 0, 2, 3, 4, 5, 6, 7, 8, 9, 10, 11]])]
def tb4 : List (Nat × List Ent) := [(10, [⟨0, 32, 33, true⟩, ⟨0, 64, 34, true⟩, ⟨0, 128, 35, true⟩, ⟨6, 25769803776, 36, true⟩, ⟨8, 34359738368, 37, true⟩, ⟨17, 73014444032, 38, false⟩, ⟨0, 2, 39, true⟩, ⟨96, 412316860416, 40, true⟩, ⟨160, 549755813888, 41, true⟩, ⟨256, 1099511627904, 42, true⟩, ⟨768, 3298534883328, 43, true⟩, ⟨1280, 5497558138880, 44, true⟩, ⟨2048, 8796093022272, 45, true⟩, ⟨2048, 8796093022336, 46, true⟩, ⟨10240, 43980465111040, 47, true⟩, ⟨22528, 96757023244288, 48, true⟩, ⟨34816, 149533581377536, 49, true⟩, ⟨2048, 8796093022272, 50, true⟩, ⟨2048, 8796093022336, 51, true⟩, ⟨395264, 1697645953286144, 52, true⟩, ⟨526336, 2260595906707456, 53, true⟩, ⟨1116160, 4793870697103360, 54, true⟩, ⟨2099456, 9017094859390976, 55, true⟩, ⟨4194560, 18015498021109760, 56, true⟩, ⟨8390656, 36028797018963968, 57, true⟩, ⟨16777216, 72057594037928000, 58, true⟩, ⟨16777216, 72057594037928064, 59, true⟩, ⟨117440512, 504403158265495552, 60, true⟩, ⟨150994944, 648518346341351424, 61, true⟩, ⟨285212672, 1224979098644774912, 62, false⟩, ⟨553648128, 2377900603251621888, 63, true⟩, ⟨1090519040, 4683743612465315840, 64, true⟩]), (20, [⟨0, 512, 90, true⟩, ⟨1, 618970019642690137449562112, 91, true⟩, ⟨2, 1237940039285380274899124288, 92, true⟩, ⟨2, 1237940039285380274899125248, 93, true⟩, ⟨14, 8665580274997661924293869568, 94, true⟩, ⟨18, 11141460353568422474092118016, 95, true⟩, ⟨2, 1237940039285380274899124225, 96, true⟩, ⟨2, 1237940039285380274899124480, 97, true⟩, ⟨194, 120080183810681886665215049728, 98, true⟩, ⟨258, 159694265067814055461987024896, 99, true⟩, ⟨514, 318150590096342730649074925568, 100, true⟩, ⟨1058, 654870280781966165421636714496, 101, true⟩, ⟨2050, 1268888540267514781771602329600, 102, true⟩, ⟨8191, 2535301200456458802993406410752, 10, false⟩])]
def pl5 : List (Nat × List Stp) := [(6, [.q 0, .q 1, .q 2, .q 3, .q 4, .q 5, .q 6, .q 7, .q 8, .q 9, .q 10, .q 11, .q 12, .q 13, .q 14, .q 15, .q 16, .q 17, .q 18, .q 19, .q 20, .q 21, .q 22, .q 23, .q 24, .q 25, .q 26, .q 27, .q 28, .q 29, .q 30, .q 31, .q 32, .q 33, .q 34, .q 35, .q 36, .q 37, .q 38, .q 39, .q 40, .q 41, .q 42, .q 43, .q 44, .q 45, .q 46, .q 47, .q 48, .q 49, .q 50])]
def tb5 : List (Nat × List Ent) := [(6, [⟨0, 1, 14, true⟩, ⟨0, 8, 15, true⟩, ⟨3, 24576, 16, true⟩, ⟨4, 32768, 17, true⟩, ⟨8, 65536, 18, true⟩, ⟨16, 131072, 19, true⟩, ⟨0, 1, 20, true⟩, ⟨0, 8, 21, true⟩, ⟨192, 1572864, 22, true⟩, ⟨256, 2097152, 23, true⟩, ⟨512, 4194304, 24, true⟩, ⟨1024, 8388608, 25, true⟩, ⟨2080, 17039360, 26, true⟩, ⟨0, 1, 27, true⟩, ⟨0, 8, 28, true⟩, ⟨24576, 201326592, 29, true⟩, ⟨32768, 268435456, 30, true⟩, ⟨65536, 536870912, 31, true⟩, ⟨131072, 1073741824, 32, true⟩, ⟨266240, 2181038080, 33, true⟩, ⟨524288, 4294967296, 34, true⟩, ⟨1048576, 8589934592, 35, true⟩, ⟨2097152, 17179869185, 36, true⟩, ⟨2097152, 17179869192, 37, true⟩, ⟨14680064, 120259084288, 38, true⟩, ⟨18874368, 154618822656, 39, true⟩, ⟨35651584, 292057776128, 40, true⟩, ⟨69206016, 566935683072, 41, true⟩, ⟨136314880, 1116691496960, 42, true⟩, ⟨270532608, 2216203124736, 43, true⟩, ⟨538968064, 4415226380288, 44, true⟩, ⟨1075838976, 8796093022208, 45, true⟩, ⟨2147483648, 17592186044417, 46, true⟩, ⟨2147483648, 17592186044424, 47, true⟩, ⟨15032385536, 123145302310912, 48, true⟩, ⟨19327352832, 158329674399744, 49, true⟩, ⟨36507222016, 299067162755072, 50, true⟩, ⟨70866960384, 580542139465728, 51, true⟩, ⟨139586437120, 1143492092887040, 52, true⟩, ⟨277025390592, 2269391999729664, 53, true⟩, ⟨551903297536, 4521191813414912, 54, true⟩, ⟨1101659111424, 9007199254740992, 55, true⟩, ⟨2199023255552, 18014398509481985, 56, true⟩, ⟨2199023255552, 18014398509481992, 57, true⟩, ⟨15393162788864, 126100789566373888, 58, true⟩, ⟨19791209299968, 162129586585337856, 59, true⟩, ⟨37383395344384, 306244774661193728, 60, true⟩, ⟨72567767433216, 594475150812905472, 61, true⟩, ⟨142936511610880, 1170935903116328960, 62, true⟩, ⟨283673999966208, 2323857407723175936, 63, true⟩, ⟨565148976676864, 4629700416936869888, 64, true⟩])]
def pl6 : List (Nat × List Stp) := [(7, [.q 0, .q 1, .q 2, .q 3, .q 4, .q 5, .q 6, .q 7, .q 8, .q 9, .q 10, .q 11, .q 12, .q 13, .q 14, .q 15, .s 16 [] [0, 5, 10, 15, 4, 9, 14, 3, 8, 13, 1, 2, 6, 7, 11, 12]]), (9, [.q 0, .q 1, .q 2, .q 3, .q 4, .q 5, .q 6, .q 7, .q 8, .q 9, .q 10, .s 11 [] [0, 5, 10, 4, 9, 3, 8, 1, 2, 6, 7]])]
def tb6 : List (Nat × List Ent) := [(7, [⟨0, 8, 24, true⟩, ⟨0, 1, 25, true⟩, ⟨0, 32, 26, true⟩, ⟨6, 50331648, 27, true⟩, ⟨8, 67108864, 28, true⟩, ⟨16, 134217728, 29, true⟩, ⟨0, 1, 30, true⟩, ⟨0, 32, 31, true⟩, ⟨192, 1610612736, 32, true⟩, ⟨256, 2147483648, 33, true⟩, ⟨512, 4294967296, 34, true⟩, ⟨0, 1, 35, true⟩, ⟨0, 32, 36, true⟩, ⟨6144, 51539607552, 37, true⟩, ⟨8192, 68719476736, 38, true⟩, ⟨16384, 137438953472, 39, true⟩, ⟨33825, 283744665600, 40, false⟩]), (9, [⟨0, 8, 43, true⟩, ⟨0, 1, 44, true⟩, ⟨0, 32, 45, true⟩, ⟨6, 26388279066624, 46, true⟩, ⟨8, 35184372088832, 47, true⟩, ⟨16, 70368744177664, 48, true⟩, ⟨0, 1, 49, true⟩, ⟨0, 32, 50, true⟩, ⟨192, 844424930131968, 51, true⟩, ⟨256, 1125899906842624, 52, true⟩, ⟨512, 2251799813685248, 53, true⟩, ⟨1057, 4648735162236928, 54, false⟩])]
def pl14 : List (Nat × List Stp) := [(3, [.q 0, .q 1, .q 2, .q 3, .q 4, .q 5, .q 6, .s 7 [] [3, 5, 6, 0, 1, 2, 4]])]
def tb14 : List (Nat × List Ent) := [(3, [⟨0, 1, 31, true⟩, ⟨1, 1073741824, 32, true⟩, ⟨2, 2147483648, 33, true⟩, ⟨4, 4294967296, 34, true⟩, ⟨0, 8, 35, true⟩, ⟨16, 17179869184, 36, true⟩, ⟨0, 8, 37, true⟩, ⟨127, 111669149696, 0, false⟩])]
def pl45 : List (Nat × List Stp) := [(3, [.q 0, .q 1, .q 2, .q 3, .q 4, .q 5, .q 6, .q 7, .q 8, .s 9 [3, 4, 5, 6, 7, 8] [2, 0, 1], .s 10 [] [8, 9, 0, 1, 2, 3, 4, 5, 6, 7], .s 11 [] [10, 0, 1, 2, 3, 4, 5, 6, 7, 8, 9]])]
def tb45 : List (Nat × List Ent) := [(3, [⟨0, 1, 14, true⟩, ⟨0, 128, 15, true⟩, ⟨3, 24576, 16, true⟩, ⟨0, 1, 17, true⟩, ⟨0, 128, 18, true⟩, ⟨0, 2, 19, true⟩, ⟨32, 262144, 20, true⟩, ⟨80, 655360, 21, true⟩, ⟨136, 1114112, 22, true⟩, ⟨7, 32768, 5, false⟩, ⟨1023, 2097152, 6, false⟩, ⟨2047, 0, 7, false⟩])]
end Go.Proofs.Ytkjfodfljchhcaa
