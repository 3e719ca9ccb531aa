import Derived.Test.YtidmkmipgclfjaaRows
import Derived.Test.YtidmkmipgclfjaaMxR
namespace Go.Proofs.Ytidmkmipgclfjaa
open Go.Mx
theorem sz3 : szT Try.prog 3 = some 1 := by kernel_rfl
theorem ag3 : aggT Try.prog 3 = some false := by kernel_rfl
theorem tk3 : tkOf Try.prog 3 = .num := by kernel_rfl
theorem by3 : (Try.prog.info? 3).map (·.bytes) = some 8 := by kernel_rfl
theorem ze3 : zerosT Try.prog 3 = some [.v (.int .i64 0)] := by kernel_rfl
theorem sz4 : szT Try.prog 4 = some 1 := by kernel_rfl
theorem ag4 : aggT Try.prog 4 = some false := by kernel_rfl
theorem tk4 : tkOf Try.prog 4 = .bool := by kernel_rfl
theorem by4 : (Try.prog.info? 4).map (·.bytes) = some 1 := by kernel_rfl
theorem ze4 : zerosT Try.prog 4 = some [.v (.bool false)] := by kernel_rfl
theorem sz5 : szT Try.prog 5 = some 1 := by kernel_rfl
theorem ag5 : aggT Try.prog 5 = some false := by kernel_rfl
theorem tk5 : tkOf Try.prog 5 = .num := by kernel_rfl
theorem by5 : (Try.prog.info? 5).map (·.bytes) = some 1 := by kernel_rfl
theorem ze5 : zerosT Try.prog 5 = some [.v (.int .u8 0)] := by kernel_rfl
theorem sz9 : szT Try.prog 9 = some 1 := by kernel_rfl
theorem ag9 : aggT Try.prog 9 = some false := by kernel_rfl
theorem tk9 : tkOf Try.prog 9 = .str := by kernel_rfl
theorem st9 : isStrTy Try.prog 9 = some true := by kernel_rfl
theorem by9 : (Try.prog.info? 9).map (·.bytes) = some 16 := by kernel_rfl
theorem ze9 : zerosT Try.prog 9 = some [.v (.string ⟨#[]⟩)] := by kernel_rfl
theorem sz27 : szT Try.prog 27 = some 2 := by kernel_rfl
theorem ag27 : aggT Try.prog 27 = some true := by kernel_rfl
theorem tk27 : tkOf Try.prog 27 = .other := by kernel_rfl
theorem by27 : (Try.prog.info? 27).map (·.bytes) = some 32 := by kernel_rfl
theorem ze27 : zerosT Try.prog 27 = some [.v (.string ⟨#[]⟩), .v (.string ⟨#[]⟩)] := by kernel_rfl
theorem sz28 : szT Try.prog 28 = some 1 := by kernel_rfl
theorem ag28 : aggT Try.prog 28 = some false := by kernel_rfl
theorem tk28 : tkOf Try.prog 28 = .num := by kernel_rfl
theorem by28 : (Try.prog.info? 28).map (·.bytes) = some 8 := by kernel_rfl
theorem ze28 : zerosT Try.prog 28 = some [.v (.int .i64 0)] := by kernel_rfl
theorem sz33 : szT Try.prog 33 = some 1 := by kernel_rfl
theorem ag33 : aggT Try.prog 33 = some false := by kernel_rfl
theorem tk33 : tkOf Try.prog 33 = .slice := by kernel_rfl
theorem st33 : isStrTy Try.prog 33 = some false := by kernel_rfl
theorem by33 : (Try.prog.info? 33).map (·.bytes) = some 24 := by kernel_rfl
theorem ze33 : zerosT Try.prog 33 = some [.v (.slice none 0 0)] := by kernel_rfl
theorem sz40 : szT Try.prog 40 = some 1 := by kernel_rfl
theorem ag40 : aggT Try.prog 40 = some false := by kernel_rfl
theorem tk40 : tkOf Try.prog 40 = .slice := by kernel_rfl
theorem st40 : isStrTy Try.prog 40 = some false := by kernel_rfl
theorem by40 : (Try.prog.info? 40).map (·.bytes) = some 24 := by kernel_rfl
theorem ze40 : zerosT Try.prog 40 = some [.v (.slice none 0 0)] := by kernel_rfl
theorem mo : Try.prog.follows .mixedOrders = true := by kernel_rfl
theorem ok3 : bodyOk Try.prog 3 = true := by kernel_rfl
theorem ok4 : bodyOk Try.prog 4 = true := by kernel_rfl
theorem ok5 : bodyOk Try.prog 5 = true := by kernel_rfl
theorem ok6 : bodyOk Try.prog 6 = true := by kernel_rfl
theorem ok7 : bodyOk Try.prog 7 = true := by kernel_rfl
theorem ok8 : bodyOk Try.prog 8 = true := by kernel_rfl
theorem ok9 : bodyOk Try.prog 9 = true := by kernel_rfl
theorem ok10 : bodyOk Try.prog 10 = true := by kernel_rfl
theorem ok11 : bodyOk Try.prog 11 = true := by kernel_rfl
theorem ok12 : bodyOk Try.prog 12 = true := by kernel_rfl
theorem ok13 : bodyOk Try.prog 13 = true := by kernel_rfl
theorem ok14 : bodyOk Try.prog 14 = true := by kernel_rfl
theorem ok15 : bodyOk Try.prog 15 = true := by kernel_rfl
theorem ok16 : bodyOk Try.prog 16 = true := by kernel_rfl
theorem ok17 : bodyOk Try.prog 17 = true := by kernel_rfl
theorem ok18 : bodyOk Try.prog 18 = true := by kernel_rfl
theorem ok19 : bodyOk Try.prog 19 = true := by kernel_rfl
theorem ok20 : bodyOk Try.prog 20 = true := by kernel_rfl
theorem ok21 : bodyOk Try.prog 21 = true := by kernel_rfl
theorem ok22 : bodyOk Try.prog 22 = true := by kernel_rfl
theorem ok23 : bodyOk Try.prog 23 = true := by kernel_rfl
theorem ok24 : bodyOk Try.prog 24 = true := by kernel_rfl
theorem ok25 : bodyOk Try.prog 25 = true := by kernel_rfl
theorem ok26 : bodyOk Try.prog 26 = true := by kernel_rfl
theorem ok27 : bodyOk Try.prog 27 = true := by kernel_rfl
theorem ok28 : bodyOk Try.prog 28 = true := by kernel_rfl
theorem ok29 : bodyOk Try.prog 29 = true := by kernel_rfl
theorem ok30 : bodyOk Try.prog 30 = true := by kernel_rfl
theorem ok31 : bodyOk Try.prog 31 = true := by kernel_rfl
theorem ok32 : bodyOk Try.prog 32 = true := by kernel_rfl
theorem ok33 : bodyOk Try.prog 33 = true := by kernel_rfl
theorem ok34 : bodyOk Try.prog 34 = true := by kernel_rfl
theorem ok35 : bodyOk Try.prog 35 = true := by kernel_rfl
theorem ok36 : bodyOk Try.prog 36 = true := by kernel_rfl
theorem ok37 : bodyOk Try.prog 37 = true := by kernel_rfl
theorem ok38 : bodyOk Try.prog 38 = true := by kernel_rfl
theorem ok39 : bodyOk Try.prog 39 = true := by kernel_rfl
theorem ok40 : bodyOk Try.prog 40 = true := by kernel_rfl
theorem ok41 : bodyOk Try.prog 41 = true := by kernel_rfl
theorem ok42 : bodyOk Try.prog 42 = true := by kernel_rfl
theorem ok43 : bodyOk Try.prog 43 = true := by kernel_rfl
theorem ok44 : bodyOk Try.prog 44 = true := by kernel_rfl
theorem ok45 : bodyOk Try.prog 45 = true := by kernel_rfl
theorem ok46 : bodyOk Try.prog 46 = true := by kernel_rfl
theorem ok47 : bodyOk Try.prog 47 = true := by kernel_rfl
theorem ok48 : bodyOk Try.prog 48 = true := by kernel_rfl
theorem ok49 : bodyOk Try.prog 49 = true := by kernel_rfl
def pl27 : List (Nat × List Stp) := [(6, [.q 0, .q 1, .q 2, .q 3, .q 4, .q 5, .q 6, .s 7 [3, 4, 5, 6] [2, 0, 1], .s 8 [] [6, 7, 0, 1, 2, 3, 4, 5], .s 9 [] [8, 0, 1, 2, 3, 4, 5, 6, 7]])]
def tb27 : List (Nat × List Ent) := [(6, [⟨0, 2, 36, true⟩, ⟨0, 128, 37, true⟩, ⟨3, 103079215104, 38, true⟩, ⟨0, 2, 39, true⟩, ⟨0, 128, 40, true⟩, ⟨16, 549755813888, 41, true⟩, ⟨40, 1374389534720, 42, true⟩, ⟨7, 137438953472, 5, false⟩, ⟨255, 2199023255552, 6, false⟩, ⟨511, 0, 7, false⟩])]
def pl45 : List (Nat × List Stp) := [(3, [.q 0, .q 1, .q 2, .q 3, .q 4, .q 5, .q 6, .q 7, .q 8, .s 9 [3, 4, 5, 6, 7, 8] [2, 0, 1], .s 10 [] [8, 9, 0, 1, 2, 3, 4, 5, 6, 7], .s 11 [] [10, 0, 1, 2, 3, 4, 5, 6, 7, 8, 9]])]
def tb45 : List (Nat × List Ent) := [(3, [⟨0, 1, 14, true⟩, ⟨0, 128, 15, true⟩, ⟨3, 24576, 16, true⟩, ⟨0, 1, 17, true⟩, ⟨0, 128, 18, true⟩, ⟨0, 2, 19, true⟩, ⟨32, 262144, 20, true⟩, ⟨80, 655360, 21, true⟩, ⟨136, 1114112, 22, true⟩, ⟨7, 32768, 5, false⟩, ⟨1023, 2097152, 6, false⟩, ⟨2047, 0, 7, false⟩])]
end Go.Proofs.Ytidmkmipgclfjaa
