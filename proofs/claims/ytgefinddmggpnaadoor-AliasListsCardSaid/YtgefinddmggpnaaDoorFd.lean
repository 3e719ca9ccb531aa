import Derived.Test.YtgefinddmggpnaaDoorRows
import Derived.Test.YtgefinddmggpnaaDoorD3
namespace Go.Proofs.YtgefinddmggpnaaDoor.D
open Go.Md
theorem sz3 : szT Tryd.prog 3 = some 1 := by kernel_rfl
theorem ag3 : aggT Tryd.prog 3 = some false := by kernel_rfl
theorem tk3 : tkOf Tryd.prog 3 = .num := by kernel_rfl
theorem by3 : (Tryd.prog.info? 3).map (·.bytes) = some 8 := by kernel_rfl
theorem ze3 : zerosT Tryd.prog 3 = some [.v (.int .i64 0)] := by kernel_rfl
theorem sz4 : szT Tryd.prog 4 = some 1 := by kernel_rfl
theorem ag4 : aggT Tryd.prog 4 = some false := by kernel_rfl
theorem tk4 : tkOf Tryd.prog 4 = .bool := by kernel_rfl
theorem by4 : (Tryd.prog.info? 4).map (·.bytes) = some 1 := by kernel_rfl
theorem ze4 : zerosT Tryd.prog 4 = some [.v (.bool false)] := by kernel_rfl
theorem sz9 : szT Tryd.prog 9 = some 1 := by kernel_rfl
theorem ag9 : aggT Tryd.prog 9 = some false := by kernel_rfl
theorem tk9 : tkOf Tryd.prog 9 = .str := by kernel_rfl
theorem st9 : isStrTy Tryd.prog 9 = some true := by kernel_rfl
theorem by9 : (Tryd.prog.info? 9).map (·.bytes) = some 16 := by kernel_rfl
theorem ze9 : zerosT Tryd.prog 9 = some [.v (.string ⟨#[]⟩)] := by kernel_rfl
theorem sz30 : szT Tryd.prog 30 = some 4 := by kernel_rfl
theorem ag30 : aggT Tryd.prog 30 = some true := by kernel_rfl
theorem tk30 : tkOf Tryd.prog 30 = .other := by kernel_rfl
theorem by30 : (Tryd.prog.info? 30).map (·.bytes) = some 56 := by kernel_rfl
theorem ze30 : zerosT Tryd.prog 30 = some [.v (.string ⟨#[]⟩), .v (.string ⟨#[]⟩), .v (.string ⟨#[]⟩), .v (.int .i64 0)] := by kernel_rfl
theorem of30 : offsT Tryd.prog 30 = some [(0, 1), (1, 1), (2, 1), (3, 1)] := by kernel_rfl
theorem sz61 : szT Tryd.prog 61 = some 1 := by kernel_rfl
theorem ag61 : aggT Tryd.prog 61 = some false := by kernel_rfl
theorem tk61 : tkOf Tryd.prog 61 = .slice := by kernel_rfl
theorem st61 : isStrTy Tryd.prog 61 = some false := by kernel_rfl
theorem by61 : (Tryd.prog.info? 61).map (·.bytes) = some 24 := by kernel_rfl
theorem ze61 : zerosT Tryd.prog 61 = some [.v (.slice none 0 0)] := by kernel_rfl
theorem mo : Tryd.prog.follows .mixedOrders = true := by kernel_rfl
theorem ok21 : bodyOk Tryd.prog 21 = true := by kernel_rfl
theorem ok22 : bodyOk Tryd.prog 22 = true := by kernel_rfl
theorem ok23 : bodyOk Tryd.prog 23 = true := by kernel_rfl
theorem ok24 : bodyOk Tryd.prog 24 = true := by kernel_rfl
theorem ok36 : bodyOk Tryd.prog 36 = true := by kernel_rfl
theorem ok37 : bodyOk Tryd.prog 37 = true := by kernel_rfl
def pl21 : List (Nat × List Stp) := [(1, [.q 0, .q 1, .q 2, .q 3, .q 5, .q 6, .q 7, .q 8, .s 4 [5, 6, 7, 8] [1, 3, 0, 2], .s 9 [] [6, 8, 4, 5, 7, 1, 3, 0, 2], .q 10, .s 11 [] [10, 9, 4, 6, 8, 1, 3, 5, 7, 0, 2], .s 12 [] [11, 0, 1, 2, 3, 4, 5, 6, 7, 8, 9, 10]])]
def tb21 : List (Nat × List Ent) := [(1, [⟨0, 8, 6, 1⟩, ⟨1, 32, 7, 1⟩, ⟨0, 4, 8, 1⟩, ⟨4, 128, 9, 1⟩, ⟨10, 320, 10, 0⟩, ⟨0, 4, 11, 1⟩, ⟨32, 1024, 12, 1⟩, ⟨0, 8, 13, 1⟩, ⟨128, 4096, 14, 1⟩, ⟨336, 10240, 15, 0⟩, ⟨528, 16896, 16, 1⟩, ⟨1536, 32768, 17, 0⟩, ⟨4095, 65536, 5, 0⟩])]
end Go.Proofs.YtgefinddmggpnaaDoor.D
