import Derived.Test.YtanfjddopjkneaaRows
import Derived.Test.YtanfjddopjkneaaMxP
namespace Go.Proofs.Ytanfjddopjkneaa
open Go.Mx
theorem sz3 : szT Try.prog 3 = some 1 := by kernel_rfl
theorem ag3 : aggT Try.prog 3 = some false := by kernel_rfl
theorem tk3 : tkOf Try.prog 3 = .num := by kernel_rfl
theorem by3 : (Try.prog.info? 3).map (·.bytes) = some 8 := by kernel_rfl
theorem ze3 : zerosT Try.prog 3 = some [.v (.int .i64 0)] := by kernel_rfl
theorem sz4 : szT Try.prog 4 = some 1 := by kernel_rfl
theorem ag4 : aggT Try.prog 4 = some false := by kernel_rfl
theorem tk4 : tkOf Try.prog 4 = .bool := by kernel_rfl
theorem by4 : (Try.prog.info? 4).map (·.bytes) = some 1 := by kernel_rfl
theorem ze4 : zerosT Try.prog 4 = some [.v (.bool false)] := by kernel_rfl
theorem sz5 : szT Try.prog 5 = some 1 := by kernel_rfl
theorem ag5 : aggT Try.prog 5 = some false := by kernel_rfl
theorem tk5 : tkOf Try.prog 5 = .num := by kernel_rfl
theorem by5 : (Try.prog.info? 5).map (·.bytes) = some 1 := by kernel_rfl
theorem ze5 : zerosT Try.prog 5 = some [.v (.int .u8 0)] := by kernel_rfl
theorem sz9 : szT Try.prog 9 = some 1 := by kernel_rfl
theorem ag9 : aggT Try.prog 9 = some false := by kernel_rfl
theorem tk9 : tkOf Try.prog 9 = .str := by kernel_rfl
theorem st9 : isStrTy Try.prog 9 = some true := by kernel_rfl
theorem by9 : (Try.prog.info? 9).map (·.bytes) = some 16 := by kernel_rfl
theorem ze9 : zerosT Try.prog 9 = some [.v (.string ⟨#[]⟩)] := by kernel_rfl
theorem sz22 : szT Try.prog 22 = some 1 := by kernel_rfl
theorem ag22 : aggT Try.prog 22 = some false := by kernel_rfl
theorem tk22 : tkOf Try.prog 22 = .slice := by kernel_rfl
theorem st22 : isStrTy Try.prog 22 = some false := by kernel_rfl
theorem by22 : (Try.prog.info? 22).map (·.bytes) = some 24 := by kernel_rfl
theorem ze22 : zerosT Try.prog 22 = some [.v (.slice none 0 0)] := by kernel_rfl
theorem sz26 : szT Try.prog 26 = some 1 := by kernel_rfl
theorem ag26 : aggT Try.prog 26 = some false := by kernel_rfl
theorem tk26 : tkOf Try.prog 26 = .num := by kernel_rfl
theorem by26 : (Try.prog.info? 26).map (·.bytes) = some 8 := by kernel_rfl
theorem ze26 : zerosT Try.prog 26 = some [.v (.int .i64 0)] := by kernel_rfl
theorem sz33 : szT Try.prog 33 = some 3 := by kernel_rfl
theorem ag33 : aggT Try.prog 33 = some true := by kernel_rfl
theorem tk33 : tkOf Try.prog 33 = .other := by kernel_rfl
theorem by33 : (Try.prog.info? 33).map (·.bytes) = some 3 := by kernel_rfl
theorem ze33 : zerosT Try.prog 33 = some [.v (.int .u8 0), .v (.int .u8 0), .v (.int .u8 0)] := by kernel_rfl
theorem sz34 : szT Try.prog 34 = some 1 := by kernel_rfl
theorem ag34 : aggT Try.prog 34 = some false := by kernel_rfl
theorem tk34 : tkOf Try.prog 34 = .num := by kernel_rfl
theorem by34 : (Try.prog.info? 34).map (·.bytes) = some 8 := by kernel_rfl
theorem ze34 : zerosT Try.prog 34 = some [.v (.int .u64 0)] := by kernel_rfl
theorem sz35 : szT Try.prog 35 = some 1 := by kernel_rfl
theorem ag35 : aggT Try.prog 35 = some false := by kernel_rfl
theorem tk35 : tkOf Try.prog 35 = .slice := by kernel_rfl
theorem st35 : isStrTy Try.prog 35 = some false := by kernel_rfl
theorem by35 : (Try.prog.info? 35).map (·.bytes) = some 24 := by kernel_rfl
theorem ze35 : zerosT Try.prog 35 = some [.v (.slice none 0 0)] := by kernel_rfl
theorem ok9 : bodyOk Try.prog 9 = true := by kernel_rfl
theorem ok10 : bodyOk Try.prog 10 = true := by kernel_rfl
theorem ok11 : bodyOk Try.prog 11 = true := by kernel_rfl
theorem ok12 : bodyOk Try.prog 12 = true := by kernel_rfl
theorem ok13 : bodyOk Try.prog 13 = true := by kernel_rfl
theorem ok14 : bodyOk Try.prog 14 = true := by kernel_rfl
theorem ok15 : bodyOk Try.prog 15 = true := by kernel_rfl
theorem ok16 : bodyOk Try.prog 16 = true := by kernel_rfl
theorem ok17 : bodyOk Try.prog 17 = true := by kernel_rfl
theorem ok18 : bodyOk Try.prog 18 = true := by kernel_rfl
theorem ok19 : bodyOk Try.prog 19 = true := by kernel_rfl
theorem ok20 : bodyOk Try.prog 20 = true := by kernel_rfl
end Go.Proofs.Ytanfjddopjkneaa
