/-
  QuerySame's example, part S: it proves what the library's search for a text answers. No conditions.
-/
import Derived.Test.YtimahogkcmmcnaaGreatDoorProg
import Derived.Test.YtimahogkcmmcnaaGreatDoorV3
import Derived.Shelf.Strings.Search2
set_option linter.unusedSimpArgs false
set_option linter.unusedVariables false
namespace Go.Proofs.YtimahogkcmmcnaaGreatDoor
open Go.RowKit
set_option maxHeartbeats 1000000
set_option maxRecDepth 100000

def Tryz.lays219_ren : Go.Shelf.Ren := ⟨fun | 219 => 258 | 217 => 320 | 225 => 321 | 224 => 322 | 267 => 323 | 266 => 367 | 314 => 368 | n => n, fun | 9 => 9 | 3 => 3 | 4 => 4 | 5 => 5 | 46 => 260 | 146 => 323 | 51 => 322 | n => n, fun | 1 => 1 | n => n⟩
theorem Tryz.lays219 : Go.Proofs.Lays.n219 Tryz.prog Tryz.lays219_ren where
  mixed := by kernel_rfl
  f217 := Tryz.func320.trans (congrArg some (by kernel_rfl))
  f219 := Tryz.func258.trans (congrArg some (by kernel_rfl))
  f224 := Tryz.func322.trans (congrArg some (by kernel_rfl))
  f225 := Tryz.func321.trans (congrArg some (by kernel_rfl))
  f266 := Tryz.func367.trans (congrArg some (by kernel_rfl))
  f267 := Tryz.func323.trans (congrArg some (by kernel_rfl))
  f314 := Tryz.func368.trans (congrArg some (by kernel_rfl))
  t3 := Tryz.underlying3
  a3 := Tryz.isAgg3
  z3 := Tryz.sizeOf3
  v3 := Tryz.zeroValue3
  t4 := Tryz.underlying4
  a4 := Tryz.isAgg4
  z4 := Tryz.sizeOf4
  v4 := Tryz.zeroValue4
  t5 := Tryz.underlying5
  a5 := Tryz.isAgg5
  z5 := Tryz.sizeOf5
  v5 := Tryz.zeroValue5
  t9 := Tryz.underlying9
  a9 := Tryz.isAgg9
  z9 := Tryz.sizeOf9
  v9 := Tryz.zeroValue9
  t46 := Tryz.underlying260
  a46 := Tryz.isAgg260
  z46 := Tryz.sizeOf260
  v46 := Tryz.zeroValue260
  t51 := Tryz.underlying322
  a51 := Tryz.isAgg322
  z51 := Tryz.sizeOf322
  v51 := Tryz.zeroValue322
  t146 := Tryz.underlying323
  a146 := Tryz.isAgg323
  z146 := Tryz.sizeOf323
  v146 := Tryz.zeroValue323
  g1 := by kernel_rfl

theorem search_any (l sub : List UInt8) (w : World) (m : Int) (e : TypeId) (fz : Nat × Nat) (hl : l.length < 4294967281) (hw : w.heap[1]? = some (.cells #[.int .i64 m] e fz)) :
    Calls Tryz.prog 258 #[.string ⟨l.toArray⟩, .string ⟨sub.toArray⟩] w fun x w' => x = .returned (.int .i64 (Lib.index l sub)) ∧ w' = w := by
  have : Calls Tryz.prog 258 #[.string ⟨l.toArray⟩, .string ⟨sub.toArray⟩] w fun x w' => x = .returned (.int .i64 (Lib.index (ByteArray.mk l.toArray).data.toList (ByteArray.mk sub.toArray).data.toList)) ∧ w' = w := Any.stringslite_Index Tryz.lays219 ⟨l.toArray⟩ ⟨sub.toArray⟩ m w (by simpa [ByteArray.size] using hl) (by show w.cell? ⟨1, 0, none⟩ = _; simp [World.cell?, hw])
  simpa using this
end Go.Proofs.YtimahogkcmmcnaaGreatDoor
