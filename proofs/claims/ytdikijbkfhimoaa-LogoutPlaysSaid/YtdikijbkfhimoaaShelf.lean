/- Contracts of the library, laid at this dump by the kit's own tools (lay-shelf.mjs, lay-plain.mjs). -/
import Derived.Shelf.Small.Strs
import Derived.Test.YtdikijbkfhimoaaRows
namespace Go.Proofs.Ytdikijbkfhimoaa
open Go.Shelf
def lays213_ren : Go.Shelf.Ren := ⟨fun | 213 => 64 | 265 => 81 | n => n, fun | 9 => 9 | 3 => 3 | n => n, fun | n => n⟩
theorem lays213 : Go.Proofs.Lays.n213 Try.prog lays213_ren := {
  mixed := by kernel_rfl
  f213 := Try.func64.trans (congrArg some (by kernel_rfl))
  f265 := Try.func81.trans (congrArg some (by kernel_rfl))
  t3 := Try.underlying3
  a3 := Try.isAgg3
  z3 := Try.sizeOf3
  v3 := Try.zeroValue3
  t9 := Try.underlying9
  a9 := Try.isAgg9
  z9 := Try.sizeOf9
  v9 := Try.zeroValue9 }
open Go.RowKit in
theorem bytealg_CompareString (a b : ByteArray) (w : World) :
    Calls Try.prog 64 #[.string a, .string b] w fun e w' => e = .returned (.int .i64 (Lib.compareBytes a.data.toList b.data.toList)) ∧ w' = w := Any.bytealg_CompareString lays213 a b w
def lays106_ren : Go.Shelf.Ren := ⟨fun | 106 => 44 | 213 => 64 | 265 => 81 | n => n, fun | 9 => 9 | 3 => 3 | n => n, fun | n => n⟩
theorem lays106 : Go.Proofs.Lays.n106 Try.prog lays106_ren := {
  mixed := by kernel_rfl
  f106 := Try.func44.trans (congrArg some (by kernel_rfl))
  f213 := Try.func64.trans (congrArg some (by kernel_rfl))
  f265 := Try.func81.trans (congrArg some (by kernel_rfl))
  t3 := Try.underlying3
  a3 := Try.isAgg3
  z3 := Try.sizeOf3
  v3 := Try.zeroValue3
  t9 := Try.underlying9
  a9 := Try.isAgg9
  z9 := Try.sizeOf9
  v9 := Try.zeroValue9 }
open Go.RowKit in
theorem strings_Compare (a b : ByteArray) (w : World) :
    Calls Try.prog 44 #[.string a, .string b] w fun e w' => e = .returned (.int .i64 (Lib.compareBytes a.data.toList b.data.toList)) ∧ w' = w := Any.strings_Compare lays106 a b w
end Go.Proofs.Ytdikijbkfhimoaa
