/- Contracts of the library's shelf, laid at this program. -/
import Derived.Shelf.Strings.Search3
import Derived.Test.YtmidnaafljgbiaaProg
namespace Go.Proofs.Ytmidnaafljgbiaa
open Go.Shelf Go.RowKit Go.Lib
def sh144_ren : Go.Shelf.Ren := ⟨fun | 144 => 131 | 143 => 142 | 219 => 150 | 217 => 156 | 225 => 157 | 224 => 158 | 267 => 159 | 266 => 170 | 314 => 171 | n => n, fun | 9 => 9 | 4 => 4 | 3 => 3 | 5 => 5 | 46 => 163 | 146 => 172 | 51 => 171 | n => n, fun | 1 => 0 | n => n⟩
theorem sh144 : Go.Proofs.Lays.n144 Try.prog sh144_ren := {
  mixed := by kernel_rfl
  f143 := Try.func142.trans (congrArg some (by kernel_rfl))
  f144 := Try.func131.trans (congrArg some (by kernel_rfl))
  f217 := Try.func156.trans (congrArg some (by kernel_rfl))
  f219 := Try.func150.trans (congrArg some (by kernel_rfl))
  f224 := Try.func158.trans (congrArg some (by kernel_rfl))
  f225 := Try.func157.trans (congrArg some (by kernel_rfl))
  f266 := Try.func170.trans (congrArg some (by kernel_rfl))
  f267 := Try.func159.trans (congrArg some (by kernel_rfl))
  f314 := Try.func171.trans (congrArg some (by kernel_rfl))
  t3 := Try.underlying3
  a3 := Try.isAgg3
  z3 := Try.sizeOf3
  v3 := Try.zeroValue3
  t4 := Try.underlying4
  a4 := Try.isAgg4
  z4 := Try.sizeOf4
  v4 := Try.zeroValue4
  t5 := Try.underlying5
  a5 := Try.isAgg5
  z5 := Try.sizeOf5
  v5 := Try.zeroValue5
  t9 := Try.underlying9
  a9 := Try.isAgg9
  z9 := Try.sizeOf9
  v9 := Try.zeroValue9
  t46 := Try.underlying163
  a46 := Try.isAgg163
  z46 := Try.sizeOf163
  v46 := Try.zeroValue163
  t51 := Try.underlying171
  a51 := Try.isAgg171
  z51 := Try.sizeOf171
  v51 := Try.zeroValue171
  t146 := Try.underlying172
  a146 := Try.isAgg172
  z146 := Try.sizeOf172
  v146 := Try.zeroValue172
  g1 := by kernel_rfl }
theorem lib_strings_Contains_one (s : ByteArray) (c : UInt8) (w : World) :
    Calls Try.prog 131 #[.string s, .string ⟨#[c]⟩] w fun e w' => e = .returned (.bool (decide (0 ≤ Lib.indexByte s.data.toList c))) ∧ w' = w := Any.strings_Contains_one sh144 s c w
end Go.Proofs.Ytmidnaafljgbiaa
