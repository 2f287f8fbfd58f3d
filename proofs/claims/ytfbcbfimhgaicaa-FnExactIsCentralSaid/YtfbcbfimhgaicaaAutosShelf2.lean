/- The shelf's contracts that this seat uses, in plain words (written by the kit's own tools lay-shelf and lay-plain). -/
import Derived.Shelf.Strings.Builder1
import Derived.Shelf.Strings.Builder2
import Derived.Shelf.Small.Utf8
import Derived.Shelf.Small.Bits
import Derived.Shelf.Small.Strs
import Derived.Shelf.Strings.BuilderF
import Derived.Shelf.Strings.BuilderK
import Derived.Shelf.Strings.Builder2Cap
import Derived.Shelf.Strconv.Itoa0
import Derived.Shelf.Strings.Search1
import Derived.Shelf.Sort.Plain
import Derived.Shelf.Strings.Prefix
import Derived.Shelf.Strings.Runes
import Derived.Shelf.Strings.IndexAny
import Derived.Shelf.Strings.AsciiSet
import Derived.Shelf.Strings.IndexAnyAll
import Derived.Shelf.Bits.Mul64
import Derived.Shelf.Strings.Repeat
import Derived.Shelf.Strings.BuilderCap
import Derived.Shelf.Slices.Turned
import Derived.Shelf.Slices.CompactS
import Derived.Shelf.Slices.Cells
import Derived.Shelf.Slices.In.SortNone
import Derived.Test.YtfbcbfimhgaicaaProg
set_option linter.unusedSimpArgs false
set_option linter.unusedVariables false
namespace Go.Proofs
open Go.Shelf
def Try.lays150_ren : Go.Shelf.Ren := ⟨fun | 150 => 111 | 153 => 134 | 152 => 155 | 226 => 156 | 227 => 157 | 228 => 158 | 137 => 166 | 119 => 167 | 224 => 168 | 225 => 169 | 217 => 180 | 266 => 185 | n => n, fun | 9 => 9 | 4 => 4 | 3 => 3 | 5 => 5 | 21 => 21 | 117 => 149 | 116 => 148 | 0 => 0 | 46 => 101 | 124 => 161 | n => n, fun | n => n⟩
theorem Try.lays150 : Go.Proofs.Lays.n150 Try.prog Try.lays150_ren := {
  mixed := by kernel_rfl
  f119 := Try.func167.trans (congrArg some (by kernel_rfl))
  f137 := Try.func166.trans (congrArg some (by kernel_rfl))
  f150 := Try.func111.trans (congrArg some (by kernel_rfl))
  f152 := Try.func155.trans (congrArg some (by kernel_rfl))
  f153 := Try.func134.trans (congrArg some (by kernel_rfl))
  f217 := Try.func180.trans (congrArg some (by kernel_rfl))
  f224 := Try.func168.trans (congrArg some (by kernel_rfl))
  f225 := Try.func169.trans (congrArg some (by kernel_rfl))
  f226 := Try.func156.trans (congrArg some (by kernel_rfl))
  f227 := Try.func157.trans (congrArg some (by kernel_rfl))
  f228 := Try.func158.trans (congrArg some (by kernel_rfl))
  f266 := Try.func185.trans (congrArg some (by kernel_rfl))
  t0 := Try.underlying0
  a0 := Try.isAgg0
  z0 := Try.sizeOf0
  v0 := Try.zeroValue0
  t3 := Try.underlying3
  a3 := Try.isAgg3
  z3 := Try.sizeOf3
  v3 := Try.zeroValue3
  t4 := Try.underlying4
  a4 := Try.isAgg4
  z4 := Try.sizeOf4
  v4 := Try.zeroValue4
  t5 := Try.underlying5
  a5 := Try.isAgg5
  z5 := Try.sizeOf5
  v5 := Try.zeroValue5
  t9 := Try.underlying9
  a9 := Try.isAgg9
  z9 := Try.sizeOf9
  v9 := Try.zeroValue9
  t21 := Try.underlying21
  a21 := Try.isAgg21
  z21 := Try.sizeOf21
  v21 := Try.zeroValue21
  t46 := Try.underlying101
  a46 := Try.isAgg101
  z46 := Try.sizeOf101
  v46 := Try.zeroValue101
  t116 := Try.underlying148
  a116 := Try.isAgg148
  z116 := Try.sizeOf148
  t117 := Try.underlying149
  a117 := Try.isAgg149
  z117 := Try.sizeOf149
  v117 := Try.zeroValue149
  t124 := Try.underlying161
  a124 := Try.isAgg161
  z124 := Try.sizeOf161
  v124 := Try.zeroValue161 }
open Go.RowKit Go.Lib in
theorem Try.strings_ContainsAny_laid (s chars : ByteArray) (w : World) (hs : s.size < 4294967281) (hcs : chars.size < 4294967281) (has : ∀ (j : Nat) b, s.data.toList[j]? = some b → b.toNat < 128) (hac : ∀ (j : Nat) b, chars.data.toList[j]? = some b → b.toNat < 128) :
    Calls Try.prog 111 #[.string s, .string chars] w fun e w' => e = .returned (.bool (Lib.containsAny s.data.toList chars.data.toList)) ∧ Below w.heap.size w w' := Any.strings_ContainsAny_laid Try.lays150 (by kernel_rfl) s chars w hs hcs has hac
end Go.Proofs
