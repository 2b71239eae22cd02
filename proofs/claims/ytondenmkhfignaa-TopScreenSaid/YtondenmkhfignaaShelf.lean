/- strings.Repeat at this program: the shelf's contract, laid in plain words by the kit's lay-shelf.mjs and lay-plain.mjs. -/
import Derived.Shelf.Strings.Builder1
import Derived.Shelf.Strings.Builder2
import Derived.Shelf.Small.Bits
import Derived.Shelf.Strings.BuilderF
import Derived.Shelf.Strings.Prefix
import Derived.Shelf.Bits.Mul64
import Derived.Shelf.Strings.Repeat
import Derived.Test.YtondenmkhfignaaProg
set_option linter.unusedSimpArgs false
set_option linter.unusedVariables false
namespace Go.Proofs
open Go.Shelf
def Try.lays105_ren : Go.Shelf.Ren := ⟨fun | 105 => 91 | 212 => 154 | 99 => 155 | 165 => 156 | 166 => 157 | 170 => 158 | 169 => 159 | 263 => 190 | 264 => 191 | 206 => 192 | 240 => 193 | 241 => 194 | 276 => 204 | 277 => 205 | n => n, fun | 9 => 9 | 3 => 3 | 4 => 4 | 20 => 20 | 0 => 0 | 46 => 200 | 109 => 205 | 5 => 5 | 72 => 210 | 76 => 213 | 51 => 236 | 146 => 239 | 53 => 238 | 148 => 241 | 70 => 208 | 37 => 44 | 75 => 212 | 127 => 243 | 164 => 253 | 80 => 180 | n => n, fun | n => n⟩
theorem Try.lays105 : Go.Proofs.Lays.n105 Try.prog Try.lays105_ren := {
  mixed := by kernel_rfl
  f99 := Try.func155.trans (congrArg some (by kernel_rfl))
  f105 := Try.func91.trans (congrArg some (by kernel_rfl))
  f165 := Try.func156.trans (congrArg some (by kernel_rfl))
  f166 := Try.func157.trans (congrArg some (by kernel_rfl))
  f169 := Try.func159.trans (congrArg some (by kernel_rfl))
  f170 := Try.func158.trans (congrArg some (by kernel_rfl))
  f206 := Try.func192.trans (congrArg some (by kernel_rfl))
  f212 := Try.func154.trans (congrArg some (by kernel_rfl))
  f240 := Try.func193.trans (congrArg some (by kernel_rfl))
  f241 := Try.func194.trans (congrArg some (by kernel_rfl))
  f263 := Try.func190.trans (congrArg some (by kernel_rfl))
  f264 := Try.func191.trans (congrArg some (by kernel_rfl))
  f276 := Try.func204.trans (congrArg some (by kernel_rfl))
  f277 := Try.func205.trans (congrArg some (by kernel_rfl))
  t0 := Try.underlying0
  a0 := Try.isAgg0
  z0 := Try.sizeOf0
  v0 := Try.zeroValue0
  t3 := Try.underlying3
  a3 := Try.isAgg3
  z3 := Try.sizeOf3
  v3 := Try.zeroValue3
  t4 := Try.underlying4
  a4 := Try.isAgg4
  z4 := Try.sizeOf4
  v4 := Try.zeroValue4
  t5 := Try.underlying5
  a5 := Try.isAgg5
  z5 := Try.sizeOf5
  v5 := Try.zeroValue5
  t9 := Try.underlying9
  a9 := Try.isAgg9
  z9 := Try.sizeOf9
  v9 := Try.zeroValue9
  t20 := Try.underlying20
  a20 := Try.isAgg20
  z20 := Try.sizeOf20
  v20 := Try.zeroValue20
  t37 := Try.underlying44
  a37 := Try.isAgg44
  z37 := Try.sizeOf44
  v37 := Try.zeroValue44
  t46 := Try.underlying200
  a46 := Try.isAgg200
  z46 := Try.sizeOf200
  v46 := Try.zeroValue200
  t51 := Try.underlying236
  a51 := Try.isAgg236
  z51 := Try.sizeOf236
  v51 := Try.zeroValue236
  t53 := Try.underlying238
  a53 := Try.isAgg238
  z53 := Try.sizeOf238
  v53 := Try.zeroValue238
  t70 := Try.underlying208
  a70 := Try.isAgg208
  z70 := Try.sizeOf208
  v70 := Try.zeroValue208
  t72 := Try.underlying210
  a72 := Try.isAgg210
  z72 := Try.sizeOf210
  v72 := Try.zeroValue210
  t75 := Try.underlying212
  a75 := Try.isAgg212
  z75 := Try.sizeOf212
  v75 := Try.zeroValue212
  t76 := Try.underlying213
  a76 := Try.isAgg213
  z76 := Try.sizeOf213
  v76 := Try.zeroValue213
  t109 := Try.underlying205
  a109 := Try.isAgg205
  z109 := Try.sizeOf205
  v109 := Try.zeroValue205
  t127 := Try.underlying243
  a127 := Try.isAgg243
  z127 := Try.sizeOf243
  v127 := Try.zeroValue243
  t146 := Try.underlying239
  a146 := Try.isAgg239
  z146 := Try.sizeOf239
  v146 := Try.zeroValue239
  t148 := Try.underlying241
  a148 := Try.isAgg241
  z148 := Try.sizeOf241
  v148 := Try.zeroValue241
  t164 := Try.underlying253
  a164 := Try.isAgg253
  z164 := Try.sizeOf253
  v164 := Try.zeroValue253 }
theorem Try.Builder_Extra_105 : Builder.Extra Try.prog Try.lays105_ren := {
  sizeBuilder := by kernel_rfl
  liesBuilder := by kernel_rfl
  t5 := Try.underlying5
  a5 := Try.isAgg5
  z5 := Try.sizeOf5
  v5 := Try.zeroValue5
  infoByte := by kernel_rfl
  cellsByte := by kernel_rfl
  sizeByte := by kernel_rfl
  neB5 := by decide }
open Go.RowKit Go.Lib in
theorem Try.strings_Repeat (s : ByteArray) (c : Nat) (w : World) (hc : c ≤ 9223372036854775807) (hlen : s.size * c ≤ 140737488355328) :
    Calls Try.prog 91 #[.string s, .int .i64 c] w fun e w' => e = .returned (.string ⟨(Lib.repeatL s.data.toList c).toArray⟩) ∧ Below w.heap.size w w' := Any.strings_Repeat Try.lays105 Try.Builder_Extra_105 s c w hc hlen
end Go.Proofs
