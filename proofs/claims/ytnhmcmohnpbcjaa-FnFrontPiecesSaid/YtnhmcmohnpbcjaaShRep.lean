/- Contracts of Go's library, laid over this seat's program by the kit's shelf: strings_Repeat. Nothing here speaks of the program's own text. -/
import Derived.Shelf.Strings.Repeat
import Derived.Test.YtnhmcmohnpbcjaaProg
namespace Go.Proofs
open Go.Shelf
def Try.lays105_ren : Go.Shelf.Ren := ⟨fun | 105 => 65 | 212 => 96 | 99 => 97 | 165 => 98 | 166 => 99 | 170 => 100 | 169 => 101 | 263 => 130 | 264 => 131 | 206 => 132 | 240 => 133 | 241 => 134 | 276 => 152 | 277 => 153 | n => n, fun | 9 => 9 | 3 => 3 | 4 => 4 | 20 => 20 | 0 => 0 | 46 => 122 | 109 => 130 | 5 => 5 | 72 => 135 | 76 => 139 | 51 => 168 | 146 => 169 | 53 => 127 | 148 => 171 | 70 => 133 | 37 => 39 | 75 => 138 | 127 => 173 | 164 => 190 | 80 => 142 | n => n, fun | n => n⟩
theorem Try.lays105 : Go.Proofs.Lays.n105 Try.prog Try.lays105_ren := {
  mixed := by kernel_rfl
  f99 := Try.func97.trans (congrArg some (by kernel_rfl))
  f105 := Try.func65.trans (congrArg some (by kernel_rfl))
  f165 := Try.func98.trans (congrArg some (by kernel_rfl))
  f166 := Try.func99.trans (congrArg some (by kernel_rfl))
  f169 := Try.func101.trans (congrArg some (by kernel_rfl))
  f170 := Try.func100.trans (congrArg some (by kernel_rfl))
  f206 := Try.func132.trans (congrArg some (by kernel_rfl))
  f212 := Try.func96.trans (congrArg some (by kernel_rfl))
  f240 := Try.func133.trans (congrArg some (by kernel_rfl))
  f241 := Try.func134.trans (congrArg some (by kernel_rfl))
  f263 := Try.func130.trans (congrArg some (by kernel_rfl))
  f264 := Try.func131.trans (congrArg some (by kernel_rfl))
  f276 := Try.func152.trans (congrArg some (by kernel_rfl))
  f277 := Try.func153.trans (congrArg some (by kernel_rfl))
  t0 := Try.underlying0
  a0 := Try.isAgg0
  z0 := Try.sizeOf0
  v0 := Try.zeroValue0
  t3 := Try.underlying3
  a3 := Try.isAgg3
  z3 := Try.sizeOf3
  v3 := Try.zeroValue3
  t4 := Try.underlying4
  a4 := Try.isAgg4
  z4 := Try.sizeOf4
  v4 := Try.zeroValue4
  t5 := Try.underlying5
  a5 := Try.isAgg5
  z5 := Try.sizeOf5
  v5 := Try.zeroValue5
  t9 := Try.underlying9
  a9 := Try.isAgg9
  z9 := Try.sizeOf9
  v9 := Try.zeroValue9
  t20 := Try.underlying20
  a20 := Try.isAgg20
  z20 := Try.sizeOf20
  v20 := Try.zeroValue20
  t37 := Try.underlying39
  a37 := Try.isAgg39
  z37 := Try.sizeOf39
  v37 := Try.zeroValue39
  t46 := Try.underlying122
  a46 := Try.isAgg122
  z46 := Try.sizeOf122
  v46 := Try.zeroValue122
  t51 := Try.underlying168
  a51 := Try.isAgg168
  z51 := Try.sizeOf168
  v51 := Try.zeroValue168
  t53 := Try.underlying127
  a53 := Try.isAgg127
  z53 := Try.sizeOf127
  v53 := Try.zeroValue127
  t70 := Try.underlying133
  a70 := Try.isAgg133
  z70 := Try.sizeOf133
  v70 := Try.zeroValue133
  t72 := Try.underlying135
  a72 := Try.isAgg135
  z72 := Try.sizeOf135
  v72 := Try.zeroValue135
  t75 := Try.underlying138
  a75 := Try.isAgg138
  z75 := Try.sizeOf138
  v75 := Try.zeroValue138
  t76 := Try.underlying139
  a76 := Try.isAgg139
  z76 := Try.sizeOf139
  v76 := Try.zeroValue139
  t109 := Try.underlying130
  a109 := Try.isAgg130
  z109 := Try.sizeOf130
  v109 := Try.zeroValue130
  t127 := Try.underlying173
  a127 := Try.isAgg173
  z127 := Try.sizeOf173
  v127 := Try.zeroValue173
  t146 := Try.underlying169
  a146 := Try.isAgg169
  z146 := Try.sizeOf169
  v146 := Try.zeroValue169
  t148 := Try.underlying171
  a148 := Try.isAgg171
  z148 := Try.sizeOf171
  v148 := Try.zeroValue171
  t164 := Try.underlying190
  a164 := Try.isAgg190
  z164 := Try.sizeOf190
  v164 := Try.zeroValue190 }
theorem Try.Builder_Extra_105 : Builder.Extra Try.prog Try.lays105_ren := {
  sizeBuilder := by kernel_rfl
  liesBuilder := by kernel_rfl
  t5 := Try.underlying5
  a5 := Try.isAgg5
  z5 := Try.sizeOf5
  v5 := Try.zeroValue5
  infoByte := by kernel_rfl
  cellsByte := by kernel_rfl
  sizeByte := by kernel_rfl
  neB5 := by decide }
open Go.RowKit Go.Lib in
/-- **strings.Repeat: count ≥ 0, the result within one allocation: count copies of s.** (LAID: no walk: one application.) -/
theorem Try.strings_Repeat (s : ByteArray) (c : Nat) (w : World) (hc : c ≤ 9223372036854775807) (hlen : s.size * c ≤ 140737488355328) :
    Calls Try.prog 65 #[.string s, .int .i64 c] w fun e w' => e = .returned (.string ⟨(Lib.repeatL s.data.toList c).toArray⟩) ∧ Below w.heap.size w w' := Any.strings_Repeat Try.lays105 Try.Builder_Extra_105 s c w hc hlen
end Go.Proofs
