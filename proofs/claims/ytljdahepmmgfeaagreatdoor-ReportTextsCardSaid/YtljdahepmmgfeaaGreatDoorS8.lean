/- Texts. No condition. -/
import Derived.Test.YtljdahepmmgfeaaGreatDoorS7
import Derived.Shelf.Strings.Builder1
import Derived.Shelf.Strings.Builder2
import Derived.Shelf.Strings.OnBuilder
import Derived.Shelf.Strings.BuilderF
import Derived.Shelf.Strings.BuilderK
import Derived.Shelf.Strconv.Itoa0
import Derived.Shelf.Strconv.Itoa1
import Derived.Shelf.LaysM
import Derived.Shelf.Strconv.Itoa2
import Derived.Shelf.Strconv.Itoa3
import Derived.Shelf.Strconv.Itoa4
import Derived.Shelf.Strings.Prefix
import Derived.Shelf.Bits.Mul64
import Derived.Shelf.Strings.Repeat
import Derived.Test.YtljdahepmmgfeaaGreatDoorProg
import Derived.Test.YtljdahepmmgfeaaGreatDoorFb
set_option maxRecDepth 100000
set_option maxHeartbeats 4000000
set_option linter.unusedVariables false
set_option linter.unusedSimpArgs false
namespace Go.Proofs.YtljdahepmmgfeaaGreatDoor
open Go Go.Shelf
def sh_lays156_ren : Go.Shelf.Ren := ⟨fun | 156 => 34 | 165 => 62 | 166 => 28 | 169 => 30 | 240 => 48 | 241 => 95 | 276 => 78 | 277 => 119 | n => n, fun | 31 => 40 | 9 => 9 | 3 => 3 | 4 => 4 | 0 => 0 | 20 => 20 | 72 => 52 | 76 => 56 | 70 => 50 | 37 => 22 | 75 => 55 | 127 => 79 | 164 => 111 | 5 => 5 | 80 => 58 | n => n, fun | n => n⟩
theorem sh_lays156 : Go.Proofs.Lays.n156 Tryz.prog sh_lays156_ren := {
  mixed := by kernel_rfl
  f156 := Tryz.func34.trans (congrArg some (by kernel_rfl))
  f165 := Tryz.func62.trans (congrArg some (by kernel_rfl))
  f166 := Tryz.func28.trans (congrArg some (by kernel_rfl))
  f169 := Tryz.func30.trans (congrArg some (by kernel_rfl))
  f240 := Tryz.func48.trans (congrArg some (by kernel_rfl))
  f241 := Tryz.func95.trans (congrArg some (by kernel_rfl))
  f276 := Tryz.func78.trans (congrArg some (by kernel_rfl))
  f277 := Tryz.func119.trans (congrArg some (by kernel_rfl))
  t0 := Tryz.underlying0
  a0 := Tryz.isAgg0
  z0 := Tryz.sizeOf0
  v0 := Tryz.zeroValue0
  t3 := Tryz.underlying3
  a3 := Tryz.isAgg3
  z3 := Tryz.sizeOf3
  v3 := Tryz.zeroValue3
  t4 := Tryz.underlying4
  a4 := Tryz.isAgg4
  z4 := Tryz.sizeOf4
  v4 := Tryz.zeroValue4
  t9 := Tryz.underlying9
  a9 := Tryz.isAgg9
  z9 := Tryz.sizeOf9
  v9 := Tryz.zeroValue9
  t20 := Tryz.underlying20
  a20 := Tryz.isAgg20
  z20 := Tryz.sizeOf20
  v20 := Tryz.zeroValue20
  t31 := Tryz.underlying40
  a31 := Tryz.isAgg40
  z31 := Tryz.sizeOf40
  v31 := Tryz.zeroValue40
  t37 := Tryz.underlying22
  a37 := Tryz.isAgg22
  z37 := Tryz.sizeOf22
  v37 := Tryz.zeroValue22
  t70 := Tryz.underlying50
  a70 := Tryz.isAgg50
  z70 := Tryz.sizeOf50
  v70 := Tryz.zeroValue50
  t72 := Tryz.underlying52
  a72 := Tryz.isAgg52
  z72 := Tryz.sizeOf52
  v72 := Tryz.zeroValue52
  t75 := Tryz.underlying55
  a75 := Tryz.isAgg55
  z75 := Tryz.sizeOf55
  v75 := Tryz.zeroValue55
  t76 := Tryz.underlying56
  a76 := Tryz.isAgg56
  z76 := Tryz.sizeOf56
  v76 := Tryz.zeroValue56
  t127 := Tryz.underlying79
  a127 := Tryz.isAgg79
  z127 := Tryz.sizeOf79
  v127 := Tryz.zeroValue79
  t164 := Tryz.underlying111
  a164 := Tryz.isAgg111
  z164 := Tryz.sizeOf111
  v164 := Tryz.zeroValue111 }
theorem sh_Builder_Extra_156 : Builder.Extra Tryz.prog sh_lays156_ren := {
  sizeBuilder := by kernel_rfl
  liesBuilder := by kernel_rfl
  t5 := Tryz.underlying5
  a5 := Tryz.isAgg5
  z5 := Tryz.sizeOf5
  v5 := Tryz.zeroValue5
  infoByte := by kernel_rfl
  cellsByte := by kernel_rfl
  sizeByte := by kernel_rfl
  neB5 := by decide }
open Go.RowKit in
theorem sh_strings_Join_none (a : Option Addr) (c : Nat) (sep : ByteArray) (w : World) :
    Calls Tryz.prog 34 #[.slice a 0 c, .string sep] w fun e w' => e = .returned (.string ⟨#[]⟩) ∧ w' = w := Any.strings_Join_none sh_lays156 sh_Builder_Extra_156 a c sep w
open Go.RowKit in
theorem sh_strings_Join (bk o c : Nat) (xs : List ByteArray) (sep : ByteArray) (w : World) (hcells : ∀ (j : Nat) x, xs[j]? = some x → w.cell? ⟨bk, o + j, none⟩ = some (.string x)) (hbk : bk < w.heap.size) (hN : xs.length ≤ 140737488355328) (hcap : xs.length ≤ c) (hlen : (Lib.join (xs.map (·.data.toList)) sep.data.toList).length ≤ 140737488355328) :
    Calls Tryz.prog 34 #[.slice (some ⟨bk, o, none⟩) xs.length c, .string sep] w fun e w' => e = .returned (.string ⟨(Lib.join (xs.map (·.data.toList)) sep.data.toList).toArray⟩) ∧ Below w.heap.size w w' := Any.strings_Join sh_lays156 sh_Builder_Extra_156 bk o c xs sep w hcells hbk hN hcap hlen
def sh_laysM171_ren : Go.Shelf.Ren := ⟨fun | 171 => 17 | 243 => 35 | 246 => 49 | 283 => 79 | 284 => 80 | 285 => 81 | 286 => 82 | 129 => 112 | 317 => 111 | 318 => 113 | 319 => 114 | 320 => 115 | 337 => 123 | 338 => 124 | n => n, fun | 3 => 3 | 9 => 9 | 2 => 2 | 4 => 4 | 171 => 113 | 0 => 0 | 53 => 35 | 37 => 22 | 5 => 5 | 173 => 116 | 212 => 157 | 51 => 87 | 20 => 20 | 213 => 158 | 46 => 73 | 232 => 168 | 233 => 169 | n => n, fun | 17 => 0 | 18 => 2 | 19 => 3 | n => n⟩
theorem sh_laysM171 : Go.Proofs.LaysM.n171 Tryz.prog sh_laysM171_ren := {
  mixed := by kernel_rfl
  f129 := Tryz.func112.trans (congrArg some (by kernel_rfl))
  f171 := Tryz.func17.trans (congrArg some (by kernel_rfl))
  f243 := Tryz.func35.trans (congrArg some (by kernel_rfl))
  f246 := Tryz.func49.trans (congrArg some (by kernel_rfl))
  f283 := Tryz.func79.trans (congrArg some (by kernel_rfl))
  f284 := Tryz.func80.trans (congrArg some (by kernel_rfl))
  f285 := Tryz.func81.trans (congrArg some (by kernel_rfl))
  f286 := Tryz.func82.trans (congrArg some (by kernel_rfl))
  f317 := Tryz.func111.trans (congrArg some (by kernel_rfl))
  f318 := Tryz.func113.trans (congrArg some (by kernel_rfl))
  f319 := Tryz.func114.trans (congrArg some (by kernel_rfl))
  f320 := Tryz.func115.trans (congrArg some (by kernel_rfl))
  f337 := Tryz.func123.trans (congrArg some (by kernel_rfl))
  f338 := Tryz.func124.trans (congrArg some (by kernel_rfl))
  t0 := Tryz.underlying0
  a0 := Tryz.isAgg0
  z0 := Tryz.sizeOf0
  v0 := Tryz.zeroValue0
  t2 := Tryz.underlying2
  a2 := Tryz.isAgg2
  z2 := Tryz.sizeOf2
  v2 := Tryz.zeroValue2
  t3 := Tryz.underlying3
  a3 := Tryz.isAgg3
  z3 := Tryz.sizeOf3
  v3 := Tryz.zeroValue3
  t4 := Tryz.underlying4
  a4 := Tryz.isAgg4
  z4 := Tryz.sizeOf4
  v4 := Tryz.zeroValue4
  t5 := Tryz.underlying5
  a5 := Tryz.isAgg5
  z5 := Tryz.sizeOf5
  v5 := Tryz.zeroValue5
  t9 := Tryz.underlying9
  a9 := Tryz.isAgg9
  z9 := Tryz.sizeOf9
  v9 := Tryz.zeroValue9
  t20 := Tryz.underlying20
  a20 := Tryz.isAgg20
  z20 := Tryz.sizeOf20
  v20 := Tryz.zeroValue20
  t37 := Tryz.underlying22
  a37 := Tryz.isAgg22
  z37 := Tryz.sizeOf22
  v37 := Tryz.zeroValue22
  t46 := Tryz.underlying73
  a46 := Tryz.isAgg73
  z46 := Tryz.sizeOf73
  v46 := Tryz.zeroValue73
  t51 := Tryz.underlying87
  a51 := Tryz.isAgg87
  z51 := Tryz.sizeOf87
  v51 := Tryz.zeroValue87
  t53 := Tryz.underlying35
  a53 := Tryz.isAgg35
  z53 := Tryz.sizeOf35
  v53 := Tryz.zeroValue35
  t171 := Tryz.underlying113
  a171 := Tryz.isAgg113
  z171 := Tryz.sizeOf113
  v171 := Tryz.zeroValue113
  t173 := Tryz.underlying116
  a173 := Tryz.isAgg116
  z173 := Tryz.sizeOf116
  v173 := Tryz.zeroValue116
  t212 := Tryz.underlying157
  a212 := Tryz.isAgg157
  z212 := Tryz.sizeOf157
  v212 := Tryz.zeroValue157
  t213 := Tryz.underlying158
  a213 := Tryz.isAgg158
  z213 := Tryz.sizeOf158
  t232 := Tryz.underlying168
  a232 := Tryz.isAgg168
  z232 := Tryz.sizeOf168
  v232 := Tryz.zeroValue168
  t233 := Tryz.underlying169
  a233 := Tryz.isAgg169
  z233 := Tryz.sizeOf169
  v233 := Tryz.zeroValue169
  g17 := by kernel_rfl
  g18 := by kernel_rfl
  g19 := by kernel_rfl
  i0 := by kernel_rfl
  i2 := by kernel_rfl
  i3 := by kernel_rfl
  i4 := by kernel_rfl
  i5 := by kernel_rfl
  i9 := by kernel_rfl
  i20 := by kernel_rfl
  i37 := by kernel_rfl
  i46 := by kernel_rfl
  i51 := by kernel_rfl
  i53 := by kernel_rfl
  i171 := by kernel_rfl
  i173 := by kernel_rfl
  i212 := by kernel_rfl
  i232 := by kernel_rfl
  i233 := by kernel_rfl
  m17 := by kernel_rfl
  m18 := by kernel_rfl
  m19 := by kernel_rfl }
open Go.RowKit Go.Sort Go.Lib in
theorem sh_strconv_Itoa (n : Int) (h0 : -9223372036854775808 ≤ n) (h1 : n ≤ 9223372036854775807) (w : World) (htab : Lib.TabIs Tryz.prog w "internal/strconv.uint64pow10" .u64 Lib.pow10Tab) :
    Calls Tryz.prog 17 #[.int .i64 n] w fun e w' => e = .returned (.string ⟨(Lib.itoa n).toArray⟩) ∧ ∃ k os, w' = grow (w.drewN k) os := Any.strconv_Itoa sh_laysM171 n h0 h1 w htab
def sh_laysM173_ren : Go.Shelf.Ren := ⟨fun | 173 => 29 | 246 => 49 | 283 => 79 | 284 => 80 | 285 => 81 | 286 => 82 | 129 => 112 | 317 => 111 | 318 => 113 | 319 => 114 | 320 => 115 | 337 => 123 | 338 => 124 | n => n, fun | 2 => 2 | 3 => 3 | 9 => 9 | 4 => 4 | 171 => 113 | 0 => 0 | 53 => 35 | 37 => 22 | 5 => 5 | 173 => 116 | 212 => 157 | 51 => 87 | 20 => 20 | 213 => 158 | 46 => 73 | 232 => 168 | 233 => 169 | n => n, fun | 17 => 0 | 18 => 2 | 19 => 3 | n => n⟩
theorem sh_laysM173 : Go.Proofs.LaysM.n173 Tryz.prog sh_laysM173_ren := {
  mixed := by kernel_rfl
  f129 := Tryz.func112.trans (congrArg some (by kernel_rfl))
  f173 := Tryz.func29.trans (congrArg some (by kernel_rfl))
  f246 := Tryz.func49.trans (congrArg some (by kernel_rfl))
  f283 := Tryz.func79.trans (congrArg some (by kernel_rfl))
  f284 := Tryz.func80.trans (congrArg some (by kernel_rfl))
  f285 := Tryz.func81.trans (congrArg some (by kernel_rfl))
  f286 := Tryz.func82.trans (congrArg some (by kernel_rfl))
  f317 := Tryz.func111.trans (congrArg some (by kernel_rfl))
  f318 := Tryz.func113.trans (congrArg some (by kernel_rfl))
  f319 := Tryz.func114.trans (congrArg some (by kernel_rfl))
  f320 := Tryz.func115.trans (congrArg some (by kernel_rfl))
  f337 := Tryz.func123.trans (congrArg some (by kernel_rfl))
  f338 := Tryz.func124.trans (congrArg some (by kernel_rfl))
  t0 := Tryz.underlying0
  a0 := Tryz.isAgg0
  z0 := Tryz.sizeOf0
  v0 := Tryz.zeroValue0
  t2 := Tryz.underlying2
  a2 := Tryz.isAgg2
  z2 := Tryz.sizeOf2
  v2 := Tryz.zeroValue2
  t3 := Tryz.underlying3
  a3 := Tryz.isAgg3
  z3 := Tryz.sizeOf3
  v3 := Tryz.zeroValue3
  t4 := Tryz.underlying4
  a4 := Tryz.isAgg4
  z4 := Tryz.sizeOf4
  v4 := Tryz.zeroValue4
  t5 := Tryz.underlying5
  a5 := Tryz.isAgg5
  z5 := Tryz.sizeOf5
  v5 := Tryz.zeroValue5
  t9 := Tryz.underlying9
  a9 := Tryz.isAgg9
  z9 := Tryz.sizeOf9
  v9 := Tryz.zeroValue9
  t20 := Tryz.underlying20
  a20 := Tryz.isAgg20
  z20 := Tryz.sizeOf20
  v20 := Tryz.zeroValue20
  t37 := Tryz.underlying22
  a37 := Tryz.isAgg22
  z37 := Tryz.sizeOf22
  v37 := Tryz.zeroValue22
  t46 := Tryz.underlying73
  a46 := Tryz.isAgg73
  z46 := Tryz.sizeOf73
  v46 := Tryz.zeroValue73
  t51 := Tryz.underlying87
  a51 := Tryz.isAgg87
  z51 := Tryz.sizeOf87
  v51 := Tryz.zeroValue87
  t53 := Tryz.underlying35
  a53 := Tryz.isAgg35
  z53 := Tryz.sizeOf35
  v53 := Tryz.zeroValue35
  t171 := Tryz.underlying113
  a171 := Tryz.isAgg113
  z171 := Tryz.sizeOf113
  v171 := Tryz.zeroValue113
  t173 := Tryz.underlying116
  a173 := Tryz.isAgg116
  z173 := Tryz.sizeOf116
  v173 := Tryz.zeroValue116
  t212 := Tryz.underlying157
  a212 := Tryz.isAgg157
  z212 := Tryz.sizeOf157
  v212 := Tryz.zeroValue157
  t213 := Tryz.underlying158
  a213 := Tryz.isAgg158
  z213 := Tryz.sizeOf158
  t232 := Tryz.underlying168
  a232 := Tryz.isAgg168
  z232 := Tryz.sizeOf168
  v232 := Tryz.zeroValue168
  t233 := Tryz.underlying169
  a233 := Tryz.isAgg169
  z233 := Tryz.sizeOf169
  v233 := Tryz.zeroValue169
  g17 := by kernel_rfl
  g18 := by kernel_rfl
  g19 := by kernel_rfl
  i0 := by kernel_rfl
  i2 := by kernel_rfl
  i3 := by kernel_rfl
  i4 := by kernel_rfl
  i5 := by kernel_rfl
  i9 := by kernel_rfl
  i20 := by kernel_rfl
  i37 := by kernel_rfl
  i46 := by kernel_rfl
  i51 := by kernel_rfl
  i53 := by kernel_rfl
  i171 := by kernel_rfl
  i173 := by kernel_rfl
  i212 := by kernel_rfl
  i232 := by kernel_rfl
  i233 := by kernel_rfl
  m17 := by kernel_rfl
  m18 := by kernel_rfl
  m19 := by kernel_rfl }
open Go.RowKit Go.Sort Go.Lib in
theorem sh_strconv_FormatInt_10 (n : Int) (h0 : -9223372036854775808 ≤ n) (h1 : n ≤ 9223372036854775807) (w : World) (htab : Lib.TabIs Tryz.prog w "internal/strconv.uint64pow10" .u64 Lib.pow10Tab) :
    Calls Tryz.prog 29 #[.int .i64 n, .int .i64 10] w fun e w' => e = .returned (.string ⟨(Lib.itoa n).toArray⟩) ∧ ∃ k os, w' = grow (w.drewN k) os := Any.strconv_FormatInt_10 sh_laysM173 n h0 h1 w htab
def sh_lays105_ren : Go.Shelf.Ren := ⟨fun | 105 => 37 | 212 => 64 | 99 => 61 | 165 => 62 | 166 => 28 | 170 => 65 | 169 => 30 | 263 => 96 | 264 => 97 | 206 => 94 | 240 => 48 | 241 => 95 | 276 => 78 | 277 => 119 | n => n, fun | 9 => 9 | 3 => 3 | 4 => 4 | 20 => 20 | 0 => 0 | 46 => 73 | 109 => 97 | 5 => 5 | 72 => 52 | 76 => 56 | 51 => 87 | 146 => 139 | 53 => 35 | 148 => 141 | 70 => 50 | 37 => 22 | 75 => 55 | 127 => 79 | 164 => 111 | 80 => 58 | n => n, fun | n => n⟩
theorem sh_lays105 : Go.Proofs.Lays.n105 Tryz.prog sh_lays105_ren := {
  mixed := by kernel_rfl
  f99 := Tryz.func61.trans (congrArg some (by kernel_rfl))
  f105 := Tryz.func37.trans (congrArg some (by kernel_rfl))
  f165 := Tryz.func62.trans (congrArg some (by kernel_rfl))
  f166 := Tryz.func28.trans (congrArg some (by kernel_rfl))
  f169 := Tryz.func30.trans (congrArg some (by kernel_rfl))
  f170 := Tryz.func65.trans (congrArg some (by kernel_rfl))
  f206 := Tryz.func94.trans (congrArg some (by kernel_rfl))
  f212 := Tryz.func64.trans (congrArg some (by kernel_rfl))
  f240 := Tryz.func48.trans (congrArg some (by kernel_rfl))
  f241 := Tryz.func95.trans (congrArg some (by kernel_rfl))
  f263 := Tryz.func96.trans (congrArg some (by kernel_rfl))
  f264 := Tryz.func97.trans (congrArg some (by kernel_rfl))
  f276 := Tryz.func78.trans (congrArg some (by kernel_rfl))
  f277 := Tryz.func119.trans (congrArg some (by kernel_rfl))
  t0 := Tryz.underlying0
  a0 := Tryz.isAgg0
  z0 := Tryz.sizeOf0
  v0 := Tryz.zeroValue0
  t3 := Tryz.underlying3
  a3 := Tryz.isAgg3
  z3 := Tryz.sizeOf3
  v3 := Tryz.zeroValue3
  t4 := Tryz.underlying4
  a4 := Tryz.isAgg4
  z4 := Tryz.sizeOf4
  v4 := Tryz.zeroValue4
  t5 := Tryz.underlying5
  a5 := Tryz.isAgg5
  z5 := Tryz.sizeOf5
  v5 := Tryz.zeroValue5
  t9 := Tryz.underlying9
  a9 := Tryz.isAgg9
  z9 := Tryz.sizeOf9
  v9 := Tryz.zeroValue9
  t20 := Tryz.underlying20
  a20 := Tryz.isAgg20
  z20 := Tryz.sizeOf20
  v20 := Tryz.zeroValue20
  t37 := Tryz.underlying22
  a37 := Tryz.isAgg22
  z37 := Tryz.sizeOf22
  v37 := Tryz.zeroValue22
  t46 := Tryz.underlying73
  a46 := Tryz.isAgg73
  z46 := Tryz.sizeOf73
  v46 := Tryz.zeroValue73
  t51 := Tryz.underlying87
  a51 := Tryz.isAgg87
  z51 := Tryz.sizeOf87
  v51 := Tryz.zeroValue87
  t53 := Tryz.underlying35
  a53 := Tryz.isAgg35
  z53 := Tryz.sizeOf35
  v53 := Tryz.zeroValue35
  t70 := Tryz.underlying50
  a70 := Tryz.isAgg50
  z70 := Tryz.sizeOf50
  v70 := Tryz.zeroValue50
  t72 := Tryz.underlying52
  a72 := Tryz.isAgg52
  z72 := Tryz.sizeOf52
  v72 := Tryz.zeroValue52
  t75 := Tryz.underlying55
  a75 := Tryz.isAgg55
  z75 := Tryz.sizeOf55
  v75 := Tryz.zeroValue55
  t76 := Tryz.underlying56
  a76 := Tryz.isAgg56
  z76 := Tryz.sizeOf56
  v76 := Tryz.zeroValue56
  t109 := Tryz.underlying97
  a109 := Tryz.isAgg97
  z109 := Tryz.sizeOf97
  v109 := Tryz.zeroValue97
  t127 := Tryz.underlying79
  a127 := Tryz.isAgg79
  z127 := Tryz.sizeOf79
  v127 := Tryz.zeroValue79
  t146 := Tryz.underlying139
  a146 := Tryz.isAgg139
  z146 := Tryz.sizeOf139
  v146 := Tryz.zeroValue139
  t148 := Tryz.underlying141
  a148 := Tryz.isAgg141
  z148 := Tryz.sizeOf141
  v148 := Tryz.zeroValue141
  t164 := Tryz.underlying111
  a164 := Tryz.isAgg111
  z164 := Tryz.sizeOf111
  v164 := Tryz.zeroValue111 }
theorem sh_Builder_Extra_105 : Builder.Extra Tryz.prog sh_lays105_ren := {
  sizeBuilder := by kernel_rfl
  liesBuilder := by kernel_rfl
  t5 := Tryz.underlying5
  a5 := Tryz.isAgg5
  z5 := Tryz.sizeOf5
  v5 := Tryz.zeroValue5
  infoByte := by kernel_rfl
  cellsByte := by kernel_rfl
  sizeByte := by kernel_rfl
  neB5 := by decide }
open Go.RowKit Go.Lib in
theorem sh_strings_Repeat (s : ByteArray) (c : Nat) (w : World) (hc : c ≤ 9223372036854775807) (hlen : s.size * c ≤ 140737488355328) :
    Calls Tryz.prog 37 #[.string s, .int .i64 c] w fun e w' => e = .returned (.string ⟨(Lib.repeatL s.data.toList c).toArray⟩) ∧ Below w.heap.size w w' := Any.strings_Repeat sh_lays105 sh_Builder_Extra_105 s c w hc hlen
theorem sh_lays240 : Go.Proofs.Lays.n240 Tryz.prog sh_lays156_ren := {
  mixed := sh_lays156.mixed
  f240 := sh_lays156.f240
  f276 := sh_lays156.f276
  t0 := sh_lays156.t0
  a0 := sh_lays156.a0
  z0 := sh_lays156.z0
  v0 := sh_lays156.v0
  t4 := sh_lays156.t4
  a4 := sh_lays156.a4
  z4 := sh_lays156.z4
  v4 := sh_lays156.v4
  t9 := sh_lays156.t9
  a9 := sh_lays156.a9
  z9 := sh_lays156.z9
  v9 := sh_lays156.v9
  t20 := sh_lays156.t20
  a20 := sh_lays156.a20
  z20 := sh_lays156.z20
  v20 := sh_lays156.v20
  t70 := sh_lays156.t70
  a70 := sh_lays156.a70
  z70 := sh_lays156.z70
  v70 := sh_lays156.v70
  t72 := sh_lays156.t72
  a72 := sh_lays156.a72
  z72 := sh_lays156.z72
  v72 := sh_lays156.v72
  t164 := sh_lays156.t164
  a164 := sh_lays156.a164
  z164 := sh_lays156.z164
  v164 := sh_lays156.v164 }
end Go.Proofs.YtljdahepmmgfeaaGreatDoor
namespace Go.Proofs.YtljdahepmmgfeaaGreatDoor
open Go Go.RowKit
theorem ext_below {w w' : World} (h : Below w.heap.size w w') : Ext (fun _ => False) w w' :=
  ⟨h.os, h.tape, h.output, h.size, fun b hb _ => h.block b hb, fun b s hs => by
    have hb : b < w.heap.size := by
      unfold World.shape? at hs
      split at hs
      · rename_i e; exact (Array.getElem?_eq_some_iff.1 e).1
      · cases hs
    unfold World.shape? at hs ⊢
    rw [h.block b hb]; exact hs⟩
theorem below_grown (w : World) (k : Nat) (os : Array Obj) : Below w.heap.size w (Go.Sort.grow (w.drewN k) os) := by
  refine ⟨rfl, ?_, rfl, ?_, fun b hb => ?_⟩
  · simp [Go.Sort.grow]
  · simp [Go.Sort.grow]
  · exact Go.Sort.heap_grow_old (w.drewN k) os hb
theorem tab_pow10 {w : World} {O : Nat → Prop} (h : GL w O) : Lib.TabIs Tryz.prog w "internal/strconv.uint64pow10" .u64 Lib.pow10Tab := by
  obtain ⟨_, _, ty, fr, e⟩ := h _ List.mem_cons_self
  unfold Lib.TabIs World.var?
  rw [show Tryz.prog.globalNamed "internal/strconv.uint64pow10" = some 0 by kernel_rfl]
  simp only [Option.bind_some]
  rw [e]
  rfl
abbrev itoaS : PSpec := fun l => match l with | [.int .i64 x] => some ([-9223372036854775808 ≤ x, x ≤ 9223372036854775807], .str (Lib.itoa x)) | _ => none
theorem itoa_s : SOK Tryz.prog 17 itoaS := by
  refine ⟨⟨_, Tryz.func17, by kernel_rfl, by kernel_rfl⟩, fun l obs v h ho w O cl hf hc => ?_⟩
  (unfold itoaS at h; split at h; rotate_left; (focus (cases h)); rename_i x; simp only [Option.some.injEq, Prod.mk.injEq] at h; obtain ⟨rfl, rfl⟩ := h; simp only [List.mem_cons, List.not_mem_nil, or_false, forall_eq_or_imp, forall_eq, false_implies, implies_true] at ho)
  obtain ⟨h0, h1⟩ := ho
  obtain ⟨hl, hr⟩ := hc
  match cl, hl with
  | [c], _ =>
    have hc := hr 0 _ _ rfl rfl
    cases hc
    refine (sh_strconv_Itoa x h0 h1 w (tab_pow10 hf.2)).mono fun en w' ⟨he, k, os, hw⟩ => ?_
    subst hw
    exact ⟨_, he, ext_below (below_grown w k os), .str _⟩
end Go.Proofs.YtljdahepmmgfeaaGreatDoor
namespace Go.Proofs.YtljdahepmmgfeaaGreatDoor
open Go Go.RowKit
abbrev repeatS : PSpec := fun l => match l with | [.str s, .int .i64 c] => some ([0 ≤ c, c ≤ 100000, s.length ≤ 100000], .str (Lib.repeatL s c.toNat)) | _ => none
theorem repeat_s : SOK Tryz.prog 37 repeatS := by
  refine ⟨⟨_, Tryz.func37, by kernel_rfl, by kernel_rfl⟩, fun l obs v h ho w O cl hf hc => ?_⟩
  (unfold repeatS at h; split at h; rotate_left; (focus (cases h)); rename_i s c; simp only [Option.some.injEq, Prod.mk.injEq] at h; obtain ⟨rfl, rfl⟩ := h; simp only [List.mem_cons, List.not_mem_nil, or_false, forall_eq_or_imp, forall_eq, false_implies, implies_true] at ho)
  obtain ⟨h0, h1, h2⟩ := ho
  obtain ⟨n, rfl⟩ := Int.eq_ofNat_of_zero_le h0
  obtain ⟨hl, hr⟩ := hc
  match cl, hl with
  | [c1, c2], _ =>
    have r1 := hr 0 _ _ rfl rfl
    have r2 := hr 1 _ _ rfl rfl
    cases r1
    cases r2
    have hsz : (⟨s.toArray⟩ : ByteArray).size = s.length := by simp [ByteArray.size]
    have hm : s.length * n ≤ 100000 * 100000 := Nat.mul_le_mul h2 (by omega)
    refine (sh_strings_Repeat ⟨s.toArray⟩ n w (by omega) (by rw [hsz]; omega)).mono fun en w' ⟨he, hw⟩ => ?_
    exact ⟨_, he, ext_below hw, .str _⟩
theorem rep0 : ∀ n : Nat, Lib.repeatL [48] n = List.replicate n 48
  | 0 => rfl
  | n + 1 => by show [48] ++ Lib.repeatL [48] n = _; rw [rep0 n]; rfl
end Go.Proofs.YtljdahepmmgfeaaGreatDoor
namespace Go.Proofs.YtljdahepmmgfeaaGreatDoor
open Go Go.RowKit
abbrev ipowS : PSpec := fun l => match l with | [.int .i64 x] => some ([x = 16], .bool true) | _ => none
theorem ipow_s : SOK Tryz.prog 114 ipowS := by
  refine sok_of (C := mkC 0 [] noG) (mkC_ok pok_nil noG_ok) rfl mixed ⟨Tryz.func114, by kernel_rfl, by kernel_rfl, by kernel_rfl⟩ fun l obs v h ho => ?_
  (unfold ipowS at h; split at h; rotate_left; (focus (cases h)); rename_i x; simp only [Option.some.injEq, Prod.mk.injEq] at h; obtain ⟨rfl, rfl⟩ := h; simp only [List.mem_cons, List.not_mem_nil, or_false, forall_eq_or_imp, forall_eq, false_implies, implies_true] at ho)
  subst ho
  refine ⟨Nat.le_of_ble_eq_true rfl, ?_⟩
  (repeat' (first | (refine xI (fun hfk => ?_) (fun hfk => ?_) <;> ((try (first | replace hfk := oT hfk | replace hfk := oF hfk | simp only [oD, ne_eq, reduceCtorEq] at hfk)); (try exact oX))) | refine And.intro oZ ?_ | exact True.intro | (show _ = _; first | exact oY | exact rfl) | exact oW | (apply And.intro)))
theorem tz_s : SOK Tryz.prog 115 tzS := by
  refine sok_of (C := mkC 0 [(124, tzS)] noG) (mkC_ok (pok_cons tz64_s pok_nil) noG_ok) rfl mixed ⟨Tryz.func115, by kernel_rfl, by kernel_rfl, by kernel_rfl⟩ fun l obs v h ho => ?_
  (unfold tzS at h; split at h; rotate_left; (focus (cases h)); rename_i x; simp only [Option.some.injEq, Prod.mk.injEq] at h; obtain ⟨rfl, rfl⟩ := h; simp only [List.mem_cons, List.not_mem_nil, or_false, forall_eq_or_imp, forall_eq, false_implies, implies_true] at ho)
  subst ho
  refine ⟨Nat.le_of_ble_eq_true rfl, ?_⟩
  (repeat' (first | (refine xI (fun hfk => ?_) (fun hfk => ?_) <;> ((try (first | replace hfk := oT hfk | replace hfk := oF hfk | simp only [oD, ne_eq, reduceCtorEq] at hfk)); (try exact oX))) | refine And.intro oZ ?_ | exact True.intro | (show _ = _; first | exact oY | exact rfl) | exact oW | (apply And.intro)))
theorem dig_at {d : Nat} (h : d < 16) : (([48, 49, 50, 51, 52, 53, 54, 55, 56, 57, 97, 98, 99, 100, 101, 102, 103, 104, 105, 106, 107, 108, 109, 110, 111, 112, 113, 114, 115, 116, 117, 118, 119, 120, 121, 122] : List UInt8).getD d 0) = hxc d := by
  have : d = 0 ∨ d = 1 ∨ d = 2 ∨ d = 3 ∨ d = 4 ∨ d = 5 ∨ d = 6 ∨ d = 7 ∨ d = 8 ∨ d = 9 ∨ d = 10 ∨ d = 11 ∨ d = 12 ∨ d = 13 ∨ d = 14 ∨ d = 15 := by omega
  rcases this with rfl | rfl | rfl | rfl | rfl | rfl | rfl | rfl | rfl | rfl | rfl | rfl | rfl | rfl | rfl | rfl <;> rfl
structure FxI (x : Nat) (k u : Nat) (A : List Int) : Prop where
  k_ : k ≤ 15
  len : A.length = 65
  u_ : u < 16 ^ (16 - k)
  eq : ∃ t : List UInt8, A.drop (65 - k) = (t.map fun c : UInt8 => (c.toNat : Int)) ∧ t.length = k ∧ hexF (16 - k) u ++ t = hexF 16 x
theorem fx_0 {x : Nat} (hu : U64 (x : Int)) : FxI x 0 x (List.replicate 65 0) := by
  have p16 : 16 ^ (16 - 0) = 18446744073709551616 := rfl
  have := hu.hi
  exact ⟨by omega, rfl, by omega, [], rfl, rfl, List.append_nil _⟩
theorem fx_lt {x k u : Nat} {A : List Int} (h : FxI x k u A) : u < 18446744073709551616 := by
  have h1 := h.u_
  have h2 : 16 ^ (16 - k) ≤ 16 ^ 16 := Nat.pow_le_pow_right (by decide) (by omega)
  have : (16 : Nat) ^ 16 = 18446744073709551616 := rfl
  omega
theorem hexF_big {n u : Nat} (h : ¬ u < 16) : hexF (n + 1) u = hexF n (u / 16) ++ [hxc (u % 16)] := if_neg h
theorem hexF_small {n u : Nat} (h : u < 16) : hexF (n + 1) u = [hxc u] := if_pos h
theorem set_drop0 {A : List Int} {j : Nat} (h : j < A.length) (v : Int) : (A.set j v).drop j = v :: A.drop (j + 1) := by
  rw [List.set_eq_take_append_cons_drop, if_pos h, List.drop_append, List.length_take, List.drop_of_length_le (by rw [List.length_take]; omega), show j - min j A.length = 0 by omega]
  rfl
theorem fx_next {x k u : Nat} {A : List Int} (h : FxI x k u A) (hu : ¬ u < 16) : FxI x (k + 1) (u / 16) (A.set (64 - k) ((hxc (u % 16)).toNat : Int)) := by
  obtain ⟨k1, l1, u1, t, t1, t2, t3⟩ := h
  obtain ⟨n, hn⟩ : ∃ n, 16 - k = n + 1 := ⟨15 - k, by omega⟩
  have n0 : n ≠ 0 := fun z => by rw [hn, z] at u1; omega
  rw [hn] at u1 t3
  rw [hexF_big hu] at t3
  refine ⟨by omega, by rw [List.length_set]; exact l1, by rw [show 16 - (k + 1) = n by omega]; rw [Nat.pow_succ] at u1; omega, hxc (u % 16) :: t, ?_, by rw [List.length_cons, t2], ?_⟩
  · rw [show 65 - (k + 1) = 64 - k by omega, set_drop0 (by omega), show 64 - k + 1 = 65 - k by omega, t1]; rfl
  · rw [show 16 - (k + 1) = n by omega, ← t3, List.append_assoc]; rfl
theorem fx_end {x k u : Nat} {A : List Int} (h : FxI x k u A) (hu : u < 16) : ((A.set (64 - k) ((hxc u).toNat : Int)).drop (64 - k)).map (fun n => UInt8.ofNat n.toNat) = hexF 16 x := by
  obtain ⟨k1, l1, u1, t, t1, t2, t3⟩ := h
  obtain ⟨n, hn⟩ : ∃ n, 16 - k = n + 1 := ⟨15 - k, by omega⟩
  rw [hn, hexF_small hu] at t3
  rw [set_drop0 (by omega), show 64 - k + 1 = 65 - k by omega, t1, ← t3, List.map_cons, List.map_map]
  have e : ∀ c : UInt8, UInt8.ofNat ((c.toNat : Int)).toNat = c := fun c => by rw [Int.toNat_natCast]; exact UInt8.ofNat_toNat
  have e2 : ((fun n : Int => UInt8.ofNat n.toNat) ∘ fun c : UInt8 => (c.toNat : Int)) = id := by funext c; exact e c
  rw [e2, List.map_id, e]; rfl
theorem and15 {u : Nat} (h : u < 18446744073709551616) : IntKind.u64.wrap (((BitVec.ofInt 64 (u : Int) &&& BitVec.ofInt 64 15).toNat : Nat) : Int) = ((u % 16 : Nat) : Int) := by
  have e1 : BitVec.ofInt 64 (u : Int) = BitVec.ofNat 64 u := by
    apply BitVec.eq_of_toNat_eq
    rw [BitVec.toNat_ofInt, BitVec.toNat_ofNat]
    omega
  have e2 : (BitVec.ofInt 64 (u : Int) &&& BitVec.ofInt 64 15).toNat = u % 16 := by
    rw [e1, BitVec.toNat_and, BitVec.toNat_ofNat, Nat.mod_eq_of_lt h, show (BitVec.ofInt 64 15).toNat = 2 ^ 4 - 1 from rfl, Nat.and_two_pow_sub_one_eq_mod]
  rw [e2]
  exact wrap_rng ⟨by show (0 : Int) ≤ _; omega, by show _ ≤ (18446744073709551615 : Int); omega⟩
theorem shr4 {u : Nat} : ((u : Int)).fdiv (2 ^ min (Int.toNat 4) IntKind.u64.bits) = ((u / 16 : Nat) : Int) := by
  rw [show (2 : Int) ^ min (Int.toNat 4) IntKind.u64.bits = 16 from rfl, Int.fdiv_eq_ediv_of_nonneg _ (by decide)]; rfl
abbrev fbitS : PSpec := fun l => match l with | [.nils, .int .u64 u, .int .i64 b, .fls, .fls] => some ([b = 16, U64 u], .tup [.nils, .str (hexF 16 u.toNat)]) | _ => none
theorem fbit_s : SOK Tryz.prog 82 fbitS := by
  refine sok_of (C := mkC 0 [(114, ipowS), (115, tzS)] noG) (mkC_ok (pok_cons ipow_s (pok_cons tz_s pok_nil)) noG_ok) rfl mixed ⟨Tryz.func82, by kernel_rfl, by kernel_rfl, by kernel_rfl⟩ fun l obs v h ho => ?_
  (unfold fbitS at h; split at h; rotate_left; (focus (cases h)); rename_i u b; simp only [Option.some.injEq, Prod.mk.injEq] at h; obtain ⟨rfl, rfl⟩ := h; simp only [List.mem_cons, List.not_mem_nil, or_false, forall_eq_or_imp, forall_eq, false_implies, implies_true] at ho)
  obtain ⟨rfl, hu⟩ := ho
  obtain ⟨x, rfl⟩ := Int.eq_ofNat_of_zero_le hu.lo
  rw [Int.toNat_natCast]
  refine ⟨Nat.le_of_ble_eq_true rfl, ?_⟩
  (repeat' (first | (refine xI (fun hfk => ?_) (fun hfk => ?_) <;> ((try (first | replace hfk := oT hfk | replace hfk := oF hfk | simp only [oD, ne_eq, reduceCtorEq] at hfk)); (try exact oX))) | refine And.intro oZ ?_ | exact True.intro | (show _ = _; first | exact oY | exact rfl) | exact oW | (apply And.intro)))
  have f0 : FxI x 0 x (List.replicate 65 0) := fx_0 hu
  refine ⟨Nat × Nat × List Int, fun g => [(0, .nils), (1, .int .u64 (g.2.1 : Int)), (3, .fls), (4, .fls), (10, .nils), (11, .str []), (12, .ptr 0 0), (13, .int .i64 (65 - (g.1 : Int))), (14, .int .u64 4), (15, .int .u64 16), (16, .int .u64 15)],
    fun g => ⟨1, [(0, some (.ints 158 .u8 g.2.2))]⟩,
    fun g => FxI x g.1 g.2.1 g.2.2, fun g => g.2.1, ⟨(0, x, List.replicate 65 0), [some 0], f0, ?_⟩, fun g hg => ?_⟩
  · (repeat' (first | (refine And.intro ?_ ?_) | exact True.intro | (show _ = _; with_reducible rfl) | exact Chk.mk (by kernel_rfl)))
    all_goals rfl
  obtain ⟨k, u, A⟩ := g
  have hg : FxI x k u A := hg
  have k15 := hg.k_
  have lA := hg.len
  dsimp only
  have ri : rngI .i64 (65 - (k : Int) - 1) := rng64 (by omega) (by omega)
  have et : (65 - (k : Int) - 1).toNat = 64 - k := by omega
  by_cases hlt : u < 16
  · have fe := fx_end hg hlt
    have dg : (ByteArray.mk #[48, 49, 50, 51, 52, 53, 54, 55, 56, 57, 97, 98, 99, 100, 101, 102, 103, 104, 105, 106, 107, 108, 109, 110, 111, 112, 113, 114, 115, 116, 117, 118, 119, 120, 121, 122]).data.toList.getD u 0 = hxc u := dig_at hlt
    have es : A.set (0 + (65 - (k : Int) - 1).toNat * 1) (((ByteArray.mk #[48, 49, 50, 51, 52, 53, 54, 55, 56, 57, 97, 98, 99, 100, 101, 102, 103, 104, 105, 106, 107, 108, 109, 110, 111, 112, 113, 114, 115, 116, 117, 118, 119, 120, 121, 122]).data.toList.getD (u : Int).toNat 0).toNat : Int) = A.set (64 - k) ((hxc u).toNat : Int) := by
      rw [et, Int.toNat_natCast, dg, Nat.zero_add, Nat.mul_one]
    have fe' : List.map (fun n => UInt8.ofNat n.toNat) (List.take (65 - (65 - (k : Int) - 1).toNat) (List.drop (65 - (k : Int) - 1).toNat (A.set (0 + (65 - (k : Int) - 1).toNat * 1) (((ByteArray.mk #[48, 49, 50, 51, 52, 53, 54, 55, 56, 57, 97, 98, 99, 100, 101, 102, 103, 104, 105, 106, 107, 108, 109, 110, 111, 112, 113, 114, 115, 116, 117, 118, 119, 120, 121, 122]).data.toList.getD (u : Int).toNat 0).toNat : Int)))) = hexF 16 x := by
      rw [es, et, List.take_of_length_le (by rw [List.length_drop, List.length_set]; omega)]
      exact fe
    have lD : (ByteArray.mk #[48, 49, 50, 51, 52, 53, 54, 55, 56, 57, 97, 98, 99, 100, 101, 102, 103, 104, 105, 106, 107, 108, 109, 110, 111, 112, 113, 114, 115, 116, 117, 118, 119, 120, 121, 122]).data.toList.length = 36 := rfl
    clear es dg
    (repeat' (first | (refine xI (fun hfk => ?_) (fun hfk => ?_) <;> ((try (first | replace hfk := oT hfk | replace hfk := oF hfk | simp only [oD, ne_eq, reduceCtorEq] at hfk)); (try exact oX))) | refine And.intro oZ ?_ | exact True.intro | (show _ = _; first | exact oY | (exact fe'; done) | exact rfl) | exact oW | (apply And.intro)))
  · have fn := fx_next hg hlt
    have a15 := and15 (fx_lt hg)
    have a15' : (IntKind.u64.wrap (((BitVec.ofInt IntKind.u64.bits (u : Int) &&& BitVec.ofInt IntKind.u64.bits 15).toNat : Nat) : Int)) = ((u % 16 : Nat) : Int) := a15
    have s4 := shr4 (u := u)
    have dg : (ByteArray.mk #[48, 49, 50, 51, 52, 53, 54, 55, 56, 57, 97, 98, 99, 100, 101, 102, 103, 104, 105, 106, 107, 108, 109, 110, 111, 112, 113, 114, 115, 116, 117, 118, 119, 120, 121, 122]).data.toList.getD (u % 16) 0 = hxc (u % 16) := dig_at (Nat.mod_lt u (show 16 > 0 by decide))
    have lD : (ByteArray.mk #[48, 49, 50, 51, 52, 53, 54, 55, 56, 57, 97, 98, 99, 100, 101, 102, 103, 104, 105, 106, 107, 108, 109, 110, 111, 112, 113, 114, 115, 116, 117, 118, 119, 120, 121, 122]).data.toList.length = 36 := rfl
    have b0 : 0 ≤ (IntKind.u64.wrap (((BitVec.ofInt IntKind.u64.bits (u : Int) &&& BitVec.ofInt IntKind.u64.bits 15).toNat : Nat) : Int)) := by rw [a15']; omega
    have b1 : (IntKind.u64.wrap (((BitVec.ofInt IntKind.u64.bits (u : Int) &&& BitVec.ofInt IntKind.u64.bits 15).toNat : Nat) : Int)) < ((ByteArray.mk #[48, 49, 50, 51, 52, 53, 54, 55, 56, 57, 97, 98, 99, 100, 101, 102, 103, 104, 105, 106, 107, 108, 109, 110, 111, 112, 113, 114, 115, 116, 117, 118, 119, 120, 121, 122]).data.toList.length : Int) := by rw [a15', lD]; omega
    have es : A.set (0 + (65 - (k : Int) - 1).toNat * 1) (((ByteArray.mk #[48, 49, 50, 51, 52, 53, 54, 55, 56, 57, 97, 98, 99, 100, 101, 102, 103, 104, 105, 106, 107, 108, 109, 110, 111, 112, 113, 114, 115, 116, 117, 118, 119, 120, 121, 122]).data.toList.getD (IntKind.u64.wrap (((BitVec.ofInt IntKind.u64.bits (u : Int) &&& BitVec.ofInt IntKind.u64.bits 15).toNat : Nat) : Int)).toNat 0).toNat : Int) = A.set (64 - k) ((hxc (u % 16)).toNat : Int) := by
      rw [et, a15', Int.toNat_natCast, dg, Nat.zero_add, Nat.mul_one]
    clear dg a15 a15'
    (repeat' (first | (refine xI (fun hfk => ?_) (fun hfk => ?_) <;> ((try (first | replace hfk := oT hfk | replace hfk := oF hfk | simp only [oD, ne_eq, reduceCtorEq] at hfk)); (try exact oX))) | refine And.intro oZ ?_ | exact True.intro | (show _ = _; first | exact oY | (first | exact b0 | exact b1; done) | exact rfl) | exact oW | (apply And.intro)))
    refine ⟨(k + 1, u / 16, A.set (64 - k) ((hxc (u % 16)).toNat : Int)), [some 0], fn, ?mu, ?_⟩
    case mu => (show u / 16 < u; omega)
    (repeat' (first | (refine And.intro ?_ ?_) | exact True.intro | (show _ = _; with_reducible rfl) | exact Chk.mk (by kernel_rfl)))
    all_goals first | rfl | exact s4 | exact es | (show (_ : Int) = _; omega)
abbrev fuS : PSpec := fun l => match l with | [.int .u64 u, .int .i64 b] => some ([b = 16, U64 u], .str (hexF 16 u.toNat)) | _ => none
theorem fuI_s : SOK Tryz.prog 63 fuS := by
  refine sok_of (C := mkC 0 [(82, fbitS)] noG) (mkC_ok (pok_cons fbit_s pok_nil) noG_ok) rfl mixed ⟨Tryz.func63, by kernel_rfl, by kernel_rfl, by kernel_rfl⟩ fun l obs v h ho => ?_
  (unfold fuS at h; split at h; rotate_left; (focus (cases h)); rename_i u b; simp only [Option.some.injEq, Prod.mk.injEq] at h; obtain ⟨rfl, rfl⟩ := h; simp only [List.mem_cons, List.not_mem_nil, or_false, forall_eq_or_imp, forall_eq, false_implies, implies_true] at ho)
  obtain ⟨rfl, hu⟩ := ho
  refine ⟨Nat.le_of_ble_eq_true rfl, ?_⟩
  (repeat' (first | (refine xI (fun hfk => ?_) (fun hfk => ?_) <;> ((try (first | replace hfk := oT hfk | replace hfk := oF hfk | simp only [oD, ne_eq, reduceCtorEq] at hfk)); (try exact oX))) | refine And.intro oZ ?_ | exact True.intro | (show _ = _; first | exact oY | (first | exact hu | rfl; done) | exact rfl) | exact oW | (apply And.intro)))
theorem fu_s : SOK Tryz.prog 36 fuS := by
  refine sok_of (C := mkC 0 [(63, fuS)] noG) (mkC_ok (pok_cons fuI_s pok_nil) noG_ok) rfl mixed ⟨Tryz.func36, by kernel_rfl, by kernel_rfl, by kernel_rfl⟩ fun l obs v h ho => ?_
  (unfold fuS at h; split at h; rotate_left; (focus (cases h)); rename_i u b; simp only [Option.some.injEq, Prod.mk.injEq] at h; obtain ⟨rfl, rfl⟩ := h; simp only [List.mem_cons, List.not_mem_nil, or_false, forall_eq_or_imp, forall_eq, false_implies, implies_true] at ho)
  obtain ⟨rfl, hu⟩ := ho
  refine ⟨Nat.le_of_ble_eq_true rfl, ?_⟩
  (repeat' (first | (refine xI (fun hfk => ?_) (fun hfk => ?_) <;> ((try (first | replace hfk := oT hfk | replace hfk := oF hfk | simp only [oD, ne_eq, reduceCtorEq] at hfk)); (try exact oX))) | refine And.intro oZ ?_ | exact True.intro | (show _ = _; first | exact oY | (first | exact hu | rfl; done) | exact rfl) | exact oW | (apply And.intro)))
theorem hex_bd {u : Int} (h : U64 u) : u.toNat < 16 ^ 16 := by
  have := h.lo
  have := h.hi
  have : 16 ^ 16 = 18446744073709551616 := rfl
  omega
abbrev hexS : PSpec := fun l => match l with | [.int .u64 u] => some ([U64 u], .str (hxN 16 u.toNat)) | _ => none
theorem hex_s : SOK Tryz.prog 18 hexS := by
  refine sok_of (C := mkC 0 [(36, fuS), (37, repeatS)] noG) (mkC_ok (pok_cons fu_s (pok_cons repeat_s pok_nil)) noG_ok) rfl mixed ⟨Tryz.func18, by kernel_rfl, by kernel_rfl, by kernel_rfl⟩ fun l obs v h ho => ?_
  (unfold hexS at h; split at h; rotate_left; (focus (cases h)); rename_i u; simp only [Option.some.injEq, Prod.mk.injEq] at h; obtain ⟨rfl, rfl⟩ := h; simp only [List.mem_cons, List.not_mem_nil, or_false, forall_eq_or_imp, forall_eq, false_implies, implies_true] at ho)
  refine ⟨Nat.le_of_ble_eq_true rfl, ?_⟩
  have hb : u.toNat < 16 ^ 16 := hex_bd ho
  have l1 := hexF_le 16 u.toNat
  have er : Lib.repeatL (ByteArray.mk #[48]).data.toList ((16 : Int) - ((hexF 16 u.toNat).length : Int)).toNat = List.replicate (16 - (hexF 16 u.toNat).length) 48 := by
    have : ((16 : Int) - ((hexF 16 u.toNat).length : Int)).toNat = 16 - (hexF 16 u.toNat).length := by omega
    rw [this]
    exact rep0 _
  have e1 : Lib.repeatL (ByteArray.mk #[48]).data.toList ((16 : Int) - ((hexF 16 u.toNat).length : Int)).toNat ++ hexF 16 u.toNat = hxN 16 u.toNat := by
    rw [er]
    exact hex_pad hb
  have r1 : rngI .i64 ((16 : Int) - ((hexF 16 u.toNat).length : Int)) := rng64 (by omega) (by omega)
  have r2 : 0 ≤ (16 : Int) - ((hexF 16 u.toNat).length : Int) := by omega
  have r3 : (((Lib.repeatL (ByteArray.mk #[48]).data.toList ((16 : Int) - ((hexF 16 u.toNat).length : Int)).toNat).length + (hexF 16 u.toNat).length : Nat) : Int) ≤ IntKind.i64.max := by
    rw [er, List.length_replicate]
    show _ ≤ (9223372036854775807 : Int)
    omega
  clear er hb
  (repeat' (first | (refine xI (fun hfk => ?_) (fun hfk => ?_) <;> ((try (first | replace hfk := oT hfk | replace hfk := oF hfk | simp only [oD, ne_eq, reduceCtorEq] at hfk)); (try exact oX))) | refine And.intro oZ ?_ | exact True.intro | (show _ = _; first | exact oY | (first | exact ho | exact r1 | exact r2 | exact r3 | exact e1 | rfl; done) | exact rfl) | exact oW | (apply And.intro)))
end Go.Proofs.YtljdahepmmgfeaaGreatDoor
namespace Go.Proofs.YtljdahepmmgfeaaGreatDoor
open Go Go.RowKit
theorem nD_le : ∀ (k u : Nat), u < 10 ^ (k + 1) → Lib.nDigits u ≤ k + 1
  | 0, u, h => by rw [Lib.nDigits_small (by simpa using h)]; exact Nat.le_refl _
  | k + 1, u, h => by
    by_cases h1 : u < 10
    · rw [Lib.nDigits_small h1]; omega
    · rw [Lib.nDigits_big h1]
      have := nD_le k (u / 10) (by rw [Nat.div_lt_iff_lt_mul (by decide)]; rw [Nat.pow_succ] at h; exact h)
      omega
theorem nD_pos (u : Nat) : 1 ≤ Lib.nDigits u := by
  by_cases h1 : u < 10
  · rw [Lib.nDigits_small h1]; exact Nat.le_refl _
  · rw [Lib.nDigits_big h1]; omega
end Go.Proofs.YtljdahepmmgfeaaGreatDoor
namespace Go.Proofs.YtljdahepmmgfeaaGreatDoor
open Go Go.RowKit
theorem itoa_len {x : Int} (h0 : -9223372036854775808 ≤ x) (h1 : x ≤ 9223372036854775807) : (Lib.itoa x).length ≤ 20 := by
  have key : ∀ u : Nat, u < 10 ^ 19 → (Lib.decDigits u).length ≤ 19 := fun u hu => by rw [Lib.decDigits_length]; exact nD_le 18 u hu
  unfold Lib.itoa
  split
  · have := key x.natAbs (by omega)
    rw [List.length_cons]; omega
  · have := key x.toNat (by omega)
    omega
theorem len_i64 {n : Nat} (h : n ≤ 1000) : ((n : Nat) : Int) ≤ IntKind.i64.max := by
  show (n : Int) ≤ 9223372036854775807
  omega
end Go.Proofs.YtljdahepmmgfeaaGreatDoor
namespace Go.Proofs.YtljdahepmmgfeaaGreatDoor
open Go Go.RowKit
theorem dec_step {n : Nat} (h : 0 < n) (s : List UInt8) : (if n < 10 then [] else Lib.decDigits (n / 10)) ++ (UInt8.ofNat (48 + n % 10) :: s) = Lib.decDigits n ++ s := by
  by_cases k : n < 10
  · rw [if_pos k, Lib.decDigits_one k, Nat.mod_eq_of_lt k]; rfl
  · rw [if_neg k]
    conv => rhs; rw [Lib.decDigits, dif_neg k]
    simp
structure TxI (N n : Nat) (s : List UInt8) : Prop where
  le : n ≤ N
  pos : 0 < n → Lib.decDigits n ++ s = Lib.decDigits N
  nil : n = 0 → s = if N = 0 then [] else Lib.decDigits N
theorem tx_0 (N : Nat) : TxI N N [] := ⟨Nat.le_refl _, fun _ => List.append_nil _, fun h => by rw [h]; rfl⟩
theorem tx_next {N n : Nat} {s : List UInt8} (h : TxI N n s) (hn : 0 < n) : TxI N (n / 10) (UInt8.ofNat (48 + n % 10) :: s) := by
  have hN := h.le
  have hp := h.pos hn
  rw [← dec_step hn] at hp
  refine ⟨by omega, fun k => ?_, fun k => ?_⟩
  · rw [if_neg (by omega)] at hp; exact hp
  · rw [if_pos (by omega)] at hp; rw [if_neg (by omega)]; exact hp
theorem tx_len {N n : Nat} {s : List UInt8} (h : TxI N n s) (hN : N < 10 ^ 20) : s.length ≤ 20 := by
  have hl : (Lib.decDigits N).length ≤ 20 := by rw [Lib.decDigits_length]; exact nD_le 19 N hN
  by_cases k : n = 0
  · rw [h.nil k]; split
    · exact Nat.zero_le _
    · exact hl
  · rw [← h.pos (by omega), List.length_append] at hl; omega
structure TxOK (d : List Int) : Prop where
  lt : valD d < 18446744073709551616
theorem len_i64' {n : Nat} (h : n ≤ 1000) : ((n : Nat) : Int) ≤ IntKind.i64.max := by
  show (n : Int) ≤ 9223372036854775807
  omega
theorem Bg_nat {n : Nat} (h : n < 37778931862957161709568) : Bg false (dgs n) :=
  ⟨Dig_dgs _, by rw [valD_dgs, Int.toNat_natCast], ⟨by
    have := dgs_len (k := 5) (n := n) (by have : (32768 : Nat) ^ 5 = 37778931862957161709568 := rfl
                                          omega)
    omega⟩, fun k => by cases k⟩
theorem Bg10 : Bg (decide ((10 : Int) < 0)) (dgs (Int.natAbs 10)) := Bg_i64 (by omega) (by omega)
theorem val10 : valD (dgs (Int.natAbs 10)) = 10 := by rw [valD_dgs]; rfl
theorem bzv10 : bzv (decide ((10 : Int) < 0)) (dgs (Int.natAbs 10)) = 10 := bzv_big 10
def txV (s : Bool) (d : List Int) : List UInt8 := Lib.itoa (bzv s d)
abbrev textS : PSpec := gB1 (fun s d => [Bg s d, TxOK d]) fun s d => .str (txV s d)
theorem text_s : SOK Tryz.prog 45 textS := by
  refine sok_of (C := mkT 0 [(46, ofS), (73, fun l => floorOneS (l.map fzA)), (76, fun l => mulS (l.map fzA)), (75, fun l => subS (l.map fzA)), (74, unsignedS)] noG [] [] [2, 4, 5])
    (mkT_ok (pok_cons of_s (pok_cons (sok_fz floorOne_s) (pok_cons (sok_fz mul_s) (pok_cons (sok_fz sub_s) (pok_cons unsigned_s pok_nil))))) noG_ok dl_nil) rfl mixed ⟨Tryz.func45, by kernel_rfl, by kernel_rfl, by kernel_rfl⟩ fun l obs v h ho => ?_
  unfold textS at h
  (unfold gB1 at h; split at h; rotate_left; (focus (cases h)); rename_i sg d; simp only [Option.some.injEq, Prod.mk.injEq] at h; obtain ⟨rfl, rfl⟩ := h; simp only [List.mem_cons, List.not_mem_nil, or_false, forall_eq_or_imp, forall_eq, false_implies, implies_true] at ho)
  obtain ⟨b1, hok⟩ := ho
  have hlt := hok.lt
  have n1 := valD_nn b1.dig
  obtain ⟨N, hN⟩ : ∃ N : Nat, valD d = N := ⟨(valD d).toNat, by omega⟩
  have hd : d = dgs N := by rw [b1.dg, hN, Int.toNat_natCast]
  refine ⟨Nat.le_of_ble_eq_true rfl, ?_⟩
  (repeat' (first | (refine xI (fun hfk => ?_) (fun hfk => ?_) <;> ((try (first | replace hfk := oT hfk | replace hfk := oF hfk | simp only [oD, ne_eq, reduceCtorEq] at hfk)); (try exact oX))) | refine And.intro oZ ?_ | exact True.intro | (show _ = _; first | exact oY | exact rfl) | exact oW | (apply And.intro)))
  refine ⟨[(1, .ptr 0 0), (2, .str []), (3, .str []), (4, .ptr 1 0)],
    ⟨2, [(0, some (.cells 76 [.bool sg, .roi .i64 d])), (1, some (.cells 76 [.bool false, .roi .i64 (dgs N)]))]⟩, [some 0, some 1], ?_, ?_⟩
  · (repeat' (first | (refine And.intro ?_ ?_) | exact True.intro | (show _ = _; with_reducible rfl) | exact Chk.mk (by kernel_rfl)))
    all_goals first | exact hd | rfl
  (repeat' (first | (refine xI (fun hfk => ?_) (fun hfk => ?_) <;> ((try (first | replace hfk := oT hfk | replace hfk := oF hfk | simp only [oD, ne_eq, reduceCtorEq] at hfk)); (try exact oX))) | refine And.intro oZ ?_ | exact True.intro | (show _ = _; first | exact oY | exact rfl) | exact oW | (apply And.intro)))
  refine ⟨Nat × List UInt8, fun g => [(1, .ptr 0 0), (2, .str []), (3, .str g.2), (4, .ptr 1 0)], fun g => ⟨2, [(0, some (.cells 76 [.bool sg, .roi .i64 d])), (1, some (.cells 76 [.bool false, .roi .i64 (dgs g.1)]))]⟩,
    fun g => TxI N g.1 g.2, fun g => g.1, ⟨(N, []), [some 0, some 1], tx_0 N, ?_⟩, fun g hg => ?_⟩
  · (repeat' (first | (refine And.intro ?_ ?_) | exact True.intro | (show _ = _; with_reducible rfl) | exact Chk.mk (by kernel_rfl)))
    all_goals rfl
  obtain ⟨n, s⟩ := g
  have hg : TxI N n s := hg
  dsimp only
  have hle := hg.le
  by_cases hn : n = 0
  · have hs := hg.nil hn
    subst hn
    have l0 : (dgs 0).length = 0 := by rw [dgs_0]; rfl
    by_cases hN0 : N = 0
    · rw [if_pos hN0] at hs
      subst hs
      have e : txV sg d = [48] := by
        unfold txV bzv
        rw [hN, hN0]
        have : (if sg = true then -((0 : Nat) : Int) else ((0 : Nat) : Int)) = ((0 : Nat) : Int) := by split <;> rfl
        rw [this, Lib.itoa_nonneg, Lib.decDigits_one (by decide)]; rfl
      (repeat' (first | (refine xI (fun hfk => ?_) (fun hfk => ?_) <;> ((try (first | replace hfk := oT hfk | replace hfk := oF hfk | simp only [oD, ne_eq, reduceCtorEq] at hfk)); (try exact oX))) | refine And.intro oZ ?_ | exact True.intro | (show _ = _; first | exact oY | (exact e.symm; done) | exact rfl) | exact oW | (apply And.intro)))
    · rw [if_neg hN0] at hs
      subst hs
      have hp := nD_pos N
      have hl := Lib.decDigits_length N
      have ne : ¬ Lib.decDigits N = [] := fun k => by rw [k] at hl; simp at hl; omega
      have l20 : (Lib.decDigits N).length ≤ 20 := by rw [hl]; exact nD_le 19 N (by omega)
      cases sg with
      | true =>
        have e : txV true d = 45 :: Lib.decDigits N := by
          unfold txV bzv
          rw [if_pos rfl, hN, Lib.itoa_neg N (by omega)]
        have q1 : (ByteArray.mk #[45]).data.toList.length = 1 := rfl
        have q2 : ((((ByteArray.mk #[45]).data.toList.length + (Lib.decDigits N).length : Nat)) : Int) ≤ IntKind.i64.max := len_i64' (by omega)
        (repeat' (first | (refine xI (fun hfk => ?_) (fun hfk => ?_) <;> ((try (first | replace hfk := oT hfk | replace hfk := oF hfk | simp only [oD, ne_eq, reduceCtorEq] at hfk)); (try exact oX))) | refine And.intro oZ ?_ | exact True.intro | (show _ = _; first | exact oY | (first | exact e.symm | exact q2; done) | exact rfl) | exact oW | (apply And.intro)))
      | false =>
        have e : txV false d = Lib.decDigits N := by
          unfold txV bzv
          rw [if_neg (by decide), hN, Lib.itoa_nonneg]
        (repeat' (first | (refine xI (fun hfk => ?_) (fun hfk => ?_) <;> ((try (first | replace hfk := oT hfk | replace hfk := oF hfk | simp only [oD, ne_eq, reduceCtorEq] at hfk)); (try exact oX))) | refine And.intro oZ ?_ | exact True.intro | (show _ = _; first | exact oY | (exact e.symm; done) | exact rfl) | exact oW | (apply And.intro)))
  · have hn0 : 0 < n := by omega
    have hnx := tx_next hg hn0
    have ls := tx_len hg (by omega)
    have l1 : 0 < ((dgs n).length : Int) := dgs_len0.2 hn0
    have vn : valD (dgs n) = n := valD_dgs n
    have BN : Bg false (dgs n) := Bg_nat (by omega)
    have B10 := Bg10
    have v10 := val10
    have f10 : decide ((10 : Int) < 0) = false := rfl
    have l10 : (dgs (Int.natAbs 10)).length = 1 := by rw [show Int.natAbs 10 = 10 from rfl, dgs_pos (by decide), show 10 / 32768 = 0 from rfl, dgs_0]; rfl
    have l5 : (dgs n).length ≤ 1000 := by
      have := dgs_len (k := 5) (n := n) (by have : (32768 : Nat) ^ 5 = 37778931862957161709568 := rfl
                                            omega)
      omega
    (repeat' (first | (refine xI (fun hfk => ?_) (fun hfk => ?_) <;> ((try (first | replace hfk := oT hfk | replace hfk := oF hfk | simp only [oD, ne_eq, reduceCtorEq] at hfk)); (try exact oX))) | refine And.intro oZ ?_ | exact True.intro | (show _ = _; first | exact oY | (first | exact BN | exact B10 | exact f10; done) | exact rfl) | exact oW | (apply And.intro)))
    refine ⟨[(1, .ptr 0 0), (2, .str []), (3, .str s), (4, .ptr 1 0), (5, .ptr 2 0)],
      ⟨3, [(0, some (.cells 76 [.bool sg, .roi .i64 d])), (1, some (.cells 76 [.bool false, .roi .i64 (dgs n)])), (2, some (.cells 76 [.bool false, .roi .i64 (dgs (n / 10))]))]⟩, [some 0, some 1, some 2], ?_, ?_⟩
    · have eq : valD (dgs n) / valD (dgs (Int.natAbs 10)) = ((n / 10 : Nat) : Int) := by rw [vn, v10]; rfl
      have e1 : decide (valD (dgs n) / valD (dgs (Int.natAbs 10)) < 0) = false := by rw [eq]; exact decide_eq_false (by omega)
      have e2 : dgs (valD (dgs n) / valD (dgs (Int.natAbs 10))).natAbs = dgs (n / 10) := by rw [eq, Int.natAbs_natCast]
      (repeat' (first | (refine And.intro ?_ ?_) | exact True.intro | (show _ = _; with_reducible rfl) | exact Chk.mk (by kernel_rfl)))
      all_goals first | exact e1 | exact e2 | rfl
    have BQ : Bg false (dgs (n / 10)) := Bg_nat (by omega)
    have vq : bzv false (dgs (n / 10)) = (n / 10 : Nat) := valD_dgs _
    have vn' : bzv false (dgs n) = n := valD_dgs _
    have v10' := bzv10
    have em : bzv false (dgs (n / 10)) * bzv (decide ((10 : Int) < 0)) (dgs (Int.natAbs 10)) = ((n / 10 * 10 : Nat) : Int) := by rw [vq, v10']; omega
    have BM : Bg (decide (bzv false (dgs (n / 10)) * bzv (decide ((10 : Int) < 0)) (dgs (Int.natAbs 10)) < 0)) (dgs (bzv false (dgs (n / 10)) * bzv (decide ((10 : Int) < 0)) (dgs (Int.natAbs 10))).natAbs) := by
      rw [em, decide_eq_false (by omega), Int.natAbs_natCast]; exact Bg_nat (by omega)
    have es : (bzv false (dgs n) - bzv (decide (bzv false (dgs (n / 10)) * bzv (decide ((10 : Int) < 0)) (dgs (Int.natAbs 10)) < 0)) (dgs (bzv false (dgs (n / 10)) * bzv (decide ((10 : Int) < 0)) (dgs (Int.natAbs 10))).natAbs)) = ((n % 10 : Nat) : Int) := by rw [bzv_big, em, vn']; omega
    have BS : Bg (decide ((bzv false (dgs n) - bzv (decide (bzv false (dgs (n / 10)) * bzv (decide ((10 : Int) < 0)) (dgs (Int.natAbs 10)) < 0)) (dgs (bzv false (dgs (n / 10)) * bzv (decide ((10 : Int) < 0)) (dgs (Int.natAbs 10))).natAbs)) < 0)) (dgs (bzv false (dgs n) - bzv (decide (bzv false (dgs (n / 10)) * bzv (decide ((10 : Int) < 0)) (dgs (Int.natAbs 10)) < 0)) (dgs (bzv false (dgs (n / 10)) * bzv (decide ((10 : Int) < 0)) (dgs (Int.natAbs 10))).natAbs)).natAbs) := by
      rw [es, decide_eq_false (by omega), Int.natAbs_natCast]; exact Bg_nat (by omega)
    have vs : valD (dgs (bzv false (dgs n) - bzv (decide (bzv false (dgs (n / 10)) * bzv (decide ((10 : Int) < 0)) (dgs (Int.natAbs 10)) < 0)) (dgs (bzv false (dgs (n / 10)) * bzv (decide ((10 : Int) < 0)) (dgs (Int.natAbs 10))).natAbs)).natAbs) = ((n % 10 : Nat) : Int) := by rw [es, Int.natAbs_natCast, valD_dgs]
    have vs2 : valD (dgs (bzv false (dgs n) - bzv (decide (bzv false (dgs (n / 10)) * bzv (decide ((10 : Int) < 0)) (dgs (Int.natAbs 10)) < 0)) (dgs (bzv false (dgs (n / 10)) * bzv (decide ((10 : Int) < 0)) (dgs (Int.natAbs 10))).natAbs)).natAbs) < 18446744073709551616 := by omega
    have hL : (List.map (fun n : Int => UInt8.ofNat n.toNat) (List.take 1 (List.drop 0 ((fun x => (IntKind.u8.wrap (IntKind.u64.wrap (48 + valD (dgs (bzv false (dgs n) - bzv (decide (bzv false (dgs (n / 10)) * bzv (decide ((10 : Int) < 0)) (dgs (Int.natAbs 10)) < 0)) (dgs (bzv false (dgs (n / 10)) * bzv (decide ((10 : Int) < 0)) (dgs (Int.natAbs 10))).natAbs)).natAbs)))) :: x) ([] : List Int))))) = [UInt8.ofNat (48 + n % 10)] := by
      rw [vs]
      have w1 : IntKind.u64.wrap (48 + ((n % 10 : Nat) : Int)) = ((48 + n % 10 : Nat) : Int) := by rw [u64_id (by omega) (by omega)]; omega
      have w2 : IntKind.u8.wrap ((48 + n % 10 : Nat) : Int) = ((48 + n % 10 : Nat) : Int) := wrap_rng ⟨by show (0 : Int) ≤ _; omega, by show _ ≤ (255 : Int); omega⟩
      rw [w1, w2]; rfl
    have hl2 : ((((List.map (fun n : Int => UInt8.ofNat n.toNat) (List.take 1 (List.drop 0 ((fun x => (IntKind.u8.wrap (IntKind.u64.wrap (48 + valD (dgs (bzv false (dgs n) - bzv (decide (bzv false (dgs (n / 10)) * bzv (decide ((10 : Int) < 0)) (dgs (Int.natAbs 10)) < 0)) (dgs (bzv false (dgs (n / 10)) * bzv (decide ((10 : Int) < 0)) (dgs (Int.natAbs 10))).natAbs)).natAbs)))) :: x) ([] : List Int))))).length + s.length : Nat)) : Int) ≤ IntKind.i64.max := by
      rw [hL]; exact len_i64' (by show 1 + s.length ≤ 1000; omega)
    (repeat' (first | (refine xI (fun hfk => ?_) (fun hfk => ?_) <;> ((try (first | replace hfk := oT hfk | replace hfk := oF hfk | simp only [oD, ne_eq, reduceCtorEq] at hfk)); (try exact oX))) | refine And.intro oZ ?_ | exact True.intro | (show _ = _; first | exact oY | (first | exact BN | exact B10 | exact BQ | exact BM | exact BS | exact vs2 | exact hl2; done) | exact rfl) | exact oW | (apply And.intro)))
    refine ⟨[(1, .ptr 0 0), (2, .str []), (3, .str (UInt8.ofNat (48 + n % 10) :: s)), (4, .ptr 1 0), (5, .ptr 2 0)],
      ⟨3, [(0, some (.cells 76 [.bool sg, .roi .i64 d])), (1, some (.cells 76 [.bool false, .roi .i64 (dgs n)])), (2, some (.cells 76 [.bool false, .roi .i64 (dgs (n / 10))]))]⟩, [some 0, some 1, some 2], ?_, ?_⟩
    · have e3 : (List.map (fun n : Int => UInt8.ofNat n.toNat) (List.take 1 (List.drop 0 ((fun x => (IntKind.u8.wrap (IntKind.u64.wrap (48 + valD (dgs (bzv false (dgs n) - bzv (decide (bzv false (dgs (n / 10)) * bzv (decide ((10 : Int) < 0)) (dgs (Int.natAbs 10)) < 0)) (dgs (bzv false (dgs (n / 10)) * bzv (decide ((10 : Int) < 0)) (dgs (Int.natAbs 10))).natAbs)).natAbs)))) :: x) ([] : List Int))))) ++ s = UInt8.ofNat (48 + n % 10) :: s := by rw [hL]; rfl
      (repeat' (first | (refine And.intro ?_ ?_) | exact True.intro | (show _ = _; with_reducible rfl) | exact Chk.mk (by kernel_rfl)))
      all_goals first | exact e3 | rfl
    clear hL hl2 vs2 vs BS es BM em
    (repeat' (first | (refine xI (fun hfk => ?_) (fun hfk => ?_) <;> ((try (first | replace hfk := oT hfk | replace hfk := oF hfk | simp only [oD, ne_eq, reduceCtorEq] at hfk)); (try exact oX))) | refine And.intro oZ ?_ | exact True.intro | (show _ = _; first | exact oY | exact rfl) | exact oW | (apply And.intro)))
    refine ⟨(n / 10, UInt8.ofNat (48 + n % 10) :: s), [some 0, some 1], hnx, ?mu, ?_⟩
    case mu => (show n / 10 < n; omega)
    (repeat' (first | (refine And.intro ?_ ?_) | exact True.intro | (show _ = _; with_reducible rfl) | exact Chk.mk (by kernel_rfl)))
    all_goals rfl
end Go.Proofs.YtljdahepmmgfeaaGreatDoor
namespace Go.Proofs.YtljdahepmmgfeaaGreatDoor
open Go Go.RowKit
theorem txV_big (z : Int) : txV (decide (z < 0)) (dgs z.natAbs) = Lib.itoa z := by unfold txV; rw [bzv_big]
structure TxZ (z : Int) : Prop where
  lo : -9223372036854775808 ≤ z
  hi : z ≤ 9223372036854775807
theorem TxZ.ok {z : Int} (h : TxZ z) : TxOK (dgs z.natAbs) := ⟨by have := h.lo; have := h.hi; rw [valD_dgs]; omega⟩
theorem TxZ.bg {z : Int} (h : TxZ z) : Bg (decide (z < 0)) (dgs z.natAbs) := by have := h.lo; have := h.hi; exact Bg_i64 (by omega) (by omega)
end Go.Proofs.YtljdahepmmgfeaaGreatDoor
namespace Go.Proofs.YtljdahepmmgfeaaGreatDoor
open Go Go.RowKit
def strA : AV → List UInt8
  | .str s => s
  | _ => []
def joinV (n : Nat) (f : Nat → AV) (sep : List UInt8) : List UInt8 := Lib.join ((List.range n).map fun j => strA (f j)) sep
structure JoOK (n : Nat) (f : Nat → AV) (sep : List UInt8) : Prop where
  str : ∀ j, j < n → ∃ s, f j = .str s
  n_ : n ≤ 1000000
  len : (joinV n f sep).length ≤ 140737488355328
abbrev joinS : PSpec := fun l => match l with | [.ro 1 n f, .str sep] => some ([JoOK n f sep], .str (joinV n f sep)) | _ => none
theorem join_s : SOK Tryz.prog 34 joinS := by
  refine ⟨⟨_, Tryz.func34, by kernel_rfl, by kernel_rfl⟩, fun l obs v h ho w O cl hf hc => ?_⟩
  (unfold joinS at h; split at h; rotate_left; (focus (cases h)); rename_i n f sep; simp only [Option.some.injEq, Prod.mk.injEq] at h; obtain ⟨rfl, rfl⟩ := h; simp only [List.mem_cons, List.not_mem_nil, or_false, forall_eq_or_imp, forall_eq, false_implies, implies_true] at ho)
  obtain ⟨h1, h2, h3⟩ := ho
  obtain ⟨hl, hr⟩ := hc
  match cl, hl with
  | [c1, c2], _ =>
    have r1 := hr 0 _ _ rfl rfl
    have r2 := hr 1 _ _ rfl rfl
    cases r2
    by_cases n0 : n = 0
    · subst n0
      have e : joinV 0 f sep = [] := rfl
      rw [e]
      cases r1 with
      | ronil =>
        refine (sh_strings_Join_none none 0 ⟨sep.toArray⟩ w).mono fun en w' ⟨he, hw⟩ => ?_
        subst hw
        exact ⟨_, he, Ext.refl _ _, .str []⟩
      | ro _ _ _ b off c vals hn hcm hO hb hcell hsz hv =>
        refine (sh_strings_Join_none (some ⟨b, off, none⟩) c ⟨sep.toArray⟩ w).mono fun en w' ⟨he, hw⟩ => ?_
        subst hw
        exact ⟨_, he, Ext.refl _ _, .str []⟩
    · cases r1 with
      | ronil => exact absurd rfl n0
      | ro _ _ _ b off c vals hn hcm hO hb hcell hsz hv =>
        obtain ⟨xs, hxs⟩ : ∃ xs : List ByteArray, (List.range n).map (fun j => (⟨(strA (f j)).toArray⟩ : ByteArray)) = xs := ⟨_, rfl⟩
        have hlx : xs.length = n := by rw [← hxs]; simp
        have hval : xs.map (·.data.toList) = (List.range n).map fun j => strA (f j) := by rw [← hxs, List.map_map]; rfl
        have hj : Lib.join (xs.map (·.data.toList)) (⟨sep.toArray⟩ : ByteArray).data.toList = joinV n f sep := by rw [hval]; rfl
        have := sh_strings_Join b off c xs ⟨sep.toArray⟩ w (fun j x hx => by
          rw [← hxs] at hx
          simp only [List.getElem?_map] at hx
          obtain ⟨j', hj', rfl⟩ := opt_map hx
          have hjn : j < n := by have := (List.getElem?_eq_some_iff.1 hj').1; simpa using this
          have : j' = j := by rw [List.getElem?_range hjn] at hj'; exact (Option.some.inj hj').symm
          subst this
          obtain ⟨s, hs⟩ := h1 j' hjn
          have hrep := hv j' hjn
          rw [hs] at hrep
          have hc0 := hcell j' hjn 0 (by decide)
          generalize vals j' = vj at hrep hc0
          cases hrep
          rw [hs]
          rw [Nat.mul_one, Nat.add_zero] at hc0
          exact hc0) hb (by rw [hlx]; omega) (by rw [hlx]; exact hn) (by rw [hj]; exact h3)
        rw [hlx, hj] at this
        refine this.mono fun en w' ⟨he, hw⟩ => ?_
        exact ⟨_, he, ext_below hw, .str _⟩
end Go.Proofs.YtljdahepmmgfeaaGreatDoor
namespace Go.Proofs.YtljdahepmmgfeaaGreatDoor
open Go Go.RowKit
theorem join3 {f : Nat → AV} {a b c sep : List UInt8} (h0 : f 0 = .str a) (h1 : f 1 = .str b) (h2 : f 2 = .str c) : joinV 3 f sep = a ++ (sep ++ (b ++ (sep ++ c))) := by
  unfold joinV
  rw [show List.range 3 = [0, 1, 2] from rfl]
  simp only [List.map_cons, List.map_nil, h0, h1, h2, strA]
  unfold Lib.join
  simp [List.intercalate]
theorem jo3 {f : Nat → AV} {a b c sep : List UInt8} (h0 : f 0 = .str a) (h1 : f 1 = .str b) (h2 : f 2 = .str c) (hl : a.length + b.length + c.length + 2 * sep.length ≤ 1000000) : JoOK 3 f sep := by
  refine ⟨fun j hj => ?_, by decide, ?_⟩
  · have : j = 0 ∨ j = 1 ∨ j = 2 := by omega
    rcases this with rfl | rfl | rfl
    · exact ⟨_, h0⟩
    · exact ⟨_, h1⟩
    · exact ⟨_, h2⟩
  · rw [join3 h0 h1 h2]
    simp only [List.length_append]
    omega
abbrev lineS : PSpec := fun l => match l with | [.ro 1 n f] => some ([JoOK n f [32]], .str (joinV n f [32])) | _ => none
theorem line_s : SOK Tryz.prog 16 lineS := by
  refine sok_of (C := mkC 0 [(34, joinS)] noG) (mkC_ok (pok_cons join_s pok_nil) noG_ok) rfl mixed ⟨Tryz.func16, by kernel_rfl, by kernel_rfl, by kernel_rfl⟩ fun l obs v h ho => ?_
  (unfold lineS at h; split at h; rotate_left; (focus (cases h)); rename_i n f; simp only [Option.some.injEq, Prod.mk.injEq] at h; obtain ⟨rfl, rfl⟩ := h; simp only [List.mem_cons, List.not_mem_nil, or_false, forall_eq_or_imp, forall_eq, false_implies, implies_true] at ho)
  refine ⟨Nat.le_of_ble_eq_true rfl, ?_⟩
  (repeat' (first | (refine xI (fun hfk => ?_) (fun hfk => ?_) <;> ((try (first | replace hfk := oT hfk | replace hfk := oF hfk | simp only [oD, ne_eq, reduceCtorEq] at hfk)); (try exact oX))) | refine And.intro oZ ?_ | exact True.intro | (show _ = _; first | exact oY | (first | exact ho | rfl; done) | exact rfl) | exact oW | (apply And.intro)))
def szV (w h c : Int) : List UInt8 := Lib.itoa w ++ [120] ++ Lib.itoa h ++ [120] ++ Lib.itoa c
theorem I64.tx {x : Int} (h : I64 x) : TxZ x := ⟨h.lo, h.hi⟩
theorem I64.len {x : Int} (h : I64 x) : (Lib.itoa x).length ≤ 20 := itoa_len h.lo h.hi
abbrev itoa2S : PSpec := fun l => match l with | [.int .i64 x] => some ([I64 x], .str (Lib.itoa x)) | _ => none
theorem itoa2_s : SOK Tryz.prog 17 itoa2S := sok_weak itoa_s fun l obs v h ho => by
  (unfold itoa2S at h; split at h; rotate_left; (focus (cases h)); rename_i x; simp only [Option.some.injEq, Prod.mk.injEq] at h; obtain ⟨rfl, rfl⟩ := h; simp only [List.mem_cons, List.not_mem_nil, or_false, forall_eq_or_imp, forall_eq, false_implies, implies_true] at ho)
  exact ⟨_, rfl, fun p hp => by
    simp only [List.mem_cons, List.not_mem_nil, or_false] at hp
    rcases hp with rfl | rfl
    · exact ho.lo
    · exact ho.hi⟩
abbrev sizeRS : PSpec := fun l => match l with | [.agg [.int .i64 w, .int .i64 h, .int .i64 c, .roi .u8 p]] => some ([I64 w, I64 h, I64 c], .str (szV w h c)) | _ => none
theorem sizeR_s : SOK Tryz.prog 21 sizeRS := by
  refine sok_of (C := mkC 0 [(17, itoa2S), (34, joinS)] noG) (mkC_ok (pok_cons itoa2_s (pok_cons join_s pok_nil)) noG_ok) rfl mixed ⟨Tryz.func21, by kernel_rfl, by kernel_rfl, by kernel_rfl⟩ fun l obs v h ho => ?_
  (unfold sizeRS at h; split at h; rotate_left; (focus (cases h)); rename_i w hh c p; simp only [Option.some.injEq, Prod.mk.injEq] at h; obtain ⟨rfl, rfl⟩ := h; simp only [List.mem_cons, List.not_mem_nil, or_false, forall_eq_or_imp, forall_eq, false_implies, implies_true] at ho)
  obtain ⟨iw, ih, ic⟩ := ho
  have lw := iw.len
  have lh := ih.len
  have lc := ic.len
  have l1 : (ByteArray.mk #[120]).data.toList.length = 1 := rfl
  have e : szV w hh c = Lib.itoa w ++ ((ByteArray.mk #[120]).data.toList ++ (Lib.itoa hh ++ ((ByteArray.mk #[120]).data.toList ++ Lib.itoa c))) := by
    unfold szV
    show _ = Lib.itoa w ++ ([120] ++ (Lib.itoa hh ++ ([120] ++ Lib.itoa c)))
    simp
  rw [e]
  clear e
  refine ⟨Nat.le_of_ble_eq_true rfl, ?_⟩
  (repeat' (first | (refine xI (fun hfk => ?_) (fun hfk => ?_) <;> ((try (first | replace hfk := oT hfk | replace hfk := oF hfk | simp only [oD, ne_eq, reduceCtorEq] at hfk)); (try exact oX))) | refine And.intro oZ ?_ | exact True.intro | (show _ = _; first | exact oY | (first | exact join3 rfl rfl rfl | rfl; done) | exact rfl) | exact oW | (apply And.intro)))
  exact jo3 rfl rfl rfl (by omega)
def fnW (k : Int) : List UInt8 := if k = 1 then [112, 103, 109] else if k = 2 then [112, 112, 109] else if k = 3 then [98, 109, 112, 50, 52] else if k = 4 then [98, 109, 112, 51, 50] else []
def fcW (k : Int) : Int := if k = 1 then 1 else if k = 2 then 3 else if k = 3 then 3 else if k = 4 then 4 else 0
theorem kw_cs (k : Int) : (k < 1 ∨ 4 < k) ∨ k = 1 ∨ k = 2 ∨ k = 3 ∨ k = 4 := by omega
theorem fw_out {k : Int} (h : k < 1 ∨ 4 < k) : fnW k = [] ∧ fcW k = 0 := by
  unfold fnW fcW
  rw [if_neg (by omega), if_neg (by omega), if_neg (by omega), if_neg (by omega), if_neg (by omega), if_neg (by omega), if_neg (by omega), if_neg (by omega)]
  exact ⟨rfl, rfl⟩
theorem fnW_len (k : Int) : (fnW k).length ≤ 5 := by
  rcases kw_cs k with h | rfl | rfl | rfl | rfl
  · rw [(fw_out h).1]; decide
  all_goals decide
abbrev sIW (f : Int → AV) : PSpec := fun l => match l with | [.int .i64 k] => some ([], f k) | _ => none
def fmW (j : Nat) : AV := .agg [.str (fnW j), .int .i64 (fcW j)]
abbrev formsWS : PSpec := sN (.ro 2 5 fmW)
theorem formsW_s : SOK Tryz.prog 67 formsWS := by
  refine sok_of (C := mkC 0 [] noG) (mkC_ok pok_nil noG_ok) rfl mixed ⟨Tryz.func67, by kernel_rfl, by kernel_rfl, by kernel_rfl⟩ fun l obs v h ho => ?_
  obtain ⟨rfl, rfl, rfl⟩ := sN_inv h
  refine ⟨Nat.le_of_ble_eq_true rfl, ?_⟩
  refine ⟨Nat.le_refl _, rfl, fun j hj => ?_⟩
  have : j = 0 ∨ j = 1 ∨ j = 2 ∨ j = 3 ∨ j = 4 := by have : j < 5 := hj; omega
  rcases this with rfl | rfl | rfl | rfl | rfl <;> rfl
abbrev ofWS : PSpec := sIW fun k => .agg [.str (fnW k), .int .i64 (fcW k)]
theorem ofW_s : SOK Tryz.prog 41 ofWS := by
  refine sok_of (C := mkC 0 [(67, formsWS)] noG) (mkC_ok (pok_cons formsW_s pok_nil) noG_ok) rfl mixed ⟨Tryz.func41, by kernel_rfl, by kernel_rfl, by kernel_rfl⟩ fun l obs v h ho => ?_
  unfold ofWS at h
  (unfold sIW at h; split at h; rotate_left; (focus (cases h)); rename_i k; simp only [Option.some.injEq, Prod.mk.injEq] at h; obtain ⟨rfl, rfl⟩ := h; simp only [List.mem_cons, List.not_mem_nil, or_false, forall_eq_or_imp, forall_eq, false_implies, implies_true] at ho)
  refine ⟨Nat.le_of_ble_eq_true rfl, ?_⟩
  rcases kw_cs k with hk | rfl | rfl | rfl | rfl
  · rw [(fw_out hk).1, (fw_out hk).2]
    (repeat' (first | (refine xI (fun hfk => ?_) (fun hfk => ?_) <;> ((try (first | replace hfk := oT hfk | replace hfk := oF hfk | simp only [oD, ne_eq, reduceCtorEq] at hfk)); (try exact oX))) | refine And.intro oZ ?_ | exact True.intro | (show _ = _; first | exact oY | exact rfl) | exact oW | (apply And.intro)))
  all_goals
    (repeat' (first | (refine xI (fun hfk => ?_) (fun hfk => ?_) <;> ((try (first | replace hfk := oT hfk | replace hfk := oF hfk | simp only [oD, ne_eq, reduceCtorEq] at hfk)); (try exact oX))) | refine And.intro oZ ?_ | exact True.intro | (show _ = _; first | exact oY | exact rfl) | exact oW | (apply And.intro)))
abbrev nameWS : PSpec := sIW fun k => .str (fnW k)
theorem nameW_s : SOK Tryz.prog 20 nameWS := by
  refine sok_of (C := mkC 0 [(41, ofWS)] noG) (mkC_ok (pok_cons ofW_s pok_nil) noG_ok) rfl mixed ⟨Tryz.func20, by kernel_rfl, by kernel_rfl, by kernel_rfl⟩ fun l obs v h ho => ?_
  unfold nameWS at h
  (unfold sIW at h; split at h; rotate_left; (focus (cases h)); rename_i k; simp only [Option.some.injEq, Prod.mk.injEq] at h; obtain ⟨rfl, rfl⟩ := h; simp only [List.mem_cons, List.not_mem_nil, or_false, forall_eq_or_imp, forall_eq, false_implies, implies_true] at ho)
  refine ⟨Nat.le_of_ble_eq_true rfl, ?_⟩
  (repeat' (first | (refine xI (fun hfk => ?_) (fun hfk => ?_) <;> ((try (first | replace hfk := oT hfk | replace hfk := oF hfk | simp only [oD, ne_eq, reduceCtorEq] at hfk)); (try exact oX))) | refine And.intro oZ ?_ | exact True.intro | (show _ = _; first | exact oY | exact rfl) | exact oW | (apply And.intro)))
theorem rnameW_s : SOK Tryz.prog 26 nameWS := by
  refine sok_of (C := mkC 0 [] noG) (mkC_ok pok_nil noG_ok) rfl mixed ⟨Tryz.func26, by kernel_rfl, by kernel_rfl, by kernel_rfl⟩ fun l obs v h ho => ?_
  unfold nameWS at h
  (unfold sIW at h; split at h; rotate_left; (focus (cases h)); rename_i k; simp only [Option.some.injEq, Prod.mk.injEq] at h; obtain ⟨rfl, rfl⟩ := h; simp only [List.mem_cons, List.not_mem_nil, or_false, forall_eq_or_imp, forall_eq, false_implies, implies_true] at ho)
  refine ⟨Nat.le_of_ble_eq_true rfl, ?_⟩
  rcases kw_cs k with hk | rfl | rfl | rfl | rfl
  · rw [(fw_out hk).1]
    (repeat' (first | (refine xI (fun hfk => ?_) (fun hfk => ?_) <;> ((try (first | replace hfk := oT hfk | replace hfk := oF hfk | simp only [oD, ne_eq, reduceCtorEq] at hfk)); (try exact oX))) | refine And.intro oZ ?_ | exact True.intro | (show _ = _; first | exact oY | exact rfl) | exact oW | (apply And.intro)))
  all_goals
    (repeat' (first | (refine xI (fun hfk => ?_) (fun hfk => ?_) <;> ((try (first | replace hfk := oT hfk | replace hfk := oF hfk | simp only [oD, ne_eq, reduceCtorEq] at hfk)); (try exact oX))) | refine And.intro oZ ?_ | exact True.intro | (show _ = _; first | exact oY | exact rfl) | exact oW | (apply And.intro)))
def imL (b : List Int) : List Int := fourL (crW b) ++ fourL (crH b) ++ fourL (crC b) ++ crL b
def outV (b : List Int) : List UInt8 :=
  if crE b ≠ 0 then (ByteArray.mk #[110, 111, 110, 101, 32]).data.toList ++ Lib.itoa (b.length : Int) ++ (ByteArray.mk #[32]).data.toList ++ hxN 16 (dgV b).toNat
  else fnW (crN b) ++ (ByteArray.mk #[32]).data.toList ++ szV (crW b) (crH b) (crC b) ++ (ByteArray.mk #[32]).data.toList ++ hxN 16 (dgV (imL b)).toNat
abbrev num53S : PSpec := fun l => match l with | [.int .i64 x] => some ([I64 x], .str (Lib.itoa x)) | _ => none
theorem number53_s : SOK Tryz.prog 24 num53S := by
  refine sok_of (C := mkC 0 [(46, ofS), (45, textS)] noG) (mkC_ok (pok_cons of_s (pok_cons text_s pok_nil)) noG_ok) rfl mixed ⟨Tryz.func24, by kernel_rfl, by kernel_rfl, by kernel_rfl⟩ fun l obs v h ho => ?_
  (unfold num53S at h; split at h; rotate_left; (focus (cases h)); rename_i x; simp only [Option.some.injEq, Prod.mk.injEq] at h; obtain ⟨rfl, rfl⟩ := h; simp only [List.mem_cons, List.not_mem_nil, or_false, forall_eq_or_imp, forall_eq, false_implies, implies_true] at ho)
  have h0 := ho.lo
  have h1 := ho.hi
  have bx := ho.tx.bg
  have ox := ho.tx.ok
  rw [← txV_big x]
  refine ⟨Nat.le_of_ble_eq_true rfl, ?_⟩
  (repeat' (first | (refine xI (fun hfk => ?_) (fun hfk => ?_) <;> ((try (first | replace hfk := oT hfk | replace hfk := oF hfk | simp only [oD, ne_eq, reduceCtorEq] at hfk)); (try exact oX))) | refine And.intro oZ ?_ | exact True.intro | (show _ = _; first | exact oY | (first | exact bx | exact ox | rfl; done) | exact rfl) | exact oW | (apply And.intro)))
end Go.Proofs.YtljdahepmmgfeaaGreatDoor
namespace Go.Proofs.YtljdahepmmgfeaaGreatDoor
open Go Go.RowKit
theorem U64_dgv (b : List Int) : U64 (dgV b) := U64_bv _
theorem out_bad {b : List Int} (h : crE b ≠ 0) : outV b = (ByteArray.mk #[110, 111, 110, 101, 32]).data.toList ++ Lib.itoa (b.length : Int) ++ (ByteArray.mk #[32]).data.toList ++ hxN 16 (dgV b).toNat := if_pos h
theorem out_good {b : List Int} (h : crE b = 0) : outV b = fnW (crN b) ++ (ByteArray.mk #[32]).data.toList ++ szV (crW b) (crH b) (crC b) ++ (ByteArray.mk #[32]).data.toList ++ hxN 16 (dgV (imL b)).toNat := if_neg (fun k => k h)
theorem out_bad2 {b : List Int} (h : crE b ≠ 0) : (ByteArray.mk #[110, 111, 110, 101]).data.toList ++ ([32] ++ (Lib.itoa (b.length : Int) ++ ([32] ++ hxN 16 (dgV b).toNat))) = outV b := by
  rw [out_bad h]
  show [110, 111, 110, 101] ++ ([32] ++ (Lib.itoa (b.length : Int) ++ ([32] ++ hxN 16 (dgV b).toNat))) = [110, 111, 110, 101, 32] ++ Lib.itoa (b.length : Int) ++ [32] ++ hxN 16 (dgV b).toNat
  simp
theorem out_good2 {b : List Int} (h : crE b = 0) : fnW (crN b) ++ ([32] ++ (szV (crW b) (crH b) (crC b) ++ ([32] ++ hxN 16 (dgV (imL b)).toNat))) = outV b := by
  rw [out_good h]
  show _ = fnW (crN b) ++ [32] ++ szV (crW b) (crH b) (crC b) ++ [32] ++ hxN 16 (dgV (imL b)).toNat
  simp
theorem szV_len {w h c : Int} (iw : I64 w) (ih : I64 h) (ic : I64 c) : (szV w h c).length ≤ 62 := by
  have := iw.len
  have := ih.len
  have := ic.len
  unfold szV
  simp only [List.length_append, List.length_cons, List.length_nil]
  omega
theorem out_len (b : List Int) (hb : Byt b) : (outV b).length ≤ 1000 := by
  obtain ⟨iw, ih, ic, _, _⟩ := cr_num hb
  have hl := hb.le
  have l0 : I64 (b.length : Int) := i64_sm (by omega) (by omega)
  have l1 := l0.len
  have l2 := hxN_len 16 (dgV b).toNat
  have l3 := hxN_len 16 (dgV (imL b)).toNat
  have l4 := szV_len iw ih ic
  have l5 := fnW_len (crN b)
  by_cases h : crE b = 0
  · rw [← out_good2 h]
    simp only [List.length_append, List.length_cons, List.length_nil]
    omega
  · rw [← out_bad2 h]
    simp only [List.length_append, List.length_cons, List.length_nil]
    show 4 + _ ≤ 1000
    omega
attribute [local irreducible] crE crW crH crC crL crN dgV hxN fnW szV fourL
abbrev outS : PSpec := fun l => match l with | [.roi .u8 b] => some ([Byt b], .str (outV b)) | _ => none
theorem out53_s : SOK Tryz.prog 7 outS := by
  refine sok_of (C := mkC 0 [(15, crdS), (17, itoa2S), (19, bytesHS), (18, hexS), (16, lineS), (20, nameWS), (21, sizeRS), (22, imageHS)] noG) (mkC_ok (pok_cons cread_s (pok_cons itoa2_s (pok_cons bytesH_s (pok_cons hex_s (pok_cons line_s (pok_cons nameW_s (pok_cons sizeR_s (pok_cons imageH_s pok_nil)))))))) noG_ok) rfl mixed ⟨Tryz.func7, by kernel_rfl, by kernel_rfl, by kernel_rfl⟩ fun l obs v h ho => ?_
  (unfold outS at h; split at h; rotate_left; (focus (cases h)); rename_i b; simp only [Option.some.injEq, Prod.mk.injEq] at h; obtain ⟨rfl, rfl⟩ := h; simp only [List.mem_cons, List.not_mem_nil, or_false, forall_eq_or_imp, forall_eq, false_implies, implies_true] at ho)
  have bl := ho.le
  have hB := byt_bytes ho
  obtain ⟨iw, ih, ic, bL, lL⟩ := cr_num ho
  have l0 : I64 (b.length : Int) := i64_sm (by omega) (by omega)
  have l1 := l0.len
  have l2 := hxN_len 16 (dgV b).toNat
  have l3 : (hxN 16 (dgV (fourL (crW b) ++ fourL (crH b) ++ fourL (crC b) ++ crL b)).toNat).length = 16 := hxN_len 16 _
  have l4 := szV_len iw ih ic
  have l5 := fnW_len (crN b)
  have lN : (ByteArray.mk #[110, 111, 110, 101]).data.toList.length = 4 := rfl
  have lS : ([32] : List UInt8).length = 1 := rfl
  have ub := U64_dgv b
  have ui := U64_dgv (imL b)
  refine ⟨Nat.le_of_ble_eq_true rfl, ?_⟩
  by_cases e : crE b = 0
  · have eo := out_good2 e
    (repeat' (first | (refine xI (fun hfk => ?_) (fun hfk => ?_) <;> ((try (first | replace hfk := oT hfk | replace hfk := oF hfk | simp only [oD, ne_eq, reduceCtorEq] at hfk)); (try exact oX))) | refine And.intro oZ ?_ | exact True.intro | (show _ = _; first | exact oY | (first | exact (join3 rfl rfl rfl).trans eo | rfl; done) | exact rfl) | exact oW | (apply And.intro)))
    all_goals first | exact jo3 rfl rfl rfl (by omega) | exact ui | skip
  · have eo := out_bad2 e
    (repeat' (first | (refine xI (fun hfk => ?_) (fun hfk => ?_) <;> ((try (first | replace hfk := oT hfk | replace hfk := oF hfk | simp only [oD, ne_eq, reduceCtorEq] at hfk)); (try exact oX))) | refine And.intro oZ ?_ | exact True.intro | (show _ = _; first | exact oY | (first | exact (join3 rfl rfl rfl).trans eo | rfl; done) | exact rfl) | exact oW | (apply And.intro)))
    all_goals first | exact jo3 rfl rfl rfl (by omega) | skip
theorem rout53_s : SOK Tryz.prog 8 outS := by
  refine sok_of (C := mkC 0 [(23, crdS), (24, num53S), (14, bytesHS), (25, rhexS), (26, nameWS), (27, imageHS)] noG) (mkC_ok (pok_cons rcread_s (pok_cons number53_s (pok_cons rbytes12_s (pok_cons rhex_s (pok_cons rnameW_s (pok_cons rimage_s pok_nil)))))) noG_ok) rfl mixed ⟨Tryz.func8, by kernel_rfl, by kernel_rfl, by kernel_rfl⟩ fun l obs v h ho => ?_
  (unfold outS at h; split at h; rotate_left; (focus (cases h)); rename_i b; simp only [Option.some.injEq, Prod.mk.injEq] at h; obtain ⟨rfl, rfl⟩ := h; simp only [List.mem_cons, List.not_mem_nil, or_false, forall_eq_or_imp, forall_eq, false_implies, implies_true] at ho)
  have bl := ho.le
  have hB := byt_bytes ho
  obtain ⟨iw, ih, ic, bL, lL⟩ := cr_num ho
  have l0 : I64 (b.length : Int) := i64_sm (by omega) (by omega)
  have l1 := l0.len
  have l2 := hxN_len 16 (dgV b).toNat
  have l3 : (hxN 16 (dgV (fourL (crW b) ++ fourL (crH b) ++ fourL (crC b) ++ crL b)).toNat).length = 16 := hxN_len 16 _
  have l5 := fnW_len (crN b)
  have l6 := iw.len
  have l7 := ih.len
  have l8 := ic.len
  have lN : (ByteArray.mk #[110, 111, 110, 101, 32]).data.toList.length = 5 := rfl
  have lS : (ByteArray.mk #[32]).data.toList.length = 1 := rfl
  have lX : (ByteArray.mk #[120]).data.toList.length = 1 := rfl
  have ub := U64_dgv b
  have ui := U64_dgv (imL b)
  refine ⟨Nat.le_of_ble_eq_true rfl, ?_⟩
  by_cases e : crE b = 0
  · have eo := (out_good e).symm
    unfold szV at eo
    (repeat' (first | (refine xI (fun hfk => ?_) (fun hfk => ?_) <;> ((try (first | replace hfk := oT hfk | replace hfk := oF hfk | simp only [oD, ne_eq, reduceCtorEq] at hfk)); (try exact oX))) | refine And.intro oZ ?_ | exact True.intro | (show _ = _; first | exact oY | (first | exact eo | rfl; done) | exact rfl) | exact oW | (apply And.intro)))
    all_goals first | (refine len_i64 ?_; (repeat rw [List.length_append]); omega) | exact ui | skip
  · have eo := (out_bad e).symm
    (repeat' (first | (refine xI (fun hfk => ?_) (fun hfk => ?_) <;> ((try (first | replace hfk := oT hfk | replace hfk := oF hfk | simp only [oD, ne_eq, reduceCtorEq] at hfk)); (try exact oX))) | refine And.intro oZ ?_ | exact True.intro | (show _ = _; first | exact oY | (first | exact eo | rfl; done) | exact rfl) | exact oW | (apply And.intro)))
    all_goals first | (refine len_i64 ?_; (repeat rw [List.length_append]); omega) | skip
end Go.Proofs.YtljdahepmmgfeaaGreatDoor
namespace Go.Proofs.YtljdahepmmgfeaaGreatDoor
open Go Go.RowKit
def ccF : FSpec := fun l es => match l, es with
  | [.ptr 0 0], [.cells 52 [.nilp, .nils]] => some ([], .tup [], [some (.cells 52 [.ptr 0 0, .nils])])
  | [.ptr 0 0], [.cells 52 [.ptr 0 0, .sl 1 1 0 n], .ints 5 .u8 b] => some ([], .tup [], [some (.cells 52 [.ptr 0 0, .sl 1 1 0 n]), some (.ints 5 .u8 b)])
  | _, _ => none
theorem nf_frozen {w : World} {b : Nat} {cs : Array Value} {t : TypeId} {fr : Nat × Nat} {n k : Nat} (h : w.heap[b]? = some (.cells cs t fr)) (hf : NF fr n) (hk : k < n) : w.frozen? ⟨b, k, none⟩ = false := by
  have := hf.get k hk
  simp [World.frozen?, h]
  omega
theorem sh_cell {w : World} {b : Nat} {cs : Array Value} {t : TypeId} {fr : Nat × Nat} (h : w.heap[b]? = some (.cells cs t fr)) (k : Nat) : w.cell? ⟨b, k, none⟩ = cs[k]? := by simp [World.cell?, h]
theorem cc_g : GSOK Tryz.prog 48 (fG ccF) := by
  refine fok_snd (fn := Tryz.f48) ⟨Tryz.func48, by kernel_rfl, by kernel_rfl, by kernel_rfl⟩ fun l es obs v es' hF hob => ?_
  unfold ccF at hF
  split at hF
  · simp only [Option.some.injEq, Prod.mk.injEq] at hF
    obtain ⟨rfl, rfl, rfl⟩ := hF
    intro F Ob W0 A R w cl hA1 hA2 hH hc
    obtain ⟨hl, hr⟩ := hc
    match cl, hl with
    | [c], _ =>
      have r := hr 0 _ _ rfl rfl
      cases r with
      | ptr _ _ b hR =>
      obtain ⟨b', hb', hh⟩ := hH.ent 0 (.cells 52 [.nilp, .nils]) rfl
      rw [hR] at hb'
      cases hb'
      obtain ⟨vs, fr, hw, hnf, hvl, hcells⟩ := hh
      match vs, hvl with
      | [v0, v1], _ =>
        have r0 := (hcells 0 _ _ rfl rfl).2
        have r1 := (hcells 1 _ _ rfl rfl).2
        cases r0
        cases r1
        refine (Go.Proofs.Any.Builder_copyCheck_fresh sh_lays240 sh_Builder_Extra_156.toX72 b w (by rw [sh_cell hw]; rfl) (by unfold World.shape?; rw [hw]; rfl) (nf_frozen hw hnf (by decide))).mono fun en w' ⟨he, hw'⟩ => ?_
        subst hw'
        have hset : (w.setCell ⟨b, 0, none⟩ (.pointer (some ⟨b, 0, none⟩))).heap[b]? = some (.cells #[.pointer (some ⟨b, 0, none⟩), .slice none 0 0] 52 fr) := by
          simp [World.setCell, Array.getElem?_modify, hw]
        obtain ⟨p1, p2⟩ := hH.upd (en := .cells 52 [.ptr 0 0, .nils]) (e := .cells 52 [.nilp, .nils]) (i := 0) rfl hR (Ext.setCell (O := fun g => g = b) w (.pointer (some ⟨b, 0, none⟩)) rfl) ⟨[.pointer (some ⟨b, 0, none⟩), .slice none 0 0], fr, hset, hnf, rfl, fun j x v hx hv => by
          match j with
          | 0 => cases hx; cases hv; exact ⟨rfl, .ptr _ _ _ hR⟩
          | 1 => cases hx; cases hv; exact ⟨rfl, .nils⟩
          | j + 2 => cases hx⟩
        refine ⟨R, .tup [], _, .tuple #[], ?_, he, hA2, p1, .tup [] [] rfl (fun j x v hx => by cases hx)⟩
        refine ⟨[some 0], ?_⟩
        (repeat' (first | (refine xI (fun hfk => ?_) (fun hfk => ?_) <;> ((try (first | replace hfk := oT hfk | replace hfk := oF hfk | simp only [oD, ne_eq, reduceCtorEq] at hfk)); (try exact oX))) | refine And.intro oZ ?_ | exact True.intro | (show _ = _; first | exact oY | exact rfl) | exact oW | (apply And.intro)))
  · simp only [Option.some.injEq, Prod.mk.injEq] at hF
    obtain ⟨rfl, rfl, rfl⟩ := hF
    intro F Ob W0 A R w cl hA1 hA2 hH hc
    obtain ⟨hl, hr⟩ := hc
    match cl, hl with
    | [c], _ =>
      have r := hr 0 _ _ rfl rfl
      cases r with
      | ptr _ _ b hR =>
      obtain ⟨b', hb', hh⟩ := hH.ent 0 (.cells 52 [.ptr 0 0, .sl 1 1 0 _]) rfl
      rw [hR] at hb'
      cases hb'
      obtain ⟨vs, fr, hw, hnf, hvl, hcells⟩ := hh
      match vs, hvl with
      | [v0, v1], _ =>
        have r0 := (hcells 0 _ _ rfl rfl).2
        cases r0 with
        | ptr _ _ b2 hR2 =>
        rw [hR] at hR2
        cases hR2
        refine (Go.Proofs.Any.Builder_copyCheck_used sh_lays240 sh_Builder_Extra_156.toX72 b w (by rw [sh_cell hw]; rfl)).mono fun en w' ⟨he, hw'⟩ => ?_
        subst hw'
        refine ⟨R, .tup [], _, .tuple #[], ?_, he, hA2, hH, .tup [] [] rfl (fun j x v hx => by cases hx)⟩
        refine ⟨[some 0, some 1], ?_⟩
        (repeat' (first | (refine xI (fun hfk => ?_) (fun hfk => ?_) <;> ((try (first | replace hfk := oT hfk | replace hfk := oF hfk | simp only [oD, ne_eq, reduceCtorEq] at hfk)); (try exact oX))) | refine And.intro oZ ?_ | exact True.intro | (show _ = _; first | exact oY | exact rfl) | exact oW | (apply And.intro)))
  · cases hF
theorem st_walk (w : World) (b g n c : Nat) (p : Value) (cur : Array Value) (frb frg : Nat × Nat) (lb : List UInt8) (hb : w.heap[b]? = some (.cells #[p, .slice (some ⟨g, 0, none⟩) n c] 52 frb)) (hg : w.heap[g]? = some (.cells cur 5 frg))
    (hn : n = lb.length) (h0 : lb ≠ []) (hc : n ≤ c) (hcm : c ≤ maxLen) (hsz : n ≤ cur.size) (hcell : ∀ (j : Nat) x, lb[j]? = some x → cur[j]? = some (.int .u8 (x.toNat : Int))) :
    Calls Tryz.prog 30 #[.pointer (some ⟨b, 0, none⟩)] w fun e w' => e = .returned (.string ⟨lb.toArray⟩) ∧ w' = w.drew.freeze ⟨g, 0, none⟩ n := by
  subst hn
  have hl0 : lb.length ≠ 0 := by simpa using h0
  have c1 : w.drew.cell? ⟨b, 1, none⟩ = some (.slice (some ⟨g, 0, none⟩) lb.length c) := by
    have : w.drew.heap[b]? = some (.cells #[p, .slice (some ⟨g, 0, none⟩) lb.length c] 52 frb) := hb
    rw [sh_cell this]; rfl
  have hSD : (Builtin.unsafeSliceData_ #[22] 79 #[.slice (some ⟨g, 0, none⟩) lb.length c]).run Tryz.prog w.drew = .ok (.pointer (some ⟨g, 0, none⟩)) w.drew :=
    Lib.run_unsafeSliceData_row _ _ _ _ _ _ (by omega)
  have hUS : (Builtin.unsafeString_ #[79, 3] 9 #[.pointer (some ⟨g, 0, none⟩), .int .i64 lb.length]).run Tryz.prog w.drew = .ok (.string ⟨lb.toArray⟩) (w.drew.freeze ⟨g, 0, none⟩ lb.length) := by
    refine Lib.run_unsafeString_row w.drew 79 3 9 5 Tryz.underlying79 (by kernel_rfl) g cur.size (by have hg' : w.drew.heap[g]? = some (.cells cur 5 frg) := hg; simp [World.shape?, hg']) lb h0 hsz (by unfold maxLen at hcm; omega) ?_
    intro j x hx
    have hg' : w.drew.heap[g]? = some (.cells cur 5 frg) := hg
    rw [Addr.add_mid, sh_cell hg', Nat.zero_add]
    exact hcell j x hx
  have hmx : Tryz.prog.follows Departure.mixedOrders = true := mixed
  go_enter Tryz.func30, Tryz.ntmps30
  go_wp2
  go_region_o
  all_goals (go_wp2; go_ret; exact ⟨rfl, rfl⟩)
theorem freeze_n {w : World} {b : Nat} {vs : Array Value} {t : TypeId} {fr : Nat × Nat} (hw : w.heap[b]? = some (.cells vs t fr)) (a n : Nat) (hn : n ≠ 0) : Ext (fun g => g = b) w (w.freeze ⟨b, a, none⟩ n) := by
  obtain ⟨lo, hi⟩ := fr
  have hb : ∃ fr', (w.freeze ⟨b, a, none⟩ n).heap[b]? = some (.cells vs t fr') := by
    unfold World.freeze
    rw [if_neg hn]
    simp only [Array.getElem?_modify, if_pos, hw, Option.map_some]
    exact ⟨_, rfl⟩
  have ho : ∀ g, g ≠ b → (w.freeze ⟨b, a, none⟩ n).heap[g]? = w.heap[g]? := by
    intro g hg
    unfold World.freeze
    rw [if_neg hn]
    simp only [Array.getElem?_modify]
    rw [if_neg (fun h => hg h.symm)]
  obtain ⟨fr', hb⟩ := hb
  refine ⟨by unfold World.freeze; rw [if_neg hn], by unfold World.freeze; rw [if_neg hn], by unfold World.freeze; rw [if_neg hn], by unfold World.freeze; rw [if_neg hn]; simp, fun g _ hn => ho g hn, fun g s hs => ?_⟩
  by_cases hg : g = b
  · subst hg
    unfold World.shape? at hs ⊢
    rw [hw] at hs
    rw [hb]
    exact hs
  · rw [shape_of_block (ho g hg)]; exact hs
def stF : FSpec := fun l es => match l, es with
  | [.ptr 0 0], [.cells 52 [.ptr 0 0, .sl 1 1 0 n], .ints 5 .u8 b] => some ([n = b.length, 0 < n, Bytes b], .str (b.map fun n => UInt8.ofNat n.toNat), [none, none])
  | _, _ => none
theorem st_g : GSOK Tryz.prog 30 (fG stF) := by
  refine fok_snd (fn := Tryz.f30) ⟨Tryz.func30, by kernel_rfl, by kernel_rfl, by kernel_rfl⟩ fun l es obs v es' hF hob => ?_
  unfold stF at hF
  split at hF
  rotate_left
  · cases hF
  rename_i n bs
  simp only [Option.some.injEq, Prod.mk.injEq] at hF
  obtain ⟨rfl, rfl, rfl⟩ := hF
  simp only [List.mem_cons, List.not_mem_nil, or_false, forall_eq_or_imp, forall_eq] at hob
  obtain ⟨rfl, hn0, hB⟩ := hob
  intro F Ob W0 A R w cl hA1 hA2 hH hc
  obtain ⟨hl, hr⟩ := hc
  match cl, hl with
  | [c], _ =>
    have r := hr 0 _ _ rfl rfl
    cases r with
    | ptr _ _ b hR =>
    obtain ⟨b', hb', hh⟩ := hH.ent 0 (.cells 52 [.ptr 0 0, .sl 1 1 0 bs.length]) rfl
    rw [hR] at hb'
    cases hb'
    obtain ⟨vs, fr, hw, hnf, hvl, hcells⟩ := hh
    match vs, hvl with
    | [v0, v1], _ =>
      have r0 := (hcells 0 _ _ rfl rfl).2
      have r1 := (hcells 1 _ _ rfl rfl).2
      cases r0 with
      | ptr _ _ b2 hR2 =>
      rw [hR] at hR2
      cases hR2
      generalize hlen : bs.length = n at r1 hn0
      cases r1 with
      | slnil => omega
      | sl _ _ _ _ g cp off sh hRg hn hcm hof hss hl0 =>
      have h0 := hof (by omega)
      replace h0 : off = 0 := by omega
      subst h0
      obtain ⟨us, frg, g1, g2, g3, g4⟩ := ent_ints hH (i := 1) (t := 5) (k := .u8) (l := bs) rfl hRg
      have hlb : (bs.map fun n => UInt8.ofNat n.toNat).length = n := by rw [List.length_map]; exact hlen
      have hw' : w.heap[b]? = some (.cells #[.pointer (some ⟨b, 0, none⟩), .slice (some ⟨g, 0, none⟩) n cp] 52 fr) := hw
      refine (st_walk w b g n cp _ us.toArray fr frg (bs.map fun n => UInt8.ofNat n.toNat) hw' g1 hlb.symm (fun k => by rw [k] at hlb; simp at hlb; omega) hn hcm (by simp; omega) (fun j x hj => ?_)).mono fun en w' ⟨he, hw2⟩ => ?_
      · rw [List.getElem?_map] at hj
        obtain ⟨y, hy, rfl⟩ := opt_map hj
        have := g4 j y hy
        have hb2 := hB y (List.mem_of_getElem? hy)
        simp only [List.getElem?_toArray]
        rw [this]
        have : ((UInt8.ofNat y.toNat).toNat : Int) = y := by
          rw [UInt8.toNat_ofNat', Nat.mod_eq_of_lt (show y.toNat < 2 ^ 8 by omega)]; omega
        rw [this]
      · subst hw2
        have hgd : w.drew.heap[g]? = some (.cells us.toArray 5 frg) := g1
        have hx : Ext (fun q => q = g) w (w.drew.freeze ⟨g, 0, none⟩ n) := (Ext.drew _ w).trans (freeze_n hgd 0 n (by omega)) (fun _ _ k => k)
        obtain ⟨d1, _⟩ := hH.del 0
        obtain ⟨p1, _⟩ := d1.give (i := 1) (e := .ints 5 .u8 bs) rfl hRg hx
        refine ⟨R, .str (bs.map fun n => UInt8.ofNat n.toNat), _, _, ?_, he, hA2, p1, .str _⟩
        refine ⟨[some 0, some 1], ?_⟩
        (repeat' (first | (refine xI (fun hfk => ?_) (fun hfk => ?_) <;> ((try (first | replace hfk := oT hfk | replace hfk := oF hfk | simp only [oD, ne_eq, reduceCtorEq] at hfk)); (try exact oX))) | refine And.intro oZ ?_ | exact True.intro | (show _ = _; first | exact oY | exact rfl) | exact oW | (apply And.intro)))
def wsF : FSpec := fun l es => match l, es with
  | [.ptr 0 0, .str s], [.cells 52 [.nilp, .nils]] => some ([0 < s.length, s.length ≤ 1000000000], .tup [.int .i64 (s.length : Int), .val .nilIface], [some (.cells 52 [.ptr 0 0, .sl 1 1 0 s.length]), some (.ints 5 .u8 (s.map fun c => (c.toNat : Int)))])
  | [.ptr 0 0, .str s], [.cells 52 [.ptr 0 0, .sl 1 1 0 n], .ints 5 .u8 b] => some ([n = b.length, 0 < n, n ≤ 1000000000, s.length ≤ 1000000000], .tup [.int .i64 (s.length : Int), .val .nilIface], [some (.cells 52 [.ptr 0 0, .sl 2 1 0 (n + s.length)]), none, some (.ints 5 .u8 (b ++ s.map fun c => (c.toNat : Int)))])
  | _, _ => none
theorem ws_g : GSOK Tryz.prog 28 (fG wsF) := by
  refine fokN (S := []) (G := glook [(48, fG ccF)]) [] pok_nil (gl_cons cc_g gl_nil) ⟨Tryz.func28, by kernel_rfl, by kernel_rfl, by kernel_rfl⟩ fun l es obs v es' h ho => ?_
  unfold wsF at h
  split at h
  · rename_i s
    simp only [Option.some.injEq, Prod.mk.injEq] at h
    obtain ⟨rfl, rfl, rfl⟩ := h
    simp only [List.mem_cons, List.not_mem_nil, or_false, forall_eq_or_imp, forall_eq] at ho
    obtain ⟨h0, h1⟩ := ho
    refine ⟨Nat.le_of_ble_eq_true rfl, ?_⟩
    (repeat' (first | (refine xI (fun hfk => ?_) (fun hfk => ?_) <;> ((try (first | replace hfk := oT hfk | replace hfk := oF hfk | simp only [oD, ne_eq, reduceCtorEq] at hfk)); (try exact oX))) | refine And.intro oZ ?_ | exact True.intro | (show _ = _; first | exact oY | exact rfl) | exact oW | (apply And.intro)))
    (refine ⟨[0], ⟨by kernel_rfl⟩, ?_⟩)
    (repeat' (first | (refine xI (fun hfk => ?_) (fun hfk => ?_) <;> ((try (first | replace hfk := oT hfk | replace hfk := oF hfk | simp only [oD, ne_eq, reduceCtorEq] at hfk)); (try exact oX))) | refine And.intro oZ ?_ | exact True.intro | (show _ = _; first | exact oY | exact rfl) | exact oW | (apply And.intro)))
    refine ⟨[some 0, some 1], ?_⟩
    (repeat' (first | (refine xI (fun hfk => ?_) (fun hfk => ?_) <;> ((try (first | replace hfk := oT hfk | replace hfk := oF hfk | simp only [oD, ne_eq, reduceCtorEq] at hfk)); (try exact oX))) | refine And.intro oZ ?_ | exact True.intro | (show _ = _; first | exact oY | exact rfl) | exact oW | (apply And.intro)))
  · rename_i s n b
    simp only [Option.some.injEq, Prod.mk.injEq] at h
    obtain ⟨rfl, rfl, rfl⟩ := h
    simp only [List.mem_cons, List.not_mem_nil, or_false, forall_eq_or_imp, forall_eq] at ho
    obtain ⟨rfl, h0, h1, h2⟩ := ho
    refine ⟨Nat.le_of_ble_eq_true rfl, ?_⟩
    (repeat' (first | (refine xI (fun hfk => ?_) (fun hfk => ?_) <;> ((try (first | replace hfk := oT hfk | replace hfk := oF hfk | simp only [oD, ne_eq, reduceCtorEq] at hfk)); (try exact oX))) | refine And.intro oZ ?_ | exact True.intro | (show _ = _; first | exact oY | exact rfl) | exact oW | (apply And.intro)))
    (refine ⟨[0, 1], ⟨by kernel_rfl⟩, ?_⟩)
    (repeat' (first | (refine xI (fun hfk => ?_) (fun hfk => ?_) <;> ((try (first | replace hfk := oT hfk | replace hfk := oF hfk | simp only [oD, ne_eq, reduceCtorEq] at hfk)); (try exact oX))) | refine And.intro oZ ?_ | exact True.intro | (show _ = _; first | exact oY | exact rfl) | exact oW | (apply And.intro)))
    refine ⟨[some 0, some 1, some 2], ?_⟩
    (repeat' (first | (refine xI (fun hfk => ?_) (fun hfk => ?_) <;> ((try (first | replace hfk := oT hfk | replace hfk := oF hfk | simp only [oD, ne_eq, reduceCtorEq] at hfk)); (try exact oX))) | refine And.intro oZ ?_ | exact True.intro | (show _ = _; first | exact oY | exact rfl) | exact oW | (apply And.intro)))
  · cases h
end Go.Proofs.YtljdahepmmgfeaaGreatDoor
namespace Go.Proofs.YtljdahepmmgfeaaGreatDoor
open Go Go.RowKit
abbrev fiS : PSpec := fun l => match l with | [.int .i64 x, .int .i64 b] => some ([b = 10, -9223372036854775808 ≤ x, x ≤ 9223372036854775807], .str (Lib.itoa x)) | _ => none
theorem fi_s : SOK Tryz.prog 29 fiS := by
  refine ⟨⟨_, Tryz.func29, by kernel_rfl, by kernel_rfl⟩, fun l obs v h ho w O cl hf hc => ?_⟩
  (unfold fiS at h; split at h; rotate_left; (focus (cases h)); rename_i x b; simp only [Option.some.injEq, Prod.mk.injEq] at h; obtain ⟨rfl, rfl⟩ := h; simp only [List.mem_cons, List.not_mem_nil, or_false, forall_eq_or_imp, forall_eq, false_implies, implies_true] at ho)
  obtain ⟨rfl, h0, h1⟩ := ho
  obtain ⟨hl, hr⟩ := hc
  match cl, hl with
  | [c, d], _ =>
    have hc := hr 0 _ _ rfl rfl
    have hd := hr 1 _ _ rfl rfl
    cases hc
    cases hd
    refine (sh_strconv_FormatInt_10 x h0 h1 w (tab_pow10 hf.2)).mono fun en w' ⟨he, k, os, hw⟩ => ?_
    subst hw
    exact ⟨_, he, ext_below (below_grown w k os), .str _⟩
end Go.Proofs.YtljdahepmmgfeaaGreatDoor
namespace Go.Proofs.YtljdahepmmgfeaaGreatDoor
open Go Go.RowKit
theorem join4 {f : Nat → AV} {a b c d sep : List UInt8} (h0 : f 0 = .str a) (h1 : f 1 = .str b) (h2 : f 2 = .str c) (h3 : f 3 = .str d) : joinV 4 f sep = a ++ (sep ++ (b ++ (sep ++ (c ++ (sep ++ d))))) := by
  unfold joinV
  rw [show List.range 4 = [0, 1, 2, 3] from rfl]
  simp only [List.map_cons, List.map_nil, h0, h1, h2, h3, strA]
  unfold Lib.join
  simp [List.intercalate]
theorem jo4 {f : Nat → AV} {a b c d sep : List UInt8} (h0 : f 0 = .str a) (h1 : f 1 = .str b) (h2 : f 2 = .str c) (h3 : f 3 = .str d) (hl : a.length + b.length + c.length + d.length + 3 * sep.length ≤ 1000000) : JoOK 4 f sep := by
  refine ⟨fun j hj => ?_, by decide, ?_⟩
  · have : j = 0 ∨ j = 1 ∨ j = 2 ∨ j = 3 := by omega
    rcases this with rfl | rfl | rfl | rfl
    · exact ⟨_, h0⟩
    · exact ⟨_, h1⟩
    · exact ⟨_, h2⟩
    · exact ⟨_, h3⟩
  · rw [join4 h0 h1 h2 h3]
    simp only [List.length_append]
    omega
theorem jl4 {f : Nat → AV} {a b c d sep : List UInt8} (h0 : f 0 = .str a) (h1 : f 1 = .str b) (h2 : f 2 = .str c) (h3 : f 3 = .str d) : (joinV 4 f sep).length = a.length + b.length + c.length + d.length + 3 * sep.length := by
  rw [join4 h0 h1 h2 h3]
  simp only [List.length_append]
  omega
theorem i64_0 : I64 0 := i64_sm (by omega) (by omega)
attribute [local irreducible] outV wdV
end Go.Proofs.YtljdahepmmgfeaaGreatDoor
namespace Go.Proofs.YtljdahepmmgfeaaGreatDoor
open Go Go.RowKit
theorem join6 {f : Nat → AV} {a b c d x y sep : List UInt8} (h0 : f 0 = .str a) (h1 : f 1 = .str b) (h2 : f 2 = .str c) (h3 : f 3 = .str d) (h4 : f 4 = .str x) (h5 : f 5 = .str y) : joinV 6 f sep = a ++ (sep ++ (b ++ (sep ++ (c ++ (sep ++ (d ++ (sep ++ (x ++ (sep ++ y))))))))) := by
  unfold joinV
  rw [show List.range 6 = [0, 1, 2, 3, 4, 5] from rfl]
  simp only [List.map_cons, List.map_nil, h0, h1, h2, h3, h4, h5, strA]
  unfold Lib.join
  simp [List.intercalate]
theorem jl6 {f : Nat → AV} {a b c d x y sep : List UInt8} (h0 : f 0 = .str a) (h1 : f 1 = .str b) (h2 : f 2 = .str c) (h3 : f 3 = .str d) (h4 : f 4 = .str x) (h5 : f 5 = .str y) : (joinV 6 f sep).length = a.length + b.length + c.length + d.length + x.length + y.length + 5 * sep.length := by
  rw [join6 h0 h1 h2 h3 h4 h5]
  simp only [List.length_append]
  omega
theorem jo6 {f : Nat → AV} {a b c d x y sep : List UInt8} (h0 : f 0 = .str a) (h1 : f 1 = .str b) (h2 : f 2 = .str c) (h3 : f 3 = .str d) (h4 : f 4 = .str x) (h5 : f 5 = .str y) (hl : a.length + b.length + c.length + d.length + x.length + y.length + 5 * sep.length ≤ 1000000) : JoOK 6 f sep := by
  refine ⟨fun j hj => ?_, by decide, ?_⟩
  · have : j = 0 ∨ j = 1 ∨ j = 2 ∨ j = 3 ∨ j = 4 ∨ j = 5 := by omega
    rcases this with rfl | rfl | rfl | rfl | rfl | rfl
    · exact ⟨_, h0⟩
    · exact ⟨_, h1⟩
    · exact ⟨_, h2⟩
    · exact ⟨_, h3⟩
    · exact ⟨_, h4⟩
    · exact ⟨_, h5⟩
  · rw [jl6 h0 h1 h2 h3 h4 h5]
    omega
theorem jl3 {f : Nat → AV} {a b c sep : List UInt8} (h0 : f 0 = .str a) (h1 : f 1 = .str b) (h2 : f 2 = .str c) : (joinV 3 f sep).length = a.length + b.length + c.length + 2 * sep.length := by
  rw [join3 h0 h1 h2]
  simp only [List.length_append]
  omega
def hd53 (e a d c : Int) : List UInt8 :=
  if e ≠ 0 then [101, 114, 114, 111, 114, 32] ++ wdV e ++ [32, 97, 116, 32] ++ Lib.itoa a ++ [32, 99, 111, 115, 116, 32] ++ Lib.itoa c ++ [10]
  else [111, 107, 32] ++ Lib.itoa d ++ [32, 99, 111, 115, 116, 32] ++ Lib.itoa c ++ [10]
def li53 (i : Nat) (b : List Int) : List UInt8 := [111, 117, 116, 32] ++ Lib.itoa (i : Int) ++ [32] ++ outV b ++ [10]
def ot53 (L : List (List Int)) (k : Nat) : List UInt8 := ((List.range k).map fun i => li53 i (L.getD i [])).flatten
theorem ot_succ (L : List (List Int)) (k : Nat) : ot53 L (k + 1) = ot53 L k ++ li53 k (L.getD k []) := by
  unfold ot53
  rw [List.range_succ]
  simp
theorem ot_zero (L : List (List Int)) : ot53 L 0 = [] := rfl
structure TxR (L : List (List Int)) (e a d c : Int) : Prop where
  n20 : L.length ≤ 20
  byt : ∀ l ∈ L, Byt l
  ie : I64 e
  ia : I64 a
  id : I64 d
  ic : I64 c
theorem hd_len {L : List (List Int)} {e a d c : Int} (h : TxR L e a d c) : (hd53 e a d c).length ≤ 100 ∧ 1 ≤ (hd53 e a d c).length := by
  have := h.ia.len
  have := h.id.len
  have := h.ic.len
  have := wd_len e
  unfold hd53
  split <;> simp only [List.length_append, List.length_cons, List.length_nil] <;> omega
theorem li_len {L : List (List Int)} {e a d c : Int} (h : TxR L e a d c) {k : Nat} (hk : k < L.length) : (li53 k (L.getD k [])).length ≤ 1100 := by
  have hb : Byt (L.getD k []) := h.byt _ (by rw [List.getD_eq_getElem?_getD, List.getElem?_eq_getElem hk]; exact List.getElem_mem hk)
  have h1 := out_len _ hb
  have hn := h.n20
  have h2 : (Lib.itoa (k : Int)).length ≤ 20 := (i64_sm (by omega) (by omega) : I64 (k : Int)).len
  unfold li53
  simp only [List.length_append, List.length_cons, List.length_nil]
  omega
theorem ot_len {L : List (List Int)} {e a d c : Int} (h : TxR L e a d c) : ∀ {k : Nat}, k ≤ L.length → (ot53 L k).length ≤ 1100 * k
  | 0, _ => Nat.zero_le _
  | k + 1, hk => by
    have ih := ot_len h (k := k) (by omega)
    have := li_len h (k := k) (by omega)
    rw [ot_succ, List.length_append]
    omega
theorem u8_rt (s : List UInt8) : (s.map fun c => (c.toNat : Int)).map (fun n : Int => UInt8.ofNat n.toNat) = s := by
  rw [List.map_map]
  have e2 : ((fun n : Int => UInt8.ofNat n.toNat) ∘ fun c : UInt8 => (c.toNat : Int)) = id := by
    funext c
    show UInt8.ofNat ((c.toNat : Int)).toNat = c
    rw [Int.toNat_natCast]; exact UInt8.ofNat_toNat
  rw [e2, List.map_id]
theorem u8_bytes (s : List UInt8) : Bytes (s.map fun c => (c.toNat : Int)) := fun x hx => by
  obtain ⟨c, _, rfl⟩ := List.mem_map.1 hx
  have := c.toNat_lt
  omega
theorem len_i64w {n : Nat} (h : n ≤ 1000000) : (n : Int) ≤ IntKind.i64.max := by
  have : IntKind.i64.max = 9223372036854775807 := rfl
  omega
def txt53 (L : List (List Int)) (e a d c : Int) : List UInt8 := hd53 e a d c ++ ot53 L L.length
abbrev textL (L : List (List Int)) : PSpec := fun l => match l with
  | [.agg [.ro 1 n f, .int .i64 e, .int .i64 a, .int .i64 d, .int .i64 c, .int .i64 b, .int .i64 m]] => some ([n = L.length, f = (fun j => .roi .u8 (L.getD j [])), TxR L e a d c], .str (txt53 L e a d c))
  | _ => none
theorem hd_bad {e a d c : Int} (h : e ≠ 0) : (ByteArray.mk #[101, 114, 114, 111, 114]).data.toList ++ ([32] ++ (wdV e ++ ([32] ++ ((ByteArray.mk #[97, 116]).data.toList ++ ([32] ++ (Lib.itoa a ++ ([32] ++ ((ByteArray.mk #[99, 111, 115, 116]).data.toList ++ ([32] ++ Lib.itoa c))))))))) ++ (ByteArray.mk #[10]).data.toList = hd53 e a d c := by
  unfold hd53
  rw [if_pos h]
  show [101, 114, 114, 111, 114] ++ ([32] ++ (wdV e ++ ([32] ++ ([97, 116] ++ ([32] ++ (Lib.itoa a ++ ([32] ++ ([99, 111, 115, 116] ++ ([32] ++ Lib.itoa c))))))))) ++ [10] = _
  simp
theorem hd_ok {e a d c : Int} (h : e = 0) : (ByteArray.mk #[111, 107]).data.toList ++ ([32] ++ (Lib.itoa d ++ ([32] ++ ((ByteArray.mk #[99, 111, 115, 116]).data.toList ++ ([32] ++ Lib.itoa c))))) ++ (ByteArray.mk #[10]).data.toList = hd53 e a d c := by
  unfold hd53
  rw [if_neg (fun k => k h)]
  show [111, 107] ++ ([32] ++ (Lib.itoa d ++ ([32] ++ ([99, 111, 115, 116] ++ ([32] ++ Lib.itoa c))))) ++ [10] = _
  simp
theorem li_eq (i : Nat) (b : List Int) : (ByteArray.mk #[111, 117, 116]).data.toList ++ ([32] ++ (Lib.itoa (i : Int) ++ ([32] ++ outV b))) ++ (ByteArray.mk #[10]).data.toList = li53 i b := by
  unfold li53
  show [111, 117, 116] ++ ([32] ++ (Lib.itoa (i : Int) ++ ([32] ++ outV b))) ++ [10] = _
  simp
attribute [local irreducible] outV wdV hd53 li53 ot53
theorem textL_s (L : List (List Int)) : SOK Tryz.prog 12 (textL L) := by
  refine sok_of (C := mkK 0 [(17, itoa2S), (29, fiS), (16, lineS), (5, wordES), (7, outS)] (glook [(28, fG wsF), (30, fG stF)]) [6]) (mkK_ok (pok_cons itoa2_s (pok_cons fi_s (pok_cons line_s (pok_cons word53_s (pok_cons out53_s pok_nil))))) (gl_cons ws_g (gl_cons st_g gl_nil))) rfl mixed ⟨Tryz.func12, by kernel_rfl, by kernel_rfl, by kernel_rfl⟩ fun l obs v h ho => ?_
  unfold textL at h
  split at h
  rotate_left
  · cases h
  rename_i n f e a d c b m
  simp only [Option.some.injEq, Prod.mk.injEq] at h
  obtain ⟨rfl, rfl⟩ := h
  simp only [List.mem_cons, List.not_mem_nil, or_false, forall_eq_or_imp, forall_eq] at ho
  obtain ⟨rfl, rfl, ht⟩ := ho
  have ia := ht.ia
  have id := ht.id
  have ic := ht.ic
  have la := ia.len
  have ld := id.len
  have lc := ic.len
  have c0 := ic.lo
  have c1 := ic.hi
  have n20 := ht.n20
  have lw := wd_len e
  have lA : (ByteArray.mk #[111, 107]).data.toList.length = 2 := rfl
  have lB : (ByteArray.mk #[99, 111, 115, 116]).data.toList.length = 4 := rfl
  have lC : (ByteArray.mk #[10]).data.toList.length = 1 := rfl
  have lD : (ByteArray.mk #[101, 114, 114, 111, 114]).data.toList.length = 5 := rfl
  have lE : (ByteArray.mk #[97, 116]).data.toList.length = 2 := rfl
  have lS : ([32] : List UInt8).length = 1 := rfl
  refine ⟨Nat.le_of_ble_eq_true rfl, ?_⟩
  have hl := hd_len ht
  have tl := fun k (hk : k ≤ L.length) => ot_len ht hk
  by_cases he : e = 0
  · have hh := hd_ok (a := a) (d := d) (c := c) he
    (repeat' (first | (refine xI (fun hfk => ?_) (fun hfk => ?_) <;> ((try (first | replace hfk := oT hfk | replace hfk := oF hfk | simp only [oD, ne_eq, reduceCtorEq] at hfk)); (try exact oX))) | refine And.intro oZ ?_ | exact True.intro | (show _ = _; first | exact oY | exact rfl) | exact oW | (apply And.intro)))
    · exact jo4 rfl rfl rfl rfl (by omega)
    · refine len_i64 ?_
      rw [show ∀ f, (joinV (2 + 2) f [32]) = joinV 4 f [32] from fun _ => rfl, jl4 rfl rfl rfl rfl]
      omega
    · refine ⟨[2], ⟨by kernel_rfl⟩, ?_⟩
      (repeat' (first | (refine xI (fun hfk => ?_) (fun hfk => ?_) <;> ((try (first | replace hfk := oT hfk | replace hfk := oF hfk | simp only [oD, ne_eq, reduceCtorEq] at hfk)); (try exact oX))) | refine And.intro oZ ?_ | exact True.intro | (show _ = _; first | exact oY | exact rfl) | exact oW | (apply And.intro)))
      · rw [List.length_append, show ∀ f, (joinV (2 + 2) f [32]) = joinV 4 f [32] from fun _ => rfl, jl4 rfl rfl rfl rfl]
        omega
      refine ⟨[(1, .ptr 0 0), (2, .str []), (4, .ptr 1 0), (5, .fn 28 1 [.ptr 1 0])],
        ⟨3, [(0, some (.cells 31 [.ro 1 L.length (fun j => .roi .u8 (L.getD j [])), .int .i64 e, .int .i64 a, .int .i64 d, .int .i64 c, .int .i64 b, .int .i64 m])), (1, some (.cells 52 [.ptr 1 0, .sl 2 1 0 (hd53 e a d c).length])), (2, some (.ints 5 .u8 ((hd53 e a d c).map fun c => (c.toNat : Int))))]⟩, [some 0, some 2, some 5], ?_, ?_⟩
      · (repeat' (first | (refine And.intro ?_ ?_) | exact True.intro | (show _ = _; with_reducible rfl) | exact Chk.mk (by kernel_rfl)))
        all_goals first | rfl | (exact fun _ _ => rfl) | (rw [show ∀ f, (joinV (2 + 2) f [32]) = joinV 4 f [32] from fun _ => rfl, join4 rfl rfl rfl rfl, hh] <;> rfl)
      clear hh lA lB lC lD lE lS
      (repeat' (first | (refine xI (fun hfk => ?_) (fun hfk => ?_) <;> ((try (first | replace hfk := oT hfk | replace hfk := oF hfk | simp only [oD, ne_eq, reduceCtorEq] at hfk)); (try exact oX))) | refine And.intro oZ ?_ | exact True.intro | (show _ = _; first | exact oY | exact rfl) | exact oW | (apply And.intro)))
      refine ⟨Nat, fun i => [(2, .str []), (4, .ptr 0 0), (5, .fn 28 1 [.ptr 0 0]), (34, .ro 1 L.length (fun j => .roi .u8 (L.getD j []))), (35, .int .i64 ↑L.length), (36, .int .i64 (i : Int))],
        fun i => ⟨2, [(0, some (.cells 52 [.ptr 0 0, .sl 1 1 0 (hd53 e a d c ++ ot53 L i).length])), (1, some (.ints 5 .u8 ((hd53 e a d c ++ ot53 L i).map fun c => (c.toNat : Int))))]⟩,
        fun i => i ≤ L.length, fun i => L.length - i, ⟨0, [some 1, some 2], Nat.zero_le _, ?_⟩, fun i hi => ?_⟩
      · have e0 : hd53 e a d c ++ ot53 L 0 = hd53 e a d c := by rw [ot_zero, List.append_nil]
        (repeat' (first | (refine And.intro ?_ ?_) | exact True.intro | (show _ = _; with_reducible rfl) | exact Chk.mk (by kernel_rfl)))
        all_goals first | rfl | (exact fun _ _ => rfl) | exact congrArg (fun s : List UInt8 => s.length) e0.symm | exact congrArg (fun s : List UInt8 => (s.length : Int)) e0.symm | exact congrArg (fun s : List UInt8 => s.map fun c => (c.toNat : Int)) e0.symm
      have tli := tl i hi
      have lO : (ByteArray.mk #[111, 117, 116]).data.toList.length = 3 := rfl
      have lC : (ByteArray.mk #[10]).data.toList.length = 1 := rfl
      have lS : ([32] : List UInt8).length = 1 := rfl
      have hbs : i < L.length → Byt (L.getD i []) := fun hk => ht.byt _ (by rw [List.getD_eq_getElem?_getD, List.getElem?_eq_getElem hk]; exact List.getElem_mem hk)
      have ii : I64 (i : Int) := i64_sm (by omega) (by omega)
      have li := ii.len
      (repeat' (first | (refine xI (fun hfk => ?_) (fun hfk => ?_) <;> ((try (first | replace hfk := oT hfk | replace hfk := oF hfk | simp only [oD, ne_eq, reduceCtorEq] at hfk)); (try exact oX))) | refine And.intro oZ ?_ | exact True.intro | (show _ = _; first | exact oY | exact rfl) | exact oW | (apply And.intro)))
      · exact hbs (by omega)
      · have : (outV (L.getD (i : Int).toNat [])).length ≤ 1000 := out_len _ (hbs (by omega))
        exact jo3 rfl rfl rfl (by omega)
      · have : (outV (L.getD (i : Int).toNat [])).length ≤ 1000 := out_len _ (hbs (by omega))
        refine len_i64w ?_
        rw [jl3 rfl rfl rfl]
        omega
      · have : (outV (L.getD (i : Int).toNat [])).length ≤ 1000 := out_len _ (hbs (by omega))
        (refine ⟨[0, 1], ⟨by kernel_rfl⟩, ?_⟩)
        (repeat' (first | (refine xI (fun hfk => ?_) (fun hfk => ?_) <;> ((try (first | replace hfk := oT hfk | replace hfk := oF hfk | simp only [oD, ne_eq, reduceCtorEq] at hfk)); (try exact oX))) | refine And.intro oZ ?_ | exact True.intro | (show _ = _; first | exact oY | exact rfl) | exact oW | (apply And.intro)))
        · rw [List.length_append, jl3 rfl rfl rfl]
          omega
        have e1 : hd53 e a d c ++ ot53 L (i + 1) = (hd53 e a d c ++ ot53 L i) ++ li53 i (L.getD (i : Int).toNat []) := by
          rw [ot_succ, List.append_assoc]
          rfl
        refine ⟨i + 1, [some 0, some 3], ?_, ?_, ?_⟩
        · dsimp only
          omega
        · dsimp only
          omega
        · (repeat' (first | (refine And.intro ?_ ?_) | exact True.intro | (show _ = _; with_reducible rfl) | exact Chk.mk (by kernel_rfl)))
          all_goals first | (exact fun _ _ => rfl) | exact (Int.natCast_succ i).symm | (show _ = _; rw [join3 rfl rfl rfl, li_eq, e1]; exact List.length_append.symm) | (show _ = _; rw [join3 rfl rfl rfl, li_eq, e1]; exact List.map_append.symm)
      · (refine ⟨[0, 1], ⟨by kernel_rfl⟩, ?_⟩)
        (repeat' (first | (refine xI (fun hfk => ?_) (fun hfk => ?_) <;> ((try (first | replace hfk := oT hfk | replace hfk := oF hfk | simp only [oD, ne_eq, reduceCtorEq] at hfk)); (try exact oX))) | refine And.intro oZ ?_ | exact True.intro | (show _ = _; first | exact oY | exact rfl) | exact oW | (apply And.intro)))
        · exact u8_bytes _
        have ei : i = L.length := by omega
        have hfin : ((hd53 e a d c ++ ot53 L i).map fun c => (c.toNat : Int)).map (fun n : Int => UInt8.ofNat n.toNat) = txt53 L e a d c := by rw [u8_rt, ei]; rfl
        (repeat' (first | (refine xI (fun hfk => ?_) (fun hfk => ?_) <;> ((try (first | replace hfk := oT hfk | replace hfk := oF hfk | simp only [oD, ne_eq, reduceCtorEq] at hfk)); (try exact oX))) | refine And.intro oZ ?_ | exact True.intro | (show _ = _; first | exact oY | (exact hfin; done) | exact rfl) | exact oW | (apply And.intro)))
  · have hh := hd_bad (a := a) (d := d) (c := c) he
    (repeat' (first | (refine xI (fun hfk => ?_) (fun hfk => ?_) <;> ((try (first | replace hfk := oT hfk | replace hfk := oF hfk | simp only [oD, ne_eq, reduceCtorEq] at hfk)); (try exact oX))) | refine And.intro oZ ?_ | exact True.intro | (show _ = _; first | exact oY | exact rfl) | exact oW | (apply And.intro)))
    · exact jo6 rfl rfl rfl rfl rfl rfl (by omega)
    · refine len_i64 ?_
      rw [show ∀ f, (joinV (4 + 2) f [32]) = joinV 6 f [32] from fun _ => rfl, jl6 rfl rfl rfl rfl rfl rfl]
      omega
    · refine ⟨[3], ⟨by kernel_rfl⟩, ?_⟩
      (repeat' (first | (refine xI (fun hfk => ?_) (fun hfk => ?_) <;> ((try (first | replace hfk := oT hfk | replace hfk := oF hfk | simp only [oD, ne_eq, reduceCtorEq] at hfk)); (try exact oX))) | refine And.intro oZ ?_ | exact True.intro | (show _ = _; first | exact oY | exact rfl) | exact oW | (apply And.intro)))
      · rw [List.length_append, show ∀ f, (joinV (4 + 2) f [32]) = joinV 6 f [32] from fun _ => rfl, jl6 rfl rfl rfl rfl rfl rfl]
        omega
      refine ⟨[(1, .ptr 0 0), (2, .str []), (4, .ptr 1 0), (5, .fn 28 1 [.ptr 1 0])],
        ⟨3, [(0, some (.cells 31 [.ro 1 L.length (fun j => .roi .u8 (L.getD j [])), .int .i64 e, .int .i64 a, .int .i64 d, .int .i64 c, .int .i64 b, .int .i64 m])), (1, some (.cells 52 [.ptr 1 0, .sl 2 1 0 (hd53 e a d c).length])), (2, some (.ints 5 .u8 ((hd53 e a d c).map fun c => (c.toNat : Int))))]⟩, [some 0, some 3, some 6], ?_, ?_⟩
      · (repeat' (first | (refine And.intro ?_ ?_) | exact True.intro | (show _ = _; with_reducible rfl) | exact Chk.mk (by kernel_rfl)))
        all_goals first | rfl | (exact fun _ _ => rfl) | (rw [show ∀ f, (joinV (4 + 2) f [32]) = joinV 6 f [32] from fun _ => rfl, join6 rfl rfl rfl rfl rfl rfl, hh] <;> rfl)
      clear hh lA lB lC lD lE lS
      (repeat' (first | (refine xI (fun hfk => ?_) (fun hfk => ?_) <;> ((try (first | replace hfk := oT hfk | replace hfk := oF hfk | simp only [oD, ne_eq, reduceCtorEq] at hfk)); (try exact oX))) | refine And.intro oZ ?_ | exact True.intro | (show _ = _; first | exact oY | exact rfl) | exact oW | (apply And.intro)))
      refine ⟨Nat, fun i => [(2, .str []), (4, .ptr 0 0), (5, .fn 28 1 [.ptr 0 0]), (34, .ro 1 L.length (fun j => .roi .u8 (L.getD j []))), (35, .int .i64 ↑L.length), (36, .int .i64 (i : Int))],
        fun i => ⟨2, [(0, some (.cells 52 [.ptr 0 0, .sl 1 1 0 (hd53 e a d c ++ ot53 L i).length])), (1, some (.ints 5 .u8 ((hd53 e a d c ++ ot53 L i).map fun c => (c.toNat : Int))))]⟩,
        fun i => i ≤ L.length, fun i => L.length - i, ⟨0, [some 1, some 2], Nat.zero_le _, ?_⟩, fun i hi => ?_⟩
      · have e0 : hd53 e a d c ++ ot53 L 0 = hd53 e a d c := by rw [ot_zero, List.append_nil]
        (repeat' (first | (refine And.intro ?_ ?_) | exact True.intro | (show _ = _; with_reducible rfl) | exact Chk.mk (by kernel_rfl)))
        all_goals first | rfl | (exact fun _ _ => rfl) | exact congrArg (fun s : List UInt8 => s.length) e0.symm | exact congrArg (fun s : List UInt8 => (s.length : Int)) e0.symm | exact congrArg (fun s : List UInt8 => s.map fun c => (c.toNat : Int)) e0.symm
      have tli := tl i hi
      have lO : (ByteArray.mk #[111, 117, 116]).data.toList.length = 3 := rfl
      have lC : (ByteArray.mk #[10]).data.toList.length = 1 := rfl
      have lS : ([32] : List UInt8).length = 1 := rfl
      have hbs : i < L.length → Byt (L.getD i []) := fun hk => ht.byt _ (by rw [List.getD_eq_getElem?_getD, List.getElem?_eq_getElem hk]; exact List.getElem_mem hk)
      have ii : I64 (i : Int) := i64_sm (by omega) (by omega)
      have li := ii.len
      (repeat' (first | (refine xI (fun hfk => ?_) (fun hfk => ?_) <;> ((try (first | replace hfk := oT hfk | replace hfk := oF hfk | simp only [oD, ne_eq, reduceCtorEq] at hfk)); (try exact oX))) | refine And.intro oZ ?_ | exact True.intro | (show _ = _; first | exact oY | exact rfl) | exact oW | (apply And.intro)))
      · exact hbs (by omega)
      · have : (outV (L.getD (i : Int).toNat [])).length ≤ 1000 := out_len _ (hbs (by omega))
        exact jo3 rfl rfl rfl (by omega)
      · have : (outV (L.getD (i : Int).toNat [])).length ≤ 1000 := out_len _ (hbs (by omega))
        refine len_i64w ?_
        rw [jl3 rfl rfl rfl]
        omega
      · have : (outV (L.getD (i : Int).toNat [])).length ≤ 1000 := out_len _ (hbs (by omega))
        (refine ⟨[0, 1], ⟨by kernel_rfl⟩, ?_⟩)
        (repeat' (first | (refine xI (fun hfk => ?_) (fun hfk => ?_) <;> ((try (first | replace hfk := oT hfk | replace hfk := oF hfk | simp only [oD, ne_eq, reduceCtorEq] at hfk)); (try exact oX))) | refine And.intro oZ ?_ | exact True.intro | (show _ = _; first | exact oY | exact rfl) | exact oW | (apply And.intro)))
        · rw [List.length_append, jl3 rfl rfl rfl]
          omega
        have e1 : hd53 e a d c ++ ot53 L (i + 1) = (hd53 e a d c ++ ot53 L i) ++ li53 i (L.getD (i : Int).toNat []) := by
          rw [ot_succ, List.append_assoc]
          rfl
        refine ⟨i + 1, [some 0, some 3], ?_, ?_, ?_⟩
        · dsimp only
          omega
        · dsimp only
          omega
        · (repeat' (first | (refine And.intro ?_ ?_) | exact True.intro | (show _ = _; with_reducible rfl) | exact Chk.mk (by kernel_rfl)))
          all_goals first | (exact fun _ _ => rfl) | exact (Int.natCast_succ i).symm | (show _ = _; rw [join3 rfl rfl rfl, li_eq, e1]; exact List.length_append.symm) | (show _ = _; rw [join3 rfl rfl rfl, li_eq, e1]; exact List.map_append.symm)
      · (refine ⟨[0, 1], ⟨by kernel_rfl⟩, ?_⟩)
        (repeat' (first | (refine xI (fun hfk => ?_) (fun hfk => ?_) <;> ((try (first | replace hfk := oT hfk | replace hfk := oF hfk | simp only [oD, ne_eq, reduceCtorEq] at hfk)); (try exact oX))) | refine And.intro oZ ?_ | exact True.intro | (show _ = _; first | exact oY | exact rfl) | exact oW | (apply And.intro)))
        · exact u8_bytes _
        have ei : i = L.length := by omega
        have hfin : ((hd53 e a d c ++ ot53 L i).map fun c => (c.toNat : Int)).map (fun n : Int => UInt8.ofNat n.toNat) = txt53 L e a d c := by rw [u8_rt, ei]; rfl
        (repeat' (first | (refine xI (fun hfk => ?_) (fun hfk => ?_) <;> ((try (first | replace hfk := oT hfk | replace hfk := oF hfk | simp only [oD, ne_eq, reduceCtorEq] at hfk)); (try exact oX))) | refine And.intro oZ ?_ | exact True.intro | (show _ = _; first | exact oY | (exact hfin; done) | exact rfl) | exact oW | (apply And.intro)))
end Go.Proofs.YtljdahepmmgfeaaGreatDoor
namespace Go.Proofs.YtljdahepmmgfeaaGreatDoor
open Go Go.RowKit
theorem hd_badR {e a d c : Int} (h : e ≠ 0) : (ByteArray.mk #[101, 114, 114, 111, 114, 32]).data.toList ++ wdV e ++ (ByteArray.mk #[32, 97, 116, 32]).data.toList ++ Lib.itoa a ++ (ByteArray.mk #[32, 99, 111, 115, 116, 32]).data.toList ++ Lib.itoa c ++ (ByteArray.mk #[10]).data.toList = hd53 e a d c := by
  unfold hd53
  rw [if_pos h]
theorem hd_okR {e a d c : Int} (h : e = 0) : (ByteArray.mk #[111, 107, 32]).data.toList ++ Lib.itoa d ++ (ByteArray.mk #[32, 99, 111, 115, 116, 32]).data.toList ++ Lib.itoa c ++ (ByteArray.mk #[10]).data.toList = hd53 e a d c := by
  unfold hd53
  rw [if_neg (fun k => k h)]
theorem li_eqR (i : Nat) (b : List Int) (s : List UInt8) : s ++ (ByteArray.mk #[111, 117, 116, 32]).data.toList ++ Lib.itoa (i : Int) ++ (ByteArray.mk #[32]).data.toList ++ outV b ++ (ByteArray.mk #[10]).data.toList = s ++ li53 i b := by
  unfold li53
  show s ++ [111, 117, 116, 32] ++ Lib.itoa (i : Int) ++ [32] ++ outV b ++ [10] = _
  simp
attribute [local irreducible] outV wdV hd53 li53 ot53
abbrev rtextL (L : List (List Int)) : PSpec := fun l => match l with
  | [.ro 1 n f, .int .i64 e, .int .i64 a, .int .i64 d, .int .i64 c] => some ([n = L.length, f = (fun j => .roi .u8 (L.getD j [])), TxR L e a d c], .str (txt53 L e a d c))
  | _ => none
theorem rtextL_s (L : List (List Int)) : SOK Tryz.prog 11 (rtextL L) := by
  refine sok_of (C := mkC 0 [(24, num53S), (6, wordES), (8, outS)] noG) (mkC_ok (pok_cons number53_s (pok_cons rword53_s (pok_cons rout53_s pok_nil))) noG_ok) rfl mixed ⟨Tryz.func11, by kernel_rfl, by kernel_rfl, by kernel_rfl⟩ fun l obs v h ho => ?_
  unfold rtextL at h
  split at h
  rotate_left
  · cases h
  rename_i n f e a d c
  simp only [Option.some.injEq, Prod.mk.injEq] at h
  obtain ⟨rfl, rfl⟩ := h
  simp only [List.mem_cons, List.not_mem_nil, or_false, forall_eq_or_imp, forall_eq] at ho
  obtain ⟨rfl, rfl, ht⟩ := ho
  have ia := ht.ia
  have id := ht.id
  have ic := ht.ic
  have la := ia.len
  have ld := id.len
  have lc := ic.len
  have c0 := ic.lo
  have c1 := ic.hi
  have n20 := ht.n20
  have lw := wd_len e
  have lA : (ByteArray.mk #[111, 107, 32]).data.toList.length = 3 := rfl
  have lB : (ByteArray.mk #[32, 99, 111, 115, 116, 32]).data.toList.length = 6 := rfl
  have lC : (ByteArray.mk #[10]).data.toList.length = 1 := rfl
  have lD : (ByteArray.mk #[101, 114, 114, 111, 114, 32]).data.toList.length = 6 := rfl
  have lE : (ByteArray.mk #[32, 97, 116, 32]).data.toList.length = 4 := rfl
  have lS : (ByteArray.mk #[32]).data.toList.length = 1 := rfl
  have lO : (ByteArray.mk #[111, 117, 116, 32]).data.toList.length = 4 := rfl
  have hl := hd_len ht
  have tl := fun k (hk : k ≤ L.length) => ot_len ht hk
  refine ⟨Nat.le_of_ble_eq_true rfl, ?_⟩
  by_cases he : e = 0
  · have hh := hd_okR (a := a) (d := d) (c := c) he
    (repeat' (first | (refine xI (fun hfk => ?_) (fun hfk => ?_) <;> ((try (first | replace hfk := oT hfk | replace hfk := oF hfk | simp only [oD, ne_eq, reduceCtorEq] at hfk)); (try exact oX))) | refine And.intro oZ ?_ | exact True.intro | (show _ = _; first | exact oY | exact rfl) | exact oW | (apply And.intro)))
    all_goals first | (refine len_i64w ?_; (repeat rw [List.length_append]); omega) | skip
    refine ⟨Nat, fun i => [(0, .ro 1 L.length (fun j => .roi .u8 (L.getD j []))), (10, .str ((ByteArray.mk #[]).data.toList)), (11, .str (hd53 e a d c ++ ot53 L i)), (12, .int .i64 (i : Int))],
      fun i => ⟨0, []⟩, fun i => i ≤ L.length, fun i => L.length - i, ⟨0, [], Nat.zero_le _, ?_⟩, fun i hi => ?_⟩
    · have e0 : hd53 e a d c ++ ot53 L 0 = hd53 e a d c := by rw [ot_zero, List.append_nil]
      (repeat' (first | (refine And.intro ?_ ?_) | exact True.intro | (show _ = _; with_reducible rfl) | exact Chk.mk (by kernel_rfl)))
      all_goals first | rfl | (exact fun _ _ => rfl) | exact hh.trans e0.symm
    have tli := tl i hi
    have hbs : i < L.length → Byt (L.getD (i : Int).toNat []) := fun hk => ht.byt _ (by show L.getD i [] ∈ L; rw [List.getD_eq_getElem?_getD, List.getElem?_eq_getElem hk]; exact List.getElem_mem hk)
    have lob := fun hk => out_len _ (hbs hk)
    have ii : I64 (i : Int) := i64_sm (by omega) (by omega)
    have lli := ii.len
    (repeat' (first | (refine xI (fun hfk => ?_) (fun hfk => ?_) <;> ((try (first | replace hfk := oT hfk | replace hfk := oF hfk | simp only [oD, ne_eq, reduceCtorEq] at hfk)); (try exact oX))) | refine And.intro oZ ?_ | exact True.intro | (show _ = _; first | exact oY | exact rfl) | exact oW | (apply And.intro)))
    all_goals first | exact hbs (by omega) | (have := lob (by omega); refine len_i64w ?_; (repeat rw [List.length_append]); omega) | skip
    · have e1 : hd53 e a d c ++ ot53 L (i + 1) = (hd53 e a d c ++ ot53 L i) ++ li53 i (L.getD (i : Int).toNat []) := by
        rw [ot_succ, List.append_assoc]
        rfl
      refine ⟨i + 1, [], ?_, ?_, ?_⟩
      · dsimp only
        omega
      · dsimp only
        omega
      · (repeat' (first | (refine And.intro ?_ ?_) | exact True.intro | (show _ = _; with_reducible rfl) | exact Chk.mk (by kernel_rfl)))
        all_goals first | rfl | (exact fun _ _ => rfl) | exact (Int.natCast_succ i).symm | exact (li_eqR i _ _).trans e1.symm
    · have ei : i = L.length := by omega
      have hfin : hd53 e a d c ++ ot53 L i = txt53 L e a d c := by rw [ei]; rfl
      (repeat' (first | (refine xI (fun hfk => ?_) (fun hfk => ?_) <;> ((try (first | replace hfk := oT hfk | replace hfk := oF hfk | simp only [oD, ne_eq, reduceCtorEq] at hfk)); (try exact oX))) | refine And.intro oZ ?_ | exact True.intro | (show _ = _; first | exact oY | (exact hfin; done) | exact rfl) | exact oW | (apply And.intro)))
  · have hh := hd_badR (a := a) (d := d) (c := c) he
    (repeat' (first | (refine xI (fun hfk => ?_) (fun hfk => ?_) <;> ((try (first | replace hfk := oT hfk | replace hfk := oF hfk | simp only [oD, ne_eq, reduceCtorEq] at hfk)); (try exact oX))) | refine And.intro oZ ?_ | exact True.intro | (show _ = _; first | exact oY | exact rfl) | exact oW | (apply And.intro)))
    all_goals first | (refine len_i64w ?_; (repeat rw [List.length_append]); omega) | skip
    refine ⟨Nat, fun i => [(0, .ro 1 L.length (fun j => .roi .u8 (L.getD j []))), (10, .str ((ByteArray.mk #[]).data.toList)), (11, .str (hd53 e a d c ++ ot53 L i)), (12, .int .i64 (i : Int))],
      fun i => ⟨0, []⟩, fun i => i ≤ L.length, fun i => L.length - i, ⟨0, [], Nat.zero_le _, ?_⟩, fun i hi => ?_⟩
    · have e0 : hd53 e a d c ++ ot53 L 0 = hd53 e a d c := by rw [ot_zero, List.append_nil]
      (repeat' (first | (refine And.intro ?_ ?_) | exact True.intro | (show _ = _; with_reducible rfl) | exact Chk.mk (by kernel_rfl)))
      all_goals first | rfl | (exact fun _ _ => rfl) | exact hh.trans e0.symm
    have tli := tl i hi
    have hbs : i < L.length → Byt (L.getD (i : Int).toNat []) := fun hk => ht.byt _ (by show L.getD i [] ∈ L; rw [List.getD_eq_getElem?_getD, List.getElem?_eq_getElem hk]; exact List.getElem_mem hk)
    have lob := fun hk => out_len _ (hbs hk)
    have ii : I64 (i : Int) := i64_sm (by omega) (by omega)
    have lli := ii.len
    (repeat' (first | (refine xI (fun hfk => ?_) (fun hfk => ?_) <;> ((try (first | replace hfk := oT hfk | replace hfk := oF hfk | simp only [oD, ne_eq, reduceCtorEq] at hfk)); (try exact oX))) | refine And.intro oZ ?_ | exact True.intro | (show _ = _; first | exact oY | exact rfl) | exact oW | (apply And.intro)))
    all_goals first | exact hbs (by omega) | (have := lob (by omega); refine len_i64w ?_; (repeat rw [List.length_append]); omega) | skip
    · have e1 : hd53 e a d c ++ ot53 L (i + 1) = (hd53 e a d c ++ ot53 L i) ++ li53 i (L.getD (i : Int).toNat []) := by
        rw [ot_succ, List.append_assoc]
        rfl
      refine ⟨i + 1, [], ?_, ?_, ?_⟩
      · dsimp only
        omega
      · dsimp only
        omega
      · (repeat' (first | (refine And.intro ?_ ?_) | exact True.intro | (show _ = _; with_reducible rfl) | exact Chk.mk (by kernel_rfl)))
        all_goals first | rfl | (exact fun _ _ => rfl) | exact (Int.natCast_succ i).symm | exact (li_eqR i _ _).trans e1.symm
    · have ei : i = L.length := by omega
      have hfin : hd53 e a d c ++ ot53 L i = txt53 L e a d c := by rw [ei]; rfl
      (repeat' (first | (refine xI (fun hfk => ?_) (fun hfk => ?_) <;> ((try (first | replace hfk := oT hfk | replace hfk := oF hfk | simp only [oD, ne_eq, reduceCtorEq] at hfk)); (try exact oX))) | refine And.intro oZ ?_ | exact True.intro | (show _ = _; first | exact oY | (exact hfin; done) | exact rfl) | exact oW | (apply And.intro)))
end Go.Proofs.YtljdahepmmgfeaaGreatDoor
namespace Go.Proofs.YtljdahepmmgfeaaGreatDoor
open Go Go.RowKit
def u8I (s : List UInt8) : List Int := s.map fun c => (c.toNat : Int)
theorem txt_len {L : List (List Int)} {e a d c : Int} (h : TxR L e a d c) : (txt53 L e a d c).length ≤ 30000 := by
  have h1 := hd_len h
  have h2 := ot_len h (Nat.le_refl L.length)
  have h3 := h.n20
  unfold txt53
  rw [List.length_append]
  omega
attribute [local irreducible] txt53
abbrev sumL (L : List (List Int)) : PSpec := fun l => match l with
  | [.agg [.ro 1 n f, .int .i64 e, .int .i64 a, .int .i64 d, .int .i64 c, .int .i64 b, .int .i64 m]] => some ([n = L.length, f = (fun j => .roi .u8 (L.getD j [])), TxR L e a d c], .int .u64 (dgV (u8I (txt53 L e a d c))))
  | _ => none
theorem sumL_s (L : List (List Int)) : SOK Tryz.prog 13 (sumL L) := by
  refine sok_of (C := mkT 0 [(12, textL L), (19, bytesHS)] noG [] [] []) (mkT_ok (pok_cons (textL_s L) (pok_cons bytesH_s pok_nil)) noG_ok dl_nil) rfl mixed ⟨Tryz.func13, by kernel_rfl, by kernel_rfl, by kernel_rfl⟩ fun l obs v h ho => ?_
  unfold sumL at h
  split at h
  rotate_left
  · cases h
  rename_i n f e a d c b m
  simp only [Option.some.injEq, Prod.mk.injEq] at h
  obtain ⟨rfl, rfl⟩ := h
  simp only [List.mem_cons, List.not_mem_nil, or_false, forall_eq_or_imp, forall_eq] at ho
  obtain ⟨rfl, rfl, ht⟩ := ho
  have hl := txt_len ht
  have e1 : List.take (txt53 L e a d c).length (List.drop 0 (u8I (txt53 L e a d c))) = u8I (txt53 L e a d c) := by
    rw [List.drop_zero]
    exact List.take_of_length_le (by unfold u8I; rw [List.length_map]; exact Nat.le_refl _)
  have b1 : Bytes (List.take (txt53 L e a d c).length (List.drop 0 (u8I (txt53 L e a d c)))) := by rw [e1]; exact u8_bytes _
  refine ⟨Nat.le_of_ble_eq_true rfl, ?_⟩
  (repeat' (first | (refine xI (fun hfk => ?_) (fun hfk => ?_) <;> ((try (first | replace hfk := oT hfk | replace hfk := oF hfk | simp only [oD, ne_eq, reduceCtorEq] at hfk)); (try exact oX))) | refine And.intro oZ ?_ | exact True.intro | (show _ = _; first | exact oY | (exact congrArg dgV e1; done) | exact rfl) | exact oW | (apply And.intro)))
  · exact b1
end Go.Proofs.YtljdahepmmgfeaaGreatDoor
namespace Go.Proofs.YtljdahepmmgfeaaGreatDoor
open Go Go.RowKit
theorem sumN_one (f : Nat → Nat) : ∀ (k j : Nat), j < k → f j ≤ sumN f k
  | 0, j, h => by omega
  | k + 1, j, h => by
    show f j ≤ sumN f k + f k
    by_cases e : j = k
    · subst e; omega
    · have := sumN_one f k j (by omega)
      omega
theorem few_inv {L : List (List Int)} (h : few53V L = true) : L.length ≤ 20 ∧ ∀ l ∈ L, l.length ≤ 20000 := by
  obtain ⟨h1, h2⟩ := of_decide_eq_true h
  refine ⟨h1, fun l hl => ?_⟩
  obtain ⟨j, hj, rfl⟩ := List.getElem_of_mem hl
  have h3 : (L.getD j []).length ≤ sumN (fun j => (L.getD j []).length) L.length := sumN_one (fun j => (L.getD j []).length) L.length j hj
  have e : L.getD j [] = L[j] := by rw [List.getD_eq_getElem?_getD, List.getElem?_eq_getElem hj]; rfl
  rw [e] at h3
  exact Nat.le_trans h3 h2
theorem txt_0 (a : Int) : txt53 [] 0 a 0 0 = (ByteArray.mk #[111, 107, 32, 48, 32, 99, 111, 115, 116, 32, 48, 10]).data.toList := by
  have e0 : Lib.itoa 0 = [48] := by
    have := Lib.itoa_nonneg 0
    rw [Lib.decDigits_one (by decide)] at this
    exact this
  unfold txt53 hd53
  rw [if_neg (fun k => k rfl), e0]
  rfl
abbrev text0bS : PSpec := fun l => match l with
  | [.agg [.nils, .int .i64 e, .int .i64 a, .int .i64 d, .int .i64 c, .int .i64 b, .int .i64 m]] => some ([e = 0, d = 0, c = 0, a = 0], .str (ByteArray.mk #[111, 107, 32, 48, 32, 99, 111, 115, 116, 32, 48, 10]).data.toList)
  | _ => none
theorem text0b_s : SOK Tryz.prog 12 text0bS := by
  refine ⟨(textL_s []).1, fun l obs v h ho w O cl hf hc => ?_⟩
  (unfold text0bS at h; split at h; rotate_left; (focus (cases h)); rename_i e a d c b m; simp only [Option.some.injEq, Prod.mk.injEq] at h; obtain ⟨rfl, rfl⟩ := h; simp only [List.mem_cons, List.not_mem_nil, or_false, forall_eq_or_imp, forall_eq, false_implies, implies_true] at ho)
  obtain ⟨rfl, rfl, rfl, rfl⟩ := ho
  have i0 := i64_0
  obtain ⟨hl, hr⟩ := hc
  match cl, hl with
  | [c], _ =>
    have h0 := hr 0 _ _ rfl rfl
    cases h0 with
    | agg _ vs hl2 h2 =>
      have key := (textL_s []).2 [.agg [.ro 1 0 (fun j => .roi .u8 (([] : List (List Int)).getD j [])), .int .i64 0, .int .i64 0, .int .i64 0, .int .i64 0, .int .i64 b, .int .i64 m]] _ _ rfl (by
        intro p hp
        simp only [List.mem_cons, List.not_mem_nil, or_false] at hp
        rcases hp with rfl | rfl | rfl
        · rfl
        · trivial
        · exact ⟨by decide, (fun l hl => by cases hl), i0, i0, i0, i0⟩) w O [.agg vs.toArray] hf ⟨rfl, fun j x v hx hv => by
          match j with
          | 0 =>
            cases hx
            cases hv
            refine .agg _ _ hl2 fun j x v hx hv => ?_
            match j with
            | 0 =>
              cases hx
              have h3 := h2 0 _ _ rfl hv
              cases h3
              exact .ronil _ _
            | j + 1 => exact h2 (j + 1) x v hx hv⟩
      rw [txt_0 0] at key
      exact key
theorem alive53b_s : SOK Tryz.prog 9 (sN (.bool true)) := by
  refine sok_of (C := mkC 0 [(12, text0bS)] noG) (mkC_ok (pok_cons text0b_s pok_nil) noG_ok) rfl mixed ⟨Tryz.func9, by kernel_rfl, by kernel_rfl, by kernel_rfl⟩ fun l obs v h ho => ?_
  obtain ⟨rfl, rfl, rfl⟩ := sN_inv h
  refine ⟨Nat.le_of_ble_eq_true rfl, ?_⟩
  (repeat' (first | (refine xI (fun hfk => ?_) (fun hfk => ?_) <;> ((try (first | replace hfk := oT hfk | replace hfk := oF hfk | simp only [oD, ne_eq, reduceCtorEq] at hfk)); (try exact oX))) | refine And.intro oZ ?_ | exact True.intro | (show _ = _; first | exact oY | exact rfl) | exact oW | (apply And.intro)))
theorem i64w {x : Int} (h : (Lit.int .i64 x).wf = true) : I64 x := by
  simp [Lit.wf, IntKind.min, IntKind.max, IntKind.signed, IntKind.bits] at h
  exact ⟨by omega, by omega⟩
theorem rb_le : reachBytes ≤ 140737488355328 := by decide
attribute [local irreducible] txt53 few53V dgV
theorem walk_ReportTexts' (L : List (List Int)) (e a d c b m : Int) (hO : ∀ l ∈ L, ∀ x ∈ l, (Lit.int .u8 x).wf = true) (hR : ∀ l ∈ L, l.length ≤ reachBytes) (we : (Lit.int .i64 e).wf = true) (wa : (Lit.int .i64 a).wf = true) (wd : (Lit.int .i64 d).wf = true) (wc : (Lit.int .i64 c).wf = true) (W : World) (hgl : GL W NoO) {cl : List Value} (hcl : CRel noN W NoO [.agg [.ro 1 L.length (fun j => .roi .u8 (L.getD j [])), .int .i64 e, .int .i64 a, .int .i64 d, .int .i64 c, .int .i64 b, .int .i64 m]] cl) :
    Calls Tryz.prog 4 cl.toArray W fun e W' => e = .returned (.bool true) ∧ Below W.heap.size W W' := by
  have hB : ∀ l ∈ L, Bytes l := fun l hl => bytes_of (hO l hl)
  have ie := i64w we
  have ia := i64w wa
  have id := i64w wd
  have ic := i64w wc
  have hLL : ∀ l ∈ L, l.length ≤ 140737488355328 := fun l hl => Nat.le_trans (hR l hl) rb_le
  have hLj : ∀ j, (L.getD j []).length ≤ 140737488355328 := fun j => by
    by_cases hj : j < L.length
    · exact hLL _ (by rw [List.getD_eq_getElem?_getD, List.getElem?_eq_getElem hj]; exact List.getElem_mem hj)
    · rw [List.getD_eq_getElem?_getD, List.getElem?_eq_none (by omega)]
      exact Nat.zero_le _
  refine law_of (C := mkT 0 [(10, few53S L), (12, textL L), (11, rtextL L), (13, sumL L), (14, bytesHS), (9, sN (.bool true))] noG [] [] [])
    (mkT_ok (pok_cons (few53_s L) (pok_cons (textL_s L) (pok_cons (rtextL_s L) (pok_cons (sumL_s L) (pok_cons rbytes12_s (pok_cons alive53b_s pok_nil)))))) noG_ok dl_nil) rfl ⟨Tryz.func4, by kernel_rfl, by kernel_rfl, by kernel_rfl⟩ (by exact Nat.le_of_ble_eq_true rfl) ?_ hcl (hg := hgl)
  by_cases hf : few53V L = true
  · obtain ⟨h20, hl⟩ := few_inv hf
    have hT : TxR L e a d c := ⟨h20, fun l hm => ⟨by have := hl l hm; omega, fun i => (hB l hm).get i⟩, ie, ia, id, ic⟩
    have htl := txt_len hT
    have e1 : List.take (txt53 L e a d c).length (List.drop 0 (u8I (txt53 L e a d c))) = u8I (txt53 L e a d c) := by
      rw [List.drop_zero]
      exact List.take_of_length_le (by unfold u8I; rw [List.length_map]; exact Nat.le_refl _)
    have e2 : dgV (u8I (txt53 L e a d c)) = dgV (List.take (txt53 L e a d c).length (List.drop 0 (List.map (fun c => (c.toNat : Int)) (txt53 L e a d c)))) := congrArg dgV e1.symm
    have b1 : Bytes (List.take (txt53 L e a d c).length (List.drop 0 (u8I (txt53 L e a d c)))) := by rw [e1]; exact u8_bytes _
    (repeat' (first | (refine xI (fun hfk => ?_) (fun hfk => ?_) <;> ((try (first | replace hfk := oT hfk | replace hfk := oF hfk | simp only [oD, ne_eq, reduceCtorEq] at hfk)); (try exact oX))) | refine And.intro oZ ?_ | exact True.intro | (show _ = _; first | exact oY | (first | exact hT | rfl; done) | exact rfl) | exact oW | (apply And.intro)))
    · exact b1
  · have hf : few53V L = false := by cases h : few53V L <;> simp_all
    (repeat' (first | (refine xI (fun hfk => ?_) (fun hfk => ?_) <;> ((try (first | replace hfk := oT hfk | replace hfk := oF hfk | simp only [oD, ne_eq, reduceCtorEq] at hfk)); (try exact oX))) | refine And.intro oZ ?_ | exact True.intro | (show _ = _; first | exact oY | exact rfl) | exact oW | (apply And.intro)))
end Go.Proofs.YtljdahepmmgfeaaGreatDoor

