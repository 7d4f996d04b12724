/- Texts laid together. No condition. -/
import Derived.Test.YtblloaajiaoblaaDoorS2
import Derived.Shelf.Strings.Builder1
import Derived.Shelf.Strings.Builder2
import Derived.Shelf.Strings.OnBuilder
import Derived.Shelf.Strings.BuilderF
import Derived.Shelf.Strings.BuilderK
import Derived.Shelf.Strings.Builder2Cap
import Derived.Shelf.Strconv.Itoa0
import Derived.Shelf.Strconv.Itoa1
import Derived.Shelf.LaysM
import Derived.Shelf.Strconv.Itoa2
import Derived.Shelf.Strconv.Itoa3
import Derived.Shelf.Strconv.Itoa4
import Derived.Shelf.Strconv.ParseIntEmpty
import Derived.Shelf.Strconv.Clone
import Derived.Shelf.Strconv.SyntaxError
import Derived.Shelf.LaysC
import Derived.Shelf.Strconv.ToError
import Derived.Shelf.Strconv.Lower
import Derived.Shelf.Strconv.ParseUint10
import Derived.Shelf.Strconv.ParseUint10Empty
import Derived.Shelf.Strconv.ParseUint10Any
import Derived.Shelf.Strconv.ParseInt10
import Derived.Shelf.Strconv.RangeError
import Derived.Shelf.Strconv.ToErrorRange
import Derived.Shelf.Strconv.ParseUintEmpty
import Derived.Shelf.Strconv.ParseUint10b64
import Derived.Shelf.Strconv.ParseUint10b32
import Derived.Shelf.Strconv.ParseUint10b16
import Derived.Shelf.Strconv.ParseUint10b8
import Derived.Shelf.Strconv.ParseUint10At
import Derived.Shelf.Strconv.ParseInt10At64
import Derived.Shelf.Strconv.ParseInt10At32
import Derived.Shelf.Strconv.ParseInt10At16
import Derived.Shelf.Strconv.ParseInt10At8
import Derived.Shelf.Strconv.ParseInt10All
import Derived.Shelf.Strconv.ParseIntPublic10
import Derived.Shelf.Strconv.ErrVarParseInt
import Derived.Ground.MpProg
import Derived.Shelf.Pu.ParseUintPublic10
import Derived.Shelf.Pu.ErrVarParseUint
import Derived.Shelf.Strings.Prefix
import Derived.Shelf.Bits.Mul64
import Derived.Shelf.Strings.Repeat
import Derived.Shelf.Strings.BuilderCap
import Derived.Test.YtblloaajiaoblaaDoorProg
import Derived.Test.YtblloaajiaoblaaDoorE14
import Derived.BigCall
import Derived.Lib.AtoiErrMem
set_option maxRecDepth 100000
set_option maxHeartbeats 4000000
set_option linter.unusedVariables false
set_option linter.unusedSimpArgs false
namespace Go.Proofs.YtblloaajiaoblaaDoor
open Go Go.Shelf
def sh_lays156_ren : Go.Shelf.Ren := ⟨fun | 156 => 42 | 165 => 50 | 166 => 41 | 169 => 43 | 240 => 65 | 241 => 80 | 276 => 83 | 277 => 94 | n => n, fun | 31 => 44 | 9 => 9 | 3 => 3 | 4 => 4 | 0 => 0 | 20 => 20 | 72 => 78 | 76 => 79 | 70 => 76 | 37 => 22 | 75 => 56 | 127 => 100 | 164 => 122 | 5 => 5 | 80 => 82 | n => n, fun | n => n⟩
theorem sh_lays156 : Go.Proofs.Lays.n156 Tryd.prog sh_lays156_ren := {
  mixed := by kernel_rfl
  f156 := Tryd.func42.trans (congrArg some (by kernel_rfl))
  f165 := Tryd.func50.trans (congrArg some (by kernel_rfl))
  f166 := Tryd.func41.trans (congrArg some (by kernel_rfl))
  f169 := Tryd.func43.trans (congrArg some (by kernel_rfl))
  f240 := Tryd.func65.trans (congrArg some (by kernel_rfl))
  f241 := Tryd.func80.trans (congrArg some (by kernel_rfl))
  f276 := Tryd.func83.trans (congrArg some (by kernel_rfl))
  f277 := Tryd.func94.trans (congrArg some (by kernel_rfl))
  t0 := Tryd.underlying0
  a0 := Tryd.isAgg0
  z0 := Tryd.sizeOf0
  v0 := Tryd.zeroValue0
  t3 := Tryd.underlying3
  a3 := Tryd.isAgg3
  z3 := Tryd.sizeOf3
  v3 := Tryd.zeroValue3
  t4 := Tryd.underlying4
  a4 := Tryd.isAgg4
  z4 := Tryd.sizeOf4
  v4 := Tryd.zeroValue4
  t9 := Tryd.underlying9
  a9 := Tryd.isAgg9
  z9 := Tryd.sizeOf9
  v9 := Tryd.zeroValue9
  t20 := Tryd.underlying20
  a20 := Tryd.isAgg20
  z20 := Tryd.sizeOf20
  v20 := Tryd.zeroValue20
  t31 := Tryd.underlying44
  a31 := Tryd.isAgg44
  z31 := Tryd.sizeOf44
  v31 := Tryd.zeroValue44
  t37 := Tryd.underlying22
  a37 := Tryd.isAgg22
  z37 := Tryd.sizeOf22
  v37 := Tryd.zeroValue22
  t70 := Tryd.underlying76
  a70 := Tryd.isAgg76
  z70 := Tryd.sizeOf76
  v70 := Tryd.zeroValue76
  t72 := Tryd.underlying78
  a72 := Tryd.isAgg78
  z72 := Tryd.sizeOf78
  v72 := Tryd.zeroValue78
  t75 := Tryd.underlying56
  a75 := Tryd.isAgg56
  z75 := Tryd.sizeOf56
  v75 := Tryd.zeroValue56
  t76 := Tryd.underlying79
  a76 := Tryd.isAgg79
  z76 := Tryd.sizeOf79
  v76 := Tryd.zeroValue79
  t127 := Tryd.underlying100
  a127 := Tryd.isAgg100
  z127 := Tryd.sizeOf100
  v127 := Tryd.zeroValue100
  t164 := Tryd.underlying122
  a164 := Tryd.isAgg122
  z164 := Tryd.sizeOf122
  v164 := Tryd.zeroValue122 }
theorem sh_Builder_Extra_156 : Builder.Extra Tryd.prog sh_lays156_ren := {
  sizeBuilder := by kernel_rfl
  liesBuilder := by kernel_rfl
  t5 := Tryd.underlying5
  a5 := Tryd.isAgg5
  z5 := Tryd.sizeOf5
  v5 := Tryd.zeroValue5
  infoByte := by kernel_rfl
  cellsByte := by kernel_rfl
  sizeByte := by kernel_rfl
  neB5 := by decide }
open Go.RowKit in
theorem sh_strings_Join_none (a : Option Addr) (c : Nat) (sep : ByteArray) (w : World) :
    Calls Tryd.prog 42 #[.slice a 0 c, .string sep] w fun e w' => e = .returned (.string ⟨#[]⟩) ∧ w' = w := Any.strings_Join_none sh_lays156 sh_Builder_Extra_156 a c sep w
open Go.RowKit in
theorem sh_strings_Join (bk o c : Nat) (xs : List ByteArray) (sep : ByteArray) (w : World) (hcells : ∀ (j : Nat) x, xs[j]? = some x → w.cell? ⟨bk, o + j, none⟩ = some (.string x)) (hbk : bk < w.heap.size) (hN : xs.length ≤ 140737488355328) (hcap : xs.length ≤ c) (hlen : (Lib.join (xs.map (·.data.toList)) sep.data.toList).length ≤ 140737488355328) :
    Calls Tryd.prog 42 #[.slice (some ⟨bk, o, none⟩) xs.length c, .string sep] w fun e w' => e = .returned (.string ⟨(Lib.join (xs.map (·.data.toList)) sep.data.toList).toArray⟩) ∧ Below w.heap.size w w' := Any.strings_Join sh_lays156 sh_Builder_Extra_156 bk o c xs sep w hcells hbk hN hcap hlen
open Go.RowKit Go.Sort Go.Lib in
def sh_laysM173_ren : Go.Shelf.Ren := ⟨fun | 173 => 33 | 246 => 53 | 283 => 73 | 284 => 74 | 285 => 75 | 286 => 76 | 129 => 90 | 317 => 89 | 318 => 91 | 319 => 92 | 320 => 93 | 337 => 97 | 338 => 98 | n => n, fun | 2 => 2 | 3 => 3 | 9 => 9 | 4 => 4 | 171 => 111 | 0 => 0 | 53 => 23 | 37 => 22 | 5 => 5 | 173 => 114 | 212 => 130 | 51 => 116 | 20 => 20 | 213 => 131 | 46 => 62 | 232 => 138 | 233 => 139 | n => n, fun | 17 => 2 | 18 => 4 | 19 => 5 | n => n⟩
theorem sh_laysM173 : Go.Proofs.LaysM.n173 Tryd.prog sh_laysM173_ren := {
  mixed := by kernel_rfl
  f129 := Tryd.func90.trans (congrArg some (by kernel_rfl))
  f173 := Tryd.func33.trans (congrArg some (by kernel_rfl))
  f246 := Tryd.func53.trans (congrArg some (by kernel_rfl))
  f283 := Tryd.func73.trans (congrArg some (by kernel_rfl))
  f284 := Tryd.func74.trans (congrArg some (by kernel_rfl))
  f285 := Tryd.func75.trans (congrArg some (by kernel_rfl))
  f286 := Tryd.func76.trans (congrArg some (by kernel_rfl))
  f317 := Tryd.func89.trans (congrArg some (by kernel_rfl))
  f318 := Tryd.func91.trans (congrArg some (by kernel_rfl))
  f319 := Tryd.func92.trans (congrArg some (by kernel_rfl))
  f320 := Tryd.func93.trans (congrArg some (by kernel_rfl))
  f337 := Tryd.func97.trans (congrArg some (by kernel_rfl))
  f338 := Tryd.func98.trans (congrArg some (by kernel_rfl))
  t0 := Tryd.underlying0
  a0 := Tryd.isAgg0
  z0 := Tryd.sizeOf0
  v0 := Tryd.zeroValue0
  t2 := Tryd.underlying2
  a2 := Tryd.isAgg2
  z2 := Tryd.sizeOf2
  v2 := Tryd.zeroValue2
  t3 := Tryd.underlying3
  a3 := Tryd.isAgg3
  z3 := Tryd.sizeOf3
  v3 := Tryd.zeroValue3
  t4 := Tryd.underlying4
  a4 := Tryd.isAgg4
  z4 := Tryd.sizeOf4
  v4 := Tryd.zeroValue4
  t5 := Tryd.underlying5
  a5 := Tryd.isAgg5
  z5 := Tryd.sizeOf5
  v5 := Tryd.zeroValue5
  t9 := Tryd.underlying9
  a9 := Tryd.isAgg9
  z9 := Tryd.sizeOf9
  v9 := Tryd.zeroValue9
  t20 := Tryd.underlying20
  a20 := Tryd.isAgg20
  z20 := Tryd.sizeOf20
  v20 := Tryd.zeroValue20
  t37 := Tryd.underlying22
  a37 := Tryd.isAgg22
  z37 := Tryd.sizeOf22
  v37 := Tryd.zeroValue22
  t46 := Tryd.underlying62
  a46 := Tryd.isAgg62
  z46 := Tryd.sizeOf62
  v46 := Tryd.zeroValue62
  t51 := Tryd.underlying116
  a51 := Tryd.isAgg116
  z51 := Tryd.sizeOf116
  v51 := Tryd.zeroValue116
  t53 := Tryd.underlying23
  a53 := Tryd.isAgg23
  z53 := Tryd.sizeOf23
  v53 := Tryd.zeroValue23
  t171 := Tryd.underlying111
  a171 := Tryd.isAgg111
  z171 := Tryd.sizeOf111
  v171 := Tryd.zeroValue111
  t173 := Tryd.underlying114
  a173 := Tryd.isAgg114
  z173 := Tryd.sizeOf114
  v173 := Tryd.zeroValue114
  t212 := Tryd.underlying130
  a212 := Tryd.isAgg130
  z212 := Tryd.sizeOf130
  v212 := Tryd.zeroValue130
  t213 := Tryd.underlying131
  a213 := Tryd.isAgg131
  z213 := Tryd.sizeOf131
  t232 := Tryd.underlying138
  a232 := Tryd.isAgg138
  z232 := Tryd.sizeOf138
  v232 := Tryd.zeroValue138
  t233 := Tryd.underlying139
  a233 := Tryd.isAgg139
  z233 := Tryd.sizeOf139
  v233 := Tryd.zeroValue139
  g17 := by kernel_rfl
  g18 := by kernel_rfl
  g19 := by kernel_rfl
  i0 := by kernel_rfl
  i2 := by kernel_rfl
  i3 := by kernel_rfl
  i4 := by kernel_rfl
  i5 := by kernel_rfl
  i9 := by kernel_rfl
  i20 := by kernel_rfl
  i37 := by kernel_rfl
  i46 := by kernel_rfl
  i51 := by kernel_rfl
  i53 := by kernel_rfl
  i171 := by kernel_rfl
  i173 := by kernel_rfl
  i212 := by kernel_rfl
  i232 := by kernel_rfl
  i233 := by kernel_rfl
  m17 := by kernel_rfl
  m18 := by kernel_rfl
  m19 := by kernel_rfl }
open Go.RowKit Go.Sort Go.Lib in
theorem sh_strconv_FormatInt_10 (n : Int) (h0 : -9223372036854775808 ≤ n) (h1 : n ≤ 9223372036854775807) (w : World) (htab : Lib.TabIs Tryd.prog w "internal/strconv.uint64pow10" .u64 Lib.pow10Tab) :
    Calls Tryd.prog 33 #[.int .i64 n, .int .i64 10] w fun e w' => e = .returned (.string ⟨(Lib.itoa n).toArray⟩) ∧ ∃ k os, w' = grow (w.drewN k) os := Any.strconv_FormatInt_10 sh_laysM173 n h0 h1 w htab
open Go.RowKit in
open Go.RowKit in
open Go.RowKit in
def sh_laysC174_ren : Go.Shelf.Ren := ⟨fun | 174 => 32 | 247 => 52 | 245 => 46 | 287 => 45 | 279 => 69 | 280 => 70 | 281 => 71 | 282 => 72 | 321 => 67 | 322 => 68 | 316 => 86 | 171 => 88 | 205 => 87 | 243 => 96 | 246 => 53 | 283 => 73 | 284 => 74 | 285 => 75 | 286 => 76 | 129 => 90 | 317 => 89 | 318 => 91 | 319 => 92 | 320 => 93 | 337 => 97 | 338 => 98 | n => n, fun | 9 => 9 | 3 => 3 | 2 => 2 | 75 => 56 | 85 => 64 | 4 => 4 | 167 => 104 | 5 => 5 | 53 => 23 | 175 => 57 | 46 => 62 | 168 => 107 | 37 => 22 | 0 => 0 | 210 => 126 | 21 => 21 | 127 => 100 | 145 => 136 | 143 => 134 | 171 => 111 | 173 => 114 | 212 => 130 | 51 => 116 | 20 => 20 | 213 => 131 | 232 => 138 | 233 => 139 | 80 => 82 | n => n, fun | 15 => 0 | 16 => 1 | 17 => 2 | 18 => 4 | 19 => 5 | n => n⟩
theorem sh_laysC174 : Go.Proofs.LaysC.n174 Tryd.prog sh_laysC174_ren := {
  mixed := by kernel_rfl
  f129 := Tryd.func90.trans (congrArg some (by kernel_rfl))
  f171 := Tryd.func88.trans (congrArg some (by kernel_rfl))
  f174 := Tryd.func32.trans (congrArg some (by kernel_rfl))
  f205 := Tryd.func87.trans (congrArg some (by kernel_rfl))
  f243 := Tryd.func96.trans (congrArg some (by kernel_rfl))
  f245 := Tryd.func46.trans (congrArg some (by kernel_rfl))
  f246 := Tryd.func53.trans (congrArg some (by kernel_rfl))
  f247 := Tryd.func52.trans (congrArg some (by kernel_rfl))
  f279 := Tryd.func69.trans (congrArg some (by kernel_rfl))
  f280 := Tryd.func70.trans (congrArg some (by kernel_rfl))
  f281 := Tryd.func71.trans (congrArg some (by kernel_rfl))
  f282 := Tryd.func72.trans (congrArg some (by kernel_rfl))
  f283 := Tryd.func73.trans (congrArg some (by kernel_rfl))
  f284 := Tryd.func74.trans (congrArg some (by kernel_rfl))
  f285 := Tryd.func75.trans (congrArg some (by kernel_rfl))
  f286 := Tryd.func76.trans (congrArg some (by kernel_rfl))
  f287 := Tryd.func45.trans (congrArg some (by kernel_rfl))
  f316 := Tryd.func86.trans (congrArg some (by kernel_rfl))
  f317 := Tryd.func89.trans (congrArg some (by kernel_rfl))
  f318 := Tryd.func91.trans (congrArg some (by kernel_rfl))
  f319 := Tryd.func92.trans (congrArg some (by kernel_rfl))
  f320 := Tryd.func93.trans (congrArg some (by kernel_rfl))
  f321 := Tryd.func67.trans (congrArg some (by kernel_rfl))
  f322 := Tryd.func68.trans (congrArg some (by kernel_rfl))
  f337 := Tryd.func97.trans (congrArg some (by kernel_rfl))
  f338 := Tryd.func98.trans (congrArg some (by kernel_rfl))
  t0 := Tryd.underlying0
  a0 := Tryd.isAgg0
  z0 := Tryd.sizeOf0
  v0 := Tryd.zeroValue0
  t2 := Tryd.underlying2
  a2 := Tryd.isAgg2
  z2 := Tryd.sizeOf2
  v2 := Tryd.zeroValue2
  t3 := Tryd.underlying3
  a3 := Tryd.isAgg3
  z3 := Tryd.sizeOf3
  v3 := Tryd.zeroValue3
  t4 := Tryd.underlying4
  a4 := Tryd.isAgg4
  z4 := Tryd.sizeOf4
  v4 := Tryd.zeroValue4
  t5 := Tryd.underlying5
  a5 := Tryd.isAgg5
  z5 := Tryd.sizeOf5
  v5 := Tryd.zeroValue5
  t9 := Tryd.underlying9
  a9 := Tryd.isAgg9
  z9 := Tryd.sizeOf9
  v9 := Tryd.zeroValue9
  t20 := Tryd.underlying20
  a20 := Tryd.isAgg20
  z20 := Tryd.sizeOf20
  v20 := Tryd.zeroValue20
  t21 := Tryd.underlying21
  a21 := Tryd.isAgg21
  z21 := Tryd.sizeOf21
  v21 := Tryd.zeroValue21
  t37 := Tryd.underlying22
  a37 := Tryd.isAgg22
  z37 := Tryd.sizeOf22
  v37 := Tryd.zeroValue22
  t46 := Tryd.underlying62
  a46 := Tryd.isAgg62
  z46 := Tryd.sizeOf62
  v46 := Tryd.zeroValue62
  t51 := Tryd.underlying116
  a51 := Tryd.isAgg116
  z51 := Tryd.sizeOf116
  v51 := Tryd.zeroValue116
  t53 := Tryd.underlying23
  a53 := Tryd.isAgg23
  z53 := Tryd.sizeOf23
  v53 := Tryd.zeroValue23
  t75 := Tryd.underlying56
  a75 := Tryd.isAgg56
  z75 := Tryd.sizeOf56
  v75 := Tryd.zeroValue56
  t85 := Tryd.underlying64
  a85 := Tryd.isAgg64
  z85 := Tryd.sizeOf64
  v85 := Tryd.zeroValue64
  t127 := Tryd.underlying100
  a127 := Tryd.isAgg100
  z127 := Tryd.sizeOf100
  v127 := Tryd.zeroValue100
  t143 := Tryd.underlying134
  a143 := Tryd.isAgg134
  z143 := Tryd.sizeOf134
  v143 := Tryd.zeroValue134
  t145 := Tryd.underlying136
  a145 := Tryd.isAgg136
  z145 := Tryd.sizeOf136
  v145 := Tryd.zeroValue136
  t167 := Tryd.underlying104
  a167 := Tryd.isAgg104
  z167 := Tryd.sizeOf104
  v167 := Tryd.zeroValue104
  t168 := Tryd.underlying107
  a168 := Tryd.isAgg107
  z168 := Tryd.sizeOf107
  v168 := Tryd.zeroValue107
  t171 := Tryd.underlying111
  a171 := Tryd.isAgg111
  z171 := Tryd.sizeOf111
  v171 := Tryd.zeroValue111
  t173 := Tryd.underlying114
  a173 := Tryd.isAgg114
  z173 := Tryd.sizeOf114
  v173 := Tryd.zeroValue114
  t175 := Tryd.underlying57
  a175 := Tryd.isAgg57
  z175 := Tryd.sizeOf57
  v175 := Tryd.zeroValue57
  t210 := Tryd.underlying126
  a210 := Tryd.isAgg126
  z210 := Tryd.sizeOf126
  v210 := Tryd.zeroValue126
  t212 := Tryd.underlying130
  a212 := Tryd.isAgg130
  z212 := Tryd.sizeOf130
  v212 := Tryd.zeroValue130
  t213 := Tryd.underlying131
  a213 := Tryd.isAgg131
  z213 := Tryd.sizeOf131
  t232 := Tryd.underlying138
  a232 := Tryd.isAgg138
  z232 := Tryd.sizeOf138
  v232 := Tryd.zeroValue138
  t233 := Tryd.underlying139
  a233 := Tryd.isAgg139
  z233 := Tryd.sizeOf139
  v233 := Tryd.zeroValue139
  g15 := by kernel_rfl
  g16 := by kernel_rfl
  g17 := by kernel_rfl
  g18 := by kernel_rfl
  g19 := by kernel_rfl
  t80 := Tryd.underlying82
  a80 := Tryd.isAgg82
  z80 := Tryd.sizeOf82
  v80 := Tryd.zeroValue82
  i0 := by kernel_rfl
  i2 := by kernel_rfl
  i3 := by kernel_rfl
  i4 := by kernel_rfl
  i5 := by kernel_rfl
  i9 := by kernel_rfl
  i20 := by kernel_rfl
  i21 := by kernel_rfl
  i37 := by kernel_rfl
  i46 := by kernel_rfl
  i51 := by kernel_rfl
  i53 := by kernel_rfl
  i75 := by kernel_rfl
  i80 := by kernel_rfl
  i85 := by kernel_rfl
  i127 := by kernel_rfl
  i143 := by kernel_rfl
  i145 := by kernel_rfl
  i167 := by kernel_rfl
  i168 := by kernel_rfl
  i171 := by kernel_rfl
  i173 := by kernel_rfl
  i175 := by kernel_rfl
  i210 := by kernel_rfl
  i212 := by kernel_rfl
  i232 := by kernel_rfl
  i233 := by kernel_rfl
  m15 := by kernel_rfl
  m16 := by kernel_rfl
  m17 := by kernel_rfl
  m18 := by kernel_rfl
  m19 := by kernel_rfl
  c0 := by kernel_rfl
  c2 := by kernel_rfl
  c3 := by kernel_rfl
  c4 := by kernel_rfl
  c5 := by kernel_rfl
  c9 := by kernel_rfl
  c20 := by kernel_rfl
  c21 := by kernel_rfl
  c37 := by kernel_rfl
  c46 := by kernel_rfl
  c51 := by kernel_rfl
  c53 := by kernel_rfl
  c75 := by kernel_rfl
  c80 := by kernel_rfl
  c85 := by kernel_rfl
  c127 := by kernel_rfl
  c143 := by kernel_rfl
  c145 := by kernel_rfl
  c167 := by kernel_rfl
  c168 := by kernel_rfl
  c171 := by kernel_rfl
  c173 := by kernel_rfl
  c175 := by kernel_rfl
  c210 := by kernel_rfl
  c212 := by kernel_rfl
  c213 := by kernel_rfl
  c232 := by kernel_rfl
  c233 := by kernel_rfl }
open Go.RowKit in
theorem sh_strconv_ParseInt_10_at64_ok (s : ByteArray) (hmax : s.size ≤ 9223372036854775806) (v : Int) (h : Lib.parseIntB 64 s.data.toList = .ok v) (w : World) :
    Calls Tryd.prog 32 #[.string s, .int .i64 10, .int .i64 64] w fun e w' => e = .returned (.tuple #[.int .i64 v, .nilIface]) ∧ (w' = w ∨ ∃ t, w' = Lib.bytesWorld w 5 t) := Any.strconv_ParseInt_10_at64_ok sh_laysC174 s hmax v h w
open Go.RowKit Go.Lib in
theorem sh_lays240 : Go.Proofs.Lays.n240 Tryd.prog sh_lays156_ren := {
  mixed := sh_lays156.mixed
  f240 := sh_lays156.f240
  f276 := sh_lays156.f276
  t0 := sh_lays156.t0
  a0 := sh_lays156.a0
  z0 := sh_lays156.z0
  v0 := sh_lays156.v0
  t4 := sh_lays156.t4
  a4 := sh_lays156.a4
  z4 := sh_lays156.z4
  v4 := sh_lays156.v4
  t9 := sh_lays156.t9
  a9 := sh_lays156.a9
  z9 := sh_lays156.z9
  v9 := sh_lays156.v9
  t20 := sh_lays156.t20
  a20 := sh_lays156.a20
  z20 := sh_lays156.z20
  v20 := sh_lays156.v20
  t70 := sh_lays156.t70
  a70 := sh_lays156.a70
  z70 := sh_lays156.z70
  v70 := sh_lays156.v70
  t72 := sh_lays156.t72
  a72 := sh_lays156.a72
  z72 := sh_lays156.z72
  v72 := sh_lays156.v72
  t164 := sh_lays156.t164
  a164 := sh_lays156.a164
  z164 := sh_lays156.z164
  v164 := sh_lays156.v164 }
end Go.Proofs.YtblloaajiaoblaaDoor
namespace Go.Proofs.YtblloaajiaoblaaDoor
open Go Go.RowKit
def ccF : FSpec := fun l es => match l, es with
  | [.ptr 0 0], [.cells 78 [.nilp, .nils]] => some ([], .tup [], [some (.cells 78 [.ptr 0 0, .nils])])
  | [.ptr 0 0], [.cells 78 [.ptr 0 0, .sl 1 1 0 n], .ints 5 .u8 b] => some ([], .tup [], [some (.cells 78 [.ptr 0 0, .sl 1 1 0 n]), some (.ints 5 .u8 b)])
  | _, _ => none
theorem nf_frozen {w : World} {b : Nat} {cs : Array Value} {t : TypeId} {fr : Nat × Nat} {n k : Nat} (h : w.heap[b]? = some (.cells cs t fr)) (hf : NF fr n) (hk : k < n) : w.frozen? ⟨b, k, none⟩ = false := by
  have := hf.get k hk
  simp [World.frozen?, h]
  omega
theorem sh_cell {w : World} {b : Nat} {cs : Array Value} {t : TypeId} {fr : Nat × Nat} (h : w.heap[b]? = some (.cells cs t fr)) (k : Nat) : w.cell? ⟨b, k, none⟩ = cs[k]? := by simp [World.cell?, h]
theorem cc_g : GSOK Tryd.prog 65 (fG ccF) := by
  refine fok_snd (fn := Tryd.f65) ⟨Tryd.func65, by kernel_rfl, by kernel_rfl, by kernel_rfl⟩ fun l es obs v es' hF hob => ?_
  unfold ccF at hF
  split at hF
  · simp only [Option.some.injEq, Prod.mk.injEq] at hF
    obtain ⟨rfl, rfl, rfl⟩ := hF
    intro F Ob W0 A R w cl hA1 hA2 hH hc
    obtain ⟨hl, hr⟩ := hc
    match cl, hl with
    | [c], _ =>
      have r := hr 0 _ _ rfl rfl
      cases r with
      | ptr _ _ b hR =>
      obtain ⟨b', hb', hh⟩ := hH.ent 0 (.cells 78 [.nilp, .nils]) rfl
      rw [hR] at hb'
      cases hb'
      obtain ⟨vs, fr, hw, hnf, hvl, hcells⟩ := hh
      match vs, hvl with
      | [v0, v1], _ =>
        have r0 := (hcells 0 _ _ rfl rfl).2
        have r1 := (hcells 1 _ _ rfl rfl).2
        cases r0
        cases r1
        refine (Go.Proofs.Any.Builder_copyCheck_fresh sh_lays240 sh_Builder_Extra_156.toX72 b w (by rw [sh_cell hw]; rfl) (by unfold World.shape?; rw [hw]; rfl) (nf_frozen hw hnf (by decide))).mono fun en w' ⟨he, hw'⟩ => ?_
        subst hw'
        have hset : (w.setCell ⟨b, 0, none⟩ (.pointer (some ⟨b, 0, none⟩))).heap[b]? = some (.cells #[.pointer (some ⟨b, 0, none⟩), .slice none 0 0] 78 fr) := by
          simp [World.setCell, Array.getElem?_modify, hw]
        obtain ⟨p1, p2⟩ := hH.upd (en := .cells 78 [.ptr 0 0, .nils]) (e := .cells 78 [.nilp, .nils]) (i := 0) rfl hR (Ext.setCell (O := fun g => g = b) w (.pointer (some ⟨b, 0, none⟩)) rfl) ⟨[.pointer (some ⟨b, 0, none⟩), .slice none 0 0], fr, hset, hnf, rfl, fun j x v hx hv => by
          match j with
          | 0 => cases hx; cases hv; exact ⟨rfl, .ptr _ _ _ hR⟩
          | 1 => cases hx; cases hv; exact ⟨rfl, .nils⟩
          | j + 2 => cases hx⟩
        refine ⟨R, .tup [], _, .tuple #[], ?_, he, hA2, p1, .tup [] [] rfl (fun j x v hx => by cases hx)⟩
        refine ⟨[some 0], ?_⟩
        (repeat' (first | (refine xI (fun hfk => ?_) (fun hfk => ?_) <;> ((try (first | replace hfk := oT hfk | replace hfk := oF hfk | simp only [oD, ne_eq, reduceCtorEq] at hfk)); (try exact oX))) | (refine And.intro ?ob ?_; (case ob => (exact oZ))) | exact True.intro | (show _ = _; first | exact oY | exact rfl) | exact oW | (apply And.intro)))
  · simp only [Option.some.injEq, Prod.mk.injEq] at hF
    obtain ⟨rfl, rfl, rfl⟩ := hF
    intro F Ob W0 A R w cl hA1 hA2 hH hc
    obtain ⟨hl, hr⟩ := hc
    match cl, hl with
    | [c], _ =>
      have r := hr 0 _ _ rfl rfl
      cases r with
      | ptr _ _ b hR =>
      obtain ⟨b', hb', hh⟩ := hH.ent 0 (.cells 78 [.ptr 0 0, .sl 1 1 0 _]) rfl
      rw [hR] at hb'
      cases hb'
      obtain ⟨vs, fr, hw, hnf, hvl, hcells⟩ := hh
      match vs, hvl with
      | [v0, v1], _ =>
        have r0 := (hcells 0 _ _ rfl rfl).2
        cases r0 with
        | ptr _ _ b2 hR2 =>
        rw [hR] at hR2
        cases hR2
        refine (Go.Proofs.Any.Builder_copyCheck_used sh_lays240 sh_Builder_Extra_156.toX72 b w (by rw [sh_cell hw]; rfl)).mono fun en w' ⟨he, hw'⟩ => ?_
        subst hw'
        refine ⟨R, .tup [], _, .tuple #[], ?_, he, hA2, hH, .tup [] [] rfl (fun j x v hx => by cases hx)⟩
        refine ⟨[some 0, some 1], ?_⟩
        (repeat' (first | (refine xI (fun hfk => ?_) (fun hfk => ?_) <;> ((try (first | replace hfk := oT hfk | replace hfk := oF hfk | simp only [oD, ne_eq, reduceCtorEq] at hfk)); (try exact oX))) | (refine And.intro ?ob ?_; (case ob => (exact oZ))) | exact True.intro | (show _ = _; first | exact oY | exact rfl) | exact oW | (apply And.intro)))
  · cases hF
theorem st_walk (w : World) (b g n c : Nat) (p : Value) (cur : Array Value) (frb frg : Nat × Nat) (lb : List UInt8) (hb : w.heap[b]? = some (.cells #[p, .slice (some ⟨g, 0, none⟩) n c] 78 frb)) (hg : w.heap[g]? = some (.cells cur 5 frg))
    (hn : n = lb.length) (h0 : lb ≠ []) (hc : n ≤ c) (hcm : c ≤ maxLen) (hsz : n ≤ cur.size) (hcell : ∀ (j : Nat) x, lb[j]? = some x → cur[j]? = some (.int .u8 (x.toNat : Int))) :
    Calls Tryd.prog 43 #[.pointer (some ⟨b, 0, none⟩)] w fun e w' => e = .returned (.string ⟨lb.toArray⟩) ∧ w' = w.drew.freeze ⟨g, 0, none⟩ n := by
  subst hn
  have hl0 : lb.length ≠ 0 := by simpa using h0
  have c1 : w.drew.cell? ⟨b, 1, none⟩ = some (.slice (some ⟨g, 0, none⟩) lb.length c) := by
    have : w.drew.heap[b]? = some (.cells #[p, .slice (some ⟨g, 0, none⟩) lb.length c] 78 frb) := hb
    rw [sh_cell this]; rfl
  have hSD : (Builtin.unsafeSliceData_ #[22] 100 #[.slice (some ⟨g, 0, none⟩) lb.length c]).run Tryd.prog w.drew = .ok (.pointer (some ⟨g, 0, none⟩)) w.drew :=
    Lib.run_unsafeSliceData_row _ _ _ _ _ _ (by omega)
  have hUS : (Builtin.unsafeString_ #[100, 3] 9 #[.pointer (some ⟨g, 0, none⟩), .int .i64 lb.length]).run Tryd.prog w.drew = .ok (.string ⟨lb.toArray⟩) (w.drew.freeze ⟨g, 0, none⟩ lb.length) := by
    refine Lib.run_unsafeString_row w.drew 100 3 9 5 Tryd.underlying100 (by kernel_rfl) g cur.size (by have hg' : w.drew.heap[g]? = some (.cells cur 5 frg) := hg; simp [World.shape?, hg']) lb h0 hsz (by unfold maxLen at hcm; omega) ?_
    intro j x hx
    have hg' : w.drew.heap[g]? = some (.cells cur 5 frg) := hg
    rw [Addr.add_mid, sh_cell hg', Nat.zero_add]
    exact hcell j x hx
  have hmx : Tryd.prog.follows Departure.mixedOrders = true := mixed
  go_enter Tryd.func43, Tryd.ntmps43
  go_wp2
  go_region_o
  all_goals (go_wp2; go_ret; exact ⟨rfl, rfl⟩)
theorem freeze_n {w : World} {b : Nat} {vs : Array Value} {t : TypeId} {fr : Nat × Nat} (hw : w.heap[b]? = some (.cells vs t fr)) (a n : Nat) (hn : n ≠ 0) : Ext (fun g => g = b) w (w.freeze ⟨b, a, none⟩ n) := by
  obtain ⟨lo, hi⟩ := fr
  have hb : ∃ fr', (w.freeze ⟨b, a, none⟩ n).heap[b]? = some (.cells vs t fr') := by
    unfold World.freeze
    rw [if_neg hn]
    simp only [Array.getElem?_modify, if_pos, hw, Option.map_some]
    exact ⟨_, rfl⟩
  have ho : ∀ g, g ≠ b → (w.freeze ⟨b, a, none⟩ n).heap[g]? = w.heap[g]? := by
    intro g hg
    unfold World.freeze
    rw [if_neg hn]
    simp only [Array.getElem?_modify]
    rw [if_neg (fun h => hg h.symm)]
  obtain ⟨fr', hb⟩ := hb
  refine ⟨by unfold World.freeze; rw [if_neg hn], by unfold World.freeze; rw [if_neg hn], by unfold World.freeze; rw [if_neg hn], by unfold World.freeze; rw [if_neg hn]; simp, fun g _ hn => ho g hn, fun g s hs => ?_⟩
  by_cases hg : g = b
  · subst hg
    unfold World.shape? at hs ⊢
    rw [hw] at hs
    rw [hb]
    exact hs
  · rw [shape_of_block (ho g hg)]; exact hs
def stF : FSpec := fun l es => match l, es with
  | [.ptr 0 0], [.cells 78 [.ptr 0 0, .sl 1 1 0 n], .ints 5 .u8 b] => some ([n = b.length, 0 < n, Bytes b], .str (b.map fun n => UInt8.ofNat n.toNat), [none, none])
  | _, _ => none
theorem st_g : GSOK Tryd.prog 43 (fG stF) := by
  refine fok_snd (fn := Tryd.f43) ⟨Tryd.func43, by kernel_rfl, by kernel_rfl, by kernel_rfl⟩ fun l es obs v es' hF hob => ?_
  unfold stF at hF
  split at hF
  rotate_left
  · cases hF
  rename_i n bs
  simp only [Option.some.injEq, Prod.mk.injEq] at hF
  obtain ⟨rfl, rfl, rfl⟩ := hF
  simp only [List.mem_cons, List.not_mem_nil, or_false, forall_eq_or_imp, forall_eq] at hob
  obtain ⟨rfl, hn0, hB⟩ := hob
  intro F Ob W0 A R w cl hA1 hA2 hH hc
  obtain ⟨hl, hr⟩ := hc
  match cl, hl with
  | [c], _ =>
    have r := hr 0 _ _ rfl rfl
    cases r with
    | ptr _ _ b hR =>
    obtain ⟨b', hb', hh⟩ := hH.ent 0 (.cells 78 [.ptr 0 0, .sl 1 1 0 bs.length]) rfl
    rw [hR] at hb'
    cases hb'
    obtain ⟨vs, fr, hw, hnf, hvl, hcells⟩ := hh
    match vs, hvl with
    | [v0, v1], _ =>
      have r0 := (hcells 0 _ _ rfl rfl).2
      have r1 := (hcells 1 _ _ rfl rfl).2
      cases r0 with
      | ptr _ _ b2 hR2 =>
      rw [hR] at hR2
      cases hR2
      generalize hlen : bs.length = n at r1 hn0
      cases r1 with
      | slnil => omega
      | sl _ _ _ _ g cp off sh hRg hn hcm hof hss hl0 =>
      have h0 := hof (by omega)
      replace h0 : off = 0 := by omega
      subst h0
      obtain ⟨us, frg, g1, g2, g3, g4⟩ := ent_ints hH (i := 1) (t := 5) (k := .u8) (l := bs) rfl hRg
      have hlb : (bs.map fun n => UInt8.ofNat n.toNat).length = n := by rw [List.length_map]; exact hlen
      have hw' : w.heap[b]? = some (.cells #[.pointer (some ⟨b, 0, none⟩), .slice (some ⟨g, 0, none⟩) n cp] 78 fr) := hw
      refine (st_walk w b g n cp _ us.toArray fr frg (bs.map fun n => UInt8.ofNat n.toNat) hw' g1 hlb.symm (fun k => by rw [k] at hlb; simp at hlb; omega) hn hcm (by simp; omega) (fun j x hj => ?_)).mono fun en w' ⟨he, hw2⟩ => ?_
      · rw [List.getElem?_map] at hj
        obtain ⟨y, hy, rfl⟩ := opt_map hj
        have := g4 j y hy
        have hb2 := hB y (List.mem_of_getElem? hy)
        simp only [List.getElem?_toArray]
        rw [this]
        have : ((UInt8.ofNat y.toNat).toNat : Int) = y := by
          rw [UInt8.toNat_ofNat', Nat.mod_eq_of_lt (show y.toNat < 2 ^ 8 by omega)]; omega
        rw [this]
      · subst hw2
        have hgd : w.drew.heap[g]? = some (.cells us.toArray 5 frg) := g1
        have hx : Ext (fun q => q = g) w (w.drew.freeze ⟨g, 0, none⟩ n) := (Ext.drew _ w).trans (freeze_n hgd 0 n (by omega)) (fun _ _ k => k)
        obtain ⟨d1, _⟩ := hH.del 0
        obtain ⟨p1, _⟩ := d1.give (i := 1) (e := .ints 5 .u8 bs) rfl hRg hx
        refine ⟨R, .str (bs.map fun n => UInt8.ofNat n.toNat), _, _, ?_, he, hA2, p1, .str _⟩
        refine ⟨[some 0, some 1], ?_⟩
        (repeat' (first | (refine xI (fun hfk => ?_) (fun hfk => ?_) <;> ((try (first | replace hfk := oT hfk | replace hfk := oF hfk | simp only [oD, ne_eq, reduceCtorEq] at hfk)); (try exact oX))) | (refine And.intro ?ob ?_; (case ob => (exact oZ))) | exact True.intro | (show _ = _; first | exact oY | exact rfl) | exact oW | (apply And.intro)))
def wsF : FSpec := fun l es => match l, es with
  | [.ptr 0 0, .str s], [.cells 78 [.nilp, .nils]] => some ([0 < s.length, s.length ≤ 1000000000], .tup [.int .i64 (s.length : Int), .val .nilIface], [some (.cells 78 [.ptr 0 0, .sl 1 1 0 s.length]), some (.ints 5 .u8 (s.map fun c => (c.toNat : Int)))])
  | [.ptr 0 0, .str s], [.cells 78 [.ptr 0 0, .sl 1 1 0 n], .ints 5 .u8 b] => some ([n = b.length, 0 < n, n ≤ 1000000000, s.length ≤ 1000000000], .tup [.int .i64 (s.length : Int), .val .nilIface], [some (.cells 78 [.ptr 0 0, .sl 2 1 0 (n + s.length)]), none, some (.ints 5 .u8 (b ++ s.map fun c => (c.toNat : Int)))])
  | _, _ => none
theorem ws_g : GSOK Tryd.prog 41 (fG wsF) := by
  refine fokN (S := []) (G := glook [(65, fG ccF)]) [] pok_nil (gl_cons cc_g gl_nil) ⟨Tryd.func41, by kernel_rfl, by kernel_rfl, by kernel_rfl⟩ fun l es obs v es' h ho => ?_
  unfold wsF at h
  split at h
  · rename_i s
    simp only [Option.some.injEq, Prod.mk.injEq] at h
    obtain ⟨rfl, rfl, rfl⟩ := h
    simp only [List.mem_cons, List.not_mem_nil, or_false, forall_eq_or_imp, forall_eq] at ho
    obtain ⟨h0, h1⟩ := ho
    refine ⟨Nat.le_of_ble_eq_true rfl, ?_⟩
    (repeat' (first | (refine xI (fun hfk => ?_) (fun hfk => ?_) <;> ((try (first | replace hfk := oT hfk | replace hfk := oF hfk | simp only [oD, ne_eq, reduceCtorEq] at hfk)); (try exact oX))) | (refine And.intro ?ob ?_; (case ob => (exact oZ))) | exact True.intro | (show _ = _; first | exact oY | exact rfl) | exact oW | (apply And.intro)))
    (refine ⟨[0], ⟨by kernel_rfl⟩, ?_⟩)
    (repeat' (first | (refine xI (fun hfk => ?_) (fun hfk => ?_) <;> ((try (first | replace hfk := oT hfk | replace hfk := oF hfk | simp only [oD, ne_eq, reduceCtorEq] at hfk)); (try exact oX))) | (refine And.intro ?ob ?_; (case ob => (exact oZ))) | exact True.intro | (show _ = _; first | exact oY | exact rfl) | exact oW | (apply And.intro)))
    refine ⟨[some 0, some 1], ?_⟩
    (repeat' (first | (refine xI (fun hfk => ?_) (fun hfk => ?_) <;> ((try (first | replace hfk := oT hfk | replace hfk := oF hfk | simp only [oD, ne_eq, reduceCtorEq] at hfk)); (try exact oX))) | (refine And.intro ?ob ?_; (case ob => (exact oZ))) | exact True.intro | (show _ = _; first | exact oY | exact rfl) | exact oW | (apply And.intro)))
  · rename_i s n b
    simp only [Option.some.injEq, Prod.mk.injEq] at h
    obtain ⟨rfl, rfl, rfl⟩ := h
    simp only [List.mem_cons, List.not_mem_nil, or_false, forall_eq_or_imp, forall_eq] at ho
    obtain ⟨rfl, h0, h1, h2⟩ := ho
    refine ⟨Nat.le_of_ble_eq_true rfl, ?_⟩
    (repeat' (first | (refine xI (fun hfk => ?_) (fun hfk => ?_) <;> ((try (first | replace hfk := oT hfk | replace hfk := oF hfk | simp only [oD, ne_eq, reduceCtorEq] at hfk)); (try exact oX))) | (refine And.intro ?ob ?_; (case ob => (exact oZ))) | exact True.intro | (show _ = _; first | exact oY | exact rfl) | exact oW | (apply And.intro)))
    (refine ⟨[0, 1], ⟨by kernel_rfl⟩, ?_⟩)
    (repeat' (first | (refine xI (fun hfk => ?_) (fun hfk => ?_) <;> ((try (first | replace hfk := oT hfk | replace hfk := oF hfk | simp only [oD, ne_eq, reduceCtorEq] at hfk)); (try exact oX))) | (refine And.intro ?ob ?_; (case ob => (exact oZ))) | exact True.intro | (show _ = _; first | exact oY | exact rfl) | exact oW | (apply And.intro)))
    refine ⟨[some 0, some 1, some 2], ?_⟩
    (repeat' (first | (refine xI (fun hfk => ?_) (fun hfk => ?_) <;> ((try (first | replace hfk := oT hfk | replace hfk := oF hfk | simp only [oD, ne_eq, reduceCtorEq] at hfk)); (try exact oX))) | (refine And.intro ?ob ?_; (case ob => (exact oZ))) | exact True.intro | (show _ = _; first | exact oY | exact rfl) | exact oW | (apply And.intro)))
  · cases h
end Go.Proofs.YtblloaajiaoblaaDoor
namespace Go.Proofs.YtblloaajiaoblaaDoor
open Go Go.RowKit
theorem ext_below {w w' : World} (h : Below w.heap.size w w') : Ext (fun _ => False) w w' :=
  ⟨h.os, h.tape, h.output, h.size, fun b hb _ => h.block b hb, fun b s hs => by
    have hb : b < w.heap.size := by
      unfold World.shape? at hs
      split at hs
      · rename_i e; exact (Array.getElem?_eq_some_iff.1 e).1
      · cases hs
    unfold World.shape? at hs ⊢
    rw [h.block b hb]; exact hs⟩
theorem below_grown (w : World) (k : Nat) (os : Array Obj) : Below w.heap.size w (Go.Sort.grow (w.drewN k) os) := by
  refine ⟨rfl, ?_, rfl, ?_, fun b hb => ?_⟩
  · simp [Go.Sort.grow]
  · simp [Go.Sort.grow]
  · exact Go.Sort.heap_grow_old (w.drewN k) os hb
theorem tab_pow10 {w : World} {O : Nat → Prop} (h : GL w O) : Lib.TabIs Tryd.prog w "internal/strconv.uint64pow10" .u64 Lib.pow10Tab := by
  obtain ⟨_, _, ty, fr, e⟩ := h _ List.mem_cons_self
  unfold Lib.TabIs World.var?
  rw [show Tryd.prog.globalNamed "internal/strconv.uint64pow10" = some 2 by kernel_rfl]
  simp only [Option.bind_some]
  rw [e]
  rfl
end Go.Proofs.YtblloaajiaoblaaDoor
namespace Go.Proofs.YtblloaajiaoblaaDoor
open Go Go.RowKit
def strA : AV → List UInt8
  | .str s => s
  | _ => []
def joinV (n : Nat) (f : Nat → AV) (sep : List UInt8) : List UInt8 := Lib.join ((List.range n).map fun j => strA (f j)) sep
structure JoOK (n : Nat) (f : Nat → AV) (sep : List UInt8) : Prop where
  str : ∀ j, j < n → ∃ s, f j = .str s
  n_ : n ≤ 1000000
  len : (joinV n f sep).length ≤ 140737488355328
abbrev joinS : PSpec := fun l => match l with | [.ro 1 n f, .str sep] => some ([JoOK n f sep], .str (joinV n f sep)) | _ => none
theorem join_s : SOK Tryd.prog 42 joinS := by
  refine ⟨⟨_, Tryd.func42, by kernel_rfl, by kernel_rfl⟩, fun l obs v h ho w O cl hf hc => ?_⟩
  (unfold joinS at h; split at h; rotate_left; (focus (cases h)); rename_i n f sep; simp only [Option.some.injEq, Prod.mk.injEq] at h; obtain ⟨rfl, rfl⟩ := h; simp only [List.mem_cons, List.not_mem_nil, or_false, forall_eq_or_imp, forall_eq, false_implies, implies_true] at ho)
  obtain ⟨h1, h2, h3⟩ := ho
  obtain ⟨hl, hr⟩ := hc
  match cl, hl with
  | [c1, c2], _ =>
    have r1 := hr 0 _ _ rfl rfl
    have r2 := hr 1 _ _ rfl rfl
    cases r2
    by_cases n0 : n = 0
    · subst n0
      have e : joinV 0 f sep = [] := rfl
      rw [e]
      cases r1 with
      | ronil =>
        refine (sh_strings_Join_none none 0 ⟨sep.toArray⟩ w).mono fun en w' ⟨he, hw⟩ => ?_
        subst hw
        exact ⟨_, he, Ext.refl _ _, .str []⟩
      | roz _ _ ad c hc =>
        refine (sh_strings_Join_none (some ad) c ⟨sep.toArray⟩ w).mono fun en w' ⟨he, hw⟩ => ?_
        subst hw
        exact ⟨_, he, Ext.refl _ _, .str []⟩
      | ro _ _ _ b off c vals hn hcm hO hb hcell hsz hv =>
        refine (sh_strings_Join_none (some ⟨b, off, none⟩) c ⟨sep.toArray⟩ w).mono fun en w' ⟨he, hw⟩ => ?_
        subst hw
        exact ⟨_, he, Ext.refl _ _, .str []⟩
    · cases r1 with
      | ronil => exact absurd rfl n0
      | roz => exact absurd rfl n0
      | ro _ _ _ b off c vals hn hcm hO hb hcell hsz hv =>
        obtain ⟨xs, hxs⟩ : ∃ xs : List ByteArray, (List.range n).map (fun j => (⟨(strA (f j)).toArray⟩ : ByteArray)) = xs := ⟨_, rfl⟩
        have hlx : xs.length = n := by rw [← hxs]; simp
        have hval : xs.map (·.data.toList) = (List.range n).map fun j => strA (f j) := by rw [← hxs, List.map_map]; rfl
        have hj : Lib.join (xs.map (·.data.toList)) (⟨sep.toArray⟩ : ByteArray).data.toList = joinV n f sep := by rw [hval]; rfl
        have := sh_strings_Join b off c xs ⟨sep.toArray⟩ w (fun j x hx => by
          rw [← hxs] at hx
          simp only [List.getElem?_map] at hx
          obtain ⟨j', hj', rfl⟩ := opt_map hx
          have hjn : j < n := by have := (List.getElem?_eq_some_iff.1 hj').1; simpa using this
          have : j' = j := by rw [List.getElem?_range hjn] at hj'; exact (Option.some.inj hj').symm
          subst this
          obtain ⟨s, hs⟩ := h1 j' hjn
          have hrep := hv j' hjn
          rw [hs] at hrep
          have hc0 := hcell j' hjn 0 (by decide)
          generalize vals j' = vj at hrep hc0
          cases hrep
          rw [hs]
          rw [Nat.mul_one, Nat.add_zero] at hc0
          exact hc0) hb (by rw [hlx]; omega) (by rw [hlx]; exact hn) (by rw [hj]; exact h3)
        rw [hlx, hj] at this
        refine this.mono fun en w' ⟨he, hw⟩ => ?_
        exact ⟨_, he, ext_below hw, .str _⟩
end Go.Proofs.YtblloaajiaoblaaDoor
namespace Go.Proofs.YtblloaajiaoblaaDoor
open Go Go.RowKit
theorem st_empty (w : World) (b : Nat) (frb : Nat × Nat) (hb : w.heap[b]? = some (.cells #[.pointer none, .slice none 0 0] 78 frb)) :
    Calls Tryd.prog 43 #[.pointer (some ⟨b, 0, none⟩)] w fun e w' => e = .returned (.string .empty) ∧ w' = w.drew := by
  have c1 : w.drew.cell? ⟨b, 1, none⟩ = some (.slice none 0 0) := by
    have : w.drew.heap[b]? = some (.cells #[.pointer none, .slice none 0 0] 78 frb) := hb
    rw [sh_cell this]; rfl
  have hSD : (Builtin.unsafeSliceData_ #[22] 100 #[.slice none 0 0]).run Tryd.prog w.drew = .ok (.pointer none) w.drew := rfl
  have hUS : (Builtin.unsafeString_ #[100, 3] 9 #[.pointer none, .int .i64 0]).run Tryd.prog w.drew = .ok (.string .empty) w.drew := Lib.run_unsafeString_none _ _ _ _ _
  have hmx : Tryd.prog.follows Departure.mixedOrders = true := mixed
  go_enter Tryd.func43, Tryd.ntmps43
  go_wp2
  go_region_o
  all_goals (go_wp2; go_ret; exact ⟨rfl, rfl⟩)
def stE : FSpec := fun l es => match l, es with
  | [.ptr 0 0], [.cells 78 [.nilp, .nils]] => some ([], .str [], [none])
  | _, _ => none
theorem ste_g : GSOK Tryd.prog 43 (fG stE) := by
  refine fok_snd (fn := Tryd.f43) ⟨Tryd.func43, by kernel_rfl, by kernel_rfl, by kernel_rfl⟩ fun l es obs v es' hF hob => ?_
  unfold stE at hF
  split at hF
  rotate_left
  · cases hF
  simp only [Option.some.injEq, Prod.mk.injEq] at hF
  obtain ⟨rfl, rfl, rfl⟩ := hF
  intro F Ob W0 A R w cl hA1 hA2 hH hc
  obtain ⟨hl, hr⟩ := hc
  match cl, hl with
  | [c], _ =>
    have r := hr 0 _ _ rfl rfl
    cases r with
    | ptr _ _ b hR =>
    obtain ⟨b', hb', hh⟩ := hH.ent 0 (.cells 78 [.nilp, .nils]) rfl
    rw [hR] at hb'
    cases hb'
    obtain ⟨vs, fr, hw, hnf, hvl, hcells⟩ := hh
    match vs, hvl with
    | [v0, v1], _ =>
      have r0 := (hcells 0 _ _ rfl rfl).2
      have r1 := (hcells 1 _ _ rfl rfl).2
      cases r0
      cases r1
      refine (st_empty w b fr hw).mono fun en w' ⟨he, hw2⟩ => ?_
      subst hw2
      obtain ⟨d1, _⟩ := hH.del 0
      refine ⟨R, .str [], _, _, ?_, he, hA2, d1.quiet (Ext.drew _ w), .str _⟩
      refine ⟨[some 0], ?_⟩
      (repeat' (first | (refine xI (fun hfk => ?_) (fun hfk => ?_) <;> ((try (first | replace hfk := oT hfk | replace hfk := oF hfk | simp only [oD, ne_eq, reduceCtorEq] at hfk)); (try exact oX))) | (refine And.intro ?ob ?_; (case ob => (exact oZ))) | exact True.intro | (show _ = _; first | exact oY | exact rfl) | exact oW | (apply And.intro)))
def ljT (w : List (List UInt8)) : List UInt8 := Lib.join w [32] ++ [10]
def ljV (L : List Ln) (k : Nat) : List UInt8 := ((L.take k).map fun x => ljT x.2).flatten
theorem lj_0 (L : List Ln) : ljV L 0 = [] := rfl
theorem lj_succ {L : List Ln} {k : Nat} (h : k < L.length) : ljV L (k + 1) = ljV L k ++ ljT (L.getD k Ln.z).2 := by
  unfold ljV
  rw [List.take_add_one, List.getD_eq_getElem?_getD, List.getElem?_eq_getElem h]
  show ((List.take k L ++ [L[k]]).map _).flatten = _
  rw [List.map_append, List.flatten_append]
  exact congrArg (_ ++ ·) (List.append_nil _)
theorem lj_le {L : List Ln} : ∀ {n k : Nat}, k ≤ n → n ≤ L.length → (ljV L k).length ≤ (ljV L n).length
  | 0, k, h, _ => by
    have : k = 0 := by omega
    subst this; exact Nat.le_refl _
  | n + 1, k, h, hn => by
    by_cases e : k = n + 1
    · subst e; exact Nat.le_refl _
    · have := lj_le (L := L) (n := n) (k := k) (by omega) (by omega)
      rw [lj_succ (by omega), List.length_append]
      omega
structure LjOK (L : List Ln) : Prop where
  n100 : L.length ≤ 100000
  w100 : ∀ x ∈ L, x.2.length ≤ 100000
  len : (ljV L L.length).length ≤ 100000000
theorem ljt_pos (w : List (List UInt8)) : 0 < (ljT w).length := by unfold ljT; rw [List.length_append]; exact Nat.succ_pos _
theorem ljt_len {L : List Ln} (h : LjOK L) {k : Nat} (hk : k < L.length) : (ljT (L.getD k Ln.z).2).length ≤ 100000000 ∧ (ljV L k).length + (ljT (L.getD k Ln.z).2).length ≤ 100000000 := by
  have h1 := lj_le (L := L) (n := L.length) (k := k + 1) (by omega) (Nat.le_refl _)
  rw [lj_succ hk, List.length_append] at h1
  have := h.len
  omega
theorem jw {w : List (List UInt8)} : joinV w.length (fun k => AV.str (w.getD k [])) [32] = Lib.join w [32] := by
  unfold joinV
  congr 1
  refine List.ext_getElem (by simp) fun i h1 h2 => ?_
  simp [strA, List.getD, h2]
theorem jw_ok {L : List Ln} (h : LjOK L) {k : Nat} (hk : k < L.length) : JoOK (L.getD k Ln.z).2.length (fun j => AV.str ((L.getD k Ln.z).2.getD j [])) [32] := by
  have hm : L.getD k Ln.z ∈ L := by rw [List.getD_eq_getElem?_getD, List.getElem?_eq_getElem hk]; exact List.getElem_mem hk
  have h1 := h.w100 _ hm
  have h2 := (ljt_len h hk).1
  refine ⟨fun j _ => ⟨_, rfl⟩, by omega, ?_⟩
  rw [jw]
  unfold ljT at h2
  rw [List.length_append] at h2
  omega
theorem lj_pos (L : List Ln) {k : Nat} (h : k < L.length) : 0 < (ljV L (k + 1)).length := by
  rw [lj_succ h, List.length_append]
  have := ljt_pos (L.getD k Ln.z).2
  omega
theorem u8rt49 (s : List UInt8) : (s.map fun c => (c.toNat : Int)).map (fun n : Int => UInt8.ofNat n.toNat) = s := by
  rw [List.map_map]
  have e2 : ((fun n : Int => UInt8.ofNat n.toNat) ∘ fun c : UInt8 => (c.toNat : Int)) = id := by
    funext c
    show UInt8.ofNat ((c.toNat : Int)).toNat = c
    rw [Int.toNat_natCast]; exact UInt8.ofNat_toNat
  rw [e2, List.map_id]
theorem u8b49 (s : List UInt8) : Bytes (s.map fun c => (c.toNat : Int)) := fun x hx => by
  obtain ⟨c, _, rfl⟩ := List.mem_map.1 hx
  have := c.toNat_lt
  omega
theorem len_i64b {n : Nat} (h : n ≤ 1000000000) : (n : Int) ≤ IntKind.i64.max := by
  have : IntKind.i64.max = 9223372036854775807 := rfl
  omega
abbrev ljS (L : List Ln) : PSpec := fun l => match l with | [.ro 2 n f] => some ([n = L.length, f = (fun j => (L.getD j Ln.z).av), LjOK L], .str (ljV L L.length)) | _ => none
attribute [local irreducible] ljV
theorem lj_s (L : List Ln) : SOK Tryd.prog 22 (ljS L) := by
  refine sok_of (C := mkK 0 [(42, joinS)] (glook [(41, fG wsF), (43, gdis (fG stF) (fG stE))]) []) (mkK_ok (pok_cons join_s pok_nil) (gl_cons ws_g (gl_cons (gdis_ok st_g ste_g) gl_nil))) rfl mixed ⟨Tryd.func22, by kernel_rfl, by kernel_rfl, by kernel_rfl⟩ fun l obs v h ho => ?_
  unfold ljS at h
  split at h
  rotate_left
  · cases h
  rename_i n f
  simp only [Option.some.injEq, Prod.mk.injEq] at h
  obtain ⟨rfl, rfl⟩ := h
  simp only [List.mem_cons, List.not_mem_nil, or_false, forall_eq_or_imp, forall_eq] at ho
  obtain ⟨rfl, rfl, hT⟩ := ho
  have n1 := hT.n100
  refine ⟨Nat.le_of_ble_eq_true rfl, ?_⟩
  (repeat' (first | (refine xI (fun hfk => ?_) (fun hfk => ?_) <;> ((try (first | replace hfk := oT hfk | replace hfk := oF hfk | simp only [oD, ne_eq, reduceCtorEq] at hfk)); (try exact oX))) | (refine And.intro ?ob ?_; (case ob => (exact oZ))) | exact True.intro | (show _ = _; first | exact oY | exact rfl) | exact oW | (apply And.intro)))
  refine ⟨Nat, fun i => [(2, .str ((ByteArray.mk #[]).data.toList)), (3, .ptr 0 0), (6, .ro 2 L.length (fun j => (L.getD j Ln.z).av)), (7, .int .i64 ↑L.length), (8, .int .i64 (i : Int))],
    fun i => (match i with
      | 0 => ⟨1, [(0, some (.cells 78 [.nilp, .nils]))]⟩
      | k + 1 => ⟨2, [(0, some (.cells 78 [.ptr 0 0, .sl 1 1 0 (ljV L (k + 1)).length])), (1, some (.ints 5 .u8 ((ljV L (k + 1)).map fun c => (c.toNat : Int))))]⟩),
    fun i => i ≤ L.length, fun i => L.length - i, ⟨0, [some 0], Nat.zero_le _, ?_⟩, fun i hi => ?_⟩
  · (repeat' (first | (refine And.intro ?_ ?_) | exact True.intro | (show _ = _; with_reducible rfl) | exact Chk.mk (by kernel_rfl)))
    all_goals first | rfl | (exact fun _ _ => rfl)
  have hi : i ≤ L.length := hi
  have hjt : ∀ k, joinV (L.getD k Ln.z).snd.length (fun j => AV.str ((L.getD k Ln.z).snd.getD j [])) [32] ++ [10] = ljT (L.getD k Ln.z).2 := fun k => by unfold ljT; rw [jw]
  rcases i with _ | k
  · (repeat' (first | (refine xI (fun hfk => ?_) (fun hfk => ?_) <;> ((try (first | replace hfk := oT hfk | replace hfk := oF hfk | simp only [oD, ne_eq, reduceCtorEq] at hfk)); (try exact oX))) | (refine And.intro ?ob ?_; (case ob => (exact oZ))) | exact True.intro | (show _ = _; first | exact oY | exact rfl) | exact oW | (apply And.intro)))
    · exact jw_ok hT (k := 0) (by omega)
    · have h1 := congrArg List.length (hjt 0)
      have h2 := (ljt_len hT (k := 0) (by omega)).1
      rw [List.length_append] at h1
      exact len_i64b (Nat.le_trans (Nat.le_of_eq h1) (by omega))
    · have h1 := congrArg List.length (hjt 0)
      have h2 := ljt_len hT (k := 0) (by omega)
      have h3 := ljt_pos (L.getD 0 Ln.z).2
      (refine ⟨[0], ⟨by kernel_rfl⟩, ?_⟩)
      (repeat' (first | (refine xI (fun hfk => ?_) (fun hfk => ?_) <;> ((try (first | replace hfk := oT hfk | replace hfk := oF hfk | simp only [oD, ne_eq, reduceCtorEq] at hfk)); (try exact oX))) | (refine And.intro ?ob ?_; (case ob => (exact oZ))) | exact True.intro | (show _ = _; first | exact oY | exact rfl) | exact oW | (apply And.intro)))
      · exact Nat.le_trans (Nat.le_of_eq h1) (by omega)
      have e1 : ljV L (0 + 1) = joinV (L.getD 0 Ln.z).snd.length (fun j => AV.str ((L.getD 0 Ln.z).snd.getD j [])) [32] ++ [10] := by
        rw [lj_succ (by omega), lj_0, hjt]
        rfl
      refine ⟨1, [some 0, some 2], ?_, ?_, ?_⟩
      · dsimp only
        omega
      · dsimp only
        omega
      · (repeat' (first | (refine And.intro ?_ ?_) | exact True.intro | (show _ = _; with_reducible rfl) | exact Chk.mk (by kernel_rfl)))
        all_goals first | rfl | (exact fun _ _ => rfl) | exact congrArg (fun s : List UInt8 => s.length) e1.symm | exact congrArg (fun s : List UInt8 => s.map fun c => (c.toNat : Int)) e1.symm | skip
    · right
      (refine ⟨[0], ⟨by kernel_rfl⟩, ?_⟩)
      have e0 : L.length = 0 := by omega
      have hfin : ([] : List UInt8) = ljV L L.length := by rw [e0, lj_0]
      (repeat' (first | (refine xI (fun hfk => ?_) (fun hfk => ?_) <;> ((try (first | replace hfk := oT hfk | replace hfk := oF hfk | simp only [oD, ne_eq, reduceCtorEq] at hfk)); (try exact oX))) | (refine And.intro ?ob ?_; (case ob => (exact oZ))) | exact True.intro | (show _ = _; first | exact oY | (exact hfin; done) | exact rfl) | exact oW | (apply And.intro)))
  · (repeat' (first | (refine xI (fun hfk => ?_) (fun hfk => ?_) <;> ((try (first | replace hfk := oT hfk | replace hfk := oF hfk | simp only [oD, ne_eq, reduceCtorEq] at hfk)); (try exact oX))) | (refine And.intro ?ob ?_; (case ob => (exact oZ))) | exact True.intro | (show _ = _; first | exact oY | exact rfl) | exact oW | (apply And.intro)))
    · exact jw_ok hT (k := k + 1) (by omega)
    · have h1 := congrArg List.length (hjt (k + 1))
      have h2 := (ljt_len hT (k := k + 1) (by omega)).1
      rw [List.length_append] at h1
      exact len_i64b (Nat.le_trans (Nat.le_of_eq h1) (by omega))
    · have h1 := congrArg List.length (hjt (k + 1))
      have h2 := ljt_len hT (k := k + 1) (by omega)
      have h3 := ljt_pos (L.getD (k + 1) Ln.z).2
      have hp := lj_pos L (k := k) (by omega)
      (refine ⟨[0, 1], ⟨by kernel_rfl⟩, ?_⟩)
      (repeat' (first | (refine xI (fun hfk => ?_) (fun hfk => ?_) <;> ((try (first | replace hfk := oT hfk | replace hfk := oF hfk | simp only [oD, ne_eq, reduceCtorEq] at hfk)); (try exact oX))) | (refine And.intro ?ob ?_; (case ob => (exact oZ))) | exact True.intro | (show _ = _; first | exact oY | exact rfl) | exact oW | (apply And.intro)))
      · exact Nat.le_trans (Nat.le_of_eq h1) (by omega)
      have e1 : ljV L (k + 1 + 1) = ljV L (k + 1) ++ (joinV (L.getD (k + 1) Ln.z).snd.length (fun j => AV.str ((L.getD (k + 1) Ln.z).snd.getD j [])) [32] ++ [10]) := by
        rw [lj_succ (by omega), hjt]
      refine ⟨k + 1 + 1, [some 0, some 3], ?_, ?_, ?_⟩
      · dsimp only
        omega
      · dsimp only
        omega
      · (repeat' (first | (refine And.intro ?_ ?_) | exact True.intro | (show _ = _; with_reducible rfl) | exact Chk.mk (by kernel_rfl)))
        all_goals first | rfl | (exact fun _ _ => rfl) | (exact List.length_append.symm.trans (congrArg (fun s : List UInt8 => s.length) e1.symm)) | (exact List.map_append.symm.trans (congrArg (fun s : List UInt8 => s.map fun c => (c.toNat : Int)) e1.symm)) | skip
    · have hp := lj_pos L (k := k) (by omega)
      left
      (refine ⟨[0, 1], ⟨by kernel_rfl⟩, ?_⟩)
      (repeat' (first | (refine xI (fun hfk => ?_) (fun hfk => ?_) <;> ((try (first | replace hfk := oT hfk | replace hfk := oF hfk | simp only [oD, ne_eq, reduceCtorEq] at hfk)); (try exact oX))) | (refine And.intro ?ob ?_; (case ob => (exact oZ))) | exact True.intro | (show _ = _; first | exact oY | exact rfl) | exact oW | (apply And.intro)))
      · exact u8b49 _
      have e0 : k + 1 = L.length := by omega
      have hfin : ((ljV L (k + 1)).map fun c => (c.toNat : Int)).map (fun n : Int => UInt8.ofNat n.toNat) = ljV L L.length := by rw [u8rt49, e0]
      (repeat' (first | (refine xI (fun hfk => ?_) (fun hfk => ?_) <;> ((try (first | replace hfk := oT hfk | replace hfk := oF hfk | simp only [oD, ne_eq, reduceCtorEq] at hfk)); (try exact oX))) | (refine And.intro ?ob ?_; (case ob => (exact oZ))) | exact True.intro | (show _ = _; first | exact oY | (exact hfin; done) | exact rfl) | exact oW | (apply And.intro)))
end Go.Proofs.YtblloaajiaoblaaDoor
namespace Go.Proofs.YtblloaajiaoblaaDoor
open Go Go.RowKit
abbrev ownS (L : List Ln) : PSpec := fun l => match l with | [.ro 2 n f] => some ([n = L.length, f = (fun j => (L.getD j Ln.z).av), L.length ≤ 100000], lnsA L) | _ => none
theorem own49_s (L : List Ln) : SOK Tryd.prog 24 (ownS L) := by
  refine sok_of (C := mkE 0 [] noG [] [] []) (mkE_ok pok_nil noG_ok dl_nil) rfl mixed ⟨Tryd.func24, by kernel_rfl, by kernel_rfl, by kernel_rfl⟩ fun l obs v h ho => ?_
  unfold ownS at h
  split at h
  rotate_left
  · cases h
  rename_i n f
  simp only [Option.some.injEq, Prod.mk.injEq] at h
  obtain ⟨rfl, rfl⟩ := h
  simp only [List.mem_cons, List.not_mem_nil, or_false, forall_eq_or_imp, forall_eq] at ho
  obtain ⟨rfl, rfl, n1⟩ := ho
  refine ⟨Nat.le_of_ble_eq_true rfl, ?_⟩
  (repeat' (first | (refine xI (fun hfk => ?_) (fun hfk => ?_) <;> ((try (first | replace hfk := oT hfk | replace hfk := oF hfk | simp only [oD, ne_eq, reduceCtorEq] at hfk)); (try exact oX))) | (refine And.intro ?ob ?_; (case ob => (exact oZ))) | exact True.intro | (show _ = _; first | exact oY | exact rfl) | exact oW | (apply And.intro)))
  refine ⟨Nat, fun i => [(2, .nils), (3, .sl 0 2 0 i), (6, .ro 2 L.length (fun j => (L.getD j Ln.z).av)), (7, .int .i64 ↑L.length), (8, .int .i64 (i : Int))],
    fun i => ⟨1, [(0, some (.recs 83 2 i (fun j => (L.getD j Ln.z).av)))]⟩,
    fun i => i ≤ L.length, fun i => L.length - i, ⟨0, [none], Nat.zero_le _, ?_⟩, fun i hi => ?_⟩
  · (repeat' (first | (refine And.intro ?_ ?_) | exact True.intro | (show _ = _; with_reducible rfl) | exact Chk.mk (by kernel_rfl)))
    all_goals first | rfl | (exact fun _ _ => rfl)
  have hi : i ≤ L.length := hi
  (repeat' (first | (refine xI (fun hfk => ?_) (fun hfk => ?_) <;> ((try (first | replace hfk := oT hfk | replace hfk := oF hfk | simp only [oD, ne_eq, reduceCtorEq] at hfk)); (try exact oX))) | (refine And.intro ?ob ?_; (case ob => (exact oZ))) | exact True.intro | (show _ = _; first | exact oY | exact rfl) | exact oW | (apply And.intro)))
  · refine ⟨i + 1, [some 3], ?_, ?_, ?_⟩
    · dsimp only
      omega
    · dsimp only
      omega
    · (repeat' (first | (refine And.intro ?_ ?_) | exact True.intro | (show _ = _; with_reducible rfl) | exact Chk.mk (by kernel_rfl)))
      all_goals first | rfl | (exact fun _ _ => rfl) | skip
      intro j hj
      show (if j < i then (L.getD j Ln.z).av else chunkA _ [AV.int IntKind.i64 (L.getD (i : Int).toNat Ln.z).fst, wA (L.getD (i : Int).toNat Ln.z).snd] (0 + (j - i))) = (L.getD j Ln.z).av
      by_cases k : j < i
      · rw [if_pos k]
      · have e : j = i := by omega
        subst e
        rw [if_neg k, Nat.sub_self]
        rfl
  · intro j hj
    show (L.getD (0 + j) Ln.z).av = _
    rw [Nat.zero_add]
def lwV (w : List (List UInt8)) (k : Nat) : List UInt8 := Lib.join (w.take k) [32]
theorem lw_0 (w : List (List UInt8)) : lwV w 0 = [] := rfl
theorem lw_all (w : List (List UInt8)) : lwV w w.length ++ [10] = ljT w := by unfold lwV ljT; rw [List.take_length]
theorem join_snoc (l : List (List UInt8)) (x sep : List UInt8) (h : l ≠ []) : Lib.join (l ++ [x]) sep = Lib.join l sep ++ sep ++ x := by
  match l, h with
  | a :: r, _ =>
    show Lib.join (a :: (r ++ [x])) sep = _
    rw [Lib.join_cons, Lib.join_cons]
    unfold Lib.joinTail
    simp
theorem lw_1 {w : List (List UInt8)} (h : 0 < w.length) : lwV w (0 + 1) = w.getD 0 [] := by
  unfold lwV
  rw [List.take_add_one, List.getD_eq_getElem?_getD, List.getElem?_eq_getElem h]
  exact Lib.join_one _ _
theorem lw_succ {w : List (List UInt8)} {k : Nat} (h0 : 0 < k) (h : k < w.length) : lwV w (k + 1) = lwV w k ++ [32] ++ w.getD k [] := by
  unfold lwV
  rw [List.take_add_one, List.getD_eq_getElem?_getD, List.getElem?_eq_getElem h]
  exact join_snoc _ _ _ (fun e => by have := congrArg List.length e; rw [List.length_take] at this; have : min k w.length = 0 := this; omega)
theorem lw_le {w : List (List UInt8)} : ∀ {n k : Nat}, k ≤ n → n ≤ w.length → (lwV w k).length ≤ (lwV w n).length
  | 0, k, h, _ => by
    have : k = 0 := by omega
    subst this; exact Nat.le_refl _
  | n + 1, k, h, hn => by
    by_cases e : k = n + 1
    · subst e; exact Nat.le_refl _
    · have := lw_le (w := w) (n := n) (k := k) (by omega) (by omega)
      by_cases n0 : n = 0
      · subst n0
        have k0 : k = 0 := by omega
        subst k0
        rw [lw_0]
        exact Nat.zero_le _
      · rw [lw_succ (by omega) (by omega), List.length_append, List.length_append]
        omega
theorem lw_bd {L : List Ln} (h : LjOK L) {i k : Nat} (hi : i < L.length) (hk : k ≤ (L.getD i Ln.z).2.length) : (ljV L i ++ lwV (L.getD i Ln.z).2 k).length + 1 ≤ 100000000 := by
  have h1 := (ljt_len h hi).2
  have h2 := lw_le (w := (L.getD i Ln.z).2) hk (Nat.le_refl _)
  rw [← lw_all, List.length_append] at h1
  rw [List.length_append]
  simp only [List.length_cons, List.length_nil] at h1
  omega
attribute [local irreducible] ljV lwV
theorem rlj_s (L : List Ln) : SOK Tryd.prog 23 (ljS L) := by
  refine sok_of (C := mkC 0 [] noG) (mkC_ok pok_nil noG_ok) rfl mixed ⟨Tryd.func23, by kernel_rfl, by kernel_rfl, by kernel_rfl⟩ fun l obs v h ho => ?_
  unfold ljS at h
  split at h
  rotate_left
  · cases h
  rename_i n f
  simp only [Option.some.injEq, Prod.mk.injEq] at h
  obtain ⟨rfl, rfl⟩ := h
  simp only [List.mem_cons, List.not_mem_nil, or_false, forall_eq_or_imp, forall_eq] at ho
  obtain ⟨rfl, rfl, hT⟩ := ho
  have n1 := hT.n100
  refine ⟨Nat.le_of_ble_eq_true rfl, ?_⟩
  (repeat' (first | (refine xI (fun hfk => ?_) (fun hfk => ?_) <;> ((try (first | replace hfk := oT hfk | replace hfk := oF hfk | simp only [oD, ne_eq, reduceCtorEq] at hfk)); (try exact oX))) | (refine And.intro ?ob ?_; (case ob => (exact oZ))) | exact True.intro | (show _ = _; first | exact oY | exact rfl) | exact oW | (apply And.intro)))
  refine ⟨Nat, fun i => [(0, .ro 2 L.length (fun j => (L.getD j Ln.z).av)), (2, .str ((ByteArray.mk #[]).data.toList)), (3, .str (ljV L i)), (4, .int .i64 (i : Int))],
    fun i => ⟨0, []⟩,
    fun i => i ≤ L.length, fun i => L.length - i, ⟨0, [], Nat.zero_le _, ?_⟩, fun i hi => ?_⟩
  · (repeat' (first | (refine And.intro ?_ ?_) | exact True.intro | (show _ = _; with_reducible rfl) | exact Chk.mk (by kernel_rfl)))
    all_goals first | rfl | (exact fun _ _ => rfl) | exact (lj_0 L).symm
  have hi : i ≤ L.length := hi
  obtain ⟨w, hw⟩ : ∃ w, (L.getD i Ln.z).2 = w := ⟨_, rfl⟩
  have bd : ∀ k, i < L.length → k ≤ w.length → (ljV L i ++ lwV w k).length + 1 ≤ 100000000 := fun k h1 h2 => by
    have := lw_bd hT (i := i) (k := k) h1 (by rw [hw]; exact h2)
    rw [hw] at this
    exact this
  have q0 : 0 < w.length → (ljV L i ++ lwV w 0) ++ w.getD 0 [] = ljV L i ++ lwV w (0 + 1) := fun h => by rw [lw_1 h, lw_0, List.append_nil]
  have qk : ∀ k, 0 < k → k < w.length → (ljV L i ++ lwV w k) ++ [32] ++ w.getD k [] = ljV L i ++ lwV w (k + 1) := fun k h1 h => by rw [lw_succ h1 h]; simp
  have qe : i < L.length → (ljV L i ++ lwV w w.length) ++ [10] = ljV L (i + 1) := fun h => by rw [lj_succ h, hw, ← lw_all, List.append_assoc]
  have w1 : i < L.length → w.length ≤ 100000 := fun h => by
    rw [← hw]
    exact hT.w100 _ (by rw [List.getD_eq_getElem?_getD, List.getElem?_eq_getElem h]; exact List.getElem_mem h)
  have l32 : (ByteArray.mk #[32]).data.toList.length = 1 := rfl
  have l10 : (ByteArray.mk #[10]).data.toList.length = 1 := rfl
  subst hw
  have wl : (L.getD (i : Int).toNat Ln.z).snd.length = (L.getD i Ln.z).2.length := rfl
  (repeat' (first | (refine xI (fun hfk => ?_) (fun hfk => ?_) <;> ((try (first | replace hfk := oT hfk | replace hfk := oF hfk | simp only [oD, ne_eq, reduceCtorEq] at hfk)); (try exact oX))) | (refine And.intro ?ob ?_; (case ob => (exact oZ))) | exact True.intro | (show _ = _; first | exact oY | exact rfl) | exact oW | (apply And.intro)))
  · refine ⟨Nat, fun k => [(0, .ro 2 L.length (fun j => (L.getD j Ln.z).av)), (2, .str ((ByteArray.mk #[]).data.toList)), (3, .str (ljV L i ++ lwV (L.getD i Ln.z).2 k)), (4, .int .i64 (i : Int)), (5, .int .i64 (k : Int))],
      fun k => ⟨0, []⟩,
      fun k => k ≤ (L.getD i Ln.z).2.length, fun k => (L.getD i Ln.z).2.length - k, ⟨0, [], Nat.zero_le _, ?_⟩, fun k hk => ?_⟩
    · (repeat' (first | (refine And.intro ?_ ?_) | exact True.intro | (show _ = _; with_reducible rfl) | exact Chk.mk (by kernel_rfl)))
      all_goals first | rfl | (exact fun _ _ => rfl) | (show _ = _; rw [lw_0, List.append_nil])
    have hk : k ≤ (L.getD i Ln.z).2.length := hk
    (repeat' (first | (refine xI (fun hfk => ?_) (fun hfk => ?_) <;> ((try (first | replace hfk := oT hfk | replace hfk := oF hfk | simp only [oD, ne_eq, reduceCtorEq] at hfk)); (try exact oX))) | (refine And.intro ?ob ?_; (case ob => (exact oZ))) | exact True.intro | (show _ = _; first | exact oY | exact rfl) | exact oW | (apply And.intro)))
    · refine len_i64b ?_
      have := bd k (by omega) (by omega)
      omega
    · have h1 := congrArg List.length (qk k (by omega) (by omega))
      have h2 := bd (k + 1) (by omega) (by omega)
      rw [List.length_append] at h1
      exact len_i64b (Nat.le_trans (Nat.le_of_eq h1) (by omega))
    · have h1 := qk k (by omega) (by omega)
      refine ⟨k + 1, [], ?_, ?_, ?_⟩
      · dsimp only
        omega
      · dsimp only
        omega
      · (repeat' (first | (refine And.intro ?_ ?_) | exact True.intro | (show _ = _; with_reducible rfl) | exact Chk.mk (by kernel_rfl)))
        all_goals first | rfl | (exact fun _ _ => rfl) | exact h1 | skip
    · have k0 : k = 0 := by omega
      subst k0
      have h1 := congrArg List.length (q0 (by omega))
      have h2 := bd (0 + 1) (by omega) (by omega)
      rw [List.length_append] at h1
      exact len_i64b (Nat.le_trans (Nat.le_of_eq h1) (by omega))
    · have k0 : k = 0 := by omega
      subst k0
      have h1 := q0 (by omega)
      refine ⟨0 + 1, [], ?_, ?_, ?_⟩
      · dsimp only
        omega
      · dsimp only
        omega
      · (repeat' (first | (refine And.intro ?_ ?_) | exact True.intro | (show _ = _; with_reducible rfl) | exact Chk.mk (by kernel_rfl)))
        all_goals first | rfl | (exact fun _ _ => rfl) | exact h1 | skip
    · refine len_i64b ?_
      have := bd k (by omega) (by omega)
      omega
    · have ke : k = (L.getD i Ln.z).2.length := by omega
      have h1 := qe (by omega)
      rw [← ke] at h1
      refine ⟨i + 1, [], ?_, ?_, ?_⟩
      · dsimp only
        omega
      · dsimp only
        omega
      · (repeat' (first | (refine And.intro ?_ ?_) | exact True.intro | (show _ = _; with_reducible rfl) | exact Chk.mk (by kernel_rfl)))
        all_goals first | rfl | (exact fun _ _ => rfl) | exact h1 | skip
  · have e0 : i = L.length := by omega
    have hfin : ljV L i = ljV L L.length := by rw [e0]
    (repeat' (first | (refine xI (fun hfk => ?_) (fun hfk => ?_) <;> ((try (first | replace hfk := oT hfk | replace hfk := oF hfk | simp only [oD, ne_eq, reduceCtorEq] at hfk)); (try exact oX))) | (refine And.intro ?ob ?_; (case ob => (exact oZ))) | exact True.intro | (show _ = _; first | exact oY | (exact hfin; done) | exact rfl) | exact oW | (apply And.intro)))
end Go.Proofs.YtblloaajiaoblaaDoor
namespace Go.Proofs.YtblloaajiaoblaaDoor
open Go Go.RowKit
theorem nD_le : ∀ (k u : Nat), u < 10 ^ (k + 1) → Lib.nDigits u ≤ k + 1
  | 0, u, h => by rw [Lib.nDigits_small (by simpa using h)]; exact Nat.le_refl _
  | k + 1, u, h => by
    by_cases h1 : u < 10
    · rw [Lib.nDigits_small h1]; omega
    · rw [Lib.nDigits_big h1]
      have := nD_le k (u / 10) (by rw [Nat.div_lt_iff_lt_mul (by decide)]; rw [Nat.pow_succ] at h; exact h)
      omega
theorem nD_pos (u : Nat) : 1 ≤ Lib.nDigits u := by
  by_cases h1 : u < 10
  · rw [Lib.nDigits_small h1]; exact Nat.le_refl _
  · rw [Lib.nDigits_big h1]; omega
end Go.Proofs.YtblloaajiaoblaaDoor
namespace Go.Proofs.YtblloaajiaoblaaDoor
open Go Go.RowKit
theorem dec_step {n : Nat} (h : 0 < n) (s : List UInt8) : (if n < 10 then [] else Lib.decDigits (n / 10)) ++ (UInt8.ofNat (48 + n % 10) :: s) = Lib.decDigits n ++ s := by
  by_cases k : n < 10
  · rw [if_pos k, Lib.decDigits_one k, Nat.mod_eq_of_lt k]; rfl
  · rw [if_neg k]
    conv => rhs; rw [Lib.decDigits, dif_neg k]
    simp
structure TxI (N n : Nat) (s : List UInt8) : Prop where
  le : n ≤ N
  pos : 0 < n → Lib.decDigits n ++ s = Lib.decDigits N
  nil : n = 0 → s = if N = 0 then [] else Lib.decDigits N
theorem tx_0 (N : Nat) : TxI N N [] := ⟨Nat.le_refl _, fun _ => List.append_nil _, fun h => by rw [h]; rfl⟩
theorem tx_next {N n : Nat} {s : List UInt8} (h : TxI N n s) (hn : 0 < n) : TxI N (n / 10) (UInt8.ofNat (48 + n % 10) :: s) := by
  have hN := h.le
  have hp := h.pos hn
  rw [← dec_step hn] at hp
  refine ⟨by omega, fun k => ?_, fun k => ?_⟩
  · rw [if_neg (by omega)] at hp; exact hp
  · rw [if_pos (by omega)] at hp; rw [if_neg (by omega)]; exact hp
theorem tx_len {N n : Nat} {s : List UInt8} (h : TxI N n s) (hN : N < 10 ^ 20) : s.length ≤ 20 := by
  have hl : (Lib.decDigits N).length ≤ 20 := by rw [Lib.decDigits_length]; exact nD_le 19 N hN
  by_cases k : n = 0
  · rw [h.nil k]; split
    · exact Nat.zero_le _
    · exact hl
  · rw [← h.pos (by omega), List.length_append] at hl; omega
structure TxOK (d : List Int) : Prop where
  lt : valD d < 18446744073709551616
theorem len_i64' {n : Nat} (h : n ≤ 1000) : ((n : Nat) : Int) ≤ IntKind.i64.max := by
  show (n : Int) ≤ 9223372036854775807
  omega
theorem Bg_nat {n : Nat} (h : n < 37778931862957161709568) : Bg false (dgs n) :=
  ⟨Dig_dgs _, by rw [valD_dgs, Int.toNat_natCast], ⟨by
    have := dgs_len (k := 5) (n := n) (by have : (32768 : Nat) ^ 5 = 37778931862957161709568 := rfl
                                          omega)
    omega⟩, fun k => by cases k⟩
theorem Bg10 : Bg (decide ((10 : Int) < 0)) (dgs (Int.natAbs 10)) := Bg_i64 (by omega) (by omega)
theorem val10 : valD (dgs (Int.natAbs 10)) = 10 := by rw [valD_dgs]; rfl
theorem bzv10 : bzv (decide ((10 : Int) < 0)) (dgs (Int.natAbs 10)) = 10 := bzv_big 10
def txV (s : Bool) (d : List Int) : List UInt8 := Lib.itoa (bzv s d)
abbrev textS : PSpec := gB1 (fun s d => [Bg s d, TxOK d]) fun s d => .str (txV s d)
theorem text_s : SOK Tryd.prog 39 textS := by
  refine sok_of (C := mkT 0 [(34, ofS), (62, fun l => floorOneS (l.map fzA)), (36, fun l => mulS (l.map fzA)), (64, fun l => subS (l.map fzA)), (63, unsignedS)] noG [] [] [2, 4, 5])
    (mkT_ok (pok_cons of_s (pok_cons (sok_fz floorOne_s) (pok_cons (sok_fz mul_s) (pok_cons (sok_fz sub_s) (pok_cons unsigned_s pok_nil))))) noG_ok dl_nil) rfl mixed ⟨Tryd.func39, by kernel_rfl, by kernel_rfl, by kernel_rfl⟩ fun l obs v h ho => ?_
  unfold textS at h
  (unfold gB1 at h; split at h; rotate_left; (focus (cases h)); rename_i sg d; simp only [Option.some.injEq, Prod.mk.injEq] at h; obtain ⟨rfl, rfl⟩ := h; simp only [List.mem_cons, List.not_mem_nil, or_false, forall_eq_or_imp, forall_eq, false_implies, implies_true] at ho)
  obtain ⟨b1, hok⟩ := ho
  have hlt := hok.lt
  have n1 := valD_nn b1.dig
  obtain ⟨N, hN⟩ : ∃ N : Nat, valD d = N := ⟨(valD d).toNat, by omega⟩
  have hd : d = dgs N := by rw [b1.dg, hN, Int.toNat_natCast]
  refine ⟨Nat.le_of_ble_eq_true rfl, ?_⟩
  (repeat' (first | (refine xI (fun hfk => ?_) (fun hfk => ?_) <;> ((try (first | replace hfk := oT hfk | replace hfk := oF hfk | simp only [oD, ne_eq, reduceCtorEq] at hfk)); (try exact oX))) | (refine And.intro ?ob ?_; (case ob => (exact oZ))) | exact True.intro | (show _ = _; first | exact oY | exact rfl) | exact oW | (apply And.intro)))
  refine ⟨[(1, .ptr 0 0), (2, .str []), (3, .str []), (4, .ptr 1 0)],
    ⟨2, [(0, some (.cells 69 [.bool sg, .roi .i64 d])), (1, some (.cells 69 [.bool false, .roi .i64 (dgs N)]))]⟩, [some 0, some 1], ?_, ?_⟩
  · (repeat' (first | (refine And.intro ?_ ?_) | exact True.intro | (show _ = _; with_reducible rfl) | exact Chk.mk (by kernel_rfl)))
    all_goals first | exact hd | rfl
  (repeat' (first | (refine xI (fun hfk => ?_) (fun hfk => ?_) <;> ((try (first | replace hfk := oT hfk | replace hfk := oF hfk | simp only [oD, ne_eq, reduceCtorEq] at hfk)); (try exact oX))) | (refine And.intro ?ob ?_; (case ob => (exact oZ))) | exact True.intro | (show _ = _; first | exact oY | exact rfl) | exact oW | (apply And.intro)))
  refine ⟨Nat × List UInt8, fun g => [(1, .ptr 0 0), (2, .str []), (3, .str g.2), (4, .ptr 1 0)], fun g => ⟨2, [(0, some (.cells 69 [.bool sg, .roi .i64 d])), (1, some (.cells 69 [.bool false, .roi .i64 (dgs g.1)]))]⟩,
    fun g => TxI N g.1 g.2, fun g => g.1, ⟨(N, []), [some 0, some 1], tx_0 N, ?_⟩, fun g hg => ?_⟩
  · (repeat' (first | (refine And.intro ?_ ?_) | exact True.intro | (show _ = _; with_reducible rfl) | exact Chk.mk (by kernel_rfl)))
    all_goals rfl
  obtain ⟨n, s⟩ := g
  have hg : TxI N n s := hg
  dsimp only
  have hle := hg.le
  by_cases hn : n = 0
  · have hs := hg.nil hn
    subst hn
    have l0 : (dgs 0).length = 0 := by rw [dgs_0]; rfl
    by_cases hN0 : N = 0
    · rw [if_pos hN0] at hs
      subst hs
      have e : txV sg d = [48] := by
        unfold txV bzv
        rw [hN, hN0]
        have : (if sg = true then -((0 : Nat) : Int) else ((0 : Nat) : Int)) = ((0 : Nat) : Int) := by split <;> rfl
        rw [this, Lib.itoa_nonneg, Lib.decDigits_one (by decide)]; rfl
      (repeat' (first | (refine xI (fun hfk => ?_) (fun hfk => ?_) <;> ((try (first | replace hfk := oT hfk | replace hfk := oF hfk | simp only [oD, ne_eq, reduceCtorEq] at hfk)); (try exact oX))) | (refine And.intro ?ob ?_; (case ob => (exact oZ))) | exact True.intro | (show _ = _; first | exact oY | (exact e.symm; done) | exact rfl) | exact oW | (apply And.intro)))
    · rw [if_neg hN0] at hs
      subst hs
      have hp := nD_pos N
      have hl := Lib.decDigits_length N
      have ne : ¬ Lib.decDigits N = [] := fun k => by rw [k] at hl; simp at hl; omega
      have l20 : (Lib.decDigits N).length ≤ 20 := by rw [hl]; exact nD_le 19 N (by omega)
      cases sg with
      | true =>
        have e : txV true d = 45 :: Lib.decDigits N := by
          unfold txV bzv
          rw [if_pos rfl, hN, Lib.itoa_neg N (by omega)]
        have q1 : (ByteArray.mk #[45]).data.toList.length = 1 := rfl
        have q2 : ((((ByteArray.mk #[45]).data.toList.length + (Lib.decDigits N).length : Nat)) : Int) ≤ IntKind.i64.max := len_i64' (by omega)
        (repeat' (first | (refine xI (fun hfk => ?_) (fun hfk => ?_) <;> ((try (first | replace hfk := oT hfk | replace hfk := oF hfk | simp only [oD, ne_eq, reduceCtorEq] at hfk)); (try exact oX))) | (refine And.intro ?ob ?_; (case ob => (exact oZ))) | exact True.intro | (show _ = _; first | exact oY | (first | exact e.symm | exact q2; done) | exact rfl) | exact oW | (apply And.intro)))
      | false =>
        have e : txV false d = Lib.decDigits N := by
          unfold txV bzv
          rw [if_neg (by decide), hN, Lib.itoa_nonneg]
        (repeat' (first | (refine xI (fun hfk => ?_) (fun hfk => ?_) <;> ((try (first | replace hfk := oT hfk | replace hfk := oF hfk | simp only [oD, ne_eq, reduceCtorEq] at hfk)); (try exact oX))) | (refine And.intro ?ob ?_; (case ob => (exact oZ))) | exact True.intro | (show _ = _; first | exact oY | (exact e.symm; done) | exact rfl) | exact oW | (apply And.intro)))
  · have hn0 : 0 < n := by omega
    have hnx := tx_next hg hn0
    have ls := tx_len hg (by omega)
    have l1 : 0 < ((dgs n).length : Int) := dgs_len0.2 hn0
    have vn : valD (dgs n) = n := valD_dgs n
    have BN : Bg false (dgs n) := Bg_nat (by omega)
    have B10 := Bg10
    have v10 := val10
    have f10 : decide ((10 : Int) < 0) = false := rfl
    have l10 : (dgs (Int.natAbs 10)).length = 1 := by rw [show Int.natAbs 10 = 10 from rfl, dgs_pos (by decide), show 10 / 32768 = 0 from rfl, dgs_0]; rfl
    have l5 : (dgs n).length ≤ 1000 := by
      have := dgs_len (k := 5) (n := n) (by have : (32768 : Nat) ^ 5 = 37778931862957161709568 := rfl
                                            omega)
      omega
    (repeat' (first | (refine xI (fun hfk => ?_) (fun hfk => ?_) <;> ((try (first | replace hfk := oT hfk | replace hfk := oF hfk | simp only [oD, ne_eq, reduceCtorEq] at hfk)); (try exact oX))) | (refine And.intro ?ob ?_; (case ob => (exact oZ))) | exact True.intro | (show _ = _; first | exact oY | (first | exact BN | exact B10 | exact f10; done) | exact rfl) | exact oW | (apply And.intro)))
    refine ⟨[(1, .ptr 0 0), (2, .str []), (3, .str s), (4, .ptr 1 0), (5, .ptr 2 0)],
      ⟨3, [(0, some (.cells 69 [.bool sg, .roi .i64 d])), (1, some (.cells 69 [.bool false, .roi .i64 (dgs n)])), (2, some (.cells 69 [.bool false, .roi .i64 (dgs (n / 10))]))]⟩, [some 0, some 1, some 2], ?_, ?_⟩
    · have eq : valD (dgs n) / valD (dgs (Int.natAbs 10)) = ((n / 10 : Nat) : Int) := by rw [vn, v10]; rfl
      have e1 : decide (valD (dgs n) / valD (dgs (Int.natAbs 10)) < 0) = false := by rw [eq]; exact decide_eq_false (by omega)
      have e2 : dgs (valD (dgs n) / valD (dgs (Int.natAbs 10))).natAbs = dgs (n / 10) := by rw [eq, Int.natAbs_natCast]
      (repeat' (first | (refine And.intro ?_ ?_) | exact True.intro | (show _ = _; with_reducible rfl) | exact Chk.mk (by kernel_rfl)))
      all_goals first | exact e1 | exact e2 | rfl
    have BQ : Bg false (dgs (n / 10)) := Bg_nat (by omega)
    have vq : bzv false (dgs (n / 10)) = (n / 10 : Nat) := valD_dgs _
    have vn' : bzv false (dgs n) = n := valD_dgs _
    have v10' := bzv10
    have em : bzv false (dgs (n / 10)) * bzv (decide ((10 : Int) < 0)) (dgs (Int.natAbs 10)) = ((n / 10 * 10 : Nat) : Int) := by rw [vq, v10']; omega
    have BM : Bg (decide (bzv false (dgs (n / 10)) * bzv (decide ((10 : Int) < 0)) (dgs (Int.natAbs 10)) < 0)) (dgs (bzv false (dgs (n / 10)) * bzv (decide ((10 : Int) < 0)) (dgs (Int.natAbs 10))).natAbs) := by
      rw [em, decide_eq_false (by omega), Int.natAbs_natCast]; exact Bg_nat (by omega)
    have es : (bzv false (dgs n) - bzv (decide (bzv false (dgs (n / 10)) * bzv (decide ((10 : Int) < 0)) (dgs (Int.natAbs 10)) < 0)) (dgs (bzv false (dgs (n / 10)) * bzv (decide ((10 : Int) < 0)) (dgs (Int.natAbs 10))).natAbs)) = ((n % 10 : Nat) : Int) := by rw [bzv_big, em, vn']; omega
    have BS : Bg (decide ((bzv false (dgs n) - bzv (decide (bzv false (dgs (n / 10)) * bzv (decide ((10 : Int) < 0)) (dgs (Int.natAbs 10)) < 0)) (dgs (bzv false (dgs (n / 10)) * bzv (decide ((10 : Int) < 0)) (dgs (Int.natAbs 10))).natAbs)) < 0)) (dgs (bzv false (dgs n) - bzv (decide (bzv false (dgs (n / 10)) * bzv (decide ((10 : Int) < 0)) (dgs (Int.natAbs 10)) < 0)) (dgs (bzv false (dgs (n / 10)) * bzv (decide ((10 : Int) < 0)) (dgs (Int.natAbs 10))).natAbs)).natAbs) := by
      rw [es, decide_eq_false (by omega), Int.natAbs_natCast]; exact Bg_nat (by omega)
    have vs : valD (dgs (bzv false (dgs n) - bzv (decide (bzv false (dgs (n / 10)) * bzv (decide ((10 : Int) < 0)) (dgs (Int.natAbs 10)) < 0)) (dgs (bzv false (dgs (n / 10)) * bzv (decide ((10 : Int) < 0)) (dgs (Int.natAbs 10))).natAbs)).natAbs) = ((n % 10 : Nat) : Int) := by rw [es, Int.natAbs_natCast, valD_dgs]
    have vs2 : valD (dgs (bzv false (dgs n) - bzv (decide (bzv false (dgs (n / 10)) * bzv (decide ((10 : Int) < 0)) (dgs (Int.natAbs 10)) < 0)) (dgs (bzv false (dgs (n / 10)) * bzv (decide ((10 : Int) < 0)) (dgs (Int.natAbs 10))).natAbs)).natAbs) < 18446744073709551616 := by omega
    have hL : (List.map (fun n : Int => UInt8.ofNat n.toNat) (List.take 1 (List.drop 0 ((fun x => (IntKind.u8.wrap (IntKind.u64.wrap (48 + valD (dgs (bzv false (dgs n) - bzv (decide (bzv false (dgs (n / 10)) * bzv (decide ((10 : Int) < 0)) (dgs (Int.natAbs 10)) < 0)) (dgs (bzv false (dgs (n / 10)) * bzv (decide ((10 : Int) < 0)) (dgs (Int.natAbs 10))).natAbs)).natAbs)))) :: x) ([] : List Int))))) = [UInt8.ofNat (48 + n % 10)] := by
      rw [vs]
      have w1 : IntKind.u64.wrap (48 + ((n % 10 : Nat) : Int)) = ((48 + n % 10 : Nat) : Int) := by rw [u64_id (by omega) (by omega)]; omega
      have w2 : IntKind.u8.wrap ((48 + n % 10 : Nat) : Int) = ((48 + n % 10 : Nat) : Int) := wrap_rng ⟨by show (0 : Int) ≤ _; omega, by show _ ≤ (255 : Int); omega⟩
      rw [w1, w2]; rfl
    have hl2 : ((((List.map (fun n : Int => UInt8.ofNat n.toNat) (List.take 1 (List.drop 0 ((fun x => (IntKind.u8.wrap (IntKind.u64.wrap (48 + valD (dgs (bzv false (dgs n) - bzv (decide (bzv false (dgs (n / 10)) * bzv (decide ((10 : Int) < 0)) (dgs (Int.natAbs 10)) < 0)) (dgs (bzv false (dgs (n / 10)) * bzv (decide ((10 : Int) < 0)) (dgs (Int.natAbs 10))).natAbs)).natAbs)))) :: x) ([] : List Int))))).length + s.length : Nat)) : Int) ≤ IntKind.i64.max := by
      rw [hL]; exact len_i64' (by show 1 + s.length ≤ 1000; omega)
    (repeat' (first | (refine xI (fun hfk => ?_) (fun hfk => ?_) <;> ((try (first | replace hfk := oT hfk | replace hfk := oF hfk | simp only [oD, ne_eq, reduceCtorEq] at hfk)); (try exact oX))) | (refine And.intro ?ob ?_; (case ob => (exact oZ))) | exact True.intro | (show _ = _; first | exact oY | (first | exact BN | exact B10 | exact BQ | exact BM | exact BS | exact vs2 | exact hl2; done) | exact rfl) | exact oW | (apply And.intro)))
    refine ⟨[(1, .ptr 0 0), (2, .str []), (3, .str (UInt8.ofNat (48 + n % 10) :: s)), (4, .ptr 1 0), (5, .ptr 2 0)],
      ⟨3, [(0, some (.cells 69 [.bool sg, .roi .i64 d])), (1, some (.cells 69 [.bool false, .roi .i64 (dgs n)])), (2, some (.cells 69 [.bool false, .roi .i64 (dgs (n / 10))]))]⟩, [some 0, some 1, some 2], ?_, ?_⟩
    · have e3 : (List.map (fun n : Int => UInt8.ofNat n.toNat) (List.take 1 (List.drop 0 ((fun x => (IntKind.u8.wrap (IntKind.u64.wrap (48 + valD (dgs (bzv false (dgs n) - bzv (decide (bzv false (dgs (n / 10)) * bzv (decide ((10 : Int) < 0)) (dgs (Int.natAbs 10)) < 0)) (dgs (bzv false (dgs (n / 10)) * bzv (decide ((10 : Int) < 0)) (dgs (Int.natAbs 10))).natAbs)).natAbs)))) :: x) ([] : List Int))))) ++ s = UInt8.ofNat (48 + n % 10) :: s := by rw [hL]; rfl
      (repeat' (first | (refine And.intro ?_ ?_) | exact True.intro | (show _ = _; with_reducible rfl) | exact Chk.mk (by kernel_rfl)))
      all_goals first | exact e3 | rfl
    clear hL hl2 vs2 vs BS es BM em
    (repeat' (first | (refine xI (fun hfk => ?_) (fun hfk => ?_) <;> ((try (first | replace hfk := oT hfk | replace hfk := oF hfk | simp only [oD, ne_eq, reduceCtorEq] at hfk)); (try exact oX))) | (refine And.intro ?ob ?_; (case ob => (exact oZ))) | exact True.intro | (show _ = _; first | exact oY | exact rfl) | exact oW | (apply And.intro)))
    refine ⟨(n / 10, UInt8.ofNat (48 + n % 10) :: s), [some 0, some 1], hnx, ?mu, ?_⟩
    case mu => (show n / 10 < n; omega)
    (repeat' (first | (refine And.intro ?_ ?_) | exact True.intro | (show _ = _; with_reducible rfl) | exact Chk.mk (by kernel_rfl)))
    all_goals rfl
end Go.Proofs.YtblloaajiaoblaaDoor
namespace Go.Proofs.YtblloaajiaoblaaDoor
open Go Go.RowKit
abbrev fitS : PSpec := fun l => match l with | [.agg [.bool s, .roi .i64 d], .int .i64 n] => some ([Bg s d, n = 63], .bool (decide (-9223372036854775808 ≤ bzv s d ∧ bzv s d < 9223372036854775808))) | _ => none
theorem cmp_ge {a b : Int} : (0 ≤ cmpV a b) ↔ b ≤ a := by
  unfold cmpV
  by_cases h : a < b
  · rw [if_pos h]; omega
  · rw [if_neg h]; split <;> omega
theorem cmp_lt {a b : Int} : (cmpV a b < 0) ↔ a < b := by
  unfold cmpV
  by_cases h : a < b
  · rw [if_pos h]; omega
  · rw [if_neg h]; split <;> omega
theorem fits_s : SOK Tryd.prog 38 fitS := by
  refine sok_of (C := mkC 0 [(61, powS), (37, negS), (60, cmpS)] noG) (mkC_ok (pok_cons pow_s (pok_cons neg_s (pok_cons cmp_s pok_nil))) noG_ok) rfl mixed ⟨Tryd.func38, by kernel_rfl, by kernel_rfl, by kernel_rfl⟩ fun l obs v h ho => ?_
  (unfold fitS at h; split at h; rotate_left; (focus (cases h)); rename_i s d n; simp only [Option.some.injEq, Prod.mk.injEq] at h; obtain ⟨rfl, rfl⟩ := h; simp only [List.mem_cons, List.not_mem_nil, or_false, forall_eq_or_imp, forall_eq, false_implies, implies_true] at ho)
  obtain ⟨hb, rfl⟩ := ho
  have B1 : Bg (decide ((2 : Int) ^ Int.toNat 63 < 0)) (dgs ((2 : Int) ^ Int.toNat 63).natAbs) := Bg_two (by decide)
  have e1 : bzv (decide (-bzv (decide ((2 : Int) ^ Int.toNat 63 < 0)) (dgs ((2 : Int) ^ Int.toNat 63).natAbs) < 0)) (dgs (-bzv (decide ((2 : Int) ^ Int.toNat 63 < 0)) (dgs ((2 : Int) ^ Int.toNat 63).natAbs)).natAbs) = -9223372036854775808 := by
    rw [bzv_big, bzv_big]
    decide
  have e2 : bzv (decide ((2 : Int) ^ Int.toNat 63 < 0)) (dgs ((2 : Int) ^ Int.toNat 63).natAbs) = 9223372036854775808 := by
    rw [bzv_big]
    decide
  have B2 : Bg (decide (-bzv (decide ((2 : Int) ^ Int.toNat 63 < 0)) (dgs ((2 : Int) ^ Int.toNat 63).natAbs) < 0)) (dgs (-bzv (decide ((2 : Int) ^ Int.toNat 63 < 0)) (dgs ((2 : Int) ^ Int.toNat 63).natAbs)).natAbs) := by
    rw [e2]
    exact Bg_i64 (by omega) (by omega)
  refine ⟨Nat.le_of_ble_eq_true rfl, ?_⟩
  by_cases z0 : -9223372036854775808 ≤ bzv s d
  · have q1 : 0 ≤ cmpV (bzv s d) (bzv (decide (-bzv (decide ((2 : Int) ^ Int.toNat 63 < 0)) (dgs ((2 : Int) ^ Int.toNat 63).natAbs) < 0)) (dgs (-bzv (decide ((2 : Int) ^ Int.toNat 63 < 0)) (dgs ((2 : Int) ^ Int.toNat 63).natAbs)).natAbs)) := by
      rw [e1]; exact cmp_ge.2 z0
    have f1 : decide (cmpV (bzv s d) (bzv (decide ((2 : Int) ^ Int.toNat 63 < 0)) (dgs ((2 : Int) ^ Int.toNat 63).natAbs)) < 0) = decide (-9223372036854775808 ≤ bzv s d ∧ bzv s d < 9223372036854775808) := by
      rw [e2]
      exact decide_eq_decide.2 ⟨fun h => ⟨z0, cmp_lt.1 h⟩, fun h => cmp_lt.2 h.2⟩
    clear e1 e2
    (repeat' (first | (refine xI (fun hfk => ?_) (fun hfk => ?_) <;> ((try (first | replace hfk := oT hfk | replace hfk := oF hfk | simp only [oD, ne_eq, reduceCtorEq] at hfk)); (try exact oX))) | (refine And.intro ?ob ?_; (case ob => (exact oZ))) | exact True.intro | (show _ = _; first | exact oY | (first | exact hb | exact B1 | exact B2 | exact f1; done) | exact rfl) | exact oW | (apply And.intro)))
  · have q1 : ¬ 0 ≤ cmpV (bzv s d) (bzv (decide (-bzv (decide ((2 : Int) ^ Int.toNat 63 < 0)) (dgs ((2 : Int) ^ Int.toNat 63).natAbs) < 0)) (dgs (-bzv (decide ((2 : Int) ^ Int.toNat 63 < 0)) (dgs ((2 : Int) ^ Int.toNat 63).natAbs)).natAbs)) := by
      rw [e1]; exact fun h => z0 (cmp_ge.1 h)
    have f1 : decide (-9223372036854775808 ≤ bzv s d ∧ bzv s d < 9223372036854775808) = false := decide_eq_false fun h => z0 h.1
    clear e1 e2
    (repeat' (first | (refine xI (fun hfk => ?_) (fun hfk => ?_) <;> ((try (first | replace hfk := oT hfk | replace hfk := oF hfk | simp only [oD, ne_eq, reduceCtorEq] at hfk)); (try exact oX))) | (refine And.intro ?ob ?_; (case ob => (exact oZ))) | exact True.intro | (show _ = _; first | exact oY | (first | exact hb | exact B1 | exact B2 | exact f1.symm; done) | exact rfl) | exact oW | (apply And.intro)))
theorem small_least (w : World) (v : Value) (hU : ∀ w1 : World, Below w.heap.size w w1 → Calls Tryd.prog 63 #[.agg #[.bool true, v]] w1 fun e w' => e = .returned (.int .u64 9223372036854775808) ∧ Below w1.heap.size w1 w') :
    Calls Tryd.prog 40 #[.agg #[.bool true, v]] w fun e w' => e = .returned (.int .i64 (-9223372036854775808)) ∧ Below w.heap.size w w' := by
  have HU : Hid (∀ w1 : World, Below w.heap.size w w1 → Calls Tryd.prog 63 #[.agg #[.bool true, v]] w1 fun e w' => e = .returned (.int .u64 9223372036854775808) ∧ Below w1.heap.size w1 w') := hU
  clear hU
  go_enter Tryd.func40, Tryd.ntmps40
  go_wp2_with (go_at_call 63; refine (HU.out _ ((Below.refl w.heap.size w).alloc (Nat.le_refl _) _)).mono ?_; rintro e w2 ⟨rfl, hb2⟩; have hc : w2.cell? ⟨w.heap.size, 0, none⟩ = some (.bool true) := (hb2.cell (by show w.heap.size < _; rw [World.size_alloc]; exact Nat.lt_succ_self _)).trans (by rw [World.cell?_alloc_new]; rfl))
  go_ret
  refine ⟨?_, (((Below.refl w.heap.size w).alloc (Nat.le_refl _) _).trans (hb2.mono (by rw [World.size_alloc]; omega)))⟩
  have e : wrap64 (-wrap64 9223372036854775808) = -9223372036854775808 := by unfold wrap64; omega
  rw [e]
  rfl
abbrev small2S : PSpec := gB1 (fun s d => [Bg s d, -9223372036854775808 ≤ bzv s d, bzv s d < 9223372036854775808]) fun s d => .int .i64 (bzv s d)
theorem small2_s : SOK Tryd.prog 40 small2S := by
  refine ⟨small_s.1, fun l obs v h ho w O cl hf hc => ?_⟩
  unfold small2S at h
  (unfold gB1 at h; split at h; rotate_left; (focus (cases h)); rename_i s d; simp only [Option.some.injEq, Prod.mk.injEq] at h; obtain ⟨rfl, rfl⟩ := h; simp only [List.mem_cons, List.not_mem_nil, or_false, forall_eq_or_imp, forall_eq, false_implies, implies_true] at ho)
  obtain ⟨hb, z0, z1⟩ := ho
  have hn := valD_nn hb.dig
  by_cases k : valD d < 9223372036854775808
  · exact small_s.2 _ _ _ rfl (fun p hp => by
      simp only [List.mem_cons, List.not_mem_nil, or_false] at hp
      rcases hp with rfl | rfl
      · exact hb
      · exact k) w O cl hf hc
  · have es : s = true := by
      cases s with
      | true => rfl
      | false => exact absurd (show valD d < 9223372036854775808 from z1) k
    subst es
    have e0 : bzv true d = -(valD d) := rfl
    have e1 : valD d = 9223372036854775808 := by omega
    rw [e0, e1]
    obtain ⟨hl, hr⟩ := hc
    match cl, hl with
    | [c], _ =>
      have h0 := hr 0 _ _ rfl rfl
      cases h0 with
      | agg _ vs hl2 h2 =>
        match vs, hl2 with
        | [v0, v1], _ =>
          have r0 := h2 0 _ _ rfl rfl
          cases r0
          refine (small_least w v1 fun w1 hb1 => ?_).mono fun en w' ⟨he, hb2⟩ => ?_
          · have hf1 : FBd O w1 := ⟨fun b h => Nat.lt_of_lt_of_le (hf.1 b h) hb1.size, hf.2.ext (ext_below hb1) fun _ k => k.elim⟩
            refine (unsigned_s.2 [.agg [.bool true, .roi .i64 d]] _ _ rfl (fun p hp => by
              simp only [List.mem_cons, List.not_mem_nil, or_false] at hp
              rcases hp with rfl | rfl
              · exact hb
              · omega) w1 O [.agg #[.bool true, v1]] hf1 (crel_cons ((hr 0 _ _ rfl rfl).mono (fun _ _ k => k) ((ext_below hb1).weaken fun _ _ k => k.elim) fun _ _ k => k) crel_nil)).mono fun e w2 ⟨cv, he, hx, hrr⟩ => ?_
            cases hrr
            rw [e1] at he
            exact ⟨he, hx.below⟩
          · exact ⟨_, he, ext_below hb2, .int _ _⟩
end Go.Proofs.YtblloaajiaoblaaDoor
namespace Go.Proofs.YtblloaajiaoblaaDoor
open Go Go.RowKit
theorem dv_n0 (l : List UInt8) : dv (l.take 0) = 0 := rfl
theorem dv_take {l : List UInt8} {n : Nat} (h : n < l.length) : dv (l.take (n + 1)) = dv (l.take n) * 10 + ((l.getD n 0).toNat - 48) := by
  rw [List.take_add_one, List.getElem?_eq_getElem h, List.getD_eq_getElem?_getD, List.getElem?_eq_getElem h]
  exact dv_app _ _
theorem dv_lt {l : List UInt8} (hd : ∀ j, j < l.length → isd (l.getD j 0)) : ∀ n, n ≤ l.length → dv (l.take n) < 10 ^ n
  | 0, _ => by rw [List.take_zero]; exact Nat.one_pos
  | n + 1, h => by
    have ih := dv_lt hd n (by omega)
    have h1 := hd n (by omega)
    rw [dv_take (by omega), Nat.pow_succ]
    unfold isd at h1
    omega
structure Dgn (l : List UInt8) (n : Nat) : Prop where
  le : n ≤ l.length
  dig : ∀ j, j < n → isd (l.getD j 0)
theorem Dgn.lt {l : List UInt8} {n : Nat} (h : Dgn l n) : dv (l.take n) < 10 ^ n := by
  have := dv_lt (l := l.take n) (fun j hj => by
    rw [List.length_take] at hj
    have := h.dig j (by omega)
    rw [List.getD_eq_getElem?_getD, List.getElem?_take_of_lt (by omega), ← List.getD_eq_getElem?_getD]
    exact this) n (by rw [List.length_take]; have := h.le; omega)
  rw [List.take_take, Nat.min_self] at this
  exact this
noncomputable abbrev numDS : PSpec := fun l => match l with | [.str s] => some ([s.length ≤ 100000], .tup [.int .i64 (nuX s), .bool (nuB s)]) | _ => none
structure TnI (s T : List UInt8) : Prop where
  eq : T = tnT s
  lt : T.length < s.length ↔ ngT s
theorem nuc_pos {s T : List UInt8} (h : TnI s T) (k : T.length = 0) : nuX s = 0 ∧ nuB s = false := nu_no fun c => by
  have := c.pos; rw [← h.eq] at this; omega
theorem nuc_le {s T : List UInt8} (h : TnI s T) (k : 25 < T.length) : nuX s = 0 ∧ nuB s = false := nu_no fun c => by
  have := c.le; rw [← h.eq] at this; omega
theorem nuc_dig {s T : List UInt8} (h : TnI s T) {j : Nat} (hj : j < T.length) (k : ¬ isd (T.getD j 0)) : nuX s = 0 ∧ nuB s = false := nu_no fun c => by
  have := c.dig (T.getD j 0) (by rw [← h.eq, List.getD_eq_getElem?_getD, List.getElem?_eq_getElem hj]; exact List.getElem_mem hj)
  exact k this
theorem nuc_val {s T : List UInt8} (h : TnI s T) : dxT s = if T.length < s.length then -(dv T : Int) else (dv T : Int) := by
  unfold dxT
  rw [← h.eq]
  by_cases k : ngT s
  · rw [if_pos k, if_pos (h.lt.2 k)]
  · rw [if_neg k, if_neg (fun q => k (h.lt.1 q))]
theorem nuc_fit {s T : List UInt8} {z : Int} (hz : dxT s = z) (k : ¬ (-9223372036854775808 ≤ z ∧ z < 9223372036854775808)) : nuX s = 0 ∧ nuB s = false := nu_no fun c => by
  have h1 := c.lo; have h2 := c.hi; rw [hz] at h1 h2; omega
theorem nuc_txt {s T : List UInt8} {z : Int} (hz : dxT s = z) (k : ¬ Lib.itoa z = s) : nuX s = 0 ∧ nuB s = false := nu_no fun c => by
  have := c.eq; rw [hz] at this; exact k this
theorem nuc_yes {s T : List UInt8} (h : TnI s T) (h0 : 0 < T.length) (h1 : T.length ≤ 25) (hd : Dgn T T.length) {z : Int} (hz : dxT s = z) (h2 : -9223372036854775808 ≤ z ∧ z < 9223372036854775808) (k : Lib.itoa z = s) : nuX s = z ∧ nuB s = true := by
  have e : tnT s = T := h.eq.symm
  obtain ⟨k1, k2⟩ := nu_yes (s := s) ⟨by rw [e]; exact h0, by rw [e]; exact h1, by
    rw [e]
    intro c hc
    obtain ⟨j, hj, rfl⟩ := List.getElem_of_mem hc
    have := hd.dig j hj
    rw [List.getD_eq_getElem?_getD, List.getElem?_eq_getElem hj] at this
    exact this, by rw [hz]; exact h2.1, by rw [hz]; omega, by rw [hz]; exact k⟩
  exact ⟨k1.trans hz, k2⟩
theorem tn_yes {s : List UInt8} (h0 : 0 < (s.length : Int)) (h1 : ((s.getD (Int.toNat 0) 0).toNat : Int) = 45) : TnI s (List.drop (Int.toNat 1) (List.take s.length s)) := by
  have ng : ngT s := ⟨by omega, by have : (s.getD 0 0).toNat = (s.getD (Int.toNat 0) 0).toNat := rfl
                                   omega⟩
  rw [List.take_length]
  refine ⟨(if_pos ng).symm, ?_⟩
  rw [List.length_drop]
  exact ⟨fun _ => ng, fun _ => by have : Int.toNat 1 = 1 := rfl
                                  omega⟩
theorem tn_no {s : List UInt8} (h1 : ¬ (0 < (s.length : Int)) ∨ ¬ ((s.getD (Int.toNat 0) 0).toNat : Int) = 45) : TnI s s := by
  have ng : ¬ ngT s := fun k => by
    have k1 := k.1
    have k2 : ((s.getD (Int.toNat 0) 0).toNat : Int) = 45 := by have := k.2; have e : (s.getD (Int.toNat 0) 0).toNat = (s.getD 0 0).toNat := rfl; omega
    rcases h1 with h | h
    · omega
    · exact h k2
  exact ⟨(if_neg ng).symm, ⟨fun k => absurd k (Nat.lt_irrefl _), fun k => absurd k ng⟩⟩
theorem isd_iff {c : UInt8} : isd c ↔ ¬ ((c.toNat : Int) < 48) ∧ ¬ (57 < (c.toNat : Int)) := by
  unfold isd; omega
structure Sm (z : Int) : Prop where
  lo : -10000000000000000000000000 < z
  hi : z < 10000000000000000000000000
theorem Sm.bg {z : Int} (h : Sm z) : Bg (decide (z < 0)) (dgs z.natAbs) :=
  Bg_big (Nat.le_trans (dgs_len (k := 6) (by
    have h1 := h.lo; have h2 := h.hi
    rw [show (32768 : Nat) ^ 6 = 1237940039285380274899124224 from by decide]; omega)) (by decide))
theorem Sm.neg {z : Int} (h : Sm z) : Sm (-z) := ⟨by have := h.hi; omega, by have := h.lo; omega⟩
theorem Dgn.sm {l : List UInt8} {n : Nat} (h : Dgn l n) (h25 : n ≤ 25) : Sm (dv (l.take n) : Int) := by
  have h1 := h.lt
  have h2 : (10 : Nat) ^ n ≤ 10 ^ 25 := Nat.pow_le_pow_right (by decide) h25
  have h3 : (10 : Nat) ^ 25 = 10000000000000000000000000 := by decide
  exact ⟨by omega, by omega⟩
theorem Dgn.next {l : List UInt8} {n : Nat} (h : Dgn l n) (hn : n < l.length) (hd : isd (l.getD n 0)) : Dgn l (n + 1) :=
  ⟨hn, fun j hj => by
    by_cases k : j = n
    · subst k; exact hd
    · exact h.dig j (by omega)⟩
attribute [local irreducible] nuX nuB dv dxT tnT ngT isd
theorem rnum49_s : SOK Tryd.prog 21 numDS := by
  refine sok_of (C := mkK 0 [(34, ofS), (36, mulS), (35, addS), (37, negS), (38, fitS), (39, textS), (40, small2S)] noG [4]) (mkK_ok (pok_cons of_s (pok_cons mul_s (pok_cons add_s (pok_cons neg_s (pok_cons fits_s (pok_cons text_s (pok_cons small2_s pok_nil))))))) noG_ok) rfl mixed ⟨Tryd.func21, by kernel_rfl, by kernel_rfl, by kernel_rfl⟩ fun l obs v h ho => ?_
  (unfold numDS at h; split at h; rotate_left; (focus (cases h)); rename_i s; simp only [Option.some.injEq, Prod.mk.injEq] at h; obtain ⟨rfl, rfl⟩ := h; simp only [List.mem_cons, List.not_mem_nil, or_false, forall_eq_or_imp, forall_eq, false_implies, implies_true] at ho)
  refine ⟨Nat.le_of_ble_eq_true rfl, ?_⟩
  (repeat' (first | (refine xI (fun hfk => ?_) (fun hfk => ?_) <;> ((try (first | replace hfk := oT hfk | replace hfk := oF hfk | simp only [oD, ne_eq, reduceCtorEq] at hfk)); (try exact oX))) | (refine And.intro ?ob ?_; (case ob => (exact oZ))) | exact True.intro | (show _ = _; first | exact oY | exact rfl) | exact oW | (apply And.intro)))
  all_goals (first
    | (have hT := tn_yes (s := s) (by assumption) (by assumption); obtain ⟨T, eT⟩ : ∃ T, List.drop (Int.toNat 1) (List.take s.length s) = T := ⟨_, rfl⟩; rw [eT] at hT)
    | (have hT : TnI s s := tn_no (.inl (by assumption)); obtain ⟨T, eT⟩ : ∃ T, s = T := ⟨_, rfl⟩; replace hT : TnI s T := eT ▸ hT)
    | (have hT : TnI s s := tn_no (.inr (by assumption)); obtain ⟨T, eT⟩ : ∃ T, s = T := ⟨_, rfl⟩; replace hT : TnI s T := eT ▸ hT))
  all_goals (refine ⟨[(0, .str s), (2, .int .i64 0), (3, .fls), (4, .str T), (5, .ptr 0 0)], ⟨1, [(0, some (.cells 69 [.bool (decide (((0 : Nat) : Int) < 0)), .roi .i64 (dgs (Int.natAbs ((0 : Nat) : Int)))]))]⟩, [some 0], ?_, ?_⟩; (focus ((repeat' (first | (refine And.intro ?_ ?_) | exact True.intro | (show _ = _; with_reducible rfl) | exact Chk.mk (by kernel_rfl))); all_goals first | exact eT | rfl)); clear eT)
  all_goals (
    by_cases t0 : T.length = 0
    · obtain ⟨v1, v2⟩ := nuc_pos hT t0
      rw [v1, v2]
      (repeat' (first | (refine xI (fun hfk => ?_) (fun hfk => ?_) <;> ((try (first | replace hfk := oT hfk | replace hfk := oF hfk | simp only [oD, ne_eq, reduceCtorEq] at hfk)); (try exact oX))) | (refine And.intro ?ob ?_; (case ob => (exact oZ))) | exact True.intro | (show _ = _; first | exact oY | exact rfl) | exact oW | (apply And.intro)))
    by_cases t25 : 25 < T.length
    · obtain ⟨v1, v2⟩ := nuc_le hT t25
      rw [v1, v2]
      (repeat' (first | (refine xI (fun hfk => ?_) (fun hfk => ?_) <;> ((try (first | replace hfk := oT hfk | replace hfk := oF hfk | simp only [oD, ne_eq, reduceCtorEq] at hfk)); (try exact oX))) | (refine And.intro ?ob ?_; (case ob => (exact oZ))) | exact True.intro | (show _ = _; first | exact oY | exact rfl) | exact oW | (apply And.intro)))
    (repeat' (first | (refine xI (fun hfk => ?_) (fun hfk => ?_) <;> ((try (first | replace hfk := oT hfk | replace hfk := oF hfk | simp only [oD, ne_eq, reduceCtorEq] at hfk)); (try exact oX))) | (refine And.intro ?ob ?_; (case ob => (exact oZ))) | exact True.intro | (show _ = _; first | exact oY | exact rfl) | exact oW | (apply And.intro)))
    refine ⟨Nat, fun n => [(0, .str s), (4, .str T), (5, .ptr 0 0), (6, .int .i64 (n : Int))],
      fun n => ⟨1, [(0, some (.cells 69 [.bool (decide (((dv (T.take n) : Nat) : Int) < 0)), .roi .i64 (dgs (Int.natAbs ((dv (T.take n) : Nat) : Int)))]))]⟩,
      fun n => Dgn T n, fun n => T.length - n, ⟨0, [some 0], ⟨Nat.zero_le _, fun j h => absurd h (Nat.not_lt_zero _)⟩, ?_⟩, fun n hn => ?_⟩
    · have e0 := dv_n0 T
      have q1 : decide (((0 : Nat) : Int) < 0) = decide (((dv (T.take 0) : Nat) : Int) < 0) := by rw [e0]
      have q2 : dgs (Int.natAbs ((0 : Nat) : Int)) = dgs (Int.natAbs ((dv (T.take 0) : Nat) : Int)) := by rw [e0]
      (repeat' (first | (refine And.intro ?_ ?_) | exact True.intro | (show _ = _; with_reducible rfl) | exact Chk.mk (by kernel_rfl)))
      all_goals first | exact q1 | exact q2 | rfl
    have hn : Dgn T n := hn
    have hle := hn.le
    have sm1 := hn.sm (by omega)
    have B1 := sm1.bg
    have B2 : Bg (decide ((10 : Int) < 0)) (dgs (Int.natAbs 10)) := Bg_i64 (by decide) (by decide)
    by_cases hlt : n < T.length
    · by_cases hd : isd (T.getD n 0)
      · have hnx := hn.next hlt hd
        have sm2 := hnx.sm (by omega)
        have st := dv_take hlt
        obtain ⟨d0, d1⟩ := isd_iff.1 hd
        have d0' : ¬ ((T.getD (n : Int).toNat 0).toNat : Int) < 48 := d0
        have d1' : ¬ 57 < ((T.getD (n : Int).toNat 0).toNat : Int) := d1
        have hi : (n : Int) < (T.length : Int) := by omega
        have e8 : IntKind.u8.wrap (((T.getD (n : Int).toNat 0).toNat : Int) - 48) = ((T.getD n 0).toNat : Int) - 48 := wrap_rng ⟨by show (0 : Int) ≤ _; omega, by show _ ≤ (255 : Int); omega⟩
        have r8 : rngI .i64 (IntKind.u8.wrap (((T.getD (n : Int).toNat 0).toNat : Int) - 48)) := by rw [e8]; exact rng64 (by omega) (by omega)
        have B3 : Bg (decide (IntKind.u8.wrap (((T.getD (n : Int).toNat 0).toNat : Int) - 48) < 0)) (dgs (IntKind.u8.wrap (((T.getD (n : Int).toNat 0).toNat : Int) - 48)).natAbs) := by rw [e8]; exact Bg_i64 (by omega) (by omega)
        have st' : ((dv (T.take (n + 1)) : Nat) : Int) = (dv (T.take n) : Nat) * 10 + (((T.getD n 0).toNat : Int) - 48) := by omega
        have B4 : Bg (decide (bzv (decide (((dv (T.take n) : Nat) : Int) < 0)) (dgs (Int.natAbs ((dv (T.take n) : Nat) : Int))) * bzv (decide ((10 : Int) < 0)) (dgs (Int.natAbs 10)) < 0)) (dgs (bzv (decide (((dv (T.take n) : Nat) : Int) < 0)) (dgs (Int.natAbs ((dv (T.take n) : Nat) : Int))) * bzv (decide ((10 : Int) < 0)) (dgs (Int.natAbs 10))).natAbs) := by
          rw [bzv_big, bzv_big]
          exact Sm.bg ⟨by omega, by have := sm2.hi; omega⟩
        have o1 : -9223372036854775808 ≤ IntKind.u8.wrap (((T.getD (n : Int).toNat 0).toNat : Int) - 48) := by rw [e8]; omega
        have o2 : IntKind.u8.wrap (((T.getD (n : Int).toNat 0).toNat : Int) - 48) < 9223372036854775808 := by rw [e8]; omega
        (repeat' (first | (refine xI (fun hfk => ?_) (fun hfk => ?_) <;> ((try (first | replace hfk := oT hfk | replace hfk := oF hfk | simp only [oD, ne_eq, reduceCtorEq] at hfk)); (try exact oX))) | (refine And.intro ?ob ?_; (case ob => (exact oZ))) | exact True.intro | (show _ = _; first | exact oY | (first | exact B1 | exact B2 | exact B3 | exact B4; done) | exact rfl) | exact oW | (apply And.intro)))
        refine ⟨n + 1, [some 0], hnx, ?mu, ?_⟩
        case mu => (show T.length - (n + 1) < T.length - n; omega)
        have eN : bzv (decide (bzv (decide (((dv (T.take n) : Nat) : Int) < 0)) (dgs (Int.natAbs ((dv (T.take n) : Nat) : Int))) * bzv (decide ((10 : Int) < 0)) (dgs (Int.natAbs 10)) < 0)) (dgs (bzv (decide (((dv (T.take n) : Nat) : Int) < 0)) (dgs (Int.natAbs ((dv (T.take n) : Nat) : Int))) * bzv (decide ((10 : Int) < 0)) (dgs (Int.natAbs 10))).natAbs) + bzv (decide (IntKind.u8.wrap (((T.getD (n : Int).toNat 0).toNat : Int) - 48) < 0)) (dgs (IntKind.u8.wrap (((T.getD (n : Int).toNat 0).toNat : Int) - 48)).natAbs) = ((dv (T.take (n + 1)) : Nat) : Int) := by
          rw [bzv_big, bzv_big, bzv_big, bzv_big, e8, st']
        have q1 := congrArg (fun w : Int => decide (w < 0)) eN
        have q2 := congrArg (fun w : Int => dgs w.natAbs) eN
        (repeat' (first | (refine And.intro ?_ ?_) | exact True.intro | (show _ = _; with_reducible rfl) | exact Chk.mk (by kernel_rfl)))
        all_goals first | rfl | exact q1 | exact q2 | (show (_ : Int) = _; omega)
      · obtain ⟨v1, v2⟩ := nuc_dig hT hlt hd
        rw [v1, v2]
        have dd : ((T.getD (n : Int).toNat 0).toNat : Int) < 48 ∨ ¬ ((T.getD (n : Int).toNat 0).toNat : Int) < 48 ∧ 57 < ((T.getD (n : Int).toNat 0).toNat : Int) := by
          by_cases k : ((T.getD (n : Int).toNat 0).toNat : Int) < 48
          · exact .inl k
          · refine .inr ⟨k, ?_⟩
            by_cases k2 : 57 < ((T.getD (n : Int).toNat 0).toNat : Int)
            · exact k2
            · exact absurd (isd_iff.2 ⟨k, k2⟩) hd
        have hi : (n : Int) < (T.length : Int) := by omega
        rcases dd with k | ⟨k, k2⟩
        · (repeat' (first | (refine xI (fun hfk => ?_) (fun hfk => ?_) <;> ((try (first | replace hfk := oT hfk | replace hfk := oF hfk | simp only [oD, ne_eq, reduceCtorEq] at hfk)); (try exact oX))) | (refine And.intro ?ob ?_; (case ob => (exact oZ))) | exact True.intro | (show _ = _; first | exact oY | exact rfl) | exact oW | (apply And.intro)))
        · (repeat' (first | (refine xI (fun hfk => ?_) (fun hfk => ?_) <;> ((try (first | replace hfk := oT hfk | replace hfk := oF hfk | simp only [oD, ne_eq, reduceCtorEq] at hfk)); (try exact oX))) | (refine And.intro ?ob ?_; (case ob => (exact oZ))) | exact True.intro | (show _ = _; first | exact oY | exact rfl) | exact oW | (apply And.intro)))
    · have hnl : n = T.length := by omega
      have hD : Dgn T T.length := hnl ▸ hn
      have eTn : T.take n = T := by rw [hnl]; exact List.take_length
      have z0 := nuc_val hT
      by_cases ng : (T.length : Int) < (s.length : Int)
      · rw [if_pos (by omega)] at z0
        obtain ⟨z, hz⟩ : ∃ z, -((dv T : Nat) : Int) = z := ⟨_, rfl⟩
        rw [hz] at z0
        have B5 : Bg (decide (-bzv (decide (((dv (T.take n) : Nat) : Int) < 0)) (dgs (Int.natAbs ((dv (T.take n) : Nat) : Int))) < 0)) (dgs (-bzv (decide (((dv (T.take n) : Nat) : Int) < 0)) (dgs (Int.natAbs ((dv (T.take n) : Nat) : Int)))).natAbs) := by rw [bzv_big]; exact sm1.neg.bg
        have hE : bzv (decide (-bzv (decide (((dv (T.take n) : Nat) : Int) < 0)) (dgs (Int.natAbs ((dv (T.take n) : Nat) : Int))) < 0)) (dgs (-bzv (decide (((dv (T.take n) : Nat) : Int) < 0)) (dgs (Int.natAbs ((dv (T.take n) : Nat) : Int)))).natAbs) = z := by rw [bzv_big, bzv_big, eTn, hz]
        by_cases f : -9223372036854775808 ≤ z ∧ z < 9223372036854775808
        · have f' : -9223372036854775808 ≤ bzv (decide (-bzv (decide (((dv (T.take n) : Nat) : Int) < 0)) (dgs (Int.natAbs ((dv (T.take n) : Nat) : Int))) < 0)) (dgs (-bzv (decide (((dv (T.take n) : Nat) : Int) < 0)) (dgs (Int.natAbs ((dv (T.take n) : Nat) : Int)))).natAbs) ∧ bzv (decide (-bzv (decide (((dv (T.take n) : Nat) : Int) < 0)) (dgs (Int.natAbs ((dv (T.take n) : Nat) : Int))) < 0)) (dgs (-bzv (decide (((dv (T.take n) : Nat) : Int) < 0)) (dgs (Int.natAbs ((dv (T.take n) : Nat) : Int)))).natAbs) < 9223372036854775808 := by rw [hE]; exact f
          have ok : TxOK (dgs (-bzv (decide (((dv (T.take n) : Nat) : Int) < 0)) (dgs (Int.natAbs ((dv (T.take n) : Nat) : Int)))).natAbs) := ⟨by
            rw [valD_dgs, bzv_big, eTn]; omega⟩
          obtain ⟨f0, f1⟩ := f'
          by_cases k : Lib.itoa z = s
          · have k' : txV (decide (-bzv (decide (((dv (T.take n) : Nat) : Int) < 0)) (dgs (Int.natAbs ((dv (T.take n) : Nat) : Int))) < 0)) (dgs (-bzv (decide (((dv (T.take n) : Nat) : Int) < 0)) (dgs (Int.natAbs ((dv (T.take n) : Nat) : Int)))).natAbs) = s := by unfold txV; rw [hE]; exact k
            obtain ⟨v1, v2⟩ := nuc_yes hT (by omega) (by omega) hD z0 f k
            rw [v1, v2]
            (repeat' (first | (refine xI (fun hfk => ?_) (fun hfk => ?_) <;> ((try (first | replace hfk := oT hfk | replace hfk := oF hfk | simp only [oD, ne_eq, reduceCtorEq] at hfk)); (try exact oX))) | (refine And.intro ?ob ?_; (case ob => (exact oZ))) | exact True.intro | (show _ = _; first | exact oY | (first | exact B1 | exact B5 | exact ok | exact hE; done) | exact rfl) | exact oW | (apply And.intro)))
          · have k' : ¬ txV (decide (-bzv (decide (((dv (T.take n) : Nat) : Int) < 0)) (dgs (Int.natAbs ((dv (T.take n) : Nat) : Int))) < 0)) (dgs (-bzv (decide (((dv (T.take n) : Nat) : Int) < 0)) (dgs (Int.natAbs ((dv (T.take n) : Nat) : Int)))).natAbs) = s := by unfold txV; rw [hE]; exact k
            obtain ⟨v1, v2⟩ := nuc_txt (T := T) z0 k
            rw [v1, v2]
            (repeat' (first | (refine xI (fun hfk => ?_) (fun hfk => ?_) <;> ((try (first | replace hfk := oT hfk | replace hfk := oF hfk | simp only [oD, ne_eq, reduceCtorEq] at hfk)); (try exact oX))) | (refine And.intro ?ob ?_; (case ob => (exact oZ))) | exact True.intro | (show _ = _; first | exact oY | (first | exact B1 | exact B5 | exact ok; done) | exact rfl) | exact oW | (apply And.intro)))
        · have f' : ¬ (-9223372036854775808 ≤ bzv (decide (-bzv (decide (((dv (T.take n) : Nat) : Int) < 0)) (dgs (Int.natAbs ((dv (T.take n) : Nat) : Int))) < 0)) (dgs (-bzv (decide (((dv (T.take n) : Nat) : Int) < 0)) (dgs (Int.natAbs ((dv (T.take n) : Nat) : Int)))).natAbs) ∧ bzv (decide (-bzv (decide (((dv (T.take n) : Nat) : Int) < 0)) (dgs (Int.natAbs ((dv (T.take n) : Nat) : Int))) < 0)) (dgs (-bzv (decide (((dv (T.take n) : Nat) : Int) < 0)) (dgs (Int.natAbs ((dv (T.take n) : Nat) : Int)))).natAbs) < 9223372036854775808) := by rw [hE]; exact f
          obtain ⟨v1, v2⟩ := nuc_fit (T := T) z0 f
          rw [v1, v2]
          (repeat' (first | (refine xI (fun hfk => ?_) (fun hfk => ?_) <;> ((try (first | replace hfk := oT hfk | replace hfk := oF hfk | simp only [oD, ne_eq, reduceCtorEq] at hfk)); (try exact oX))) | (refine And.intro ?ob ?_; (case ob => (exact oZ))) | exact True.intro | (show _ = _; first | exact oY | (first | exact B1 | exact B5; done) | exact rfl) | exact oW | (apply And.intro)))
      · rw [if_neg (by omega)] at z0
        obtain ⟨z, hz⟩ : ∃ z, ((dv T : Nat) : Int) = z := ⟨_, rfl⟩
        rw [hz] at z0
        have hE : bzv (decide (((dv (T.take n) : Nat) : Int) < 0)) (dgs (Int.natAbs ((dv (T.take n) : Nat) : Int))) = z := by rw [bzv_big, eTn, hz]
        by_cases f : -9223372036854775808 ≤ z ∧ z < 9223372036854775808
        · have f' : -9223372036854775808 ≤ bzv (decide (((dv (T.take n) : Nat) : Int) < 0)) (dgs (Int.natAbs ((dv (T.take n) : Nat) : Int))) ∧ bzv (decide (((dv (T.take n) : Nat) : Int) < 0)) (dgs (Int.natAbs ((dv (T.take n) : Nat) : Int))) < 9223372036854775808 := by rw [hE]; exact f
          have ok : TxOK (dgs (Int.natAbs ((dv (T.take n) : Nat) : Int))) := ⟨by
            rw [valD_dgs, eTn]; omega⟩
          obtain ⟨f0, f1⟩ := f'
          by_cases k : Lib.itoa z = s
          · have k' : txV (decide (((dv (T.take n) : Nat) : Int) < 0)) (dgs (Int.natAbs ((dv (T.take n) : Nat) : Int))) = s := by unfold txV; rw [hE]; exact k
            obtain ⟨v1, v2⟩ := nuc_yes hT (by omega) (by omega) hD z0 f k
            rw [v1, v2]
            (repeat' (first | (refine xI (fun hfk => ?_) (fun hfk => ?_) <;> ((try (first | replace hfk := oT hfk | replace hfk := oF hfk | simp only [oD, ne_eq, reduceCtorEq] at hfk)); (try exact oX))) | (refine And.intro ?ob ?_; (case ob => (exact oZ))) | exact True.intro | (show _ = _; first | exact oY | (first | exact B1 | exact ok | exact hE; done) | exact rfl) | exact oW | (apply And.intro)))
          · have k' : ¬ txV (decide (((dv (T.take n) : Nat) : Int) < 0)) (dgs (Int.natAbs ((dv (T.take n) : Nat) : Int))) = s := by unfold txV; rw [hE]; exact k
            obtain ⟨v1, v2⟩ := nuc_txt (T := T) z0 k
            rw [v1, v2]
            (repeat' (first | (refine xI (fun hfk => ?_) (fun hfk => ?_) <;> ((try (first | replace hfk := oT hfk | replace hfk := oF hfk | simp only [oD, ne_eq, reduceCtorEq] at hfk)); (try exact oX))) | (refine And.intro ?ob ?_; (case ob => (exact oZ))) | exact True.intro | (show _ = _; first | exact oY | (first | exact B1 | exact ok; done) | exact rfl) | exact oW | (apply And.intro)))
        · have f' : ¬ (-9223372036854775808 ≤ bzv (decide (((dv (T.take n) : Nat) : Int) < 0)) (dgs (Int.natAbs ((dv (T.take n) : Nat) : Int))) ∧ bzv (decide (((dv (T.take n) : Nat) : Int) < 0)) (dgs (Int.natAbs ((dv (T.take n) : Nat) : Int))) < 9223372036854775808) := by rw [hE]; exact f
          obtain ⟨v1, v2⟩ := nuc_fit (T := T) z0 f
          rw [v1, v2]
          (repeat' (first | (refine xI (fun hfk => ?_) (fun hfk => ?_) <;> ((try (first | replace hfk := oT hfk | replace hfk := oF hfk | simp only [oD, ne_eq, reduceCtorEq] at hfk)); (try exact oX))) | (refine And.intro ?ob ?_; (case ob => (exact oZ))) | exact True.intro | (show _ = _; first | exact oY | (first | exact B1; done) | exact rfl) | exact oW | (apply And.intro)))
  )
end Go.Proofs.YtblloaajiaoblaaDoor
namespace Go.Proofs.YtblloaajiaoblaaDoor
open Go Go.RowKit
abbrev fiS : PSpec := fun l => match l with | [.int .i64 x, .int .i64 b] => some ([b = 10, -9223372036854775808 ≤ x, x ≤ 9223372036854775807], .str (Lib.itoa x)) | _ => none
theorem fi_s : SOK Tryd.prog 33 fiS := by
  refine ⟨⟨_, Tryd.func33, by kernel_rfl, by kernel_rfl⟩, fun l obs v h ho w O cl hf hc => ?_⟩
  (unfold fiS at h; split at h; rotate_left; (focus (cases h)); rename_i x b; simp only [Option.some.injEq, Prod.mk.injEq] at h; obtain ⟨rfl, rfl⟩ := h; simp only [List.mem_cons, List.not_mem_nil, or_false, forall_eq_or_imp, forall_eq, false_implies, implies_true] at ho)
  obtain ⟨rfl, h0, h1⟩ := ho
  obtain ⟨hl, hr⟩ := hc
  match cl, hl with
  | [c, d], _ =>
    have hc := hr 0 _ _ rfl rfl
    have hd := hr 1 _ _ rfl rfl
    cases hc
    cases hd
    refine (sh_strconv_FormatInt_10 x h0 h1 w (tab_pow10 hf.2)).mono fun en w' ⟨he, k, os, hw⟩ => ?_
    subst hw
    exact ⟨_, he, ext_below (below_grown w k os), .str _⟩
end Go.Proofs.YtblloaajiaoblaaDoor
namespace Go.Proofs.YtblloaajiaoblaaDoor
open Go Go.RowKit
theorem gvcell {w : World} {O : Nat → Prop} (h : GL w O) {g : Nat} (hm : g ∈ GVtab) : ∃ te pe, w.cell? ⟨g, 0, none⟩ = some (.iface te pe) := by
  obtain ⟨_, _, te, pe, ty, fr, e⟩ := h.vr _ hm
  refine ⟨te, pe, ?_⟩
  unfold World.cell?
  simp only [e]
  rfl
theorem belT {a b c : World} (h : Below a.heap.size a b) (k : Below b.heap.size b c) : Below a.heap.size a c := ((ext_below h).trans (ext_below k) fun _ _ h => h).below
theorem fbdB {O : Nat → Prop} {w w' : World} (hf : FBd O w) (hb : Below w.heap.size w w') : FBd O w' := ⟨fun b h => Nat.lt_of_lt_of_le (hf.1 b h) hb.size, hf.2.ext (ext_below hb) fun _ k => k.elim⟩
theorem pint_walk (t : ByteArray) (hmax : t.size ≤ 1000000) (w : World) {O : Nat → Prop} (hg : GL w O) :
    Calls Tryd.prog 32 #[.string t, .int .i64 10, .int .i64 64] w fun e w' => ∃ (x : Int) (err : Value), e = .returned (.tuple #[.int .i64 x, err]) ∧ Below w.heap.size w w' ∧
      ((Lib.parseIntB 64 t.data.toList = .ok x ∧ err = .nilIface) ∨ ((∀ v, Lib.parseIntB 64 t.data.toList ≠ .ok v) ∧ ∃ tp p, err = .iface tp p)) := by
  obtain ⟨te0, pe0, c0⟩ := gvcell hg (g := 0) (by decide)
  obtain ⟨te1, pe1, c1⟩ := gvcell hg (g := 1) (by decide)
  rcases hp : Lib.parseIntB 64 t.data.toList with v | _ | _
  · refine (sh_strconv_ParseInt_10_at64_ok t (by omega) v hp w).mono fun e w' ⟨he, hw⟩ => ?_
    refine ⟨v, .nilIface, he, ?_, .inl ⟨rfl, rfl⟩⟩
    rcases hw with rfl | ⟨u, rfl⟩
    · exact Below.refl _ _
    · exact Lib.bytesWorld_below w _ u
  · refine (Go.Proofs.Any.strconv_ParseInt_10_at64_syntax sh_laysC174 t (by omega) hp (.iface te0 pe0) w c0 (.inr ⟨_, _, rfl⟩)).mono fun e w' ⟨N, he, h1, h2, h3⟩ => ?_
    exact ⟨_, _, he, h3, .inr ⟨fun v k => (by cases k), _, _, rfl⟩⟩
  · refine (Go.Proofs.Any.strconv_ParseInt_10_at64_range sh_laysC174 t (by omega) hp (.iface te1 pe1) w c1 (.inr ⟨_, _, rfl⟩)).mono fun e w' ⟨N, he, h1, h2, h3⟩ => ?_
    exact ⟨_, _, he, h3, .inr ⟨fun v k => (by cases k), _, _, rfl⟩⟩
theorem fi_walk {w : World} {O : Nat → Prop} (hf : FBd O w) {x : Int} (h0 : -9223372036854775808 ≤ x) (h1 : x ≤ 9223372036854775807) :
    Calls Tryd.prog 33 #[.int .i64 x, .int .i64 10] w fun e w' => e = .returned (.string ⟨(Lib.itoa x).toArray⟩) ∧ Below w.heap.size w w' := by
  refine (fi_s.2 [.int .i64 x, .int .i64 10] _ _ rfl (by
    intro p hp
    simp only [List.mem_cons, List.not_mem_nil, or_false] at hp
    rcases hp with rfl | rfl | rfl
    · first | rfl | trivial
    · exact h0
    · exact h1) w O [.int .i64 x, .int .i64 10] hf (crel_cons (.int _ _) (crel_cons (.int _ _) crel_nil))).mono fun e w' ⟨cv, he, hx, hr⟩ => ?_
  cases hr
  exact ⟨he, hx.below⟩
attribute [local irreducible] nuX nuB
theorem wnum_walk (t : ByteArray) (hmax : t.size ≤ 1000000) (w : World) {O : Nat → Prop} (hf : FBd O w) :
    Calls Tryd.prog 20 #[.string t] w fun e w' => e = .returned (.tuple #[.int .i64 (nuX t.data.toList), .bool (nuB t.data.toList)]) ∧ Below w.heap.size w w' := by
  have HP : Hid (∀ w : World, FBd O w → _) := fun w hf => pint_walk t hmax w hf.2
  go_enter Tryd.func20, Tryd.ntmps20
  go_wp2_with (go_at_call 32; refine (HP.out _ hf).mono ?_; rintro e w1 ⟨x, err, rfl, hb, hp⟩; rcases hp with ⟨h1, rfl⟩ | ⟨h1, tp, p, rfl⟩)
  · have hf1 := fbdB hf hb
    obtain ⟨b0, b1⟩ := Lib.parseIntB_bounds h1
    have e63 : ((2 ^ (64 - 1) : Nat) : Int) = 9223372036854775808 := by decide
    have HX : Hid (Calls Tryd.prog 33 #[.int .i64 x, .int .i64 10] w1 fun e w' => e = .returned (.string ⟨(Lib.itoa x).toArray⟩) ∧ Below w1.heap.size w1 w') := fi_walk hf1 (by omega) (by omega)
    refine HX.out.mono ?_
    rintro e w2 ⟨rfl, hb2⟩
    have hbb := belT hb hb2
    by_cases e : Lib.itoa x = t.data.toList
    · obtain ⟨q1, q2⟩ := nu_ok h1 e
      have et : (⟨(Lib.itoa x).toArray⟩ : ByteArray) = t := by rw [e]
      clear h1 HP HX
      rw [et]
      go_wp2
      go_ret2
      exact ⟨by rw [q1, q2]; rfl, hbb⟩
    · have et : (⟨(Lib.itoa x).toArray⟩ : ByteArray) ≠ t := fun h => e (by rw [← h])
      obtain ⟨q1, q2⟩ := nu_bad (s := t.data.toList) fun v hv => by rw [h1] at hv; cases hv; exact e
      clear h1 HP HX e
      generalize (⟨(Lib.itoa x).toArray⟩ : ByteArray) = b at et ⊢
      have et2 : (b.toList == t.toList) = false := by
        rw [ByteArray.toList_eq, ByteArray.toList_eq]
        refine beq_false_of_ne fun h => et ?_
        cases b; cases t
        exact congrArg ByteArray.mk (Array.toList_inj.1 h)
      go_wp2
      go_ret2
      exact ⟨by rw [q1, q2]; rfl, hbb⟩
  · obtain ⟨q1, q2⟩ := nu_bad (s := t.data.toList) fun v hv => absurd hv (h1 v)
    rw [q1, q2]
    go_ret2
    exact ⟨rfl, hb⟩
noncomputable abbrev numDS' : PSpec := fun l => match l with | [.str s] => some ([s.length ≤ 100000], .tup [.int .i64 (nuX s), .bool (nuB s)]) | _ => none
theorem wnum_s : SOK Tryd.prog 20 numDS' := by
  refine ⟨⟨_, Tryd.func20, by kernel_rfl, by kernel_rfl⟩, fun l obs v h ho w O cl hf hc => ?_⟩
  (unfold numDS' at h; split at h; rotate_left; (focus (cases h)); rename_i s; simp only [Option.some.injEq, Prod.mk.injEq] at h; obtain ⟨rfl, rfl⟩ := h; simp only [List.mem_cons, List.not_mem_nil, or_false, forall_eq_or_imp, forall_eq, false_implies, implies_true] at ho)
  obtain ⟨hl, hr⟩ := hc
  match cl, hl with
  | [c], _ =>
    have hc := hr 0 _ _ rfl rfl
    cases hc
    refine (wnum_walk ⟨s.toArray⟩ (by show s.toArray.size ≤ _; simp; omega) w hf).mono fun en w' ⟨he, hb⟩ => ?_
    refine ⟨_, he, ext_below hb, ?_⟩
    refine .tup [_, _] [_, _] rfl fun j x v hx hv => ?_
    match j with
    | 0 => cases hx; cases hv; exact .int _ _
    | 1 => cases hx; cases hv; exact .bool _
    | j + 2 => cases hx
end Go.Proofs.YtblloaajiaoblaaDoor
namespace Go.Proofs.YtblloaajiaoblaaDoor
open Go Go.RowKit
theorem join_le : ∀ (w : List (List UInt8)), (Lib.join w [32]).length ≤ totW w + w.length
  | [] => Nat.zero_le _
  | x :: r => by
    rw [Lib.join_length]
    unfold totW
    have : ∀ l : List (List UInt8), Lib.lens l = (l.map List.length).sum := fun l => by
      induction l with
      | nil => rfl
      | cons a l ih => simp_all [Lib.lens]
    rw [this]
    simp only [List.length_cons, List.length_nil]
    omega
theorem ljt_le (w : List (List UInt8)) (h : w.length ≤ 100) : (ljT w).length ≤ totW w + 101 := by
  have := join_le w
  unfold ljT
  rw [List.length_append]
  simp only [List.length_cons, List.length_nil]
  omega
theorem ljv_le : ∀ (L : List Ln), (∀ x ∈ L, x.2.length ≤ 100) → (ljV L L.length).length ≤ totL L + 101 * L.length
  | [], _ => Nat.zero_le _
  | x :: L, h => by
    have ih := ljv_le L fun y hy => h y (List.mem_cons_of_mem _ hy)
    have h1 := ljt_le x.2 (h x List.mem_cons_self)
    unfold ljV totL at *
    rw [List.take_length] at ih ⊢
    simp only [List.map_cons, List.flatten_cons, List.length_append, List.sum_cons, List.length_cons]
    omega
theorem ljok_of {L : List Ln} (h1 : L.length ≤ 100) (h2 : ∀ x ∈ L, x.2.length ≤ 100) (h3 : totL L ≤ 1048576) : LjOK L := by
  have := ljv_le L h2
  exact ⟨by omega, fun x hx => by have := h2 x hx; omega, by omega⟩
attribute [local irreducible] ljV nuX nuB
theorem walk_WordsJoins' (L : List Ln) (s : List UInt8) (b : Int) (hT : totL L ≤ 1048576) (W : World) (hgl : GL W NoO) {cl : List Value} (hcl : CRel noN W NoO [.ro 2 L.length (fun j => (L.getD j Ln.z).av), .str s, .int .u8 b] cl) :
    Calls Tryd.prog 6 cl.toArray W fun e W' => e = .returned (.bool true) ∧ Below W.heap.size W W' := by
  refine law_of (C := mkK 0 [(20, numDS'), (21, numDS), (22, ljS L), (24, ownS L), (23, ljS L), (25, wblankS), (26, alS49)] noG [])
    (mkK_ok (pok_cons wnum_s (pok_cons rnum49_s (pok_cons (lj_s L) (pok_cons (own49_s L) (pok_cons (rlj_s L) (pok_cons wblank_s (pok_cons alive49_s pok_nil))))))) noG_ok) rfl ⟨Tryd.func6, by kernel_rfl, by kernel_rfl, by kernel_rfl⟩ (by exact Nat.le_of_ble_eq_true rfl) ?_ hcl (hg := hgl)
  by_cases h1 : 100 < L.length
  · (repeat' (first | (refine xI (fun hfk => ?_) (fun hfk => ?_) <;> ((try (first | replace hfk := oT hfk | replace hfk := oF hfk | simp only [oD, ne_eq, reduceCtorEq] at hfk)); (try exact oX))) | (refine And.intro ?ob ?_; (case ob => (exact oZ))) | exact True.intro | (show _ = _; first | exact oY | exact rfl) | exact oW | (apply And.intro)))
  by_cases h2 : 300 < s.length
  · (repeat' (first | (refine xI (fun hfk => ?_) (fun hfk => ?_) <;> ((try (first | replace hfk := oT hfk | replace hfk := oF hfk | simp only [oD, ne_eq, reduceCtorEq] at hfk)); (try exact oX))) | (refine And.intro ?ob ?_; (case ob => (exact oZ))) | exact True.intro | (show _ = _; first | exact oY | exact rfl) | exact oW | (apply And.intro)))
  (repeat' (first | (refine xI (fun hfk => ?_) (fun hfk => ?_) <;> ((try (first | replace hfk := oT hfk | replace hfk := oF hfk | simp only [oD, ne_eq, reduceCtorEq] at hfk)); (try exact oX))) | (refine And.intro ?ob ?_; (case ob => (exact oZ))) | exact True.intro | (show _ = _; first | exact oY | exact rfl) | exact oW | (apply And.intro)))
  refine ⟨Nat, fun i => [(0, .ro 2 L.length (fun j => (L.getD j Ln.z).av)), (1, .str s), (2, .int .u8 b), (21, .ro 2 L.length (fun j => (L.getD j Ln.z).av)), (22, .int .i64 (L.length : Int)), (23, .int .i64 (i : Int))], fun i => ⟨0, []⟩,
    fun i => i ≤ L.length ∧ ∀ j, j < i → (L.getD j Ln.z).2.length ≤ 100, fun i => L.length - i, ⟨0, [], ⟨Nat.zero_le _, fun j hj => absurd hj (Nat.not_lt_zero _)⟩, ?_⟩, fun i hi => ?_⟩
  · (repeat' (first | (refine And.intro ?_ ?_) | exact True.intro | (show _ = _; with_reducible rfl) | exact Chk.mk (by kernel_rfl)))
    all_goals first | rfl | (exact fun _ _ => rfl)
  obtain ⟨i1, i2⟩ := hi
  have i1 : i ≤ L.length := i1
  have i2 : ∀ j, j < i → (L.getD j Ln.z).2.length ≤ 100 := i2
  by_cases hlt : i < L.length
  · (repeat' (first | (refine xI (fun hfk => ?_) (fun hfk => ?_) <;> ((try (first | replace hfk := oT hfk | replace hfk := oF hfk | simp only [oD, ne_eq, reduceCtorEq] at hfk)); (try exact oX))) | (refine And.intro ?ob ?_; (case ob => (exact oZ))) | exact True.intro | (show _ = _; first | exact oY | exact rfl) | exact oW | (apply And.intro)))
    have nx : ∀ j, j < i + 1 → (L.getD j Ln.z).2.length ≤ 100 := fun j hj => by
      by_cases z : j < i
      · exact i2 j z
      · obtain rfl : j = i := by omega
        have e : (L.getD (j : Int).toNat Ln.z).snd.length = (L.getD j Ln.z).2.length := rfl
        omega
    refine ⟨i + 1, [], ⟨hlt, nx⟩, ?mu, ?_⟩
    case mu => (show L.length - (i + 1) < L.length - i; omega)
    (repeat' (first | (refine And.intro ?_ ?_) | exact True.intro | (show _ = _; with_reducible rfl) | exact Chk.mk (by kernel_rfl)))
    all_goals first | rfl | (exact fun _ _ => rfl) | (show (_ : Int) = _; omega)
  · have hok : LjOK L := by
      refine ljok_of (by omega) (fun x hx => ?_) hT
      obtain ⟨j, hj, rfl⟩ := List.mem_iff_getElem.1 hx
      have := i2 j (by omega)
      rwa [List.getD_eq_getElem?_getD, List.getElem?_eq_getElem hj] at this
    (repeat' (first | (refine xI (fun hfk => ?_) (fun hfk => ?_) <;> ((try (first | replace hfk := oT hfk | replace hfk := oF hfk | simp only [oD, ne_eq, reduceCtorEq] at hfk)); (try exact oX))) | (refine And.intro ?ob ?_; (case ob => (exact oZ))) | exact True.intro | (show _ = _; first | exact oY | exact rfl) | exact oW | (apply And.intro)))
    all_goals (exfalso; simp only [decide_eq_true_eq, decide_eq_decide] at hfk; omega)
end Go.Proofs.YtblloaajiaoblaaDoor

