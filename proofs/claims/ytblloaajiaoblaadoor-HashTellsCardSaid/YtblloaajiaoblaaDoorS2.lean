/- Texts laid together. No condition. -/
import Derived.Test.YtblloaajiaoblaaDoorS1
import Derived.Shelf.Strings.Builder1
import Derived.Shelf.Strings.Builder2
import Derived.Shelf.Strings.OnBuilder
import Derived.Shelf.Strings.BuilderF
import Derived.Shelf.Strings.BuilderK
import Derived.Shelf.Strings.Builder2Cap
import Derived.Shelf.Strconv.Itoa0
import Derived.Shelf.Strconv.Itoa1
import Derived.Shelf.LaysM
import Derived.Shelf.Strconv.Itoa2
import Derived.Shelf.Strconv.Itoa3
import Derived.Shelf.Strconv.Itoa4
import Derived.Shelf.Strconv.ParseIntEmpty
import Derived.Shelf.Strconv.Clone
import Derived.Shelf.Strconv.SyntaxError
import Derived.Shelf.LaysC
import Derived.Shelf.Strconv.ToError
import Derived.Shelf.Strconv.Lower
import Derived.Shelf.Strconv.ParseUint10
import Derived.Shelf.Strconv.ParseUint10Empty
import Derived.Shelf.Strconv.ParseUint10Any
import Derived.Shelf.Strconv.ParseInt10
import Derived.Shelf.Strconv.RangeError
import Derived.Shelf.Strconv.ToErrorRange
import Derived.Shelf.Strconv.ParseUintEmpty
import Derived.Shelf.Strconv.ParseUint10b64
import Derived.Shelf.Strconv.ParseUint10b32
import Derived.Shelf.Strconv.ParseUint10b16
import Derived.Shelf.Strconv.ParseUint10b8
import Derived.Shelf.Strconv.ParseUint10At
import Derived.Shelf.Strconv.ParseInt10At64
import Derived.Shelf.Strconv.ParseInt10At32
import Derived.Shelf.Strconv.ParseInt10At16
import Derived.Shelf.Strconv.ParseInt10At8
import Derived.Shelf.Strconv.ParseInt10All
import Derived.Shelf.Strconv.ParseIntPublic10
import Derived.Shelf.Strconv.ErrVarParseInt
import Derived.Ground.MpProg
import Derived.Shelf.Pu.ParseUintPublic10
import Derived.Shelf.Pu.ErrVarParseUint
import Derived.Shelf.Strings.Prefix
import Derived.Shelf.Bits.Mul64
import Derived.Shelf.Strings.Repeat
import Derived.Shelf.Strings.BuilderCap
import Derived.Test.YtblloaajiaoblaaDoorProg
import Derived.Lib.Strings
import Derived.Lib.Walk
import Derived.Lib.ConvBytes
import Derived.Lib.AtoiErrMem
import Derived.Lib.Hide
import Derived.Laws.Strings3
import Derived.Laws.Closers25
import Derived.Laws.Closers25b
import Derived.BigGuard
set_option maxRecDepth 100000
set_option maxHeartbeats 4000000
set_option linter.unusedVariables false
set_option linter.unusedSimpArgs false
namespace Go.Proofs.YtblloaajiaoblaaDoor
open Go Go.Shelf
open Go.RowKit in
open Go.RowKit in
open Go.RowKit Go.Sort Go.Lib in
open Go.RowKit Go.Sort Go.Lib in
def sh_laysC245_ren : Go.Shelf.Ren := ⟨fun | 245 => 46 | 279 => 69 | 280 => 70 | 281 => 71 | 282 => 72 | 316 => 86 | 171 => 88 | 205 => 87 | 243 => 96 | 246 => 53 | 283 => 73 | 284 => 74 | 285 => 75 | 286 => 76 | 129 => 90 | 317 => 89 | 318 => 91 | 319 => 92 | 320 => 93 | 337 => 97 | 338 => 98 | n => n, fun | 9 => 9 | 3 => 3 | 75 => 56 | 167 => 104 | 4 => 4 | 168 => 107 | 210 => 126 | 37 => 22 | 0 => 0 | 127 => 100 | 145 => 136 | 143 => 134 | 2 => 2 | 171 => 111 | 53 => 23 | 5 => 5 | 173 => 114 | 212 => 130 | 51 => 116 | 20 => 20 | 213 => 131 | 46 => 62 | 232 => 138 | 233 => 139 | 80 => 82 | n => n, fun | 15 => 0 | 16 => 1 | 17 => 2 | 18 => 4 | 19 => 5 | n => n⟩
theorem sh_laysC245 : Go.Proofs.LaysC.n245 Tryd.prog sh_laysC245_ren := {
  mixed := by kernel_rfl
  f129 := Tryd.func90.trans (congrArg some (by kernel_rfl))
  f171 := Tryd.func88.trans (congrArg some (by kernel_rfl))
  f205 := Tryd.func87.trans (congrArg some (by kernel_rfl))
  f243 := Tryd.func96.trans (congrArg some (by kernel_rfl))
  f245 := Tryd.func46.trans (congrArg some (by kernel_rfl))
  f246 := Tryd.func53.trans (congrArg some (by kernel_rfl))
  f279 := Tryd.func69.trans (congrArg some (by kernel_rfl))
  f280 := Tryd.func70.trans (congrArg some (by kernel_rfl))
  f281 := Tryd.func71.trans (congrArg some (by kernel_rfl))
  f282 := Tryd.func72.trans (congrArg some (by kernel_rfl))
  f283 := Tryd.func73.trans (congrArg some (by kernel_rfl))
  f284 := Tryd.func74.trans (congrArg some (by kernel_rfl))
  f285 := Tryd.func75.trans (congrArg some (by kernel_rfl))
  f286 := Tryd.func76.trans (congrArg some (by kernel_rfl))
  f316 := Tryd.func86.trans (congrArg some (by kernel_rfl))
  f317 := Tryd.func89.trans (congrArg some (by kernel_rfl))
  f318 := Tryd.func91.trans (congrArg some (by kernel_rfl))
  f319 := Tryd.func92.trans (congrArg some (by kernel_rfl))
  f320 := Tryd.func93.trans (congrArg some (by kernel_rfl))
  f337 := Tryd.func97.trans (congrArg some (by kernel_rfl))
  f338 := Tryd.func98.trans (congrArg some (by kernel_rfl))
  t0 := Tryd.underlying0
  a0 := Tryd.isAgg0
  z0 := Tryd.sizeOf0
  v0 := Tryd.zeroValue0
  t2 := Tryd.underlying2
  a2 := Tryd.isAgg2
  z2 := Tryd.sizeOf2
  v2 := Tryd.zeroValue2
  t3 := Tryd.underlying3
  a3 := Tryd.isAgg3
  z3 := Tryd.sizeOf3
  v3 := Tryd.zeroValue3
  t4 := Tryd.underlying4
  a4 := Tryd.isAgg4
  z4 := Tryd.sizeOf4
  v4 := Tryd.zeroValue4
  t5 := Tryd.underlying5
  a5 := Tryd.isAgg5
  z5 := Tryd.sizeOf5
  v5 := Tryd.zeroValue5
  t9 := Tryd.underlying9
  a9 := Tryd.isAgg9
  z9 := Tryd.sizeOf9
  v9 := Tryd.zeroValue9
  t20 := Tryd.underlying20
  a20 := Tryd.isAgg20
  z20 := Tryd.sizeOf20
  v20 := Tryd.zeroValue20
  t37 := Tryd.underlying22
  a37 := Tryd.isAgg22
  z37 := Tryd.sizeOf22
  v37 := Tryd.zeroValue22
  t46 := Tryd.underlying62
  a46 := Tryd.isAgg62
  z46 := Tryd.sizeOf62
  v46 := Tryd.zeroValue62
  t51 := Tryd.underlying116
  a51 := Tryd.isAgg116
  z51 := Tryd.sizeOf116
  v51 := Tryd.zeroValue116
  t53 := Tryd.underlying23
  a53 := Tryd.isAgg23
  z53 := Tryd.sizeOf23
  v53 := Tryd.zeroValue23
  t75 := Tryd.underlying56
  a75 := Tryd.isAgg56
  z75 := Tryd.sizeOf56
  v75 := Tryd.zeroValue56
  t127 := Tryd.underlying100
  a127 := Tryd.isAgg100
  z127 := Tryd.sizeOf100
  v127 := Tryd.zeroValue100
  t143 := Tryd.underlying134
  a143 := Tryd.isAgg134
  z143 := Tryd.sizeOf134
  v143 := Tryd.zeroValue134
  t145 := Tryd.underlying136
  a145 := Tryd.isAgg136
  z145 := Tryd.sizeOf136
  v145 := Tryd.zeroValue136
  t167 := Tryd.underlying104
  a167 := Tryd.isAgg104
  z167 := Tryd.sizeOf104
  v167 := Tryd.zeroValue104
  t168 := Tryd.underlying107
  a168 := Tryd.isAgg107
  z168 := Tryd.sizeOf107
  v168 := Tryd.zeroValue107
  t171 := Tryd.underlying111
  a171 := Tryd.isAgg111
  z171 := Tryd.sizeOf111
  v171 := Tryd.zeroValue111
  t173 := Tryd.underlying114
  a173 := Tryd.isAgg114
  z173 := Tryd.sizeOf114
  v173 := Tryd.zeroValue114
  t210 := Tryd.underlying126
  a210 := Tryd.isAgg126
  z210 := Tryd.sizeOf126
  v210 := Tryd.zeroValue126
  t212 := Tryd.underlying130
  a212 := Tryd.isAgg130
  z212 := Tryd.sizeOf130
  v212 := Tryd.zeroValue130
  t213 := Tryd.underlying131
  a213 := Tryd.isAgg131
  z213 := Tryd.sizeOf131
  t232 := Tryd.underlying138
  a232 := Tryd.isAgg138
  z232 := Tryd.sizeOf138
  v232 := Tryd.zeroValue138
  t233 := Tryd.underlying139
  a233 := Tryd.isAgg139
  z233 := Tryd.sizeOf139
  v233 := Tryd.zeroValue139
  g15 := by kernel_rfl
  g16 := by kernel_rfl
  g17 := by kernel_rfl
  g18 := by kernel_rfl
  g19 := by kernel_rfl
  t80 := Tryd.underlying82
  a80 := Tryd.isAgg82
  z80 := Tryd.sizeOf82
  v80 := Tryd.zeroValue82
  i0 := by kernel_rfl
  i2 := by kernel_rfl
  i3 := by kernel_rfl
  i4 := by kernel_rfl
  i5 := by kernel_rfl
  i9 := by kernel_rfl
  i20 := by kernel_rfl
  i37 := by kernel_rfl
  i46 := by kernel_rfl
  i51 := by kernel_rfl
  i53 := by kernel_rfl
  i75 := by kernel_rfl
  i80 := by kernel_rfl
  i127 := by kernel_rfl
  i143 := by kernel_rfl
  i145 := by kernel_rfl
  i167 := by kernel_rfl
  i168 := by kernel_rfl
  i171 := by kernel_rfl
  i173 := by kernel_rfl
  i210 := by kernel_rfl
  i212 := by kernel_rfl
  i232 := by kernel_rfl
  i233 := by kernel_rfl
  m15 := by kernel_rfl
  m16 := by kernel_rfl
  m17 := by kernel_rfl
  m18 := by kernel_rfl
  m19 := by kernel_rfl
  c0 := by kernel_rfl
  c2 := by kernel_rfl
  c3 := by kernel_rfl
  c4 := by kernel_rfl
  c5 := by kernel_rfl
  c9 := by kernel_rfl
  c20 := by kernel_rfl
  c37 := by kernel_rfl
  c46 := by kernel_rfl
  c51 := by kernel_rfl
  c53 := by kernel_rfl
  c75 := by kernel_rfl
  c80 := by kernel_rfl
  c127 := by kernel_rfl
  c143 := by kernel_rfl
  c145 := by kernel_rfl
  c167 := by kernel_rfl
  c168 := by kernel_rfl
  c171 := by kernel_rfl
  c173 := by kernel_rfl
  c210 := by kernel_rfl
  c212 := by kernel_rfl
  c213 := by kernel_rfl
  c232 := by kernel_rfl
  c233 := by kernel_rfl }
open Go.RowKit in
theorem sh_strconv_toError_syntax (fn s : ByteArray) (base bits : Int) (ev : Value) (w : World) (hlim : s.size ≤ 281474976710656) (hv : w.cell? ⟨0, 0, none⟩ = some ev) (hev : ev = .nilIface ∨ ∃ te pe, ev = .iface te pe) :
    Calls Tryd.prog 46 #[.string fn, .string s, .int .i64 base, .int .i64 bits, .iface 104 (.int .i64 2)] w fun e w' => ∃ N, e = .returned (.iface 107 (.pointer (some ⟨N, 0, none⟩))) ∧ w.heap.size ≤ N ∧ w'.heap[N]? = some (.cells #[.string fn, .string s, ev] 126 (0, 0)) ∧ Below w.heap.size w w' := Any.strconv_toError_syntax sh_laysC245 fn s base bits ev w hlim hv hev
def sh_lays321_ren : Go.Shelf.Ren := ⟨fun | 321 => 67 | n => n, fun | 5 => 5 | n => n, fun | n => n⟩
theorem sh_lays321 : Go.Proofs.Lays.n321 Tryd.prog sh_lays321_ren := {
  mixed := by kernel_rfl
  f321 := Tryd.func67.trans (congrArg some (by kernel_rfl))
  t5 := Tryd.underlying5
  a5 := Tryd.isAgg5
  z5 := Tryd.sizeOf5
  v5 := Tryd.zeroValue5 }
open Go.RowKit in
theorem sh_internal_strconv_lower (c : Int) (w : World) :
    Calls Tryd.prog 67 #[.int .u8 c] w fun e w' => e = .returned (.int .u8 (bits .or .u8 c 32)) ∧ w' = w := Any.internal_strconv_lower sh_lays321 c w
open Go.RowKit in
theorem sh_strconv_toError_range (fn s : ByteArray) (base bits : Int) (ev : Value) (w : World) (hlim : s.size ≤ 281474976710656) (hv : w.cell? ⟨1, 0, none⟩ = some ev) (hev : ev = .nilIface ∨ ∃ te pe, ev = .iface te pe) :
    Calls Tryd.prog 46 #[.string fn, .string s, .int .i64 base, .int .i64 bits, .iface 104 (.int .i64 1)] w fun e w' => ∃ N, e = .returned (.iface 107 (.pointer (some ⟨N, 0, none⟩))) ∧ w.heap.size ≤ N ∧ w'.heap[N]? = some (.cells #[.string fn, .string s, ev] 126 (0, 0)) ∧ Below w.heap.size w w' := Any.strconv_toError_range sh_laysC245 fn s base bits ev w hlim hv hev
open Go.RowKit in
def sh_lays105_ren : Go.Shelf.Ren := ⟨fun | 105 => 30 | 212 => 48 | 99 => 49 | 165 => 50 | 166 => 41 | 170 => 51 | 169 => 43 | 263 => 77 | 264 => 78 | 206 => 79 | 240 => 65 | 241 => 80 | 276 => 83 | 277 => 94 | n => n, fun | 9 => 9 | 3 => 3 | 4 => 4 | 20 => 20 | 0 => 0 | 46 => 62 | 109 => 88 | 5 => 5 | 72 => 78 | 76 => 79 | 51 => 116 | 146 => 117 | 53 => 23 | 148 => 119 | 70 => 76 | 37 => 22 | 75 => 56 | 127 => 100 | 164 => 122 | 80 => 82 | n => n, fun | n => n⟩
theorem sh_lays105 : Go.Proofs.Lays.n105 Tryd.prog sh_lays105_ren := {
  mixed := by kernel_rfl
  f99 := Tryd.func49.trans (congrArg some (by kernel_rfl))
  f105 := Tryd.func30.trans (congrArg some (by kernel_rfl))
  f165 := Tryd.func50.trans (congrArg some (by kernel_rfl))
  f166 := Tryd.func41.trans (congrArg some (by kernel_rfl))
  f169 := Tryd.func43.trans (congrArg some (by kernel_rfl))
  f170 := Tryd.func51.trans (congrArg some (by kernel_rfl))
  f206 := Tryd.func79.trans (congrArg some (by kernel_rfl))
  f212 := Tryd.func48.trans (congrArg some (by kernel_rfl))
  f240 := Tryd.func65.trans (congrArg some (by kernel_rfl))
  f241 := Tryd.func80.trans (congrArg some (by kernel_rfl))
  f263 := Tryd.func77.trans (congrArg some (by kernel_rfl))
  f264 := Tryd.func78.trans (congrArg some (by kernel_rfl))
  f276 := Tryd.func83.trans (congrArg some (by kernel_rfl))
  f277 := Tryd.func94.trans (congrArg some (by kernel_rfl))
  t0 := Tryd.underlying0
  a0 := Tryd.isAgg0
  z0 := Tryd.sizeOf0
  v0 := Tryd.zeroValue0
  t3 := Tryd.underlying3
  a3 := Tryd.isAgg3
  z3 := Tryd.sizeOf3
  v3 := Tryd.zeroValue3
  t4 := Tryd.underlying4
  a4 := Tryd.isAgg4
  z4 := Tryd.sizeOf4
  v4 := Tryd.zeroValue4
  t5 := Tryd.underlying5
  a5 := Tryd.isAgg5
  z5 := Tryd.sizeOf5
  v5 := Tryd.zeroValue5
  t9 := Tryd.underlying9
  a9 := Tryd.isAgg9
  z9 := Tryd.sizeOf9
  v9 := Tryd.zeroValue9
  t20 := Tryd.underlying20
  a20 := Tryd.isAgg20
  z20 := Tryd.sizeOf20
  v20 := Tryd.zeroValue20
  t37 := Tryd.underlying22
  a37 := Tryd.isAgg22
  z37 := Tryd.sizeOf22
  v37 := Tryd.zeroValue22
  t46 := Tryd.underlying62
  a46 := Tryd.isAgg62
  z46 := Tryd.sizeOf62
  v46 := Tryd.zeroValue62
  t51 := Tryd.underlying116
  a51 := Tryd.isAgg116
  z51 := Tryd.sizeOf116
  v51 := Tryd.zeroValue116
  t53 := Tryd.underlying23
  a53 := Tryd.isAgg23
  z53 := Tryd.sizeOf23
  v53 := Tryd.zeroValue23
  t70 := Tryd.underlying76
  a70 := Tryd.isAgg76
  z70 := Tryd.sizeOf76
  v70 := Tryd.zeroValue76
  t72 := Tryd.underlying78
  a72 := Tryd.isAgg78
  z72 := Tryd.sizeOf78
  v72 := Tryd.zeroValue78
  t75 := Tryd.underlying56
  a75 := Tryd.isAgg56
  z75 := Tryd.sizeOf56
  v75 := Tryd.zeroValue56
  t76 := Tryd.underlying79
  a76 := Tryd.isAgg79
  z76 := Tryd.sizeOf79
  v76 := Tryd.zeroValue79
  t109 := Tryd.underlying88
  a109 := Tryd.isAgg88
  z109 := Tryd.sizeOf88
  v109 := Tryd.zeroValue88
  t127 := Tryd.underlying100
  a127 := Tryd.isAgg100
  z127 := Tryd.sizeOf100
  v127 := Tryd.zeroValue100
  t146 := Tryd.underlying117
  a146 := Tryd.isAgg117
  z146 := Tryd.sizeOf117
  v146 := Tryd.zeroValue117
  t148 := Tryd.underlying119
  a148 := Tryd.isAgg119
  z148 := Tryd.sizeOf119
  v148 := Tryd.zeroValue119
  t164 := Tryd.underlying122
  a164 := Tryd.isAgg122
  z164 := Tryd.sizeOf122
  v164 := Tryd.zeroValue122 }
theorem sh_Builder_Extra_105 : Builder.Extra Tryd.prog sh_lays105_ren := {
  sizeBuilder := by kernel_rfl
  liesBuilder := by kernel_rfl
  t5 := Tryd.underlying5
  a5 := Tryd.isAgg5
  z5 := Tryd.sizeOf5
  v5 := Tryd.zeroValue5
  infoByte := by kernel_rfl
  cellsByte := by kernel_rfl
  sizeByte := by kernel_rfl
  neB5 := by decide }
open Go.RowKit Go.Lib in
theorem sh_strings_Repeat (s : ByteArray) (c : Nat) (w : World) (hc : c ≤ 9223372036854775807) (hlen : s.size * c ≤ 140737488355328) :
    Calls Tryd.prog 30 #[.string s, .int .i64 c] w fun e w' => e = .returned (.string ⟨(Lib.repeatL s.data.toList c).toArray⟩) ∧ Below w.heap.size w w' := Any.strings_Repeat sh_lays105 sh_Builder_Extra_105 s c w hc hlen
end Go.Proofs.YtblloaajiaoblaaDoor
namespace Go.Proofs.YtblloaajiaoblaaDoor
open Go Go.RowKit
def PuR (l : List UInt8) (x : Int) (err : Value) : Prop := (∃ n, l ≠ [] ∧ pu16 0 l = some n ∧ n < 18446744073709551616 ∧ x = (n : Int) ∧ err = .nilIface) ∨ ((l = [] ∨ pu16 0 l = none) ∧ (∃ y, x = y) ∧ (err = .iface 104 (.int .i64 2) ∨ err = .iface 104 (.int .i64 1)))
theorem low_or : ∀ n : Fin 256, bits .or .u8 (n.1 : Int) 32 = ((n.1 ||| 32 : Nat) : Int) := by decide
theorem pu_none {a : Nat} {c : UInt8} {r : List UInt8} (h : 16 ≤ pdg c ∨ 1152921504606846976 ≤ a) : pu16 a (c :: r) = none := by
  unfold pu16
  by_cases k : 16 ≤ pdg c
  · rw [if_pos k]
  · rw [if_neg k, if_pos (h.resolve_left k)]
theorem pu_more {a : Nat} {c : UInt8} {r : List UInt8} (h : ¬ 16 ≤ pdg c) (k : ¬ 1152921504606846976 ≤ a) : pu16 a (c :: r) = pu16 (a * 16 + pdg c) r := by
  show (if 16 ≤ pdg c then none else if 1152921504606846976 ≤ a then none else pu16 (a * 16 + pdg c) r) = _
  rw [if_neg h, if_neg k]
set_option maxHeartbeats 32000000 in
theorem pu16_walk (t : ByteArray) (hne : t.size ≠ 0) (hmax : t.size ≤ 1000000) (w : World) :
    Calls Tryd.prog 45 #[.string t, .int .i64 16, .int .i64 64] w fun e w' => ∃ (x : Int) (err : Value), e = .returned (.tuple #[.int .u64 x, err]) ∧ PuR t.data.toList x err ∧ w' = Lib.bytesWorld w 5 t := by
  have hemp : t.toList.isEmpty = false := by
    rw [← decide_eq_emptyBytes]
    exact decide_eq_false (fun h => hne (by rw [h]; rfl))
  have hcv := Lib.run_convert_string_bytes (P := Tryd.prog) w 9 22 5 t (u := .string) Tryd.underlying9 Tryd.underlying22 Tryd.underlying5
  have hB : ∀ j, j < t.size → (Lib.bytesWorld w 5 t).cell? ⟨w.heap.size, j, none⟩ = some (.int .u8 (t.data.toList.getD j 0).toNat) := fun j hj => Lib.bytesWorld_cell w 5 t j hj
  obtain ⟨W1, hW1⟩ : ∃ W1, W1 = Lib.bytesWorld w 5 t := ⟨_, rfl⟩
  rw [← hW1] at hcv hB ⊢
  clear hW1
  obtain ⟨bs, hL⟩ : ∃ bs, bs = t.data.toList := ⟨_, rfl⟩
  have hLn : bs.length = t.size := by rw [hL, Lib.size_eq]
  have hbne : bs ≠ [] := fun h => hne (by rw [← hLn, h]; rfl)
  rw [← hL] at hB ⊢
  clear hL
  have hmv : IntKind.u64.wrap (IntKind.u64.wrap 18446744073709551616 - 1) = 18446744073709551615 := by
    rw [IntKind.wrap_u64, IntKind.wrap_u64]
    decide
  go_enter Tryd.func45, Tryd.ntmps45
  go_wp2
  go_loop [12, 13, 101] (fun vu vn vi => ∃ (k acc : Nat) (a : Int), vu = .bool false ∧ vn = .int .u64 a ∧ vi = .int .i64 k ∧ k ≤ t.size ∧ Hid (a = (acc : Int) ∧ acc < 18446744073709551616 ∧ pu16 0 bs = pu16 acc (bs.drop k)))
    (fun _ _ vi => t.size - (intOf vi).toNat)
  case atStart => exact ⟨0, 0, 0, rfl, rfl, rfl, by omega, rfl, by omega, rfl⟩
  case round =>
    obtain ⟨k, acc, a, rfl, rfl, rfl, hk, hh⟩ := hrel
    obtain ⟨ha, hacc, hdec⟩ := hh.out
    clear hh
    have a0 : 0 ≤ a := by omega
    have a1 : a < 18446744073709551616 := by omega
    by_cases hkn : k < t.size
    · have hc := hB k hkn
      have hdrop : bs.drop k = bs[k]'(by omega) :: bs.drop (k + 1) := List.drop_eq_getElem_cons (by omega)
      have hget : bs.getD k 0 = bs[k]'(by omega) := by simp [List.getD, List.getElem?_eq_getElem (show k < bs.length by omega)]
      rw [hdrop] at hdec
      rw [hget] at hc
      generalize bs[k]'(by omega) = c at hc hdec
      have hc256 : c.toNat < 256 := c.toNat_lt
      clear hB hdrop hget
      by_cases hdig : 48 ≤ c.toNat ∧ c.toNat ≤ 57
      · have hpd : pdg c = c.toNat - 48 := if_pos hdig
        obtain ⟨hd0, hd1⟩ := hdig
        by_cases hcut : 1152921504606846976 ≤ acc
        · have hR : Hid (PuR bs 18446744073709551615 (.iface 104 (.int .i64 1))) := Or.inr ⟨.inr (hdec.trans (pu_none (.inr hcut))), ⟨_, rfl⟩, .inr rfl⟩
          have icut : 1152921504606846976 ≤ a := by omega
          clear hcut hacc ha hdec hpd hbne
          go_wp2
          go_ret2
          exact ⟨_, _, rfl, hR, rfl⟩
        · have HN : Hid (a * 16 + ((c.toNat : Int) - 48) = ((acc * 16 + (c.toNat - 48) : Nat) : Int) ∧ acc * 16 + (c.toNat - 48) < 18446744073709551616 ∧ pu16 0 bs = pu16 (acc * 16 + (c.toNat - 48)) (bs.drop (k + 1))) := Lib.hid ⟨by omega, by omega, by rw [hdec, pu_more (by omega) hcut, hpd]⟩
          have icut : a < 1152921504606846976 := by omega
          have iov : a * 16 + ((c.toNat : Int) - 48) < 18446744073709551616 := by omega
          clear hcut hacc hdec ha hpd hbne
          go_wp2
          refine ⟨⟨k + 1, acc * 16 + (c.toNat - 48), a * 16 + ((c.toNat : Int) - 48), rfl, (by first | rfl | (congr 1; omega)), (by first | rfl | (congr 1; omega)), by omega, HN⟩, by simp [intOf]; omega⟩
      · by_cases h95 : (c.toNat : Int) = 95
        · have hpd : pdg c = 99 := by
            unfold pdg
            rw [if_neg hdig, show c.toNat = 95 by omega]
            rfl
          have HL : Hid (∀ w : World, Calls Tryd.prog 67 #[.int .u8 95] w fun e w' => e = .returned (.int .u8 127) ∧ w' = w) := fun w => sh_internal_strconv_lower 95 w
          have hR : Hid (PuR bs 0 (.iface 104 (.int .i64 2))) := Or.inr ⟨.inr (hdec.trans (pu_none (.inl (by omega)))), ⟨_, rfl⟩, .inl rfl⟩
          clear hacc ha hdec hpd hbne
          go_wp2_with (go_at_call 67; refine (HL.out _).mono ?_; rintro e w' ⟨rfl, rfl⟩)
          all_goals go_ret2
          all_goals exact ⟨_, _, rfl, hR, rfl⟩
        have hlo := low_or ⟨c.toNat, hc256⟩
        obtain ⟨lo, hl⟩ : ∃ lo, lo = c.toNat ||| 32 := ⟨_, rfl⟩
        have hlow : ∀ w : World, Calls Tryd.prog 67 #[.int .u8 (c.toNat : Int)] w fun e w' => e = .returned (.int .u8 (lo : Int)) ∧ w' = w := fun w => by
          rw [hl]
          exact hlo ▸ sh_internal_strconv_lower (c.toNat : Int) w
        have hl8 : lo < 256 := by rw [hl]; exact Nat.or_lt_two_pow (n := 8) hc256 (by decide)
        have hpd : pdg c = if 97 ≤ lo ∧ lo ≤ 122 then lo - 87 else 99 := by unfold pdg; rw [if_neg hdig, hl]
        clear hl hlo
        have HL : Hid (∀ w : World, Calls Tryd.prog 67 #[.int .u8 (c.toNat : Int)] w fun e w' => e = .returned (.int .u8 (lo : Int)) ∧ w' = w) := hlow
        clear hlow
        by_cases hlet : 97 ≤ lo ∧ lo ≤ 122
        · rw [if_pos hlet] at hpd
          obtain ⟨l0, l1⟩ := hlet
          by_cases h16 : 103 ≤ lo
          · have hR : Hid (PuR bs 0 (.iface 104 (.int .i64 2))) := Or.inr ⟨.inr (hdec.trans (pu_none (.inl (by omega)))), ⟨_, rfl⟩, .inl rfl⟩
            have hw : 16 ≤ (lo : Int) - 97 + 10 := by omega
            clear hacc ha hdec hpd hbne
            go_wp2_with (go_at_call 67; refine (HL.out _).mono ?_; rintro e w' ⟨rfl, rfl⟩)
            all_goals go_ret2
            all_goals exact ⟨_, _, rfl, hR, rfl⟩
          · by_cases hcut : 1152921504606846976 ≤ acc
            · have hR : Hid (PuR bs 18446744073709551615 (.iface 104 (.int .i64 1))) := Or.inr ⟨.inr (hdec.trans (pu_none (.inr hcut))), ⟨_, rfl⟩, .inr rfl⟩
              have icut : 1152921504606846976 ≤ a := by omega
              have hw : (lo : Int) - 97 + 10 < 16 := by omega
              clear hcut hacc ha hdec hpd hbne
              go_wp2_with (go_at_call 67; refine (HL.out _).mono ?_; rintro e w' ⟨rfl, rfl⟩)
              all_goals go_ret2
              all_goals exact ⟨_, _, rfl, hR, rfl⟩
            · have HN : Hid (a * 16 + ((lo : Int) - 97 + 10) = ((acc * 16 + (lo - 87) : Nat) : Int) ∧ acc * 16 + (lo - 87) < 18446744073709551616 ∧ pu16 0 bs = pu16 (acc * 16 + (lo - 87)) (bs.drop (k + 1))) := Lib.hid ⟨by omega, by omega, by rw [hdec, pu_more (by omega) hcut, hpd]⟩
              have icut : a < 1152921504606846976 := by omega
              have hw : (lo : Int) - 97 + 10 < 16 := by omega
              have iov : a * 16 + ((lo : Int) - 97 + 10) < 18446744073709551616 := by omega
              clear hcut hacc hdec ha hpd hbne
              go_wp2_with (go_at_call 67; refine (HL.out _).mono ?_; rintro e w' ⟨rfl, rfl⟩)
              all_goals refine ⟨⟨k + 1, acc * 16 + (lo - 87), a * 16 + ((lo : Int) - 97 + 10), rfl, (by first | rfl | (congr 1; omega)), (by first | rfl | (congr 1; omega)), by omega, HN⟩, by simp [intOf]; omega⟩
        · rw [if_neg hlet] at hpd
          have hR : Hid (PuR bs 0 (.iface 104 (.int .i64 2))) := Or.inr ⟨.inr (hdec.trans (pu_none (.inl (by omega)))), ⟨_, rfl⟩, .inl rfl⟩
          have hlet2 : 97 ≤ (lo : Int) → ¬ (lo : Int) ≤ 122 := by omega
          clear hacc ha hdec hpd hbne
          by_cases l0 : 97 ≤ lo
          · have l1 : ¬ lo ≤ 122 := fun k => hlet ⟨l0, k⟩
            clear hlet hlet2
            go_wp2_with (go_at_call 67; refine (HL.out _).mono ?_; rintro e w' ⟨rfl, rfl⟩)
            all_goals go_ret2
            all_goals exact ⟨_, _, rfl, hR, rfl⟩
          · clear hlet hlet2
            go_wp2_with (go_at_call 67; refine (HL.out _).mono ?_; rintro e w' ⟨rfl, rfl⟩)
            all_goals go_ret2
            all_goals exact ⟨_, _, rfl, hR, rfl⟩
    · have hkk : k = t.size := by omega
      subst hkk
      have hF : pu16 acc (bs.drop t.size) = some acc := by rw [List.drop_eq_nil_of_le (by omega)]; rfl
      rw [hF] at hdec
      subst ha
      have hR : Hid (PuR bs (acc : Int) .nilIface) := Or.inl ⟨acc, hbne, hdec, hacc, rfl, rfl⟩
      clear hF a0 a1 hdec hbne hacc
      go_wp2
      go_ret2
      exact ⟨_, _, rfl, hR, rfl⟩
theorem pu16_empty (w : World) :
    Calls Tryd.prog 45 #[.string ByteArray.empty, .int .i64 16, .int .i64 64] w fun e w' => e = .returned (.tuple #[.int .u64 0, .iface 104 (.int .i64 2)]) ∧ w' = w := by
  go_enter Tryd.func45, Tryd.ntmps45
  go_wp2
  go_ret2
  exact ⟨rfl, rfl⟩
theorem pu16_all (t : ByteArray) (hmax : t.size ≤ 1000000) (w : World) :
    Calls Tryd.prog 45 #[.string t, .int .i64 16, .int .i64 64] w fun e w' => ∃ (x : Int) (err : Value), e = .returned (.tuple #[.int .u64 x, err]) ∧ PuR t.data.toList x err ∧ Below w.heap.size w w' := by
  by_cases h : t.size = 0
  · have e : t = ByteArray.empty := by
      cases t with
      | mk d => exact congrArg ByteArray.mk (Array.eq_empty_of_size_eq_zero h)
    subst e
    refine (pu16_empty w).mono fun e w' ⟨he, hw⟩ => ?_
    subst hw
    exact ⟨_, _, he, .inr ⟨.inl rfl, ⟨_, rfl⟩, .inl rfl⟩, Below.refl _ _⟩
  · refine (pu16_walk t h hmax w).mono fun e w' ⟨x, err, he, hp, hw⟩ => ?_
    subst hw
    exact ⟨x, err, he, hp, Lib.bytesWorld_below w _ t⟩
theorem gv_cell {w : World} {O : Nat → Prop} (h : GL w O) {g : Nat} (hm : g ∈ GVtab) : ∃ te pe, w.cell? ⟨g, 0, none⟩ = some (.iface te pe) := by
  obtain ⟨_, _, te, pe, ty, fr, e⟩ := h.vr _ hm
  refine ⟨te, pe, ?_⟩
  unfold World.cell?
  simp only [e]
  rfl
end Go.Proofs.YtblloaajiaoblaaDoor
namespace Go.Proofs.YtblloaajiaoblaaDoor
open Go Go.RowKit
theorem ext_below {w w' : World} (h : Below w.heap.size w w') : Ext (fun _ => False) w w' :=
  ⟨h.os, h.tape, h.output, h.size, fun b hb _ => h.block b hb, fun b s hs => by
    have hb : b < w.heap.size := by
      unfold World.shape? at hs
      split at hs
      · rename_i e; exact (Array.getElem?_eq_some_iff.1 e).1
      · cases hs
    unfold World.shape? at hs ⊢
    rw [h.block b hb]; exact hs⟩
end Go.Proofs.YtblloaajiaoblaaDoor
namespace Go.Proofs.YtblloaajiaoblaaDoor
open Go Go.RowKit
abbrev repeatS : PSpec := fun l => match l with | [.str s, .int .i64 c] => some ([0 ≤ c, c ≤ 100000, s.length ≤ 100000], .str (Lib.repeatL s c.toNat)) | _ => none
theorem repeat_s : SOK Tryd.prog 30 repeatS := by
  refine ⟨⟨_, Tryd.func30, by kernel_rfl, by kernel_rfl⟩, fun l obs v h ho w O cl hf hc => ?_⟩
  (unfold repeatS at h; split at h; rotate_left; (focus (cases h)); rename_i s c; simp only [Option.some.injEq, Prod.mk.injEq] at h; obtain ⟨rfl, rfl⟩ := h; simp only [List.mem_cons, List.not_mem_nil, or_false, forall_eq_or_imp, forall_eq, false_implies, implies_true] at ho)
  obtain ⟨h0, h1, h2⟩ := ho
  obtain ⟨n, rfl⟩ := Int.eq_ofNat_of_zero_le h0
  obtain ⟨hl, hr⟩ := hc
  match cl, hl with
  | [c1, c2], _ =>
    have r1 := hr 0 _ _ rfl rfl
    have r2 := hr 1 _ _ rfl rfl
    cases r1
    cases r2
    have hsz : (⟨s.toArray⟩ : ByteArray).size = s.length := by simp [ByteArray.size]
    have hm : s.length * n ≤ 100000 * 100000 := Nat.mul_le_mul h2 (by omega)
    refine (sh_strings_Repeat ⟨s.toArray⟩ n w (by omega) (by rw [hsz]; omega)).mono fun en w' ⟨he, hw⟩ => ?_
    exact ⟨_, he, ext_below hw, .str _⟩
theorem rep0 : ∀ n : Nat, Lib.repeatL [48] n = List.replicate n 48
  | 0 => rfl
  | n + 1 => by show [48] ++ Lib.repeatL [48] n = _; rw [rep0 n]; rfl
end Go.Proofs.YtblloaajiaoblaaDoor
namespace Go.Proofs.YtblloaajiaoblaaDoor
open Go Go.RowKit
abbrev ipowS : PSpec := fun l => match l with | [.int .i64 x] => some ([x = 16], .bool true) | _ => none
theorem ipow_s : SOK Tryd.prog 92 ipowS := by
  refine sok_of (C := mkC 0 [] noG) (mkC_ok pok_nil noG_ok) rfl mixed ⟨Tryd.func92, by kernel_rfl, by kernel_rfl, by kernel_rfl⟩ fun l obs v h ho => ?_
  (unfold ipowS at h; split at h; rotate_left; (focus (cases h)); rename_i x; simp only [Option.some.injEq, Prod.mk.injEq] at h; obtain ⟨rfl, rfl⟩ := h; simp only [List.mem_cons, List.not_mem_nil, or_false, forall_eq_or_imp, forall_eq, false_implies, implies_true] at ho)
  subst ho
  refine ⟨Nat.le_of_ble_eq_true rfl, ?_⟩
  (repeat' (first | (refine xI (fun hfk => ?_) (fun hfk => ?_) <;> ((try (first | replace hfk := oT hfk | replace hfk := oF hfk | simp only [oD, ne_eq, reduceCtorEq] at hfk)); (try exact oX))) | (refine And.intro ?ob ?_; (case ob => (exact oZ))) | exact True.intro | (show _ = _; first | exact oY | exact rfl) | exact oW | (apply And.intro)))
theorem tz_s : SOK Tryd.prog 93 tzS := by
  refine sok_of (C := mkC 0 [(98, tzS)] noG) (mkC_ok (pok_cons tz64_s pok_nil) noG_ok) rfl mixed ⟨Tryd.func93, by kernel_rfl, by kernel_rfl, by kernel_rfl⟩ fun l obs v h ho => ?_
  (unfold tzS at h; split at h; rotate_left; (focus (cases h)); rename_i x; simp only [Option.some.injEq, Prod.mk.injEq] at h; obtain ⟨rfl, rfl⟩ := h; simp only [List.mem_cons, List.not_mem_nil, or_false, forall_eq_or_imp, forall_eq, false_implies, implies_true] at ho)
  subst ho
  refine ⟨Nat.le_of_ble_eq_true rfl, ?_⟩
  (repeat' (first | (refine xI (fun hfk => ?_) (fun hfk => ?_) <;> ((try (first | replace hfk := oT hfk | replace hfk := oF hfk | simp only [oD, ne_eq, reduceCtorEq] at hfk)); (try exact oX))) | (refine And.intro ?ob ?_; (case ob => (exact oZ))) | exact True.intro | (show _ = _; first | exact oY | exact rfl) | exact oW | (apply And.intro)))
theorem dig_at {d : Nat} (h : d < 16) : (([48, 49, 50, 51, 52, 53, 54, 55, 56, 57, 97, 98, 99, 100, 101, 102, 103, 104, 105, 106, 107, 108, 109, 110, 111, 112, 113, 114, 115, 116, 117, 118, 119, 120, 121, 122] : List UInt8).getD d 0) = hxc d := by
  have : d = 0 ∨ d = 1 ∨ d = 2 ∨ d = 3 ∨ d = 4 ∨ d = 5 ∨ d = 6 ∨ d = 7 ∨ d = 8 ∨ d = 9 ∨ d = 10 ∨ d = 11 ∨ d = 12 ∨ d = 13 ∨ d = 14 ∨ d = 15 := by omega
  rcases this with rfl | rfl | rfl | rfl | rfl | rfl | rfl | rfl | rfl | rfl | rfl | rfl | rfl | rfl | rfl | rfl <;> rfl
structure FxI (x : Nat) (k u : Nat) (A : List Int) : Prop where
  k_ : k ≤ 15
  len : A.length = 65
  u_ : u < 16 ^ (16 - k)
  eq : ∃ t : List UInt8, A.drop (65 - k) = (t.map fun c : UInt8 => (c.toNat : Int)) ∧ t.length = k ∧ hexF (16 - k) u ++ t = hexF 16 x
theorem fx_0 {x : Nat} (hu : U64 (x : Int)) : FxI x 0 x (List.replicate 65 0) := by
  have p16 : 16 ^ (16 - 0) = 18446744073709551616 := rfl
  have := hu.hi
  exact ⟨by omega, rfl, by omega, [], rfl, rfl, List.append_nil _⟩
theorem fx_lt {x k u : Nat} {A : List Int} (h : FxI x k u A) : u < 18446744073709551616 := by
  have h1 := h.u_
  have h2 : 16 ^ (16 - k) ≤ 16 ^ 16 := Nat.pow_le_pow_right (by decide) (by omega)
  have : (16 : Nat) ^ 16 = 18446744073709551616 := rfl
  omega
theorem hexF_big {n u : Nat} (h : ¬ u < 16) : hexF (n + 1) u = hexF n (u / 16) ++ [hxc (u % 16)] := if_neg h
theorem hexF_small {n u : Nat} (h : u < 16) : hexF (n + 1) u = [hxc u] := if_pos h
theorem set_drop0 {A : List Int} {j : Nat} (h : j < A.length) (v : Int) : (A.set j v).drop j = v :: A.drop (j + 1) := by
  rw [List.set_eq_take_append_cons_drop, if_pos h, List.drop_append, List.length_take, List.drop_of_length_le (by rw [List.length_take]; omega), show j - min j A.length = 0 by omega]
  rfl
theorem fx_next {x k u : Nat} {A : List Int} (h : FxI x k u A) (hu : ¬ u < 16) : FxI x (k + 1) (u / 16) (A.set (64 - k) ((hxc (u % 16)).toNat : Int)) := by
  obtain ⟨k1, l1, u1, t, t1, t2, t3⟩ := h
  obtain ⟨n, hn⟩ : ∃ n, 16 - k = n + 1 := ⟨15 - k, by omega⟩
  have n0 : n ≠ 0 := fun z => by rw [hn, z] at u1; omega
  rw [hn] at u1 t3
  rw [hexF_big hu] at t3
  refine ⟨by omega, by rw [List.length_set]; exact l1, by rw [show 16 - (k + 1) = n by omega]; rw [Nat.pow_succ] at u1; omega, hxc (u % 16) :: t, ?_, by rw [List.length_cons, t2], ?_⟩
  · rw [show 65 - (k + 1) = 64 - k by omega, set_drop0 (by omega), show 64 - k + 1 = 65 - k by omega, t1]; rfl
  · rw [show 16 - (k + 1) = n by omega, ← t3, List.append_assoc]; rfl
theorem fx_end {x k u : Nat} {A : List Int} (h : FxI x k u A) (hu : u < 16) : ((A.set (64 - k) ((hxc u).toNat : Int)).drop (64 - k)).map (fun n => UInt8.ofNat n.toNat) = hexF 16 x := by
  obtain ⟨k1, l1, u1, t, t1, t2, t3⟩ := h
  obtain ⟨n, hn⟩ : ∃ n, 16 - k = n + 1 := ⟨15 - k, by omega⟩
  rw [hn, hexF_small hu] at t3
  rw [set_drop0 (by omega), show 64 - k + 1 = 65 - k by omega, t1, ← t3, List.map_cons, List.map_map]
  have e : ∀ c : UInt8, UInt8.ofNat ((c.toNat : Int)).toNat = c := fun c => by rw [Int.toNat_natCast]; exact UInt8.ofNat_toNat
  have e2 : ((fun n : Int => UInt8.ofNat n.toNat) ∘ fun c : UInt8 => (c.toNat : Int)) = id := by funext c; exact e c
  rw [e2, List.map_id, e]; rfl
theorem and15 {u : Nat} (h : u < 18446744073709551616) : IntKind.u64.wrap (((BitVec.ofInt 64 (u : Int) &&& BitVec.ofInt 64 15).toNat : Nat) : Int) = ((u % 16 : Nat) : Int) := by
  have e1 : BitVec.ofInt 64 (u : Int) = BitVec.ofNat 64 u := by
    apply BitVec.eq_of_toNat_eq
    rw [BitVec.toNat_ofInt, BitVec.toNat_ofNat]
    omega
  have e2 : (BitVec.ofInt 64 (u : Int) &&& BitVec.ofInt 64 15).toNat = u % 16 := by
    rw [e1, BitVec.toNat_and, BitVec.toNat_ofNat, Nat.mod_eq_of_lt h, show (BitVec.ofInt 64 15).toNat = 2 ^ 4 - 1 from rfl, Nat.and_two_pow_sub_one_eq_mod]
  rw [e2]
  exact wrap_rng ⟨by show (0 : Int) ≤ _; omega, by show _ ≤ (18446744073709551615 : Int); omega⟩
theorem shr4 {u : Nat} : ((u : Int)).fdiv (2 ^ min (Int.toNat 4) IntKind.u64.bits) = ((u / 16 : Nat) : Int) := by
  rw [show (2 : Int) ^ min (Int.toNat 4) IntKind.u64.bits = 16 from rfl, Int.fdiv_eq_ediv_of_nonneg _ (by decide)]; rfl
abbrev fbitS : PSpec := fun l => match l with | [.nils, .int .u64 u, .int .i64 b, .fls, .fls] => some ([b = 16, U64 u], .tup [.nils, .str (hexF 16 u.toNat)]) | _ => none
theorem fbit_s : SOK Tryd.prog 76 fbitS := by
  refine sok_of (C := mkC 0 [(92, ipowS), (93, tzS)] noG) (mkC_ok (pok_cons ipow_s (pok_cons tz_s pok_nil)) noG_ok) rfl mixed ⟨Tryd.func76, by kernel_rfl, by kernel_rfl, by kernel_rfl⟩ fun l obs v h ho => ?_
  (unfold fbitS at h; split at h; rotate_left; (focus (cases h)); rename_i u b; simp only [Option.some.injEq, Prod.mk.injEq] at h; obtain ⟨rfl, rfl⟩ := h; simp only [List.mem_cons, List.not_mem_nil, or_false, forall_eq_or_imp, forall_eq, false_implies, implies_true] at ho)
  obtain ⟨rfl, hu⟩ := ho
  obtain ⟨x, rfl⟩ := Int.eq_ofNat_of_zero_le hu.lo
  rw [Int.toNat_natCast]
  refine ⟨Nat.le_of_ble_eq_true rfl, ?_⟩
  (repeat' (first | (refine xI (fun hfk => ?_) (fun hfk => ?_) <;> ((try (first | replace hfk := oT hfk | replace hfk := oF hfk | simp only [oD, ne_eq, reduceCtorEq] at hfk)); (try exact oX))) | (refine And.intro ?ob ?_; (case ob => (exact oZ))) | exact True.intro | (show _ = _; first | exact oY | exact rfl) | exact oW | (apply And.intro)))
  have f0 : FxI x 0 x (List.replicate 65 0) := fx_0 hu
  refine ⟨Nat × Nat × List Int, fun g => [(0, .nils), (1, .int .u64 (g.2.1 : Int)), (3, .fls), (4, .fls), (10, .nils), (11, .str []), (12, .ptr 0 0), (13, .int .i64 (65 - (g.1 : Int))), (14, .int .u64 4), (15, .int .u64 16), (16, .int .u64 15)],
    fun g => ⟨1, [(0, some (.ints 131 .u8 g.2.2))]⟩,
    fun g => FxI x g.1 g.2.1 g.2.2, fun g => g.2.1, ⟨(0, x, List.replicate 65 0), [some 0], f0, ?_⟩, fun g hg => ?_⟩
  · (repeat' (first | (refine And.intro ?_ ?_) | exact True.intro | (show _ = _; with_reducible rfl) | exact Chk.mk (by kernel_rfl)))
    all_goals rfl
  obtain ⟨k, u, A⟩ := g
  have hg : FxI x k u A := hg
  have k15 := hg.k_
  have lA := hg.len
  dsimp only
  have ri : rngI .i64 (65 - (k : Int) - 1) := rng64 (by omega) (by omega)
  have et : (65 - (k : Int) - 1).toNat = 64 - k := by omega
  by_cases hlt : u < 16
  · have fe := fx_end hg hlt
    have dg : (ByteArray.mk #[48, 49, 50, 51, 52, 53, 54, 55, 56, 57, 97, 98, 99, 100, 101, 102, 103, 104, 105, 106, 107, 108, 109, 110, 111, 112, 113, 114, 115, 116, 117, 118, 119, 120, 121, 122]).data.toList.getD u 0 = hxc u := dig_at hlt
    have es : A.set (0 + (65 - (k : Int) - 1).toNat * 1) (((ByteArray.mk #[48, 49, 50, 51, 52, 53, 54, 55, 56, 57, 97, 98, 99, 100, 101, 102, 103, 104, 105, 106, 107, 108, 109, 110, 111, 112, 113, 114, 115, 116, 117, 118, 119, 120, 121, 122]).data.toList.getD (u : Int).toNat 0).toNat : Int) = A.set (64 - k) ((hxc u).toNat : Int) := by
      rw [et, Int.toNat_natCast, dg, Nat.zero_add, Nat.mul_one]
    have fe' : List.map (fun n => UInt8.ofNat n.toNat) (List.take (65 - (65 - (k : Int) - 1).toNat) (List.drop (65 - (k : Int) - 1).toNat (A.set (0 + (65 - (k : Int) - 1).toNat * 1) (((ByteArray.mk #[48, 49, 50, 51, 52, 53, 54, 55, 56, 57, 97, 98, 99, 100, 101, 102, 103, 104, 105, 106, 107, 108, 109, 110, 111, 112, 113, 114, 115, 116, 117, 118, 119, 120, 121, 122]).data.toList.getD (u : Int).toNat 0).toNat : Int)))) = hexF 16 x := by
      rw [es, et, List.take_of_length_le (by rw [List.length_drop, List.length_set]; omega)]
      exact fe
    have lD : (ByteArray.mk #[48, 49, 50, 51, 52, 53, 54, 55, 56, 57, 97, 98, 99, 100, 101, 102, 103, 104, 105, 106, 107, 108, 109, 110, 111, 112, 113, 114, 115, 116, 117, 118, 119, 120, 121, 122]).data.toList.length = 36 := rfl
    clear es dg
    (repeat' (first | (refine xI (fun hfk => ?_) (fun hfk => ?_) <;> ((try (first | replace hfk := oT hfk | replace hfk := oF hfk | simp only [oD, ne_eq, reduceCtorEq] at hfk)); (try exact oX))) | (refine And.intro ?ob ?_; (case ob => (exact oZ))) | exact True.intro | (show _ = _; first | exact oY | (exact fe'; done) | exact rfl) | exact oW | (apply And.intro)))
  · have fn := fx_next hg hlt
    have a15 := and15 (fx_lt hg)
    have a15' : (IntKind.u64.wrap (((BitVec.ofInt IntKind.u64.bits (u : Int) &&& BitVec.ofInt IntKind.u64.bits 15).toNat : Nat) : Int)) = ((u % 16 : Nat) : Int) := a15
    have s4 := shr4 (u := u)
    have dg : (ByteArray.mk #[48, 49, 50, 51, 52, 53, 54, 55, 56, 57, 97, 98, 99, 100, 101, 102, 103, 104, 105, 106, 107, 108, 109, 110, 111, 112, 113, 114, 115, 116, 117, 118, 119, 120, 121, 122]).data.toList.getD (u % 16) 0 = hxc (u % 16) := dig_at (Nat.mod_lt u (show 16 > 0 by decide))
    have lD : (ByteArray.mk #[48, 49, 50, 51, 52, 53, 54, 55, 56, 57, 97, 98, 99, 100, 101, 102, 103, 104, 105, 106, 107, 108, 109, 110, 111, 112, 113, 114, 115, 116, 117, 118, 119, 120, 121, 122]).data.toList.length = 36 := rfl
    have b0 : 0 ≤ (IntKind.u64.wrap (((BitVec.ofInt IntKind.u64.bits (u : Int) &&& BitVec.ofInt IntKind.u64.bits 15).toNat : Nat) : Int)) := by rw [a15']; omega
    have b1 : (IntKind.u64.wrap (((BitVec.ofInt IntKind.u64.bits (u : Int) &&& BitVec.ofInt IntKind.u64.bits 15).toNat : Nat) : Int)) < ((ByteArray.mk #[48, 49, 50, 51, 52, 53, 54, 55, 56, 57, 97, 98, 99, 100, 101, 102, 103, 104, 105, 106, 107, 108, 109, 110, 111, 112, 113, 114, 115, 116, 117, 118, 119, 120, 121, 122]).data.toList.length : Int) := by rw [a15', lD]; omega
    have es : A.set (0 + (65 - (k : Int) - 1).toNat * 1) (((ByteArray.mk #[48, 49, 50, 51, 52, 53, 54, 55, 56, 57, 97, 98, 99, 100, 101, 102, 103, 104, 105, 106, 107, 108, 109, 110, 111, 112, 113, 114, 115, 116, 117, 118, 119, 120, 121, 122]).data.toList.getD (IntKind.u64.wrap (((BitVec.ofInt IntKind.u64.bits (u : Int) &&& BitVec.ofInt IntKind.u64.bits 15).toNat : Nat) : Int)).toNat 0).toNat : Int) = A.set (64 - k) ((hxc (u % 16)).toNat : Int) := by
      rw [et, a15', Int.toNat_natCast, dg, Nat.zero_add, Nat.mul_one]
    clear dg a15 a15'
    (repeat' (first | (refine xI (fun hfk => ?_) (fun hfk => ?_) <;> ((try (first | replace hfk := oT hfk | replace hfk := oF hfk | simp only [oD, ne_eq, reduceCtorEq] at hfk)); (try exact oX))) | (refine And.intro ?ob ?_; (case ob => (exact oZ))) | exact True.intro | (show _ = _; first | exact oY | (first | exact b0 | exact b1; done) | exact rfl) | exact oW | (apply And.intro)))
    refine ⟨(k + 1, u / 16, A.set (64 - k) ((hxc (u % 16)).toNat : Int)), [some 0], fn, ?mu, ?_⟩
    case mu => (show u / 16 < u; omega)
    (repeat' (first | (refine And.intro ?_ ?_) | exact True.intro | (show _ = _; with_reducible rfl) | exact Chk.mk (by kernel_rfl)))
    all_goals first | rfl | exact s4 | exact es | (show (_ : Int) = _; omega)
abbrev fuS : PSpec := fun l => match l with | [.int .u64 u, .int .i64 b] => some ([b = 16, U64 u], .str (hexF 16 u.toNat)) | _ => none
theorem fuI_s : SOK Tryd.prog 47 fuS := by
  refine sok_of (C := mkC 0 [(76, fbitS)] noG) (mkC_ok (pok_cons fbit_s pok_nil) noG_ok) rfl mixed ⟨Tryd.func47, by kernel_rfl, by kernel_rfl, by kernel_rfl⟩ fun l obs v h ho => ?_
  (unfold fuS at h; split at h; rotate_left; (focus (cases h)); rename_i u b; simp only [Option.some.injEq, Prod.mk.injEq] at h; obtain ⟨rfl, rfl⟩ := h; simp only [List.mem_cons, List.not_mem_nil, or_false, forall_eq_or_imp, forall_eq, false_implies, implies_true] at ho)
  obtain ⟨rfl, hu⟩ := ho
  refine ⟨Nat.le_of_ble_eq_true rfl, ?_⟩
  (repeat' (first | (refine xI (fun hfk => ?_) (fun hfk => ?_) <;> ((try (first | replace hfk := oT hfk | replace hfk := oF hfk | simp only [oD, ne_eq, reduceCtorEq] at hfk)); (try exact oX))) | (refine And.intro ?ob ?_; (case ob => (exact oZ))) | exact True.intro | (show _ = _; first | exact oY | (first | exact hu | rfl; done) | exact rfl) | exact oW | (apply And.intro)))
theorem fu_s : SOK Tryd.prog 29 fuS := by
  refine sok_of (C := mkC 0 [(47, fuS)] noG) (mkC_ok (pok_cons fuI_s pok_nil) noG_ok) rfl mixed ⟨Tryd.func29, by kernel_rfl, by kernel_rfl, by kernel_rfl⟩ fun l obs v h ho => ?_
  (unfold fuS at h; split at h; rotate_left; (focus (cases h)); rename_i u b; simp only [Option.some.injEq, Prod.mk.injEq] at h; obtain ⟨rfl, rfl⟩ := h; simp only [List.mem_cons, List.not_mem_nil, or_false, forall_eq_or_imp, forall_eq, false_implies, implies_true] at ho)
  obtain ⟨rfl, hu⟩ := ho
  refine ⟨Nat.le_of_ble_eq_true rfl, ?_⟩
  (repeat' (first | (refine xI (fun hfk => ?_) (fun hfk => ?_) <;> ((try (first | replace hfk := oT hfk | replace hfk := oF hfk | simp only [oD, ne_eq, reduceCtorEq] at hfk)); (try exact oX))) | (refine And.intro ?ob ?_; (case ob => (exact oZ))) | exact True.intro | (show _ = _; first | exact oY | (first | exact hu | rfl; done) | exact rfl) | exact oW | (apply And.intro)))
theorem hex_bd {u : Int} (h : U64 u) : u.toNat < 16 ^ 16 := by
  have := h.lo
  have := h.hi
  have : 16 ^ 16 = 18446744073709551616 := rfl
  omega
abbrev hexS : PSpec := fun l => match l with | [.int .u64 u] => some ([U64 u], .str (hxN 16 u.toNat)) | _ => none
theorem hex_s : SOK Tryd.prog 16 hexS := by
  refine sok_of (C := mkC 0 [(29, fuS), (30, repeatS)] noG) (mkC_ok (pok_cons fu_s (pok_cons repeat_s pok_nil)) noG_ok) rfl mixed ⟨Tryd.func16, by kernel_rfl, by kernel_rfl, by kernel_rfl⟩ fun l obs v h ho => ?_
  (unfold hexS at h; split at h; rotate_left; (focus (cases h)); rename_i u; simp only [Option.some.injEq, Prod.mk.injEq] at h; obtain ⟨rfl, rfl⟩ := h; simp only [List.mem_cons, List.not_mem_nil, or_false, forall_eq_or_imp, forall_eq, false_implies, implies_true] at ho)
  refine ⟨Nat.le_of_ble_eq_true rfl, ?_⟩
  have hb : u.toNat < 16 ^ 16 := hex_bd ho
  have l1 := hexF_le 16 u.toNat
  have er : Lib.repeatL (ByteArray.mk #[48]).data.toList ((16 : Int) - ((hexF 16 u.toNat).length : Int)).toNat = List.replicate (16 - (hexF 16 u.toNat).length) 48 := by
    have : ((16 : Int) - ((hexF 16 u.toNat).length : Int)).toNat = 16 - (hexF 16 u.toNat).length := by omega
    rw [this]
    exact rep0 _
  have e1 : Lib.repeatL (ByteArray.mk #[48]).data.toList ((16 : Int) - ((hexF 16 u.toNat).length : Int)).toNat ++ hexF 16 u.toNat = hxN 16 u.toNat := by
    rw [er]
    exact hex_pad hb
  have r1 : rngI .i64 ((16 : Int) - ((hexF 16 u.toNat).length : Int)) := rng64 (by omega) (by omega)
  have r2 : 0 ≤ (16 : Int) - ((hexF 16 u.toNat).length : Int) := by omega
  have r3 : (((Lib.repeatL (ByteArray.mk #[48]).data.toList ((16 : Int) - ((hexF 16 u.toNat).length : Int)).toNat).length + (hexF 16 u.toNat).length : Nat) : Int) ≤ IntKind.i64.max := by
    rw [er, List.length_replicate]
    show _ ≤ (9223372036854775807 : Int)
    omega
  clear er hb
  (repeat' (first | (refine xI (fun hfk => ?_) (fun hfk => ?_) <;> ((try (first | replace hfk := oT hfk | replace hfk := oF hfk | simp only [oD, ne_eq, reduceCtorEq] at hfk)); (try exact oX))) | (refine And.intro ?ob ?_; (case ob => (exact oZ))) | exact True.intro | (show _ = _; first | exact oY | (first | exact ho | exact r1 | exact r2 | exact r3 | exact e1 | rfl; done) | exact rfl) | exact oW | (apply And.intro)))
end Go.Proofs.YtblloaajiaoblaaDoor
namespace Go.Proofs.YtblloaajiaoblaaDoor
open Go Go.RowKit
theorem bel2 {a b c : World} (h : Below a.heap.size a b) (k : Below b.heap.size b c) : Below a.heap.size a c := ((ext_below h).trans (ext_below k) fun _ _ h => h).below
theorem spu_walk (t : ByteArray) (hmax : t.size ≤ 1000000) (w : World) {O : Nat → Prop} (hg : GL w O) :
    Calls Tryd.prog 28 #[.string t, .int .i64 16, .int .i64 64] w fun e w' => ∃ (x : Int) (err : Value), e = .returned (.tuple #[.int .u64 x, err]) ∧ Below w.heap.size w w' ∧
      ((∃ n, pu16 0 t.data.toList = some n ∧ n < 18446744073709551616 ∧ x = (n : Int) ∧ err = .nilIface) ∨ ((t.data.toList = [] ∨ pu16 0 t.data.toList = none) ∧ ∃ tp p, err = .iface tp p)) := by
  obtain ⟨te0, pe0, c0⟩ := gv_cell hg (g := 0) (by decide)
  obtain ⟨te1, pe1, c1⟩ := gv_cell hg (g := 1) (by decide)
  have g0 : 0 < w.heap.size := (hg.vr _ (by decide : 0 ∈ GVtab)).1
  have g1 : 1 < w.heap.size := (hg.vr _ (by decide : 1 ∈ GVtab)).1
  have hP := pu16_all t hmax
  have HP : Hid (∀ w : World, Calls Tryd.prog 45 #[.string t, .int .i64 16, .int .i64 64] w fun e w' => ∃ (x : Int) (err : Value), e = .returned (.tuple #[.int .u64 x, err]) ∧ PuR t.data.toList x err ∧ Below w.heap.size w w') := hP
  clear hP
  go_enter Tryd.func28, Tryd.ntmps28
  go_wp2_with (go_at_call 45; refine (HP.out _).mono ?_; rintro e w1 ⟨x, err, rfl, hp, hb⟩; rcases hp with ⟨n, h1, h2, h3, rfl, rfl⟩ | ⟨h1, ⟨y, rfl⟩, rfl | rfl⟩)
  · go_ret2
    exact ⟨_, _, rfl, hb, .inl ⟨n, h2, h3, rfl, rfl⟩⟩
  · refine (sh_strconv_toError_syntax _ t 16 64 (.iface te0 pe0) w1 (by omega) ((hb.cell g0).trans c0) (.inr ⟨_, _, rfl⟩)).mono ?_
    rintro e w2 ⟨N, rfl, k1, k2, k3⟩
    go_wp2
    go_ret2
    exact ⟨_, _, rfl, bel2 hb k3, .inr ⟨h1, _, _, rfl⟩⟩
  · refine (sh_strconv_toError_range _ t 16 64 (.iface te1 pe1) w1 (by omega) ((hb.cell g1).trans c1) (.inr ⟨_, _, rfl⟩)).mono ?_
    rintro e w2 ⟨N, rfl, k1, k2, k3⟩
    go_wp2
    go_ret2
    exact ⟨_, _, rfl, bel2 hb k3, .inr ⟨h1, _, _, rfl⟩⟩
theorem hex_walk {w : World} {O : Nat → Prop} (hf : FBd O w) {n : Nat} (h : n < 18446744073709551616) :
    Calls Tryd.prog 16 #[.int .u64 (n : Int)] w fun e w' => e = .returned (.string ⟨(hxN 16 n).toArray⟩) ∧ Below w.heap.size w w' := by
  refine (hex_s.2 [.int .u64 (n : Int)] _ _ rfl (by
    intro p hp
    simp only [List.mem_cons, List.not_mem_nil, or_false] at hp
    subst hp
    exact ⟨by omega, by omega⟩) w O [.int .u64 (n : Int)] hf (crel_cons (.int _ _) crel_nil)).mono fun e w' ⟨cv, he, hx, hr⟩ => ?_
  rw [Int.toNat_natCast] at hr
  cases hr
  exact ⟨he, hx.below⟩
theorem fbd_below {O : Nat → Prop} {w w' : World} (hf : FBd O w) (hb : Below w.heap.size w w') : FBd O w' := ⟨fun b h => Nat.lt_of_lt_of_le (hf.1 b h) hb.size, hf.2.ext (ext_below hb) fun _ k => k.elim⟩
attribute [local irreducible] hxN rdX rdB pu16
theorem hread_walk (t : ByteArray) (hmax : t.size ≤ 1000000) (w : World) {O : Nat → Prop} (hf : FBd O w) :
    Calls Tryd.prog 14 #[.string t] w fun e w' => e = .returned (.tuple #[.int .u64 (rdX t.data.toList), .bool (rdB t.data.toList)]) ∧ Below w.heap.size w w' := by
  have HP : Hid (∀ w : World, FBd O w → _) := fun w hf => spu_walk t hmax w hf.2
  go_enter Tryd.func14, Tryd.ntmps14
  go_wp2_with (go_at_call 28; refine (HP.out _ hf).mono ?_; rintro e w1 ⟨x, err, rfl, hb, hp⟩; rcases hp with ⟨n, h1, h2, rfl, rfl⟩ | ⟨h1, tp, p, rfl⟩)
  · have hf1 := fbd_below hf hb
    have HX : Hid (Calls Tryd.prog 16 #[.int .u64 (n : Int)] w1 fun e w' => e = .returned (.string ⟨(hxN 16 n).toArray⟩) ∧ Below w1.heap.size w1 w') := hex_walk hf1 h2
    refine HX.out.mono ?_
    rintro e w2 ⟨rfl, hb2⟩
    have hbb := bel2 hb hb2
    by_cases e : hxN 16 n = t.data.toList
    · obtain ⟨q1, q2⟩ := rd_some h1 e
      have et : (⟨(hxN 16 n).toArray⟩ : ByteArray) = t := by rw [e]
      clear h1 HP HX
      rw [et]
      go_wp2
      go_ret2
      exact ⟨by rw [q1, q2]; rfl, hbb⟩
    · have et : (⟨(hxN 16 n).toArray⟩ : ByteArray) ≠ t := fun h => e (by rw [← h])
      obtain ⟨q1, q2⟩ := rd_none (s := t.data.toList) fun x hx => by rw [h1] at hx; cases hx; exact e
      clear h1 HP HX e
      generalize (⟨(hxN 16 n).toArray⟩ : ByteArray) = b at et ⊢
      have et2 : (b.toList == t.toList) = false := by
        rw [ByteArray.toList_eq, ByteArray.toList_eq]
        refine beq_false_of_ne fun h => et ?_
        cases b; cases t
        exact congrArg ByteArray.mk (Array.toList_inj.1 h)
      go_wp2
      go_ret2
      exact ⟨by rw [q1, q2]; rfl, hbb⟩
  · obtain ⟨q1, q2⟩ := rd_none (s := t.data.toList) fun x hx => by
      rcases h1 with h | h
      · rw [h]
        intro k
        have := congrArg List.length k
        rw [hxN_len] at this
        cases this
      · rw [h] at hx; cases hx
    rw [q1, q2]
    go_ret2
    exact ⟨rfl, hb⟩
theorem hread_s : SOK Tryd.prog 14 rdS := by
  refine ⟨⟨_, Tryd.func14, by kernel_rfl, by kernel_rfl⟩, fun l obs v h ho w O cl hf hc => ?_⟩
  (unfold rdS at h; split at h; rotate_left; (focus (cases h)); rename_i s; simp only [Option.some.injEq, Prod.mk.injEq] at h; obtain ⟨rfl, rfl⟩ := h; simp only [List.mem_cons, List.not_mem_nil, or_false, forall_eq_or_imp, forall_eq, false_implies, implies_true] at ho)
  obtain ⟨hl, hr⟩ := hc
  match cl, hl with
  | [c], _ =>
    have hc := hr 0 _ _ rfl rfl
    cases hc
    refine (hread_walk ⟨s.toArray⟩ (by show s.toArray.size ≤ _; simpa using ho) w hf).mono fun en w' ⟨he, hb⟩ => ?_
    refine ⟨_, he, ext_below hb, ?_⟩
    refine .tup [_, _] [_, _] rfl fun j x v hx hv => ?_
    match j with
    | 0 => cases hx; cases hv; exact .int _ _
    | 1 => cases hx; cases hv; exact .bool _
    | j + 2 => cases hx
end Go.Proofs.YtblloaajiaoblaaDoor
namespace Go.Proofs.YtblloaajiaoblaaDoor
open Go Go.RowKit
theorem dgV_nil : dgV [] = 14695981039346656037 := by decide
theorem U64_dg (b : List Int) : U64 (dgV b) := U64_bv _
theorem hex_alive : decide (hxN 16 (dgV []).toNat = (ByteArray.mk #[99, 98, 102, 50, 57, 99, 101, 52, 56, 52, 50, 50, 50, 51, 50, 53]).data.toList) = true := by
  rw [dgV_nil]
  exact decide_eq_true hex_begin
theorem alive12_s : SOK Tryd.prog 8 (sN (.bool true)) := by
  refine sok_of (C := mkC 0 [(7, fun l => bytesHS (l.map nzA)), (16, hexS)] noG) (mkC_ok (pok_cons (sok_nz bytesH_s) (pok_cons hex_s pok_nil)) noG_ok) rfl mixed ⟨Tryd.func8, by kernel_rfl, by kernel_rfl, by kernel_rfl⟩ fun l obs v h ho => ?_
  obtain ⟨rfl, rfl, rfl⟩ := sN_inv h
  refine ⟨Nat.le_of_ble_eq_true rfl, ?_⟩
  have e := hex_alive
  have u := U64_dg []
  have b0 : Bytes [] := fun x hx => by cases hx
  (repeat' (first | (refine xI (fun hfk => ?_) (fun hfk => ?_) <;> ((try (first | replace hfk := oT hfk | replace hfk := oF hfk | simp only [oD, ne_eq, reduceCtorEq] at hfk)); (try exact oX))) | (refine And.intro ?ob ?_; (case ob => (exact oZ))) | exact True.intro | (show _ = _; first | exact oY | (first | exact b0 | exact u | exact e | exact e.symm; done) | exact rfl) | exact oW | (apply And.intro)))
attribute [local irreducible] dgV hxN
end Go.Proofs.YtblloaajiaoblaaDoor
namespace Go.Proofs.YtblloaajiaoblaaDoor
open Go Go.RowKit
theorem u64w {x : Int} (h : (Lit.int .u64 x).wf = true) : U64 x := by
  simp [Lit.wf, IntKind.min, IntKind.max, IntKind.signed, IntKind.bits] at h
  exact ⟨by omega, by omega⟩
attribute [local irreducible] dgV hxN fourL rdX rdB
theorem walk_HashTells' (w h c : Int) (p : List Int) (x : Int) (s : List UInt8) (hO : ∀ y ∈ p, (Lit.int .u8 y).wf = true) (wx : (Lit.int .u64 x).wf = true) (W : World) (hgl : GL W NoO) {cl : List Value} (hcl : CRel noN W NoO [.agg [.int .i64 w, .int .i64 h, .int .i64 c, .roi .u8 p], .int .u64 x, .str s] cl) :
    Calls Tryd.prog 5 cl.toArray W fun e W' => e = .returned (.bool true) ∧ Below W.heap.size W W' := by
  have hB : Bytes p := bytes_of hO
  have ux := u64w wx
  have e16 : 16 ^ 16 = 18446744073709551616 := by decide
  have u0 := ux.lo
  have u1 := ux.hi
  obtain ⟨k1, k2⟩ := rd_back (x := x.toNat) (by omega)
  rw [Int.toNat_of_nonneg ux.lo] at k1
  have lx : (hxN 16 x.toNat).length = 16 := hxN_len _ _
  refine law_of (C := mkC 0 [(14, rdS), (15, rdS), (16, hexS), (19, rhexS), (7, bytesHS), (12, bytesHS), (17, imageHS), (18, imageHS), (8, sN (.bool true))] noG)
    (mkC_ok (pok_cons hread_s (pok_cons rread12_s (pok_cons hex_s (pok_cons rhex_s (pok_cons bytesH_s (pok_cons rbytes12_s (pok_cons imageH_s (pok_cons rimage_s (pok_cons alive12_s pok_nil))))))))) noG_ok) rfl ⟨Tryd.func5, by kernel_rfl, by kernel_rfl, by kernel_rfl⟩ (by exact Nat.le_of_ble_eq_true rfl) ?_ hcl (hg := hgl)
  by_cases hp : 20000 < p.length
  · (repeat' (first | (refine xI (fun hfk => ?_) (fun hfk => ?_) <;> ((try (first | replace hfk := oT hfk | replace hfk := oF hfk | simp only [oD, ne_eq, reduceCtorEq] at hfk)); (try exact oX))) | (refine And.intro ?ob ?_; (case ob => (exact oZ))) | exact True.intro | (show _ = _; first | exact oY | exact rfl) | exact oW | (apply And.intro)))
  by_cases hs : 100 < s.length
  · (repeat' (first | (refine xI (fun hfk => ?_) (fun hfk => ?_) <;> ((try (first | replace hfk := oT hfk | replace hfk := oF hfk | simp only [oD, ne_eq, reduceCtorEq] at hfk)); (try exact oX))) | (refine And.intro ?ob ?_; (case ob => (exact oZ))) | exact True.intro | (show _ = _; first | exact oY | exact rfl) | exact oW | (apply And.intro)))
  (repeat' (first | (refine xI (fun hfk => ?_) (fun hfk => ?_) <;> ((try (first | replace hfk := oT hfk | replace hfk := oF hfk | simp only [oD, ne_eq, reduceCtorEq] at hfk)); (try exact oX))) | (refine And.intro ?ob ?_; (case ob => (exact oZ))) | exact True.intro | (show _ = _; first | exact oY | (first | exact ux | exact hB | rfl; done) | exact rfl) | exact oW | (apply And.intro)))
end Go.Proofs.YtblloaajiaoblaaDoor

