/- Texts laid together. No condition. -/
import Derived.Test.YtblloaajiaoblaaDoorS1
import Derived.Shelf.Strings.Builder1
import Derived.Shelf.Strings.Builder2
import Derived.Shelf.Strings.OnBuilder
import Derived.Shelf.Strings.BuilderF
import Derived.Shelf.Strings.BuilderK
import Derived.Shelf.Strconv.Itoa0
import Derived.Shelf.Strconv.Itoa1
import Derived.Shelf.LaysM
import Derived.Shelf.Strconv.Itoa2
import Derived.Shelf.Strconv.Itoa3
import Derived.Shelf.Strings.Prefix
import Derived.Shelf.Bits.Mul64
import Derived.Shelf.Strings.Repeat
import Derived.Test.YtblloaajiaoblaaDoorProg
import Derived.Test.YtblloaajiaoblaaDoorFb
set_option maxRecDepth 100000
set_option linter.unusedVariables false
set_option linter.unusedSimpArgs false
namespace Go.Proofs.YtblloaajiaoblaaDoor
open Go Go.Shelf
open Go.RowKit in
open Go.RowKit in
open Go.RowKit Go.Sort Go.Lib in
def sh_lays105_ren : Go.Shelf.Ren := ⟨fun | 105 => 30 | 212 => 48 | 99 => 49 | 165 => 50 | 166 => 41 | 170 => 51 | 169 => 43 | 263 => 77 | 264 => 78 | 206 => 79 | 240 => 65 | 241 => 80 | 276 => 83 | 277 => 94 | n => n, fun | 9 => 9 | 3 => 3 | 4 => 4 | 20 => 20 | 0 => 0 | 46 => 62 | 109 => 88 | 5 => 5 | 72 => 78 | 76 => 79 | 51 => 116 | 146 => 117 | 53 => 23 | 148 => 119 | 70 => 76 | 37 => 22 | 75 => 56 | 127 => 100 | 164 => 122 | 80 => 82 | n => n, fun | n => n⟩
theorem sh_lays105 : Go.Proofs.Lays.n105 Tryd.prog sh_lays105_ren := {
  mixed := by kernel_rfl
  f99 := Tryd.func49.trans (congrArg some (by kernel_rfl))
  f105 := Tryd.func30.trans (congrArg some (by kernel_rfl))
  f165 := Tryd.func50.trans (congrArg some (by kernel_rfl))
  f166 := Tryd.func41.trans (congrArg some (by kernel_rfl))
  f169 := Tryd.func43.trans (congrArg some (by kernel_rfl))
  f170 := Tryd.func51.trans (congrArg some (by kernel_rfl))
  f206 := Tryd.func79.trans (congrArg some (by kernel_rfl))
  f212 := Tryd.func48.trans (congrArg some (by kernel_rfl))
  f240 := Tryd.func65.trans (congrArg some (by kernel_rfl))
  f241 := Tryd.func80.trans (congrArg some (by kernel_rfl))
  f263 := Tryd.func77.trans (congrArg some (by kernel_rfl))
  f264 := Tryd.func78.trans (congrArg some (by kernel_rfl))
  f276 := Tryd.func83.trans (congrArg some (by kernel_rfl))
  f277 := Tryd.func94.trans (congrArg some (by kernel_rfl))
  t0 := Tryd.underlying0
  a0 := Tryd.isAgg0
  z0 := Tryd.sizeOf0
  v0 := Tryd.zeroValue0
  t3 := Tryd.underlying3
  a3 := Tryd.isAgg3
  z3 := Tryd.sizeOf3
  v3 := Tryd.zeroValue3
  t4 := Tryd.underlying4
  a4 := Tryd.isAgg4
  z4 := Tryd.sizeOf4
  v4 := Tryd.zeroValue4
  t5 := Tryd.underlying5
  a5 := Tryd.isAgg5
  z5 := Tryd.sizeOf5
  v5 := Tryd.zeroValue5
  t9 := Tryd.underlying9
  a9 := Tryd.isAgg9
  z9 := Tryd.sizeOf9
  v9 := Tryd.zeroValue9
  t20 := Tryd.underlying20
  a20 := Tryd.isAgg20
  z20 := Tryd.sizeOf20
  v20 := Tryd.zeroValue20
  t37 := Tryd.underlying22
  a37 := Tryd.isAgg22
  z37 := Tryd.sizeOf22
  v37 := Tryd.zeroValue22
  t46 := Tryd.underlying62
  a46 := Tryd.isAgg62
  z46 := Tryd.sizeOf62
  v46 := Tryd.zeroValue62
  t51 := Tryd.underlying116
  a51 := Tryd.isAgg116
  z51 := Tryd.sizeOf116
  v51 := Tryd.zeroValue116
  t53 := Tryd.underlying23
  a53 := Tryd.isAgg23
  z53 := Tryd.sizeOf23
  v53 := Tryd.zeroValue23
  t70 := Tryd.underlying76
  a70 := Tryd.isAgg76
  z70 := Tryd.sizeOf76
  v70 := Tryd.zeroValue76
  t72 := Tryd.underlying78
  a72 := Tryd.isAgg78
  z72 := Tryd.sizeOf78
  v72 := Tryd.zeroValue78
  t75 := Tryd.underlying56
  a75 := Tryd.isAgg56
  z75 := Tryd.sizeOf56
  v75 := Tryd.zeroValue56
  t76 := Tryd.underlying79
  a76 := Tryd.isAgg79
  z76 := Tryd.sizeOf79
  v76 := Tryd.zeroValue79
  t109 := Tryd.underlying88
  a109 := Tryd.isAgg88
  z109 := Tryd.sizeOf88
  v109 := Tryd.zeroValue88
  t127 := Tryd.underlying100
  a127 := Tryd.isAgg100
  z127 := Tryd.sizeOf100
  v127 := Tryd.zeroValue100
  t146 := Tryd.underlying117
  a146 := Tryd.isAgg117
  z146 := Tryd.sizeOf117
  v146 := Tryd.zeroValue117
  t148 := Tryd.underlying119
  a148 := Tryd.isAgg119
  z148 := Tryd.sizeOf119
  v148 := Tryd.zeroValue119
  t164 := Tryd.underlying122
  a164 := Tryd.isAgg122
  z164 := Tryd.sizeOf122
  v164 := Tryd.zeroValue122 }
theorem sh_Builder_Extra_105 : Builder.Extra Tryd.prog sh_lays105_ren := {
  sizeBuilder := by kernel_rfl
  liesBuilder := by kernel_rfl
  t5 := Tryd.underlying5
  a5 := Tryd.isAgg5
  z5 := Tryd.sizeOf5
  v5 := Tryd.zeroValue5
  infoByte := by kernel_rfl
  cellsByte := by kernel_rfl
  sizeByte := by kernel_rfl
  neB5 := by decide }
open Go.RowKit Go.Lib in
theorem sh_strings_Repeat (s : ByteArray) (c : Nat) (w : World) (hc : c ≤ 9223372036854775807) (hlen : s.size * c ≤ 140737488355328) :
    Calls Tryd.prog 30 #[.string s, .int .i64 c] w fun e w' => e = .returned (.string ⟨(Lib.repeatL s.data.toList c).toArray⟩) ∧ Below w.heap.size w w' := Any.strings_Repeat sh_lays105 sh_Builder_Extra_105 s c w hc hlen
end Go.Proofs.YtblloaajiaoblaaDoor
namespace Go.Proofs.YtblloaajiaoblaaDoor
open Go Go.RowKit
set_option maxHeartbeats 4000000
theorem ext_below {w w' : World} (h : Below w.heap.size w w') : Ext (fun _ => False) w w' :=
  ⟨h.os, h.tape, h.output, h.size, fun b hb _ => h.block b hb, fun b s hs => by
    have hb : b < w.heap.size := by
      unfold World.shape? at hs
      split at hs
      · rename_i e; exact (Array.getElem?_eq_some_iff.1 e).1
      · cases hs
    unfold World.shape? at hs ⊢
    rw [h.block b hb]; exact hs⟩
end Go.Proofs.YtblloaajiaoblaaDoor
namespace Go.Proofs.YtblloaajiaoblaaDoor
open Go Go.RowKit
set_option maxHeartbeats 4000000
abbrev repeatS : PSpec := fun l => match l with | [.str s, .int .i64 c] => some ([0 ≤ c, c ≤ 100000, s.length ≤ 100000], .str (Lib.repeatL s c.toNat)) | _ => none
theorem repeat_s : SOK Tryd.prog 30 repeatS := by
  refine ⟨⟨_, Tryd.func30, by kernel_rfl, by kernel_rfl⟩, fun l obs v h ho w O cl hf hc => ?_⟩
  (unfold repeatS at h; split at h; rotate_left; (focus (cases h)); rename_i s c; simp only [Option.some.injEq, Prod.mk.injEq] at h; obtain ⟨rfl, rfl⟩ := h; simp only [List.mem_cons, List.not_mem_nil, or_false, forall_eq_or_imp, forall_eq, false_implies, implies_true] at ho)
  obtain ⟨h0, h1, h2⟩ := ho
  obtain ⟨n, rfl⟩ := Int.eq_ofNat_of_zero_le h0
  obtain ⟨hl, hr⟩ := hc
  match cl, hl with
  | [c1, c2], _ =>
    have r1 := hr 0 _ _ rfl rfl
    have r2 := hr 1 _ _ rfl rfl
    cases r1
    cases r2
    have hsz : (⟨s.toArray⟩ : ByteArray).size = s.length := by simp [ByteArray.size]
    have hm : s.length * n ≤ 100000 * 100000 := Nat.mul_le_mul h2 (by omega)
    refine (sh_strings_Repeat ⟨s.toArray⟩ n w (by omega) (by rw [hsz]; omega)).mono fun en w' ⟨he, hw⟩ => ?_
    exact ⟨_, he, ext_below hw, .str _⟩
theorem rep0 : ∀ n : Nat, Lib.repeatL [48] n = List.replicate n 48
  | 0 => rfl
  | n + 1 => by show [48] ++ Lib.repeatL [48] n = _; rw [rep0 n]; rfl
end Go.Proofs.YtblloaajiaoblaaDoor
namespace Go.Proofs.YtblloaajiaoblaaDoor
open Go Go.RowKit
set_option maxHeartbeats 4000000
abbrev ipowS : PSpec := fun l => match l with | [.int .i64 x] => some ([x = 16], .bool true) | _ => none
theorem ipow_s : SOK Tryd.prog 92 ipowS := by
  refine sok_of (C := mkC 0 [] noG) (mkC_ok pok_nil noG_ok) rfl mixed ⟨Tryd.func92, by kernel_rfl, by kernel_rfl, by kernel_rfl⟩ fun l obs v h ho => ?_
  (unfold ipowS at h; split at h; rotate_left; (focus (cases h)); rename_i x; simp only [Option.some.injEq, Prod.mk.injEq] at h; obtain ⟨rfl, rfl⟩ := h; simp only [List.mem_cons, List.not_mem_nil, or_false, forall_eq_or_imp, forall_eq, false_implies, implies_true] at ho)
  subst ho
  refine ⟨Nat.le_of_ble_eq_true rfl, ?_⟩
  (repeat' (first | (refine xI (fun hfk => ?_) (fun hfk => ?_) <;> ((try (first | replace hfk := oT hfk | replace hfk := oF hfk | simp only [oA, oB, dh1, dh0, ne_eq, reduceCtorEq] at hfk)); (try exact oX))) | (refine And.intro ?ob ?_; (case ob => (exact oZ))) | exact True.intro | (show _ = _; first | exact oY | (rfl; done) | exact rfl) | exact oW | (apply And.intro)))
theorem tz_s : SOK Tryd.prog 93 tzS := by
  refine sok_of (C := mkC 0 [(98, tzS)] noG) (mkC_ok (pok_cons tz64_s pok_nil) noG_ok) rfl mixed ⟨Tryd.func93, by kernel_rfl, by kernel_rfl, by kernel_rfl⟩ fun l obs v h ho => ?_
  (unfold tzS at h; split at h; rotate_left; (focus (cases h)); rename_i x; simp only [Option.some.injEq, Prod.mk.injEq] at h; obtain ⟨rfl, rfl⟩ := h; simp only [List.mem_cons, List.not_mem_nil, or_false, forall_eq_or_imp, forall_eq, false_implies, implies_true] at ho)
  subst ho
  refine ⟨Nat.le_of_ble_eq_true rfl, ?_⟩
  (repeat' (first | (refine xI (fun hfk => ?_) (fun hfk => ?_) <;> ((try (first | replace hfk := oT hfk | replace hfk := oF hfk | simp only [oA, oB, dh1, dh0, ne_eq, reduceCtorEq] at hfk)); (try exact oX))) | (refine And.intro ?ob ?_; (case ob => (exact oZ))) | exact True.intro | (show _ = _; first | exact oY | (rfl; done) | exact rfl) | exact oW | (apply And.intro)))
theorem dig_at {d : Nat} (h : d < 16) : (([48, 49, 50, 51, 52, 53, 54, 55, 56, 57, 97, 98, 99, 100, 101, 102, 103, 104, 105, 106, 107, 108, 109, 110, 111, 112, 113, 114, 115, 116, 117, 118, 119, 120, 121, 122] : List UInt8).getD d 0) = hxc d := by
  have : d = 0 ∨ d = 1 ∨ d = 2 ∨ d = 3 ∨ d = 4 ∨ d = 5 ∨ d = 6 ∨ d = 7 ∨ d = 8 ∨ d = 9 ∨ d = 10 ∨ d = 11 ∨ d = 12 ∨ d = 13 ∨ d = 14 ∨ d = 15 := by omega
  rcases this with rfl | rfl | rfl | rfl | rfl | rfl | rfl | rfl | rfl | rfl | rfl | rfl | rfl | rfl | rfl | rfl <;> rfl
structure FxI (x : Nat) (k u : Nat) (A : List Int) : Prop where
  k_ : k ≤ 15
  len : A.length = 65
  u_ : u < 16 ^ (16 - k)
  eq : ∃ t : List UInt8, A.drop (65 - k) = (t.map fun c : UInt8 => (c.toNat : Int)) ∧ t.length = k ∧ hexF (16 - k) u ++ t = hexF 16 x
theorem fx_0 {x : Nat} (hu : U64 (x : Int)) : FxI x 0 x (List.replicate 65 0) := by
  have p16 : 16 ^ (16 - 0) = 18446744073709551616 := rfl
  have := hu.hi
  exact ⟨by omega, rfl, by omega, [], rfl, rfl, List.append_nil _⟩
theorem fx_lt {x k u : Nat} {A : List Int} (h : FxI x k u A) : u < 18446744073709551616 := by
  have h1 := h.u_
  have h2 : 16 ^ (16 - k) ≤ 16 ^ 16 := Nat.pow_le_pow_right (by decide) (by omega)
  have : (16 : Nat) ^ 16 = 18446744073709551616 := rfl
  omega
theorem hexF_big {n u : Nat} (h : ¬ u < 16) : hexF (n + 1) u = hexF n (u / 16) ++ [hxc (u % 16)] := if_neg h
theorem hexF_small {n u : Nat} (h : u < 16) : hexF (n + 1) u = [hxc u] := if_pos h
theorem set_drop0 {A : List Int} {j : Nat} (h : j < A.length) (v : Int) : (A.set j v).drop j = v :: A.drop (j + 1) := by
  rw [List.set_eq_take_append_cons_drop, if_pos h, List.drop_append, List.length_take, List.drop_of_length_le (by rw [List.length_take]; omega), show j - min j A.length = 0 by omega]
  rfl
theorem fx_next {x k u : Nat} {A : List Int} (h : FxI x k u A) (hu : ¬ u < 16) : FxI x (k + 1) (u / 16) (A.set (64 - k) ((hxc (u % 16)).toNat : Int)) := by
  obtain ⟨k1, l1, u1, t, t1, t2, t3⟩ := h
  obtain ⟨n, hn⟩ : ∃ n, 16 - k = n + 1 := ⟨15 - k, by omega⟩
  have n0 : n ≠ 0 := fun z => by rw [hn, z] at u1; omega
  rw [hn] at u1 t3
  rw [hexF_big hu] at t3
  refine ⟨by omega, by rw [List.length_set]; exact l1, by rw [show 16 - (k + 1) = n by omega]; rw [Nat.pow_succ] at u1; omega, hxc (u % 16) :: t, ?_, by rw [List.length_cons, t2], ?_⟩
  · rw [show 65 - (k + 1) = 64 - k by omega, set_drop0 (by omega), show 64 - k + 1 = 65 - k by omega, t1]; rfl
  · rw [show 16 - (k + 1) = n by omega, ← t3, List.append_assoc]; rfl
theorem fx_end {x k u : Nat} {A : List Int} (h : FxI x k u A) (hu : u < 16) : ((A.set (64 - k) ((hxc u).toNat : Int)).drop (64 - k)).map (fun n => UInt8.ofNat n.toNat) = hexF 16 x := by
  obtain ⟨k1, l1, u1, t, t1, t2, t3⟩ := h
  obtain ⟨n, hn⟩ : ∃ n, 16 - k = n + 1 := ⟨15 - k, by omega⟩
  rw [hn, hexF_small hu] at t3
  rw [set_drop0 (by omega), show 64 - k + 1 = 65 - k by omega, t1, ← t3, List.map_cons, List.map_map]
  have e : ∀ c : UInt8, UInt8.ofNat ((c.toNat : Int)).toNat = c := fun c => by rw [Int.toNat_natCast]; exact UInt8.ofNat_toNat
  have e2 : ((fun n : Int => UInt8.ofNat n.toNat) ∘ fun c : UInt8 => (c.toNat : Int)) = id := by funext c; exact e c
  rw [e2, List.map_id, e]; rfl
theorem and15 {u : Nat} (h : u < 18446744073709551616) : IntKind.u64.wrap (((BitVec.ofInt 64 (u : Int) &&& BitVec.ofInt 64 15).toNat : Nat) : Int) = ((u % 16 : Nat) : Int) := by
  have e1 : BitVec.ofInt 64 (u : Int) = BitVec.ofNat 64 u := by
    apply BitVec.eq_of_toNat_eq
    rw [BitVec.toNat_ofInt, BitVec.toNat_ofNat]
    omega
  have e2 : (BitVec.ofInt 64 (u : Int) &&& BitVec.ofInt 64 15).toNat = u % 16 := by
    rw [e1, BitVec.toNat_and, BitVec.toNat_ofNat, Nat.mod_eq_of_lt h, show (BitVec.ofInt 64 15).toNat = 2 ^ 4 - 1 from rfl, Nat.and_two_pow_sub_one_eq_mod]
  rw [e2]
  exact wrap_rng ⟨by show (0 : Int) ≤ _; omega, by show _ ≤ (18446744073709551615 : Int); omega⟩
theorem shr4 {u : Nat} : ((u : Int)).fdiv (2 ^ min (Int.toNat 4) IntKind.u64.bits) = ((u / 16 : Nat) : Int) := by
  rw [show (2 : Int) ^ min (Int.toNat 4) IntKind.u64.bits = 16 from rfl, Int.fdiv_eq_ediv_of_nonneg _ (by decide)]; rfl
abbrev fbitS : PSpec := fun l => match l with | [.nils, .int .u64 u, .int .i64 b, .fls, .fls] => some ([b = 16, U64 u], .tup [.nils, .str (hexF 16 u.toNat)]) | _ => none
theorem fbit_s : SOK Tryd.prog 76 fbitS := by
  refine sok_of (C := mkC 0 [(92, ipowS), (93, tzS)] noG) (mkC_ok (pok_cons ipow_s (pok_cons tz_s pok_nil)) noG_ok) rfl mixed ⟨Tryd.func76, by kernel_rfl, by kernel_rfl, by kernel_rfl⟩ fun l obs v h ho => ?_
  (unfold fbitS at h; split at h; rotate_left; (focus (cases h)); rename_i u b; simp only [Option.some.injEq, Prod.mk.injEq] at h; obtain ⟨rfl, rfl⟩ := h; simp only [List.mem_cons, List.not_mem_nil, or_false, forall_eq_or_imp, forall_eq, false_implies, implies_true] at ho)
  obtain ⟨rfl, hu⟩ := ho
  obtain ⟨x, rfl⟩ := Int.eq_ofNat_of_zero_le hu.lo
  rw [Int.toNat_natCast]
  refine ⟨Nat.le_of_ble_eq_true rfl, ?_⟩
  (repeat' (first | (refine xI (fun hfk => ?_) (fun hfk => ?_) <;> ((try (first | replace hfk := oT hfk | replace hfk := oF hfk | simp only [oA, oB, dh1, dh0, ne_eq, reduceCtorEq] at hfk)); (try exact oX))) | (refine And.intro ?ob ?_; (case ob => (exact oZ))) | exact True.intro | (show _ = _; first | exact oY | (skip; done) | exact rfl) | exact oW | (apply And.intro)))
  have f0 : FxI x 0 x (List.replicate 65 0) := fx_0 hu
  refine ⟨Nat × Nat × List Int, fun g => [(0, .nils), (1, .int .u64 (g.2.1 : Int)), (3, .fls), (4, .fls), (10, .nils), (11, .str []), (12, .ptr 0 0), (13, .int .i64 (65 - (g.1 : Int))), (14, .int .u64 4), (15, .int .u64 16), (16, .int .u64 15)],
    fun g => ⟨1, [(0, some (.ints 131 .u8 g.2.2))]⟩,
    fun g => FxI x g.1 g.2.1 g.2.2, fun g => g.2.1, ⟨(0, x, List.replicate 65 0), [some 0], f0, ?_⟩, fun g hg => ?_⟩
  · (repeat' (first | (refine And.intro ?_ ?_) | exact True.intro | (show _ = _; with_reducible rfl) | exact Chk.mk (by kernel_rfl)))
    all_goals rfl
  obtain ⟨k, u, A⟩ := g
  have hg : FxI x k u A := hg
  have k15 := hg.k_
  have lA := hg.len
  dsimp only
  have ri : rngI .i64 (65 - (k : Int) - 1) := rng64 (by omega) (by omega)
  have et : (65 - (k : Int) - 1).toNat = 64 - k := by omega
  by_cases hlt : u < 16
  · have fe := fx_end hg hlt
    have dg : (ByteArray.mk #[48, 49, 50, 51, 52, 53, 54, 55, 56, 57, 97, 98, 99, 100, 101, 102, 103, 104, 105, 106, 107, 108, 109, 110, 111, 112, 113, 114, 115, 116, 117, 118, 119, 120, 121, 122]).data.toList.getD u 0 = hxc u := dig_at hlt
    have es : A.set (0 + (65 - (k : Int) - 1).toNat * 1) (((ByteArray.mk #[48, 49, 50, 51, 52, 53, 54, 55, 56, 57, 97, 98, 99, 100, 101, 102, 103, 104, 105, 106, 107, 108, 109, 110, 111, 112, 113, 114, 115, 116, 117, 118, 119, 120, 121, 122]).data.toList.getD (u : Int).toNat 0).toNat : Int) = A.set (64 - k) ((hxc u).toNat : Int) := by
      rw [et, Int.toNat_natCast, dg, Nat.zero_add, Nat.mul_one]
    have fe' : List.map (fun n => UInt8.ofNat n.toNat) (List.take (65 - (65 - (k : Int) - 1).toNat) (List.drop (65 - (k : Int) - 1).toNat (A.set (0 + (65 - (k : Int) - 1).toNat * 1) (((ByteArray.mk #[48, 49, 50, 51, 52, 53, 54, 55, 56, 57, 97, 98, 99, 100, 101, 102, 103, 104, 105, 106, 107, 108, 109, 110, 111, 112, 113, 114, 115, 116, 117, 118, 119, 120, 121, 122]).data.toList.getD (u : Int).toNat 0).toNat : Int)))) = hexF 16 x := by
      rw [es, et, List.take_of_length_le (by rw [List.length_drop, List.length_set]; omega)]
      exact fe
    have lD : (ByteArray.mk #[48, 49, 50, 51, 52, 53, 54, 55, 56, 57, 97, 98, 99, 100, 101, 102, 103, 104, 105, 106, 107, 108, 109, 110, 111, 112, 113, 114, 115, 116, 117, 118, 119, 120, 121, 122]).data.toList.length = 36 := rfl
    clear es dg
    (repeat' (first | (refine xI (fun hfk => ?_) (fun hfk => ?_) <;> ((try (first | replace hfk := oT hfk | replace hfk := oF hfk | simp only [oA, oB, dh1, dh0, ne_eq, reduceCtorEq] at hfk)); (try exact oX))) | (refine And.intro ?ob ?_; (case ob => (exact oZ))) | exact True.intro | (show _ = _; first | exact oY | (exact fe'; done) | exact rfl) | exact oW | (apply And.intro)))
  · have fn := fx_next hg hlt
    have a15 := and15 (fx_lt hg)
    have a15' : (IntKind.u64.wrap (((BitVec.ofInt IntKind.u64.bits (u : Int) &&& BitVec.ofInt IntKind.u64.bits 15).toNat : Nat) : Int)) = ((u % 16 : Nat) : Int) := a15
    have s4 := shr4 (u := u)
    have dg : (ByteArray.mk #[48, 49, 50, 51, 52, 53, 54, 55, 56, 57, 97, 98, 99, 100, 101, 102, 103, 104, 105, 106, 107, 108, 109, 110, 111, 112, 113, 114, 115, 116, 117, 118, 119, 120, 121, 122]).data.toList.getD (u % 16) 0 = hxc (u % 16) := dig_at (Nat.mod_lt u (show 16 > 0 by decide))
    have lD : (ByteArray.mk #[48, 49, 50, 51, 52, 53, 54, 55, 56, 57, 97, 98, 99, 100, 101, 102, 103, 104, 105, 106, 107, 108, 109, 110, 111, 112, 113, 114, 115, 116, 117, 118, 119, 120, 121, 122]).data.toList.length = 36 := rfl
    have b0 : 0 ≤ (IntKind.u64.wrap (((BitVec.ofInt IntKind.u64.bits (u : Int) &&& BitVec.ofInt IntKind.u64.bits 15).toNat : Nat) : Int)) := by rw [a15']; omega
    have b1 : (IntKind.u64.wrap (((BitVec.ofInt IntKind.u64.bits (u : Int) &&& BitVec.ofInt IntKind.u64.bits 15).toNat : Nat) : Int)) < ((ByteArray.mk #[48, 49, 50, 51, 52, 53, 54, 55, 56, 57, 97, 98, 99, 100, 101, 102, 103, 104, 105, 106, 107, 108, 109, 110, 111, 112, 113, 114, 115, 116, 117, 118, 119, 120, 121, 122]).data.toList.length : Int) := by rw [a15', lD]; omega
    have es : A.set (0 + (65 - (k : Int) - 1).toNat * 1) (((ByteArray.mk #[48, 49, 50, 51, 52, 53, 54, 55, 56, 57, 97, 98, 99, 100, 101, 102, 103, 104, 105, 106, 107, 108, 109, 110, 111, 112, 113, 114, 115, 116, 117, 118, 119, 120, 121, 122]).data.toList.getD (IntKind.u64.wrap (((BitVec.ofInt IntKind.u64.bits (u : Int) &&& BitVec.ofInt IntKind.u64.bits 15).toNat : Nat) : Int)).toNat 0).toNat : Int) = A.set (64 - k) ((hxc (u % 16)).toNat : Int) := by
      rw [et, a15', Int.toNat_natCast, dg, Nat.zero_add, Nat.mul_one]
    clear dg a15 a15'
    (repeat' (first | (refine xI (fun hfk => ?_) (fun hfk => ?_) <;> ((try (first | replace hfk := oT hfk | replace hfk := oF hfk | simp only [oA, oB, dh1, dh0, ne_eq, reduceCtorEq] at hfk)); (try exact oX))) | (refine And.intro ?ob ?_; (case ob => (exact oZ))) | exact True.intro | (show _ = _; first | exact oY | (first | exact b0 | exact b1; done) | exact rfl) | exact oW | (apply And.intro)))
    refine ⟨(k + 1, u / 16, A.set (64 - k) ((hxc (u % 16)).toNat : Int)), [some 0], fn, ?mu, ?_⟩
    case mu => (show u / 16 < u; omega)
    (repeat' (first | (refine And.intro ?_ ?_) | exact True.intro | (show _ = _; with_reducible rfl) | exact Chk.mk (by kernel_rfl)))
    all_goals first | rfl | exact s4 | exact es | (show (_ : Int) = _; omega)
abbrev fuS : PSpec := fun l => match l with | [.int .u64 u, .int .i64 b] => some ([b = 16, U64 u], .str (hexF 16 u.toNat)) | _ => none
theorem fuI_s : SOK Tryd.prog 47 fuS := by
  refine sok_of (C := mkC 0 [(76, fbitS)] noG) (mkC_ok (pok_cons fbit_s pok_nil) noG_ok) rfl mixed ⟨Tryd.func47, by kernel_rfl, by kernel_rfl, by kernel_rfl⟩ fun l obs v h ho => ?_
  (unfold fuS at h; split at h; rotate_left; (focus (cases h)); rename_i u b; simp only [Option.some.injEq, Prod.mk.injEq] at h; obtain ⟨rfl, rfl⟩ := h; simp only [List.mem_cons, List.not_mem_nil, or_false, forall_eq_or_imp, forall_eq, false_implies, implies_true] at ho)
  obtain ⟨rfl, hu⟩ := ho
  refine ⟨Nat.le_of_ble_eq_true rfl, ?_⟩
  (repeat' (first | (refine xI (fun hfk => ?_) (fun hfk => ?_) <;> ((try (first | replace hfk := oT hfk | replace hfk := oF hfk | simp only [oA, oB, dh1, dh0, ne_eq, reduceCtorEq] at hfk)); (try exact oX))) | (refine And.intro ?ob ?_; (case ob => (exact oZ))) | exact True.intro | (show _ = _; first | exact oY | (first | exact hu | rfl; done) | exact rfl) | exact oW | (apply And.intro)))
theorem fu_s : SOK Tryd.prog 29 fuS := by
  refine sok_of (C := mkC 0 [(47, fuS)] noG) (mkC_ok (pok_cons fuI_s pok_nil) noG_ok) rfl mixed ⟨Tryd.func29, by kernel_rfl, by kernel_rfl, by kernel_rfl⟩ fun l obs v h ho => ?_
  (unfold fuS at h; split at h; rotate_left; (focus (cases h)); rename_i u b; simp only [Option.some.injEq, Prod.mk.injEq] at h; obtain ⟨rfl, rfl⟩ := h; simp only [List.mem_cons, List.not_mem_nil, or_false, forall_eq_or_imp, forall_eq, false_implies, implies_true] at ho)
  obtain ⟨rfl, hu⟩ := ho
  refine ⟨Nat.le_of_ble_eq_true rfl, ?_⟩
  (repeat' (first | (refine xI (fun hfk => ?_) (fun hfk => ?_) <;> ((try (first | replace hfk := oT hfk | replace hfk := oF hfk | simp only [oA, oB, dh1, dh0, ne_eq, reduceCtorEq] at hfk)); (try exact oX))) | (refine And.intro ?ob ?_; (case ob => (exact oZ))) | exact True.intro | (show _ = _; first | exact oY | (first | exact hu | rfl; done) | exact rfl) | exact oW | (apply And.intro)))
theorem hex_bd {u : Int} (h : U64 u) : u.toNat < 16 ^ 16 := by
  have := h.lo
  have := h.hi
  have : 16 ^ 16 = 18446744073709551616 := rfl
  omega
abbrev hexS : PSpec := fun l => match l with | [.int .u64 u] => some ([U64 u], .str (hxN 16 u.toNat)) | _ => none
theorem hex_s : SOK Tryd.prog 16 hexS := by
  refine sok_of (C := mkC 0 [(29, fuS), (30, repeatS)] noG) (mkC_ok (pok_cons fu_s (pok_cons repeat_s pok_nil)) noG_ok) rfl mixed ⟨Tryd.func16, by kernel_rfl, by kernel_rfl, by kernel_rfl⟩ fun l obs v h ho => ?_
  (unfold hexS at h; split at h; rotate_left; (focus (cases h)); rename_i u; simp only [Option.some.injEq, Prod.mk.injEq] at h; obtain ⟨rfl, rfl⟩ := h; simp only [List.mem_cons, List.not_mem_nil, or_false, forall_eq_or_imp, forall_eq, false_implies, implies_true] at ho)
  refine ⟨Nat.le_of_ble_eq_true rfl, ?_⟩
  have hb : u.toNat < 16 ^ 16 := hex_bd ho
  have l1 := hexF_le 16 u.toNat
  have er : Lib.repeatL (ByteArray.mk #[48]).data.toList ((16 : Int) - ((hexF 16 u.toNat).length : Int)).toNat = List.replicate (16 - (hexF 16 u.toNat).length) 48 := by
    have : ((16 : Int) - ((hexF 16 u.toNat).length : Int)).toNat = 16 - (hexF 16 u.toNat).length := by omega
    rw [this]
    exact rep0 _
  have e1 : Lib.repeatL (ByteArray.mk #[48]).data.toList ((16 : Int) - ((hexF 16 u.toNat).length : Int)).toNat ++ hexF 16 u.toNat = hxN 16 u.toNat := by
    rw [er]
    exact hex_pad hb
  have r1 : rngI .i64 ((16 : Int) - ((hexF 16 u.toNat).length : Int)) := rng64 (by omega) (by omega)
  have r2 : 0 ≤ (16 : Int) - ((hexF 16 u.toNat).length : Int) := by omega
  have r3 : (((Lib.repeatL (ByteArray.mk #[48]).data.toList ((16 : Int) - ((hexF 16 u.toNat).length : Int)).toNat).length + (hexF 16 u.toNat).length : Nat) : Int) ≤ IntKind.i64.max := by
    rw [er, List.length_replicate]
    show _ ≤ (9223372036854775807 : Int)
    omega
  clear er hb
  (repeat' (first | (refine xI (fun hfk => ?_) (fun hfk => ?_) <;> ((try (first | replace hfk := oT hfk | replace hfk := oF hfk | simp only [oA, oB, dh1, dh0, ne_eq, reduceCtorEq] at hfk)); (try exact oX))) | (refine And.intro ?ob ?_; (case ob => (exact oZ))) | exact True.intro | (show _ = _; first | exact oY | (first | exact ho | exact r1 | exact r2 | exact r3 | exact e1 | rfl; done) | exact rfl) | exact oW | (apply And.intro)))
end Go.Proofs.YtblloaajiaoblaaDoor
namespace Go.Proofs.YtblloaajiaoblaaDoor
open Go Go.RowKit
set_option maxHeartbeats 4000000
theorem dgV_nil : dgV [] = 14695981039346656037 := by decide
theorem U64_dg (b : List Int) : U64 (dgV b) := U64_bv _
theorem hex_alive : decide (hxN 16 (dgV []).toNat = (ByteArray.mk #[99, 98, 102, 50, 57, 99, 101, 52, 56, 52, 50, 50, 50, 51, 50, 53]).data.toList) = true := by
  rw [dgV_nil]
  exact decide_eq_true hex_begin
theorem alive12_s : SOK Tryd.prog 8 (sN (.bool true)) := by
  refine sok_of (C := mkC 0 [(7, fun l => bytesHS (l.map nzA)), (16, hexS)] noG) (mkC_ok (pok_cons (sok_nz bytesH_s) (pok_cons hex_s pok_nil)) noG_ok) rfl mixed ⟨Tryd.func8, by kernel_rfl, by kernel_rfl, by kernel_rfl⟩ fun l obs v h ho => ?_
  obtain ⟨rfl, rfl, rfl⟩ := sN_inv h
  refine ⟨Nat.le_of_ble_eq_true rfl, ?_⟩
  have e := hex_alive
  have u := U64_dg []
  have b0 : Bytes [] := fun x hx => by cases hx
  (repeat' (first | (refine xI (fun hfk => ?_) (fun hfk => ?_) <;> ((try (first | replace hfk := oT hfk | replace hfk := oF hfk | simp only [oA, oB, dh1, dh0, ne_eq, reduceCtorEq] at hfk)); (try exact oX))) | (refine And.intro ?ob ?_; (case ob => (exact oZ))) | exact True.intro | (show _ = _; first | exact oY | (first | exact b0 | exact u | exact e | exact e.symm; done) | exact rfl) | exact oW | (apply And.intro)))
attribute [local irreducible] dgV hxN
end Go.Proofs.YtblloaajiaoblaaDoor
namespace Go.Proofs.YtblloaajiaoblaaDoor
open Go Go.RowKit
set_option maxHeartbeats 4000000
theorem hx_app (a b : List Int) : hxV (hxV 0 a) b = hxV 0 (a ++ b) := by
  unfold hxV
  rw [bv_of, xor_self, fbL_app]
theorem hx_nil : hxV 0 [] = 0 := by decide
theorem U64_hx (x : Int) (b : List Int) : U64 (hxV x b) := U64_bv _
theorem lt_len {L : List (List Int)} {i : Nat} {l : List Int} (h : i < L.length) (e : L.getD i [] = l) : l ∈ L := by
  rw [← e, List.getD_eq_getElem?_getD, List.getElem?_eq_getElem h]
  exact List.getElem_mem h
attribute [local irreducible] hxV fbL
theorem walk_HashPieces' (L : List (List Int)) (hB : ∀ l ∈ L, Bytes l) (W : World) (hgl : GL W NoO) {cl : List Value} (hcl : CRel noN W NoO [bsA L] cl) :
    Calls Tryd.prog 4 cl.toArray W fun e W' => e = .returned (.bool true) ∧ Below W.heap.size W W' := by
  refine law_of (C := mkC 0 [(7, fun l => bytesHS (l.map nzA)), (12, bytesHS), (10, writeNS), (11, sumHS), (13, lenHS), (8, sN (.bool true))] (glook [(9, fG pNw), (10, fG putHF)]))
    (mkC_ok (pok_cons (sok_nz bytesH_s) (pok_cons rbytes12_s (pok_cons writeN_s (pok_cons sumH_s (pok_cons lenH_s (pok_cons alive12_s pok_nil)))))) (gl_cons newH_g (gl_cons writeH_g gl_nil))) rfl ⟨Tryd.func4, by kernel_rfl, by kernel_rfl, by kernel_rfl⟩ (by exact Nat.le_of_ble_eq_true rfl) ?_ hcl (hg := hgl)
  by_cases hl : 60 < L.length
  · (repeat' (first | (refine xI (fun hfk => ?_) (fun hfk => ?_) <;> ((try (first | replace hfk := oT hfk | replace hfk := oF hfk | simp only [oA, oB, dh1, dh0, ne_eq, reduceCtorEq] at hfk)); (try exact oX))) | (refine And.intro ?ob ?_; (case ob => (exact oZ))) | exact True.intro | (show _ = _; first | exact oY | (rfl; done) | exact rfl) | exact oW | (apply And.intro)))
  (repeat' (first | (refine xI (fun hfk => ?_) (fun hfk => ?_) <;> ((try (first | replace hfk := oT hfk | replace hfk := oF hfk | simp only [oA, oB, dh1, dh0, ne_eq, reduceCtorEq] at hfk)); (try exact oX))) | (refine And.intro ?ob ?_; (case ob => (exact oZ))) | exact True.intro | (show _ = _; first | exact oY | (skip; done) | exact rfl) | exact oW | (apply And.intro)))
  (refine ⟨[], ⟨by kernel_rfl⟩, ?_⟩)
  (repeat' (first | (refine xI (fun hfk => ?_) (fun hfk => ?_) <;> ((try (first | replace hfk := oT hfk | replace hfk := oF hfk | simp only [oA, oB, dh1, dh0, ne_eq, reduceCtorEq] at hfk)); (try exact oX))) | (refine And.intro ?ob ?_; (case ob => (exact oZ))) | exact True.intro | (show _ = _; first | exact oY | (skip; done) | exact rfl) | exact oW | (apply And.intro)))
  have b0 : Bytes ([] : List Int) := fun x hx => by cases hx
  refine ⟨Nat × List Int, fun g => [(2, .fls), (3, .ptr 0 0), (4, .ptr 1 0), (5, .nilp), (6, .sl 2 1 0 g.2.length), (15, .ro 1 L.length (fun j => AV.roi IntKind.u8 (L.getD j []))), (16, .int .i64 (L.length : Int)), (17, .int .i64 (g.1 : Int))],
    fun g => ⟨3, [(0, some (.cells 31 [.int .u64 (hxV 0 g.2), .int .i64 (g.2.length : Int)])), (1, some (.cells 31 [.int .u64 (hxV 0 g.2), .int .i64 (g.2.length : Int)])), (2, some (.ints 5 .u8 g.2))]⟩,
    fun g => g.1 ≤ L.length ∧ Bytes g.2 ∧ g.2.length ≤ 3000 * g.1, fun g => L.length - g.1, ⟨(0, []), [some 0, some 1, none], ⟨Nat.zero_le _, b0, Nat.zero_le _⟩, ?_⟩, fun g hg => ?_⟩
  · have e0 := hx_nil.symm
    (repeat' (first | (refine And.intro ?_ ?_) | exact True.intro | (show _ = _; with_reducible rfl) | exact Chk.mk (by kernel_rfl)))
    all_goals first | rfl | exact e0 | (intro j hj; rfl)
  obtain ⟨i, A⟩ := g
  obtain ⟨g1, g2, g3⟩ := hg
  have g1 : i ≤ L.length := g1
  have g2 : Bytes A := g2
  have g3 : A.length ≤ 3000 * i := g3
  dsimp only
  have uA := U64_hx 0 A
  have tA : List.take A.length (List.drop 0 A) = A := by rw [List.drop_zero, List.take_length]
  by_cases hlt : i < L.length
  · have bb : Bytes (L.getD (i : Int).toNat []) := hB _ (lt_len hlt rfl)
    have ri : rngI .i64 ((i : Int) + 1) := rng64 (by omega) (by omega)
    by_cases h3 : 3000 < (L.getD (i : Int).toNat []).length
    · (repeat' (first | (refine xI (fun hfk => ?_) (fun hfk => ?_) <;> ((try (first | replace hfk := oT hfk | replace hfk := oF hfk | simp only [oA, oB, dh1, dh0, ne_eq, reduceCtorEq] at hfk)); (try exact oX))) | (refine And.intro ?ob ?_; (case ob => (exact oZ))) | exact True.intro | (show _ = _; first | exact oY | (rfl; done) | exact rfl) | exact oW | (apply And.intro)))
    have uB := U64_hx (hxV 0 A) (L.getD (i : Int).toNat [])
    (repeat' (first | (refine xI (fun hfk => ?_) (fun hfk => ?_) <;> ((try (first | replace hfk := oT hfk | replace hfk := oF hfk | simp only [oA, oB, dh1, dh0, ne_eq, reduceCtorEq] at hfk)); (try exact oX))) | (refine And.intro ?ob ?_; (case ob => (exact oZ))) | exact True.intro | (show _ = _; first | exact oY | (skip; done) | exact rfl) | exact oW | (apply And.intro)))
    (refine ⟨[0], ⟨by kernel_rfl⟩, ?_⟩)
    (repeat' (first | (refine xI (fun hfk => ?_) (fun hfk => ?_) <;> ((try (first | replace hfk := oT hfk | replace hfk := oF hfk | simp only [oA, oB, dh1, dh0, ne_eq, reduceCtorEq] at hfk)); (try exact oX))) | (refine And.intro ?ob ?_; (case ob => (exact oZ))) | exact True.intro | (show _ = _; first | exact oY | (first | exact uA | exact bb; done) | exact rfl) | exact oW | (apply And.intro)))
    (refine ⟨[1], ⟨by kernel_rfl⟩, ?_⟩)
    have tB : (List.take (A.length + (L.getD (i : Int).toNat []).length) (List.drop 0 (A ++ (L.getD (i : Int).toNat [])))) = A ++ (L.getD (i : Int).toNat []) := by rw [List.drop_zero]; exact List.take_of_length_le (by rw [List.length_append]; exact Nat.le_refl _)
    have lB : (A ++ (L.getD (i : Int).toNat [])).length = A.length + (L.getD (i : Int).toNat []).length := List.length_append
    have nB : Bytes (List.take (A.length + (L.getD (i : Int).toNat []).length) (List.drop 0 (A ++ (L.getD (i : Int).toNat [])))) := by rw [tB]; exact fun x hx => (List.mem_append.1 hx).elim (g2 x) (bb x)
    have kB : ((((BitVec.ofInt 64 (hxV (hxV 0 A) (L.getD (i : Int).toNat []))) ^^^ fb0).toNat : Nat) : Int) = dgV (List.take (A.length + (L.getD (i : Int).toNat []).length) (List.drop 0 (A ++ (L.getD (i : Int).toNat [])))) := by rw [tB, hx_app]; exact hx0 _
    have lB2 : (List.take (A.length + (L.getD (i : Int).toNat []).length) (List.drop 0 (A ++ (L.getD (i : Int).toNat [])))).length ≤ 140737488355328 := by rw [tB, lB]; omega
    have cB := hx_app A (L.getD (i : Int).toNat [])
    have gB : Bytes (A ++ (L.getD (i : Int).toNat [])) := fun x hx => (List.mem_append.1 hx).elim (g2 x) (bb x)
    have lBi : ((A.length : Int) + ((L.getD (i : Int).toNat []).length : Int)) = (((A ++ (L.getD (i : Int).toNat [])).length : Nat) : Int) := by rw [lB]; omega
    clear tB
    (repeat' (first | (refine xI (fun hfk => ?_) (fun hfk => ?_) <;> ((try (first | replace hfk := oT hfk | replace hfk := oF hfk | simp only [oA, oB, dh1, dh0, ne_eq, reduceCtorEq] at hfk)); (try exact oX))) | (refine And.intro ?ob ?_; (case ob => (exact oZ))) | exact True.intro | (show _ = _; first | exact oY | (first | exact uA | exact bb | exact uB | exact nB | exact lB2 | exact absurd kB ‹_› | rfl; done) | exact rfl) | exact oW | (apply And.intro)))
    refine ⟨(i + 1, A ++ (L.getD (i : Int).toNat [])), [some 0, some 1, some 3], ⟨hlt, gB, by show (A ++ (L.getD (i : Int).toNat [])).length ≤ 3000 * (i + 1); omega⟩, ?mu, ?_⟩
    case mu => (show L.length - (i + 1) < L.length - i; omega)
    (repeat' (first | (refine And.intro ?_ ?_) | exact True.intro | (show _ = _; with_reducible rfl) | exact Chk.mk (by kernel_rfl)))
    all_goals first | rfl | exact cB | exact cB.symm | (intro j hj; rfl) | exact lB.symm | exact lBi | (show (_ : Int) = _; omega)
  · obtain rfl : i = L.length := by omega
    have eA := hx0 A
    have nA : Bytes (List.take A.length (List.drop 0 A)) := by rw [tA]; exact g2
    have kA : ((((BitVec.ofInt 64 (hxV 0 A)) ^^^ fb0).toNat : Nat) : Int) = dgV (List.take A.length (List.drop 0 A)) := by rw [tA]; exact eA
    have lA : (List.take A.length (List.drop 0 A)).length ≤ 140737488355328 := by rw [tA]; omega
    have dn := dgV_nil.symm
    clear eA tA
    (repeat' (first | (refine xI (fun hfk => ?_) (fun hfk => ?_) <;> ((try (first | replace hfk := oT hfk | replace hfk := oF hfk | simp only [oA, oB, dh1, dh0, ne_eq, reduceCtorEq] at hfk)); (try exact oX))) | (refine And.intro ?ob ?_; (case ob => (exact oZ))) | exact True.intro | (show _ = _; first | exact oY | (first | exact uA | exact nA | exact b0 | exact lA | exact absurd kA ‹_› | exact absurd dn ‹_› | rfl; done) | exact rfl) | exact oW | (apply And.intro)))
end Go.Proofs.YtblloaajiaoblaaDoor

