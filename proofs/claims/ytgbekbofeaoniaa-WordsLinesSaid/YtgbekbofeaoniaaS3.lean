/- Texts laid together. No condition. -/
import Derived.Test.YtgbekbofeaoniaaS2
import Derived.Shelf.Strings.Builder1
import Derived.Shelf.Strings.Builder2
import Derived.Shelf.Strings.OnBuilder
import Derived.Shelf.Strings.BuilderF
import Derived.Shelf.Strings.BuilderK
import Derived.Shelf.Strings.Builder2Cap
import Derived.Shelf.Strings.BuilderCap
import Derived.Test.YtgbekbofeaoniaaProg
import Derived.Test.YtgbekbofeaoniaaE14
import Derived.WalkKit
import Derived.BigCall
import Derived.Sort.Grow
set_option maxRecDepth 100000
set_option maxHeartbeats 4000000
set_option linter.unusedVariables false
set_option linter.unusedSimpArgs false
namespace Go.Proofs.Ytgbekbofeaoniaa
open Go Go.Shelf
def sh_lays156_ren : Go.Shelf.Ren := ⟨fun | 156 => 49 | 165 => 79 | 166 => 48 | 169 => 50 | 240 => 78 | 241 => 96 | 276 => 95 | 277 => 102 | n => n, fun | 31 => 33 | 9 => 9 | 3 => 3 | 4 => 4 | 0 => 0 | 20 => 20 | 72 => 103 | 76 => 106 | 70 => 101 | 37 => 38 | 75 => 105 | 127 => 146 | 164 => 166 | 5 => 5 | 80 => 109 | n => n, fun | n => n⟩
theorem sh_lays156 : Go.Proofs.Lays.n156 Try.prog sh_lays156_ren := {
  mixed := by kernel_rfl
  f156 := Try.func49.trans (congrArg some (by kernel_rfl))
  f165 := Try.func79.trans (congrArg some (by kernel_rfl))
  f166 := Try.func48.trans (congrArg some (by kernel_rfl))
  f169 := Try.func50.trans (congrArg some (by kernel_rfl))
  f240 := Try.func78.trans (congrArg some (by kernel_rfl))
  f241 := Try.func96.trans (congrArg some (by kernel_rfl))
  f276 := Try.func95.trans (congrArg some (by kernel_rfl))
  f277 := Try.func102.trans (congrArg some (by kernel_rfl))
  t0 := Try.underlying0
  a0 := Try.isAgg0
  z0 := Try.sizeOf0
  v0 := Try.zeroValue0
  t3 := Try.underlying3
  a3 := Try.isAgg3
  z3 := Try.sizeOf3
  v3 := Try.zeroValue3
  t4 := Try.underlying4
  a4 := Try.isAgg4
  z4 := Try.sizeOf4
  v4 := Try.zeroValue4
  t9 := Try.underlying9
  a9 := Try.isAgg9
  z9 := Try.sizeOf9
  v9 := Try.zeroValue9
  t20 := Try.underlying20
  a20 := Try.isAgg20
  z20 := Try.sizeOf20
  v20 := Try.zeroValue20
  t31 := Try.underlying33
  a31 := Try.isAgg33
  z31 := Try.sizeOf33
  v31 := Try.zeroValue33
  t37 := Try.underlying38
  a37 := Try.isAgg38
  z37 := Try.sizeOf38
  v37 := Try.zeroValue38
  t70 := Try.underlying101
  a70 := Try.isAgg101
  z70 := Try.sizeOf101
  v70 := Try.zeroValue101
  t72 := Try.underlying103
  a72 := Try.isAgg103
  z72 := Try.sizeOf103
  v72 := Try.zeroValue103
  t75 := Try.underlying105
  a75 := Try.isAgg105
  z75 := Try.sizeOf105
  v75 := Try.zeroValue105
  t76 := Try.underlying106
  a76 := Try.isAgg106
  z76 := Try.sizeOf106
  v76 := Try.zeroValue106
  t127 := Try.underlying146
  a127 := Try.isAgg146
  z127 := Try.sizeOf146
  v127 := Try.zeroValue146
  t164 := Try.underlying166
  a164 := Try.isAgg166
  z164 := Try.sizeOf166
  v164 := Try.zeroValue166 }
theorem sh_Builder_Extra_156 : Builder.Extra Try.prog sh_lays156_ren := {
  sizeBuilder := by kernel_rfl
  liesBuilder := by kernel_rfl
  t5 := Try.underlying5
  a5 := Try.isAgg5
  z5 := Try.sizeOf5
  v5 := Try.zeroValue5
  infoByte := by kernel_rfl
  cellsByte := by kernel_rfl
  sizeByte := by kernel_rfl
  neB5 := by decide }
open Go.RowKit in
theorem sh_strings_Join_none (a : Option Addr) (c : Nat) (sep : ByteArray) (w : World) :
    Calls Try.prog 49 #[.slice a 0 c, .string sep] w fun e w' => e = .returned (.string ⟨#[]⟩) ∧ w' = w := Any.strings_Join_none sh_lays156 sh_Builder_Extra_156 a c sep w
open Go.RowKit in
theorem sh_strings_Join (bk o c : Nat) (xs : List ByteArray) (sep : ByteArray) (w : World) (hcells : ∀ (j : Nat) x, xs[j]? = some x → w.cell? ⟨bk, o + j, none⟩ = some (.string x)) (hbk : bk < w.heap.size) (hN : xs.length ≤ 140737488355328) (hcap : xs.length ≤ c) (hlen : (Lib.join (xs.map (·.data.toList)) sep.data.toList).length ≤ 140737488355328) :
    Calls Try.prog 49 #[.slice (some ⟨bk, o, none⟩) xs.length c, .string sep] w fun e w' => e = .returned (.string ⟨(Lib.join (xs.map (·.data.toList)) sep.data.toList).toArray⟩) ∧ Below w.heap.size w w' := Any.strings_Join sh_lays156 sh_Builder_Extra_156 bk o c xs sep w hcells hbk hN hcap hlen
theorem sh_lays240 : Go.Proofs.Lays.n240 Try.prog sh_lays156_ren := {
  mixed := sh_lays156.mixed
  f240 := sh_lays156.f240
  f276 := sh_lays156.f276
  t0 := sh_lays156.t0
  a0 := sh_lays156.a0
  z0 := sh_lays156.z0
  v0 := sh_lays156.v0
  t4 := sh_lays156.t4
  a4 := sh_lays156.a4
  z4 := sh_lays156.z4
  v4 := sh_lays156.v4
  t9 := sh_lays156.t9
  a9 := sh_lays156.a9
  z9 := sh_lays156.z9
  v9 := sh_lays156.v9
  t20 := sh_lays156.t20
  a20 := sh_lays156.a20
  z20 := sh_lays156.z20
  v20 := sh_lays156.v20
  t70 := sh_lays156.t70
  a70 := sh_lays156.a70
  z70 := sh_lays156.z70
  v70 := sh_lays156.v70
  t72 := sh_lays156.t72
  a72 := sh_lays156.a72
  z72 := sh_lays156.z72
  v72 := sh_lays156.v72
  t164 := sh_lays156.t164
  a164 := sh_lays156.a164
  z164 := sh_lays156.z164
  v164 := sh_lays156.v164 }
end Go.Proofs.Ytgbekbofeaoniaa
namespace Go.Proofs.Ytgbekbofeaoniaa
open Go Go.RowKit
def ccF : FSpec := fun l es => match l, es with
  | [.ptr 0 0], [.cells 103 [.nilp, .nils]] => some ([], .tup [], [some (.cells 103 [.ptr 0 0, .nils])])
  | [.ptr 0 0], [.cells 103 [.ptr 0 0, .sl 1 1 0 n], .ints 5 .u8 b] => some ([], .tup [], [some (.cells 103 [.ptr 0 0, .sl 1 1 0 n]), some (.ints 5 .u8 b)])
  | _, _ => none
theorem nf_frozen {w : World} {b : Nat} {cs : Array Value} {t : TypeId} {fr : Nat × Nat} {n k : Nat} (h : w.heap[b]? = some (.cells cs t fr)) (hf : NF fr n) (hk : k < n) : w.frozen? ⟨b, k, none⟩ = false := by
  have := hf.get k hk
  simp [World.frozen?, h]
  omega
theorem sh_cell {w : World} {b : Nat} {cs : Array Value} {t : TypeId} {fr : Nat × Nat} (h : w.heap[b]? = some (.cells cs t fr)) (k : Nat) : w.cell? ⟨b, k, none⟩ = cs[k]? := by simp [World.cell?, h]
theorem cc_g : GSOK Try.prog 78 (fG ccF) := by
  refine fok_snd (fn := Try.f78) ⟨Try.func78, by kernel_rfl, by kernel_rfl, by kernel_rfl⟩ fun l es obs v es' hF hob => ?_
  unfold ccF at hF
  split at hF
  · simp only [Option.some.injEq, Prod.mk.injEq] at hF
    obtain ⟨rfl, rfl, rfl⟩ := hF
    intro F Ob W0 A R w cl hA1 hA2 hH hc
    obtain ⟨hl, hr⟩ := hc
    match cl, hl with
    | [c], _ =>
      have r := hr 0 _ _ rfl rfl
      cases r with
      | ptr _ _ b hR =>
      obtain ⟨b', hb', hh⟩ := hH.ent 0 (.cells 103 [.nilp, .nils]) rfl
      rw [hR] at hb'
      cases hb'
      obtain ⟨vs, fr, hw, hnf, hvl, hcells⟩ := hh
      match vs, hvl with
      | [v0, v1], _ =>
        have r0 := (hcells 0 _ _ rfl rfl).2
        have r1 := (hcells 1 _ _ rfl rfl).2
        cases r0
        cases r1
        refine (Go.Proofs.Any.Builder_copyCheck_fresh sh_lays240 sh_Builder_Extra_156.toX72 b w (by rw [sh_cell hw]; rfl) (by unfold World.shape?; rw [hw]; rfl) (nf_frozen hw hnf (by decide))).mono fun en w' ⟨he, hw'⟩ => ?_
        subst hw'
        have hset : (w.setCell ⟨b, 0, none⟩ (.pointer (some ⟨b, 0, none⟩))).heap[b]? = some (.cells #[.pointer (some ⟨b, 0, none⟩), .slice none 0 0] 103 fr) := by
          simp [World.setCell, Array.getElem?_modify, hw]
        obtain ⟨p1, p2⟩ := hH.upd (en := .cells 103 [.ptr 0 0, .nils]) (e := .cells 103 [.nilp, .nils]) (i := 0) rfl hR (Ext.setCell (O := fun g => g = b) w (.pointer (some ⟨b, 0, none⟩)) rfl) ⟨[.pointer (some ⟨b, 0, none⟩), .slice none 0 0], fr, hset, hnf, rfl, fun j x v hx hv => by
          match j with
          | 0 => cases hx; cases hv; exact ⟨rfl, .ptr _ _ _ hR⟩
          | 1 => cases hx; cases hv; exact ⟨rfl, .nils⟩
          | j + 2 => cases hx⟩
        refine ⟨R, .tup [], _, .tuple #[], ?_, he, hA2, p1, .tup [] [] rfl (fun j x v hx => by cases hx)⟩
        refine ⟨[some 0], ?_⟩
        (repeat' (first | (refine xI (fun hfk => ?_) (fun hfk => ?_) <;> ((try (first | replace hfk := oT hfk | replace hfk := oF hfk | simp only [oD, ne_eq, reduceCtorEq] at hfk)); (try exact oX))) | (refine And.intro ?ob ?_; (case ob => (exact oZ))) | exact True.intro | (show _ = _; first | exact oY | exact rfl) | exact oW | (apply And.intro)))
  · simp only [Option.some.injEq, Prod.mk.injEq] at hF
    obtain ⟨rfl, rfl, rfl⟩ := hF
    intro F Ob W0 A R w cl hA1 hA2 hH hc
    obtain ⟨hl, hr⟩ := hc
    match cl, hl with
    | [c], _ =>
      have r := hr 0 _ _ rfl rfl
      cases r with
      | ptr _ _ b hR =>
      obtain ⟨b', hb', hh⟩ := hH.ent 0 (.cells 103 [.ptr 0 0, .sl 1 1 0 _]) rfl
      rw [hR] at hb'
      cases hb'
      obtain ⟨vs, fr, hw, hnf, hvl, hcells⟩ := hh
      match vs, hvl with
      | [v0, v1], _ =>
        have r0 := (hcells 0 _ _ rfl rfl).2
        cases r0 with
        | ptr _ _ b2 hR2 =>
        rw [hR] at hR2
        cases hR2
        refine (Go.Proofs.Any.Builder_copyCheck_used sh_lays240 sh_Builder_Extra_156.toX72 b w (by rw [sh_cell hw]; rfl)).mono fun en w' ⟨he, hw'⟩ => ?_
        subst hw'
        refine ⟨R, .tup [], _, .tuple #[], ?_, he, hA2, hH, .tup [] [] rfl (fun j x v hx => by cases hx)⟩
        refine ⟨[some 0, some 1], ?_⟩
        (repeat' (first | (refine xI (fun hfk => ?_) (fun hfk => ?_) <;> ((try (first | replace hfk := oT hfk | replace hfk := oF hfk | simp only [oD, ne_eq, reduceCtorEq] at hfk)); (try exact oX))) | (refine And.intro ?ob ?_; (case ob => (exact oZ))) | exact True.intro | (show _ = _; first | exact oY | exact rfl) | exact oW | (apply And.intro)))
  · cases hF
theorem st_walk (w : World) (b g n c : Nat) (p : Value) (cur : Array Value) (frb frg : Nat × Nat) (lb : List UInt8) (hb : w.heap[b]? = some (.cells #[p, .slice (some ⟨g, 0, none⟩) n c] 103 frb)) (hg : w.heap[g]? = some (.cells cur 5 frg))
    (hn : n = lb.length) (h0 : lb ≠ []) (hc : n ≤ c) (hcm : c ≤ maxLen) (hsz : n ≤ cur.size) (hcell : ∀ (j : Nat) x, lb[j]? = some x → cur[j]? = some (.int .u8 (x.toNat : Int))) :
    Calls Try.prog 50 #[.pointer (some ⟨b, 0, none⟩)] w fun e w' => e = .returned (.string ⟨lb.toArray⟩) ∧ w' = w.drew.freeze ⟨g, 0, none⟩ n := by
  subst hn
  have hl0 : lb.length ≠ 0 := by simpa using h0
  have c1 : w.drew.cell? ⟨b, 1, none⟩ = some (.slice (some ⟨g, 0, none⟩) lb.length c) := by
    have : w.drew.heap[b]? = some (.cells #[p, .slice (some ⟨g, 0, none⟩) lb.length c] 103 frb) := hb
    rw [sh_cell this]; rfl
  have hSD : (Builtin.unsafeSliceData_ #[38] 146 #[.slice (some ⟨g, 0, none⟩) lb.length c]).run Try.prog w.drew = .ok (.pointer (some ⟨g, 0, none⟩)) w.drew :=
    Lib.run_unsafeSliceData_row _ _ _ _ _ _ (by omega)
  have hUS : (Builtin.unsafeString_ #[146, 3] 9 #[.pointer (some ⟨g, 0, none⟩), .int .i64 lb.length]).run Try.prog w.drew = .ok (.string ⟨lb.toArray⟩) (w.drew.freeze ⟨g, 0, none⟩ lb.length) := by
    refine Lib.run_unsafeString_row w.drew 146 3 9 5 Try.underlying146 (by kernel_rfl) g cur.size (by have hg' : w.drew.heap[g]? = some (.cells cur 5 frg) := hg; simp [World.shape?, hg']) lb h0 hsz (by unfold maxLen at hcm; omega) ?_
    intro j x hx
    have hg' : w.drew.heap[g]? = some (.cells cur 5 frg) := hg
    rw [Addr.add_mid, sh_cell hg', Nat.zero_add]
    exact hcell j x hx
  have hmx : Try.prog.follows Departure.mixedOrders = true := mixed
  go_enter Try.func50, Try.ntmps50
  go_wp2
  go_region_o
  all_goals (go_wp2; go_ret; exact ⟨rfl, rfl⟩)
theorem freeze_n {w : World} {b : Nat} {vs : Array Value} {t : TypeId} {fr : Nat × Nat} (hw : w.heap[b]? = some (.cells vs t fr)) (a n : Nat) (hn : n ≠ 0) : Ext (fun g => g = b) w (w.freeze ⟨b, a, none⟩ n) := by
  obtain ⟨lo, hi⟩ := fr
  have hb : ∃ fr', (w.freeze ⟨b, a, none⟩ n).heap[b]? = some (.cells vs t fr') := by
    unfold World.freeze
    rw [if_neg hn]
    simp only [Array.getElem?_modify, if_pos, hw, Option.map_some]
    exact ⟨_, rfl⟩
  have ho : ∀ g, g ≠ b → (w.freeze ⟨b, a, none⟩ n).heap[g]? = w.heap[g]? := by
    intro g hg
    unfold World.freeze
    rw [if_neg hn]
    simp only [Array.getElem?_modify]
    rw [if_neg (fun h => hg h.symm)]
  obtain ⟨fr', hb⟩ := hb
  refine ⟨by unfold World.freeze; rw [if_neg hn], by unfold World.freeze; rw [if_neg hn], by unfold World.freeze; rw [if_neg hn], by unfold World.freeze; rw [if_neg hn]; simp, fun g _ hn => ho g hn, fun g s hs => ?_⟩
  by_cases hg : g = b
  · subst hg
    unfold World.shape? at hs ⊢
    rw [hw] at hs
    rw [hb]
    exact hs
  · rw [shape_of_block (ho g hg)]; exact hs
def stF : FSpec := fun l es => match l, es with
  | [.ptr 0 0], [.cells 103 [.ptr 0 0, .sl 1 1 0 n], .ints 5 .u8 b] => some ([n = b.length, 0 < n, Bytes b], .str (b.map fun n => UInt8.ofNat n.toNat), [none, none])
  | _, _ => none
theorem st_g : GSOK Try.prog 50 (fG stF) := by
  refine fok_snd (fn := Try.f50) ⟨Try.func50, by kernel_rfl, by kernel_rfl, by kernel_rfl⟩ fun l es obs v es' hF hob => ?_
  unfold stF at hF
  split at hF
  rotate_left
  · cases hF
  rename_i n bs
  simp only [Option.some.injEq, Prod.mk.injEq] at hF
  obtain ⟨rfl, rfl, rfl⟩ := hF
  simp only [List.mem_cons, List.not_mem_nil, or_false, forall_eq_or_imp, forall_eq] at hob
  obtain ⟨rfl, hn0, hB⟩ := hob
  intro F Ob W0 A R w cl hA1 hA2 hH hc
  obtain ⟨hl, hr⟩ := hc
  match cl, hl with
  | [c], _ =>
    have r := hr 0 _ _ rfl rfl
    cases r with
    | ptr _ _ b hR =>
    obtain ⟨b', hb', hh⟩ := hH.ent 0 (.cells 103 [.ptr 0 0, .sl 1 1 0 bs.length]) rfl
    rw [hR] at hb'
    cases hb'
    obtain ⟨vs, fr, hw, hnf, hvl, hcells⟩ := hh
    match vs, hvl with
    | [v0, v1], _ =>
      have r0 := (hcells 0 _ _ rfl rfl).2
      have r1 := (hcells 1 _ _ rfl rfl).2
      cases r0 with
      | ptr _ _ b2 hR2 =>
      rw [hR] at hR2
      cases hR2
      generalize hlen : bs.length = n at r1 hn0
      cases r1 with
      | slnil => omega
      | sl _ _ _ _ g cp off sh hRg hn hcm hof hss hl0 =>
      have h0 := hof (by omega)
      replace h0 : off = 0 := by omega
      subst h0
      obtain ⟨us, frg, g1, g2, g3, g4⟩ := ent_ints hH (i := 1) (t := 5) (k := .u8) (l := bs) rfl hRg
      have hlb : (bs.map fun n => UInt8.ofNat n.toNat).length = n := by rw [List.length_map]; exact hlen
      have hw' : w.heap[b]? = some (.cells #[.pointer (some ⟨b, 0, none⟩), .slice (some ⟨g, 0, none⟩) n cp] 103 fr) := hw
      refine (st_walk w b g n cp _ us.toArray fr frg (bs.map fun n => UInt8.ofNat n.toNat) hw' g1 hlb.symm (fun k => by rw [k] at hlb; simp at hlb; omega) hn hcm (by simp; omega) (fun j x hj => ?_)).mono fun en w' ⟨he, hw2⟩ => ?_
      · rw [List.getElem?_map] at hj
        obtain ⟨y, hy, rfl⟩ := opt_map hj
        have := g4 j y hy
        have hb2 := hB y (List.mem_of_getElem? hy)
        simp only [List.getElem?_toArray]
        rw [this]
        have : ((UInt8.ofNat y.toNat).toNat : Int) = y := by
          rw [UInt8.toNat_ofNat', Nat.mod_eq_of_lt (show y.toNat < 2 ^ 8 by omega)]; omega
        rw [this]
      · subst hw2
        have hgd : w.drew.heap[g]? = some (.cells us.toArray 5 frg) := g1
        have hx : Ext (fun q => q = g) w (w.drew.freeze ⟨g, 0, none⟩ n) := (Ext.drew _ w).trans (freeze_n hgd 0 n (by omega)) (fun _ _ k => k)
        obtain ⟨d1, _⟩ := hH.del 0
        obtain ⟨p1, _⟩ := d1.give (i := 1) (e := .ints 5 .u8 bs) rfl hRg hx
        refine ⟨R, .str (bs.map fun n => UInt8.ofNat n.toNat), _, _, ?_, he, hA2, p1, .str _⟩
        refine ⟨[some 0, some 1], ?_⟩
        (repeat' (first | (refine xI (fun hfk => ?_) (fun hfk => ?_) <;> ((try (first | replace hfk := oT hfk | replace hfk := oF hfk | simp only [oD, ne_eq, reduceCtorEq] at hfk)); (try exact oX))) | (refine And.intro ?ob ?_; (case ob => (exact oZ))) | exact True.intro | (show _ = _; first | exact oY | exact rfl) | exact oW | (apply And.intro)))
def wsF : FSpec := fun l es => match l, es with
  | [.ptr 0 0, .str s], [.cells 103 [.nilp, .nils]] => some ([0 < s.length, s.length ≤ 1000000000], .tup [.int .i64 (s.length : Int), .val .nilIface], [some (.cells 103 [.ptr 0 0, .sl 1 1 0 s.length]), some (.ints 5 .u8 (s.map fun c => (c.toNat : Int)))])
  | [.ptr 0 0, .str s], [.cells 103 [.ptr 0 0, .sl 1 1 0 n], .ints 5 .u8 b] => some ([n = b.length, 0 < n, n ≤ 1000000000, s.length ≤ 1000000000], .tup [.int .i64 (s.length : Int), .val .nilIface], [some (.cells 103 [.ptr 0 0, .sl 2 1 0 (n + s.length)]), none, some (.ints 5 .u8 (b ++ s.map fun c => (c.toNat : Int)))])
  | _, _ => none
theorem ws_g : GSOK Try.prog 48 (fG wsF) := by
  refine fokN (S := []) (G := glook [(78, fG ccF)]) [] pok_nil (gl_cons cc_g gl_nil) ⟨Try.func48, by kernel_rfl, by kernel_rfl, by kernel_rfl⟩ fun l es obs v es' h ho => ?_
  unfold wsF at h
  split at h
  · rename_i s
    simp only [Option.some.injEq, Prod.mk.injEq] at h
    obtain ⟨rfl, rfl, rfl⟩ := h
    simp only [List.mem_cons, List.not_mem_nil, or_false, forall_eq_or_imp, forall_eq] at ho
    obtain ⟨h0, h1⟩ := ho
    refine ⟨Nat.le_of_ble_eq_true rfl, ?_⟩
    (repeat' (first | (refine xI (fun hfk => ?_) (fun hfk => ?_) <;> ((try (first | replace hfk := oT hfk | replace hfk := oF hfk | simp only [oD, ne_eq, reduceCtorEq] at hfk)); (try exact oX))) | (refine And.intro ?ob ?_; (case ob => (exact oZ))) | exact True.intro | (show _ = _; first | exact oY | exact rfl) | exact oW | (apply And.intro)))
    (refine ⟨[0], ⟨by kernel_rfl⟩, ?_⟩)
    (repeat' (first | (refine xI (fun hfk => ?_) (fun hfk => ?_) <;> ((try (first | replace hfk := oT hfk | replace hfk := oF hfk | simp only [oD, ne_eq, reduceCtorEq] at hfk)); (try exact oX))) | (refine And.intro ?ob ?_; (case ob => (exact oZ))) | exact True.intro | (show _ = _; first | exact oY | exact rfl) | exact oW | (apply And.intro)))
    refine ⟨[some 0, some 1], ?_⟩
    (repeat' (first | (refine xI (fun hfk => ?_) (fun hfk => ?_) <;> ((try (first | replace hfk := oT hfk | replace hfk := oF hfk | simp only [oD, ne_eq, reduceCtorEq] at hfk)); (try exact oX))) | (refine And.intro ?ob ?_; (case ob => (exact oZ))) | exact True.intro | (show _ = _; first | exact oY | exact rfl) | exact oW | (apply And.intro)))
  · rename_i s n b
    simp only [Option.some.injEq, Prod.mk.injEq] at h
    obtain ⟨rfl, rfl, rfl⟩ := h
    simp only [List.mem_cons, List.not_mem_nil, or_false, forall_eq_or_imp, forall_eq] at ho
    obtain ⟨rfl, h0, h1, h2⟩ := ho
    refine ⟨Nat.le_of_ble_eq_true rfl, ?_⟩
    (repeat' (first | (refine xI (fun hfk => ?_) (fun hfk => ?_) <;> ((try (first | replace hfk := oT hfk | replace hfk := oF hfk | simp only [oD, ne_eq, reduceCtorEq] at hfk)); (try exact oX))) | (refine And.intro ?ob ?_; (case ob => (exact oZ))) | exact True.intro | (show _ = _; first | exact oY | exact rfl) | exact oW | (apply And.intro)))
    (refine ⟨[0, 1], ⟨by kernel_rfl⟩, ?_⟩)
    (repeat' (first | (refine xI (fun hfk => ?_) (fun hfk => ?_) <;> ((try (first | replace hfk := oT hfk | replace hfk := oF hfk | simp only [oD, ne_eq, reduceCtorEq] at hfk)); (try exact oX))) | (refine And.intro ?ob ?_; (case ob => (exact oZ))) | exact True.intro | (show _ = _; first | exact oY | exact rfl) | exact oW | (apply And.intro)))
    refine ⟨[some 0, some 1, some 2], ?_⟩
    (repeat' (first | (refine xI (fun hfk => ?_) (fun hfk => ?_) <;> ((try (first | replace hfk := oT hfk | replace hfk := oF hfk | simp only [oD, ne_eq, reduceCtorEq] at hfk)); (try exact oX))) | (refine And.intro ?ob ?_; (case ob => (exact oZ))) | exact True.intro | (show _ = _; first | exact oY | exact rfl) | exact oW | (apply And.intro)))
  · cases h
end Go.Proofs.Ytgbekbofeaoniaa
namespace Go.Proofs.Ytgbekbofeaoniaa
open Go Go.RowKit
theorem ext_below {w w' : World} (h : Below w.heap.size w w') : Ext (fun _ => False) w w' :=
  ⟨h.os, h.tape, h.output, h.size, fun b hb _ => h.block b hb, fun b s hs => by
    have hb : b < w.heap.size := by
      unfold World.shape? at hs
      split at hs
      · rename_i e; exact (Array.getElem?_eq_some_iff.1 e).1
      · cases hs
    unfold World.shape? at hs ⊢
    rw [h.block b hb]; exact hs⟩
end Go.Proofs.Ytgbekbofeaoniaa
namespace Go.Proofs.Ytgbekbofeaoniaa
open Go Go.RowKit
def strA : AV → List UInt8
  | .str s => s
  | _ => []
def joinV (n : Nat) (f : Nat → AV) (sep : List UInt8) : List UInt8 := Lib.join ((List.range n).map fun j => strA (f j)) sep
structure JoOK (n : Nat) (f : Nat → AV) (sep : List UInt8) : Prop where
  str : ∀ j, j < n → ∃ s, f j = .str s
  n_ : n ≤ 1000000
  len : (joinV n f sep).length ≤ 140737488355328
abbrev joinS : PSpec := fun l => match l with | [.ro 1 n f, .str sep] => some ([JoOK n f sep], .str (joinV n f sep)) | _ => none
theorem join_s : SOK Try.prog 49 joinS := by
  refine ⟨⟨_, Try.func49, by kernel_rfl, by kernel_rfl⟩, fun l obs v h ho w O cl hf hc => ?_⟩
  (unfold joinS at h; split at h; rotate_left; (focus (cases h)); rename_i n f sep; simp only [Option.some.injEq, Prod.mk.injEq] at h; obtain ⟨rfl, rfl⟩ := h; simp only [List.mem_cons, List.not_mem_nil, or_false, forall_eq_or_imp, forall_eq, false_implies, implies_true] at ho)
  obtain ⟨h1, h2, h3⟩ := ho
  obtain ⟨hl, hr⟩ := hc
  match cl, hl with
  | [c1, c2], _ =>
    have r1 := hr 0 _ _ rfl rfl
    have r2 := hr 1 _ _ rfl rfl
    cases r2
    by_cases n0 : n = 0
    · subst n0
      have e : joinV 0 f sep = [] := rfl
      rw [e]
      cases r1 with
      | ronil =>
        refine (sh_strings_Join_none none 0 ⟨sep.toArray⟩ w).mono fun en w' ⟨he, hw⟩ => ?_
        subst hw
        exact ⟨_, he, Ext.refl _ _, .str []⟩
      | roz _ _ ad c hc =>
        refine (sh_strings_Join_none (some ad) c ⟨sep.toArray⟩ w).mono fun en w' ⟨he, hw⟩ => ?_
        subst hw
        exact ⟨_, he, Ext.refl _ _, .str []⟩
      | ro _ _ _ b off c vals hn hcm hO hb hcell hsz hv =>
        refine (sh_strings_Join_none (some ⟨b, off, none⟩) c ⟨sep.toArray⟩ w).mono fun en w' ⟨he, hw⟩ => ?_
        subst hw
        exact ⟨_, he, Ext.refl _ _, .str []⟩
    · cases r1 with
      | ronil => exact absurd rfl n0
      | roz => exact absurd rfl n0
      | ro _ _ _ b off c vals hn hcm hO hb hcell hsz hv =>
        obtain ⟨xs, hxs⟩ : ∃ xs : List ByteArray, (List.range n).map (fun j => (⟨(strA (f j)).toArray⟩ : ByteArray)) = xs := ⟨_, rfl⟩
        have hlx : xs.length = n := by rw [← hxs]; simp
        have hval : xs.map (·.data.toList) = (List.range n).map fun j => strA (f j) := by rw [← hxs, List.map_map]; rfl
        have hj : Lib.join (xs.map (·.data.toList)) (⟨sep.toArray⟩ : ByteArray).data.toList = joinV n f sep := by rw [hval]; rfl
        have := sh_strings_Join b off c xs ⟨sep.toArray⟩ w (fun j x hx => by
          rw [← hxs] at hx
          simp only [List.getElem?_map] at hx
          obtain ⟨j', hj', rfl⟩ := opt_map hx
          have hjn : j < n := by have := (List.getElem?_eq_some_iff.1 hj').1; simpa using this
          have : j' = j := by rw [List.getElem?_range hjn] at hj'; exact (Option.some.inj hj').symm
          subst this
          obtain ⟨s, hs⟩ := h1 j' hjn
          have hrep := hv j' hjn
          rw [hs] at hrep
          have hc0 := hcell j' hjn 0 (by decide)
          generalize vals j' = vj at hrep hc0
          cases hrep
          rw [hs]
          rw [Nat.mul_one, Nat.add_zero] at hc0
          exact hc0) hb (by rw [hlx]; omega) (by rw [hlx]; exact hn) (by rw [hj]; exact h3)
        rw [hlx, hj] at this
        refine this.mono fun en w' ⟨he, hw⟩ => ?_
        exact ⟨_, he, ext_below hw, .str _⟩
end Go.Proofs.Ytgbekbofeaoniaa
namespace Go.Proofs.Ytgbekbofeaoniaa
open Go Go.RowKit
theorem st_empty (w : World) (b : Nat) (frb : Nat × Nat) (hb : w.heap[b]? = some (.cells #[.pointer none, .slice none 0 0] 103 frb)) :
    Calls Try.prog 50 #[.pointer (some ⟨b, 0, none⟩)] w fun e w' => e = .returned (.string .empty) ∧ w' = w.drew := by
  have c1 : w.drew.cell? ⟨b, 1, none⟩ = some (.slice none 0 0) := by
    have : w.drew.heap[b]? = some (.cells #[.pointer none, .slice none 0 0] 103 frb) := hb
    rw [sh_cell this]; rfl
  have hSD : (Builtin.unsafeSliceData_ #[38] 146 #[.slice none 0 0]).run Try.prog w.drew = .ok (.pointer none) w.drew := rfl
  have hUS : (Builtin.unsafeString_ #[146, 3] 9 #[.pointer none, .int .i64 0]).run Try.prog w.drew = .ok (.string .empty) w.drew := Lib.run_unsafeString_none _ _ _ _ _
  have hmx : Try.prog.follows Departure.mixedOrders = true := mixed
  go_enter Try.func50, Try.ntmps50
  go_wp2
  go_region_o
  all_goals (go_wp2; go_ret; exact ⟨rfl, rfl⟩)
def stE : FSpec := fun l es => match l, es with
  | [.ptr 0 0], [.cells 103 [.nilp, .nils]] => some ([], .str [], [none])
  | _, _ => none
theorem ste_g : GSOK Try.prog 50 (fG stE) := by
  refine fok_snd (fn := Try.f50) ⟨Try.func50, by kernel_rfl, by kernel_rfl, by kernel_rfl⟩ fun l es obs v es' hF hob => ?_
  unfold stE at hF
  split at hF
  rotate_left
  · cases hF
  simp only [Option.some.injEq, Prod.mk.injEq] at hF
  obtain ⟨rfl, rfl, rfl⟩ := hF
  intro F Ob W0 A R w cl hA1 hA2 hH hc
  obtain ⟨hl, hr⟩ := hc
  match cl, hl with
  | [c], _ =>
    have r := hr 0 _ _ rfl rfl
    cases r with
    | ptr _ _ b hR =>
    obtain ⟨b', hb', hh⟩ := hH.ent 0 (.cells 103 [.nilp, .nils]) rfl
    rw [hR] at hb'
    cases hb'
    obtain ⟨vs, fr, hw, hnf, hvl, hcells⟩ := hh
    match vs, hvl with
    | [v0, v1], _ =>
      have r0 := (hcells 0 _ _ rfl rfl).2
      have r1 := (hcells 1 _ _ rfl rfl).2
      cases r0
      cases r1
      refine (st_empty w b fr hw).mono fun en w' ⟨he, hw2⟩ => ?_
      subst hw2
      obtain ⟨d1, _⟩ := hH.del 0
      refine ⟨R, .str [], _, _, ?_, he, hA2, d1.quiet (Ext.drew _ w), .str _⟩
      refine ⟨[some 0], ?_⟩
      (repeat' (first | (refine xI (fun hfk => ?_) (fun hfk => ?_) <;> ((try (first | replace hfk := oT hfk | replace hfk := oF hfk | simp only [oD, ne_eq, reduceCtorEq] at hfk)); (try exact oX))) | (refine And.intro ?ob ?_; (case ob => (exact oZ))) | exact True.intro | (show _ = _; first | exact oY | exact rfl) | exact oW | (apply And.intro)))
def ljT (w : List (List UInt8)) : List UInt8 := Lib.join w [32] ++ [10]
def ljV (L : List Ln) (k : Nat) : List UInt8 := ((L.take k).map fun x => ljT x.2).flatten
theorem lj_0 (L : List Ln) : ljV L 0 = [] := rfl
theorem lj_succ {L : List Ln} {k : Nat} (h : k < L.length) : ljV L (k + 1) = ljV L k ++ ljT (L.getD k Ln.z).2 := by
  unfold ljV
  rw [List.take_add_one, List.getD_eq_getElem?_getD, List.getElem?_eq_getElem h]
  show ((List.take k L ++ [L[k]]).map _).flatten = _
  rw [List.map_append, List.flatten_append]
  exact congrArg (_ ++ ·) (List.append_nil _)
theorem lj_le {L : List Ln} : ∀ {n k : Nat}, k ≤ n → n ≤ L.length → (ljV L k).length ≤ (ljV L n).length
  | 0, k, h, _ => by
    have : k = 0 := by omega
    subst this; exact Nat.le_refl _
  | n + 1, k, h, hn => by
    by_cases e : k = n + 1
    · subst e; exact Nat.le_refl _
    · have := lj_le (L := L) (n := n) (k := k) (by omega) (by omega)
      rw [lj_succ (by omega), List.length_append]
      omega
structure LjOK (L : List Ln) : Prop where
  n100 : L.length ≤ 100000
  w100 : ∀ x ∈ L, x.2.length ≤ 100000
  len : (ljV L L.length).length ≤ 100000000
theorem ljt_pos (w : List (List UInt8)) : 0 < (ljT w).length := by unfold ljT; rw [List.length_append]; exact Nat.succ_pos _
theorem ljt_len {L : List Ln} (h : LjOK L) {k : Nat} (hk : k < L.length) : (ljT (L.getD k Ln.z).2).length ≤ 100000000 ∧ (ljV L k).length + (ljT (L.getD k Ln.z).2).length ≤ 100000000 := by
  have h1 := lj_le (L := L) (n := L.length) (k := k + 1) (by omega) (Nat.le_refl _)
  rw [lj_succ hk, List.length_append] at h1
  have := h.len
  omega
theorem jw {w : List (List UInt8)} : joinV w.length (fun k => AV.str (w.getD k [])) [32] = Lib.join w [32] := by
  unfold joinV
  congr 1
  refine List.ext_getElem (by simp) fun i h1 h2 => ?_
  simp [strA, List.getD, h2]
theorem jw_ok {L : List Ln} (h : LjOK L) {k : Nat} (hk : k < L.length) : JoOK (L.getD k Ln.z).2.length (fun j => AV.str ((L.getD k Ln.z).2.getD j [])) [32] := by
  have hm : L.getD k Ln.z ∈ L := by rw [List.getD_eq_getElem?_getD, List.getElem?_eq_getElem hk]; exact List.getElem_mem hk
  have h1 := h.w100 _ hm
  have h2 := (ljt_len h hk).1
  refine ⟨fun j _ => ⟨_, rfl⟩, by omega, ?_⟩
  rw [jw]
  unfold ljT at h2
  rw [List.length_append] at h2
  omega
theorem lj_pos (L : List Ln) {k : Nat} (h : k < L.length) : 0 < (ljV L (k + 1)).length := by
  rw [lj_succ h, List.length_append]
  have := ljt_pos (L.getD k Ln.z).2
  omega
theorem u8rt49 (s : List UInt8) : (s.map fun c => (c.toNat : Int)).map (fun n : Int => UInt8.ofNat n.toNat) = s := by
  rw [List.map_map]
  have e2 : ((fun n : Int => UInt8.ofNat n.toNat) ∘ fun c : UInt8 => (c.toNat : Int)) = id := by
    funext c
    show UInt8.ofNat ((c.toNat : Int)).toNat = c
    rw [Int.toNat_natCast]; exact UInt8.ofNat_toNat
  rw [e2, List.map_id]
theorem u8b49 (s : List UInt8) : Bytes (s.map fun c => (c.toNat : Int)) := fun x hx => by
  obtain ⟨c, _, rfl⟩ := List.mem_map.1 hx
  have := c.toNat_lt
  omega
theorem len_i64b {n : Nat} (h : n ≤ 1000000000) : (n : Int) ≤ IntKind.i64.max := by
  have : IntKind.i64.max = 9223372036854775807 := rfl
  omega
abbrev ljS (L : List Ln) : PSpec := fun l => match l with | [.ro 2 n f] => some ([n = L.length, f = (fun j => (L.getD j Ln.z).av), LjOK L], .str (ljV L L.length)) | _ => none
attribute [local irreducible] ljV
theorem lj_s (L : List Ln) : SOK Try.prog 14 (ljS L) := by
  refine sok_of (C := mkK 0 [(49, joinS)] (glook [(48, fG wsF), (50, gdis (fG stF) (fG stE))]) []) (mkK_ok (pok_cons join_s pok_nil) (gl_cons ws_g (gl_cons (gdis_ok st_g ste_g) gl_nil))) rfl mixed ⟨Try.func14, by kernel_rfl, by kernel_rfl, by kernel_rfl⟩ fun l obs v h ho => ?_
  unfold ljS at h
  split at h
  rotate_left
  · cases h
  rename_i n f
  simp only [Option.some.injEq, Prod.mk.injEq] at h
  obtain ⟨rfl, rfl⟩ := h
  simp only [List.mem_cons, List.not_mem_nil, or_false, forall_eq_or_imp, forall_eq] at ho
  obtain ⟨rfl, rfl, hT⟩ := ho
  have n1 := hT.n100
  refine ⟨Nat.le_of_ble_eq_true rfl, ?_⟩
  (repeat' (first | (refine xI (fun hfk => ?_) (fun hfk => ?_) <;> ((try (first | replace hfk := oT hfk | replace hfk := oF hfk | simp only [oD, ne_eq, reduceCtorEq] at hfk)); (try exact oX))) | (refine And.intro ?ob ?_; (case ob => (exact oZ))) | exact True.intro | (show _ = _; first | exact oY | exact rfl) | exact oW | (apply And.intro)))
  refine ⟨Nat, fun i => [(2, .str ((ByteArray.mk #[]).data.toList)), (3, .ptr 0 0), (6, .ro 2 L.length (fun j => (L.getD j Ln.z).av)), (7, .int .i64 ↑L.length), (8, .int .i64 (i : Int))],
    fun i => (match i with
      | 0 => ⟨1, [(0, some (.cells 103 [.nilp, .nils]))]⟩
      | k + 1 => ⟨2, [(0, some (.cells 103 [.ptr 0 0, .sl 1 1 0 (ljV L (k + 1)).length])), (1, some (.ints 5 .u8 ((ljV L (k + 1)).map fun c => (c.toNat : Int))))]⟩),
    fun i => i ≤ L.length, fun i => L.length - i, ⟨0, [some 0], Nat.zero_le _, ?_⟩, fun i hi => ?_⟩
  · (repeat' (first | (refine And.intro ?_ ?_) | exact True.intro | (show _ = _; with_reducible rfl) | exact Chk.mk (by kernel_rfl)))
    all_goals first | rfl | (exact fun _ _ => rfl)
  have hi : i ≤ L.length := hi
  have hjt : ∀ k, joinV (L.getD k Ln.z).snd.length (fun j => AV.str ((L.getD k Ln.z).snd.getD j [])) [32] ++ [10] = ljT (L.getD k Ln.z).2 := fun k => by unfold ljT; rw [jw]
  rcases i with _ | k
  · (repeat' (first | (refine xI (fun hfk => ?_) (fun hfk => ?_) <;> ((try (first | replace hfk := oT hfk | replace hfk := oF hfk | simp only [oD, ne_eq, reduceCtorEq] at hfk)); (try exact oX))) | (refine And.intro ?ob ?_; (case ob => (exact oZ))) | exact True.intro | (show _ = _; first | exact oY | exact rfl) | exact oW | (apply And.intro)))
    · exact jw_ok hT (k := 0) (by omega)
    · have h1 := congrArg List.length (hjt 0)
      have h2 := (ljt_len hT (k := 0) (by omega)).1
      rw [List.length_append] at h1
      exact len_i64b (Nat.le_trans (Nat.le_of_eq h1) (by omega))
    · have h1 := congrArg List.length (hjt 0)
      have h2 := ljt_len hT (k := 0) (by omega)
      have h3 := ljt_pos (L.getD 0 Ln.z).2
      (refine ⟨[0], ⟨by kernel_rfl⟩, ?_⟩)
      (repeat' (first | (refine xI (fun hfk => ?_) (fun hfk => ?_) <;> ((try (first | replace hfk := oT hfk | replace hfk := oF hfk | simp only [oD, ne_eq, reduceCtorEq] at hfk)); (try exact oX))) | (refine And.intro ?ob ?_; (case ob => (exact oZ))) | exact True.intro | (show _ = _; first | exact oY | exact rfl) | exact oW | (apply And.intro)))
      · exact Nat.le_trans (Nat.le_of_eq h1) (by omega)
      have e1 : ljV L (0 + 1) = joinV (L.getD 0 Ln.z).snd.length (fun j => AV.str ((L.getD 0 Ln.z).snd.getD j [])) [32] ++ [10] := by
        rw [lj_succ (by omega), lj_0, hjt]
        rfl
      refine ⟨1, [some 0, some 2], ?_, ?_, ?_⟩
      · dsimp only
        omega
      · dsimp only
        omega
      · (repeat' (first | (refine And.intro ?_ ?_) | exact True.intro | (show _ = _; with_reducible rfl) | exact Chk.mk (by kernel_rfl)))
        all_goals first | rfl | (exact fun _ _ => rfl) | exact congrArg (fun s : List UInt8 => s.length) e1.symm | exact congrArg (fun s : List UInt8 => s.map fun c => (c.toNat : Int)) e1.symm | skip
    · right
      (refine ⟨[0], ⟨by kernel_rfl⟩, ?_⟩)
      have e0 : L.length = 0 := by omega
      have hfin : ([] : List UInt8) = ljV L L.length := by rw [e0, lj_0]
      (repeat' (first | (refine xI (fun hfk => ?_) (fun hfk => ?_) <;> ((try (first | replace hfk := oT hfk | replace hfk := oF hfk | simp only [oD, ne_eq, reduceCtorEq] at hfk)); (try exact oX))) | (refine And.intro ?ob ?_; (case ob => (exact oZ))) | exact True.intro | (show _ = _; first | exact oY | (exact hfin; done) | exact rfl) | exact oW | (apply And.intro)))
  · (repeat' (first | (refine xI (fun hfk => ?_) (fun hfk => ?_) <;> ((try (first | replace hfk := oT hfk | replace hfk := oF hfk | simp only [oD, ne_eq, reduceCtorEq] at hfk)); (try exact oX))) | (refine And.intro ?ob ?_; (case ob => (exact oZ))) | exact True.intro | (show _ = _; first | exact oY | exact rfl) | exact oW | (apply And.intro)))
    · exact jw_ok hT (k := k + 1) (by omega)
    · have h1 := congrArg List.length (hjt (k + 1))
      have h2 := (ljt_len hT (k := k + 1) (by omega)).1
      rw [List.length_append] at h1
      exact len_i64b (Nat.le_trans (Nat.le_of_eq h1) (by omega))
    · have h1 := congrArg List.length (hjt (k + 1))
      have h2 := ljt_len hT (k := k + 1) (by omega)
      have h3 := ljt_pos (L.getD (k + 1) Ln.z).2
      have hp := lj_pos L (k := k) (by omega)
      (refine ⟨[0, 1], ⟨by kernel_rfl⟩, ?_⟩)
      (repeat' (first | (refine xI (fun hfk => ?_) (fun hfk => ?_) <;> ((try (first | replace hfk := oT hfk | replace hfk := oF hfk | simp only [oD, ne_eq, reduceCtorEq] at hfk)); (try exact oX))) | (refine And.intro ?ob ?_; (case ob => (exact oZ))) | exact True.intro | (show _ = _; first | exact oY | exact rfl) | exact oW | (apply And.intro)))
      · exact Nat.le_trans (Nat.le_of_eq h1) (by omega)
      have e1 : ljV L (k + 1 + 1) = ljV L (k + 1) ++ (joinV (L.getD (k + 1) Ln.z).snd.length (fun j => AV.str ((L.getD (k + 1) Ln.z).snd.getD j [])) [32] ++ [10]) := by
        rw [lj_succ (by omega), hjt]
      refine ⟨k + 1 + 1, [some 0, some 3], ?_, ?_, ?_⟩
      · dsimp only
        omega
      · dsimp only
        omega
      · (repeat' (first | (refine And.intro ?_ ?_) | exact True.intro | (show _ = _; with_reducible rfl) | exact Chk.mk (by kernel_rfl)))
        all_goals first | rfl | (exact fun _ _ => rfl) | (exact List.length_append.symm.trans (congrArg (fun s : List UInt8 => s.length) e1.symm)) | (exact List.map_append.symm.trans (congrArg (fun s : List UInt8 => s.map fun c => (c.toNat : Int)) e1.symm)) | skip
    · have hp := lj_pos L (k := k) (by omega)
      left
      (refine ⟨[0, 1], ⟨by kernel_rfl⟩, ?_⟩)
      (repeat' (first | (refine xI (fun hfk => ?_) (fun hfk => ?_) <;> ((try (first | replace hfk := oT hfk | replace hfk := oF hfk | simp only [oD, ne_eq, reduceCtorEq] at hfk)); (try exact oX))) | (refine And.intro ?ob ?_; (case ob => (exact oZ))) | exact True.intro | (show _ = _; first | exact oY | exact rfl) | exact oW | (apply And.intro)))
      · exact u8b49 _
      have e0 : k + 1 = L.length := by omega
      have hfin : ((ljV L (k + 1)).map fun c => (c.toNat : Int)).map (fun n : Int => UInt8.ofNat n.toNat) = ljV L L.length := by rw [u8rt49, e0]
      (repeat' (first | (refine xI (fun hfk => ?_) (fun hfk => ?_) <;> ((try (first | replace hfk := oT hfk | replace hfk := oF hfk | simp only [oD, ne_eq, reduceCtorEq] at hfk)); (try exact oX))) | (refine And.intro ?ob ?_; (case ob => (exact oZ))) | exact True.intro | (show _ = _; first | exact oY | (exact hfin; done) | exact rfl) | exact oW | (apply And.intro)))
end Go.Proofs.Ytgbekbofeaoniaa
namespace Go.Proofs.Ytgbekbofeaoniaa
open Go Go.RowKit
abbrev ownS (L : List Ln) : PSpec := fun l => match l with | [.ro 2 n f] => some ([n = L.length, f = (fun j => (L.getD j Ln.z).av), L.length ≤ 100000], lnsA L) | _ => none
theorem own49_s (L : List Ln) : SOK Try.prog 12 (ownS L) := by
  refine sok_of (C := mkE 0 [] noG [] [] []) (mkE_ok pok_nil noG_ok dl_nil) rfl mixed ⟨Try.func12, by kernel_rfl, by kernel_rfl, by kernel_rfl⟩ fun l obs v h ho => ?_
  unfold ownS at h
  split at h
  rotate_left
  · cases h
  rename_i n f
  simp only [Option.some.injEq, Prod.mk.injEq] at h
  obtain ⟨rfl, rfl⟩ := h
  simp only [List.mem_cons, List.not_mem_nil, or_false, forall_eq_or_imp, forall_eq] at ho
  obtain ⟨rfl, rfl, n1⟩ := ho
  refine ⟨Nat.le_of_ble_eq_true rfl, ?_⟩
  (repeat' (first | (refine xI (fun hfk => ?_) (fun hfk => ?_) <;> ((try (first | replace hfk := oT hfk | replace hfk := oF hfk | simp only [oD, ne_eq, reduceCtorEq] at hfk)); (try exact oX))) | (refine And.intro ?ob ?_; (case ob => (exact oZ))) | exact True.intro | (show _ = _; first | exact oY | exact rfl) | exact oW | (apply And.intro)))
  refine ⟨Nat, fun i => [(2, .nils), (3, .sl 0 2 0 i), (6, .ro 2 L.length (fun j => (L.getD j Ln.z).av)), (7, .int .i64 ↑L.length), (8, .int .i64 (i : Int))],
    fun i => ⟨1, [(0, some (.recs 100 2 i (fun j => (L.getD j Ln.z).av)))]⟩,
    fun i => i ≤ L.length, fun i => L.length - i, ⟨0, [none], Nat.zero_le _, ?_⟩, fun i hi => ?_⟩
  · (repeat' (first | (refine And.intro ?_ ?_) | exact True.intro | (show _ = _; with_reducible rfl) | exact Chk.mk (by kernel_rfl)))
    all_goals first | rfl | (exact fun _ _ => rfl)
  have hi : i ≤ L.length := hi
  (repeat' (first | (refine xI (fun hfk => ?_) (fun hfk => ?_) <;> ((try (first | replace hfk := oT hfk | replace hfk := oF hfk | simp only [oD, ne_eq, reduceCtorEq] at hfk)); (try exact oX))) | (refine And.intro ?ob ?_; (case ob => (exact oZ))) | exact True.intro | (show _ = _; first | exact oY | exact rfl) | exact oW | (apply And.intro)))
  · refine ⟨i + 1, [some 3], ?_, ?_, ?_⟩
    · dsimp only
      omega
    · dsimp only
      omega
    · (repeat' (first | (refine And.intro ?_ ?_) | exact True.intro | (show _ = _; with_reducible rfl) | exact Chk.mk (by kernel_rfl)))
      all_goals first | rfl | (exact fun _ _ => rfl) | skip
      intro j hj
      show (if j < i then (L.getD j Ln.z).av else chunkA _ [AV.int IntKind.i64 (L.getD (i : Int).toNat Ln.z).fst, wA (L.getD (i : Int).toNat Ln.z).snd] (0 + (j - i))) = (L.getD j Ln.z).av
      by_cases k : j < i
      · rw [if_pos k]
      · have e : j = i := by omega
        subst e
        rw [if_neg k, Nat.sub_self]
        rfl
  · intro j hj
    show (L.getD (0 + j) Ln.z).av = _
    rw [Nat.zero_add]
def lwV (w : List (List UInt8)) (k : Nat) : List UInt8 := Lib.join (w.take k) [32]
attribute [local irreducible] ljV lwV
end Go.Proofs.Ytgbekbofeaoniaa
namespace Go.Proofs.Ytgbekbofeaoniaa
open Go Go.RowKit
def GoodB (w : List UInt8) : Prop := w ≠ [] ∧ ∀ c ∈ w, mkP (c.toNat : Int) = true
def jl : List (List UInt8) → Nat
  | [] => 0
  | w :: W => w.length + 1 + jl W
theorem jl_app : ∀ A B : List (List UInt8), jl (A ++ B) = jl A + jl B
  | [], B => by show jl B = 0 + jl B; omega
  | w :: A, B => by
    show w.length + 1 + jl (A ++ B) = (w.length + 1 + jl A) + jl B
    rw [jl_app A B]
    omega
theorem jl_flush (out : List (List UInt8)) (w : List UInt8) : jl (flushW out w) = jl out + (if w = [] then 0 else w.length + 1) := by
  unfold flushW
  split
  · omega
  · rw [jl_app]
    show jl out + (w.length + 1 + 0) = _
    omega
theorem dw_good : ∀ (l : List UInt8) (i : Nat) (w : List UInt8) (out : List (List UInt8)), (∀ x ∈ out, GoodB x) → (∀ c ∈ w, mkP (c.toNat : Int) = true) → (dwV l i w out).bad = none →
    (∀ x ∈ (dwV l i w out).out, GoodB x) ∧ jl (dwV l i w out).out ≤ jl out + (if w = [] then 0 else w.length) + l.length + 1
  | [], i, w, out, ho, hw, _ => by
    have gf : ∀ x ∈ flushW out w, GoodB x := fun x hx => by
      unfold flushW at hx
      split at hx
      · exact ho x hx
      · rename_i e
        rcases List.mem_append.1 hx with k | k
        · exact ho x k
        · rw [List.mem_singleton.1 k]; exact ⟨e, hw⟩
    refine ⟨gf, ?_⟩
    show jl (flushW out w) ≤ _
    rw [jl_flush]
    split <;> omega
  | c :: r, i, w, out, ho, hw, hb => by
    have gf : ∀ x ∈ flushW out w, GoodB x := fun x hx => by
      unfold flushW at hx
      split at hx
      · exact ho x hx
      · rename_i e
        rcases List.mem_append.1 hx with k | k
        · exact ho x k
        · rw [List.mem_singleton.1 k]; exact ⟨e, hw⟩
    have hf := jl_flush out w
    rw [dwv_cons] at hb ⊢
    rw [List.length_cons]
    by_cases h1 : c.toNat = 35
    · rw [if_pos h1]
      refine ⟨gf, ?_⟩
      show jl (flushW out w) ≤ _
      rw [hf]
      split <;> omega
    · rw [if_neg h1] at hb ⊢
      by_cases h2 : bwP (c.toNat : Int) = true
      · rw [if_pos h2] at hb ⊢
        obtain ⟨q1, q2⟩ := dw_good r (i + 1) [] (flushW out w) gf (fun c hc => by cases hc) hb
        refine ⟨q1, Nat.le_trans q2 ?_⟩
        rw [hf, if_pos rfl]
        split <;> omega
      · rw [if_neg h2] at hb ⊢
        by_cases h3 : c.toNat < 33 ∨ 126 < c.toNat
        · rw [if_pos h3] at hb
          cases hb
        · rw [if_neg h3] at hb ⊢
          have hmk : mkP (c.toNat : Int) = true := decide_eq_true (by omega)
          obtain ⟨q1, q2⟩ := dw_good r (i + 1) (w ++ [c]) out ho (fun x hx => by
            rcases List.mem_append.1 hx with k | k
            · exact hw x k
            · rw [List.mem_singleton.1 k]; exact hmk) hb
          refine ⟨q1, Nat.le_trans q2 ?_⟩
          have e : w ++ [c] ≠ [] := by simp
          rw [if_neg e, List.length_append]
          show _ + (w.length + 1) + _ + 1 ≤ _
          split
          · rename_i e0; subst e0; show jl out + (0 + 1) + r.length + 1 ≤ _; omega
          · omega
theorem join2 (a b : List UInt8) (r : List (List UInt8)) : Lib.join (a :: b :: r) [32] = a ++ 32 :: Lib.join (b :: r) [32] := by
  rw [Lib.join_cons, Lib.join_cons]
  unfold Lib.joinTail
  simp
theorem dw_join : ∀ (W : List (List UInt8)) (w : List UInt8) (i : Nat) (out : List (List UInt8)), (∀ x ∈ w :: W, GoodB x) → dwV (Lib.join (w :: W) [32]) i [] out = ⟨none, out ++ w :: W⟩
  | [], w, i, out, h => by
    have hw := h w List.mem_cons_self
    rw [Lib.join_one]
    have := dw_marks w [] hw.2 i [] out
    rw [List.append_nil, List.nil_append] at this
    rw [this]
    unfold dwV
    exact congrArg (fun o => (⟨none, o⟩ : DwR)) (if_neg hw.1)
  | b :: W, w, i, out, h => by
    have hw := h w List.mem_cons_self
    rw [join2, dw_marks w _ hw.2, List.nil_append, dwv_cons, if_neg (by decide), if_pos (by decide)]
    have e : flushW out w = out ++ [w] := if_neg hw.1
    rw [e, dw_join W b _ _ (fun x hx => h x (List.mem_cons_of_mem _ hx)), List.append_assoc]
    rfl
theorem join_nl : ∀ (W : List (List UInt8)) (w : List UInt8), (∀ x ∈ w :: W, GoodB x) → ∀ c ∈ Lib.join (w :: W) [32], nlP (c.toNat : Int) = true
  | [], w, h, c, hc => by
    rw [Lib.join_one] at hc
    exact nl_of_mk ((h w List.mem_cons_self).2 c hc)
  | b :: W, w, h, c, hc => by
    rw [join2] at hc
    rcases List.mem_append.1 hc with k | k
    · exact nl_of_mk ((h w List.mem_cons_self).2 c k)
    · rcases List.mem_cons.1 k with rfl | k
      · decide
      · exact join_nl W b (fun x hx => h x (List.mem_cons_of_mem _ hx)) c k
theorem join_len : ∀ (W : List (List UInt8)) (w : List UInt8), (Lib.join (w :: W) [32]).length + 1 = jl (w :: W)
  | [], w => by
    rw [Lib.join_one]
    show w.length + 1 = w.length + 1 + 0
    omega
  | b :: W, w => by
    have ih := join_len W b
    rw [join2, List.length_append, List.length_cons]
    show _ = w.length + 1 + jl (b :: W)
    omega
structure GoodW (W : List (List UInt8)) : Prop where
  ne : W ≠ []
  all : ∀ x ∈ W, GoodB x
theorem ljt_jl {W : List (List UInt8)} (h : W ≠ []) : (ljT W).length = jl W := by
  obtain ⟨w, W', rfl⟩ := List.exists_cons_of_ne_nil h
  unfold ljT
  rw [List.length_append]
  exact join_len W' w
theorem line_ljt {W : List (List UInt8)} (h : GoodW W) (rest : List UInt8) : lnX (ljT W ++ rest) = 0 ∧ lnC (ljT W ++ rest) = 1 ∧ lnW (ljT W ++ rest) = W ∧ lnE (ljT W ++ rest) + 1 = (ljT W).length := by
  obtain ⟨w, W', rfl⟩ := List.exists_cons_of_ne_nil h.ne
  have e0 : ljT (w :: W') ++ rest = Lib.join (w :: W') [32] ++ 10 :: rest := by
    unfold ljT
    rw [List.append_assoc]
    rfl
  have e1 : eolN (10 :: rest) = 0 := by
    show cntN nlP _ = 0
    rw [cntN]
    exact if_neg (by decide)
  have e2 : eolN (ljT (w :: W') ++ rest) = (Lib.join (w :: W') [32]).length := by
    rw [e0, eol_app (join_nl W' w h.all), e1]
    rfl
  have e3 : (ljT (w :: W') ++ rest).take (Lib.join (w :: W') [32]).length = Lib.join (w :: W') [32] := by
    rw [e0]
    simp
  have hd := line_doc (ljT (w :: W') ++ rest)
  rw [e2, e3, dw_join W' w 0 [] h.all] at hd
  rcases hd with ⟨_, d2, d3, d4⟩ | ⟨d1, _⟩
  · have d4 : lnW (ljT (w :: W') ++ rest) = w :: W' := d4
    refine ⟨d2, if_pos ⟨d2, by rw [d4]; exact List.cons_ne_nil _ _⟩, d4, ?_⟩
    rw [d3]
    unfold ljT
    rw [List.length_append]
    rfl
  · cases d1
def tot : List Ln → Nat
  | [] => 0
  | x :: L => jl x.2 + tot L
theorem tot_app : ∀ A B : List Ln, tot (A ++ B) = tot A + tot B
  | [], B => by show tot B = 0 + tot B; omega
  | w :: A, B => by
    show jl w.2 + tot (A ++ B) = (jl w.2 + tot A) + tot B
    rw [tot_app A B]
    omega
theorem ls_good (s : List UInt8) : ∀ (k a n : Nat) (out : List Ln) (v : Int), a ≤ s.length + 1 → (∀ x ∈ out, GoodW x.2) → (lsV s k a n out v).bad = none →
    (∀ x ∈ (lsV s k a n out v).out, GoodW x.2) ∧ tot (lsV s k a n out v).out ≤ tot out + (s.length + 1 - a)
  | 0, a, n, out, v, ha, ho, _ => ⟨ho, Nat.le_add_right _ _⟩
  | k + 1, a, n, out, v, ha, ho, hb => by
    rw [lsV] at hb ⊢
    by_cases h1 : s.length < a
    · rw [if_pos h1]
      exact ⟨ho, Nat.le_add_right _ _⟩
    rw [if_neg h1] at hb ⊢
    by_cases h2 : lnX (s.drop a) ≠ 0
    · rw [if_pos h2] at hb
      cases hb
    rw [if_neg h2] at hb ⊢
    have hE := lnV_le ((s.drop a).length + 1) (s.drop a)
    have hE : lnE (s.drop a) ≤ (s.drop a).length := hE
    rw [List.length_drop] at hE
    rcases line_doc (s.drop a) with ⟨d1, d2, d3, d4⟩ | ⟨d1, d2⟩
    rotate_left
    · exact absurd d2 (by omega)
    have hg := dw_good _ 0 [] [] (fun x hx => by cases hx) (fun c hc => by cases hc) d1
    rw [← d4, List.length_take, if_pos rfl] at hg
    obtain ⟨q1, q2⟩ := hg
    have q2 : jl (lnW (s.drop a)) ≤ 0 + 0 + min (eolN (s.drop a)) (s.drop a).length + 1 := q2
    by_cases h3 : lnC (s.drop a) = 1
    · rw [if_pos h3] at hb ⊢
      obtain ⟨w1, w2⟩ := lnC1 h3
      obtain ⟨r1, r2⟩ := ls_good s k _ _ _ _ (by omega) (fun x hx => by
        rcases List.mem_append.1 hx with k | k
        · exact ho x k
        · rw [List.mem_singleton.1 k]; exact ⟨w2, q1⟩) hb
      refine ⟨r1, Nat.le_trans r2 ?_⟩
      rw [tot_app]
      show tot out + (jl (lnW (s.drop a)) + 0) + _ ≤ _
      omega
    · rw [if_neg h3] at hb ⊢
      obtain ⟨r1, r2⟩ := ls_good s k _ _ _ _ (by omega) ho hb
      refine ⟨r1, Nat.le_trans r2 ?_⟩
      omega
theorem tot_lj : ∀ L : List Ln, (∀ x ∈ L, GoodW x.2) → (ljV L L.length).length = tot L := by
  intro L h
  unfold ljV
  rw [List.take_length]
  induction L with
  | nil => rfl
  | cons x L ih =>
    rw [List.map_cons, List.flatten_cons, List.length_append, ih fun y hy => h y (List.mem_cons_of_mem _ hy), ljt_jl (h x List.mem_cons_self).ne]
    rfl
def nbL (L : List Ln) (k : Nat) : List Ln := (List.range k).map fun (i : Nat) => (((i + 1 : Nat) : Int), (L.getD i Ln.z).2)
theorem nb_len (L : List Ln) (k : Nat) : (nbL L k).length = k := by
  unfold nbL
  simp
theorem nb_succ (L : List Ln) (k : Nat) : nbL L (k + 1) = nbL L k ++ [(((k + 1 : Nat) : Int), (L.getD k Ln.z).2)] := by
  unfold nbL
  rw [List.range_succ, List.map_append]
  rfl
theorem lj_rest (L : List Ln) {k : Nat} (hk : k < L.length) : ∃ rest, (ljV L L.length).drop (ljV L k).length = ljT (L.getD k Ln.z).2 ++ rest := by
  have e : L.take L.length = L.take (k + 1) ++ L.drop (k + 1) := by rw [List.take_length, List.take_append_drop]
  refine ⟨((L.drop (k + 1)).map fun x => ljT x.2).flatten, ?_⟩
  have e2 : ljV L L.length = ljV L (k + 1) ++ ((L.drop (k + 1)).map fun x => ljT x.2).flatten := by
    unfold ljV
    rw [e, List.map_append, List.flatten_append]
  rw [e2, lj_succ hk, List.append_assoc, drop_pre]
theorem lj_back {L : List Ln} (hg : ∀ x ∈ L, GoodW x.2) (h4 : L.length ≤ 4096) (v : Int) : ∀ (m k q : Nat), k + m = L.length → (ljV L L.length).length + 1 - (ljV L k).length < q → lsV (ljV L L.length) q (ljV L k).length k (nbL L k) v = ⟨none, nbL L L.length, v⟩
  | 0, k, q, hk, hq => by
    obtain rfl : k = L.length := by omega
    have e0 : (ljV L L.length).drop (ljV L L.length).length = [] := List.drop_eq_nil_of_le (Nat.le_refl _)
    have x0 : lnX ([] : List UInt8) = 0 := by decide
    have c0 : lnC ([] : List UInt8) = 0 := by decide
    have l0 : lnE ([] : List UInt8) = 0 := by decide
    obtain ⟨q, rfl⟩ : ∃ q', q = q' + 2 := ⟨q - 2, by omega⟩
    rw [lsV, if_neg (Nat.lt_irrefl _), e0, if_neg (fun k => k x0), if_neg (by rw [c0]; decide), l0, lsV, if_pos (by omega)]
  | m + 1, k, q, hk, hq => by
    have hkl : k < L.length := by omega
    obtain ⟨rest, hr⟩ := lj_rest L hkl
    have hm : L.getD k Ln.z ∈ L := by rw [List.getD_eq_getElem?_getD, List.getElem?_eq_getElem hkl]; exact List.getElem_mem hkl
    obtain ⟨t1, t2, t3, t4⟩ := line_ljt (hg _ hm) rest
    have hle := lj_le (L := L) (n := L.length) (k := k + 1) (by omega) (Nat.le_refl _)
    have hs : (ljV L (k + 1)).length = (ljV L k).length + (ljT (L.getD k Ln.z).2).length := by rw [lj_succ hkl, List.length_append]
    have hp := ljt_pos (L.getD k Ln.z).2
    obtain ⟨q, rfl⟩ : ∃ q', q = q' + 1 := ⟨q - 1, by omega⟩
    rw [lsV, if_neg (by omega), hr, if_neg (fun k => k t1), if_pos t2, t3, ← nb_succ, nb_len, if_neg (by omega)]
    have e : (ljV L k).length + lnE (ljT (L.getD k Ln.z).2 ++ rest) + 1 = (ljV L (k + 1)).length := by omega
    rw [e]
    exact lj_back hg h4 v m (k + 1) q (by omega) (by omega)
theorem ls_back {L : List Ln} (hg : ∀ x ∈ L, GoodW x.2) (h4 : L.length ≤ 4096) (hl : tot L ≤ 65536) : lsE (ljV L L.length) = 0 ∧ lsL (ljV L L.length) = nbL L L.length := by
  have hT : lsT (ljV L L.length) = ⟨none, nbL L L.length, 0⟩ := lj_back hg h4 0 L.length 0 _ (by omega) (by show _ + 1 - 0 < _ + 2; omega)
  have hlen := tot_lj L hg
  have e : lsE (ljV L L.length) = 0 := by
    unfold lsE
    rw [if_neg (by omega), hT]
    show (if 4096 < (nbL L L.length).length then (30 : Int) else 0) = 0
    rw [nb_len, if_neg (by omega)]
  exact ⟨e, by unfold lsL; rw [if_pos e, hT]⟩
theorem ls_facts {s : List UInt8} (h : lsE s = 0) : s.length ≤ 65536 ∧ (lsL s).length ≤ 4096 ∧ (∀ x ∈ lsL s, GoodW x.2) ∧ tot (lsL s) ≤ s.length + 1 := by
  have e3 : lsL s = (lsT s).out := if_pos h
  unfold lsE at h
  by_cases h1 : 65536 < s.length
  · rw [if_pos h1] at h; cases h
  rw [if_neg h1] at h
  have hg := ls_good s (s.length + 2) 0 0 [] 0 (Nat.zero_le _) (fun x hx => by cases hx)
  have hg : (lsT s).bad = none → (∀ x ∈ (lsT s).out, GoodW x.2) ∧ tot (lsT s).out ≤ 0 + (s.length + 1 - 0) := hg
  split at h
  · cases h
  · rename_i hb
    obtain ⟨q1, q2⟩ := hg hb
    by_cases h2 : 4096 < (lsT s).out.length
    · rw [if_pos h2] at h; cases h
    · rw [e3]
      exact ⟨by omega, by omega, q1, by omega⟩
end Go.Proofs.Ytgbekbofeaoniaa
namespace Go.Proofs.Ytgbekbofeaoniaa
open Go Go.RowKit
structure TwoW (n m : Nat) (f g : Nat → AV) : Prop where
  out : ∃ W : List (List UInt8), n = W.length ∧ m = W.length ∧ f = (fun j => .str (W.getD j [])) ∧ g = (fun j => .str (W.getD j []))
abbrev sameWS : PSpec := fun l => match l with | [.ro 1 n f, .ro 1 m g] => some ([TwoW n m f g, n ≤ 100000000], .bool true) | _ => none
theorem sameW_s : SOK Try.prog 15 sameWS := by
  refine sok_of (C := mkC 0 [] noG) (mkC_ok pok_nil noG_ok) rfl mixed ⟨Try.func15, by kernel_rfl, by kernel_rfl, by kernel_rfl⟩ fun l obs v h ho => ?_
  (unfold sameWS at h; split at h; rotate_left; (focus (cases h)); rename_i n f m g; simp only [Option.some.injEq, Prod.mk.injEq] at h; obtain ⟨rfl, rfl⟩ := h; simp only [List.mem_cons, List.not_mem_nil, or_false, forall_eq_or_imp, forall_eq, false_implies, implies_true] at ho)
  obtain ⟨⟨W, rfl, rfl, rfl, rfl⟩, n1⟩ := ho
  refine ⟨Nat.le_of_ble_eq_true rfl, ?_⟩
  (repeat' (first | (refine xI (fun hfk => ?_) (fun hfk => ?_) <;> ((try (first | replace hfk := oT hfk | replace hfk := oF hfk | simp only [oD, ne_eq, reduceCtorEq] at hfk)); (try exact oX))) | (refine And.intro ?ob ?_; (case ob => (exact oZ))) | exact True.intro | (show _ = _; first | exact oY | exact rfl) | exact oW | (apply And.intro)))
  refine ⟨Nat, fun i => [(0, wA W), (1, wA W), (5, .int .i64 (i : Int))], fun i => ⟨0, []⟩,
    fun i => i ≤ W.length, fun i => W.length - i, ⟨0, [], Nat.zero_le _, ?_⟩, fun i hi => ?_⟩
  · (repeat' (first | (refine And.intro ?_ ?_) | exact True.intro | (show _ = _; with_reducible rfl) | exact Chk.mk (by kernel_rfl)))
    all_goals first | rfl | (exact fun _ _ => rfl)
  have hi : i ≤ W.length := hi
  (repeat' (first | (refine xI (fun hfk => ?_) (fun hfk => ?_) <;> ((try (first | replace hfk := oT hfk | replace hfk := oF hfk | simp only [oD, ne_eq, reduceCtorEq] at hfk)); (try exact oX))) | (refine And.intro ?ob ?_; (case ob => (exact oZ))) | exact True.intro | (show _ = _; first | exact oY | exact rfl) | exact oW | (apply And.intro)))
  · refine ⟨i + 1, [], by show i + 1 ≤ _; omega, ?mu, ?_⟩
    case mu => (show W.length - (i + 1) < W.length - i; omega)
    (repeat' (first | (refine And.intro ?_ ?_) | exact True.intro | (show _ = _; with_reducible rfl) | exact Chk.mk (by kernel_rfl)))
    all_goals first | rfl | (exact fun _ _ => rfl) | (show (_ : Int) = _; omega)
structure TwoL (n m : Nat) (f g : Nat → AV) : Prop where
  out : ∃ L : List Ln, n = L.length ∧ m = L.length ∧ f = (fun j => (L.getD j Ln.z).av) ∧ g = (fun j => (L.getD j Ln.z).av) ∧ ∀ x ∈ L, x.2.length ≤ 100000000
abbrev sameLS : PSpec := fun l => match l with | [.ro 2 n f, .ro 2 m g] => some ([TwoL n m f g, n ≤ 100000000], .bool true) | _ => none
theorem sameL_s : SOK Try.prog 11 sameLS := by
  refine sok_of (C := mkC 0 [(15, sameWS)] noG) (mkC_ok (pok_cons sameW_s pok_nil) noG_ok) rfl mixed ⟨Try.func11, by kernel_rfl, by kernel_rfl, by kernel_rfl⟩ fun l obs v h ho => ?_
  (unfold sameLS at h; split at h; rotate_left; (focus (cases h)); rename_i n f m g; simp only [Option.some.injEq, Prod.mk.injEq] at h; obtain ⟨rfl, rfl⟩ := h; simp only [List.mem_cons, List.not_mem_nil, or_false, forall_eq_or_imp, forall_eq, false_implies, implies_true] at ho)
  obtain ⟨⟨L, rfl, rfl, rfl, rfl, hw⟩, n1⟩ := ho
  refine ⟨Nat.le_of_ble_eq_true rfl, ?_⟩
  (repeat' (first | (refine xI (fun hfk => ?_) (fun hfk => ?_) <;> ((try (first | replace hfk := oT hfk | replace hfk := oF hfk | simp only [oD, ne_eq, reduceCtorEq] at hfk)); (try exact oX))) | (refine And.intro ?ob ?_; (case ob => (exact oZ))) | exact True.intro | (show _ = _; first | exact oY | exact rfl) | exact oW | (apply And.intro)))
  refine ⟨Nat, fun i => [(0, lnsA L), (1, lnsA L), (5, .int .i64 (i : Int))], fun i => ⟨0, []⟩,
    fun i => i ≤ L.length, fun i => L.length - i, ⟨0, [], Nat.zero_le _, ?_⟩, fun i hi => ?_⟩
  · (repeat' (first | (refine And.intro ?_ ?_) | exact True.intro | (show _ = _; with_reducible rfl) | exact Chk.mk (by kernel_rfl)))
    all_goals first | rfl | (exact fun _ _ => rfl)
  have hi : i ≤ L.length := hi
  by_cases hlt : i < L.length
  · have hm : L.getD (i : Int).toNat Ln.z ∈ L := by
      show L.getD i Ln.z ∈ L
      rw [List.getD_eq_getElem?_getD, List.getElem?_eq_getElem hlt]
      exact List.getElem_mem hlt
    have hl := hw _ hm
    have tw : TwoW (L.getD (i : Int).toNat Ln.z).2.length (L.getD (i : Int).toNat Ln.z).2.length (fun j => .str ((L.getD (i : Int).toNat Ln.z).2.getD j [])) (fun j => .str ((L.getD (i : Int).toNat Ln.z).2.getD j [])) := ⟨_, rfl, rfl, rfl, rfl⟩
    (repeat' (first | (refine xI (fun hfk => ?_) (fun hfk => ?_) <;> ((try (first | replace hfk := oT hfk | replace hfk := oF hfk | simp only [oD, ne_eq, reduceCtorEq] at hfk)); (try exact oX))) | (refine And.intro ?ob ?_; (case ob => (exact oZ))) | exact True.intro | (show _ = _; first | exact oY | (first | exact tw | exact hl | skip; done) | exact rfl) | exact oW | (apply And.intro)))
    refine ⟨i + 1, [], by show i + 1 ≤ _; omega, ?mu, ?_⟩
    case mu => (show L.length - (i + 1) < L.length - i; omega)
    (repeat' (first | (refine And.intro ?_ ?_) | exact True.intro | (show _ = _; with_reducible rfl) | exact Chk.mk (by kernel_rfl)))
    all_goals first | rfl | (exact fun _ _ => rfl) | (show (_ : Int) = _; omega)
  · obtain rfl : i = L.length := by omega
    (repeat' (first | (refine xI (fun hfk => ?_) (fun hfk => ?_) <;> ((try (first | replace hfk := oT hfk | replace hfk := oF hfk | simp only [oD, ne_eq, reduceCtorEq] at hfk)); (try exact oX))) | (refine And.intro ?ob ?_; (case ob => (exact oZ))) | exact True.intro | (show _ = _; first | exact oY | exact rfl) | exact oW | (apply And.intro)))
theorem len_jl : ∀ W : List (List UInt8), W.length ≤ jl W
  | [] => Nat.le_refl _
  | w :: W => by
    have ih := len_jl W
    show W.length + 1 ≤ w.length + 1 + jl W
    omega
theorem mem_tot : ∀ {L : List Ln} {x : Ln}, x ∈ L → jl x.2 ≤ tot L
  | y :: L, x, h => by
    show _ ≤ jl y.2 + tot L
    rcases List.mem_cons.1 h with rfl | k
    · omega
    · have := mem_tot k; omega
theorem nb_get (L : List Ln) {k i : Nat} (h : i < k) : (nbL L k).getD i Ln.z = (((i + 1 : Nat) : Int), (L.getD i Ln.z).2) := by
  unfold nbL
  rw [List.getD_eq_getElem?_getD, List.getElem?_map, List.getElem?_range h]
  rfl
abbrev nbG (L : List Ln) : Nat → AV := fun j => lnA ((j + 1 : Nat) : Int) (L.getD j Ln.z).2
attribute [local irreducible] lsL lsE lsA ljV nbL
theorem wl_walk (s : List UInt8) (hs : s.length ≤ 9223372036854775807) (L : List Ln) (hL : lsL s = L) (hok : LjOK L) (hw : ∀ x ∈ L, x.2.length ≤ 100000) (hb : lsE s = 0 → s.length ≤ 20000 → lsE (ljV L L.length) = 0 ∧ lsL (ljV L L.length) = nbL L L.length)
    (W : World) {cl : List Value} (hcl : CRel noN W NoO [.str s] cl) :
    Calls Try.prog 3 cl.toArray W fun e W' => e = .returned (.bool true) ∧ Below W.heap.size W W' := by
  refine law_of (C := mkK 0 [(9, linesS), (10, linesS), (14, ljS L), (12, ownS L), (11, sameLS), (15, sameWS), (13, alS49)] noG [3, 4, 9])
    (mkK_ok (pok_cons lines_s (pok_cons dlines_s (pok_cons (lj_s L) (pok_cons (own49_s L) (pok_cons sameL_s (pok_cons sameW_s (pok_cons alive49_s pok_nil))))))) noG_ok) rfl ⟨Try.func3, by kernel_rfl, by kernel_rfl, by kernel_rfl⟩ (by exact Nat.le_of_ble_eq_true rfl) ?_ hcl
  by_cases h1 : 20000 < s.length ∧ s.length ≤ 65536
  · obtain ⟨h1, h2⟩ := h1
    (repeat' (first | (refine xI (fun hfk => ?_) (fun hfk => ?_) <;> ((try (first | replace hfk := oT hfk | replace hfk := oF hfk | simp only [oD, ne_eq, reduceCtorEq] at hfk)); (try exact oX))) | (refine And.intro ?ob ?_; (case ob => (exact oZ))) | exact True.intro | (show _ = _; first | exact oY | exact rfl) | exact oW | (apply And.intro)))
  have h2 : s.length ≤ 20000 ∨ 65536 < s.length := by omega
  obtain ⟨e, he⟩ : ∃ e, lsE s = e := ⟨_, rfl⟩
  obtain ⟨p, hp⟩ : ∃ p, lsA s = p := ⟨_, rfl⟩
  have l1 : L.length ≤ 100000 := hok.n100
  have tw : TwoL L.length L.length (fun j => (L.getD j Ln.z).av) (fun j => (L.getD j Ln.z).av) := ⟨L, rfl, rfl, rfl, rfl, fun x hx => Nat.le_trans (hw x hx) (by decide)⟩
  have e65 : 65536 < s.length → e ≠ 0 := fun h => by
    rw [← he]
    have : lsE s = 30 := by unfold lsE; rw [if_pos h]
    rw [this]
    decide
  have hlen := hok.len
  rcases h2 with h2 | h2
  all_goals
    (repeat' (first | (refine xI (fun hfk => ?_) (fun hfk => ?_) <;> ((try (first | replace hfk := oT hfk | replace hfk := oF hfk | simp only [oD, ne_eq, reduceCtorEq] at hfk)); (try exact oX))) | (refine And.intro ?ob ?_; (case ob => (exact oZ))) | exact True.intro | (show _ = _; first | exact oY | exact rfl) | exact oW | (apply And.intro)))
    refine ⟨[(0, .str s), (2, .fls), (3, lnsA L), (4, .int .i64 p), (5, .int .i64 e)], ⟨0, []⟩, [], ?_, ?_⟩
    · (repeat' (first | (refine And.intro ?_ ?_) | exact True.intro | (show _ = _; with_reducible rfl) | exact Chk.mk (by kernel_rfl)))
      all_goals first | rfl | exact he | exact hp | exact congrArg List.length hL | (exact fun j _ => congrArg (fun L : List Ln => (L.getD j Ln.z).av) hL) | (exact fun _ _ => rfl)
    (repeat' (first | (refine xI (fun hfk => ?_) (fun hfk => ?_) <;> ((try (first | replace hfk := oT hfk | replace hfk := oF hfk | simp only [oD, ne_eq, reduceCtorEq] at hfk)); (try exact oX))) | (refine And.intro ?ob ?_; (case ob => (exact oZ))) | exact True.intro | (show _ = _; first | exact oY | exact rfl) | exact oW | (apply And.intro)))
    refine ⟨[(2, .fls), (3, lnsA L), (4, .int .i64 p), (5, .int .i64 e), (6, lnsA L), (7, .int .i64 p), (8, .int .i64 e)], ⟨0, []⟩, [], ?_, ?_⟩
    · (repeat' (first | (refine And.intro ?_ ?_) | exact True.intro | (show _ = _; with_reducible rfl) | exact Chk.mk (by kernel_rfl)))
      all_goals first | rfl | exact he | exact hp | exact congrArg List.length hL | (exact fun j _ => congrArg (fun L : List Ln => (L.getD j Ln.z).av) hL) | (exact fun _ _ => rfl)
  · by_cases e0 : e = 0
    · subst e0
      obtain ⟨b1, b2⟩ := hb he h2
      have b3 : (lsL (ljV L L.length)).length = L.length := by rw [b2, nb_len]
      have b4 : ∀ j, j < L.length → ((lsL (ljV L L.length)).getD j Ln.z).av = nbG L j := fun j hj => by
        rw [b2, nb_get L hj]
        rfl
      (repeat' (first | (refine xI (fun hfk => ?_) (fun hfk => ?_) <;> ((try (first | replace hfk := oT hfk | replace hfk := oF hfk | simp only [oD, ne_eq, reduceCtorEq] at hfk)); (try exact oX))) | (refine And.intro ?ob ?_; (case ob => (exact oZ))) | exact True.intro | (show _ = _; first | exact oY | (first | exact tw | skip; done) | exact rfl) | exact oW | (apply And.intro)))
      refine ⟨[(2, .fls), (3, lnsA L), (9, .ro 2 L.length (nbG L)), (11, .int .i64 0)], ⟨0, []⟩, [], ?_, ?_⟩
      · (repeat' (first | (refine And.intro ?_ ?_) | exact True.intro | (show _ = _; with_reducible rfl) | exact Chk.mk (by kernel_rfl)))
        all_goals first | rfl | exact b1 | exact b3 | exact b4 | (exact fun _ _ => rfl)
      clear b1 b2 b3 b4 hb
      (repeat' (first | (refine xI (fun hfk => ?_) (fun hfk => ?_) <;> ((try (first | replace hfk := oT hfk | replace hfk := oF hfk | simp only [oD, ne_eq, reduceCtorEq] at hfk)); (try exact oX))) | (refine And.intro ?ob ?_; (case ob => (exact oZ))) | exact True.intro | (show _ = _; first | exact oY | exact rfl) | exact oW | (apply And.intro)))
      refine ⟨Nat, fun i => [(2, .fls), (3, lnsA L), (9, .ro 2 L.length (nbG L)), (12, .int .i64 (i : Int))], fun i => ⟨0, []⟩,
        fun i => i ≤ L.length, fun i => L.length - i, ⟨0, [], Nat.zero_le _, ?_⟩, fun i hi => ?_⟩
      · (repeat' (first | (refine And.intro ?_ ?_) | exact True.intro | (show _ = _; with_reducible rfl) | exact Chk.mk (by kernel_rfl)))
        all_goals first | rfl | (exact fun _ _ => rfl)
      have hi : i ≤ L.length := hi
      by_cases hlt : i < L.length
      · have hm : L.getD (i : Int).toNat Ln.z ∈ L := by
          show L.getD i Ln.z ∈ L
          rw [List.getD_eq_getElem?_getD, List.getElem?_eq_getElem hlt]
          exact List.getElem_mem hlt
        have hl : (L.getD (i : Int).toNat Ln.z).2.length ≤ 100000000 := Nat.le_trans (hw _ hm) (by decide)
        have tw2 : TwoW (L.getD (i : Int).toNat Ln.z).2.length (L.getD (i : Int).toNat Ln.z).2.length (fun j => .str ((L.getD (i : Int).toNat Ln.z).2.getD j [])) (fun j => .str ((L.getD (i : Int).toNat Ln.z).2.getD j [])) := ⟨_, rfl, rfl, rfl, rfl⟩
        have en : (((i : Int).toNat + 1 : Nat) : Int) = (i : Int) + 1 := by rw [Int.toNat_natCast]; omega
        (repeat' (first | (refine xI (fun hfk => ?_) (fun hfk => ?_) <;> ((try (first | replace hfk := oT hfk | replace hfk := oF hfk | simp only [oD, ne_eq, reduceCtorEq] at hfk)); (try exact oX))) | (refine And.intro ?ob ?_; (case ob => (exact oZ))) | exact True.intro | (show _ = _; first | exact oY | (first | exact tw2 | exact hl | skip; done) | exact rfl) | exact oW | (apply And.intro)))
        refine ⟨i + 1, [], hlt, ?mu, ?_⟩
        case mu => (show L.length - (i + 1) < L.length - i; omega)
        (repeat' (first | (refine And.intro ?_ ?_) | exact True.intro | (show _ = _; with_reducible rfl) | exact Chk.mk (by kernel_rfl)))
        all_goals first | rfl | (exact fun _ _ => rfl) | (show (_ : Int) = _; omega)
      · obtain rfl : i = L.length := by omega
        (repeat' (first | (refine xI (fun hfk => ?_) (fun hfk => ?_) <;> ((try (first | replace hfk := oT hfk | replace hfk := oF hfk | simp only [oD, ne_eq, reduceCtorEq] at hfk)); (try exact oX))) | (refine And.intro ?ob ?_; (case ob => (exact oZ))) | exact True.intro | (show _ = _; first | exact oY | exact rfl) | exact oW | (apply And.intro)))
    · (repeat' (first | (refine xI (fun hfk => ?_) (fun hfk => ?_) <;> ((try (first | replace hfk := oT hfk | replace hfk := oF hfk | simp only [oD, ne_eq, reduceCtorEq] at hfk)); (try exact oX))) | (refine And.intro ?ob ?_; (case ob => (exact oZ))) | exact True.intro | (show _ = _; first | exact oY | (first | exact tw | skip; done) | exact rfl) | exact oW | (apply And.intro)))
  · have e0 := e65 h2
    (repeat' (first | (refine xI (fun hfk => ?_) (fun hfk => ?_) <;> ((try (first | replace hfk := oT hfk | replace hfk := oF hfk | simp only [oD, ne_eq, reduceCtorEq] at hfk)); (try exact oX))) | (refine And.intro ?ob ?_; (case ob => (exact oZ))) | exact True.intro | (show _ = _; first | exact oY | (first | exact tw | skip; done) | exact rfl) | exact oW | (apply And.intro)))
theorem walk_WordsLines' (s : List UInt8) (W : World) (hs : s.length ≤ 9223372036854775807) {cl : List Value} (hcl : CRel noN W NoO [.str s] cl) :
    Calls Try.prog 3 cl.toArray W fun e W' => e = .returned (.bool true) ∧ Below W.heap.size W W' := by
  by_cases e0 : lsE s = 0
  · obtain ⟨f1, f2, f3, f4⟩ := ls_facts e0
    have hw : ∀ x ∈ lsL s, x.2.length ≤ 100000 := fun x hx => by
      have := len_jl x.2
      have := mem_tot hx
      omega
    refine wl_walk s hs (lsL s) rfl ⟨by omega, hw, by rw [tot_lj _ f3]; omega⟩ hw (fun _ hl => ls_back f3 f2 (by omega)) W hcl
  · have hL : lsL s = [] := by unfold lsL; rw [if_neg e0]
    refine wl_walk s hs [] hL ⟨Nat.zero_le _, fun x hx => (by cases hx), by rw [show ljV [] ([] : List Ln).length = [] from lj_0 []]; exact Nat.zero_le _⟩ (fun x hx => (by cases hx)) (fun h => absurd h e0) W hcl
end Go.Proofs.Ytgbekbofeaoniaa

