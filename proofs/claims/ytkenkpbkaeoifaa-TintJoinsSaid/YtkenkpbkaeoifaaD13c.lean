
/- The law DiffTells: how far two images are apart, the image of that, or why it can't be told. No condition. -/
import Derived.Test.YtkenkpbkaeoifaaD13b
import Derived.Test.YtkenkpbkaeoifaaT11
namespace Go.Proofs.Ytkenkpbkaeoifaa
open Go Go.RowKit
set_option linter.unusedVariables false
set_option linter.unusedSimpArgs false
set_option maxRecDepth 100000

def nz0 : AV → AV | .nils => .roi .u8 [] | x => x
def nzA : AV → AV | .agg l => .agg (l.map nz0) | x => nz0 x
theorem nz0_rep {R : PN} {w : World} {O : Nat → Prop} {x : AV} {v : Value} (h : Rep R w O x v) : Rep R w O (nz0 x) v := by
  unfold nz0
  split
  · cases h; exact .roinil _
  · exact h
theorem nzA_rep {R : PN} {w : World} {O : Nat → Prop} {x : AV} {v : Value} (h : Rep R w O x v) : Rep R w O (nzA x) v := by
  unfold nzA
  split
  · cases h with
    | agg l vs hl h =>
      refine .agg _ _ (by simpa using hl) fun j x v hx hv => ?_
      simp only [List.getElem?_map, Option.map_eq_some_iff] at hx
      obtain ⟨y, hy, rfl⟩ := hx
      exact nz0_rep (h j y v hy hv)
  · exact nz0_rep h
/-- A slice that is nothing is as one that is empty. -/
theorem sok_nz {P : Program} {g : FuncId} {s : PSpec} (h : SOK P g s) : SOK P g (fun l => s (l.map nzA)) :=
  ⟨h.1, fun l obs v h1 h2 w O cl h3 h4 => h.2 _ obs v h1 h2 w O cl h3 ⟨by simpa using h4.1, fun j x v hx hv => by
    simp only [List.getElem?_map, Option.map_eq_some_iff] at hx
    obtain ⟨y, hy, rfl⟩ := hx
    exact nzA_rep (h4.2 j y v hy hv)⟩⟩
def mapL (p q : List Int) (n : Nat) : Nat → List Int | 0 => List.replicate n 0 | i + 1 => (mapL p q n i).set i (apN p q i)
theorem mapL_len (p q : List Int) (n : Nat) : ∀ i, (mapL p q n i).length = n
  | 0 => by simp [mapL]
  | i + 1 => by simp [mapL, mapL_len p q n i]
theorem mapL_get (p q : List Int) (n : Nat) : ∀ i j, j < i → i ≤ n → (mapL p q n i).getD j 0 = apN p q j
  | 0, j, h, _ => by omega
  | i + 1, j, h, hn => by
    have hl := mapL_len p q n i
    have ih := mapL_get p q n i j
    by_cases hj : j = i
    · subst hj
      have : j < (mapL p q n j).length := by omega
      simp [mapL, List.getD, this]
    · have ih := ih (by omega) (by omega)
      simp only [mapL]
      simp only [List.getD_eq_getElem?_getD] at ih ⊢
      rw [List.getElem?_set_ne (by omega)]
      exact ih
abbrev mapBadS : PSpec := fun l => match l with
  | [.agg [.int .i64 w, .int .i64 h, .int .i64 c, .roi .u8 p], .agg [.int .i64 v, .int .i64 g, .int .i64 d, .roi .u8 q]] => some ([imC ⟨w, h, c, p⟩ ⟨v, g, d, q⟩ ≠ 0], .tup [imA 0 0 0 [], .int .i64 (imC ⟨w, h, c, p⟩ ⟨v, g, d, q⟩)]) | _ => none
theorem mapBad_s : SOK Try.prog 23 mapBadS := by
  refine sok_of (C := mkC 0 [(24, chkS)] noG) (mkC_ok (pok_cons chk_s pok_nil) noG_ok) rfl mixed ⟨Try.func23, by kernel_rfl, by kernel_rfl, by kernel_rfl⟩ fun l obs v h ho => ?_
  (unfold mapBadS at h; split at h; rotate_left; (focus (cases h)); rename_i w hgt c p v g d q; simp only [Option.some.injEq, Prod.mk.injEq] at h; obtain ⟨rfl, rfl⟩ := h; simp only [List.mem_cons, List.not_mem_nil, or_false, forall_eq_or_imp, forall_eq, false_implies, implies_true] at ho)
  refine ⟨Nat.le_of_ble_eq_true rfl, ?_⟩
  (repeat' (first | (refine And.intro (fun (hfk : _ = true) => ?_) (fun (hfk : _ = false) => ?_) <;> ((try (first | replace hfk := of_decide_eq_true hfk | replace hfk := of_decide_eq_false hfk | simp only [decide_eq_true_eq, decide_eq_false_iff_not, Bool.not_eq_true', Bool.not_eq_false', Bool.and_eq_true, Bool.or_eq_true, Bool.and_eq_false_iff, Bool.or_eq_false_iff, Int.not_lt, Int.not_le, ne_eq, Classical.not_not, Bool.true_eq_false, Bool.false_eq_true, or_false, false_or, and_true, true_and, not_true_eq_false, not_false_eq_true, reduceCtorEq] at hfk)); (try (exfalso; first | omega | contradiction)))) | (refine And.intro ?ob ?_; (case ob => (first | exact Chk.mk (by kernel_rfl) | exact True.intro | assumption | exact rng64 (by omega) (by omega) | omega | (dsimp only; omega) | (show (_ : Nat) ≤ _; omega) | exact Nat.le_of_ble_eq_true rfl | (constructor <;> omega)))) | exact True.intro | exact rfl | assumption | (show _ = _; first | assumption | omega | (skip; done) | fail) | (apply And.intro) | omega | (intro j hj; exact rfl) | fail))
def mapF : FSpec := fun l es => match l, es with
  | [.agg [.int .i64 w, .int .i64 h, .int .i64 c, .roi .u8 p], .agg [.int .i64 v, .int .i64 g, .int .i64 d, .roi .u8 q]], [] => some ([Bytes p, Bytes q, imC ⟨w, h, c, p⟩ ⟨v, g, d, q⟩ = 0], .tup [.agg [.int .i64 w, .int .i64 h, .int .i64 c, .sl 0 1 0 p.length], .int .i64 0], [some (.ints 5 .u8 (mapL p q p.length p.length))])
  | _, _ => none
set_option maxHeartbeats 4000000 in
theorem map_g : GSOK Try.prog 23 (fG mapF) := by
  refine fok (S := [(24, chkS), (81, apartS)]) (G := glook [(76, fG newF)]) (pok_cons chk_s (pok_cons apart_s pok_nil)) (gl_cons new_g gl_nil) ⟨Try.func23, by kernel_rfl, by kernel_rfl, by kernel_rfl⟩ fun l es obs v es' h ho => ?_
  (unfold mapF at h; split at h; rotate_left; (focus (cases h)); rename_i w hgt c p v g d q; simp only [Option.some.injEq, Prod.mk.injEq] at h; obtain ⟨rfl, rfl, rfl⟩ := h; simp only [List.mem_cons, List.not_mem_nil, or_false, forall_eq_or_imp, forall_eq, false_implies, implies_true] at ho)
  obtain ⟨hp, hq, k⟩ := ho
  have z := imC_ok k
  dsimp only at z
  obtain ⟨z1, z2, rfl, rfl, rfl, z3, z4, z5, z6, z7, z8⟩ := z
  have y := check_inv z1
  refine ⟨Nat.le_of_ble_eq_true rfl, ?_⟩
  (repeat' (first | (refine And.intro (fun (hfk : _ = true) => ?_) (fun (hfk : _ = false) => ?_) <;> ((try (first | replace hfk := of_decide_eq_true hfk | replace hfk := of_decide_eq_false hfk | simp only [decide_eq_true_eq, decide_eq_false_iff_not, Bool.not_eq_true', Bool.not_eq_false', Bool.and_eq_true, Bool.or_eq_true, Bool.and_eq_false_iff, Bool.or_eq_false_iff, Int.not_lt, Int.not_le, ne_eq, Classical.not_not, Bool.true_eq_false, Bool.false_eq_true, or_false, false_or, and_true, true_and, not_true_eq_false, not_false_eq_true, reduceCtorEq] at hfk)); (try (exfalso; first | omega | contradiction)))) | (refine And.intro ?ob ?_; (case ob => (first | exact Chk.mk (by kernel_rfl) | exact True.intro | assumption | exact rng64 (by omega) (by omega) | omega | (dsimp only; omega) | (show (_ : Nat) ≤ _; omega) | exact Nat.le_of_ble_eq_true rfl | (constructor <;> omega)))) | exact True.intro | exact rfl | assumption | (show _ = _; first | assumption | omega | (skip; done) | fail) | (apply And.intro) | omega | (intro j hj; exact rfl) | (refine ⟨[], ⟨by kernel_rfl⟩, ?_⟩) | fail))
  refine ⟨Nat, fun i => [(3, .ptr 0 0), (4, .ptr 1 0), (5, .int .i64 0), (7, .ptr 3 0), (8, .int .i64 0), (29, .roi .u8 p), (30, .int .i64 ↑p.length), (31, .int .i64 i)],
      fun i => ⟨4, [(0, some (.cells 25 [.int .i64 w, .int .i64 hgt, .int .i64 c, .roi .u8 q])), (1, some (.cells 25 [.int .i64 0, .int .i64 0, .int .i64 0, .nils])), (2, some (.ints 5 .u8 (mapL p q p.length i))), (3, some (.cells 25 [.int .i64 w, .int .i64 hgt, .int .i64 c, .sl 2 1 0 p.length]))]⟩,
      fun i => i ≤ p.length, fun i => p.length - i, ⟨0, [some 1, some 2, some 3, some 4], by omega, ?_⟩, fun i hi => ?_⟩
  · have e : (w * hgt * c).toNat = p.length := by omega
    (repeat' (first | (refine And.intro (fun (hfk : _ = true) => ?_) (fun (hfk : _ = false) => ?_) <;> ((try (first | replace hfk := of_decide_eq_true hfk | replace hfk := of_decide_eq_false hfk | simp only [decide_eq_true_eq, decide_eq_false_iff_not, Bool.not_eq_true', Bool.not_eq_false', Bool.and_eq_true, Bool.or_eq_true, Bool.and_eq_false_iff, Bool.or_eq_false_iff, Int.not_lt, Int.not_le, ne_eq, Classical.not_not, Bool.true_eq_false, Bool.false_eq_true, or_false, false_or, and_true, true_and, not_true_eq_false, not_false_eq_true, reduceCtorEq] at hfk)); (try (exfalso; first | omega | contradiction)))) | (refine And.intro ?ob ?_; (case ob => (first | exact Chk.mk (by kernel_rfl) | exact True.intro | assumption | exact rng64 (by omega) (by omega) | omega | (dsimp only; omega) | (show (_ : Nat) ≤ _; omega) | exact Nat.le_of_ble_eq_true rfl | (constructor <;> omega)))) | exact True.intro | exact rfl | assumption | (show _ = _; first | assumption | omega | (show List.replicate _ _ = List.replicate _ _; rw [e]; done) | fail) | (apply And.intro) | omega | (intro j hj; exact rfl) | fail))
  have hi : i ≤ p.length := hi
  have b1 := hp.get i
  have b2 := hq.get i
  have b3 := apI_bd b1 b2
  have e : IntKind.u8.wrap (apI (p.getD i 0) (q.getD i 0)) = apN p q i := w8 (by omega) (by omega)
  have hl := mapL_len p q p.length i
  refine ⟨fun hy => ?_, fun hy => ?_⟩
  · replace hy := of_decide_eq_true hy
    (repeat' (first | (refine And.intro (fun (hfk : _ = true) => ?_) (fun (hfk : _ = false) => ?_) <;> ((try (first | replace hfk := of_decide_eq_true hfk | replace hfk := of_decide_eq_false hfk | simp only [decide_eq_true_eq, decide_eq_false_iff_not, Bool.not_eq_true', Bool.not_eq_false', Bool.and_eq_true, Bool.or_eq_true, Bool.and_eq_false_iff, Bool.or_eq_false_iff, Int.not_lt, Int.not_le, ne_eq, Classical.not_not, Bool.true_eq_false, Bool.false_eq_true, or_false, false_or, and_true, true_and, not_true_eq_false, not_false_eq_true, reduceCtorEq] at hfk)); (try (exfalso; first | omega | contradiction)))) | (refine And.intro ?ob ?_; (case ob => (first | exact Chk.mk (by kernel_rfl) | exact True.intro | assumption | exact rng64 (by omega) (by omega) | omega | (dsimp only; omega) | (show (_ : Nat) ≤ _; omega) | exact Nat.le_of_ble_eq_true rfl | (constructor <;> omega)))) | exact True.intro | exact rfl | assumption | (show _ = _; first | assumption | omega | (simp only [Int.toNat_natCast, Nat.zero_add, e]; rfl; done) | fail) | (apply And.intro) | omega | (intro j hj; exact rfl) | (refine ⟨i + 1, [some 0, some 1, some 2, some 3], ?_, ?mu, ?_⟩; (case mu => ((try dsimp only); omega))) | fail))
  · obtain rfl : i = p.length := by have := of_decide_eq_false hy; omega
    (repeat' (first | (refine And.intro (fun (hfk : _ = true) => ?_) (fun (hfk : _ = false) => ?_) <;> ((try (first | replace hfk := of_decide_eq_true hfk | replace hfk := of_decide_eq_false hfk | simp only [decide_eq_true_eq, decide_eq_false_iff_not, Bool.not_eq_true', Bool.not_eq_false', Bool.and_eq_true, Bool.or_eq_true, Bool.and_eq_false_iff, Bool.or_eq_false_iff, Int.not_lt, Int.not_le, ne_eq, Classical.not_not, Bool.true_eq_false, Bool.false_eq_true, or_false, false_or, and_true, true_and, not_true_eq_false, not_false_eq_true, reduceCtorEq] at hfk)); (try (exfalso; first | omega | contradiction)))) | (refine And.intro ?ob ?_; (case ob => (first | exact Chk.mk (by kernel_rfl) | exact True.intro | assumption | exact rng64 (by omega) (by omega) | omega | (dsimp only; omega) | (show (_ : Nat) ≤ _; omega) | exact Nat.le_of_ble_eq_true rfl | (constructor <;> omega)))) | exact True.intro | exact rfl | assumption | (show _ = _; first | assumption | omega | (skip; done) | fail) | (apply And.intro) | omega | (intro j hj; exact rfl) | (refine ⟨[some 2], ?_⟩) | fail))
abbrev withinS : PSpec := fun l => match l with
  | [.agg [.int .i64 w, .int .i64 h, .int .i64 c, .roi .u8 p], .agg [.int .i64 v, .int .i64 g, .int .i64 d, .roi .u8 q], .int .i64 k] => some ([Bytes p, Bytes q], .bool (decide (imC ⟨w, h, c, p⟩ ⟨v, g, d, q⟩ = 0) && decide (dMx p q p.length ≤ k))) | _ => none
theorem within_s : SOK Try.prog 25 withinS := by
  refine sok_of (C := mkC 0 [(21, ofS)] noG) (mkC_ok (pok_cons of_s pok_nil) noG_ok) rfl mixed ⟨Try.func25, by kernel_rfl, by kernel_rfl, by kernel_rfl⟩ fun l obs v h ho => ?_
  (unfold withinS at h; split at h; rotate_left; (focus (cases h)); rename_i w hgt c p v g d q k; simp only [Option.some.injEq, Prod.mk.injEq] at h; obtain ⟨rfl, rfl⟩ := h; simp only [List.mem_cons, List.not_mem_nil, or_false, forall_eq_or_imp, forall_eq, false_implies, implies_true] at ho)
  obtain ⟨hp, hq⟩ := ho
  refine ⟨Nat.le_of_ble_eq_true rfl, ?_⟩
  (repeat' (first | (refine And.intro (fun (hfk : _ = true) => ?_) (fun (hfk : _ = false) => ?_) <;> ((try (first | replace hfk := of_decide_eq_true hfk | replace hfk := of_decide_eq_false hfk | simp only [decide_eq_true_eq, decide_eq_false_iff_not, Bool.not_eq_true', Bool.not_eq_false', Bool.and_eq_true, Bool.or_eq_true, Bool.and_eq_false_iff, Bool.or_eq_false_iff, Int.not_lt, Int.not_le, ne_eq, Classical.not_not, Bool.true_eq_false, Bool.false_eq_true, or_false, false_or, and_true, true_and, not_true_eq_false, not_false_eq_true, reduceCtorEq] at hfk)); (try (exfalso; first | omega | contradiction)))) | (refine And.intro ?ob ?_; (case ob => (first | exact Chk.mk (by kernel_rfl) | exact True.intro | assumption | exact rng64 (by omega) (by omega) | omega | (dsimp only; omega) | (show (_ : Nat) ≤ _; omega) | exact Nat.le_of_ble_eq_true rfl | (constructor <;> omega)))) | exact True.intro | exact rfl | assumption | (show _ = _; first | assumption | omega | (simp [*]; done) | fail) | (apply And.intro) | omega | (intro j hj; exact rfl) | fail))
abbrev ofBadS : PSpec := fun l => match l with
  | [.agg [.int .i64 w, .int .i64 h, .int .i64 c, .roi .u8 p], .agg [.int .i64 v, .int .i64 g, .int .i64 d, .roi .u8 q]] => some ([Bytes p, Bytes q, imC ⟨w, h, c, p⟩ ⟨v, g, d, q⟩ ≠ 0], .tup [.agg [.int .i64 0, .int .i64 0, .int .u64 0, .int .u64 0, .int .i64 0, .int .i64 0, .int .i64 0], .int .i64 (imC ⟨w, h, c, p⟩ ⟨v, g, d, q⟩)]) | _ => none
theorem ofBad_s : SOK Try.prog 21 ofBadS := by
  refine sok_weak of_s fun l obs v h ho => ?_
  (unfold ofBadS at h; split at h; rotate_left; (focus (cases h)); rename_i w hgt c p v g d q; simp only [Option.some.injEq, Prod.mk.injEq] at h; obtain ⟨rfl, rfl⟩ := h; simp only [List.mem_cons, List.not_mem_nil, or_false, forall_eq_or_imp, forall_eq, false_implies, implies_true] at ho)
  obtain ⟨h1, h2, h3⟩ := ho
  refine ⟨[Bytes p, Bytes q], by simp [ofS, ofA, h3, diffA, dCn, dMx, dSm, dSq, dFi], ?_⟩
  intro x hx
  simp only [List.mem_cons, List.not_mem_nil, or_false] at hx
  rcases hx with rfl | rfl <;> assumption
/-! ### The law -/
set_option maxHeartbeats 4000000 in
theorem walk_DiffTells' (a0 a1 a2 : Int) (a : List Int) (b0 b1 b2 : Int) (b : List Int) (k : Int) (ha : Bytes a) (hb : Bytes b) (W : World) {cl : List Value} (hcl : CRel noN W NoO [imA a0 a1 a2 a, imA b0 b1 b2 b, .int .i64 k] cl) :
    Calls Try.prog 5 cl.toArray W fun e W' => e = .returned (.bool true) ∧ Below W.heap.size W W' := by
  by_cases k1 : imC ⟨a0, a1, a2, a⟩ ⟨b0, b1, b2, b⟩ = 0
  · refine law_of (C := mkC 0 [(15, fewS), (20, chkS), (24, chkS), (21, of0S), (25, withinS), (27, apartS), (26, checkS), (22, sN (.bool true))] (glook [(23, fG mapF)]))
      (mkC_ok (pok_cons few_s (pok_cons rchk_s (pok_cons chk_s (pok_cons of0_s (pok_cons within_s (pok_cons rapart_s (pok_cons rcheck7_s (pok_cons alive13_s pok_nil)))))))) (gl_cons map_g gl_nil)) rfl ⟨Try.func5, by kernel_rfl, by kernel_rfl, by kernel_rfl⟩ (by exact Nat.le_of_ble_eq_true rfl) ?_ hcl
    have z1 := imC_ok k1
    dsimp only at z1
    obtain ⟨y1, y2, rfl, rfl, rfl, y3, y4, y5, y6, y7, y8⟩ := z1
    have ml := mapL_len a b a.length a.length
    have mL : List.take a.length (List.drop 0 (mapL a b a.length a.length)) = mapL a b a.length a.length := by rw [List.drop_zero]; exact List.take_of_length_le (by omega)
    have m0 : (0 + a.length).le (mapL a b a.length a.length).length := by show 0 + a.length ≤ _; omega
    have mC : imCheck a0 a1 a2 ↑(List.take a.length (List.drop 0 (mapL a b a.length a.length))).length = 0 := by rw [mL, ml]; exact y1
    (repeat' (first | (refine And.intro (fun (hfk : _ = true) => ?_) (fun (hfk : _ = false) => ?_) <;> ((try (first | replace hfk := of_decide_eq_true hfk | replace hfk := of_decide_eq_false hfk | simp only [decide_eq_true_eq, decide_eq_false_iff_not, Bool.not_eq_true', Bool.not_eq_false', Bool.and_eq_true, Bool.or_eq_true, Bool.and_eq_false_iff, Bool.or_eq_false_iff, Int.not_lt, Int.not_le, ne_eq, Classical.not_not, Bool.true_eq_false, Bool.false_eq_true, or_false, false_or, and_true, true_and, not_true_eq_false, not_false_eq_true, reduceCtorEq] at hfk)); (try (exfalso; first | omega | contradiction)))) | (refine And.intro ?ob ?_; (case ob => (first | exact Chk.mk (by kernel_rfl) | exact True.intro | assumption | exact rng64 (by omega) (by omega) | omega | (dsimp only; omega) | (show (_ : Nat) ≤ _; omega) | exact Nat.le_of_ble_eq_true rfl | (constructor <;> omega)))) | exact True.intro | exact rfl | assumption | (show _ = _; first | assumption | omega | (skip; done) | fail) | (apply And.intro) | omega | (intro j hj; exact rfl) | (refine ⟨[], ⟨by kernel_rfl⟩, ?_⟩) | fail))
    refine ⟨Nat, fun i => [(2, .int .i64 k), (3, .ptr 0 0), (4, .ptr 1 0), (6, .fls), (7, .ptr 2 0), (9, .ptr 4 0), (12, .ptr 5 0), (13, .int .i64 i)],
      fun i => ⟨6, [(0, some (.cells 25 [.int .i64 a0, .int .i64 a1, .int .i64 a2, .roi .u8 a])), (1, some (.cells 25 [.int .i64 a0, .int .i64 a1, .int .i64 a2, .roi .u8 b])), (2, some (.cells 36 [.int .i64 (dCn a b a.length), .int .i64 (dMx a b a.length), .int .u64 (dSm a b a.length), .int .u64 (dSq a b a.length), .int .i64 (dFi (gX a0 a2) a b a.length), .int .i64 (dFi (gY a0 a2) a b a.length), .int .i64 (dFi (gK a2) a b a.length)])), (3, some (.ints 5 .u8 (mapL a b a.length a.length))), (4, some (.cells 25 [.int .i64 a0, .int .i64 a1, .int .i64 a2, .sl 3 1 0 a.length])),
        (5, some (.cells 36 [.int .i64 (dCn a b i), .int .i64 (dMx a b i), .int .u64 (dSm a b i), .int .u64 (dSq a b i), .int .i64 (dFi (gX a0 a2) a b i), .int .i64 (dFi (gY a0 a2) a b i), .int .i64 (dFi (gK a2) a b i)]))]⟩,
      fun i => i ≤ a.length, fun i => a.length - i, ⟨0, [some 0, some 1, some 2, some 3, some 4, some 5], by omega, ?_⟩, fun i hi => ?_⟩
    · (repeat' (first | (refine And.intro (fun (hfk : _ = true) => ?_) (fun (hfk : _ = false) => ?_) <;> ((try (first | replace hfk := of_decide_eq_true hfk | replace hfk := of_decide_eq_false hfk | simp only [decide_eq_true_eq, decide_eq_false_iff_not, Bool.not_eq_true', Bool.not_eq_false', Bool.and_eq_true, Bool.or_eq_true, Bool.and_eq_false_iff, Bool.or_eq_false_iff, Int.not_lt, Int.not_le, ne_eq, Classical.not_not, Bool.true_eq_false, Bool.false_eq_true, or_false, false_or, and_true, true_and, not_true_eq_false, not_false_eq_true, reduceCtorEq] at hfk)); (try (exfalso; first | omega | contradiction)))) | (refine And.intro ?ob ?_; (case ob => (first | exact Chk.mk (by kernel_rfl) | exact True.intro | assumption | exact rng64 (by omega) (by omega) | omega | (dsimp only; omega) | (show (_ : Nat) ≤ _; omega) | exact Nat.le_of_ble_eq_true rfl | (constructor <;> omega)))) | exact True.intro | exact rfl | assumption | (show _ = _; first | assumption | omega | (skip; done) | fail) | (apply And.intro) | omega | (intro j hj; exact rfl) | fail))
    have hi : i ≤ a.length := hi
    have bd := d_bd ha hb i
    have b1 := ha.get i
    have b2 := hb.get i
    have b3 := apI_bd b1 b2
    have b4 := apI_sq b1 b2
    have c0 : a2 ≠ 0 := by omega
    have w0 : a0 ≠ 0 := by omega
    have t0 : 0 ≤ (i : Int).tdiv a2 ∧ (i : Int).tdiv a2 ≤ i := by
      rw [Int.tdiv_eq_ediv_of_nonneg (by omega)]
      exact ⟨Int.ediv_nonneg (by omega) (by omega), Int.ediv_le_self _ (by omega)⟩
    have t1 : 0 ≤ ((i : Int).tdiv a2).tdiv a0 ∧ ((i : Int).tdiv a2).tdiv a0 ≤ (i : Int).tdiv a2 := by
      rw [Int.tdiv_eq_ediv_of_nonneg (a := (i : Int).tdiv a2) (by omega)]
      exact ⟨Int.ediv_nonneg (by omega) (by omega), Int.ediv_le_self _ (by omega)⟩
    refine ⟨fun hy => ?_, fun hy => ?_⟩
    · replace hy := of_decide_eq_true hy
      have mg : (mapL a b a.length a.length).getD (0 + (↑i : Int).toNat) 0 = apI (a.getD (↑i : Int).toNat 0) (b.getD (↑i : Int).toNat 0) := by
        rw [Int.toNat_natCast, Nat.zero_add]; exact mapL_get a b a.length a.length i (by omega) (by omega)
      have e1 : IntKind.u64.wrap (dSm a b i + IntKind.u64.wrap (apI (a.getD (↑i : Int).toNat 0) (b.getD (↑i : Int).toNat 0))) = dSm a b (i + 1) := by
        rw [Int.toNat_natCast]
        have e : dSm a b (i + 1) = dSm a b i + apI (a.getD i 0) (b.getD i 0) := rfl
        rw [e, w64 (n := apI _ _) (by omega) (by omega), w64 (by omega) (by omega)]
      have e2 : IntKind.u64.wrap (dSq a b i + IntKind.u64.wrap (apI (a.getD (↑i : Int).toNat 0) (b.getD (↑i : Int).toNat 0) * apI (a.getD (↑i : Int).toNat 0) (b.getD (↑i : Int).toNat 0))) = dSq a b (i + 1) := by
        rw [Int.toNat_natCast]
        have e : dSq a b (i + 1) = dSq a b i + apI (a.getD i 0) (b.getD i 0) * apI (a.getD i 0) (b.getD i 0) := rfl
        rw [e, w64 (n := apI _ _ * apI _ _) (by omega) (by omega), w64 (by omega) (by omega)]
      have et : apN a b i = apI (a.getD (↑i : Int).toNat 0) (b.getD (↑i : Int).toNat 0) := by rw [Int.toNat_natCast]; rfl
      have b1' := ha.get (↑i : Int).toNat
      have b2' := hb.get (↑i : Int).toNat
      have b3' := apI_bd b1' b2'
      have b4' := apI_sq b1' b2'
      have em : dMx a b (i + 1) = max (dMx a b i) (apN a b i) := rfl
      (repeat' (first | (refine And.intro (fun (hfk : _ = true) => ?_) (fun (hfk : _ = false) => ?_) <;> ((try (first | replace hfk := of_decide_eq_true hfk | replace hfk := of_decide_eq_false hfk | simp only [decide_eq_true_eq, decide_eq_false_iff_not, Bool.not_eq_true', Bool.not_eq_false', Bool.and_eq_true, Bool.or_eq_true, Bool.and_eq_false_iff, Bool.or_eq_false_iff, Int.not_lt, Int.not_le, ne_eq, Classical.not_not, Bool.true_eq_false, Bool.false_eq_true, or_false, false_or, and_true, true_and, not_true_eq_false, not_false_eq_true, reduceCtorEq] at hfk)); (try (exfalso; first | omega | contradiction)))) | (refine And.intro ?ob ?_; (case ob => (first | exact Chk.mk (by kernel_rfl) | exact True.intro | assumption | exact rng64 (by omega) (by omega) | omega | (dsimp only; omega) | (show (_ : Nat) ≤ _; omega) | exact Nat.le_of_ble_eq_true rfl | (constructor <;> omega)))) | exact True.intro | exact rfl | assumption | (show _ = _; first | assumption | omega | (first | exact (if_pos (And.intro (by omega) (by omega))).symm | exact (if_pos (by omega)).symm | exact (if_neg (by omega)).symm; done) | fail) | (apply And.intro) | omega | (intro j hj; exact rfl) | (refine ⟨i + 1, [some 0, some 1, some 2, some 3, some 4, some 5], ?_, ?mu, ?_⟩; (case mu => ((try dsimp only); omega))) | fail))
    · obtain rfl : i = a.length := by have := of_decide_eq_false hy; omega
      (repeat' (first | (refine And.intro (fun (hfk : _ = true) => ?_) (fun (hfk : _ = false) => ?_) <;> ((try (first | replace hfk := of_decide_eq_true hfk | replace hfk := of_decide_eq_false hfk | simp only [decide_eq_true_eq, decide_eq_false_iff_not, Bool.not_eq_true', Bool.not_eq_false', Bool.and_eq_true, Bool.or_eq_true, Bool.and_eq_false_iff, Bool.or_eq_false_iff, Int.not_lt, Int.not_le, ne_eq, Classical.not_not, Bool.true_eq_false, Bool.false_eq_true, or_false, false_or, and_true, true_and, not_true_eq_false, not_false_eq_true, reduceCtorEq] at hfk)); (try (exfalso; first | omega | contradiction)))) | (refine And.intro ?ob ?_; (case ob => (first | exact Chk.mk (by kernel_rfl) | exact True.intro | assumption | exact rng64 (by omega) (by omega) | omega | (dsimp only; omega) | (show (_ : Nat) ≤ _; omega) | exact Nat.le_of_ble_eq_true rfl | (constructor <;> omega)))) | exact True.intro | exact rfl | assumption | (show _ = _; first | assumption | omega | (skip; done) | fail) | (apply And.intro) | omega | (intro j hj; exact rfl) | fail))
      exact absurd (show (decide (imC ⟨a0, a1, a2, a⟩ ⟨a0, a1, a2, b⟩ = 0) && decide (dMx a b a.length ≤ k)) = decide (dMx a b a.length ≤ k) by simp [k1]) (by assumption)
  · refine law_of (C := mkC 0 [(15, fewS), (20, chkS), (24, chkS), (21, ofBadS), (23, mapBadS), (25, withinS), (18, fun l => sameS (l.map nzA)), (22, sN (.bool true))] noG)
      (mkC_ok (pok_cons few_s (pok_cons rchk_s (pok_cons chk_s (pok_cons ofBad_s (pok_cons mapBad_s (pok_cons within_s (pok_cons (sok_nz rsame_s) (pok_cons alive13_s pok_nil)))))))) noG_ok) rfl ⟨Try.func5, by kernel_rfl, by kernel_rfl, by kernel_rfl⟩ (by exact Nat.le_of_ble_eq_true rfl) ?_ hcl
    have e : sameM 0 0 0 [] 0 0 0 [] = true := by decide
    (repeat' (first | (refine And.intro (fun (hfk : _ = true) => ?_) (fun (hfk : _ = false) => ?_) <;> ((try (first | replace hfk := of_decide_eq_true hfk | replace hfk := of_decide_eq_false hfk | simp only [decide_eq_true_eq, decide_eq_false_iff_not, Bool.not_eq_true', Bool.not_eq_false', Bool.and_eq_true, Bool.or_eq_true, Bool.and_eq_false_iff, Bool.or_eq_false_iff, Int.not_lt, Int.not_le, ne_eq, Classical.not_not, Bool.true_eq_false, Bool.false_eq_true, or_false, false_or, and_true, true_and, not_true_eq_false, not_false_eq_true, reduceCtorEq] at hfk)); (try (exfalso; first | omega | contradiction)))) | (refine And.intro ?ob ?_; (case ob => (first | exact Chk.mk (by kernel_rfl) | exact True.intro | assumption | exact rng64 (by omega) (by omega) | omega | (dsimp only; omega) | (show (_ : Nat) ≤ _; omega) | exact Nat.le_of_ble_eq_true rfl | (constructor <;> omega)))) | exact True.intro | exact rfl | assumption | (show _ = _; first | assumption | omega | (skip; done) | fail) | (apply And.intro) | omega | (intro j hj; exact rfl) | fail))
end Go.Proofs.Ytkenkpbkaeoifaa
