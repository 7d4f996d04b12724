/- Texts laid together. No condition. -/
import Derived.Test.YtljdahepmmgfeaaGreatDoorS1
set_option maxRecDepth 100000
set_option linter.unusedVariables false
set_option linter.unusedSimpArgs false
namespace Go.Proofs.YtljdahepmmgfeaaGreatDoor
open Go Go.RowKit
def bkG : Bool → List Int → Nat
  | _, [] => 0
  | true, x :: r => if x = 10 then bkG false r + 1 else bkG true r + 1
  | false, x :: r => if isBl x = true then bkG false r + 1 else if x = 35 then bkG true r + 1 else 0
theorem bkG_le : ∀ (b : Bool) (l : List Int), bkG b l ≤ l.length
  | _, [] => by simp [bkG]
  | true, x :: r => by
    have := bkG_le true r
    have := bkG_le false r
    simp only [bkG, List.length_cons]; split <;> omega
  | false, x :: r => by
    have := bkG_le true r
    have := bkG_le false r
    simp only [bkG, List.length_cons]; (repeat' split) <;> omega
def rlN (l : List Int) : Nat := if ixN 10 l < l.length then ixN 10 l + 1 else l.length
theorem rlN_cons (x : Int) (r : List Int) : rlN (x :: r) = if x = 10 then 1 else rlN r + 1 := by
  have := ixN_le 10 r
  simp only [rlN, ixN, List.length_cons]
  (repeat' split) <;> omega
theorem rmN_cons (x : Int) (r : List Int) : rmN (x :: r) = if x = 35 then rlN (x :: r) else 0 := rfl
theorem bk_rm : ∀ l : List Int, bkG true l = rlN l + bkG false (l.drop (rlN l))
  | [] => by simp [bkG, rlN]
  | x :: r => by
    have ih := bk_rm r
    rw [rlN_cons]
    simp only [bkG]
    by_cases hx : x = 10
    · rw [if_pos hx, if_pos hx]; simp; omega
    · rw [if_neg hx, if_neg hx, List.drop_succ_cons]; omega
theorem bk_step (x : Int) (r : List Int) (h : isBl x = false) : bkG false (x :: r) = rmN (x :: r) + bkG false ((x :: r).drop (rmN (x :: r))) ∨ (rmN (x :: r) = 0 ∧ bkG false (x :: r) = 0) := by
  by_cases hx : x = 35
  · left
    subst hx
    have := bk_rm r
    rw [rmN_cons, if_pos rfl, rlN_cons, if_neg (by decide), List.drop_succ_cons]
    simp only [bkG]
    rw [if_neg (by rw [h]; decide), if_pos trivial]; omega
  · right
    rw [rmN_cons]
    simp only [bkG]
    rw [if_neg hx, if_neg (by rw [h]; decide), if_neg hx]
    exact ⟨rfl, rfl⟩
def blC (r : List Int) : Int := if r.length = 0 then 20 else if bkG false r = 0 then 21 else 0
def blkF : FSpec := fun l es => match l, es with
  | [.ptr 0 0], [.cells 120 [.sl 1 1 0 n, .int .i64 a], .ints 5 .u8 b] =>
    some ([n = b.length, 0 ≤ a, a ≤ b.length, b.length ≤ 140737488355328], .int .i64 (blC (cR b a)), [some (cutE n (a + (bkG false (cR b a) : Int))), some (bE b)])
  | _, _ => none
set_option maxHeartbeats 2000000 in
theorem blk_g : GSOK Tryz.prog 125 (fG blkF) := by
  refine fok (S := [(127, sU8 fun x => .bool (isBl x)), (128, rmS)]) (G := glook [(87, fG restF), (88, fG passF)]) (pok_cons blank14_s (pok_cons rm14_s pok_nil)) (gl_cons rest_g (gl_cons pass_g gl_nil)) ⟨Tryz.func125, by kernel_rfl, by kernel_rfl, by kernel_rfl⟩ fun l es obs v es' h ho => ?_
  (unfold blkF at h; split at h; rotate_left; (focus (cases h)); rename_i n a b; simp only [Option.some.injEq, Prod.mk.injEq] at h; obtain ⟨rfl, rfl, rfl⟩ := h; simp only [List.mem_cons, List.not_mem_nil, or_false, forall_eq_or_imp, forall_eq, false_implies, implies_true] at ho)
  obtain ⟨rfl, ho1, ho2, ho3⟩ := ho
  refine ⟨Nat.le_of_ble_eq_true rfl, ?_⟩
  have el : (cR b a).length = b.length - a.toNat := by simp
  by_cases k1 : (cR b a).length = 0
  · have e : blC (cR b a) = 20 := if_pos k1
    have e2 : cR b a = [] := List.length_eq_zero_iff.1 k1
    have e3 : bkG false (cR b a) = 0 := by rw [e2]; rfl
    rw [e, e3]
    (repeat' (first | (refine xI (fun hfk => ?_) (fun hfk => ?_) <;> ((try (first | replace hfk := oT hfk | replace hfk := oF hfk | simp only [oD, ne_eq, reduceCtorEq] at hfk)); (try exact oX))) | refine And.intro oZ ?_ | exact True.intro | (show _ = _; first | exact oY | exact rfl) | exact oW | (apply And.intro)))
    (refine ⟨[0, 1], ⟨by kernel_rfl⟩, ?_⟩)
    (repeat' (first | (refine xI (fun hfk => ?_) (fun hfk => ?_) <;> ((try (first | replace hfk := oT hfk | replace hfk := oF hfk | simp only [oD, ne_eq, reduceCtorEq] at hfk)); (try exact oX))) | refine And.intro oZ ?_ | exact True.intro | (show _ = _; first | exact oY | exact rfl) | exact oW | (apply And.intro)))
    refine ⟨[some 0, some 1], ?_⟩
    (repeat' (first | (refine xI (fun hfk => ?_) (fun hfk => ?_) <;> ((try (first | replace hfk := oT hfk | replace hfk := oF hfk | simp only [oD, ne_eq, reduceCtorEq] at hfk)); (try exact oX))) | refine And.intro oZ ?_ | exact True.intro | (show _ = _; first | exact oY | exact rfl) | exact oW | (apply And.intro)))
  have e : blC (cR b a) = if bkG false (cR b a) = 0 then 21 else 0 := if_neg k1
  have bl := bkG_le false (cR b a)
  rw [e]
  (repeat' (first | (refine xI (fun hfk => ?_) (fun hfk => ?_) <;> ((try (first | replace hfk := oT hfk | replace hfk := oF hfk | simp only [oD, ne_eq, reduceCtorEq] at hfk)); (try exact oX))) | refine And.intro oZ ?_ | exact True.intro | (show _ = _; first | exact oY | exact rfl) | exact oW | (apply And.intro)))
  (refine ⟨[0, 1], ⟨by kernel_rfl⟩, ?_⟩)
  (repeat' (first | (refine xI (fun hfk => ?_) (fun hfk => ?_) <;> ((try (first | replace hfk := oT hfk | replace hfk := oF hfk | simp only [oD, ne_eq, reduceCtorEq] at hfk)); (try exact oX))) | refine And.intro oZ ?_ | exact True.intro | (show _ = _; first | exact oY | exact rfl) | exact oW | (apply And.intro)))
  refine ⟨Nat, fun i => [(0, .ptr 0 0), (3, .sl 1 1 a.toNat (b.length - a.toNat)), (4, .int .i64 i)],
      fun i => ⟨2, [(0, some (.cells 120 [.sl 1 1 0 b.length, .int .i64 a])), (1, some (.ints 5 .u8 b))]⟩,
      fun i => i ≤ (cR b a).length ∧ i + bkG false ((cR b a).drop i) = bkG false (cR b a), fun i => (cR b a).length - i, ⟨0, [some 0, some 1], ⟨by omega, by simp⟩, ?_⟩, fun i hi => ?_⟩
  · (repeat' (first | (refine xI (fun hfk => ?_) (fun hfk => ?_) <;> ((try (first | replace hfk := oT hfk | replace hfk := oF hfk | simp only [oD, ne_eq, reduceCtorEq] at hfk)); (try exact oX))) | refine And.intro oZ ?_ | exact True.intro | (show _ = _; first | exact oY | exact rfl) | exact oW | (apply And.intro)))
  obtain ⟨hi1, hi2⟩ := hi
  have fin : i = bkG false (cR b a) → True := fun _ => True.intro
  refine ⟨fun hy => ?_, fun hy => ?_⟩
  · replace hy := of_decide_eq_true hy
    have hl : i < (cR b a).length := by omega
    have eg : b.getD (a.toNat + (i : Int).toNat) 0 = (cR b a).getD i 0 := cR_get (i := i) hl
    have ed := drop_cons hl
    have es : List.take (b.length - a.toNat - (i : Int).toNat) (List.drop (a.toNat + (i : Int).toNat) b) = (cR b a).drop i := by
      show List.take (b.length - a.toNat - i) (List.drop (a.toNat + i) b) = _
      rw [cR, List.drop_take, List.drop_drop]
    have rl : rmN ((cR b a).drop i) ≤ (cR b a).length - i := by
      rw [ed]
      have := ixN_le 10 ((cR b a).getD i 0 :: (cR b a).drop (i + 1))
      simp only [rmN]
      simp only [List.length_cons, List.length_drop] at *
      (repeat' split) <;> omega
    by_cases hb : isBl ((cR b a).getD i 0) = true
    · have hb2 : isBl (b.getD (a.toNat + (i : Int).toNat) 0) = true := by rw [eg]; exact hb
      rw [ed] at hi2
      simp only [bkG] at hi2
      rw [if_pos hb] at hi2
      (repeat' (first | (refine xI (fun hfk => ?_) (fun hfk => ?_) <;> ((try (first | replace hfk := oT hfk | replace hfk := oF hfk | simp only [oD, ne_eq, reduceCtorEq] at hfk)); (try exact oX))) | refine And.intro oZ ?_ | exact True.intro | (show _ = _; first | exact oY | exact rfl) | exact oW | (apply And.intro)))
      (refine ⟨i + 1, [some 0, some 1], ?_, ?mu, ?_⟩; (case mu => ((try dsimp only); omega)))
      · exact ⟨by omega, by omega⟩
      (repeat' (first | (refine xI (fun hfk => ?_) (fun hfk => ?_) <;> ((try (first | replace hfk := oT hfk | replace hfk := oF hfk | simp only [oD, ne_eq, reduceCtorEq] at hfk)); (try exact oX))) | refine And.intro oZ ?_ | exact True.intro | (show _ = _; first | exact oY | exact rfl) | exact oW | (apply And.intro)))
    · have hb1 : isBl ((cR b a).getD i 0) = false := by simpa using hb
      have hb2 : isBl (b.getD (a.toNat + (i : Int).toNat) 0) = false := by rw [eg]; exact hb1
      have st := bk_step ((cR b a).getD i 0) ((cR b a).drop (i + 1)) hb1
      rw [← ed] at st
      by_cases hr : rmN ((cR b a).drop i) = 0
      · have hr2 : rmN (List.take (b.length - a.toNat - (i : Int).toNat) (List.drop (a.toNat + (i : Int).toNat) b)) = 0 := by rw [es]; exact hr
        have e3 : bkG false (cR b a) = i := by
          rcases st with st | st
          · rw [hr, List.drop_zero] at st
            rw [ed] at hi2
            simp only [bkG, hb, hr] at hi2
            by_cases hx : (cR b a).getD i 0 = 35
            · rw [ed] at hr
              simp only [rmN] at hr
              rw [if_pos hx] at hr
              simp only [List.length_cons] at hr
              split at hr <;> omega
            · rw [if_neg (by simp), if_neg hx] at hi2; omega
          · omega
        rw [e3]
        by_cases hi0 : i = 0
        · rw [if_pos hi0]
          (repeat' (first | (refine xI (fun hfk => ?_) (fun hfk => ?_) <;> ((try (first | replace hfk := oT hfk | replace hfk := oF hfk | simp only [oD, ne_eq, reduceCtorEq] at hfk)); (try exact oX))) | refine And.intro oZ ?_ | exact True.intro | (show _ = _; first | exact oY | exact rfl) | exact oW | (apply And.intro)))
          refine ⟨[some 0, some 1], ?_⟩
          (repeat' (first | (refine xI (fun hfk => ?_) (fun hfk => ?_) <;> ((try (first | replace hfk := oT hfk | replace hfk := oF hfk | simp only [oD, ne_eq, reduceCtorEq] at hfk)); (try exact oX))) | refine And.intro oZ ?_ | exact True.intro | (show _ = _; first | exact oY | exact rfl) | exact oW | (apply And.intro)))
        · rw [if_neg hi0]
          (repeat' (first | (refine xI (fun hfk => ?_) (fun hfk => ?_) <;> ((try (first | replace hfk := oT hfk | replace hfk := oF hfk | simp only [oD, ne_eq, reduceCtorEq] at hfk)); (try exact oX))) | refine And.intro oZ ?_ | exact True.intro | (show _ = _; first | exact oY | exact rfl) | exact oW | (apply And.intro)))
          (refine ⟨[0, 1], ⟨by kernel_rfl⟩, ?_⟩)
          (repeat' (first | (refine xI (fun hfk => ?_) (fun hfk => ?_) <;> ((try (first | replace hfk := oT hfk | replace hfk := oF hfk | simp only [oD, ne_eq, reduceCtorEq] at hfk)); (try exact oX))) | refine And.intro oZ ?_ | exact True.intro | (show _ = _; first | exact oY | exact rfl) | exact oW | (apply And.intro)))
          refine ⟨[some 0, some 1], ?_⟩
          (repeat' (first | (refine xI (fun hfk => ?_) (fun hfk => ?_) <;> ((try (first | replace hfk := oT hfk | replace hfk := oF hfk | simp only [oD, ne_eq, reduceCtorEq] at hfk)); (try exact oX))) | refine And.intro oZ ?_ | exact True.intro | (show _ = _; first | exact oY | exact rfl) | exact oW | (apply And.intro)))
      · have hr2 : rmN (List.take (b.length - a.toNat - (i : Int).toNat) (List.drop (a.toNat + (i : Int).toNat) b)) = rmN ((cR b a).drop i) := by rw [es]
        have hs : i + rmN ((cR b a).drop i) + bkG false ((cR b a).drop (i + rmN ((cR b a).drop i))) = bkG false (cR b a) := by
          rcases st with st | st
          · rw [List.drop_drop] at st; omega
          · omega
        (repeat' (first | (refine xI (fun hfk => ?_) (fun hfk => ?_) <;> ((try (first | replace hfk := oT hfk | replace hfk := oF hfk | simp only [oD, ne_eq, reduceCtorEq] at hfk)); (try exact oX))) | refine And.intro oZ ?_ | exact True.intro | (show _ = _; first | exact oY | exact rfl) | exact oW | (apply And.intro)))
        (refine ⟨i + rmN ((cR b a).drop i), [some 0, some 1], ?_, ?mu, ?_⟩; (case mu => ((try dsimp only); omega)))
        · exact ⟨by omega, hs⟩
        (repeat' (first | (refine xI (fun hfk => ?_) (fun hfk => ?_) <;> ((try (first | replace hfk := oT hfk | replace hfk := oF hfk | simp only [oD, ne_eq, reduceCtorEq] at hfk)); (try exact oX))) | refine And.intro oZ ?_ | exact True.intro | (show _ = _; first | exact oY | exact rfl) | exact oW | (apply And.intro)))
  · have hl : i = (cR b a).length := by have := of_decide_eq_false hy; omega
    have e3 : bkG false (cR b a) = i := by
      have : (cR b a).drop i = [] := List.drop_eq_nil_of_le (by omega)
      rw [this] at hi2; simpa [bkG] using hi2.symm
    have hi0 : ¬ i = 0 := by omega
    rw [e3, if_neg hi0]
    (repeat' (first | (refine xI (fun hfk => ?_) (fun hfk => ?_) <;> ((try (first | replace hfk := oT hfk | replace hfk := oF hfk | simp only [oD, ne_eq, reduceCtorEq] at hfk)); (try exact oX))) | refine And.intro oZ ?_ | exact True.intro | (show _ = _; first | exact oY | exact rfl) | exact oW | (apply And.intro)))
    (refine ⟨[0, 1], ⟨by kernel_rfl⟩, ?_⟩)
    (repeat' (first | (refine xI (fun hfk => ?_) (fun hfk => ?_) <;> ((try (first | replace hfk := oT hfk | replace hfk := oF hfk | simp only [oD, ne_eq, reduceCtorEq] at hfk)); (try exact oX))) | refine And.intro oZ ?_ | exact True.intro | (show _ = _; first | exact oY | exact rfl) | exact oW | (apply And.intro)))
    refine ⟨[some 0, some 1], ?_⟩
    (repeat' (first | (refine xI (fun hfk => ?_) (fun hfk => ?_) <;> ((try (first | replace hfk := oT hfk | replace hfk := oF hfk | simp only [oD, ne_eq, reduceCtorEq] at hfk)); (try exact oX))) | refine And.intro oZ ?_ | exact True.intro | (show _ = _; first | exact oY | exact rfl) | exact oW | (apply And.intro)))
end Go.Proofs.YtljdahepmmgfeaaGreatDoor
namespace Go.Proofs.YtljdahepmmgfeaaGreatDoor
open Go Go.RowKit
set_option maxHeartbeats 4000000
def hasPre (s p : List UInt8) : Bool := decide (p.length ≤ s.length ∧ s.take p.length = p)
def preN (s p : List UInt8) : Nat := if hasPre s p = true then 1 else 0
theorem hasPre_N (s p : List UInt8) : decide (preN s p = 1) = hasPre s p := by
  unfold preN
  cases hasPre s p <;> rfl
abbrev hasPreS : PSpec := fun l => match l with | [.str s, .str p] => some ([s.length ≤ 140737488355328, p.length ≤ 140737488355328], .bool (decide (preN s p = 1))) | _ => none
theorem hasPreI_s : SOK Tryz.prog 94 hasPreS := by
  refine sok_of (C := mkC 0 [] noG) (mkC_ok pok_nil noG_ok) rfl mixed ⟨Tryz.func94, by kernel_rfl, by kernel_rfl, by kernel_rfl⟩ fun l obs v h ho => ?_
  (unfold hasPreS at h; split at h; rotate_left; (focus (cases h)); rename_i s p; simp only [Option.some.injEq, Prod.mk.injEq] at h; obtain ⟨rfl, rfl⟩ := h; simp only [List.mem_cons, List.not_mem_nil, or_false, forall_eq_or_imp, forall_eq, false_implies, implies_true] at ho)
  obtain ⟨ho1, ho2⟩ := ho
  refine ⟨Nat.le_of_ble_eq_true rfl, ?_⟩
  rw [hasPre_N]
  have ed : List.drop 0 (List.take ((p.length : Int)).toNat s) = s.take p.length := rfl
  by_cases k1 : p.length ≤ s.length
  · by_cases k2 : s.take p.length = p
    · have e : hasPre s p = true := decide_eq_true ⟨k1, k2⟩
      have e2 : true = decide (List.drop 0 (List.take ((p.length : Int)).toNat s) = p) := by rw [ed]; exact (decide_eq_true k2).symm
      rw [e]
      (repeat' (first | (refine xI (fun hfk => ?_) (fun hfk => ?_) <;> ((try (first | replace hfk := oT hfk | replace hfk := oF hfk | simp only [oD, ne_eq, reduceCtorEq] at hfk)); (try exact oX))) | refine And.intro oZ ?_ | exact True.intro | (show _ = _; first | exact oY | (first | exact e2 | exact e2.symm | rfl; done) | exact rfl) | exact oW | (apply And.intro)))
    · have e : hasPre s p = false := decide_eq_false (fun q => k2 q.2)
      have e2 : false = decide (List.drop 0 (List.take ((p.length : Int)).toNat s) = p) := by rw [ed]; exact (decide_eq_false k2).symm
      rw [e]
      (repeat' (first | (refine xI (fun hfk => ?_) (fun hfk => ?_) <;> ((try (first | replace hfk := oT hfk | replace hfk := oF hfk | simp only [oD, ne_eq, reduceCtorEq] at hfk)); (try exact oX))) | refine And.intro oZ ?_ | exact True.intro | (show _ = _; first | exact oY | (first | exact e2 | exact e2.symm | rfl; done) | exact rfl) | exact oW | (apply And.intro)))
  · have e : hasPre s p = false := decide_eq_false (fun q => k1 q.1)
    rw [e]
    (repeat' (first | (refine xI (fun hfk => ?_) (fun hfk => ?_) <;> ((try (first | replace hfk := oT hfk | replace hfk := oF hfk | simp only [oD, ne_eq, reduceCtorEq] at hfk)); (try exact oX))) | refine And.intro oZ ?_ | exact True.intro | (show _ = _; first | exact oY | exact rfl) | exact oW | (apply And.intro)))
theorem hasPre_s : SOK Tryz.prog 61 hasPreS := by
  refine sok_of (C := mkC 0 [(94, hasPreS)] noG) (mkC_ok (pok_cons hasPreI_s pok_nil) noG_ok) rfl mixed ⟨Tryz.func61, by kernel_rfl, by kernel_rfl, by kernel_rfl⟩ fun l obs v h ho => ?_
  (unfold hasPreS at h; split at h; rotate_left; (focus (cases h)); rename_i s p; simp only [Option.some.injEq, Prod.mk.injEq] at h; obtain ⟨rfl, rfl⟩ := h; simp only [List.mem_cons, List.not_mem_nil, or_false, forall_eq_or_imp, forall_eq, false_implies, implies_true] at ho)
  obtain ⟨ho1, ho2⟩ := ho
  refine ⟨Nat.le_of_ble_eq_true rfl, ?_⟩
  (repeat' (first | (refine xI (fun hfk => ?_) (fun hfk => ?_) <;> ((try (first | replace hfk := oT hfk | replace hfk := oF hfk | simp only [oD, ne_eq, reduceCtorEq] at hfk)); (try exact oX))) | refine And.intro oZ ?_ | exact True.intro | (show _ = _; first | exact oY | exact rfl) | exact oW | (apply And.intro)))
def kndQ (n : Nat) (c0 c1 c28 c29 : Int) : Int :=
  if 2 ≤ n ∧ c0 = 80 ∧ c1 = 53 then 1
  else if 2 ≤ n ∧ c0 = 80 ∧ c1 = 54 then 2
  else if 30 ≤ n ∧ c0 = 66 ∧ c1 = 77 ∧ c29 = 0 then (if c28 = 24 then 3 else if c28 = 32 then 4 else 0) else 0
def kndV (b : List Int) : Int := kndQ b.length (b.getD 0 0) (b.getD 1 0) (b.getD 28 0) (b.getD 29 0)
theorem knd1 {n : Nat} {c0 c1 c28 c29 : Int} (h : 2 ≤ n ∧ c0 = 80 ∧ c1 = 53) : kndQ n c0 c1 c28 c29 = 1 := if_pos h
theorem knd2 {n : Nat} {c0 c1 c28 c29 : Int} (h : 2 ≤ n ∧ c0 = 80 ∧ c1 = 54) : kndQ n c0 c1 c28 c29 = 2 := by unfold kndQ; rw [if_neg (by omega), if_pos h]
theorem knd3 {n : Nat} {c0 c1 c28 c29 : Int} (h : 30 ≤ n ∧ c0 = 66 ∧ c1 = 77 ∧ c29 = 0) (k : c28 = 24) : kndQ n c0 c1 c28 c29 = 3 := by unfold kndQ; rw [if_neg (by omega), if_neg (by omega), if_pos h, if_pos k]
theorem knd4 {n : Nat} {c0 c1 c28 c29 : Int} (h : 30 ≤ n ∧ c0 = 66 ∧ c1 = 77 ∧ c29 = 0) (k : c28 = 32) : kndQ n c0 c1 c28 c29 = 4 := by unfold kndQ; rw [if_neg (by omega), if_neg (by omega), if_pos h, if_neg (by omega), if_pos k]
theorem knd0 {n : Nat} {c0 c1 c28 c29 : Int} (h1 : ¬ (2 ≤ n ∧ c0 = 80 ∧ c1 = 53)) (h2 : ¬ (2 ≤ n ∧ c0 = 80 ∧ c1 = 54)) (h : ¬ (30 ≤ n ∧ c0 = 66 ∧ c1 = 77 ∧ c29 = 0) ∨ (c28 ≠ 24 ∧ c28 ≠ 32)) : kndQ n c0 c1 c28 c29 = 0 := by
  unfold kndQ; rw [if_neg h1, if_neg h2]
  split
  · rcases h with h | ⟨a, b⟩
    · exact absurd (by assumption) h
    · rw [if_neg a, if_neg b]
  · rfl
abbrev kndS : PSpec := fun l => match l with | [.roi .u8 b] => some ([Bytes b, b.length ≤ 100000], .int .i64 (kndV b)) | _ => none
theorem rknd_s : SOK Tryz.prog 44 kndS := by
  refine sok_of (C := mkC 0 [] noG) (mkC_ok pok_nil noG_ok) rfl mixed ⟨Tryz.func44, by kernel_rfl, by kernel_rfl, by kernel_rfl⟩ fun l obs v h ho => ?_
  (unfold kndS at h; split at h; rotate_left; (focus (cases h)); rename_i b; simp only [Option.some.injEq, Prod.mk.injEq] at h; obtain ⟨rfl, rfl⟩ := h; simp only [List.mem_cons, List.not_mem_nil, or_false, forall_eq_or_imp, forall_eq, false_implies, implies_true] at ho)
  obtain ⟨ho1, ho2⟩ := ho
  refine ⟨Nat.le_of_ble_eq_true rfl, ?_⟩
  unfold kndV
  obtain ⟨c0, h0⟩ : ∃ c, b.getD 0 0 = c := ⟨_, rfl⟩
  obtain ⟨c1, h1⟩ : ∃ c, b.getD 1 0 = c := ⟨_, rfl⟩
  obtain ⟨c28, h28⟩ : ∃ c, b.getD 28 0 = c := ⟨_, rfl⟩
  obtain ⟨c29, h29⟩ : ∃ c, b.getD 29 0 = c := ⟨_, rfl⟩
  rw [h0, h1, h28, h29]
  have g0 : b.getD (Int.toNat 0) 0 = c0 := h0
  have g1 : b.getD (Int.toNat 1) 0 = c1 := h1
  have g28 : b.getD (Int.toNat 28) 0 = c28 := h28
  have g29 : b.getD (Int.toNat 29) 0 = c29 := h29
  clear h0 h1 h28 h29
  (repeat' (first | (refine xI (fun hfk => ?_) (fun hfk => ?_) <;> ((try (first | replace hfk := oT hfk | replace hfk := oF hfk | simp only [oD, ne_eq, reduceCtorEq] at hfk)); (try exact oX))) | refine And.intro oZ ?_ | exact True.intro | (show _ = _; first | exact oY | (first | exact (knd1 (by omega)).symm | exact (knd2 (by omega)).symm | exact (knd3 (by omega) (by omega)).symm | exact (knd4 (by omega) (by omega)).symm | exact (knd0 (by omega) (by omega) (by omega)).symm | exact knd1 (by omega) | exact knd2 (by omega) | exact knd3 (by omega) (by omega) | exact knd4 (by omega) (by omega) | exact knd0 (by omega) (by omega) (by omega); done) | exact rfl) | exact oW | (apply And.intro)))
theorem u8_back {x : Int} (h : 0 ≤ x ∧ x ≤ 255) : ((UInt8.ofNat x.toNat).toNat : Int) = x := by
  have : (UInt8.ofNat x.toNat).toNat = x.toNat % 256 := by simp
  rw [this]; omega
theorem map_get {b : List Int} {n i : Nat} (hb : Bytes b) (hi : i < n) (hl : i < b.length) : (((b.take n).map fun n => UInt8.ofNat n.toNat).getD i 0).toNat = (b.getD i 0).toNat := by
  have h1 : i < (b.take n).length := by rw [List.length_take]; omega
  have h2 := hb.get i
  have h3 : ((b.take n).map fun n => UInt8.ofNat n.toNat).getD i 0 = UInt8.ofNat (b.getD i 0).toNat := by
    rw [List.getD_eq_getElem?_getD, List.getElem?_map, List.getElem?_eq_getElem h1, List.getElem_take, List.getD_eq_getElem?_getD, List.getElem?_eq_getElem hl]; rfl
  rw [h3]
  have := u8_back h2
  omega
theorem pre2 {b : List Int} {n : Nat} (hb : Bytes b) (hn : n = 30 ∨ n = b.length) (hn2 : n ≤ b.length) (x y : UInt8) :
    hasPre ((b.take n).map fun n => UInt8.ofNat n.toNat) [x, y] = decide (2 ≤ b.length ∧ b.getD 0 0 = (x.toNat : Int) ∧ b.getD 1 0 = (y.toNat : Int)) := by
  unfold hasPre
  refine decide_eq_decide.2 ?_
  have hl : ((b.take n).map fun n => UInt8.ofNat n.toNat).length = n := by rw [List.length_map, List.length_take]; omega
  have hxy : ∀ z w : UInt8, z = w ↔ z.toNat = w.toNat := fun z w => UInt8.toNat_inj.symm
  match b, hb, hn, hn2, hl with
  | [], _, _, _, _ => simp
  | [a], _, hn, hn2, hl =>
    have h1 : ([a] : List Int).length = 1 := rfl
    have h2 : ([x, y] : List UInt8).length = 2 := rfl
    constructor
    · rintro ⟨h, _⟩; omega
    · rintro ⟨h, _⟩; omega
  | a :: c :: r, hb, hn, hn2, hl =>
    obtain ⟨m, rfl⟩ : ∃ m, n = m + 2 := ⟨n - 2, by have : (a :: c :: r).length = r.length + 2 := rfl; omega⟩
    have ha := hb a (by simp)
    have hc := hb c (by simp)
    have ua := u8_back ha
    have uc := u8_back hc
    have e1 : ((a :: c :: r).take (m + 2)).map (fun n => UInt8.ofNat n.toNat) = UInt8.ofNat a.toNat :: UInt8.ofNat c.toNat :: (r.take m).map (fun n => UInt8.ofNat n.toNat) := rfl
    rw [e1]
    show (2 ≤ _ ∧ [UInt8.ofNat a.toNat, UInt8.ofNat c.toNat] = [x, y]) ↔ (2 ≤ _ ∧ a = _ ∧ c = _)
    constructor
    · rintro ⟨_, q⟩
      simp only [List.cons.injEq, and_true] at q
      obtain ⟨q1, q2⟩ := q
      rw [q1] at ua; rw [q2] at uc
      exact ⟨by simp, ua.symm, uc.symm⟩
    · rintro ⟨_, q1, q2⟩
      refine ⟨by simp, ?_⟩
      have z1 : UInt8.ofNat a.toNat = x := by rw [hxy]; omega
      have z2 : UInt8.ofNat c.toNat = y := by rw [hxy]; omega
      rw [z1, z2]
theorem pre_or {b : List Int} {n : Nat} (hb : Bytes b) (hn : n = 30 ∨ n = b.length) (hn2 : n ≤ b.length) (x y : UInt8) :
    (preN ((b.take n).map fun n => UInt8.ofNat n.toNat) [x, y] = 1 ∧ 2 ≤ b.length ∧ b.getD 0 0 = (x.toNat : Int) ∧ b.getD 1 0 = (y.toNat : Int)) ∨ (preN ((b.take n).map fun n => UInt8.ofNat n.toNat) [x, y] = 0 ∧ ¬ (2 ≤ b.length ∧ b.getD 0 0 = (x.toNat : Int) ∧ b.getD 1 0 = (y.toNat : Int))) := by
  unfold preN
  rw [pre2 hb hn hn2 x y]
  by_cases k : 2 ≤ b.length ∧ b.getD 0 0 = (x.toNat : Int) ∧ b.getD 1 0 = (y.toNat : Int)
  · left; rw [if_pos (decide_eq_true k)]; exact ⟨rfl, k⟩
  · right; rw [if_neg (by rw [decide_eq_false k]; decide)]; exact ⟨rfl, k⟩
theorem knd_s : SOK Tryz.prog 33 kndS := by
  refine sok_of (C := mkC 0 [(61, hasPreS)] noG) (mkC_ok (pok_cons hasPre_s pok_nil) noG_ok) rfl mixed ⟨Tryz.func33, by kernel_rfl, by kernel_rfl, by kernel_rfl⟩ fun l obs v h ho => ?_
  (unfold kndS at h; split at h; rotate_left; (focus (cases h)); rename_i b; simp only [Option.some.injEq, Prod.mk.injEq] at h; obtain ⟨rfl, rfl⟩ := h; simp only [List.mem_cons, List.not_mem_nil, or_false, forall_eq_or_imp, forall_eq, false_implies, implies_true] at ho)
  obtain ⟨ho1, ho2⟩ := ho
  refine ⟨Nat.le_of_ble_eq_true rfl, ?_⟩
  have m0 : 0 ≤ min (b.length : Int) 30 ∧ min (b.length : Int) 30 ≤ (b.length : Int) := by omega
  obtain ⟨n, hn⟩ : ∃ n, (min (b.length : Int) 30).toNat = n := ⟨_, rfl⟩
  have n1 : n = 30 ∨ n = b.length := by omega
  have n2 : n ≤ b.length := by omega
  have q5 : (preN (List.map (fun n => UInt8.ofNat n.toNat) (List.drop 0 (List.take (min (b.length : Int) 30).toNat b))) (ByteArray.mk #[80, 53]).data.toList = 1 ∧ 2 ≤ b.length ∧ b.getD 0 0 = 80 ∧ b.getD 1 0 = 53) ∨ (preN (List.map (fun n => UInt8.ofNat n.toNat) (List.drop 0 (List.take (min (b.length : Int) 30).toNat b))) (ByteArray.mk #[80, 53]).data.toList = 0 ∧ ¬ (2 ≤ b.length ∧ b.getD 0 0 = 80 ∧ b.getD 1 0 = 53)) := by
    rw [hn]; exact pre_or ho1 n1 n2 80 53
  have q6 : (preN (List.map (fun n => UInt8.ofNat n.toNat) (List.drop 0 (List.take (min (b.length : Int) 30).toNat b))) (ByteArray.mk #[80, 54]).data.toList = 1 ∧ 2 ≤ b.length ∧ b.getD 0 0 = 80 ∧ b.getD 1 0 = 54) ∨ (preN (List.map (fun n => UInt8.ofNat n.toNat) (List.drop 0 (List.take (min (b.length : Int) 30).toNat b))) (ByteArray.mk #[80, 54]).data.toList = 0 ∧ ¬ (2 ≤ b.length ∧ b.getD 0 0 = 80 ∧ b.getD 1 0 = 54)) := by
    rw [hn]; exact pre_or ho1 n1 n2 80 54
  have q7 : (preN (List.map (fun n => UInt8.ofNat n.toNat) (List.drop 0 (List.take (min (b.length : Int) 30).toNat b))) (ByteArray.mk #[66, 77]).data.toList = 1 ∧ 2 ≤ b.length ∧ b.getD 0 0 = 66 ∧ b.getD 1 0 = 77) ∨ (preN (List.map (fun n => UInt8.ofNat n.toNat) (List.drop 0 (List.take (min (b.length : Int) 30).toNat b))) (ByteArray.mk #[66, 77]).data.toList = 0 ∧ ¬ (2 ≤ b.length ∧ b.getD 0 0 = 66 ∧ b.getD 1 0 = 77)) := by
    rw [hn]; exact pre_or ho1 n1 n2 66 77
  have hL : (List.map (fun n => UInt8.ofNat n.toNat) (List.drop 0 (List.take (min (b.length : Int) 30).toNat b))).length = n := by rw [hn, List.length_map, List.drop_zero, List.length_take]; omega
  have v28 : 30 ≤ b.length → (((List.map (fun n => UInt8.ofNat n.toNat) (List.drop 0 (List.take (min (b.length : Int) 30).toNat b))).getD (Int.toNat 28) 0).toNat : Int) = b.getD 28 0 := fun k => by
    have h1 := map_get (b := b) (n := n) (i := 28) ho1 (by omega) (by omega)
    rw [hn]
    have h2 := ho1.get 28
    have h3 : (((List.map (fun n => UInt8.ofNat n.toNat) (List.take n b)).getD 28 0).toNat : Int) = b.getD 28 0 := by omega
    exact h3
  have v29 : 30 ≤ b.length → (((List.map (fun n => UInt8.ofNat n.toNat) (List.drop 0 (List.take (min (b.length : Int) 30).toNat b))).getD (Int.toNat 29) 0).toNat : Int) = b.getD 29 0 := fun k => by
    have h1 := map_get (b := b) (n := n) (i := 29) ho1 (by omega) (by omega)
    rw [hn]
    have h2 := ho1.get 29
    have h3 : (((List.map (fun n => UInt8.ofNat n.toNat) (List.take n b)).getD 29 0).toNat : Int) = b.getD 29 0 := by omega
    exact h3
  replace v28 := (Nat.lt_or_ge b.length 30).imp id v28
  replace v29 := (Nat.lt_or_ge b.length 30).imp id v29
  have q7' : (preN (List.map (fun n => UInt8.ofNat n.toNat) (List.drop 0 (List.take (min (b.length : Int) 30).toNat b))) [66, 77] = 1 ∧ 2 ≤ b.length ∧ b.getD 0 0 = 66 ∧ b.getD 1 0 = 77) ∨ (preN (List.map (fun n => UInt8.ofNat n.toNat) (List.drop 0 (List.take (min (b.length : Int) 30).toNat b))) [66, 77] = 0 ∧ ¬ (2 ≤ b.length ∧ b.getD 0 0 = 66 ∧ b.getD 1 0 = 77)) := q7
  clear hn
  unfold kndV
  generalize b.getD 0 0 = c0 at *
  generalize b.getD 1 0 = c1 at *
  generalize b.getD 28 0 = c28 at *
  generalize b.getD 29 0 = c29 at *
  (repeat' (first | (refine xI (fun hfk => ?_) (fun hfk => ?_) <;> ((try (first | replace hfk := oT hfk | replace hfk := oF hfk | simp only [oD, ne_eq, reduceCtorEq] at hfk)); (try exact oX))) | refine And.intro oZ ?_ | exact True.intro | (show _ = _; first | exact oY | (first | exact (knd1 (by omega)).symm | exact (knd2 (by omega)).symm | exact (knd3 (by omega) (by omega)).symm | exact (knd4 (by omega) (by omega)).symm | exact (knd0 (by omega) (by omega) (by omega)).symm | exact knd1 (by omega) | exact knd2 (by omega) | exact knd3 (by omega) (by omega) | exact knd4 (by omega) (by omega) | exact knd0 (by omega) (by omega) (by omega); done) | exact rfl) | exact oW | (apply And.intro)))
end Go.Proofs.YtljdahepmmgfeaaGreatDoor
namespace Go.Proofs.YtljdahepmmgfeaaGreatDoor
def valD : List Int → Int
  | [] => 0
  | d :: l => d + 32768 * valD l
structure Dg (d : Int) : Prop where
  lo : 0 ≤ d
  hi : d < 32768
def Dig (l : List Int) : Prop := ∀ d ∈ l, Dg d
theorem Dig.nil : Dig [] := fun d h => by cases h
theorem Dig.cons {d : Int} {l : List Int} (h : Dg d) (k : Dig l) : Dig (d :: l) := fun x hx => by
  rcases List.mem_cons.1 hx with rfl | hx
  · exact h
  · exact k x hx
theorem Dig.head {d : Int} {l : List Int} (h : Dig (d :: l)) : Dg d := h d List.mem_cons_self
theorem Dig.tail {d : Int} {l : List Int} (h : Dig (d :: l)) : Dig l := fun x hx => h x (List.mem_cons_of_mem _ hx)
theorem Dig.app {l m : List Int} (h : Dig l) (k : Dig m) : Dig (l ++ m) := fun x hx => (List.mem_append.1 hx).elim (h x) (k x)
theorem Dig.take {l : List Int} (h : Dig l) (n : Nat) : Dig (l.take n) := fun x hx => h x (List.mem_of_mem_take hx)
theorem Dig.drop {l : List Int} (h : Dig l) (n : Nat) : Dig (l.drop n) := fun x hx => h x (List.mem_of_mem_drop hx)
theorem valD_nn : ∀ {l : List Int}, Dig l → 0 ≤ valD l
  | [], _ => by unfold valD; omega
  | d :: l, h => by
    have h1 := h.head.lo
    have h2 := valD_nn h.tail
    unfold valD
    omega
def dgs (n : Nat) : List Int := if h : n = 0 then [] else ((n % 32768 : Nat) : Int) :: dgs (n / 32768)
termination_by n
decreasing_by omega
theorem dgs_0 : dgs 0 = [] := by unfold dgs; simp
theorem dgs_pos {n : Nat} (h : n ≠ 0) : dgs n = ((n % 32768 : Nat) : Int) :: dgs (n / 32768) := by rw [dgs, dif_neg h]
theorem valD_dgs (n : Nat) : valD (dgs n) = n := by
  induction n using Nat.strongRecOn with
  | ind n ih =>
    by_cases h : n = 0
    · subst h; rw [dgs_0]; rfl
    · rw [dgs_pos h, valD, ih (n / 32768) (by omega)]
      omega
theorem Dig_dgs (n : Nat) : Dig (dgs n) := by
  induction n using Nat.strongRecOn with
  | ind n ih =>
    by_cases h : n = 0
    · subst h; rw [dgs_0]; exact Dig.nil
    · rw [dgs_pos h]
      exact Dig.cons ⟨by omega, by omega⟩ (ih _ (by omega))
def trimL : List Int → List Int
  | [] => []
  | d :: l => match trimL l with
    | [] => if d = 0 then [] else [d]
    | x :: r => d :: x :: r
theorem trim_dgs : ∀ {l : List Int}, Dig l → trimL l = dgs (valD l).toNat
  | [], _ => by unfold trimL valD; rw [show (0 : Int).toNat = 0 from rfl, dgs_0]
  | d :: l, h => by
    have hd := h.head
    have hv := valD_nn h.tail
    have ih := trim_dgs h.tail
    have h1 := hd.lo
    have h2 := hd.hi
    obtain ⟨V, hV⟩ := Int.eq_ofNat_of_zero_le hv
    obtain ⟨D, hD⟩ := Int.eq_ofNat_of_zero_le h1
    have e : (valD (d :: l)).toNat = D + 32768 * V := by unfold valD; omega
    have eV : (valD l).toNat = V := by omega
    rw [e]
    rw [eV] at ih
    unfold trimL
    rw [ih]
    by_cases hz : V = 0
    · subst hz
      rw [dgs_0]
      by_cases hd0 : d = 0
      · have : D = 0 := by omega
        subst this
        rw [if_pos hd0, dgs_0]
      · rw [if_neg hd0, dgs_pos (by omega)]
        have e1 : (D + 32768 * 0) / 32768 = 0 := by omega
        have e2 : (D + 32768 * 0) % 32768 = D := by omega
        rw [e1, e2, dgs_0, hD]
    · have e1 : (D + 32768 * V) / 32768 = V := by omega
      have e2 : (D + 32768 * V) % 32768 = D := by omega
      rw [dgs_pos (n := D + 32768 * V) (by omega), e1, e2, ← hD]
      generalize hq : dgs V = q
      cases q with
      | nil => rw [dgs_pos hz] at hq; cases hq
      | cons x r => rfl
theorem trimL_snoc0 (l : List Int) : trimL (l ++ [0]) = trimL l := by
  induction l with
  | nil => rfl
  | cons d l ih => rw [List.cons_append, trimL, ih]; rfl
theorem trimL_snoc {l : List Int} {d : Int} (h : d ≠ 0) : trimL (l ++ [d]) = l ++ [d] := by
  induction l with
  | nil => simp [trimL, h]
  | cons x l ih =>
    rw [List.cons_append, trimL, ih]
    cases l <;> rfl
def hd0 (l : List Int) : Int := match l with | [] => 0 | d :: _ => d
def sumR : List Int → List Int → Int → List Int
  | [], [], c => [c]
  | [], y :: b, c => (y + c) % 32768 :: sumR [] b ((y + c) / 32768)
  | x :: a, [], c => (x + c) % 32768 :: sumR a [] ((x + c) / 32768)
  | x :: a, y :: b, c => (x + y + c) % 32768 :: sumR a b ((x + y + c) / 32768)
theorem sumR_val : ∀ (a b : List Int) (c : Int), valD (sumR a b c) = valD a + valD b + c
  | [], [], c => by simp [sumR, valD]
  | [], y :: b, c => by
    have := sumR_val [] b ((y + c) / 32768)
    simp only [sumR, valD] at *
    omega
  | x :: a, [], c => by
    have := sumR_val a [] ((x + c) / 32768)
    simp only [sumR, valD] at *
    omega
  | x :: a, y :: b, c => by
    have := sumR_val a b ((x + y + c) / 32768)
    simp only [sumR, valD] at *
    omega
theorem sumR_dig : ∀ {a b : List Int} {c : Int}, Dig a → Dig b → 0 ≤ c → c ≤ 1 → Dig (sumR a b c)
  | [], [], c, _, _, h0, h1 => by
    rw [sumR]
    exact Dig.cons ⟨h0, by omega⟩ Dig.nil
  | [], y :: b, c, _, hb, h0, h1 => by
    have h2 := hb.head.lo; have h3 := hb.head.hi
    rw [sumR]
    exact Dig.cons ⟨by omega, by omega⟩ (sumR_dig Dig.nil hb.tail (by omega) (by omega))
  | x :: a, [], c, ha, _, h0, h1 => by
    have h2 := ha.head.lo; have h3 := ha.head.hi
    rw [sumR]
    exact Dig.cons ⟨by omega, by omega⟩ (sumR_dig ha.tail Dig.nil (by omega) (by omega))
  | x :: a, y :: b, c, ha, hb, h0, h1 => by
    have h2 := ha.head.lo; have h3 := ha.head.hi; have h4 := hb.head.lo; have h5 := hb.head.hi
    rw [sumR]
    exact Dig.cons ⟨by omega, by omega⟩ (sumR_dig ha.tail hb.tail (by omega) (by omega))
def dgAt (l : List Int) (i : Int) : Int := if 0 ≤ i ∧ i < (l.length : Int) then l.getD i.toNat 0 else 0
theorem dgAt_in {l : List Int} {i : Nat} (h : i < l.length) : dgAt l i = l.getD i 0 := by unfold dgAt; rw [if_pos (by omega)]; rfl
theorem dgAt_out {l : List Int} {i : Nat} (h : l.length ≤ i) : dgAt l i = 0 := if_neg (by omega)
theorem dgAt_bd {l : List Int} (hl : Dig l) (i : Int) : 0 ≤ dgAt l i ∧ dgAt l i < 32768 := by
  unfold dgAt
  split
  · rename_i h
    have hlt : i.toNat < l.length := by omega
    simp only [List.getD, List.getElem?_eq_getElem hlt, Option.getD_some]
    have := hl _ (List.getElem_mem hlt)
    exact ⟨this.lo, this.hi⟩
  · omega
theorem drop_dg {l : List Int} {i : Nat} (h : i < l.length) : l.drop i = dgAt l i :: l.drop (i + 1) := by
  rw [dgAt_in h, List.drop_eq_getElem_cons h]
  simp [List.getD, List.getElem?_eq_getElem h]
theorem drop_out {l : List Int} {i : Nat} (h : l.length ≤ i) : l.drop i = [] := List.drop_of_length_le h
theorem sumR_step {a b : List Int} {i : Nat} {c : Int} (h : i < max a.length b.length) :
    sumR (a.drop i) (b.drop i) c = (dgAt a i + dgAt b i + c) % 32768 :: sumR (a.drop (i + 1)) (b.drop (i + 1)) ((dgAt a i + dgAt b i + c) / 32768) := by
  by_cases ha : i < a.length
  · by_cases hb : i < b.length
    · rw [drop_dg ha, drop_dg hb, sumR]
    · rw [drop_dg ha, drop_out (l := b) (by omega), drop_out (l := b) (i := i + 1) (by omega), dgAt_out (l := b) (by omega), Int.add_zero, sumR]
  · have hb : i < b.length := by omega
    rw [drop_dg hb, drop_out (l := a) (by omega), drop_out (l := a) (i := i + 1) (by omega), dgAt_out (l := a) (by omega), Int.zero_add, sumR]
theorem sumR_end {a b : List Int} {i : Nat} {c : Int} (h : ¬ i < max a.length b.length) : sumR (a.drop i) (b.drop i) c = [c] := by
  rw [drop_out (l := a) (by omega), drop_out (l := b) (by omega), sumR]
def restR : List Int → List Int → Int → List Int
  | [], _, _ => []
  | x :: a, b, c => (if x - hd0 b - c < 0 then x - hd0 b - c + 32768 else x - hd0 b - c) :: restR a b.tail (if x - hd0 b - c < 0 then 1 else 0)
theorem valD_hd (l : List Int) : valD l = hd0 l + 32768 * valD l.tail := by cases l <;> simp [valD, hd0]
theorem restR_dig : ∀ {a b : List Int} {c : Int}, Dig a → Dig b → 0 ≤ c → c ≤ 1 → Dig (restR a b c)
  | [], b, c, _, _, _, _ => Dig.nil
  | x :: a, b, c, ha, hb, h0, h1 => by
    have h2 := ha.head.lo; have h3 := ha.head.hi
    have h4 : 0 ≤ hd0 b ∧ hd0 b < 32768 := by cases b with | nil => simp [hd0] | cons y b => exact ⟨hb.head.lo, hb.head.hi⟩
    have hbt : Dig b.tail := by cases b with | nil => exact Dig.nil | cons y b => exact hb.tail
    unfold restR
    refine Dig.cons ?_ (restR_dig ha.tail hbt (by split <;> omega) (by split <;> omega))
    split
    · exact ⟨by omega, by omega⟩
    · exact ⟨by omega, by omega⟩
theorem hd0_bd {b : List Int} (h : Dig b) : 0 ≤ hd0 b ∧ hd0 b < 32768 ∧ Dig b.tail := by
  cases b with
  | nil => exact ⟨by decide, by decide, Dig.nil⟩
  | cons y b => exact ⟨h.head.lo, h.head.hi, h.tail⟩
theorem restR_val : ∀ {a b : List Int} {c : Int}, Dig a → Dig b → 0 ≤ c → c ≤ 1 → valD b + c ≤ valD a → valD (restR a b c) = valD a - valD b - c
  | [], b, c, ha, hb, h0, h1, h => by
    have := valD_nn hb
    simp only [restR, valD] at *
    omega
  | x :: a, b, c, ha, hb, h0, h1, h => by
    have h2 := ha.head.lo; have h3 := ha.head.hi
    obtain ⟨h4, h5, h6⟩ := hd0_bd hb
    have e := valD_hd b
    rw [restR, valD, valD]
    rw [valD] at h
    by_cases hs : x - hd0 b - c < 0
    · rw [if_pos hs, if_pos hs, restR_val ha.tail h6 (by omega) (by omega) (by omega)]
      omega
    · rw [if_neg hs, if_neg hs, restR_val ha.tail h6 (by omega) (by omega) (by omega)]
      omega
theorem hd0_drop (l : List Int) (i : Nat) : hd0 (l.drop i) = dgAt l i := by
  by_cases h : i < l.length
  · rw [drop_dg h]; rfl
  · rw [drop_out (by omega), dgAt_out (by omega)]; rfl
theorem tail_drop (l : List Int) (i : Nat) : (l.drop i).tail = l.drop (i + 1) := by rw [List.tail_drop]
theorem restR_step {a b : List Int} {i : Nat} {c : Int} (h : i < a.length) :
    restR (a.drop i) (b.drop i) c = (if dgAt a i - dgAt b i - c < 0 then dgAt a i - dgAt b i - c + 32768 else dgAt a i - dgAt b i - c) :: restR (a.drop (i + 1)) (b.drop (i + 1)) (if dgAt a i - dgAt b i - c < 0 then 1 else 0) := by
  rw [drop_dg h, restR, hd0_drop, tail_drop]
theorem valD_drop (l : List Int) (i : Nat) : valD (l.drop i) = dgAt l i + 32768 * valD (l.drop (i + 1)) := by
  rw [valD_hd, hd0_drop, tail_drop]
theorem lt_drop : ∀ {i : Nat} {a b : List Int}, Dig a → Dig b → valD (a.drop i) < valD (b.drop i) → valD a < valD b
  | 0, a, b, _, _, h => by rwa [List.drop_zero, List.drop_zero] at h
  | i + 1, a, b, ha, hb, h => by
    obtain ⟨h1, h2, h3⟩ := hd0_bd ha
    obtain ⟨h4, h5, h6⟩ := hd0_bd hb
    have e1 : a.drop (i + 1) = a.tail.drop i := by cases a <;> simp
    have e2 : b.drop (i + 1) = b.tail.drop i := by cases b <;> simp
    rw [e1, e2] at h
    have := lt_drop h3 h6 h
    rw [valD_hd a, valD_hd b]
    omega
def amR : List Int → Int → List Int → Int → List Int
  | [], _, _, _ => []
  | o :: os, x, [], c => (o + c) :: os
  | o :: os, x, y :: b, c => (o + x * y + c) % 32768 :: amR os x b ((o + x * y + c) / 32768)
theorem amR_val : ∀ (o : List Int) (x : Int) (b : List Int) (c : Int), b.length < o.length → valD (amR o x b c) = valD o + x * valD b + c
  | [], x, b, c, h => by simp at h
  | o :: os, x, [], c, h => by simp only [amR, valD, Int.mul_zero]; omega
  | o :: os, x, y :: b, c, h => by
    have ih := amR_val os x b ((o + x * y + c) / 32768) (by simpa using h)
    simp only [amR, valD]
    have e : x * (y + 32768 * valD b) = x * y + 32768 * (x * valD b) := by rw [Int.mul_add, Int.mul_left_comm]
    rw [ih, e]
    omega
theorem amR_len : ∀ (o : List Int) (x : Int) (b : List Int) (c : Int), (amR o x b c).length = o.length
  | [], _, _, _ => rfl
  | o :: os, x, [], c => rfl
  | o :: os, x, y :: b, c => by simp [amR, amR_len]
theorem amR_dig : ∀ {o : List Int} {x : Int} {b : List Int} {c : Int}, Dig o → Dg x → Dig b → 0 ≤ c → c < 32768 → (∀ i, b.length ≤ i → o.getD i 0 = 0) → Dig (amR o x b c)
  | [], _, _, _, _, _, _, _, _, _ => by rw [amR]; exact Dig.nil
  | o :: os, x, [], c, ho, hx, hb, h0, h1, hz => by
    have : o = 0 := hz 0 (Nat.zero_le _)
    rw [amR, this]
    exact Dig.cons ⟨by omega, by omega⟩ ho.tail
  | o :: os, x, y :: b, c, ho, hx, hb, h0, h1, hz => by
    have h2 := ho.head.lo; have h3 := ho.head.hi; have h4 := hb.head.lo; have h5 := hb.head.hi; have h6 := hx.lo; have h7 := hx.hi
    have p0 : 0 ≤ x * y := Int.mul_nonneg h6 h4
    have p1 : x * y ≤ 32767 * 32767 := Int.mul_le_mul (by omega) (by omega) h4 (by omega)
    rw [amR]
    refine Dig.cons ⟨by omega, by omega⟩ (amR_dig ho.tail hx hb.tail (by omega) (by omega) fun i hi => ?_)
    have := hz (i + 1) (by simp; omega)
    simpa using this
theorem amR_zero : ∀ (o : List Int) (x : Int) (b : List Int) (c : Int) (i : Nat), b.length < i → (amR o x b c).getD i 0 = o.getD i 0
  | [], _, _, _, _, _ => by rw [amR]
  | o :: os, x, [], c, i, h => by
    rw [amR]
    cases i with
    | zero => simp at h
    | succ i => simp
  | o :: os, x, y :: b, c, i, h => by
    rw [amR]
    cases i with
    | zero => simp at h
    | succ i =>
      have := amR_zero os x b ((o + x * y + c) / 32768) i (by simpa using h)
      simpa using this
def mulR : List Int → List Int → List Int → List Int
  | o, [], _ => o
  | o, x :: a, b => hd0 (amR o x b 0) :: mulR (amR o x b 0).tail a b
theorem mulR_val : ∀ (a o b : List Int), a.length + b.length < o.length → valD (mulR o a b) = valD o + valD a * valD b
  | [], o, b, h => by simp [mulR, valD]
  | x :: a, o, b, h => by
    have h1 := amR_val o x b 0 (by simp at h; omega)
    have h2 := amR_len o x b 0
    have e := valD_hd (amR o x b 0)
    have ih := mulR_val a (amR o x b 0).tail b (by rw [List.length_tail, h2]; simp at h; omega)
    rw [mulR, valD, valD, ih, Int.add_mul, Int.mul_assoc]
    omega
end Go.Proofs.YtljdahepmmgfeaaGreatDoor
namespace Go.Proofs.YtljdahepmmgfeaaGreatDoor
open Go Go.RowKit
set_option maxHeartbeats 4000000
abbrev sL1 (ob : List Int → List Prop) (f : List Int → AV) : PSpec := fun l => match l with | [.roi .i64 d] => some (ob d, f d) | _ => none
abbrev sL2 (ob : List Int → List Int → List Prop) (f : List Int → List Int → AV) : PSpec := fun l => match l with | [.roi .i64 a, .roi .i64 b] => some (ob a b, f a b) | _ => none
structure Sh (l : List Int) : Prop where
  le : l.length ≤ 1000000
structure ShT (l : List Int) : Prop where
  le : l.length ≤ 4000000
abbrev digitS : PSpec := fun l => match l with | [.roi .i64 d, .int .i64 i] => some ([], .int .i64 (dgAt d i)) | _ => none
theorem digit_s : SOK Tryz.prog 103 digitS := by
  refine sok_of (C := mkC 0 [] noG) (mkC_ok pok_nil noG_ok) rfl mixed ⟨Tryz.func103, by kernel_rfl, by kernel_rfl, by kernel_rfl⟩ fun l obs v h ho => ?_
  (unfold digitS at h; split at h; rotate_left; (focus (cases h)); rename_i d i; simp only [Option.some.injEq, Prod.mk.injEq] at h; obtain ⟨rfl, rfl⟩ := h; simp only [List.mem_cons, List.not_mem_nil, or_false, forall_eq_or_imp, forall_eq, false_implies, implies_true] at ho)
  refine ⟨Nat.le_of_ble_eq_true rfl, ?_⟩
  by_cases hi : 0 ≤ i ∧ i < (d.length : Int)
  · have e : dgAt d i = d.getD i.toNat 0 := if_pos hi
    obtain ⟨i0, i1⟩ := hi
    (repeat' (first | (refine xI (fun hfk => ?_) (fun hfk => ?_) <;> ((try (first | replace hfk := oT hfk | replace hfk := oF hfk | simp only [oD, ne_eq, reduceCtorEq] at hfk)); (try exact oX))) | refine And.intro oZ ?_ | exact True.intro | (show _ = _; first | exact oY | (exact e.symm; done) | exact rfl) | exact oW | (apply And.intro)))
  · have e : dgAt d i = 0 := if_neg hi
    by_cases h0 : 0 ≤ i
    · have h1 : ¬ i < (d.length : Int) := fun k => hi ⟨h0, k⟩
      (repeat' (first | (refine xI (fun hfk => ?_) (fun hfk => ?_) <;> ((try (first | replace hfk := oT hfk | replace hfk := oF hfk | simp only [oD, ne_eq, reduceCtorEq] at hfk)); (try exact oX))) | refine And.intro oZ ?_ | exact True.intro | (show _ = _; first | exact oY | (exact e.symm; done) | exact rfl) | exact oW | (apply And.intro)))
    · (repeat' (first | (refine xI (fun hfk => ?_) (fun hfk => ?_) <;> ((try (first | replace hfk := oT hfk | replace hfk := oF hfk | simp only [oD, ne_eq, reduceCtorEq] at hfk)); (try exact oX))) | refine And.intro oZ ?_ | exact True.intro | (show _ = _; first | exact oY | (exact e.symm; done) | exact rfl) | exact oW | (apply And.intro)))
abbrev trimS : PSpec := sL1 (fun d => [ShT d]) fun d => .roi .i64 (trimL d)
theorem trim_s : SOK Tryz.prog 104 trimS := by
  refine sok_of (C := mkC 0 [] noG) (mkC_ok pok_nil noG_ok) rfl mixed ⟨Tryz.func104, by kernel_rfl, by kernel_rfl, by kernel_rfl⟩ fun l obs v h ho => ?_
  unfold trimS at h
  (unfold sL1 at h; split at h; rotate_left; (focus (cases h)); rename_i d; simp only [Option.some.injEq, Prod.mk.injEq] at h; obtain ⟨rfl, rfl⟩ := h; simp only [List.mem_cons, List.not_mem_nil, or_false, forall_eq_or_imp, forall_eq, false_implies, implies_true] at ho)
  have hsh := ho.le
  refine ⟨Nat.le_of_ble_eq_true rfl, ?_⟩
  (repeat' (first | (refine xI (fun hfk => ?_) (fun hfk => ?_) <;> ((try (first | replace hfk := oT hfk | replace hfk := oF hfk | simp only [oD, ne_eq, reduceCtorEq] at hfk)); (try exact oX))) | refine And.intro oZ ?_ | exact True.intro | (show _ = _; first | exact oY | exact rfl) | exact oW | (apply And.intro)))
  refine ⟨Nat, fun i => [(0, .roi .i64 d), (3, .int .i64 (i : Int))], fun i => ⟨0, []⟩, fun i => i ≤ d.length ∧ trimL (d.take i) = trimL d, fun i => i, ⟨d.length, [], ⟨Nat.le_refl _, by rw [List.take_length]⟩, ?_⟩, fun i hi => ?_⟩
  · (repeat' (first | (refine xI (fun hfk => ?_) (fun hfk => ?_) <;> ((try (first | replace hfk := oT hfk | replace hfk := oF hfk | simp only [oD, ne_eq, reduceCtorEq] at hfk)); (try exact oX))) | refine And.intro oZ ?_ | exact True.intro | (show _ = _; first | exact oY | exact rfl) | exact oW | (apply And.intro)))
  obtain ⟨hi, ht⟩ := hi
  cases i with
  | zero =>
    have e : List.drop 0 (List.take ((0 : Nat) : Int).toNat d) = trimL d := by rw [← ht]; rfl
    (repeat' (first | (refine xI (fun hfk => ?_) (fun hfk => ?_) <;> ((try (first | replace hfk := oT hfk | replace hfk := oF hfk | simp only [oD, ne_eq, reduceCtorEq] at hfk)); (try exact oX))) | refine And.intro oZ ?_ | exact True.intro | (show _ = _; first | exact oY | (exact e; done) | exact rfl) | exact oW | (apply And.intro)))
  | succ j =>
    have hj : j < d.length := hi
    have et : d.take (j + 1) = d.take j ++ [d.getD j 0] := by
      rw [List.take_add_one]
      simp [List.getD, List.getElem?_eq_getElem hj]
    have ej : (((j + 1 : Nat) : Int) - 1).toNat = j := by omega
    have rj : rngI .i64 (((j + 1 : Nat) : Int) - 1) := rng64 (by omega) (by omega)
    by_cases hz : d.getD j 0 = 0
    · have hz' : d.getD (((j + 1 : Nat) : Int) - 1).toNat 0 = 0 := by rw [ej]; exact hz
      (repeat' (first | (refine xI (fun hfk => ?_) (fun hfk => ?_) <;> ((try (first | replace hfk := oT hfk | replace hfk := oF hfk | simp only [oD, ne_eq, reduceCtorEq] at hfk)); (try exact oX))) | refine And.intro oZ ?_ | exact True.intro | (show _ = _; first | exact oY | exact rfl) | exact oW | (apply And.intro)))
      (refine ⟨j, [], ?_, ?mu, ?_⟩; (case mu => ((try dsimp only); omega)))
      · refine ⟨by omega, ?_⟩
        rw [← ht, et, hz, trimL_snoc0]
      (repeat' (first | (refine xI (fun hfk => ?_) (fun hfk => ?_) <;> ((try (first | replace hfk := oT hfk | replace hfk := oF hfk | simp only [oD, ne_eq, reduceCtorEq] at hfk)); (try exact oX))) | refine And.intro oZ ?_ | exact True.intro | (show _ = _; first | exact oY | exact rfl) | exact oW | (apply And.intro)))
    · have hz' : ¬ d.getD (((j + 1 : Nat) : Int) - 1).toNat 0 = 0 := by rw [ej]; exact hz
      have e : List.drop 0 (List.take ((j + 1 : Nat) : Int).toNat d) = trimL d := by
        rw [List.drop_zero, Int.toNat_natCast, ← ht, et, trimL_snoc hz]
      (repeat' (first | (refine xI (fun hfk => ?_) (fun hfk => ?_) <;> ((try (first | replace hfk := oT hfk | replace hfk := oF hfk | simp only [oD, ne_eq, reduceCtorEq] at hfk)); (try exact oX))) | refine And.intro oZ ?_ | exact True.intro | (show _ = _; first | exact oY | (exact e; done) | exact rfl) | exact oW | (apply And.intro)))
abbrev madeS : PSpec := fun l => match l with | [.bool s, .roi .i64 d] => some ([], .agg [.bool (s && decide (0 < (d.length : Int))), .roi .i64 d]) | _ => none
theorem made_s : SOK Tryz.prog 107 madeS := by
  refine sok_of (C := mkC 0 [] noG) (mkC_ok pok_nil noG_ok) rfl mixed ⟨Tryz.func107, by kernel_rfl, by kernel_rfl, by kernel_rfl⟩ fun l obs v h ho => ?_
  (unfold madeS at h; split at h; rotate_left; (focus (cases h)); rename_i s d; simp only [Option.some.injEq, Prod.mk.injEq] at h; obtain ⟨rfl, rfl⟩ := h; simp only [List.mem_cons, List.not_mem_nil, or_false, forall_eq_or_imp, forall_eq, false_implies, implies_true] at ho)
  refine ⟨Nat.le_of_ble_eq_true rfl, ?_⟩
  cases s with
  | true =>
    (repeat' (first | (refine xI (fun hfk => ?_) (fun hfk => ?_) <;> ((try (first | replace hfk := oT hfk | replace hfk := oF hfk | simp only [oD, ne_eq, reduceCtorEq] at hfk)); (try exact oX))) | refine And.intro oZ ?_ | exact True.intro | (show _ = _; first | exact oY | exact rfl) | exact oW | (apply And.intro)))
  | false =>
    (repeat' (first | (refine xI (fun hfk => ?_) (fun hfk => ?_) <;> ((try (first | replace hfk := oT hfk | replace hfk := oF hfk | simp only [oD, ne_eq, reduceCtorEq] at hfk)); (try exact oX))) | refine And.intro oZ ?_ | exact True.intro | (show _ = _; first | exact oY | exact rfl) | exact oW | (apply And.intro)))
abbrev sumS : PSpec := sL2 (fun a b => [Sh a, Sh b, Dig a, Dig b]) fun a b => .roi .i64 (dgs (valD a + valD b).toNat)
theorem sum_s : SOK Tryz.prog 108 sumS := by
  refine sok_of (C := mkC 0 [(103, digitS)] (glook [(104, frzP trimS)])) (mkC_ok (pok_cons digit_s pok_nil) (gl_cons (gfrzP trim_s) gl_nil)) rfl mixed ⟨Tryz.func108, by kernel_rfl, by kernel_rfl, by kernel_rfl⟩ fun l obs v h ho => ?_
  unfold sumS at h
  (unfold sL2 at h; split at h; rotate_left; (focus (cases h)); rename_i a b; simp only [Option.some.injEq, Prod.mk.injEq] at h; obtain ⟨rfl, rfl⟩ := h; simp only [List.mem_cons, List.not_mem_nil, or_false, forall_eq_or_imp, forall_eq, false_implies, implies_true] at ho)
  obtain ⟨sa, sb, da, db⟩ := ho
  have la := sa.le
  have lb := sb.le
  refine ⟨Nat.le_of_ble_eq_true rfl, ?_⟩
  (repeat' (first | (refine xI (fun hfk => ?_) (fun hfk => ?_) <;> ((try (first | replace hfk := oT hfk | replace hfk := oF hfk | simp only [oD, ne_eq, reduceCtorEq] at hfk)); (try exact oX))) | refine And.intro oZ ?_ | exact True.intro | (show _ = _; first | exact oY | exact rfl) | exact oW | (apply And.intro)))
  refine ⟨Nat × List Int × Int, fun g => [(0, .roi .i64 a), (1, .roi .i64 b), (5, .sl 0 1 0 g.1), (6, .int .i64 g.2.2), (7, .int .i64 (g.1 : Int))], fun g => ⟨1, [(0, some (.ints 3 .i64 g.2.1))]⟩,
    fun g => g.1 ≤ max a.length b.length ∧ g.2.1.length = g.1 ∧ 0 ≤ g.2.2 ∧ g.2.2 ≤ 1 ∧ g.2.1 ++ sumR (a.drop g.1) (b.drop g.1) g.2.2 = sumR a b 0, fun g => max a.length b.length - g.1, ⟨(0, [], 0), [none], ⟨Nat.zero_le _, rfl, by decide, by decide, rfl⟩, ?_⟩, fun g hg => ?_⟩
  · (repeat' (first | (refine And.intro ?_ ?_) | exact True.intro | (show _ = _; with_reducible rfl) | exact Chk.mk (by kernel_rfl)))
    all_goals rfl
  obtain ⟨i, out, c⟩ := g
  obtain ⟨g1, g2, g3, g4, g5⟩ := hg
  have g1 : i ≤ max a.length b.length := g1
  have g2 : out.length = i := g2
  have g3 : 0 ≤ c := g3
  have g4 : c ≤ 1 := g4
  have g5 : out ++ sumR (a.drop i) (b.drop i) c = sumR a b 0 := g5
  by_cases hlt : i < max a.length b.length
  · obtain ⟨a1, a2⟩ := dgAt_bd da (i : Int)
    obtain ⟨b1, b2⟩ := dgAt_bd db (i : Int)
    have hm : Int.tmod (dgAt a i + dgAt b i + c) 32768 = (dgAt a i + dgAt b i + c) % 32768 := Int.tmod_eq_emod_of_nonneg (by omega)
    have hd : Int.tdiv (dgAt a i + dgAt b i + c) 32768 = (dgAt a i + dgAt b i + c) / 32768 := Int.tdiv_eq_ediv_of_nonneg (by omega)
    have rd : rngI .i64 (Int.tdiv (dgAt a i + dgAt b i + c) 32768) := by rw [hd]; exact rng64 (by omega) (by omega)
    have r1 : rngI .i64 (dgAt a i + dgAt b i) := rng64 (by omega) (by omega)
    have r2 : rngI .i64 (dgAt a i + dgAt b i + c) := rng64 (by omega) (by omega)
    (repeat' (first | (refine xI (fun hfk => ?_) (fun hfk => ?_) <;> ((try (first | replace hfk := oT hfk | replace hfk := oF hfk | simp only [oD, ne_eq, reduceCtorEq] at hfk)); (try exact oX))) | refine And.intro oZ ?_ | exact True.intro | (show _ = _; first | exact oY | exact rfl) | exact oW | (apply And.intro)))
    all_goals
      refine ⟨(i + 1, out ++ [(dgAt a i + dgAt b i + c) % 32768], (dgAt a i + dgAt b i + c) / 32768), [some 2], ?_, ?mu, ?_⟩
      case mu => (show max a.length b.length - (i + 1) < max a.length b.length - i; omega)
      · refine ⟨hlt, by simp [g2], by show 0 ≤ (dgAt a i + dgAt b i + c) / 32768; omega, by show (dgAt a i + dgAt b i + c) / 32768 ≤ 1; omega, ?_⟩
        show (out ++ [_]) ++ sumR (a.drop (i + 1)) (b.drop (i + 1)) _ = _
        rw [← g5, sumR_step hlt, List.append_assoc]; rfl
      have qa : out ++ List.take 1 (List.drop 0 [Int.tmod (dgAt a i + dgAt b i + c) 32768]) = out ++ [(dgAt a i + dgAt b i + c) % 32768] := by rw [hm]; rfl
      (repeat' (first | (refine And.intro ?_ ?_) | exact True.intro | (show _ = _; with_reducible rfl) | exact Chk.mk (by kernel_rfl)))
      all_goals first | exact hd | exact qa | (show (_ : Int) = _; omega) | (show out.length + 1 = i + 1; omega)
  · have ge := sumR_end (c := c) hlt
    rw [ge] at g5
    have gd : Dig (out ++ [c]) := by rw [g5]; exact sumR_dig da db (by decide) (by decide)
    have gv : trimL (out ++ [c]) = dgs (valD a + valD b).toNat := by
      rw [trim_dgs gd, g5, sumR_val, Int.add_zero]
    have qv : List.take (out.length + (List.take 1 (List.drop 0 [c])).length) (List.drop 0 (out ++ List.take 1 (List.drop 0 [c]))) = out ++ [c] := by
      show List.take (out.length + 1) (out ++ [c]) = _
      rw [List.take_of_length_le (by simp)]
    have qs : ShT (List.take (out.length + (List.take 1 (List.drop 0 [c])).length) (List.drop 0 (out ++ List.take 1 (List.drop 0 [c])))) := by
      rw [qv]
      exact ⟨by rw [List.length_append, List.length_singleton]; omega⟩
    have qt : trimL (List.take (out.length + (List.take 1 (List.drop 0 [c])).length) (List.drop 0 (out ++ List.take 1 (List.drop 0 [c])))) = dgs (valD a + valD b).toNat := by rw [qv]; exact gv
    (repeat' (first | (refine xI (fun hfk => ?_) (fun hfk => ?_) <;> ((try (first | replace hfk := oT hfk | replace hfk := oF hfk | simp only [oD, ne_eq, reduceCtorEq] at hfk)); (try exact oX))) | refine And.intro oZ ?_ | exact True.intro | (show _ = _; first | exact oY | (exact qt; done) | exact rfl) | exact oW | (apply And.intro)))
end Go.Proofs.YtljdahepmmgfeaaGreatDoor
namespace Go.Proofs.YtljdahepmmgfeaaGreatDoor
open Go Go.RowKit
set_option maxHeartbeats 4000000
def cmpV (a b : Int) : Int := if a < b then -1 else if b < a then 1 else 0
abbrev lessS : PSpec := sL2 (fun a b => [Sh a, Sh b, Dig a, Dig b]) fun a b => .int .i64 (cmpV (valD a) (valD b))
theorem less_s : SOK Tryz.prog 105 lessS := by
  refine sok_of (C := mkC 0 [(103, digitS)] noG) (mkC_ok (pok_cons digit_s pok_nil) noG_ok) rfl mixed ⟨Tryz.func105, by kernel_rfl, by kernel_rfl, by kernel_rfl⟩ fun l obs v h ho => ?_
  unfold lessS at h
  (unfold sL2 at h; split at h; rotate_left; (focus (cases h)); rename_i a b; simp only [Option.some.injEq, Prod.mk.injEq] at h; obtain ⟨rfl, rfl⟩ := h; simp only [List.mem_cons, List.not_mem_nil, or_false, forall_eq_or_imp, forall_eq, false_implies, implies_true] at ho)
  obtain ⟨sa, sb, da, db⟩ := ho
  have la := sa.le
  have lb := sb.le
  obtain ⟨M, hM⟩ : ∃ M, max a.length b.length = M := ⟨_, rfl⟩
  have hMi : max (a.length : Int) (b.length : Int) = (M : Int) := by omega
  have r0 : rngI .i64 (max (a.length : Int) (b.length : Int) - 1) := rng64 (by omega) (by omega)
  refine ⟨Nat.le_of_ble_eq_true rfl, ?_⟩
  (repeat' (first | (refine xI (fun hfk => ?_) (fun hfk => ?_) <;> ((try (first | replace hfk := oT hfk | replace hfk := oF hfk | simp only [oD, ne_eq, reduceCtorEq] at hfk)); (try exact oX))) | refine And.intro oZ ?_ | exact True.intro | (show _ = _; first | exact oY | exact rfl) | exact oW | (apply And.intro)))
  refine ⟨Nat, fun k => [(0, .roi .i64 a), (1, .roi .i64 b), (5, .int .i64 ((k : Int) - 1))], fun k => ⟨0, []⟩, fun k => k ≤ M ∧ valD (a.drop k) = valD (b.drop k), fun k => k, ⟨M, [], ⟨Nat.le_refl _, ?_⟩, ?_⟩, fun k hk => ?_⟩
  · rw [drop_out (l := a) (by omega), drop_out (l := b) (by omega)]
  · (repeat' (first | (refine And.intro ?_ ?_) | exact True.intro | (show _ = _; with_reducible rfl) | exact Chk.mk (by kernel_rfl)))
    show max (a.length : Int) (b.length : Int) - 1 = (M : Int) - 1
    omega
  obtain ⟨hk, he⟩ := hk
  cases k with
  | zero =>
    rw [List.drop_zero, List.drop_zero] at he
    have e : (0 : Int) = cmpV (valD a) (valD b) := by unfold cmpV; rw [if_neg (by omega), if_neg (by omega)]
    (repeat' (first | (refine xI (fun hfk => ?_) (fun hfk => ?_) <;> ((try (first | replace hfk := oT hfk | replace hfk := oF hfk | simp only [oD, ne_eq, reduceCtorEq] at hfk)); (try exact oX))) | refine And.intro oZ ?_ | exact True.intro | (show _ = _; first | exact oY | (exact e; done) | exact rfl) | exact oW | (apply And.intro)))
  | succ j =>
    have ej : (((j + 1 : Nat) : Int) - 1) = (j : Int) := by omega
    have va := valD_drop a j
    have vb := valD_drop b j
    rcases Int.lt_trichotomy (dgAt a j) (dgAt b j) with hc | hc | hc
    · have hl := lt_drop (i := j) da db (by omega)
      have hc' : dgAt a (((j + 1 : Nat) : Int) - 1) < dgAt b (((j + 1 : Nat) : Int) - 1) := by rw [ej]; exact hc
      have e : (-1 : Int) = cmpV (valD a) (valD b) := by unfold cmpV; rw [if_pos hl]
      (repeat' (first | (refine xI (fun hfk => ?_) (fun hfk => ?_) <;> ((try (first | replace hfk := oT hfk | replace hfk := oF hfk | simp only [oD, ne_eq, reduceCtorEq] at hfk)); (try exact oX))) | refine And.intro oZ ?_ | exact True.intro | (show _ = _; first | exact oY | (exact e; done) | exact rfl) | exact oW | (apply And.intro)))
    · have hc' : dgAt a (((j + 1 : Nat) : Int) - 1) = dgAt b (((j + 1 : Nat) : Int) - 1) := by rw [ej]; exact hc
      have rj : rngI .i64 (((j + 1 : Nat) : Int) - 1 - 1) := rng64 (by omega) (by omega)
      (repeat' (first | (refine xI (fun hfk => ?_) (fun hfk => ?_) <;> ((try (first | replace hfk := oT hfk | replace hfk := oF hfk | simp only [oD, ne_eq, reduceCtorEq] at hfk)); (try exact oX))) | refine And.intro oZ ?_ | exact True.intro | (show _ = _; first | exact oY | exact rfl) | exact oW | (apply And.intro)))
      (refine ⟨j, [], ?_, ?mu, ?_⟩; (case mu => ((try dsimp only); omega)))
      · exact ⟨by omega, by omega⟩
      (repeat' (first | (refine xI (fun hfk => ?_) (fun hfk => ?_) <;> ((try (first | replace hfk := oT hfk | replace hfk := oF hfk | simp only [oD, ne_eq, reduceCtorEq] at hfk)); (try exact oX))) | refine And.intro oZ ?_ | exact True.intro | (show _ = _; first | exact oY | exact rfl) | exact oW | (apply And.intro)))
    · have hl := lt_drop (i := j) db da (by omega)
      have hc' : dgAt b (((j + 1 : Nat) : Int) - 1) < dgAt a (((j + 1 : Nat) : Int) - 1) := by rw [ej]; exact hc
      have e : (1 : Int) = cmpV (valD a) (valD b) := by unfold cmpV; rw [if_neg (by omega), if_pos hl]
      (repeat' (first | (refine xI (fun hfk => ?_) (fun hfk => ?_) <;> ((try (first | replace hfk := oT hfk | replace hfk := oF hfk | simp only [oD, ne_eq, reduceCtorEq] at hfk)); (try exact oX))) | refine And.intro oZ ?_ | exact True.intro | (show _ = _; first | exact oY | (exact e; done) | exact rfl) | exact oW | (apply And.intro)))
abbrev restS01 : PSpec := sL2 (fun a b => [Sh a, Sh b, Dig a, Dig b, valD b ≤ valD a]) fun a b => .roi .i64 (dgs (valD a - valD b).toNat)
theorem rest01_s : SOK Tryz.prog 106 restS01 := by
  refine sok_of (C := mkC 0 [(103, digitS)] (glook [(104, frzP trimS)])) (mkC_ok (pok_cons digit_s pok_nil) (gl_cons (gfrzP trim_s) gl_nil)) rfl mixed ⟨Tryz.func106, by kernel_rfl, by kernel_rfl, by kernel_rfl⟩ fun l obs v h ho => ?_
  unfold restS01 at h
  (unfold sL2 at h; split at h; rotate_left; (focus (cases h)); rename_i a b; simp only [Option.some.injEq, Prod.mk.injEq] at h; obtain ⟨rfl, rfl⟩ := h; simp only [List.mem_cons, List.not_mem_nil, or_false, forall_eq_or_imp, forall_eq, false_implies, implies_true] at ho)
  obtain ⟨sa, sb, da, db, hle⟩ := ho
  have la := sa.le
  refine ⟨Nat.le_of_ble_eq_true rfl, ?_⟩
  (repeat' (first | (refine xI (fun hfk => ?_) (fun hfk => ?_) <;> ((try (first | replace hfk := oT hfk | replace hfk := oF hfk | simp only [oD, ne_eq, reduceCtorEq] at hfk)); (try exact oX))) | refine And.intro oZ ?_ | exact True.intro | (show _ = _; first | exact oY | exact rfl) | exact oW | (apply And.intro)))
  refine ⟨Nat × List Int × Int, fun g => [(0, .roi .i64 a), (1, .roi .i64 b), (5, .sl 0 1 0 g.1), (6, .int .i64 g.2.2), (7, .int .i64 (g.1 : Int))], fun g => ⟨1, [(0, some (.ints 3 .i64 g.2.1))]⟩,
    fun g => g.1 ≤ a.length ∧ g.2.1.length = g.1 ∧ 0 ≤ g.2.2 ∧ g.2.2 ≤ 1 ∧ g.2.1 ++ restR (a.drop g.1) (b.drop g.1) g.2.2 = restR a b 0, fun g => a.length - g.1, ⟨(0, [], 0), [none], ⟨Nat.zero_le _, rfl, by decide, by decide, rfl⟩, ?_⟩, fun g hg => ?_⟩
  · (repeat' (first | (refine And.intro ?_ ?_) | exact True.intro | (show _ = _; with_reducible rfl) | exact Chk.mk (by kernel_rfl)))
    all_goals rfl
  obtain ⟨i, out, c⟩ := g
  obtain ⟨g1, g2, g3, g4, g5⟩ := hg
  have g1 : i ≤ a.length := g1
  have g2 : out.length = i := g2
  have g3 : 0 ≤ c := g3
  have g4 : c ≤ 1 := g4
  have g5 : out ++ restR (a.drop i) (b.drop i) c = restR a b 0 := g5
  by_cases hlt : i < a.length
  · obtain ⟨a1, a2⟩ := dgAt_bd da (i : Int)
    obtain ⟨b1, b2⟩ := dgAt_bd db (i : Int)
    have r1 : rngI .i64 (dgAt a i - dgAt b i) := rng64 (by omega) (by omega)
    have r2 : rngI .i64 (dgAt a i - dgAt b i - c) := rng64 (by omega) (by omega)
    have r3 : rngI .i64 (dgAt a i - dgAt b i - c + 32768) := rng64 (by omega) (by omega)
    have st := restR_step (b := b) (c := c) hlt
    by_cases hs : dgAt a i - dgAt b i - c < 0
    · rw [if_pos hs, if_pos hs] at st
      (repeat' (first | (refine xI (fun hfk => ?_) (fun hfk => ?_) <;> ((try (first | replace hfk := oT hfk | replace hfk := oF hfk | simp only [oD, ne_eq, reduceCtorEq] at hfk)); (try exact oX))) | refine And.intro oZ ?_ | exact True.intro | (show _ = _; first | exact oY | exact rfl) | exact oW | (apply And.intro)))
      refine ⟨(i + 1, out ++ [dgAt a i - dgAt b i - c + 32768], 1), [some 2], ?_, ?mu, ?_⟩
      case mu => (show a.length - (i + 1) < a.length - i; omega)
      · refine ⟨hlt, by simp [g2], by show (0:Int) ≤ 1; decide, by show (1:Int) ≤ 1; decide, ?_⟩
        show (out ++ [_]) ++ restR (a.drop (i + 1)) (b.drop (i + 1)) _ = _
        rw [← g5, st, List.append_assoc]; rfl
      (repeat' (first | (refine And.intro ?_ ?_) | exact True.intro | (show _ = _; with_reducible rfl) | exact Chk.mk (by kernel_rfl)))
      all_goals first | rfl | (show (_ : Int) = _; omega) | (show out.length + 1 = i + 1; omega)
    · rw [if_neg hs, if_neg hs] at st
      (repeat' (first | (refine xI (fun hfk => ?_) (fun hfk => ?_) <;> ((try (first | replace hfk := oT hfk | replace hfk := oF hfk | simp only [oD, ne_eq, reduceCtorEq] at hfk)); (try exact oX))) | refine And.intro oZ ?_ | exact True.intro | (show _ = _; first | exact oY | exact rfl) | exact oW | (apply And.intro)))
      refine ⟨(i + 1, out ++ [dgAt a i - dgAt b i - c], 0), [some 2], ?_, ?mu, ?_⟩
      case mu => (show a.length - (i + 1) < a.length - i; omega)
      · refine ⟨hlt, by simp [g2], by show (0:Int) ≤ 0; decide, by show (0:Int) ≤ 1; decide, ?_⟩
        show (out ++ [_]) ++ restR (a.drop (i + 1)) (b.drop (i + 1)) _ = _
        rw [← g5, st, List.append_assoc]; rfl
      (repeat' (first | (refine And.intro ?_ ?_) | exact True.intro | (show _ = _; with_reducible rfl) | exact Chk.mk (by kernel_rfl)))
      all_goals first | rfl | (show (_ : Int) = _; omega) | (show out.length + 1 = i + 1; omega)
  · have hi : i = a.length := by omega
    have ge : restR (a.drop i) (b.drop i) c = [] := by rw [drop_out (l := a) (by omega), restR]
    rw [ge, List.append_nil] at g5
    have gd : Dig out := by rw [g5]; exact restR_dig da db (by decide) (by decide)
    have gv : trimL out = dgs (valD a - valD b).toNat := by
      rw [trim_dgs gd, g5, restR_val da db (by decide) (by decide) (by omega), Int.sub_zero]
    have qv : List.take i (List.drop 0 out) = out := by rw [List.drop_zero, List.take_of_length_le (by omega)]
    have qs : ShT (List.take i (List.drop 0 out)) := by
      rw [qv]
      exact ⟨by omega⟩
    have qt : trimL (List.take i (List.drop 0 out)) = dgs (valD a - valD b).toNat := by rw [qv]; exact gv
    (repeat' (first | (refine xI (fun hfk => ?_) (fun hfk => ?_) <;> ((try (first | replace hfk := oT hfk | replace hfk := oF hfk | simp only [oD, ne_eq, reduceCtorEq] at hfk)); (try exact oX))) | refine And.intro oZ ?_ | exact True.intro | (show _ = _; first | exact oY | (exact qt; done) | exact rfl) | exact oW | (apply And.intro)))
end Go.Proofs.YtljdahepmmgfeaaGreatDoor
namespace Go.Proofs.YtljdahepmmgfeaaGreatDoor
open Go Go.RowKit
set_option maxHeartbeats 4000000
structure Bg (s : Bool) (l : List Int) : Prop where
  dig : Dig l
  can : dgs (valD l).toNat = l
  sh : Sh l
  sg : s = true → valD l ≠ 0
def bzv (s : Bool) (l : List Int) : Int := if s = true then -(valD l) else valD l
abbrev bigA (z : Int) : AV := .agg [.bool (decide (z < 0)), .roi .i64 (dgs z.natAbs)]
theorem bzv_big (z : Int) : bzv (decide (z < 0)) (dgs z.natAbs) = z := by
  unfold bzv
  rw [valD_dgs]
  by_cases h : z < 0
  · rw [decide_eq_true h, if_pos rfl]; omega
  · rw [decide_eq_false h, if_neg (by simp)]; omega
theorem Bg_big {z : Int} (h : (dgs z.natAbs).length ≤ 1000000) : Bg (decide (z < 0)) (dgs z.natAbs) :=
  ⟨Dig_dgs _, by rw [valD_dgs, Int.toNat_natCast], ⟨h⟩, fun k => by have k := of_decide_eq_true k; rw [valD_dgs]; omega⟩
theorem dgs_len0 {n : Nat} : (0 < ((dgs n).length : Int)) ↔ 0 < n := by
  by_cases h : n = 0
  · subst h; rw [dgs_0]; simp
  · rw [dgs_pos h, List.length_cons]; constructor <;> intro _ <;> omega
theorem made_sg (t : Bool) (n : Nat) : (t && decide (0 < ((dgs n).length : Int))) = decide ((if t = true then -(n : Int) else n) < 0) := by
  cases t with
  | true =>
    rw [if_pos rfl, Bool.true_and]
    exact decide_eq_decide.2 ⟨fun h => by have := dgs_len0.1 h; omega, fun h => dgs_len0.2 (by omega)⟩
  | false =>
    rw [if_neg (by simp), Bool.false_and]
    exact (decide_eq_false (by omega)).symm
theorem made_dg (t : Bool) (n : Nat) : dgs n = dgs (if t = true then -(n : Int) else n).natAbs := by
  cases t with
  | true => rw [if_pos rfl]; congr 1; omega
  | false => rw [if_neg (by simp)]; congr 1
theorem made_z {t : Bool} {n : Nat} {z : Int} (h : (if t = true then -(n : Int) else n) = z) : (t && decide (0 < ((dgs n).length : Int))) = decide (z < 0) ∧ dgs n = dgs z.natAbs := by
  rw [← h]; exact ⟨made_sg t n, made_dg t n⟩
theorem dgs_len : ∀ {k n : Nat}, n < 32768 ^ k → (dgs n).length ≤ k
  | 0, n, h => by
    have : n = 0 := by simpa using h
    subst this; rw [dgs_0]; exact Nat.le_refl _
  | k + 1, n, h => by
    by_cases hn : n = 0
    · subst hn; rw [dgs_0]; exact Nat.zero_le _
    · rw [dgs_pos hn, List.length_cons]
      have : n / 32768 < 32768 ^ k := by
        rw [Nat.pow_succ] at h
        exact Nat.div_lt_of_lt_mul (by rw [Nat.mul_comm]; exact h)
      have := dgs_len this
      omega
abbrev gB1 (ob : Bool → List Int → List Prop) (f : Bool → List Int → AV) : PSpec := fun l => match l with | [.agg [.bool s, .roi .i64 d]] => some (ob s d, f s d) | _ => none
abbrev gB2 (ob : Bool → List Int → Bool → List Int → List Prop) (f : Bool → List Int → Bool → List Int → AV) : PSpec := fun l => match l with | [.agg [.bool s, .roi .i64 d], .agg [.bool t, .roi .i64 e]] => some (ob s d t e, f s d t e) | _ => none
abbrev negS : PSpec := gB1 (fun s d => [Bg s d]) fun s d => bigA (-(bzv s d))
theorem neg_s : SOK Tryz.prog 110 negS := by
  refine sok_of (C := mkC 0 [(107, madeS)] noG) (mkC_ok (pok_cons made_s pok_nil) noG_ok) rfl mixed ⟨Tryz.func110, by kernel_rfl, by kernel_rfl, by kernel_rfl⟩ fun l obs v h ho => ?_
  unfold negS at h
  (unfold gB1 at h; split at h; rotate_left; (focus (cases h)); rename_i s d; simp only [Option.some.injEq, Prod.mk.injEq] at h; obtain ⟨rfl, rfl⟩ := h; simp only [List.mem_cons, List.not_mem_nil, or_false, forall_eq_or_imp, forall_eq, false_implies, implies_true] at ho)
  have hn := valD_nn ho.dig
  have hz : (if (!s) = true then -((valD d).toNat : Int) else ((valD d).toNat : Int)) = -(bzv s d) := by
    unfold bzv
    cases s <;> simp <;> omega
  obtain ⟨e1, e2⟩ := made_z hz
  rw [ho.can] at e1 e2
  refine ⟨Nat.le_of_ble_eq_true rfl, ?_⟩
  (repeat' (first | (refine xI (fun hfk => ?_) (fun hfk => ?_) <;> ((try (first | replace hfk := oT hfk | replace hfk := oF hfk | simp only [oD, ne_eq, reduceCtorEq] at hfk)); (try exact oX))) | refine And.intro oZ ?_ | exact True.intro | (show _ = _; first | exact oY | (first | exact e1 | exact e2 | exact ⟨e1, e2⟩; done) | exact rfl) | exact oW | (apply And.intro)))
abbrev addS : PSpec := gB2 (fun s d t e => [Bg s d, Bg t e]) fun s d t e => bigA (bzv s d + bzv t e)
theorem add_s : SOK Tryz.prog 109 addS := by
  refine sok_of (C := mkC 0 [(107, madeS), (108, sumS), (106, restS01), (105, lessS)] noG) (mkC_ok (pok_cons made_s (pok_cons sum_s (pok_cons rest01_s (pok_cons less_s pok_nil)))) noG_ok) rfl mixed ⟨Tryz.func109, by kernel_rfl, by kernel_rfl, by kernel_rfl⟩ fun l obs v h ho => ?_
  unfold addS at h
  (unfold gB2 at h; split at h; rotate_left; (focus (cases h)); rename_i s d t e; simp only [Option.some.injEq, Prod.mk.injEq] at h; obtain ⟨rfl, rfl⟩ := h; simp only [List.mem_cons, List.not_mem_nil, or_false, forall_eq_or_imp, forall_eq, false_implies, implies_true] at ho)
  obtain ⟨hd, he⟩ := ho
  have nd := valD_nn hd.dig
  have ne := valD_nn he.dig
  have dd := hd.dig
  have de := he.dig
  have sd := hd.sh
  have se := he.sh
  refine ⟨Nat.le_of_ble_eq_true rfl, ?_⟩
  by_cases hs : s = t
  · have hz : (if s = true then -((valD d + valD e).toNat : Int) else ((valD d + valD e).toNat : Int)) = bzv s d + bzv t e := by
      subst hs
      unfold bzv
      cases s <;> simp <;> omega
    obtain ⟨e1, e2⟩ := made_z hz
    (repeat' (first | (refine xI (fun hfk => ?_) (fun hfk => ?_) <;> ((try (first | replace hfk := oT hfk | replace hfk := oF hfk | simp only [oD, ne_eq, reduceCtorEq] at hfk)); (try exact oX))) | refine And.intro oZ ?_ | exact True.intro | (show _ = _; first | exact oY | (first | exact e1 | exact e2 | exact ⟨e1, e2⟩; done) | exact rfl) | exact oW | (apply And.intro)))
  · by_cases hc : valD e ≤ valD d
    · have hl : 0 ≤ cmpV (valD d) (valD e) := by unfold cmpV; rw [if_neg (by omega)]; split <;> decide
      have hz : (if s = true then -((valD d - valD e).toNat : Int) else ((valD d - valD e).toNat : Int)) = bzv s d + bzv t e := by
        unfold bzv
        cases s <;> cases t <;> simp at hs ⊢ <;> omega
      obtain ⟨e1, e2⟩ := made_z hz
      (repeat' (first | (refine xI (fun hfk => ?_) (fun hfk => ?_) <;> ((try (first | replace hfk := oT hfk | replace hfk := oF hfk | simp only [oD, ne_eq, reduceCtorEq] at hfk)); (try exact oX))) | refine And.intro oZ ?_ | exact True.intro | (show _ = _; first | exact oY | (first | exact e1 | exact e2 | exact ⟨e1, e2⟩; done) | exact rfl) | exact oW | (apply And.intro)))
    · have hc' : valD d ≤ valD e := by omega
      have hl : ¬ 0 ≤ cmpV (valD d) (valD e) := by unfold cmpV; rw [if_pos (by omega)]; decide
      have hz : (if t = true then -((valD e - valD d).toNat : Int) else ((valD e - valD d).toNat : Int)) = bzv s d + bzv t e := by
        unfold bzv
        cases s <;> cases t <;> simp at hs ⊢ <;> omega
      obtain ⟨e1, e2⟩ := made_z hz
      (repeat' (first | (refine xI (fun hfk => ?_) (fun hfk => ?_) <;> ((try (first | replace hfk := oT hfk | replace hfk := oF hfk | simp only [oD, ne_eq, reduceCtorEq] at hfk)); (try exact oX))) | refine And.intro oZ ?_ | exact True.intro | (show _ = _; first | exact oY | (first | exact e1 | exact e2 | exact ⟨e1, e2⟩; done) | exact rfl) | exact oW | (apply And.intro)))
end Go.Proofs.YtljdahepmmgfeaaGreatDoor
namespace Go.Proofs.YtljdahepmmgfeaaGreatDoor
open Go Go.RowKit
set_option maxHeartbeats 4000000
theorem Bg.nat {s : Bool} {l : List Int} (h : Bg s l) : dgs (bzv s l).natAbs = l := by
  have := valD_nn h.dig
  have e : (bzv s l).natAbs = (valD l).toNat := by unfold bzv; cases s <;> simp <;> omega
  rw [e, h.can]
theorem Bg.neg {s : Bool} {l : List Int} (h : Bg s l) : Bg (decide (-(bzv s l) < 0)) (dgs (-(bzv s l)).natAbs) :=
  Bg_big (by rw [Int.natAbs_neg, h.nat]; exact h.sh.le)
abbrev subS : PSpec := gB2 (fun s d t e => [Bg s d, Bg t e]) fun s d t e => bigA (bzv s d - bzv t e)
theorem sub_s : SOK Tryz.prog 75 subS := by
  refine sok_of (C := mkC 0 [(109, addS), (110, negS)] noG) (mkC_ok (pok_cons add_s (pok_cons neg_s pok_nil)) noG_ok) rfl mixed ⟨Tryz.func75, by kernel_rfl, by kernel_rfl, by kernel_rfl⟩ fun l obs v h ho => ?_
  unfold subS at h
  (unfold gB2 at h; split at h; rotate_left; (focus (cases h)); rename_i s d t e; simp only [Option.some.injEq, Prod.mk.injEq] at h; obtain ⟨rfl, rfl⟩ := h; simp only [List.mem_cons, List.not_mem_nil, or_false, forall_eq_or_imp, forall_eq, false_implies, implies_true] at ho)
  obtain ⟨hd, he⟩ := ho
  have hn := he.neg
  have hz : bzv s d + bzv (decide (-(bzv t e) < 0)) (dgs (-(bzv t e)).natAbs) = bzv s d - bzv t e := by rw [bzv_big]; omega
  have e1 : decide (bzv s d + bzv (decide (-(bzv t e) < 0)) (dgs (-(bzv t e)).natAbs) < 0) = decide (bzv s d - bzv t e < 0) := by rw [hz]
  have e2 : dgs (bzv s d + bzv (decide (-(bzv t e) < 0)) (dgs (-(bzv t e)).natAbs)).natAbs = dgs (bzv s d - bzv t e).natAbs := by rw [hz]
  refine ⟨Nat.le_of_ble_eq_true rfl, ?_⟩
  (repeat' (first | (refine xI (fun hfk => ?_) (fun hfk => ?_) <;> ((try (first | replace hfk := oT hfk | replace hfk := oF hfk | simp only [oD, ne_eq, reduceCtorEq] at hfk)); (try exact oX))) | refine And.intro oZ ?_ | exact True.intro | (show _ = _; first | exact oY | (first | exact e1 | exact e2 | exact ⟨e1, e2⟩; done) | exact rfl) | exact oW | (apply And.intro)))
abbrev cmpS : PSpec := gB2 (fun s d t e => [Bg s d, Bg t e]) fun s d t e => .int .i64 (cmpV (bzv s d) (bzv t e))
theorem cmp_s : SOK Tryz.prog 121 cmpS := by
  refine sok_of (C := mkC 0 [(75, subS)] noG) (mkC_ok (pok_cons sub_s pok_nil) noG_ok) rfl mixed ⟨Tryz.func121, by kernel_rfl, by kernel_rfl, by kernel_rfl⟩ fun l obs v h ho => ?_
  unfold cmpS at h
  (unfold gB2 at h; split at h; rotate_left; (focus (cases h)); rename_i s d t e; simp only [Option.some.injEq, Prod.mk.injEq] at h; obtain ⟨rfl, rfl⟩ := h; simp only [List.mem_cons, List.not_mem_nil, or_false, forall_eq_or_imp, forall_eq, false_implies, implies_true] at ho)
  obtain ⟨hd, he⟩ := ho
  refine ⟨Nat.le_of_ble_eq_true rfl, ?_⟩
  rcases Int.lt_trichotomy (bzv s d) (bzv t e) with hc | hc | hc
  · have hb : decide (bzv s d - bzv t e < 0) = true := decide_eq_true (by omega)
    have hl : ¬ ((dgs (bzv s d - bzv t e).natAbs).length : Int) = 0 := by
      intro h; have := dgs_len0 (n := (bzv s d - bzv t e).natAbs); omega
    have e : (-1 : Int) = cmpV (bzv s d) (bzv t e) := by unfold cmpV; rw [if_pos hc]
    (repeat' (first | (refine xI (fun hfk => ?_) (fun hfk => ?_) <;> ((try (first | replace hfk := oT hfk | replace hfk := oF hfk | simp only [oD, ne_eq, reduceCtorEq] at hfk)); (try exact oX))) | refine And.intro oZ ?_ | exact True.intro | (show _ = _; first | exact oY | (exact e; done) | exact rfl) | exact oW | (apply And.intro)))
  · have hl : ((dgs (bzv s d - bzv t e).natAbs).length : Int) = 0 := by
      have := dgs_len0 (n := (bzv s d - bzv t e).natAbs); omega
    have e : (0 : Int) = cmpV (bzv s d) (bzv t e) := by unfold cmpV; rw [if_neg (by omega), if_neg (by omega)]
    (repeat' (first | (refine xI (fun hfk => ?_) (fun hfk => ?_) <;> ((try (first | replace hfk := oT hfk | replace hfk := oF hfk | simp only [oD, ne_eq, reduceCtorEq] at hfk)); (try exact oX))) | refine And.intro oZ ?_ | exact True.intro | (show _ = _; first | exact oY | (exact e; done) | exact rfl) | exact oW | (apply And.intro)))
  · have hb : ¬ decide (bzv s d - bzv t e < 0) = true := fun k => by have := of_decide_eq_true k; omega
    have hl : ¬ ((dgs (bzv s d - bzv t e).natAbs).length : Int) = 0 := by
      intro h; have := dgs_len0 (n := (bzv s d - bzv t e).natAbs); omega
    have e : (1 : Int) = cmpV (bzv s d) (bzv t e) := by unfold cmpV; rw [if_neg (by omega), if_pos hc]
    (repeat' (first | (refine xI (fun hfk => ?_) (fun hfk => ?_) <;> ((try (first | replace hfk := oT hfk | replace hfk := oF hfk | simp only [oD, ne_eq, reduceCtorEq] at hfk)); (try exact oX))) | refine And.intro oZ ?_ | exact True.intro | (show _ = _; first | exact oY | (exact e; done) | exact rfl) | exact oW | (apply And.intro)))
abbrev unsS : PSpec := fun l => match l with | [.int .u64 x] => some ([0 ≤ x, x < 18446744073709551616], bigA x) | _ => none
theorem uns_s : SOK Tryz.prog 77 unsS := by
  refine sok_of (C := mkC 0 [] noG) (mkC_ok pok_nil noG_ok) rfl mixed ⟨Tryz.func77, by kernel_rfl, by kernel_rfl, by kernel_rfl⟩ fun l obs v h ho => ?_
  (unfold unsS at h; split at h; rotate_left; (focus (cases h)); rename_i x; simp only [Option.some.injEq, Prod.mk.injEq] at h; obtain ⟨rfl, rfl⟩ := h; simp only [List.mem_cons, List.not_mem_nil, or_false, forall_eq_or_imp, forall_eq, false_implies, implies_true] at ho)
  obtain ⟨h0, h1⟩ := ho
  have hk : (dgs x.toNat).length ≤ 5 := dgs_len (by rw [show (32768 : Nat) ^ 5 = 37778931862957161709568 from by decide]; omega)
  refine ⟨Nat.le_of_ble_eq_true rfl, ?_⟩
  (repeat' (first | (refine xI (fun hfk => ?_) (fun hfk => ?_) <;> ((try (first | replace hfk := oT hfk | replace hfk := oF hfk | simp only [oD, ne_eq, reduceCtorEq] at hfk)); (try exact oX))) | refine And.intro oZ ?_ | exact True.intro | (show _ = _; first | exact oY | exact rfl) | exact oW | (apply And.intro)))
  refine ⟨Int × List Int, fun g => [(0, .int .u64 g.1), (2, .ptr 0 0), (3, .sl 1 1 0 g.2.length)], fun g => ⟨2, [(0, some (.cells 76 [.fls, .nils])), (1, some (.ints 3 .i64 g.2))]⟩,
    fun g => 0 ≤ g.1 ∧ g.1 ≤ x ∧ g.2 ++ dgs g.1.toNat = dgs x.toNat, fun g => g.1.toNat, ⟨(x, []), [some 0, none], ⟨h0, Int.le_refl _, rfl⟩, ?_⟩, fun g hg => ?_⟩
  · (repeat' (first | (refine And.intro ?_ ?_) | exact True.intro | (show _ = _; with_reducible rfl) | exact Chk.mk (by kernel_rfl)))
    all_goals rfl
  obtain ⟨y, out⟩ := g
  obtain ⟨g0, g1, g2⟩ := hg
  have g0 : 0 ≤ y := g0
  have g1 : y ≤ x := g1
  have g2 : out ++ dgs y.toNat = dgs x.toNat := g2
  have g3 : out.length + (dgs y.toNat).length ≤ 5 := by rw [← List.length_append, g2]; exact hk
  by_cases hp : 0 < y
  · have hm : Int.tmod y 32768 = y % 32768 := Int.tmod_eq_emod_of_nonneg g0
    have hd : Int.tdiv y 32768 = y / 32768 := Int.tdiv_eq_ediv_of_nonneg g0
    have hw : IntKind.u64.wrap (Int.tdiv y 32768) = y / 32768 := by
      rw [hd]; exact wrap_rng ⟨by show (0 : Int) ≤ _; omega, by show _ ≤ (18446744073709551615 : Int); omega⟩
    have rm : rngI .i64 (Int.tmod y 32768) := by rw [hm]; exact rng64 (by omega) (by omega)
    have st : dgs y.toNat = (y % 32768) :: dgs (y / 32768).toNat := by
      rw [dgs_pos (by omega)]
      congr 1
      · omega
      · congr 1; omega
    (repeat' (first | (refine xI (fun hfk => ?_) (fun hfk => ?_) <;> ((try (first | replace hfk := oT hfk | replace hfk := oF hfk | simp only [oD, ne_eq, reduceCtorEq] at hfk)); (try exact oX))) | refine And.intro oZ ?_ | exact True.intro | (show _ = _; first | exact oY | exact rfl) | exact oW | (apply And.intro)))
    refine ⟨(y / 32768, out ++ [y % 32768]), [some 0, some 3], ?_, ?mu, ?_⟩
    case mu => (show (y / 32768).toNat < y.toNat; omega)
    · refine ⟨by show 0 ≤ y / 32768; omega, by show y / 32768 ≤ x; omega, ?_⟩
      show (out ++ [_]) ++ dgs (y / 32768).toNat = _
      rw [← g2, st, List.append_assoc]; rfl
    have qa : out ++ List.take 1 (List.drop 0 [Int.tmod y 32768]) = out ++ [y % 32768] := by rw [hm]; rfl
    have ql : out.length + (List.take 1 (List.drop 0 [Int.tmod y 32768])).length = (out ++ [y % 32768]).length := by rw [List.length_append]; rfl
    (repeat' (first | (refine And.intro ?_ ?_) | exact True.intro | (show _ = _; with_reducible rfl) | exact Chk.mk (by kernel_rfl)))
    all_goals first | exact hw | exact qa | exact ql
  · have hy : y = 0 := by omega
    have e2 : List.take out.length (List.drop 0 out) = dgs x.natAbs := by
      rw [hy] at g2
      rw [show x.natAbs = x.toNat from by omega, ← g2, List.drop_zero, List.take_length]
      show out = out ++ dgs 0
      rw [dgs_0, List.append_nil]
    have e1 : false = decide (x < 0) := (decide_eq_false (by omega)).symm
    (repeat' (first | (refine xI (fun hfk => ?_) (fun hfk => ?_) <;> ((try (first | replace hfk := oT hfk | replace hfk := oF hfk | simp only [oD, ne_eq, reduceCtorEq] at hfk)); (try exact oX))) | refine And.intro oZ ?_ | exact True.intro | (show _ = _; first | exact oY | (first | exact e1 | exact e2 | exact ⟨e1, e2⟩; done) | exact rfl) | exact oW | (apply And.intro)))
end Go.Proofs.YtljdahepmmgfeaaGreatDoor
namespace Go.Proofs.YtljdahepmmgfeaaGreatDoor
open Go Go.RowKit
set_option maxHeartbeats 4000000
theorem u64_id {n : Int} (h0 : 0 ≤ n) (h1 : n < 18446744073709551616) : IntKind.u64.wrap n = n :=
  wrap_rng ⟨by show (0 : Int) ≤ _; exact h0, by show _ ≤ (18446744073709551615 : Int); omega⟩
abbrev ofS : PSpec := fun l => match l with | [.int .i64 x] => some ([-9223372036854775808 ≤ x, x < 9223372036854775808], bigA x) | _ => none
theorem of_s : SOK Tryz.prog 46 ofS := by
  refine sok_of (C := mkC 0 [(77, unsS)] noG) (mkC_ok (pok_cons uns_s pok_nil) noG_ok) rfl mixed ⟨Tryz.func46, by kernel_rfl, by kernel_rfl, by kernel_rfl⟩ fun l obs v h ho => ?_
  (unfold ofS at h; split at h; rotate_left; (focus (cases h)); rename_i x; simp only [Option.some.injEq, Prod.mk.injEq] at h; obtain ⟨rfl, rfl⟩ := h; simp only [List.mem_cons, List.not_mem_nil, or_false, forall_eq_or_imp, forall_eq, false_implies, implies_true] at ho)
  obtain ⟨h0, h1⟩ := ho
  refine ⟨Nat.le_of_ble_eq_true rfl, ?_⟩
  by_cases hx : x < 0
  · have w1 : IntKind.u64.wrap (0 - (x + 1)) = 0 - (x + 1) := u64_id (by omega) (by omega)
    have w2 : IntKind.u64.wrap (IntKind.u64.wrap (0 - (x + 1)) + 1) = -x := by rw [w1, u64_id (by omega) (by omega)]; omega
    have k0 : 0 ≤ IntKind.u64.wrap (IntKind.u64.wrap (0 - (x + 1)) + 1) := by rw [w2]; omega
    have k1 : IntKind.u64.wrap (IntKind.u64.wrap (0 - (x + 1)) + 1) < 18446744073709551616 := by rw [w2]; omega
    have e1 : true = decide (x < 0) := (decide_eq_true hx).symm
    have e2 : dgs (IntKind.u64.wrap (IntKind.u64.wrap (0 - (x + 1)) + 1)).natAbs = dgs x.natAbs := by rw [w2, Int.natAbs_neg]
    have r1 : rngI .i64 (x + 1) := rng64 (by omega) (by omega)
    have r2 : rngI .i64 (0 - (x + 1)) := rng64 (by omega) (by omega)
    (repeat' (first | (refine xI (fun hfk => ?_) (fun hfk => ?_) <;> ((try (first | replace hfk := oT hfk | replace hfk := oF hfk | simp only [oD, ne_eq, reduceCtorEq] at hfk)); (try exact oX))) | refine And.intro oZ ?_ | exact True.intro | (show _ = _; first | exact oY | (first | exact e1 | exact e2 | exact ⟨e1, e2⟩; done) | exact rfl) | exact oW | (apply And.intro)))
  · have w1 : IntKind.u64.wrap x = x := u64_id (by omega) (by omega)
    have k0 : 0 ≤ IntKind.u64.wrap x := by rw [w1]; omega
    have k1 : IntKind.u64.wrap x < 18446744073709551616 := by rw [w1]; omega
    have e1 : decide (IntKind.u64.wrap x < 0) = decide (x < 0) := by rw [w1]
    have e2 : dgs (IntKind.u64.wrap x).natAbs = dgs x.natAbs := by rw [w1]
    (repeat' (first | (refine xI (fun hfk => ?_) (fun hfk => ?_) <;> ((try (first | replace hfk := oT hfk | replace hfk := oF hfk | simp only [oD, ne_eq, reduceCtorEq] at hfk)); (try exact oX))) | refine And.intro oZ ?_ | exact True.intro | (show _ = _; first | exact oY | (first | exact e1 | exact e2 | exact ⟨e1, e2⟩; done) | exact rfl) | exact oW | (apply And.intro)))
theorem valD_drop_le : ∀ {l : List Int} (k : Nat), Dig l → valD (l.drop k) ≤ valD l
  | [], k, h => by simp
  | d :: l, 0, h => by simp
  | d :: l, k + 1, h => by
    have := valD_drop_le (l := l) k h.tail
    have := valD_nn h.tail
    have := h.head.lo
    simp only [List.drop_succ_cons, valD]
    omega
abbrev unsignedS : PSpec := gB1 (fun s d => [Bg s d, valD d < 18446744073709551616]) fun s d => .int .u64 (valD d)
theorem unsigned_s : SOK Tryz.prog 74 unsignedS := by
  refine sok_of (C := mkC 0 [] noG) (mkC_ok pok_nil noG_ok) rfl mixed ⟨Tryz.func74, by kernel_rfl, by kernel_rfl, by kernel_rfl⟩ fun l obs v h ho => ?_
  unfold unsignedS at h
  (unfold gB1 at h; split at h; rotate_left; (focus (cases h)); rename_i s d; simp only [Option.some.injEq, Prod.mk.injEq] at h; obtain ⟨rfl, rfl⟩ := h; simp only [List.mem_cons, List.not_mem_nil, or_false, forall_eq_or_imp, forall_eq, false_implies, implies_true] at ho)
  obtain ⟨hd, hv⟩ := ho
  have dd := hd.dig
  have hl := hd.sh.le
  refine ⟨Nat.le_of_ble_eq_true rfl, ?_⟩
  have r0 : rngI .i64 ((d.length : Int) - 1) := rng64 (by omega) (by omega)
  (repeat' (first | (refine xI (fun hfk => ?_) (fun hfk => ?_) <;> ((try (first | replace hfk := oT hfk | replace hfk := oF hfk | simp only [oD, ne_eq, reduceCtorEq] at hfk)); (try exact oX))) | refine And.intro oZ ?_ | exact True.intro | (show _ = _; first | exact oY | exact rfl) | exact oW | (apply And.intro)))
  refine ⟨Nat, fun k => [(1, .ptr 0 0), (3, .int .u64 (valD (d.drop k))), (4, .int .i64 ((k : Int) - 1))], fun k => ⟨1, [(0, some (.cells 76 [.bool s, .roi .i64 d]))]⟩, fun k => k ≤ d.length, fun k => k, ⟨d.length, [some 0], Nat.le_refl _, ?_⟩, fun k hk => ?_⟩
  · have e : (0 : Int) = valD (d.drop d.length) := by rw [List.drop_length]; rfl
    (repeat' (first | (refine And.intro ?_ ?_) | exact True.intro | (show _ = _; with_reducible rfl) | exact Chk.mk (by kernel_rfl)))
    all_goals first | rfl | exact e
  have hk : k ≤ d.length := hk
  cases k with
  | zero =>
    have e : valD (d.drop 0) = valD d := by rw [List.drop_zero]
    (repeat' (first | (refine xI (fun hfk => ?_) (fun hfk => ?_) <;> ((try (first | replace hfk := oT hfk | replace hfk := oF hfk | simp only [oD, ne_eq, reduceCtorEq] at hfk)); (try exact oX))) | refine And.intro oZ ?_ | exact True.intro | (show _ = _; first | exact oY | (exact e; done) | exact rfl) | exact oW | (apply And.intro)))
  | succ j =>
    have ej : (((j + 1 : Nat) : Int) - 1) = (j : Int) := by omega
    have et : (((j + 1 : Nat) : Int) - 1).toNat = j := by omega
    have va := valD_drop d j
    have vle := valD_drop_le j dd
    have vn := valD_nn (dd.drop (j + 1))
    obtain ⟨b0, b1⟩ := dgAt_bd dd (j : Int)
    have eg : dgAt d j = d.getD j 0 := dgAt_in hk
    have w1 : IntKind.u64.wrap (valD (d.drop (j + 1)) * 32768) = valD (d.drop (j + 1)) * 32768 := u64_id (by omega) (by omega)
    have w2 : IntKind.u64.wrap (d.getD (((j + 1 : Nat) : Int) - 1).toNat 0) = d.getD j 0 := by rw [et]; exact u64_id (by omega) (by omega)
    have w3 : IntKind.u64.wrap (IntKind.u64.wrap (valD (d.drop (j + 1)) * 32768) + IntKind.u64.wrap (d.getD (((j + 1 : Nat) : Int) - 1).toNat 0)) = valD (d.drop j) := by
      rw [w1, w2, u64_id (by omega) (by omega), va]; omega
    have rj : rngI .i64 (((j + 1 : Nat) : Int) - 1 - 1) := rng64 (by omega) (by omega)
    (repeat' (first | (refine xI (fun hfk => ?_) (fun hfk => ?_) <;> ((try (first | replace hfk := oT hfk | replace hfk := oF hfk | simp only [oD, ne_eq, reduceCtorEq] at hfk)); (try exact oX))) | refine And.intro oZ ?_ | exact True.intro | (show _ = _; first | exact oY | exact rfl) | exact oW | (apply And.intro)))
    refine ⟨j, [some 0], by omega, ?mu, ?_⟩
    case mu => (show j < j + 1; omega)
    (repeat' (first | (refine And.intro ?_ ?_) | exact True.intro | (show _ = _; with_reducible rfl) | exact Chk.mk (by kernel_rfl)))
    all_goals first | rfl | exact w3 | (show (_ : Int) = _; omega)
abbrev smallS : PSpec := gB1 (fun s d => [Bg s d, valD d < 9223372036854775808]) fun s d => .int .i64 (bzv s d)
theorem small_s : SOK Tryz.prog 122 smallS := by
  refine sok_of (C := mkC 0 [(74, unsignedS)] noG) (mkC_ok (pok_cons unsigned_s pok_nil) noG_ok) rfl mixed ⟨Tryz.func122, by kernel_rfl, by kernel_rfl, by kernel_rfl⟩ fun l obs v h ho => ?_
  unfold smallS at h
  (unfold gB1 at h; split at h; rotate_left; (focus (cases h)); rename_i s d; simp only [Option.some.injEq, Prod.mk.injEq] at h; obtain ⟨rfl, rfl⟩ := h; simp only [List.mem_cons, List.not_mem_nil, or_false, forall_eq_or_imp, forall_eq, false_implies, implies_true] at ho)
  obtain ⟨hd, hv⟩ := ho
  have hn := valD_nn hd.dig
  have hv' : valD d < 18446744073709551616 := by omega
  refine ⟨Nat.le_of_ble_eq_true rfl, ?_⟩
  have r0 : rngI .i64 (valD d) := rng64 (by omega) (by omega)
  have r1 : rngI .i64 (-(valD d)) := rng64 (by omega) (by omega)
  cases s with
  | true =>
    have e : -(valD d) = bzv true d := rfl
    (repeat' (first | (refine xI (fun hfk => ?_) (fun hfk => ?_) <;> ((try (first | replace hfk := oT hfk | replace hfk := oF hfk | simp only [oD, ne_eq, reduceCtorEq] at hfk)); (try exact oX))) | refine And.intro oZ ?_ | exact True.intro | (show _ = _; first | exact oY | (exact e; done) | exact rfl) | exact oW | (apply And.intro)))
  | false =>
    have e : valD d = bzv false d := rfl
    (repeat' (first | (refine xI (fun hfk => ?_) (fun hfk => ?_) <;> ((try (first | replace hfk := oT hfk | replace hfk := oF hfk | simp only [oD, ne_eq, reduceCtorEq] at hfk)); (try exact oX))) | refine And.intro oZ ?_ | exact True.intro | (show _ = _; first | exact oY | (exact e; done) | exact rfl) | exact oW | (apply And.intro)))
end Go.Proofs.YtljdahepmmgfeaaGreatDoor
namespace Go.Proofs.YtljdahepmmgfeaaGreatDoor
open Go Go.RowKit
set_option maxHeartbeats 4000000
theorem set_take {o : List Int} {p : Nat} (h : p < o.length) (v : Int) : (o.set p v).take (p + 1) = o.take p ++ [v] := by
  rw [List.set_eq_take_append_cons_drop, if_pos h, List.take_append, List.length_take, List.take_of_length_le (by rw [List.length_take]; omega)]
  congr 1
  rw [show p + 1 - min p o.length = 1 from by omega]; rfl
theorem set_drop {o : List Int} {p : Nat} (h : p < o.length) (v : Int) : (o.set p v).drop (p + 1) = o.drop (p + 1) := by
  rw [List.set_eq_take_append_cons_drop, if_pos h, List.drop_append, List.length_take, List.drop_of_length_le (by rw [List.length_take]; omega)]
  rw [show p + 1 - min p o.length = 1 from by omega]; rfl
theorem Dig.set {o : List Int} (h : Dig o) (p : Nat) {v : Int} (hv : Dg v) : Dig (o.set p v) := fun x hx => (List.mem_or_eq_of_mem_set hx).elim (h x) fun e => e ▸ hv
theorem am_next {o b : List Int} {x c : Int} {p k : Nat} (hp : p < o.length) (hk : k < b.length) :
    (o.set p ((o.getD p 0 + x * b.getD k 0 + c) % 32768)).take (p + 1) ++ amR ((o.set p ((o.getD p 0 + x * b.getD k 0 + c) % 32768)).drop (p + 1)) x (b.drop (k + 1)) ((o.getD p 0 + x * b.getD k 0 + c) / 32768) = o.take p ++ amR (o.drop p) x (b.drop k) c := by
  rw [set_take hp, set_drop hp, drop_dg hp, drop_dg hk, amR, dgAt_in hp, dgAt_in hk, List.append_assoc]
  rfl
theorem am_end {o : List Int} {x c : Int} {p : Nat} (hp : p < o.length) : o.set p (o.getD p 0 + c) = o.take p ++ amR (o.drop p) x [] c := by
  rw [drop_dg hp, amR, dgAt_in hp, List.set_eq_take_append_cons_drop, if_pos hp]
theorem mul_next {a b o q : List Int} {i : Nat} (hi : i < a.length) (ho : i < o.length) (e : q = o.take i ++ amR (o.drop i) (dgAt a i) b 0) :
    q.take (i + 1) ++ mulR (q.drop (i + 1)) (a.drop (i + 1)) b = o.take i ++ mulR (o.drop i) (a.drop i) b := by
  have hl := amR_len (o.drop i) (dgAt a i) b 0
  rw [drop_dg hi, mulR]
  cases hA : amR (o.drop i) (dgAt a i) b 0 with
  | nil => rw [hA, List.length_drop] at hl; simp at hl; omega
  | cons y A =>
    rw [hA] at e
    have hm : min i o.length = i := by omega
    have e1 : q.take (i + 1) = o.take i ++ [y] := by
      rw [e, List.take_append, List.length_take, hm, List.take_of_length_le (by rw [List.length_take]; omega), show i + 1 - i = 1 from by omega]; rfl
    have e2 : q.drop (i + 1) = A := by
      rw [e, List.drop_append, List.length_take, hm, List.drop_of_length_le (by rw [List.length_take]; omega), show i + 1 - i = 1 from by omega]; rfl
    rw [e1, e2, List.append_assoc]; rfl
theorem mul_dig {a b o q : List Int} {i : Nat} (da : Dig a) (db : Dig b) (dO : Dig o) (hz : ∀ j, i + b.length ≤ j → o.getD j 0 = 0) (hi : i < a.length) (e : q = o.take i ++ amR (o.drop i) (dgAt a i) b 0) : Dig q := by
  rw [e]
  refine (dO.take i).app (amR_dig (dO.drop i) ⟨(dgAt_bd da i).1, (dgAt_bd da i).2⟩ db (by decide) (by decide) fun j hj => ?_)
  have := hz (i + j) (by omega)
  simpa [List.getD, List.getElem?_drop] using this
theorem mul_zero {a b o q : List Int} {i : Nat} (hz : ∀ j, i + b.length ≤ j → o.getD j 0 = 0) (ho : i < o.length) (e : q = o.take i ++ amR (o.drop i) (dgAt a i) b 0) : ∀ j, i + 1 + b.length ≤ j → q.getD j 0 = 0 := by
  intro j hj
  have h1 := amR_zero (o.drop i) (dgAt a i) b 0 (j - i) (by omega)
  have h2 := hz j (by omega)
  have h3 : (o.drop i).getD (j - i) 0 = o.getD j 0 := by
    simp only [List.getD, List.getElem?_drop]
    rw [show i + (j - i) = j from by omega]
  have hm : min i o.length = i := by omega
  have h4 : q.getD j 0 = (amR (o.drop i) (dgAt a i) b 0).getD (j - i) 0 := by
    rw [e]
    simp only [List.getD]
    rw [List.getElem?_append_right (by rw [List.length_take]; omega), List.length_take, hm]
  rw [h4, h1, h3, h2]
theorem valD_zero : ∀ n : Nat, valD (List.replicate n 0) = 0
  | 0 => rfl
  | n + 1 => by rw [List.replicate_succ, valD, valD_zero n]; rfl
abbrev mulS : PSpec := gB2 (fun s d t e => [Bg s d, Bg t e]) fun s d t e => bigA (bzv s d * bzv t e)
theorem mul_s : SOK Tryz.prog 76 mulS := by
  refine sok_of (C := mkK 0 [(107, madeS), (104, trimS)] noG [1000003]) (mkK_ok (pok_cons made_s (pok_cons trim_s pok_nil)) noG_ok) rfl mixed ⟨Tryz.func76, by kernel_rfl, by kernel_rfl, by kernel_rfl⟩ fun l obs v h ho => ?_
  unfold mulS at h
  (unfold gB2 at h; split at h; rotate_left; (focus (cases h)); rename_i s a t b; simp only [Option.some.injEq, Prod.mk.injEq] at h; obtain ⟨rfl, rfl⟩ := h; simp only [List.mem_cons, List.not_mem_nil, or_false, forall_eq_or_imp, forall_eq, false_implies, implies_true] at ho)
  obtain ⟨ha, hb⟩ := ho
  have da := ha.dig
  have db := hb.dig
  have la := ha.sh.le
  have lb := hb.sh.le
  refine ⟨Nat.le_of_ble_eq_true rfl, ?_⟩
  obtain ⟨N, hN⟩ : ∃ N : Nat, a.length + b.length + 1 = N := ⟨_, rfl⟩
  have hNt : ((a.length : Int) + b.length + 1).toNat = N := by omega
  have r0 : rngI .i64 ((a.length : Int) + b.length) := rng64 (by omega) (by omega)
  have r1 : rngI .i64 ((a.length : Int) + b.length + 1) := rng64 (by omega) (by omega)
  (repeat' (first | (refine xI (fun hfk => ?_) (fun hfk => ?_) <;> ((try (first | replace hfk := oT hfk | replace hfk := oF hfk | simp only [oD, ne_eq, reduceCtorEq] at hfk)); (try exact oX))) | refine And.intro oZ ?_ | exact True.intro | (show _ = _; first | exact oY | exact rfl) | exact oW | (apply And.intro)))
  refine ⟨Nat × List Int, fun g => [(2, .ptr 0 0), (3, .ptr 1 0), (4, .ptr 2 0), (5, .sl 3 1 0 N), (6, .int .i64 (g.1 : Int))],
    fun g => ⟨4, [(0, some (.cells 76 [.bool s, .roi .i64 a])), (1, some (.cells 76 [.bool t, .roi .i64 b])), (2, some (.cells 76 [.fls, .nils])), (3, some (.ints 3 .i64 g.2))]⟩,
    fun g => g.1 ≤ a.length ∧ g.2.length = N ∧ Dig g.2 ∧ (∀ j, g.1 + b.length ≤ j → g.2.getD j 0 = 0) ∧ g.2.take g.1 ++ mulR (g.2.drop g.1) (a.drop g.1) b = mulR (List.replicate N 0) a b, fun g => a.length - g.1,
    ⟨(0, List.replicate N 0), [some 0, some 1, some 2, some 3], ⟨Nat.zero_le _, List.length_replicate, fun x hx => by rw [List.eq_of_mem_replicate hx]; exact ⟨by decide, by decide⟩, fun j _ => by simp [List.getD, List.getElem?_replicate]; split <;> rfl, rfl⟩, ?_⟩, fun g hg => ?_⟩
  · have q1 : List.replicate ((a.length : Int) + b.length + 1).toNat (0 : Int) = List.replicate N 0 := by rw [hNt]
    (repeat' (first | (refine And.intro ?_ ?_) | exact True.intro | (show _ = _; with_reducible rfl) | exact Chk.mk (by kernel_rfl)))
    all_goals first | rfl | exact hNt | exact q1
  obtain ⟨i, o⟩ := g
  obtain ⟨g1, g2, g3, g4, g5⟩ := hg
  have g1 : i ≤ a.length := g1
  have g2 : o.length = N := g2
  have g3 : Dig o := g3
  have g4 : ∀ j, i + b.length ≤ j → o.getD j 0 = 0 := g4
  have g5 : o.take i ++ mulR (o.drop i) (a.drop i) b = mulR (List.replicate N 0) a b := g5
  by_cases hlt : i < a.length
  · have hlt' : (i : Int) < (a.length : Int) := by omega
    (repeat' (first | (refine xI (fun hfk => ?_) (fun hfk => ?_) <;> ((try (first | replace hfk := oT hfk | replace hfk := oF hfk | simp only [oD, ne_eq, reduceCtorEq] at hfk)); (try exact oX))) | refine And.intro oZ ?_ | exact True.intro | (show _ = _; first | exact oY | exact rfl) | exact oW | (apply And.intro)))
    refine ⟨[], ?_⟩
    refine ⟨[(2, .ptr 0 0), (3, .ptr 1 0), (4, .ptr 2 0), (5, .sl 3 1 0 N), (6, .int .i64 (i : Int)), (23, .bool (decide ((i : Int) < (a.length : Int))))],
      ⟨4, [(0, some (.cells 76 [.bool s, .roi .i64 a])), (1, some (.cells 76 [.bool t, .roi .i64 b])), (2, some (.cells 76 [.fls, .nils])), (3, some (.ints 3 .i64 o))]⟩, [some 0, some 1, some 2, some 3], ?_, ?_⟩
    · (repeat' (first | (refine And.intro ?_ ?_) | exact True.intro | (show _ = _; with_reducible rfl) | exact Chk.mk (by kernel_rfl)))
      all_goals rfl
    (repeat' (first | (refine xI (fun hfk => ?_) (fun hfk => ?_) <;> ((try (first | replace hfk := oT hfk | replace hfk := oF hfk | simp only [oD, ne_eq, reduceCtorEq] at hfk)); (try exact oX))) | refine And.intro oZ ?_ | exact True.intro | (show _ = _; first | exact oY | exact rfl) | exact oW | (apply And.intro)))
    refine ⟨Nat × List Int × Int, fun g => [(2, .ptr 0 0), (3, .ptr 1 0), (4, .ptr 2 0), (5, .sl 3 1 0 N), (6, .int .i64 (i : Int)), (7, .int .i64 g.2.2), (8, .int .i64 (g.1 : Int))],
      fun g => ⟨4, [(0, some (.cells 76 [.bool s, .roi .i64 a])), (1, some (.cells 76 [.bool t, .roi .i64 b])), (2, some (.cells 76 [.fls, .nils])), (3, some (.ints 3 .i64 g.2.1))]⟩,
      fun g => g.1 ≤ b.length ∧ g.2.1.length = N ∧ Dig g.2.1 ∧ 0 ≤ g.2.2 ∧ g.2.2 < 32768 ∧ g.2.1.take (i + g.1) ++ amR (g.2.1.drop (i + g.1)) (dgAt a i) (b.drop g.1) g.2.2 = o.take i ++ amR (o.drop i) (dgAt a i) b 0, fun g => b.length - g.1,
      ⟨(0, o, 0), [some 0, some 1, some 2, some 3], ⟨Nat.zero_le _, g2, g3, by show (0 : Int) ≤ 0; decide, by show (0 : Int) < 32768; decide, rfl⟩, ?_⟩, fun g hg => ?_⟩
    · (repeat' (first | (refine And.intro ?_ ?_) | exact True.intro | (show _ = _; with_reducible rfl) | exact Chk.mk (by kernel_rfl)))
      all_goals rfl
    obtain ⟨k, q, c⟩ := g
    obtain ⟨k1, k2, k3, k4, k5, k6⟩ := hg
    have k1 : k ≤ b.length := k1
    have k2 : q.length = N := k2
    have k3 : Dig q := k3
    have k4 : 0 ≤ c := k4
    have k5 : c < 32768 := k5
    have k6 : q.take (i + k) ++ amR (q.drop (i + k)) (dgAt a i) (b.drop k) c = o.take i ++ amR (o.drop i) (dgAt a i) b 0 := k6
    have hp : i + k < q.length := by omega
    have et : ((i : Int) + (k : Int)).toNat = i + k := by omega
    obtain ⟨q0, q1⟩ := dgAt_bd k3 ((i + k : Nat) : Int)
    rw [dgAt_in hp] at q0 q1
    obtain ⟨x0, x1⟩ := dgAt_bd da (i : Int)
    have ex := dgAt_in hlt
    have r2 : rngI .i64 ((i : Int) + (k : Int)) := rng64 (by omega) (by omega)
    by_cases hk : k < b.length
    · have hk' : (k : Int) < (b.length : Int) := by omega
      obtain ⟨y0, y1⟩ := dgAt_bd db (k : Int)
      have ey := dgAt_in hk
      rw [ex] at x0 x1
      rw [ey] at y0 y1
      have p0 : 0 ≤ a.getD i 0 * b.getD k 0 := Int.mul_nonneg x0 y0
      have p1 : a.getD i 0 * b.getD k 0 ≤ 32767 * 32767 := Int.mul_le_mul (by omega) (by omega) y0 (by omega)
      have r3 : rngI .i64 (a.getD i 0 * b.getD k 0) := rng64 (by omega) (by omega)
      have r4 : rngI .i64 (q.getD (i + k) 0 + a.getD i 0 * b.getD k 0) := rng64 (by omega) (by omega)
      have r5 : rngI .i64 (q.getD (i + k) 0 + a.getD i 0 * b.getD k 0 + c) := rng64 (by omega) (by omega)
      have ea : a.getD (i : Int).toNat 0 = a.getD i 0 := rfl
      have eb : b.getD (k : Int).toNat 0 = b.getD k 0 := rfl
      have eq : q.getD (0 + ((i : Int) + (k : Int)).toNat) 0 = q.getD (i + k) 0 := by rw [et, Nat.zero_add]
      have r4' : rngI .i64 (q.getD (0 + ((i : Int) + (k : Int)).toNat) 0 + a.getD (i : Int).toNat 0 * b.getD (k : Int).toNat 0) := by rw [eq]; exact r4
      have r5' : rngI .i64 (q.getD (0 + ((i : Int) + (k : Int)).toNat) 0 + a.getD (i : Int).toNat 0 * b.getD (k : Int).toNat 0 + c) := by rw [eq]; exact r5
      have hd : Int.tdiv (q.getD (i + k) 0 + a.getD i 0 * b.getD k 0 + c) 32768 = (q.getD (i + k) 0 + a.getD i 0 * b.getD k 0 + c) / 32768 := Int.tdiv_eq_ediv_of_nonneg (by omega)
      have hm : Int.tmod (q.getD (i + k) 0 + a.getD i 0 * b.getD k 0 + c) 32768 = (q.getD (i + k) 0 + a.getD i 0 * b.getD k 0 + c) % 32768 := Int.tmod_eq_emod_of_nonneg (by omega)
      have hd' : Int.tdiv (q.getD (0 + ((i : Int) + (k : Int)).toNat) 0 + a.getD (i : Int).toNat 0 * b.getD (k : Int).toNat 0 + c) 32768 = (q.getD (i + k) 0 + a.getD i 0 * b.getD k 0 + c) / 32768 := by rw [eq]; exact hd
      have r6 : rngI .i64 (Int.tdiv (q.getD (0 + ((i : Int) + (k : Int)).toNat) 0 + a.getD (i : Int).toNat 0 * b.getD (k : Int).toNat 0 + c) 32768) := by rw [hd']; exact rng64 (by omega) (by omega)
      have r3' : rngI .i64 (a.getD (i : Int).toNat 0 * b.getD (k : Int).toNat 0) := r3
      have nx := am_next (o := q) (b := b) (x := a.getD i 0) (c := c) hp hk
      (repeat' (first | (refine xI (fun hfk => ?_) (fun hfk => ?_) <;> ((try (first | replace hfk := oT hfk | replace hfk := oF hfk | simp only [oD, ne_eq, reduceCtorEq] at hfk)); (try exact oX))) | refine And.intro oZ ?_ | exact True.intro | (show _ = _; first | exact oY | (first | exact r3' | exact r4' | exact r5' | exact r6; done) | exact rfl) | exact oW | (apply And.intro)))
      refine ⟨(k + 1, q.set (i + k) ((q.getD (i + k) 0 + a.getD i 0 * b.getD k 0 + c) % 32768), (q.getD (i + k) 0 + a.getD i 0 * b.getD k 0 + c) / 32768), [some 0, some 1, some 2, some 3], ?_, ?mu, ?_⟩
      case mu => (show b.length - (k + 1) < b.length - k; omega)
      · refine ⟨hk, ?_, k3.set _ ⟨by omega, by omega⟩, ?_, ?_, ?_⟩
        · show (q.set _ _).length = N
          rw [List.length_set]; exact k2
        · show 0 ≤ (q.getD (i + k) 0 + a.getD i 0 * b.getD k 0 + c) / 32768
          omega
        · show (q.getD (i + k) 0 + a.getD i 0 * b.getD k 0 + c) / 32768 < 32768
          omega
        · rw [ex] at k6 ⊢
          rw [← k6, ← nx]
          rfl
      have qa : q.set (0 + ((i : Int) + (k : Int)).toNat) (Int.tmod (q.getD (0 + ((i : Int) + (k : Int)).toNat) 0 + a.getD (i : Int).toNat 0 * b.getD (k : Int).toNat 0 + c) 32768) = q.set (i + k) ((q.getD (i + k) 0 + a.getD i 0 * b.getD k 0 + c) % 32768) := by
        rw [eq, et, Nat.zero_add]
        exact congrArg (q.set (i + k)) hm
      (repeat' (first | (refine And.intro ?_ ?_) | exact True.intro | (show _ = _; with_reducible rfl) | exact Chk.mk (by kernel_rfl)))
      all_goals first | rfl | exact hd' | exact qa | (show (_ : Int) = _; omega)
    · have hk' : ¬ (k : Int) < (b.length : Int) := by omega
      have hkb : k = b.length := by omega
      subst hkb
      rw [List.drop_length] at k6
      have eq : q.getD (0 + ((i : Int) + (b.length : Int)).toNat) 0 = q.getD (i + b.length) 0 := by rw [et, Nat.zero_add]
      have r7 : rngI .i64 (q.getD (0 + ((i : Int) + (b.length : Int)).toNat) 0 + c) := by rw [eq]; exact rng64 (by omega) (by omega)
      have ri : rngI .i64 ((i : Int) + 1) := rng64 (by omega) (by omega)
      have nq : q.set (i + b.length) (q.getD (i + b.length) 0 + c) = o.take i ++ amR (o.drop i) (dgAt a i) b 0 := by rw [am_end hp]; exact k6
      (repeat' (first | (refine xI (fun hfk => ?_) (fun hfk => ?_) <;> ((try (first | replace hfk := oT hfk | replace hfk := oF hfk | simp only [oD, ne_eq, reduceCtorEq] at hfk)); (try exact oX))) | refine And.intro oZ ?_ | exact True.intro | (show _ = _; first | exact oY | (exact r7; done) | exact rfl) | exact oW | (apply And.intro)))
      refine ⟨(i + 1, q.set (i + b.length) (q.getD (i + b.length) 0 + c)), [some 0, some 1, some 2, some 3], ?_, ?mu, ?_⟩
      case mu => (show a.length - (i + 1) < a.length - i; omega)
      · refine ⟨hlt, ?_, mul_dig da db g3 g4 hlt nq, mul_zero g4 (by omega) nq, ?_⟩
        · show (q.set _ _).length = N
          rw [List.length_set]; exact k2
        · rw [← g5, ← mul_next hlt (by omega) nq]
      have qa : q.set (0 + ((i : Int) + (b.length : Int)).toNat) (q.getD (0 + ((i : Int) + (b.length : Int)).toNat) 0 + c) = q.set (i + b.length) (q.getD (i + b.length) 0 + c) := by
        rw [eq, et, Nat.zero_add]
      (repeat' (first | (refine And.intro ?_ ?_) | exact True.intro | (show _ = _; with_reducible rfl) | exact Chk.mk (by kernel_rfl)))
      all_goals first | rfl | exact qa | (show (_ : Int) = _; omega)
  · have hlt' : ¬ (i : Int) < (a.length : Int) := by omega
    have hi : i = a.length := by omega
    have hM : o = mulR (List.replicate N 0) a b := by
      rw [← g5, hi, List.drop_length, mulR, List.take_append_drop]
    have hv : valD o = valD a * valD b := by
      rw [hM, mulR_val _ _ _ (by rw [List.length_replicate]; omega), valD_zero, Int.zero_add]
    (repeat' (first | (refine xI (fun hfk => ?_) (fun hfk => ?_) <;> ((try (first | replace hfk := oT hfk | replace hfk := oF hfk | simp only [oD, ne_eq, reduceCtorEq] at hfk)); (try exact oX))) | refine And.intro oZ ?_ | exact True.intro | (show _ = _; first | exact oY | exact rfl) | exact oW | (apply And.intro)))
    refine ⟨[5], ?_⟩
    (repeat' (first | (refine xI (fun hfk => ?_) (fun hfk => ?_) <;> ((try (first | replace hfk := oT hfk | replace hfk := oF hfk | simp only [oD, ne_eq, reduceCtorEq] at hfk)); (try exact oX))) | refine And.intro oZ ?_ | exact True.intro | (show _ = _; first | exact oY | exact rfl) | exact oW | (apply And.intro)))
    refine ⟨[(2, .ptr 0 0), (3, .ptr 1 0), (4, .ptr 2 0), (5, .roi .i64 o), (23, .bool (decide ((i : Int) < (a.length : Int))))],
      ⟨3, [(0, some (.cells 76 [.bool s, .roi .i64 a])), (1, some (.cells 76 [.bool t, .roi .i64 b])), (2, some (.cells 76 [.fls, .nils]))]⟩, [some 0, some 1, some 2], ?_, ?_⟩
    · have qo : List.take N (List.drop 0 o) = o := by rw [List.drop_zero, List.take_of_length_le (by omega)]
      (repeat' (first | (refine And.intro ?_ ?_) | exact True.intro | (show _ = _; with_reducible rfl) | exact Chk.mk (by kernel_rfl)))
      all_goals first | rfl | exact qo
    have qs : ShT o := ⟨by omega⟩
    have ha0 := valD_nn da
    have hb0 := valD_nn db
    have hp0 : 0 ≤ valD a * valD b := Int.mul_nonneg ha0 hb0
    have tr : trimL o = dgs (valD a * valD b).toNat := by rw [trim_dgs g3, hv]
    have hz : (if (!(s == t)) = true then -((valD a * valD b).toNat : Int) else ((valD a * valD b).toNat : Int)) = bzv s a * bzv t b := by
      unfold bzv
      rw [Int.toNat_of_nonneg hp0]
      cases s <;> cases t <;> simp [Int.neg_mul, Int.mul_neg]
    obtain ⟨e1, e2⟩ := made_z hz
    rw [← tr] at e1 e2
    (repeat' (first | (refine xI (fun hfk => ?_) (fun hfk => ?_) <;> ((try (first | replace hfk := oT hfk | replace hfk := oF hfk | simp only [oD, ne_eq, reduceCtorEq] at hfk)); (try exact oX))) | refine And.intro oZ ?_ | exact True.intro | (show _ = _; first | exact oY | (first | exact e1 | exact e2 | exact ⟨e1, e2⟩; done) | exact rfl) | exact oW | (apply And.intro)))
end Go.Proofs.YtljdahepmmgfeaaGreatDoor
namespace Go.Proofs.YtljdahepmmgfeaaGreatDoor
open Go Go.RowKit
set_option maxHeartbeats 4000000
def isDec (d : Int) : Bool := decide (48 ≤ d) && decide (d ≤ 57)
def digN : List Int → Nat
  | [] => 0
  | d :: l => if isDec d = true then digN l + 1 else 0
def decV (l : List Int) : Int := l.foldl (fun x d => x * 10 + (d - 48)) 0
theorem digN_le : ∀ l : List Int, digN l ≤ l.length
  | [] => Nat.le_refl _
  | d :: l => by have := digN_le l; unfold digN; split <;> simp <;> omega
theorem digN_in : ∀ {l : List Int} {n : Nat}, n < digN l → n < l.length ∧ 48 ≤ l.getD n 0 ∧ l.getD n 0 ≤ 57
  | [], n, h => by simp [digN] at h
  | d :: l, n, h => by
    unfold digN at h
    split at h
    · rename_i hd
      unfold isDec at hd
      rw [Bool.and_eq_true] at hd
      cases n with
      | zero => exact ⟨by simp, of_decide_eq_true hd.1, of_decide_eq_true hd.2⟩
      | succ n =>
        obtain ⟨a, b, c⟩ := digN_in (l := l) (n := n) (by omega)
        exact ⟨by simp; omega, by simpa using b, by simpa using c⟩
    · omega
theorem digN_out : ∀ {l : List Int}, digN l < l.length → ¬ (48 ≤ l.getD (digN l) 0 ∧ l.getD (digN l) 0 ≤ 57)
  | [], h => by simp at h
  | d :: l, h => by
    by_cases hd : isDec d = true
    · have e : digN (d :: l) = digN l + 1 := by rw [digN, if_pos hd]
      rw [e] at h ⊢
      have := digN_out (l := l) (by simpa using h)
      simpa using this
    · have e : digN (d :: l) = 0 := by rw [digN, if_neg hd]
      rw [e]
      intro k
      exact hd (by unfold isDec; rw [Bool.and_eq_true]; exact ⟨decide_eq_true (by simpa using k.1), decide_eq_true (by simpa using k.2)⟩)
theorem decV_snoc (l : List Int) (d : Int) : decV (l ++ [d]) = decV l * 10 + (d - 48) := by unfold decV; rw [List.foldl_append]; rfl
theorem decV_step {l : List Int} {n : Nat} (h : n < l.length) : decV (l.take (n + 1)) = decV (l.take n) * 10 + (l.getD n 0 - 48) := by
  rw [show l.take (n + 1) = l.take n ++ [l.getD n 0] from by rw [List.take_add_one]; simp [List.getD, List.getElem?_eq_getElem h], decV_snoc]
theorem decV_bd {l : List Int} : ∀ n : Nat, n ≤ digN l → 0 ≤ decV (l.take n) ∧ decV (l.take n) < 10 ^ n
  | 0, _ => by rw [List.take_zero]; exact ⟨by decide, by decide⟩
  | n + 1, h => by
    obtain ⟨a, b⟩ := decV_bd (l := l) n (by omega)
    obtain ⟨c, d, e⟩ := digN_in (l := l) (n := n) (by omega)
    rw [decV_step c, Int.pow_succ]
    constructor <;> omega
theorem ten_le : ∀ n : Nat, (10 : Int) ^ n ≤ ((32768 ^ n : Nat) : Int)
  | 0 => by decide
  | n + 1 => by
    have := ten_le n
    rw [Int.pow_succ, Nat.pow_succ, Int.natCast_mul]
    have h0 : (0 : Int) ≤ ((32768 ^ n : Nat) : Int) := Int.natCast_nonneg _
    show (10 : Int) ^ n * 10 ≤ ((32768 ^ n : Nat) : Int) * 32768
    omega
theorem Bg_pow {z : Int} {n : Nat} (h0 : 0 ≤ z) (h1 : z < 10 ^ n) (hn : n ≤ 1000000) : Bg (decide (z < 0)) (dgs z.natAbs) :=
  Bg_big (Nat.le_trans (dgs_len (k := n) (by have := ten_le n; omega)) hn)
theorem Bg_i64 {z : Int} (h0 : -9223372036854775808 ≤ z) (h1 : z < 9223372036854775808) : Bg (decide (z < 0)) (dgs z.natAbs) :=
  Bg_big (Nat.le_trans (dgs_len (k := 5) (by rw [show (32768 : Nat) ^ 5 = 37778931862957161709568 from by decide]; omega)) (by decide))
end Go.Proofs.YtljdahepmmgfeaaGreatDoor

