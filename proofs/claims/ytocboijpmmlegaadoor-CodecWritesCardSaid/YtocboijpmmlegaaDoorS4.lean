/- Texts laid together. No condition. -/
import Derived.Test.YtocboijpmmlegaaDoorS3
set_option maxRecDepth 100000
set_option linter.unusedVariables false
set_option linter.unusedSimpArgs false
namespace Go.Proofs.YtocboijpmmlegaaDoor
open Go Go.RowKit
set_option maxHeartbeats 4000000
def offs (i : Nat) : Int := [0, 4, 8, 12, 16, 20, 24, 26, 28, 32, 36, 40, 44, 48, 52].getD i 0
def hsel (i j : Nat) (F x : Int) : Int := bif Nat.blt j i then F else x
theorem cR0 (b : List Int) : cR b 0 = b := by simp
theorem low_at {b : List Int} {a k : Int} (h0 : 0 ≤ a) (h1 : 1 ≤ k) (h4 : k ≤ 4) (h : a + k ≤ b.length) : lowC k (cR b a).length = 0 ∧ lowV ((cR b a).take k.toNat) = lw b a k := by
  have el : (cR b a).length = b.length - a.toNat := by simp
  refine ⟨by unfold lowC; rw [if_neg (by omega), if_neg (by omega)], ?_⟩
  unfold lw cR
  rw [List.take_take, Nat.min_eq_left (by omega)]
def tkC (b : List Int) : Int := if wordC b [66, 77] ≠ 0 then wordC b [66, 77] else if b.length < 54 then 20 else 0
def tkA (b : List Int) : Int := if wordC b [66, 77] ≠ 0 then 0 else if b.length < 54 then 2 else 54
abbrev cut2 (n : Nat) (a : Int) : Ent := .cells 69 [.sl 2 1 0 n, .int .i64 a]
def takeHF : FSpec := fun l es => match l, es with
  | [.ptr 0 0, .ptr 1 0], [.cells 89 [.int .u32 x0, .int .u32 x1, .int .u32 x2, .int .u32 x3, .int .u32 x4, .int .u32 x5, .int .u32 x6, .int .u32 x7, .int .u32 x8, .int .u32 x9, .int .u32 x10, .int .u32 x11, .int .u32 x12, .int .u32 x13], .cells 69 [.sl 2 1 0 n, .int .i64 a], .ints 5 .u8 b] =>
    some ([n = b.length, a = 0, Byt b], .int .i64 (tkC b), [some (.cells 89 [.int .u32 (if tkC b = 0 then lw b 2 4 else x0), .int .u32 (if tkC b = 0 then lw b 6 4 else x1), .int .u32 (if tkC b = 0 then lw b 10 4 else x2), .int .u32 (if tkC b = 0 then lw b 14 4 else x3), .int .u32 (if tkC b = 0 then lw b 18 4 else x4), .int .u32 (if tkC b = 0 then lw b 22 4 else x5), .int .u32 (if tkC b = 0 then lw b 26 2 else x6), .int .u32 (if tkC b = 0 then lw b 28 2 else x7), .int .u32 (if tkC b = 0 then lw b 30 4 else x8), .int .u32 (if tkC b = 0 then lw b 34 4 else x9), .int .u32 (if tkC b = 0 then lw b 38 4 else x10), .int .u32 (if tkC b = 0 then lw b 42 4 else x11), .int .u32 (if tkC b = 0 then lw b 46 4 else x12), .int .u32 (if tkC b = 0 then lw b 50 4 else x13)]), some (cut2 n (tkA b)), some (bE b)])
  | _, _ => none
theorem takeH_g : GSOK Tryd.prog 57 (fG takeHF) := by
  refine fokE (S := [(29, leftS)]) (G := glook [(74, fG cwordF), (81, fG fieldsF)]) [(82, clowF)] [] [] (pok_cons left_s pok_nil) (gl_cons cword_g (gl_cons fields_g gl_nil)) (dl_cons clow_g dl_nil) ⟨Tryd.func57, by kernel_rfl, by kernel_rfl, by kernel_rfl⟩ fun l es obs v es' h ho => ?_
  (unfold takeHF at h; split at h; rotate_left; (focus (cases h)); rename_i x0 x1 x2 x3 x4 x5 x6 x7 x8 x9 x10 x11 x12 x13 n a b; simp only [Option.some.injEq, Prod.mk.injEq] at h; obtain ⟨rfl, rfl, rfl⟩ := h; simp only [List.mem_cons, List.not_mem_nil, or_false, forall_eq_or_imp, forall_eq, false_implies, implies_true] at ho)
  obtain ⟨rfl, rfl, hb⟩ := ho
  have bl := hb.le
  have bb := hb.bd
  refine ⟨Nat.le_of_ble_eq_true rfl, ?_⟩
  have es : strI (ByteArray.mk #[66, 77]).data.toList = [66, 77] := rfl
  have hw0 : wordC (cR b 0) (strI (ByteArray.mk #[66, 77]).data.toList) = wordC b [66, 77] := by rw [cR0]; rfl
  have hwn : wordN (cR b 0) (ByteArray.mk #[66, 77]).data.toList = if wordC b [66, 77] = 0 then 2 else 0 := by unfold wordN; rw [hw0]; rfl
  have : (List.take (b).length (List.drop 0 (b))).length = (b).length := by simp
  by_cases k1 : wordC b [66, 77] = 0
  rotate_left
  · have e : tkC b = wordC b [66, 77] := if_pos k1
    have e2 : tkA b = 0 := if_pos k1
    have hw1 : ¬ wordC (cR b 0) (strI (ByteArray.mk #[66, 77]).data.toList) = 0 := by rw [hw0]; exact k1
    have hx : ∀ F x : Int, x = if tkC b = 0 then F else x := fun F x => by rw [e, if_neg k1]
    have hr : wordC (cR b 0) (strI (ByteArray.mk #[66, 77]).data.toList) = tkC b := by rw [hw0, e]
    have ha : (0 : Int) + wordN (cR b 0) (ByteArray.mk #[66, 77]).data.toList = tkA b := by rw [hwn, e2, if_neg k1]; rfl
    (repeat' (first | (refine xI (fun hfk => ?_) (fun hfk => ?_) <;> ((try (first | replace hfk := oT hfk | replace hfk := oF hfk | simp only [oA, oB, dh1, dh0, ne_eq, reduceCtorEq] at hfk)); (try exact oX))) | (refine And.intro ?ob ?_; (case ob => (exact oZ))) | exact True.intro | (show _ = _; first | exact oY | (skip; done) | exact rfl) | exact oW | (apply And.intro)))
    (refine ⟨[1, 2], ⟨by kernel_rfl⟩, ?_⟩)
    (repeat' (first | (refine xI (fun hfk => ?_) (fun hfk => ?_) <;> ((try (first | replace hfk := oT hfk | replace hfk := oF hfk | simp only [oA, oB, dh1, dh0, ne_eq, reduceCtorEq] at hfk)); (try exact oX))) | (refine And.intro ?ob ?_; (case ob => (exact oZ))) | exact True.intro | (show _ = _; first | exact oY | (skip; done) | exact rfl) | exact oW | (apply And.intro)))
    refine ⟨[some 0, some 1, some 2], ?_⟩
    (repeat' (first | (refine And.intro ?_ ?_) | exact True.intro | (show _ = _; with_reducible rfl) | exact Chk.mk (by kernel_rfl)))
    all_goals first | rfl | exact hr | exact ha | exact hx _ _
  have hw2 : wordN (cR b 0) (ByteArray.mk #[66, 77]).data.toList = 2 := by rw [hwn, if_pos k1]
  have hw3 : wordC (cR b 0) (strI (ByteArray.mk #[66, 77]).data.toList) = 0 := by rw [hw0]; exact k1
  have hl2 : 2 ≤ b.length := by have := wordC_le k1; simpa using this
  have ra : rngI .i64 ((0 : Int) + wordN (cR b 0) (ByteArray.mk #[66, 77]).data.toList) := by rw [hw2]; exact rng64 (by decide) (by decide)
  by_cases k2 : b.length < 54
  · have e : tkC b = 20 := by unfold tkC; rw [if_neg (fun k => k k1), if_pos k2]
    have e2 : tkA b = 2 := by unfold tkA; rw [if_neg (fun k => k k1), if_pos k2]
    have hx : ∀ F x : Int, x = if tkC b = 0 then F else x := fun F x => by rw [e]; rfl
    have hr : (20 : Int) = tkC b := e.symm
    have ha : (0 : Int) + wordN (cR b 0) (ByteArray.mk #[66, 77]).data.toList = tkA b := by rw [hw2, e2]; rfl
    (repeat' (first | (refine xI (fun hfk => ?_) (fun hfk => ?_) <;> ((try (first | replace hfk := oT hfk | replace hfk := oF hfk | simp only [oA, oB, dh1, dh0, ne_eq, reduceCtorEq] at hfk)); (try exact oX))) | (refine And.intro ?ob ?_; (case ob => (exact oZ))) | exact True.intro | (show _ = _; first | exact oY | (skip; done) | exact rfl) | exact oW | (apply And.intro)))
    (refine ⟨[1, 2], ⟨by kernel_rfl⟩, ?_⟩)
    (repeat' (first | (refine xI (fun hfk => ?_) (fun hfk => ?_) <;> ((try (first | replace hfk := oT hfk | replace hfk := oF hfk | simp only [oA, oB, dh1, dh0, ne_eq, reduceCtorEq] at hfk)); (try exact oX))) | (refine And.intro ?ob ?_; (case ob => (exact oZ))) | exact True.intro | (show _ = _; first | exact oY | (skip; done) | exact rfl) | exact oW | (apply And.intro)))
    refine ⟨[some 0, some 1, some 2], ?_⟩
    (repeat' (first | (refine And.intro ?_ ?_) | exact True.intro | (show _ = _; with_reducible rfl) | exact Chk.mk (by kernel_rfl)))
    all_goals first | rfl | exact hr | exact ha | exact hx _ _
  have e : tkC b = 0 := by unfold tkC; rw [if_neg (fun k => k k1), if_neg k2]
  have e2 : tkA b = 54 := by unfold tkA; rw [if_neg (fun k => k k1), if_neg k2]
  have hr : (0 : Int) = tkC b := e.symm
  (repeat' (first | (refine xI (fun hfk => ?_) (fun hfk => ?_) <;> ((try (first | replace hfk := oT hfk | replace hfk := oF hfk | simp only [oA, oB, dh1, dh0, ne_eq, reduceCtorEq] at hfk)); (try exact oX))) | (refine And.intro ?ob ?_; (case ob => (exact oZ))) | exact True.intro | (show _ = _; first | exact oY | (skip; done) | exact rfl) | exact oW | (apply And.intro)))
  (refine ⟨[1, 2], ⟨by kernel_rfl⟩, ?_⟩)
  (repeat' (first | (refine xI (fun hfk => ?_) (fun hfk => ?_) <;> ((try (first | replace hfk := oT hfk | replace hfk := oF hfk | simp only [oA, oB, dh1, dh0, ne_eq, reduceCtorEq] at hfk)); (try exact oX))) | (refine And.intro ?ob ?_; (case ob => (exact oZ))) | exact True.intro | (show _ = _; first | exact oY | (skip; done) | exact rfl) | exact oW | (apply And.intro)))
  (refine ⟨[0], ⟨by kernel_rfl⟩, ?_⟩)
  (repeat' (first | (refine xI (fun hfk => ?_) (fun hfk => ?_) <;> ((try (first | replace hfk := oT hfk | replace hfk := oF hfk | simp only [oA, oB, dh1, dh0, ne_eq, reduceCtorEq] at hfk)); (try exact oX))) | (refine And.intro ?ob ?_; (case ob => (exact oZ))) | exact True.intro | (show _ = _; first | exact oY | (skip; done) | exact rfl) | exact oW | (apply And.intro)))
  have ha0 : (0 : Int) + wordN (cR b 0) (ByteArray.mk #[66, 77]).data.toList = 2 + offs 0 := by rw [hw2]; rfl
  refine ⟨Nat, fun i => [(0, .ptr 0 0), (1, .ptr 1 0), (17, .sl 3 2 0 14), (18, .int .i64 14), (19, .int .i64 (i : Int))],
    fun i => ⟨4, [(0, some (.cells 89 [.int .u32 (hsel i 0 (lw b (2 + offs 0) 4) x0), .int .u32 (hsel i 1 (lw b (2 + offs 1) 4) x1), .int .u32 (hsel i 2 (lw b (2 + offs 2) 4) x2), .int .u32 (hsel i 3 (lw b (2 + offs 3) 4) x3), .int .u32 (hsel i 4 (lw b (2 + offs 4) 4) x4), .int .u32 (hsel i 5 (lw b (2 + offs 5) 4) x5), .int .u32 (hsel i 6 (lw b (2 + offs 6) 2) x6), .int .u32 (hsel i 7 (lw b (2 + offs 7) 2) x7), .int .u32 (hsel i 8 (lw b (2 + offs 8) 4) x8), .int .u32 (hsel i 9 (lw b (2 + offs 9) 4) x9), .int .u32 (hsel i 10 (lw b (2 + offs 10) 4) x10), .int .u32 (hsel i 11 (lw b (2 + offs 11) 4) x11), .int .u32 (hsel i 12 (lw b (2 + offs 12) 4) x12), .int .u32 (hsel i 13 (lw b (2 + offs 13) 4) x13)])), (1, some (cut2 b.length (2 + offs i))), (2, some (bE b)), (3, some (.cells 108 [.ptr 0 0, .int .i64 4, .ptr 0 1, .int .i64 4, .ptr 0 2, .int .i64 4, .ptr 0 3, .int .i64 4, .ptr 0 4, .int .i64 4, .ptr 0 5, .int .i64 4, .ptr 0 6, .int .i64 2, .ptr 0 7, .int .i64 2, .ptr 0 8, .int .i64 4, .ptr 0 9, .int .i64 4, .ptr 0 10, .int .i64 4, .ptr 0 11, .int .i64 4, .ptr 0 12, .int .i64 4, .ptr 0 13, .int .i64 4]))]⟩,
    fun i => i ≤ 14, fun i => 14 - i, ⟨0, [some 0, some 1, some 2, some 3], by omega, ?_⟩, fun i hi => ?_⟩
  · (repeat' (first | (refine And.intro ?_ ?_) | exact True.intro | (show _ = _; with_reducible rfl) | exact Chk.mk (by kernel_rfl)))
    all_goals first | rfl | exact ha0
  have hi : i ≤ 14 := hi
  have hc : i = 0 ∨ i = 1 ∨ i = 2 ∨ i = 3 ∨ i = 4 ∨ i = 5 ∨ i = 6 ∨ i = 7 ∨ i = 8 ∨ i = 9 ∨ i = 10 ∨ i = 11 ∨ i = 12 ∨ i = 13 ∨ i = 14 := by omega
  rcases hc with q | q | q | q | q | q | q | q | q | q | q | q | q | q | q <;> subst q
  · have p0 : offs 0 = 0 := rfl
    have p1 : offs 1 = 4 := rfl
    obtain ⟨f1, f2⟩ := low_at (b := b) (a := 2 + offs 0) (k := 4) (by omega) (by omega) (by omega) (by omega)
    have v1 : (if lowC 4 (cR b (2 + offs 0)).length = 0 then lowV ((cR b (2 + offs 0)).take (4 : Int).toNat) else 0) = lw b (2 + offs 0) 4 := by rw [if_pos f1, f2]
    have v2 : 2 + offs 0 + (if lowC 4 (cR b (2 + offs 0)).length = 0 then 4 else 0) = 2 + offs 1 := by rw [if_pos f1]; rfl
    (repeat' (first | (refine xI (fun hfk => ?_) (fun hfk => ?_) <;> ((try (first | replace hfk := oT hfk | replace hfk := oF hfk | simp only [oA, oB, dh1, dh0, ne_eq, reduceCtorEq] at hfk)); (try exact oX))) | (refine And.intro ?ob ?_; (case ob => (exact oZ))) | exact True.intro | (show _ = _; first | exact oY | (exact bb; done) | exact rfl) | exact oW | (apply And.intro)))
    refine ⟨1, [some 0, some 1, some 2, some 3], by omega, ?mu, ?_⟩
    case mu => (show 14 - 1 < 14 - 0; omega)
    (repeat' (first | (refine And.intro ?_ ?_) | exact True.intro | (show _ = _; with_reducible rfl) | exact Chk.mk (by kernel_rfl)))
    all_goals first | rfl | exact v1 | exact v2
  · have p0 : offs 1 = 4 := rfl
    have p1 : offs 2 = 8 := rfl
    obtain ⟨f1, f2⟩ := low_at (b := b) (a := 2 + offs 1) (k := 4) (by omega) (by omega) (by omega) (by omega)
    have v1 : (if lowC 4 (cR b (2 + offs 1)).length = 0 then lowV ((cR b (2 + offs 1)).take (4 : Int).toNat) else 0) = lw b (2 + offs 1) 4 := by rw [if_pos f1, f2]
    have v2 : 2 + offs 1 + (if lowC 4 (cR b (2 + offs 1)).length = 0 then 4 else 0) = 2 + offs 2 := by rw [if_pos f1]; rfl
    (repeat' (first | (refine xI (fun hfk => ?_) (fun hfk => ?_) <;> ((try (first | replace hfk := oT hfk | replace hfk := oF hfk | simp only [oA, oB, dh1, dh0, ne_eq, reduceCtorEq] at hfk)); (try exact oX))) | (refine And.intro ?ob ?_; (case ob => (exact oZ))) | exact True.intro | (show _ = _; first | exact oY | (exact bb; done) | exact rfl) | exact oW | (apply And.intro)))
    refine ⟨2, [some 0, some 1, some 2, some 3], by omega, ?mu, ?_⟩
    case mu => (show 14 - 2 < 14 - 1; omega)
    (repeat' (first | (refine And.intro ?_ ?_) | exact True.intro | (show _ = _; with_reducible rfl) | exact Chk.mk (by kernel_rfl)))
    all_goals first | rfl | exact v1 | exact v2
  · have p0 : offs 2 = 8 := rfl
    have p1 : offs 3 = 12 := rfl
    obtain ⟨f1, f2⟩ := low_at (b := b) (a := 2 + offs 2) (k := 4) (by omega) (by omega) (by omega) (by omega)
    have v1 : (if lowC 4 (cR b (2 + offs 2)).length = 0 then lowV ((cR b (2 + offs 2)).take (4 : Int).toNat) else 0) = lw b (2 + offs 2) 4 := by rw [if_pos f1, f2]
    have v2 : 2 + offs 2 + (if lowC 4 (cR b (2 + offs 2)).length = 0 then 4 else 0) = 2 + offs 3 := by rw [if_pos f1]; rfl
    (repeat' (first | (refine xI (fun hfk => ?_) (fun hfk => ?_) <;> ((try (first | replace hfk := oT hfk | replace hfk := oF hfk | simp only [oA, oB, dh1, dh0, ne_eq, reduceCtorEq] at hfk)); (try exact oX))) | (refine And.intro ?ob ?_; (case ob => (exact oZ))) | exact True.intro | (show _ = _; first | exact oY | (exact bb; done) | exact rfl) | exact oW | (apply And.intro)))
    refine ⟨3, [some 0, some 1, some 2, some 3], by omega, ?mu, ?_⟩
    case mu => (show 14 - 3 < 14 - 2; omega)
    (repeat' (first | (refine And.intro ?_ ?_) | exact True.intro | (show _ = _; with_reducible rfl) | exact Chk.mk (by kernel_rfl)))
    all_goals first | rfl | exact v1 | exact v2
  · have p0 : offs 3 = 12 := rfl
    have p1 : offs 4 = 16 := rfl
    obtain ⟨f1, f2⟩ := low_at (b := b) (a := 2 + offs 3) (k := 4) (by omega) (by omega) (by omega) (by omega)
    have v1 : (if lowC 4 (cR b (2 + offs 3)).length = 0 then lowV ((cR b (2 + offs 3)).take (4 : Int).toNat) else 0) = lw b (2 + offs 3) 4 := by rw [if_pos f1, f2]
    have v2 : 2 + offs 3 + (if lowC 4 (cR b (2 + offs 3)).length = 0 then 4 else 0) = 2 + offs 4 := by rw [if_pos f1]; rfl
    (repeat' (first | (refine xI (fun hfk => ?_) (fun hfk => ?_) <;> ((try (first | replace hfk := oT hfk | replace hfk := oF hfk | simp only [oA, oB, dh1, dh0, ne_eq, reduceCtorEq] at hfk)); (try exact oX))) | (refine And.intro ?ob ?_; (case ob => (exact oZ))) | exact True.intro | (show _ = _; first | exact oY | (exact bb; done) | exact rfl) | exact oW | (apply And.intro)))
    refine ⟨4, [some 0, some 1, some 2, some 3], by omega, ?mu, ?_⟩
    case mu => (show 14 - 4 < 14 - 3; omega)
    (repeat' (first | (refine And.intro ?_ ?_) | exact True.intro | (show _ = _; with_reducible rfl) | exact Chk.mk (by kernel_rfl)))
    all_goals first | rfl | exact v1 | exact v2
  · have p0 : offs 4 = 16 := rfl
    have p1 : offs 5 = 20 := rfl
    obtain ⟨f1, f2⟩ := low_at (b := b) (a := 2 + offs 4) (k := 4) (by omega) (by omega) (by omega) (by omega)
    have v1 : (if lowC 4 (cR b (2 + offs 4)).length = 0 then lowV ((cR b (2 + offs 4)).take (4 : Int).toNat) else 0) = lw b (2 + offs 4) 4 := by rw [if_pos f1, f2]
    have v2 : 2 + offs 4 + (if lowC 4 (cR b (2 + offs 4)).length = 0 then 4 else 0) = 2 + offs 5 := by rw [if_pos f1]; rfl
    (repeat' (first | (refine xI (fun hfk => ?_) (fun hfk => ?_) <;> ((try (first | replace hfk := oT hfk | replace hfk := oF hfk | simp only [oA, oB, dh1, dh0, ne_eq, reduceCtorEq] at hfk)); (try exact oX))) | (refine And.intro ?ob ?_; (case ob => (exact oZ))) | exact True.intro | (show _ = _; first | exact oY | (exact bb; done) | exact rfl) | exact oW | (apply And.intro)))
    refine ⟨5, [some 0, some 1, some 2, some 3], by omega, ?mu, ?_⟩
    case mu => (show 14 - 5 < 14 - 4; omega)
    (repeat' (first | (refine And.intro ?_ ?_) | exact True.intro | (show _ = _; with_reducible rfl) | exact Chk.mk (by kernel_rfl)))
    all_goals first | rfl | exact v1 | exact v2
  · have p0 : offs 5 = 20 := rfl
    have p1 : offs 6 = 24 := rfl
    obtain ⟨f1, f2⟩ := low_at (b := b) (a := 2 + offs 5) (k := 4) (by omega) (by omega) (by omega) (by omega)
    have v1 : (if lowC 4 (cR b (2 + offs 5)).length = 0 then lowV ((cR b (2 + offs 5)).take (4 : Int).toNat) else 0) = lw b (2 + offs 5) 4 := by rw [if_pos f1, f2]
    have v2 : 2 + offs 5 + (if lowC 4 (cR b (2 + offs 5)).length = 0 then 4 else 0) = 2 + offs 6 := by rw [if_pos f1]; rfl
    (repeat' (first | (refine xI (fun hfk => ?_) (fun hfk => ?_) <;> ((try (first | replace hfk := oT hfk | replace hfk := oF hfk | simp only [oA, oB, dh1, dh0, ne_eq, reduceCtorEq] at hfk)); (try exact oX))) | (refine And.intro ?ob ?_; (case ob => (exact oZ))) | exact True.intro | (show _ = _; first | exact oY | (exact bb; done) | exact rfl) | exact oW | (apply And.intro)))
    refine ⟨6, [some 0, some 1, some 2, some 3], by omega, ?mu, ?_⟩
    case mu => (show 14 - 6 < 14 - 5; omega)
    (repeat' (first | (refine And.intro ?_ ?_) | exact True.intro | (show _ = _; with_reducible rfl) | exact Chk.mk (by kernel_rfl)))
    all_goals first | rfl | exact v1 | exact v2
  · have p0 : offs 6 = 24 := rfl
    have p1 : offs 7 = 26 := rfl
    obtain ⟨f1, f2⟩ := low_at (b := b) (a := 2 + offs 6) (k := 2) (by omega) (by omega) (by omega) (by omega)
    have v1 : (if lowC 2 (cR b (2 + offs 6)).length = 0 then lowV ((cR b (2 + offs 6)).take (2 : Int).toNat) else 0) = lw b (2 + offs 6) 2 := by rw [if_pos f1, f2]
    have v2 : 2 + offs 6 + (if lowC 2 (cR b (2 + offs 6)).length = 0 then 2 else 0) = 2 + offs 7 := by rw [if_pos f1]; rfl
    (repeat' (first | (refine xI (fun hfk => ?_) (fun hfk => ?_) <;> ((try (first | replace hfk := oT hfk | replace hfk := oF hfk | simp only [oA, oB, dh1, dh0, ne_eq, reduceCtorEq] at hfk)); (try exact oX))) | (refine And.intro ?ob ?_; (case ob => (exact oZ))) | exact True.intro | (show _ = _; first | exact oY | (exact bb; done) | exact rfl) | exact oW | (apply And.intro)))
    refine ⟨7, [some 0, some 1, some 2, some 3], by omega, ?mu, ?_⟩
    case mu => (show 14 - 7 < 14 - 6; omega)
    (repeat' (first | (refine And.intro ?_ ?_) | exact True.intro | (show _ = _; with_reducible rfl) | exact Chk.mk (by kernel_rfl)))
    all_goals first | rfl | exact v1 | exact v2
  · have p0 : offs 7 = 26 := rfl
    have p1 : offs 8 = 28 := rfl
    obtain ⟨f1, f2⟩ := low_at (b := b) (a := 2 + offs 7) (k := 2) (by omega) (by omega) (by omega) (by omega)
    have v1 : (if lowC 2 (cR b (2 + offs 7)).length = 0 then lowV ((cR b (2 + offs 7)).take (2 : Int).toNat) else 0) = lw b (2 + offs 7) 2 := by rw [if_pos f1, f2]
    have v2 : 2 + offs 7 + (if lowC 2 (cR b (2 + offs 7)).length = 0 then 2 else 0) = 2 + offs 8 := by rw [if_pos f1]; rfl
    (repeat' (first | (refine xI (fun hfk => ?_) (fun hfk => ?_) <;> ((try (first | replace hfk := oT hfk | replace hfk := oF hfk | simp only [oA, oB, dh1, dh0, ne_eq, reduceCtorEq] at hfk)); (try exact oX))) | (refine And.intro ?ob ?_; (case ob => (exact oZ))) | exact True.intro | (show _ = _; first | exact oY | (exact bb; done) | exact rfl) | exact oW | (apply And.intro)))
    refine ⟨8, [some 0, some 1, some 2, some 3], by omega, ?mu, ?_⟩
    case mu => (show 14 - 8 < 14 - 7; omega)
    (repeat' (first | (refine And.intro ?_ ?_) | exact True.intro | (show _ = _; with_reducible rfl) | exact Chk.mk (by kernel_rfl)))
    all_goals first | rfl | exact v1 | exact v2
  · have p0 : offs 8 = 28 := rfl
    have p1 : offs 9 = 32 := rfl
    obtain ⟨f1, f2⟩ := low_at (b := b) (a := 2 + offs 8) (k := 4) (by omega) (by omega) (by omega) (by omega)
    have v1 : (if lowC 4 (cR b (2 + offs 8)).length = 0 then lowV ((cR b (2 + offs 8)).take (4 : Int).toNat) else 0) = lw b (2 + offs 8) 4 := by rw [if_pos f1, f2]
    have v2 : 2 + offs 8 + (if lowC 4 (cR b (2 + offs 8)).length = 0 then 4 else 0) = 2 + offs 9 := by rw [if_pos f1]; rfl
    (repeat' (first | (refine xI (fun hfk => ?_) (fun hfk => ?_) <;> ((try (first | replace hfk := oT hfk | replace hfk := oF hfk | simp only [oA, oB, dh1, dh0, ne_eq, reduceCtorEq] at hfk)); (try exact oX))) | (refine And.intro ?ob ?_; (case ob => (exact oZ))) | exact True.intro | (show _ = _; first | exact oY | (exact bb; done) | exact rfl) | exact oW | (apply And.intro)))
    refine ⟨9, [some 0, some 1, some 2, some 3], by omega, ?mu, ?_⟩
    case mu => (show 14 - 9 < 14 - 8; omega)
    (repeat' (first | (refine And.intro ?_ ?_) | exact True.intro | (show _ = _; with_reducible rfl) | exact Chk.mk (by kernel_rfl)))
    all_goals first | rfl | exact v1 | exact v2
  · have p0 : offs 9 = 32 := rfl
    have p1 : offs 10 = 36 := rfl
    obtain ⟨f1, f2⟩ := low_at (b := b) (a := 2 + offs 9) (k := 4) (by omega) (by omega) (by omega) (by omega)
    have v1 : (if lowC 4 (cR b (2 + offs 9)).length = 0 then lowV ((cR b (2 + offs 9)).take (4 : Int).toNat) else 0) = lw b (2 + offs 9) 4 := by rw [if_pos f1, f2]
    have v2 : 2 + offs 9 + (if lowC 4 (cR b (2 + offs 9)).length = 0 then 4 else 0) = 2 + offs 10 := by rw [if_pos f1]; rfl
    (repeat' (first | (refine xI (fun hfk => ?_) (fun hfk => ?_) <;> ((try (first | replace hfk := oT hfk | replace hfk := oF hfk | simp only [oA, oB, dh1, dh0, ne_eq, reduceCtorEq] at hfk)); (try exact oX))) | (refine And.intro ?ob ?_; (case ob => (exact oZ))) | exact True.intro | (show _ = _; first | exact oY | (exact bb; done) | exact rfl) | exact oW | (apply And.intro)))
    refine ⟨10, [some 0, some 1, some 2, some 3], by omega, ?mu, ?_⟩
    case mu => (show 14 - 10 < 14 - 9; omega)
    (repeat' (first | (refine And.intro ?_ ?_) | exact True.intro | (show _ = _; with_reducible rfl) | exact Chk.mk (by kernel_rfl)))
    all_goals first | rfl | exact v1 | exact v2
  · have p0 : offs 10 = 36 := rfl
    have p1 : offs 11 = 40 := rfl
    obtain ⟨f1, f2⟩ := low_at (b := b) (a := 2 + offs 10) (k := 4) (by omega) (by omega) (by omega) (by omega)
    have v1 : (if lowC 4 (cR b (2 + offs 10)).length = 0 then lowV ((cR b (2 + offs 10)).take (4 : Int).toNat) else 0) = lw b (2 + offs 10) 4 := by rw [if_pos f1, f2]
    have v2 : 2 + offs 10 + (if lowC 4 (cR b (2 + offs 10)).length = 0 then 4 else 0) = 2 + offs 11 := by rw [if_pos f1]; rfl
    (repeat' (first | (refine xI (fun hfk => ?_) (fun hfk => ?_) <;> ((try (first | replace hfk := oT hfk | replace hfk := oF hfk | simp only [oA, oB, dh1, dh0, ne_eq, reduceCtorEq] at hfk)); (try exact oX))) | (refine And.intro ?ob ?_; (case ob => (exact oZ))) | exact True.intro | (show _ = _; first | exact oY | (exact bb; done) | exact rfl) | exact oW | (apply And.intro)))
    refine ⟨11, [some 0, some 1, some 2, some 3], by omega, ?mu, ?_⟩
    case mu => (show 14 - 11 < 14 - 10; omega)
    (repeat' (first | (refine And.intro ?_ ?_) | exact True.intro | (show _ = _; with_reducible rfl) | exact Chk.mk (by kernel_rfl)))
    all_goals first | rfl | exact v1 | exact v2
  · have p0 : offs 11 = 40 := rfl
    have p1 : offs 12 = 44 := rfl
    obtain ⟨f1, f2⟩ := low_at (b := b) (a := 2 + offs 11) (k := 4) (by omega) (by omega) (by omega) (by omega)
    have v1 : (if lowC 4 (cR b (2 + offs 11)).length = 0 then lowV ((cR b (2 + offs 11)).take (4 : Int).toNat) else 0) = lw b (2 + offs 11) 4 := by rw [if_pos f1, f2]
    have v2 : 2 + offs 11 + (if lowC 4 (cR b (2 + offs 11)).length = 0 then 4 else 0) = 2 + offs 12 := by rw [if_pos f1]; rfl
    (repeat' (first | (refine xI (fun hfk => ?_) (fun hfk => ?_) <;> ((try (first | replace hfk := oT hfk | replace hfk := oF hfk | simp only [oA, oB, dh1, dh0, ne_eq, reduceCtorEq] at hfk)); (try exact oX))) | (refine And.intro ?ob ?_; (case ob => (exact oZ))) | exact True.intro | (show _ = _; first | exact oY | (exact bb; done) | exact rfl) | exact oW | (apply And.intro)))
    refine ⟨12, [some 0, some 1, some 2, some 3], by omega, ?mu, ?_⟩
    case mu => (show 14 - 12 < 14 - 11; omega)
    (repeat' (first | (refine And.intro ?_ ?_) | exact True.intro | (show _ = _; with_reducible rfl) | exact Chk.mk (by kernel_rfl)))
    all_goals first | rfl | exact v1 | exact v2
  · have p0 : offs 12 = 44 := rfl
    have p1 : offs 13 = 48 := rfl
    obtain ⟨f1, f2⟩ := low_at (b := b) (a := 2 + offs 12) (k := 4) (by omega) (by omega) (by omega) (by omega)
    have v1 : (if lowC 4 (cR b (2 + offs 12)).length = 0 then lowV ((cR b (2 + offs 12)).take (4 : Int).toNat) else 0) = lw b (2 + offs 12) 4 := by rw [if_pos f1, f2]
    have v2 : 2 + offs 12 + (if lowC 4 (cR b (2 + offs 12)).length = 0 then 4 else 0) = 2 + offs 13 := by rw [if_pos f1]; rfl
    (repeat' (first | (refine xI (fun hfk => ?_) (fun hfk => ?_) <;> ((try (first | replace hfk := oT hfk | replace hfk := oF hfk | simp only [oA, oB, dh1, dh0, ne_eq, reduceCtorEq] at hfk)); (try exact oX))) | (refine And.intro ?ob ?_; (case ob => (exact oZ))) | exact True.intro | (show _ = _; first | exact oY | (exact bb; done) | exact rfl) | exact oW | (apply And.intro)))
    refine ⟨13, [some 0, some 1, some 2, some 3], by omega, ?mu, ?_⟩
    case mu => (show 14 - 13 < 14 - 12; omega)
    (repeat' (first | (refine And.intro ?_ ?_) | exact True.intro | (show _ = _; with_reducible rfl) | exact Chk.mk (by kernel_rfl)))
    all_goals first | rfl | exact v1 | exact v2
  · have p0 : offs 13 = 48 := rfl
    have p1 : offs 14 = 52 := rfl
    obtain ⟨f1, f2⟩ := low_at (b := b) (a := 2 + offs 13) (k := 4) (by omega) (by omega) (by omega) (by omega)
    have v1 : (if lowC 4 (cR b (2 + offs 13)).length = 0 then lowV ((cR b (2 + offs 13)).take (4 : Int).toNat) else 0) = lw b (2 + offs 13) 4 := by rw [if_pos f1, f2]
    have v2 : 2 + offs 13 + (if lowC 4 (cR b (2 + offs 13)).length = 0 then 4 else 0) = 2 + offs 14 := by rw [if_pos f1]; rfl
    (repeat' (first | (refine xI (fun hfk => ?_) (fun hfk => ?_) <;> ((try (first | replace hfk := oT hfk | replace hfk := oF hfk | simp only [oA, oB, dh1, dh0, ne_eq, reduceCtorEq] at hfk)); (try exact oX))) | (refine And.intro ?ob ?_; (case ob => (exact oZ))) | exact True.intro | (show _ = _; first | exact oY | (exact bb; done) | exact rfl) | exact oW | (apply And.intro)))
    refine ⟨14, [some 0, some 1, some 2, some 3], by omega, ?mu, ?_⟩
    case mu => (show 14 - 14 < 14 - 13; omega)
    (repeat' (first | (refine And.intro ?_ ?_) | exact True.intro | (show _ = _; with_reducible rfl) | exact Chk.mk (by kernel_rfl)))
    all_goals first | rfl | exact v1 | exact v2
  · have hx : ∀ F x : Int, F = if tkC b = 0 then F else x := fun F x => by rw [e]; rfl
    have ha : 2 + offs 14 = tkA b := by rw [e2]; rfl
    (repeat' (first | (refine xI (fun hfk => ?_) (fun hfk => ?_) <;> ((try (first | replace hfk := oT hfk | replace hfk := oF hfk | simp only [oA, oB, dh1, dh0, ne_eq, reduceCtorEq] at hfk)); (try exact oX))) | (refine And.intro ?ob ?_; (case ob => (exact oZ))) | exact True.intro | (show _ = _; first | exact oY | (skip; done) | exact rfl) | exact oW | (apply And.intro)))
    refine ⟨[some 0, some 1, some 2], ?_⟩
    (repeat' (first | (refine And.intro ?_ ?_) | exact True.intro | (show _ = _; with_reducible rfl) | exact Chk.mk (by kernel_rfl)))
    all_goals first | rfl | exact hr | exact ha | exact hx _ _
end Go.Proofs.YtocboijpmmlegaaDoor
namespace Go.Proofs.YtocboijpmmlegaaDoor
open Go Go.RowKit
set_option maxHeartbeats 4000000
def byt (x : Int) (t : Nat) : Int := x / 256 ^ t % 256
def byts (x : Int) (n : Nat) : List Int := (List.range n).map (byt x)
theorem byts_len (x : Int) (n : Nat) : (byts x n).length = n := by simp [byts]
theorem byts_succ (x : Int) (n : Nat) : byts x (n + 1) = byts x n ++ [byt x n] := by simp [byts, List.range_succ]
theorem byt_bd (x : Int) (t : Nat) : 0 ≤ byt x t ∧ byt x t ≤ 255 := by unfold byt; omega
theorem byt_sh {x : Int} {t : Nat} (h0 : 0 ≤ x) (h1 : x < 4294967296) (ht : t < 4) :
    IntKind.u8.wrap (x.fdiv (2 ^ min (IntKind.u64.wrap (8 * (t : Int))).toNat IntKind.u32.bits)) = byt x t := by
  have e1 : IntKind.u64.wrap (8 * (t : Int)) = 8 * (t : Int) := w64 (by omega) (by omega)
  have hb : IntKind.u32.bits = 32 := rfl
  rw [e1, hb, show (8 * (t : Int)).toNat = 8 * t by omega, Nat.min_eq_left (by omega), Int.fdiv_eq_ediv_of_nonneg _ (by exact Int.le_of_lt (Int.pow_pos (by decide)))]
  have e2 : IntKind.u8.wrap (x / 2 ^ (8 * t)) = x / 2 ^ (8 * t) % 256 := by simp [IntKind.wrap, IntKind.signed, IntKind.bits]
  rw [e2]; unfold byt
  have : (256 : Int) ^ t = 2 ^ (8 * t) := by rw [Int.pow_mul]; rfl
  rw [this]
structure U32 (x : Int) : Prop where
  lo : 0 ≤ x
  hi : x < 4294967296
abbrev hdOut (x0 x1 x2 x3 x4 x5 x6 x7 x8 x9 x10 x11 x12 x13 : Int) : List Int := ([66, 77] : List Int) ++ byts x0 4 ++ byts x1 4 ++ byts x2 4 ++ byts x3 4 ++ byts x4 4 ++ byts x5 4 ++ byts x6 2 ++ byts x7 2 ++ byts x8 4 ++ byts x9 4 ++ byts x10 4 ++ byts x11 4 ++ byts x12 4 ++ byts x13 4
def putHF : FSpec := fun l es => match l, es with
  | [.ptr 0 0], [.cells 89 [.int .u32 x0, .int .u32 x1, .int .u32 x2, .int .u32 x3, .int .u32 x4, .int .u32 x5, .int .u32 x6, .int .u32 x7, .int .u32 x8, .int .u32 x9, .int .u32 x10, .int .u32 x11, .int .u32 x12, .int .u32 x13]] => some ([U32 x0, U32 x1, U32 x2, U32 x3, U32 x4, U32 x5, U32 x6, U32 x7, U32 x8, U32 x9, U32 x10, U32 x11, U32 x12, U32 x13], .sl 1 1 0 54, [some (hdEn x0 x1 x2 x3 x4 x5 x6 x7 x8 x9 x10 x11 x12 x13), some (bE (hdOut x0 x1 x2 x3 x4 x5 x6 x7 x8 x9 x10 x11 x12 x13))])
  | _, _ => none
def hdPre (x0 x1 x2 x3 x4 x5 x6 x7 x8 x9 x10 x11 x12 x13 : Int) : Nat → List Int
  | 0 => ([66, 77] : List Int)
  | 1 => ([66, 77] : List Int) ++ byts x0 4
  | 2 => ([66, 77] : List Int) ++ byts x0 4 ++ byts x1 4
  | 3 => ([66, 77] : List Int) ++ byts x0 4 ++ byts x1 4 ++ byts x2 4
  | 4 => ([66, 77] : List Int) ++ byts x0 4 ++ byts x1 4 ++ byts x2 4 ++ byts x3 4
  | 5 => ([66, 77] : List Int) ++ byts x0 4 ++ byts x1 4 ++ byts x2 4 ++ byts x3 4 ++ byts x4 4
  | 6 => ([66, 77] : List Int) ++ byts x0 4 ++ byts x1 4 ++ byts x2 4 ++ byts x3 4 ++ byts x4 4 ++ byts x5 4
  | 7 => ([66, 77] : List Int) ++ byts x0 4 ++ byts x1 4 ++ byts x2 4 ++ byts x3 4 ++ byts x4 4 ++ byts x5 4 ++ byts x6 2
  | 8 => ([66, 77] : List Int) ++ byts x0 4 ++ byts x1 4 ++ byts x2 4 ++ byts x3 4 ++ byts x4 4 ++ byts x5 4 ++ byts x6 2 ++ byts x7 2
  | 9 => ([66, 77] : List Int) ++ byts x0 4 ++ byts x1 4 ++ byts x2 4 ++ byts x3 4 ++ byts x4 4 ++ byts x5 4 ++ byts x6 2 ++ byts x7 2 ++ byts x8 4
  | 10 => ([66, 77] : List Int) ++ byts x0 4 ++ byts x1 4 ++ byts x2 4 ++ byts x3 4 ++ byts x4 4 ++ byts x5 4 ++ byts x6 2 ++ byts x7 2 ++ byts x8 4 ++ byts x9 4
  | 11 => ([66, 77] : List Int) ++ byts x0 4 ++ byts x1 4 ++ byts x2 4 ++ byts x3 4 ++ byts x4 4 ++ byts x5 4 ++ byts x6 2 ++ byts x7 2 ++ byts x8 4 ++ byts x9 4 ++ byts x10 4
  | 12 => ([66, 77] : List Int) ++ byts x0 4 ++ byts x1 4 ++ byts x2 4 ++ byts x3 4 ++ byts x4 4 ++ byts x5 4 ++ byts x6 2 ++ byts x7 2 ++ byts x8 4 ++ byts x9 4 ++ byts x10 4 ++ byts x11 4
  | 13 => ([66, 77] : List Int) ++ byts x0 4 ++ byts x1 4 ++ byts x2 4 ++ byts x3 4 ++ byts x4 4 ++ byts x5 4 ++ byts x6 2 ++ byts x7 2 ++ byts x8 4 ++ byts x9 4 ++ byts x10 4 ++ byts x11 4 ++ byts x12 4
  | 14 => ([66, 77] : List Int) ++ byts x0 4 ++ byts x1 4 ++ byts x2 4 ++ byts x3 4 ++ byts x4 4 ++ byts x5 4 ++ byts x6 2 ++ byts x7 2 ++ byts x8 4 ++ byts x9 4 ++ byts x10 4 ++ byts x11 4 ++ byts x12 4 ++ byts x13 4
  | _ => []
def hdLen (i : Nat) : Nat := [2, 6, 10, 14, 18, 22, 26, 28, 30, 34, 38, 42, 46, 50, 54].getD i 0
theorem putH_g : GSOK Tryd.prog 78 (fG putHF) := by
  refine fokE (S := []) (G := glook [(81, fG fieldsF)]) [] [] [] pok_nil (gl_cons fields_g gl_nil) dl_nil ⟨Tryd.func78, by kernel_rfl, by kernel_rfl, by kernel_rfl⟩ fun l es obs v es' h ho => ?_
  (unfold putHF at h; split at h; rotate_left; (focus (cases h)); rename_i x0 x1 x2 x3 x4 x5 x6 x7 x8 x9 x10 x11 x12 x13; simp only [Option.some.injEq, Prod.mk.injEq] at h; obtain ⟨rfl, rfl, rfl⟩ := h; simp only [List.mem_cons, List.not_mem_nil, or_false, forall_eq_or_imp, forall_eq, false_implies, implies_true] at ho)
  obtain ⟨h0, h1, h2, h3, h4, h5, h6, h7, h8, h9, h10, h11, h12, h13⟩ := ho
  refine ⟨Nat.le_of_ble_eq_true rfl, ?_⟩
  (repeat' (first | (refine xI (fun hfk => ?_) (fun hfk => ?_) <;> ((try (first | replace hfk := oT hfk | replace hfk := oF hfk | simp only [oA, oB, dh1, dh0, ne_eq, reduceCtorEq] at hfk)); (try exact oX))) | (refine And.intro ?ob ?_; (case ob => (exact oZ))) | exact True.intro | (show _ = _; first | exact oY | (skip; done) | exact rfl) | exact oW | (apply And.intro)))
  (refine ⟨[0], ⟨by kernel_rfl⟩, ?_⟩)
  (repeat' (first | (refine xI (fun hfk => ?_) (fun hfk => ?_) <;> ((try (first | replace hfk := oT hfk | replace hfk := oF hfk | simp only [oA, oB, dh1, dh0, ne_eq, reduceCtorEq] at hfk)); (try exact oX))) | (refine And.intro ?ob ?_; (case ob => (exact oZ))) | exact True.intro | (show _ = _; first | exact oY | (skip; done) | exact rfl) | exact oW | (apply And.intro)))
  refine ⟨Nat, fun i => [(0, .ptr 0 0), (3, .sl 1 1 0 (hdLen i)), (10, .sl 2 2 0 14), (11, .int .i64 14), (12, .int .i64 (i : Int))],
    fun i => ⟨3, [(0, some (hdEn x0 x1 x2 x3 x4 x5 x6 x7 x8 x9 x10 x11 x12 x13)), (1, some (bE (hdPre x0 x1 x2 x3 x4 x5 x6 x7 x8 x9 x10 x11 x12 x13 i))), (2, some (.cells 108 [.ptr 0 0, .int .i64 4, .ptr 0 1, .int .i64 4, .ptr 0 2, .int .i64 4, .ptr 0 3, .int .i64 4, .ptr 0 4, .int .i64 4, .ptr 0 5, .int .i64 4, .ptr 0 6, .int .i64 2, .ptr 0 7, .int .i64 2, .ptr 0 8, .int .i64 4, .ptr 0 9, .int .i64 4, .ptr 0 10, .int .i64 4, .ptr 0 11, .int .i64 4, .ptr 0 12, .int .i64 4, .ptr 0 13, .int .i64 4]))]⟩,
    fun i => i ≤ 14, fun i => 14 - i, ⟨0, [some 0, some 1, some 2], by omega, ?_⟩, fun i hi => ?_⟩
  · (repeat' (first | (refine And.intro ?_ ?_) | exact True.intro | (show _ = _; with_reducible rfl) | exact Chk.mk (by kernel_rfl)))
    all_goals rfl
  have hi : i ≤ 14 := hi
  have hc : i = 0 ∨ i = 1 ∨ i = 2 ∨ i = 3 ∨ i = 4 ∨ i = 5 ∨ i = 6 ∨ i = 7 ∨ i = 8 ∨ i = 9 ∨ i = 10 ∨ i = 11 ∨ i = 12 ∨ i = 13 ∨ i = 14 := by omega
  rcases hc with q | q | q | q | q | q | q | q | q | q | q | q | q | q | q <;> subst q
  · obtain ⟨u0, u1⟩ := h0
    have hP : (([66, 77] : List Int)).length = 2 := by simp only [List.length_append, byts_len, List.length_cons, List.length_nil]
    obtain ⟨P, hPe⟩ : ∃ P, ([66, 77] : List Int) = P := ⟨_, rfl⟩
    rw [hPe] at hP
    (repeat' (first | (refine xI (fun hfk => ?_) (fun hfk => ?_) <;> ((try (first | replace hfk := oT hfk | replace hfk := oF hfk | simp only [oA, oB, dh1, dh0, ne_eq, reduceCtorEq] at hfk)); (try exact oX))) | (refine And.intro ?ob ?_; (case ob => (exact oZ))) | exact True.intro | (show _ = _; first | exact oY | (skip; done) | exact rfl) | exact oW | (apply And.intro)))
    refine ⟨Nat, fun t => [(0, .ptr 0 0), (3, .sl 1 1 0 (2 + t)), (5, .ptr 3 0), (10, .sl 2 2 0 14), (11, .int .i64 14), (12, .int .i64 ((0 : Nat) : Int)), (17, .int .i64 4), (18, .int .i64 (t : Int))],
      fun t => ⟨4, [(0, some (hdEn x0 x1 x2 x3 x4 x5 x6 x7 x8 x9 x10 x11 x12 x13)), (1, some (bE (P ++ byts x0 t))), (2, some (.cells 108 [.ptr 0 0, .int .i64 4, .ptr 0 1, .int .i64 4, .ptr 0 2, .int .i64 4, .ptr 0 3, .int .i64 4, .ptr 0 4, .int .i64 4, .ptr 0 5, .int .i64 4, .ptr 0 6, .int .i64 2, .ptr 0 7, .int .i64 2, .ptr 0 8, .int .i64 4, .ptr 0 9, .int .i64 4, .ptr 0 10, .int .i64 4, .ptr 0 11, .int .i64 4, .ptr 0 12, .int .i64 4, .ptr 0 13, .int .i64 4])), (3, some (.cells 108 [.ptr 0 0, .int .i64 4]))]⟩,
      fun t => t ≤ 4, fun t => 4 - t, ⟨0, [some 0, some 1, some 2, some 3], by omega, ?_⟩, fun t ht => ?_⟩
    · have e0 : ([66, 77] : List Int) = P ++ byts x0 0 := by rw [hPe]; simp [byts]
      (repeat' (first | (refine And.intro ?_ ?_) | exact True.intro | (show _ = _; with_reducible rfl) | exact Chk.mk (by kernel_rfl)))
      all_goals first | rfl | exact e0
    have ht : t ≤ 4 := ht
    have hl : (P ++ byts x0 t).length = 2 + t := by rw [List.length_append, hP, byts_len]
    have hlb : (byts x0 t).length = t := byts_len _ _
    by_cases htk : t < 4
    · have eb := byt_sh (t := t) u0 u1 (by omega)
      have r8 : rngI .i64 (8 * (t : Int)) := rng64 (by omega) (by omega)
      have rt : rngI .i64 ((t : Int) + 1) := rng64 (by omega) (by omega)
      have w8 : IntKind.u64.wrap (8 * (t : Int)) = 8 * (t : Int) := w64 (by omega) (by omega)
      have s8 : 0 ≤ IntKind.u64.wrap (8 * (t : Int)) := by rw [w8]; omega
      have e1 : List.take 1 (List.drop 0 [IntKind.u8.wrap (x0.fdiv (2 ^ min (IntKind.u64.wrap (8 * (t : Int))).toNat IntKind.u32.bits))]) = [byt x0 t] := by rw [eb]; rfl
      have e2 : P ++ byts x0 t ++ List.take 1 (List.drop 0 [IntKind.u8.wrap (x0.fdiv (2 ^ min (IntKind.u64.wrap (8 * (t : Int))).toNat IntKind.u32.bits))]) = P ++ byts x0 (t + 1) := by rw [e1, byts_succ, List.append_assoc]
      (repeat' (first | (refine xI (fun hfk => ?_) (fun hfk => ?_) <;> ((try (first | replace hfk := oT hfk | replace hfk := oF hfk | simp only [oA, oB, dh1, dh0, ne_eq, reduceCtorEq] at hfk)); (try exact oX))) | (refine And.intro ?ob ?_; (case ob => (exact oZ))) | exact True.intro | (show _ = _; first | exact oY | (skip; done) | exact rfl) | exact oW | (apply And.intro)))
      refine ⟨t + 1, [some 0, some 5, some 2, some 3], htk, ?mu, ?_⟩
      case mu => (show 4 - (t + 1) < 4 - t; omega)
      (repeat' (first | (refine And.intro ?_ ?_) | exact True.intro | (show _ = _; with_reducible rfl) | exact Chk.mk (by kernel_rfl)))
      all_goals first | rfl | exact e2 | (show (_ : Int) = _; omega) | (show (_ : Nat) = _; simp only [List.length_append, List.length_take, List.length_drop, List.length_cons, List.length_nil, byts_len]; omega)
    · obtain rfl : t = 4 := by omega
      (repeat' (first | (refine xI (fun hfk => ?_) (fun hfk => ?_) <;> ((try (first | replace hfk := oT hfk | replace hfk := oF hfk | simp only [oA, oB, dh1, dh0, ne_eq, reduceCtorEq] at hfk)); (try exact oX))) | (refine And.intro ?ob ?_; (case ob => (exact oZ))) | exact True.intro | (show _ = _; first | exact oY | (skip; done) | exact rfl) | exact oW | (apply And.intro)))
      refine ⟨1, [some 0, some 1, some 2], by omega, ?mu, ?_⟩
      case mu => (show 14 - 1 < 14 - 0; omega)
      have e3 : P ++ byts x0 4 = ([66, 77] : List Int) ++ byts x0 4 := by rw [hPe]
      (repeat' (first | (refine And.intro ?_ ?_) | exact True.intro | (show _ = _; with_reducible rfl) | exact Chk.mk (by kernel_rfl)))
      all_goals first | rfl | exact e3
  · obtain ⟨u0, u1⟩ := h1
    have hP : (([66, 77] : List Int) ++ byts x0 4).length = 6 := by simp only [List.length_append, byts_len, List.length_cons, List.length_nil]
    obtain ⟨P, hPe⟩ : ∃ P, ([66, 77] : List Int) ++ byts x0 4 = P := ⟨_, rfl⟩
    rw [hPe] at hP
    (repeat' (first | (refine xI (fun hfk => ?_) (fun hfk => ?_) <;> ((try (first | replace hfk := oT hfk | replace hfk := oF hfk | simp only [oA, oB, dh1, dh0, ne_eq, reduceCtorEq] at hfk)); (try exact oX))) | (refine And.intro ?ob ?_; (case ob => (exact oZ))) | exact True.intro | (show _ = _; first | exact oY | (skip; done) | exact rfl) | exact oW | (apply And.intro)))
    refine ⟨Nat, fun t => [(0, .ptr 0 0), (3, .sl 1 1 0 (6 + t)), (5, .ptr 3 0), (10, .sl 2 2 0 14), (11, .int .i64 14), (12, .int .i64 ((1 : Nat) : Int)), (17, .int .i64 4), (18, .int .i64 (t : Int))],
      fun t => ⟨4, [(0, some (hdEn x0 x1 x2 x3 x4 x5 x6 x7 x8 x9 x10 x11 x12 x13)), (1, some (bE (P ++ byts x1 t))), (2, some (.cells 108 [.ptr 0 0, .int .i64 4, .ptr 0 1, .int .i64 4, .ptr 0 2, .int .i64 4, .ptr 0 3, .int .i64 4, .ptr 0 4, .int .i64 4, .ptr 0 5, .int .i64 4, .ptr 0 6, .int .i64 2, .ptr 0 7, .int .i64 2, .ptr 0 8, .int .i64 4, .ptr 0 9, .int .i64 4, .ptr 0 10, .int .i64 4, .ptr 0 11, .int .i64 4, .ptr 0 12, .int .i64 4, .ptr 0 13, .int .i64 4])), (3, some (.cells 108 [.ptr 0 1, .int .i64 4]))]⟩,
      fun t => t ≤ 4, fun t => 4 - t, ⟨0, [some 0, some 1, some 2, some 3], by omega, ?_⟩, fun t ht => ?_⟩
    · have e0 : ([66, 77] : List Int) ++ byts x0 4 = P ++ byts x1 0 := by rw [hPe]; simp [byts]
      (repeat' (first | (refine And.intro ?_ ?_) | exact True.intro | (show _ = _; with_reducible rfl) | exact Chk.mk (by kernel_rfl)))
      all_goals first | rfl | exact e0
    have ht : t ≤ 4 := ht
    have hl : (P ++ byts x1 t).length = 6 + t := by rw [List.length_append, hP, byts_len]
    have hlb : (byts x1 t).length = t := byts_len _ _
    by_cases htk : t < 4
    · have eb := byt_sh (t := t) u0 u1 (by omega)
      have r8 : rngI .i64 (8 * (t : Int)) := rng64 (by omega) (by omega)
      have rt : rngI .i64 ((t : Int) + 1) := rng64 (by omega) (by omega)
      have w8 : IntKind.u64.wrap (8 * (t : Int)) = 8 * (t : Int) := w64 (by omega) (by omega)
      have s8 : 0 ≤ IntKind.u64.wrap (8 * (t : Int)) := by rw [w8]; omega
      have e1 : List.take 1 (List.drop 0 [IntKind.u8.wrap (x1.fdiv (2 ^ min (IntKind.u64.wrap (8 * (t : Int))).toNat IntKind.u32.bits))]) = [byt x1 t] := by rw [eb]; rfl
      have e2 : P ++ byts x1 t ++ List.take 1 (List.drop 0 [IntKind.u8.wrap (x1.fdiv (2 ^ min (IntKind.u64.wrap (8 * (t : Int))).toNat IntKind.u32.bits))]) = P ++ byts x1 (t + 1) := by rw [e1, byts_succ, List.append_assoc]
      (repeat' (first | (refine xI (fun hfk => ?_) (fun hfk => ?_) <;> ((try (first | replace hfk := oT hfk | replace hfk := oF hfk | simp only [oA, oB, dh1, dh0, ne_eq, reduceCtorEq] at hfk)); (try exact oX))) | (refine And.intro ?ob ?_; (case ob => (exact oZ))) | exact True.intro | (show _ = _; first | exact oY | (skip; done) | exact rfl) | exact oW | (apply And.intro)))
      refine ⟨t + 1, [some 0, some 5, some 2, some 3], htk, ?mu, ?_⟩
      case mu => (show 4 - (t + 1) < 4 - t; omega)
      (repeat' (first | (refine And.intro ?_ ?_) | exact True.intro | (show _ = _; with_reducible rfl) | exact Chk.mk (by kernel_rfl)))
      all_goals first | rfl | exact e2 | (show (_ : Int) = _; omega) | (show (_ : Nat) = _; simp only [List.length_append, List.length_take, List.length_drop, List.length_cons, List.length_nil, byts_len]; omega)
    · obtain rfl : t = 4 := by omega
      (repeat' (first | (refine xI (fun hfk => ?_) (fun hfk => ?_) <;> ((try (first | replace hfk := oT hfk | replace hfk := oF hfk | simp only [oA, oB, dh1, dh0, ne_eq, reduceCtorEq] at hfk)); (try exact oX))) | (refine And.intro ?ob ?_; (case ob => (exact oZ))) | exact True.intro | (show _ = _; first | exact oY | (skip; done) | exact rfl) | exact oW | (apply And.intro)))
      refine ⟨2, [some 0, some 1, some 2], by omega, ?mu, ?_⟩
      case mu => (show 14 - 2 < 14 - 1; omega)
      have e3 : P ++ byts x1 4 = ([66, 77] : List Int) ++ byts x0 4 ++ byts x1 4 := by rw [hPe]
      (repeat' (first | (refine And.intro ?_ ?_) | exact True.intro | (show _ = _; with_reducible rfl) | exact Chk.mk (by kernel_rfl)))
      all_goals first | rfl | exact e3
  · obtain ⟨u0, u1⟩ := h2
    have hP : (([66, 77] : List Int) ++ byts x0 4 ++ byts x1 4).length = 10 := by simp only [List.length_append, byts_len, List.length_cons, List.length_nil]
    obtain ⟨P, hPe⟩ : ∃ P, ([66, 77] : List Int) ++ byts x0 4 ++ byts x1 4 = P := ⟨_, rfl⟩
    rw [hPe] at hP
    (repeat' (first | (refine xI (fun hfk => ?_) (fun hfk => ?_) <;> ((try (first | replace hfk := oT hfk | replace hfk := oF hfk | simp only [oA, oB, dh1, dh0, ne_eq, reduceCtorEq] at hfk)); (try exact oX))) | (refine And.intro ?ob ?_; (case ob => (exact oZ))) | exact True.intro | (show _ = _; first | exact oY | (skip; done) | exact rfl) | exact oW | (apply And.intro)))
    refine ⟨Nat, fun t => [(0, .ptr 0 0), (3, .sl 1 1 0 (10 + t)), (5, .ptr 3 0), (10, .sl 2 2 0 14), (11, .int .i64 14), (12, .int .i64 ((2 : Nat) : Int)), (17, .int .i64 4), (18, .int .i64 (t : Int))],
      fun t => ⟨4, [(0, some (hdEn x0 x1 x2 x3 x4 x5 x6 x7 x8 x9 x10 x11 x12 x13)), (1, some (bE (P ++ byts x2 t))), (2, some (.cells 108 [.ptr 0 0, .int .i64 4, .ptr 0 1, .int .i64 4, .ptr 0 2, .int .i64 4, .ptr 0 3, .int .i64 4, .ptr 0 4, .int .i64 4, .ptr 0 5, .int .i64 4, .ptr 0 6, .int .i64 2, .ptr 0 7, .int .i64 2, .ptr 0 8, .int .i64 4, .ptr 0 9, .int .i64 4, .ptr 0 10, .int .i64 4, .ptr 0 11, .int .i64 4, .ptr 0 12, .int .i64 4, .ptr 0 13, .int .i64 4])), (3, some (.cells 108 [.ptr 0 2, .int .i64 4]))]⟩,
      fun t => t ≤ 4, fun t => 4 - t, ⟨0, [some 0, some 1, some 2, some 3], by omega, ?_⟩, fun t ht => ?_⟩
    · have e0 : ([66, 77] : List Int) ++ byts x0 4 ++ byts x1 4 = P ++ byts x2 0 := by rw [hPe]; simp [byts]
      (repeat' (first | (refine And.intro ?_ ?_) | exact True.intro | (show _ = _; with_reducible rfl) | exact Chk.mk (by kernel_rfl)))
      all_goals first | rfl | exact e0
    have ht : t ≤ 4 := ht
    have hl : (P ++ byts x2 t).length = 10 + t := by rw [List.length_append, hP, byts_len]
    have hlb : (byts x2 t).length = t := byts_len _ _
    by_cases htk : t < 4
    · have eb := byt_sh (t := t) u0 u1 (by omega)
      have r8 : rngI .i64 (8 * (t : Int)) := rng64 (by omega) (by omega)
      have rt : rngI .i64 ((t : Int) + 1) := rng64 (by omega) (by omega)
      have w8 : IntKind.u64.wrap (8 * (t : Int)) = 8 * (t : Int) := w64 (by omega) (by omega)
      have s8 : 0 ≤ IntKind.u64.wrap (8 * (t : Int)) := by rw [w8]; omega
      have e1 : List.take 1 (List.drop 0 [IntKind.u8.wrap (x2.fdiv (2 ^ min (IntKind.u64.wrap (8 * (t : Int))).toNat IntKind.u32.bits))]) = [byt x2 t] := by rw [eb]; rfl
      have e2 : P ++ byts x2 t ++ List.take 1 (List.drop 0 [IntKind.u8.wrap (x2.fdiv (2 ^ min (IntKind.u64.wrap (8 * (t : Int))).toNat IntKind.u32.bits))]) = P ++ byts x2 (t + 1) := by rw [e1, byts_succ, List.append_assoc]
      (repeat' (first | (refine xI (fun hfk => ?_) (fun hfk => ?_) <;> ((try (first | replace hfk := oT hfk | replace hfk := oF hfk | simp only [oA, oB, dh1, dh0, ne_eq, reduceCtorEq] at hfk)); (try exact oX))) | (refine And.intro ?ob ?_; (case ob => (exact oZ))) | exact True.intro | (show _ = _; first | exact oY | (skip; done) | exact rfl) | exact oW | (apply And.intro)))
      refine ⟨t + 1, [some 0, some 5, some 2, some 3], htk, ?mu, ?_⟩
      case mu => (show 4 - (t + 1) < 4 - t; omega)
      (repeat' (first | (refine And.intro ?_ ?_) | exact True.intro | (show _ = _; with_reducible rfl) | exact Chk.mk (by kernel_rfl)))
      all_goals first | rfl | exact e2 | (show (_ : Int) = _; omega) | (show (_ : Nat) = _; simp only [List.length_append, List.length_take, List.length_drop, List.length_cons, List.length_nil, byts_len]; omega)
    · obtain rfl : t = 4 := by omega
      (repeat' (first | (refine xI (fun hfk => ?_) (fun hfk => ?_) <;> ((try (first | replace hfk := oT hfk | replace hfk := oF hfk | simp only [oA, oB, dh1, dh0, ne_eq, reduceCtorEq] at hfk)); (try exact oX))) | (refine And.intro ?ob ?_; (case ob => (exact oZ))) | exact True.intro | (show _ = _; first | exact oY | (skip; done) | exact rfl) | exact oW | (apply And.intro)))
      refine ⟨3, [some 0, some 1, some 2], by omega, ?mu, ?_⟩
      case mu => (show 14 - 3 < 14 - 2; omega)
      have e3 : P ++ byts x2 4 = ([66, 77] : List Int) ++ byts x0 4 ++ byts x1 4 ++ byts x2 4 := by rw [hPe]
      (repeat' (first | (refine And.intro ?_ ?_) | exact True.intro | (show _ = _; with_reducible rfl) | exact Chk.mk (by kernel_rfl)))
      all_goals first | rfl | exact e3
  · obtain ⟨u0, u1⟩ := h3
    have hP : (([66, 77] : List Int) ++ byts x0 4 ++ byts x1 4 ++ byts x2 4).length = 14 := by simp only [List.length_append, byts_len, List.length_cons, List.length_nil]
    obtain ⟨P, hPe⟩ : ∃ P, ([66, 77] : List Int) ++ byts x0 4 ++ byts x1 4 ++ byts x2 4 = P := ⟨_, rfl⟩
    rw [hPe] at hP
    (repeat' (first | (refine xI (fun hfk => ?_) (fun hfk => ?_) <;> ((try (first | replace hfk := oT hfk | replace hfk := oF hfk | simp only [oA, oB, dh1, dh0, ne_eq, reduceCtorEq] at hfk)); (try exact oX))) | (refine And.intro ?ob ?_; (case ob => (exact oZ))) | exact True.intro | (show _ = _; first | exact oY | (skip; done) | exact rfl) | exact oW | (apply And.intro)))
    refine ⟨Nat, fun t => [(0, .ptr 0 0), (3, .sl 1 1 0 (14 + t)), (5, .ptr 3 0), (10, .sl 2 2 0 14), (11, .int .i64 14), (12, .int .i64 ((3 : Nat) : Int)), (17, .int .i64 4), (18, .int .i64 (t : Int))],
      fun t => ⟨4, [(0, some (hdEn x0 x1 x2 x3 x4 x5 x6 x7 x8 x9 x10 x11 x12 x13)), (1, some (bE (P ++ byts x3 t))), (2, some (.cells 108 [.ptr 0 0, .int .i64 4, .ptr 0 1, .int .i64 4, .ptr 0 2, .int .i64 4, .ptr 0 3, .int .i64 4, .ptr 0 4, .int .i64 4, .ptr 0 5, .int .i64 4, .ptr 0 6, .int .i64 2, .ptr 0 7, .int .i64 2, .ptr 0 8, .int .i64 4, .ptr 0 9, .int .i64 4, .ptr 0 10, .int .i64 4, .ptr 0 11, .int .i64 4, .ptr 0 12, .int .i64 4, .ptr 0 13, .int .i64 4])), (3, some (.cells 108 [.ptr 0 3, .int .i64 4]))]⟩,
      fun t => t ≤ 4, fun t => 4 - t, ⟨0, [some 0, some 1, some 2, some 3], by omega, ?_⟩, fun t ht => ?_⟩
    · have e0 : ([66, 77] : List Int) ++ byts x0 4 ++ byts x1 4 ++ byts x2 4 = P ++ byts x3 0 := by rw [hPe]; simp [byts]
      (repeat' (first | (refine And.intro ?_ ?_) | exact True.intro | (show _ = _; with_reducible rfl) | exact Chk.mk (by kernel_rfl)))
      all_goals first | rfl | exact e0
    have ht : t ≤ 4 := ht
    have hl : (P ++ byts x3 t).length = 14 + t := by rw [List.length_append, hP, byts_len]
    have hlb : (byts x3 t).length = t := byts_len _ _
    by_cases htk : t < 4
    · have eb := byt_sh (t := t) u0 u1 (by omega)
      have r8 : rngI .i64 (8 * (t : Int)) := rng64 (by omega) (by omega)
      have rt : rngI .i64 ((t : Int) + 1) := rng64 (by omega) (by omega)
      have w8 : IntKind.u64.wrap (8 * (t : Int)) = 8 * (t : Int) := w64 (by omega) (by omega)
      have s8 : 0 ≤ IntKind.u64.wrap (8 * (t : Int)) := by rw [w8]; omega
      have e1 : List.take 1 (List.drop 0 [IntKind.u8.wrap (x3.fdiv (2 ^ min (IntKind.u64.wrap (8 * (t : Int))).toNat IntKind.u32.bits))]) = [byt x3 t] := by rw [eb]; rfl
      have e2 : P ++ byts x3 t ++ List.take 1 (List.drop 0 [IntKind.u8.wrap (x3.fdiv (2 ^ min (IntKind.u64.wrap (8 * (t : Int))).toNat IntKind.u32.bits))]) = P ++ byts x3 (t + 1) := by rw [e1, byts_succ, List.append_assoc]
      (repeat' (first | (refine xI (fun hfk => ?_) (fun hfk => ?_) <;> ((try (first | replace hfk := oT hfk | replace hfk := oF hfk | simp only [oA, oB, dh1, dh0, ne_eq, reduceCtorEq] at hfk)); (try exact oX))) | (refine And.intro ?ob ?_; (case ob => (exact oZ))) | exact True.intro | (show _ = _; first | exact oY | (skip; done) | exact rfl) | exact oW | (apply And.intro)))
      refine ⟨t + 1, [some 0, some 5, some 2, some 3], htk, ?mu, ?_⟩
      case mu => (show 4 - (t + 1) < 4 - t; omega)
      (repeat' (first | (refine And.intro ?_ ?_) | exact True.intro | (show _ = _; with_reducible rfl) | exact Chk.mk (by kernel_rfl)))
      all_goals first | rfl | exact e2 | (show (_ : Int) = _; omega) | (show (_ : Nat) = _; simp only [List.length_append, List.length_take, List.length_drop, List.length_cons, List.length_nil, byts_len]; omega)
    · obtain rfl : t = 4 := by omega
      (repeat' (first | (refine xI (fun hfk => ?_) (fun hfk => ?_) <;> ((try (first | replace hfk := oT hfk | replace hfk := oF hfk | simp only [oA, oB, dh1, dh0, ne_eq, reduceCtorEq] at hfk)); (try exact oX))) | (refine And.intro ?ob ?_; (case ob => (exact oZ))) | exact True.intro | (show _ = _; first | exact oY | (skip; done) | exact rfl) | exact oW | (apply And.intro)))
      refine ⟨4, [some 0, some 1, some 2], by omega, ?mu, ?_⟩
      case mu => (show 14 - 4 < 14 - 3; omega)
      have e3 : P ++ byts x3 4 = ([66, 77] : List Int) ++ byts x0 4 ++ byts x1 4 ++ byts x2 4 ++ byts x3 4 := by rw [hPe]
      (repeat' (first | (refine And.intro ?_ ?_) | exact True.intro | (show _ = _; with_reducible rfl) | exact Chk.mk (by kernel_rfl)))
      all_goals first | rfl | exact e3
  · obtain ⟨u0, u1⟩ := h4
    have hP : (([66, 77] : List Int) ++ byts x0 4 ++ byts x1 4 ++ byts x2 4 ++ byts x3 4).length = 18 := by simp only [List.length_append, byts_len, List.length_cons, List.length_nil]
    obtain ⟨P, hPe⟩ : ∃ P, ([66, 77] : List Int) ++ byts x0 4 ++ byts x1 4 ++ byts x2 4 ++ byts x3 4 = P := ⟨_, rfl⟩
    rw [hPe] at hP
    (repeat' (first | (refine xI (fun hfk => ?_) (fun hfk => ?_) <;> ((try (first | replace hfk := oT hfk | replace hfk := oF hfk | simp only [oA, oB, dh1, dh0, ne_eq, reduceCtorEq] at hfk)); (try exact oX))) | (refine And.intro ?ob ?_; (case ob => (exact oZ))) | exact True.intro | (show _ = _; first | exact oY | (skip; done) | exact rfl) | exact oW | (apply And.intro)))
    refine ⟨Nat, fun t => [(0, .ptr 0 0), (3, .sl 1 1 0 (18 + t)), (5, .ptr 3 0), (10, .sl 2 2 0 14), (11, .int .i64 14), (12, .int .i64 ((4 : Nat) : Int)), (17, .int .i64 4), (18, .int .i64 (t : Int))],
      fun t => ⟨4, [(0, some (hdEn x0 x1 x2 x3 x4 x5 x6 x7 x8 x9 x10 x11 x12 x13)), (1, some (bE (P ++ byts x4 t))), (2, some (.cells 108 [.ptr 0 0, .int .i64 4, .ptr 0 1, .int .i64 4, .ptr 0 2, .int .i64 4, .ptr 0 3, .int .i64 4, .ptr 0 4, .int .i64 4, .ptr 0 5, .int .i64 4, .ptr 0 6, .int .i64 2, .ptr 0 7, .int .i64 2, .ptr 0 8, .int .i64 4, .ptr 0 9, .int .i64 4, .ptr 0 10, .int .i64 4, .ptr 0 11, .int .i64 4, .ptr 0 12, .int .i64 4, .ptr 0 13, .int .i64 4])), (3, some (.cells 108 [.ptr 0 4, .int .i64 4]))]⟩,
      fun t => t ≤ 4, fun t => 4 - t, ⟨0, [some 0, some 1, some 2, some 3], by omega, ?_⟩, fun t ht => ?_⟩
    · have e0 : ([66, 77] : List Int) ++ byts x0 4 ++ byts x1 4 ++ byts x2 4 ++ byts x3 4 = P ++ byts x4 0 := by rw [hPe]; simp [byts]
      (repeat' (first | (refine And.intro ?_ ?_) | exact True.intro | (show _ = _; with_reducible rfl) | exact Chk.mk (by kernel_rfl)))
      all_goals first | rfl | exact e0
    have ht : t ≤ 4 := ht
    have hl : (P ++ byts x4 t).length = 18 + t := by rw [List.length_append, hP, byts_len]
    have hlb : (byts x4 t).length = t := byts_len _ _
    by_cases htk : t < 4
    · have eb := byt_sh (t := t) u0 u1 (by omega)
      have r8 : rngI .i64 (8 * (t : Int)) := rng64 (by omega) (by omega)
      have rt : rngI .i64 ((t : Int) + 1) := rng64 (by omega) (by omega)
      have w8 : IntKind.u64.wrap (8 * (t : Int)) = 8 * (t : Int) := w64 (by omega) (by omega)
      have s8 : 0 ≤ IntKind.u64.wrap (8 * (t : Int)) := by rw [w8]; omega
      have e1 : List.take 1 (List.drop 0 [IntKind.u8.wrap (x4.fdiv (2 ^ min (IntKind.u64.wrap (8 * (t : Int))).toNat IntKind.u32.bits))]) = [byt x4 t] := by rw [eb]; rfl
      have e2 : P ++ byts x4 t ++ List.take 1 (List.drop 0 [IntKind.u8.wrap (x4.fdiv (2 ^ min (IntKind.u64.wrap (8 * (t : Int))).toNat IntKind.u32.bits))]) = P ++ byts x4 (t + 1) := by rw [e1, byts_succ, List.append_assoc]
      (repeat' (first | (refine xI (fun hfk => ?_) (fun hfk => ?_) <;> ((try (first | replace hfk := oT hfk | replace hfk := oF hfk | simp only [oA, oB, dh1, dh0, ne_eq, reduceCtorEq] at hfk)); (try exact oX))) | (refine And.intro ?ob ?_; (case ob => (exact oZ))) | exact True.intro | (show _ = _; first | exact oY | (skip; done) | exact rfl) | exact oW | (apply And.intro)))
      refine ⟨t + 1, [some 0, some 5, some 2, some 3], htk, ?mu, ?_⟩
      case mu => (show 4 - (t + 1) < 4 - t; omega)
      (repeat' (first | (refine And.intro ?_ ?_) | exact True.intro | (show _ = _; with_reducible rfl) | exact Chk.mk (by kernel_rfl)))
      all_goals first | rfl | exact e2 | (show (_ : Int) = _; omega) | (show (_ : Nat) = _; simp only [List.length_append, List.length_take, List.length_drop, List.length_cons, List.length_nil, byts_len]; omega)
    · obtain rfl : t = 4 := by omega
      (repeat' (first | (refine xI (fun hfk => ?_) (fun hfk => ?_) <;> ((try (first | replace hfk := oT hfk | replace hfk := oF hfk | simp only [oA, oB, dh1, dh0, ne_eq, reduceCtorEq] at hfk)); (try exact oX))) | (refine And.intro ?ob ?_; (case ob => (exact oZ))) | exact True.intro | (show _ = _; first | exact oY | (skip; done) | exact rfl) | exact oW | (apply And.intro)))
      refine ⟨5, [some 0, some 1, some 2], by omega, ?mu, ?_⟩
      case mu => (show 14 - 5 < 14 - 4; omega)
      have e3 : P ++ byts x4 4 = ([66, 77] : List Int) ++ byts x0 4 ++ byts x1 4 ++ byts x2 4 ++ byts x3 4 ++ byts x4 4 := by rw [hPe]
      (repeat' (first | (refine And.intro ?_ ?_) | exact True.intro | (show _ = _; with_reducible rfl) | exact Chk.mk (by kernel_rfl)))
      all_goals first | rfl | exact e3
  · obtain ⟨u0, u1⟩ := h5
    have hP : (([66, 77] : List Int) ++ byts x0 4 ++ byts x1 4 ++ byts x2 4 ++ byts x3 4 ++ byts x4 4).length = 22 := by simp only [List.length_append, byts_len, List.length_cons, List.length_nil]
    obtain ⟨P, hPe⟩ : ∃ P, ([66, 77] : List Int) ++ byts x0 4 ++ byts x1 4 ++ byts x2 4 ++ byts x3 4 ++ byts x4 4 = P := ⟨_, rfl⟩
    rw [hPe] at hP
    (repeat' (first | (refine xI (fun hfk => ?_) (fun hfk => ?_) <;> ((try (first | replace hfk := oT hfk | replace hfk := oF hfk | simp only [oA, oB, dh1, dh0, ne_eq, reduceCtorEq] at hfk)); (try exact oX))) | (refine And.intro ?ob ?_; (case ob => (exact oZ))) | exact True.intro | (show _ = _; first | exact oY | (skip; done) | exact rfl) | exact oW | (apply And.intro)))
    refine ⟨Nat, fun t => [(0, .ptr 0 0), (3, .sl 1 1 0 (22 + t)), (5, .ptr 3 0), (10, .sl 2 2 0 14), (11, .int .i64 14), (12, .int .i64 ((5 : Nat) : Int)), (17, .int .i64 4), (18, .int .i64 (t : Int))],
      fun t => ⟨4, [(0, some (hdEn x0 x1 x2 x3 x4 x5 x6 x7 x8 x9 x10 x11 x12 x13)), (1, some (bE (P ++ byts x5 t))), (2, some (.cells 108 [.ptr 0 0, .int .i64 4, .ptr 0 1, .int .i64 4, .ptr 0 2, .int .i64 4, .ptr 0 3, .int .i64 4, .ptr 0 4, .int .i64 4, .ptr 0 5, .int .i64 4, .ptr 0 6, .int .i64 2, .ptr 0 7, .int .i64 2, .ptr 0 8, .int .i64 4, .ptr 0 9, .int .i64 4, .ptr 0 10, .int .i64 4, .ptr 0 11, .int .i64 4, .ptr 0 12, .int .i64 4, .ptr 0 13, .int .i64 4])), (3, some (.cells 108 [.ptr 0 5, .int .i64 4]))]⟩,
      fun t => t ≤ 4, fun t => 4 - t, ⟨0, [some 0, some 1, some 2, some 3], by omega, ?_⟩, fun t ht => ?_⟩
    · have e0 : ([66, 77] : List Int) ++ byts x0 4 ++ byts x1 4 ++ byts x2 4 ++ byts x3 4 ++ byts x4 4 = P ++ byts x5 0 := by rw [hPe]; simp [byts]
      (repeat' (first | (refine And.intro ?_ ?_) | exact True.intro | (show _ = _; with_reducible rfl) | exact Chk.mk (by kernel_rfl)))
      all_goals first | rfl | exact e0
    have ht : t ≤ 4 := ht
    have hl : (P ++ byts x5 t).length = 22 + t := by rw [List.length_append, hP, byts_len]
    have hlb : (byts x5 t).length = t := byts_len _ _
    by_cases htk : t < 4
    · have eb := byt_sh (t := t) u0 u1 (by omega)
      have r8 : rngI .i64 (8 * (t : Int)) := rng64 (by omega) (by omega)
      have rt : rngI .i64 ((t : Int) + 1) := rng64 (by omega) (by omega)
      have w8 : IntKind.u64.wrap (8 * (t : Int)) = 8 * (t : Int) := w64 (by omega) (by omega)
      have s8 : 0 ≤ IntKind.u64.wrap (8 * (t : Int)) := by rw [w8]; omega
      have e1 : List.take 1 (List.drop 0 [IntKind.u8.wrap (x5.fdiv (2 ^ min (IntKind.u64.wrap (8 * (t : Int))).toNat IntKind.u32.bits))]) = [byt x5 t] := by rw [eb]; rfl
      have e2 : P ++ byts x5 t ++ List.take 1 (List.drop 0 [IntKind.u8.wrap (x5.fdiv (2 ^ min (IntKind.u64.wrap (8 * (t : Int))).toNat IntKind.u32.bits))]) = P ++ byts x5 (t + 1) := by rw [e1, byts_succ, List.append_assoc]
      (repeat' (first | (refine xI (fun hfk => ?_) (fun hfk => ?_) <;> ((try (first | replace hfk := oT hfk | replace hfk := oF hfk | simp only [oA, oB, dh1, dh0, ne_eq, reduceCtorEq] at hfk)); (try exact oX))) | (refine And.intro ?ob ?_; (case ob => (exact oZ))) | exact True.intro | (show _ = _; first | exact oY | (skip; done) | exact rfl) | exact oW | (apply And.intro)))
      refine ⟨t + 1, [some 0, some 5, some 2, some 3], htk, ?mu, ?_⟩
      case mu => (show 4 - (t + 1) < 4 - t; omega)
      (repeat' (first | (refine And.intro ?_ ?_) | exact True.intro | (show _ = _; with_reducible rfl) | exact Chk.mk (by kernel_rfl)))
      all_goals first | rfl | exact e2 | (show (_ : Int) = _; omega) | (show (_ : Nat) = _; simp only [List.length_append, List.length_take, List.length_drop, List.length_cons, List.length_nil, byts_len]; omega)
    · obtain rfl : t = 4 := by omega
      (repeat' (first | (refine xI (fun hfk => ?_) (fun hfk => ?_) <;> ((try (first | replace hfk := oT hfk | replace hfk := oF hfk | simp only [oA, oB, dh1, dh0, ne_eq, reduceCtorEq] at hfk)); (try exact oX))) | (refine And.intro ?ob ?_; (case ob => (exact oZ))) | exact True.intro | (show _ = _; first | exact oY | (skip; done) | exact rfl) | exact oW | (apply And.intro)))
      refine ⟨6, [some 0, some 1, some 2], by omega, ?mu, ?_⟩
      case mu => (show 14 - 6 < 14 - 5; omega)
      have e3 : P ++ byts x5 4 = ([66, 77] : List Int) ++ byts x0 4 ++ byts x1 4 ++ byts x2 4 ++ byts x3 4 ++ byts x4 4 ++ byts x5 4 := by rw [hPe]
      (repeat' (first | (refine And.intro ?_ ?_) | exact True.intro | (show _ = _; with_reducible rfl) | exact Chk.mk (by kernel_rfl)))
      all_goals first | rfl | exact e3
  · obtain ⟨u0, u1⟩ := h6
    have hP : (([66, 77] : List Int) ++ byts x0 4 ++ byts x1 4 ++ byts x2 4 ++ byts x3 4 ++ byts x4 4 ++ byts x5 4).length = 26 := by simp only [List.length_append, byts_len, List.length_cons, List.length_nil]
    obtain ⟨P, hPe⟩ : ∃ P, ([66, 77] : List Int) ++ byts x0 4 ++ byts x1 4 ++ byts x2 4 ++ byts x3 4 ++ byts x4 4 ++ byts x5 4 = P := ⟨_, rfl⟩
    rw [hPe] at hP
    (repeat' (first | (refine xI (fun hfk => ?_) (fun hfk => ?_) <;> ((try (first | replace hfk := oT hfk | replace hfk := oF hfk | simp only [oA, oB, dh1, dh0, ne_eq, reduceCtorEq] at hfk)); (try exact oX))) | (refine And.intro ?ob ?_; (case ob => (exact oZ))) | exact True.intro | (show _ = _; first | exact oY | (skip; done) | exact rfl) | exact oW | (apply And.intro)))
    refine ⟨Nat, fun t => [(0, .ptr 0 0), (3, .sl 1 1 0 (26 + t)), (5, .ptr 3 0), (10, .sl 2 2 0 14), (11, .int .i64 14), (12, .int .i64 ((6 : Nat) : Int)), (17, .int .i64 2), (18, .int .i64 (t : Int))],
      fun t => ⟨4, [(0, some (hdEn x0 x1 x2 x3 x4 x5 x6 x7 x8 x9 x10 x11 x12 x13)), (1, some (bE (P ++ byts x6 t))), (2, some (.cells 108 [.ptr 0 0, .int .i64 4, .ptr 0 1, .int .i64 4, .ptr 0 2, .int .i64 4, .ptr 0 3, .int .i64 4, .ptr 0 4, .int .i64 4, .ptr 0 5, .int .i64 4, .ptr 0 6, .int .i64 2, .ptr 0 7, .int .i64 2, .ptr 0 8, .int .i64 4, .ptr 0 9, .int .i64 4, .ptr 0 10, .int .i64 4, .ptr 0 11, .int .i64 4, .ptr 0 12, .int .i64 4, .ptr 0 13, .int .i64 4])), (3, some (.cells 108 [.ptr 0 6, .int .i64 2]))]⟩,
      fun t => t ≤ 2, fun t => 2 - t, ⟨0, [some 0, some 1, some 2, some 3], by omega, ?_⟩, fun t ht => ?_⟩
    · have e0 : ([66, 77] : List Int) ++ byts x0 4 ++ byts x1 4 ++ byts x2 4 ++ byts x3 4 ++ byts x4 4 ++ byts x5 4 = P ++ byts x6 0 := by rw [hPe]; simp [byts]
      (repeat' (first | (refine And.intro ?_ ?_) | exact True.intro | (show _ = _; with_reducible rfl) | exact Chk.mk (by kernel_rfl)))
      all_goals first | rfl | exact e0
    have ht : t ≤ 2 := ht
    have hl : (P ++ byts x6 t).length = 26 + t := by rw [List.length_append, hP, byts_len]
    have hlb : (byts x6 t).length = t := byts_len _ _
    by_cases htk : t < 2
    · have eb := byt_sh (t := t) u0 u1 (by omega)
      have r8 : rngI .i64 (8 * (t : Int)) := rng64 (by omega) (by omega)
      have rt : rngI .i64 ((t : Int) + 1) := rng64 (by omega) (by omega)
      have w8 : IntKind.u64.wrap (8 * (t : Int)) = 8 * (t : Int) := w64 (by omega) (by omega)
      have s8 : 0 ≤ IntKind.u64.wrap (8 * (t : Int)) := by rw [w8]; omega
      have e1 : List.take 1 (List.drop 0 [IntKind.u8.wrap (x6.fdiv (2 ^ min (IntKind.u64.wrap (8 * (t : Int))).toNat IntKind.u32.bits))]) = [byt x6 t] := by rw [eb]; rfl
      have e2 : P ++ byts x6 t ++ List.take 1 (List.drop 0 [IntKind.u8.wrap (x6.fdiv (2 ^ min (IntKind.u64.wrap (8 * (t : Int))).toNat IntKind.u32.bits))]) = P ++ byts x6 (t + 1) := by rw [e1, byts_succ, List.append_assoc]
      (repeat' (first | (refine xI (fun hfk => ?_) (fun hfk => ?_) <;> ((try (first | replace hfk := oT hfk | replace hfk := oF hfk | simp only [oA, oB, dh1, dh0, ne_eq, reduceCtorEq] at hfk)); (try exact oX))) | (refine And.intro ?ob ?_; (case ob => (exact oZ))) | exact True.intro | (show _ = _; first | exact oY | (skip; done) | exact rfl) | exact oW | (apply And.intro)))
      refine ⟨t + 1, [some 0, some 5, some 2, some 3], htk, ?mu, ?_⟩
      case mu => (show 2 - (t + 1) < 2 - t; omega)
      (repeat' (first | (refine And.intro ?_ ?_) | exact True.intro | (show _ = _; with_reducible rfl) | exact Chk.mk (by kernel_rfl)))
      all_goals first | rfl | exact e2 | (show (_ : Int) = _; omega) | (show (_ : Nat) = _; simp only [List.length_append, List.length_take, List.length_drop, List.length_cons, List.length_nil, byts_len]; omega)
    · obtain rfl : t = 2 := by omega
      (repeat' (first | (refine xI (fun hfk => ?_) (fun hfk => ?_) <;> ((try (first | replace hfk := oT hfk | replace hfk := oF hfk | simp only [oA, oB, dh1, dh0, ne_eq, reduceCtorEq] at hfk)); (try exact oX))) | (refine And.intro ?ob ?_; (case ob => (exact oZ))) | exact True.intro | (show _ = _; first | exact oY | (skip; done) | exact rfl) | exact oW | (apply And.intro)))
      refine ⟨7, [some 0, some 1, some 2], by omega, ?mu, ?_⟩
      case mu => (show 14 - 7 < 14 - 6; omega)
      have e3 : P ++ byts x6 2 = ([66, 77] : List Int) ++ byts x0 4 ++ byts x1 4 ++ byts x2 4 ++ byts x3 4 ++ byts x4 4 ++ byts x5 4 ++ byts x6 2 := by rw [hPe]
      (repeat' (first | (refine And.intro ?_ ?_) | exact True.intro | (show _ = _; with_reducible rfl) | exact Chk.mk (by kernel_rfl)))
      all_goals first | rfl | exact e3
  · obtain ⟨u0, u1⟩ := h7
    have hP : (([66, 77] : List Int) ++ byts x0 4 ++ byts x1 4 ++ byts x2 4 ++ byts x3 4 ++ byts x4 4 ++ byts x5 4 ++ byts x6 2).length = 28 := by simp only [List.length_append, byts_len, List.length_cons, List.length_nil]
    obtain ⟨P, hPe⟩ : ∃ P, ([66, 77] : List Int) ++ byts x0 4 ++ byts x1 4 ++ byts x2 4 ++ byts x3 4 ++ byts x4 4 ++ byts x5 4 ++ byts x6 2 = P := ⟨_, rfl⟩
    rw [hPe] at hP
    (repeat' (first | (refine xI (fun hfk => ?_) (fun hfk => ?_) <;> ((try (first | replace hfk := oT hfk | replace hfk := oF hfk | simp only [oA, oB, dh1, dh0, ne_eq, reduceCtorEq] at hfk)); (try exact oX))) | (refine And.intro ?ob ?_; (case ob => (exact oZ))) | exact True.intro | (show _ = _; first | exact oY | (skip; done) | exact rfl) | exact oW | (apply And.intro)))
    refine ⟨Nat, fun t => [(0, .ptr 0 0), (3, .sl 1 1 0 (28 + t)), (5, .ptr 3 0), (10, .sl 2 2 0 14), (11, .int .i64 14), (12, .int .i64 ((7 : Nat) : Int)), (17, .int .i64 2), (18, .int .i64 (t : Int))],
      fun t => ⟨4, [(0, some (hdEn x0 x1 x2 x3 x4 x5 x6 x7 x8 x9 x10 x11 x12 x13)), (1, some (bE (P ++ byts x7 t))), (2, some (.cells 108 [.ptr 0 0, .int .i64 4, .ptr 0 1, .int .i64 4, .ptr 0 2, .int .i64 4, .ptr 0 3, .int .i64 4, .ptr 0 4, .int .i64 4, .ptr 0 5, .int .i64 4, .ptr 0 6, .int .i64 2, .ptr 0 7, .int .i64 2, .ptr 0 8, .int .i64 4, .ptr 0 9, .int .i64 4, .ptr 0 10, .int .i64 4, .ptr 0 11, .int .i64 4, .ptr 0 12, .int .i64 4, .ptr 0 13, .int .i64 4])), (3, some (.cells 108 [.ptr 0 7, .int .i64 2]))]⟩,
      fun t => t ≤ 2, fun t => 2 - t, ⟨0, [some 0, some 1, some 2, some 3], by omega, ?_⟩, fun t ht => ?_⟩
    · have e0 : ([66, 77] : List Int) ++ byts x0 4 ++ byts x1 4 ++ byts x2 4 ++ byts x3 4 ++ byts x4 4 ++ byts x5 4 ++ byts x6 2 = P ++ byts x7 0 := by rw [hPe]; simp [byts]
      (repeat' (first | (refine And.intro ?_ ?_) | exact True.intro | (show _ = _; with_reducible rfl) | exact Chk.mk (by kernel_rfl)))
      all_goals first | rfl | exact e0
    have ht : t ≤ 2 := ht
    have hl : (P ++ byts x7 t).length = 28 + t := by rw [List.length_append, hP, byts_len]
    have hlb : (byts x7 t).length = t := byts_len _ _
    by_cases htk : t < 2
    · have eb := byt_sh (t := t) u0 u1 (by omega)
      have r8 : rngI .i64 (8 * (t : Int)) := rng64 (by omega) (by omega)
      have rt : rngI .i64 ((t : Int) + 1) := rng64 (by omega) (by omega)
      have w8 : IntKind.u64.wrap (8 * (t : Int)) = 8 * (t : Int) := w64 (by omega) (by omega)
      have s8 : 0 ≤ IntKind.u64.wrap (8 * (t : Int)) := by rw [w8]; omega
      have e1 : List.take 1 (List.drop 0 [IntKind.u8.wrap (x7.fdiv (2 ^ min (IntKind.u64.wrap (8 * (t : Int))).toNat IntKind.u32.bits))]) = [byt x7 t] := by rw [eb]; rfl
      have e2 : P ++ byts x7 t ++ List.take 1 (List.drop 0 [IntKind.u8.wrap (x7.fdiv (2 ^ min (IntKind.u64.wrap (8 * (t : Int))).toNat IntKind.u32.bits))]) = P ++ byts x7 (t + 1) := by rw [e1, byts_succ, List.append_assoc]
      (repeat' (first | (refine xI (fun hfk => ?_) (fun hfk => ?_) <;> ((try (first | replace hfk := oT hfk | replace hfk := oF hfk | simp only [oA, oB, dh1, dh0, ne_eq, reduceCtorEq] at hfk)); (try exact oX))) | (refine And.intro ?ob ?_; (case ob => (exact oZ))) | exact True.intro | (show _ = _; first | exact oY | (skip; done) | exact rfl) | exact oW | (apply And.intro)))
      refine ⟨t + 1, [some 0, some 5, some 2, some 3], htk, ?mu, ?_⟩
      case mu => (show 2 - (t + 1) < 2 - t; omega)
      (repeat' (first | (refine And.intro ?_ ?_) | exact True.intro | (show _ = _; with_reducible rfl) | exact Chk.mk (by kernel_rfl)))
      all_goals first | rfl | exact e2 | (show (_ : Int) = _; omega) | (show (_ : Nat) = _; simp only [List.length_append, List.length_take, List.length_drop, List.length_cons, List.length_nil, byts_len]; omega)
    · obtain rfl : t = 2 := by omega
      (repeat' (first | (refine xI (fun hfk => ?_) (fun hfk => ?_) <;> ((try (first | replace hfk := oT hfk | replace hfk := oF hfk | simp only [oA, oB, dh1, dh0, ne_eq, reduceCtorEq] at hfk)); (try exact oX))) | (refine And.intro ?ob ?_; (case ob => (exact oZ))) | exact True.intro | (show _ = _; first | exact oY | (skip; done) | exact rfl) | exact oW | (apply And.intro)))
      refine ⟨8, [some 0, some 1, some 2], by omega, ?mu, ?_⟩
      case mu => (show 14 - 8 < 14 - 7; omega)
      have e3 : P ++ byts x7 2 = ([66, 77] : List Int) ++ byts x0 4 ++ byts x1 4 ++ byts x2 4 ++ byts x3 4 ++ byts x4 4 ++ byts x5 4 ++ byts x6 2 ++ byts x7 2 := by rw [hPe]
      (repeat' (first | (refine And.intro ?_ ?_) | exact True.intro | (show _ = _; with_reducible rfl) | exact Chk.mk (by kernel_rfl)))
      all_goals first | rfl | exact e3
  · obtain ⟨u0, u1⟩ := h8
    have hP : (([66, 77] : List Int) ++ byts x0 4 ++ byts x1 4 ++ byts x2 4 ++ byts x3 4 ++ byts x4 4 ++ byts x5 4 ++ byts x6 2 ++ byts x7 2).length = 30 := by simp only [List.length_append, byts_len, List.length_cons, List.length_nil]
    obtain ⟨P, hPe⟩ : ∃ P, ([66, 77] : List Int) ++ byts x0 4 ++ byts x1 4 ++ byts x2 4 ++ byts x3 4 ++ byts x4 4 ++ byts x5 4 ++ byts x6 2 ++ byts x7 2 = P := ⟨_, rfl⟩
    rw [hPe] at hP
    (repeat' (first | (refine xI (fun hfk => ?_) (fun hfk => ?_) <;> ((try (first | replace hfk := oT hfk | replace hfk := oF hfk | simp only [oA, oB, dh1, dh0, ne_eq, reduceCtorEq] at hfk)); (try exact oX))) | (refine And.intro ?ob ?_; (case ob => (exact oZ))) | exact True.intro | (show _ = _; first | exact oY | (skip; done) | exact rfl) | exact oW | (apply And.intro)))
    refine ⟨Nat, fun t => [(0, .ptr 0 0), (3, .sl 1 1 0 (30 + t)), (5, .ptr 3 0), (10, .sl 2 2 0 14), (11, .int .i64 14), (12, .int .i64 ((8 : Nat) : Int)), (17, .int .i64 4), (18, .int .i64 (t : Int))],
      fun t => ⟨4, [(0, some (hdEn x0 x1 x2 x3 x4 x5 x6 x7 x8 x9 x10 x11 x12 x13)), (1, some (bE (P ++ byts x8 t))), (2, some (.cells 108 [.ptr 0 0, .int .i64 4, .ptr 0 1, .int .i64 4, .ptr 0 2, .int .i64 4, .ptr 0 3, .int .i64 4, .ptr 0 4, .int .i64 4, .ptr 0 5, .int .i64 4, .ptr 0 6, .int .i64 2, .ptr 0 7, .int .i64 2, .ptr 0 8, .int .i64 4, .ptr 0 9, .int .i64 4, .ptr 0 10, .int .i64 4, .ptr 0 11, .int .i64 4, .ptr 0 12, .int .i64 4, .ptr 0 13, .int .i64 4])), (3, some (.cells 108 [.ptr 0 8, .int .i64 4]))]⟩,
      fun t => t ≤ 4, fun t => 4 - t, ⟨0, [some 0, some 1, some 2, some 3], by omega, ?_⟩, fun t ht => ?_⟩
    · have e0 : ([66, 77] : List Int) ++ byts x0 4 ++ byts x1 4 ++ byts x2 4 ++ byts x3 4 ++ byts x4 4 ++ byts x5 4 ++ byts x6 2 ++ byts x7 2 = P ++ byts x8 0 := by rw [hPe]; simp [byts]
      (repeat' (first | (refine And.intro ?_ ?_) | exact True.intro | (show _ = _; with_reducible rfl) | exact Chk.mk (by kernel_rfl)))
      all_goals first | rfl | exact e0
    have ht : t ≤ 4 := ht
    have hl : (P ++ byts x8 t).length = 30 + t := by rw [List.length_append, hP, byts_len]
    have hlb : (byts x8 t).length = t := byts_len _ _
    by_cases htk : t < 4
    · have eb := byt_sh (t := t) u0 u1 (by omega)
      have r8 : rngI .i64 (8 * (t : Int)) := rng64 (by omega) (by omega)
      have rt : rngI .i64 ((t : Int) + 1) := rng64 (by omega) (by omega)
      have w8 : IntKind.u64.wrap (8 * (t : Int)) = 8 * (t : Int) := w64 (by omega) (by omega)
      have s8 : 0 ≤ IntKind.u64.wrap (8 * (t : Int)) := by rw [w8]; omega
      have e1 : List.take 1 (List.drop 0 [IntKind.u8.wrap (x8.fdiv (2 ^ min (IntKind.u64.wrap (8 * (t : Int))).toNat IntKind.u32.bits))]) = [byt x8 t] := by rw [eb]; rfl
      have e2 : P ++ byts x8 t ++ List.take 1 (List.drop 0 [IntKind.u8.wrap (x8.fdiv (2 ^ min (IntKind.u64.wrap (8 * (t : Int))).toNat IntKind.u32.bits))]) = P ++ byts x8 (t + 1) := by rw [e1, byts_succ, List.append_assoc]
      (repeat' (first | (refine xI (fun hfk => ?_) (fun hfk => ?_) <;> ((try (first | replace hfk := oT hfk | replace hfk := oF hfk | simp only [oA, oB, dh1, dh0, ne_eq, reduceCtorEq] at hfk)); (try exact oX))) | (refine And.intro ?ob ?_; (case ob => (exact oZ))) | exact True.intro | (show _ = _; first | exact oY | (skip; done) | exact rfl) | exact oW | (apply And.intro)))
      refine ⟨t + 1, [some 0, some 5, some 2, some 3], htk, ?mu, ?_⟩
      case mu => (show 4 - (t + 1) < 4 - t; omega)
      (repeat' (first | (refine And.intro ?_ ?_) | exact True.intro | (show _ = _; with_reducible rfl) | exact Chk.mk (by kernel_rfl)))
      all_goals first | rfl | exact e2 | (show (_ : Int) = _; omega) | (show (_ : Nat) = _; simp only [List.length_append, List.length_take, List.length_drop, List.length_cons, List.length_nil, byts_len]; omega)
    · obtain rfl : t = 4 := by omega
      (repeat' (first | (refine xI (fun hfk => ?_) (fun hfk => ?_) <;> ((try (first | replace hfk := oT hfk | replace hfk := oF hfk | simp only [oA, oB, dh1, dh0, ne_eq, reduceCtorEq] at hfk)); (try exact oX))) | (refine And.intro ?ob ?_; (case ob => (exact oZ))) | exact True.intro | (show _ = _; first | exact oY | (skip; done) | exact rfl) | exact oW | (apply And.intro)))
      refine ⟨9, [some 0, some 1, some 2], by omega, ?mu, ?_⟩
      case mu => (show 14 - 9 < 14 - 8; omega)
      have e3 : P ++ byts x8 4 = ([66, 77] : List Int) ++ byts x0 4 ++ byts x1 4 ++ byts x2 4 ++ byts x3 4 ++ byts x4 4 ++ byts x5 4 ++ byts x6 2 ++ byts x7 2 ++ byts x8 4 := by rw [hPe]
      (repeat' (first | (refine And.intro ?_ ?_) | exact True.intro | (show _ = _; with_reducible rfl) | exact Chk.mk (by kernel_rfl)))
      all_goals first | rfl | exact e3
  · obtain ⟨u0, u1⟩ := h9
    have hP : (([66, 77] : List Int) ++ byts x0 4 ++ byts x1 4 ++ byts x2 4 ++ byts x3 4 ++ byts x4 4 ++ byts x5 4 ++ byts x6 2 ++ byts x7 2 ++ byts x8 4).length = 34 := by simp only [List.length_append, byts_len, List.length_cons, List.length_nil]
    obtain ⟨P, hPe⟩ : ∃ P, ([66, 77] : List Int) ++ byts x0 4 ++ byts x1 4 ++ byts x2 4 ++ byts x3 4 ++ byts x4 4 ++ byts x5 4 ++ byts x6 2 ++ byts x7 2 ++ byts x8 4 = P := ⟨_, rfl⟩
    rw [hPe] at hP
    (repeat' (first | (refine xI (fun hfk => ?_) (fun hfk => ?_) <;> ((try (first | replace hfk := oT hfk | replace hfk := oF hfk | simp only [oA, oB, dh1, dh0, ne_eq, reduceCtorEq] at hfk)); (try exact oX))) | (refine And.intro ?ob ?_; (case ob => (exact oZ))) | exact True.intro | (show _ = _; first | exact oY | (skip; done) | exact rfl) | exact oW | (apply And.intro)))
    refine ⟨Nat, fun t => [(0, .ptr 0 0), (3, .sl 1 1 0 (34 + t)), (5, .ptr 3 0), (10, .sl 2 2 0 14), (11, .int .i64 14), (12, .int .i64 ((9 : Nat) : Int)), (17, .int .i64 4), (18, .int .i64 (t : Int))],
      fun t => ⟨4, [(0, some (hdEn x0 x1 x2 x3 x4 x5 x6 x7 x8 x9 x10 x11 x12 x13)), (1, some (bE (P ++ byts x9 t))), (2, some (.cells 108 [.ptr 0 0, .int .i64 4, .ptr 0 1, .int .i64 4, .ptr 0 2, .int .i64 4, .ptr 0 3, .int .i64 4, .ptr 0 4, .int .i64 4, .ptr 0 5, .int .i64 4, .ptr 0 6, .int .i64 2, .ptr 0 7, .int .i64 2, .ptr 0 8, .int .i64 4, .ptr 0 9, .int .i64 4, .ptr 0 10, .int .i64 4, .ptr 0 11, .int .i64 4, .ptr 0 12, .int .i64 4, .ptr 0 13, .int .i64 4])), (3, some (.cells 108 [.ptr 0 9, .int .i64 4]))]⟩,
      fun t => t ≤ 4, fun t => 4 - t, ⟨0, [some 0, some 1, some 2, some 3], by omega, ?_⟩, fun t ht => ?_⟩
    · have e0 : ([66, 77] : List Int) ++ byts x0 4 ++ byts x1 4 ++ byts x2 4 ++ byts x3 4 ++ byts x4 4 ++ byts x5 4 ++ byts x6 2 ++ byts x7 2 ++ byts x8 4 = P ++ byts x9 0 := by rw [hPe]; simp [byts]
      (repeat' (first | (refine And.intro ?_ ?_) | exact True.intro | (show _ = _; with_reducible rfl) | exact Chk.mk (by kernel_rfl)))
      all_goals first | rfl | exact e0
    have ht : t ≤ 4 := ht
    have hl : (P ++ byts x9 t).length = 34 + t := by rw [List.length_append, hP, byts_len]
    have hlb : (byts x9 t).length = t := byts_len _ _
    by_cases htk : t < 4
    · have eb := byt_sh (t := t) u0 u1 (by omega)
      have r8 : rngI .i64 (8 * (t : Int)) := rng64 (by omega) (by omega)
      have rt : rngI .i64 ((t : Int) + 1) := rng64 (by omega) (by omega)
      have w8 : IntKind.u64.wrap (8 * (t : Int)) = 8 * (t : Int) := w64 (by omega) (by omega)
      have s8 : 0 ≤ IntKind.u64.wrap (8 * (t : Int)) := by rw [w8]; omega
      have e1 : List.take 1 (List.drop 0 [IntKind.u8.wrap (x9.fdiv (2 ^ min (IntKind.u64.wrap (8 * (t : Int))).toNat IntKind.u32.bits))]) = [byt x9 t] := by rw [eb]; rfl
      have e2 : P ++ byts x9 t ++ List.take 1 (List.drop 0 [IntKind.u8.wrap (x9.fdiv (2 ^ min (IntKind.u64.wrap (8 * (t : Int))).toNat IntKind.u32.bits))]) = P ++ byts x9 (t + 1) := by rw [e1, byts_succ, List.append_assoc]
      (repeat' (first | (refine xI (fun hfk => ?_) (fun hfk => ?_) <;> ((try (first | replace hfk := oT hfk | replace hfk := oF hfk | simp only [oA, oB, dh1, dh0, ne_eq, reduceCtorEq] at hfk)); (try exact oX))) | (refine And.intro ?ob ?_; (case ob => (exact oZ))) | exact True.intro | (show _ = _; first | exact oY | (skip; done) | exact rfl) | exact oW | (apply And.intro)))
      refine ⟨t + 1, [some 0, some 5, some 2, some 3], htk, ?mu, ?_⟩
      case mu => (show 4 - (t + 1) < 4 - t; omega)
      (repeat' (first | (refine And.intro ?_ ?_) | exact True.intro | (show _ = _; with_reducible rfl) | exact Chk.mk (by kernel_rfl)))
      all_goals first | rfl | exact e2 | (show (_ : Int) = _; omega) | (show (_ : Nat) = _; simp only [List.length_append, List.length_take, List.length_drop, List.length_cons, List.length_nil, byts_len]; omega)
    · obtain rfl : t = 4 := by omega
      (repeat' (first | (refine xI (fun hfk => ?_) (fun hfk => ?_) <;> ((try (first | replace hfk := oT hfk | replace hfk := oF hfk | simp only [oA, oB, dh1, dh0, ne_eq, reduceCtorEq] at hfk)); (try exact oX))) | (refine And.intro ?ob ?_; (case ob => (exact oZ))) | exact True.intro | (show _ = _; first | exact oY | (skip; done) | exact rfl) | exact oW | (apply And.intro)))
      refine ⟨10, [some 0, some 1, some 2], by omega, ?mu, ?_⟩
      case mu => (show 14 - 10 < 14 - 9; omega)
      have e3 : P ++ byts x9 4 = ([66, 77] : List Int) ++ byts x0 4 ++ byts x1 4 ++ byts x2 4 ++ byts x3 4 ++ byts x4 4 ++ byts x5 4 ++ byts x6 2 ++ byts x7 2 ++ byts x8 4 ++ byts x9 4 := by rw [hPe]
      (repeat' (first | (refine And.intro ?_ ?_) | exact True.intro | (show _ = _; with_reducible rfl) | exact Chk.mk (by kernel_rfl)))
      all_goals first | rfl | exact e3
  · obtain ⟨u0, u1⟩ := h10
    have hP : (([66, 77] : List Int) ++ byts x0 4 ++ byts x1 4 ++ byts x2 4 ++ byts x3 4 ++ byts x4 4 ++ byts x5 4 ++ byts x6 2 ++ byts x7 2 ++ byts x8 4 ++ byts x9 4).length = 38 := by simp only [List.length_append, byts_len, List.length_cons, List.length_nil]
    obtain ⟨P, hPe⟩ : ∃ P, ([66, 77] : List Int) ++ byts x0 4 ++ byts x1 4 ++ byts x2 4 ++ byts x3 4 ++ byts x4 4 ++ byts x5 4 ++ byts x6 2 ++ byts x7 2 ++ byts x8 4 ++ byts x9 4 = P := ⟨_, rfl⟩
    rw [hPe] at hP
    (repeat' (first | (refine xI (fun hfk => ?_) (fun hfk => ?_) <;> ((try (first | replace hfk := oT hfk | replace hfk := oF hfk | simp only [oA, oB, dh1, dh0, ne_eq, reduceCtorEq] at hfk)); (try exact oX))) | (refine And.intro ?ob ?_; (case ob => (exact oZ))) | exact True.intro | (show _ = _; first | exact oY | (skip; done) | exact rfl) | exact oW | (apply And.intro)))
    refine ⟨Nat, fun t => [(0, .ptr 0 0), (3, .sl 1 1 0 (38 + t)), (5, .ptr 3 0), (10, .sl 2 2 0 14), (11, .int .i64 14), (12, .int .i64 ((10 : Nat) : Int)), (17, .int .i64 4), (18, .int .i64 (t : Int))],
      fun t => ⟨4, [(0, some (hdEn x0 x1 x2 x3 x4 x5 x6 x7 x8 x9 x10 x11 x12 x13)), (1, some (bE (P ++ byts x10 t))), (2, some (.cells 108 [.ptr 0 0, .int .i64 4, .ptr 0 1, .int .i64 4, .ptr 0 2, .int .i64 4, .ptr 0 3, .int .i64 4, .ptr 0 4, .int .i64 4, .ptr 0 5, .int .i64 4, .ptr 0 6, .int .i64 2, .ptr 0 7, .int .i64 2, .ptr 0 8, .int .i64 4, .ptr 0 9, .int .i64 4, .ptr 0 10, .int .i64 4, .ptr 0 11, .int .i64 4, .ptr 0 12, .int .i64 4, .ptr 0 13, .int .i64 4])), (3, some (.cells 108 [.ptr 0 10, .int .i64 4]))]⟩,
      fun t => t ≤ 4, fun t => 4 - t, ⟨0, [some 0, some 1, some 2, some 3], by omega, ?_⟩, fun t ht => ?_⟩
    · have e0 : ([66, 77] : List Int) ++ byts x0 4 ++ byts x1 4 ++ byts x2 4 ++ byts x3 4 ++ byts x4 4 ++ byts x5 4 ++ byts x6 2 ++ byts x7 2 ++ byts x8 4 ++ byts x9 4 = P ++ byts x10 0 := by rw [hPe]; simp [byts]
      (repeat' (first | (refine And.intro ?_ ?_) | exact True.intro | (show _ = _; with_reducible rfl) | exact Chk.mk (by kernel_rfl)))
      all_goals first | rfl | exact e0
    have ht : t ≤ 4 := ht
    have hl : (P ++ byts x10 t).length = 38 + t := by rw [List.length_append, hP, byts_len]
    have hlb : (byts x10 t).length = t := byts_len _ _
    by_cases htk : t < 4
    · have eb := byt_sh (t := t) u0 u1 (by omega)
      have r8 : rngI .i64 (8 * (t : Int)) := rng64 (by omega) (by omega)
      have rt : rngI .i64 ((t : Int) + 1) := rng64 (by omega) (by omega)
      have w8 : IntKind.u64.wrap (8 * (t : Int)) = 8 * (t : Int) := w64 (by omega) (by omega)
      have s8 : 0 ≤ IntKind.u64.wrap (8 * (t : Int)) := by rw [w8]; omega
      have e1 : List.take 1 (List.drop 0 [IntKind.u8.wrap (x10.fdiv (2 ^ min (IntKind.u64.wrap (8 * (t : Int))).toNat IntKind.u32.bits))]) = [byt x10 t] := by rw [eb]; rfl
      have e2 : P ++ byts x10 t ++ List.take 1 (List.drop 0 [IntKind.u8.wrap (x10.fdiv (2 ^ min (IntKind.u64.wrap (8 * (t : Int))).toNat IntKind.u32.bits))]) = P ++ byts x10 (t + 1) := by rw [e1, byts_succ, List.append_assoc]
      (repeat' (first | (refine xI (fun hfk => ?_) (fun hfk => ?_) <;> ((try (first | replace hfk := oT hfk | replace hfk := oF hfk | simp only [oA, oB, dh1, dh0, ne_eq, reduceCtorEq] at hfk)); (try exact oX))) | (refine And.intro ?ob ?_; (case ob => (exact oZ))) | exact True.intro | (show _ = _; first | exact oY | (skip; done) | exact rfl) | exact oW | (apply And.intro)))
      refine ⟨t + 1, [some 0, some 5, some 2, some 3], htk, ?mu, ?_⟩
      case mu => (show 4 - (t + 1) < 4 - t; omega)
      (repeat' (first | (refine And.intro ?_ ?_) | exact True.intro | (show _ = _; with_reducible rfl) | exact Chk.mk (by kernel_rfl)))
      all_goals first | rfl | exact e2 | (show (_ : Int) = _; omega) | (show (_ : Nat) = _; simp only [List.length_append, List.length_take, List.length_drop, List.length_cons, List.length_nil, byts_len]; omega)
    · obtain rfl : t = 4 := by omega
      (repeat' (first | (refine xI (fun hfk => ?_) (fun hfk => ?_) <;> ((try (first | replace hfk := oT hfk | replace hfk := oF hfk | simp only [oA, oB, dh1, dh0, ne_eq, reduceCtorEq] at hfk)); (try exact oX))) | (refine And.intro ?ob ?_; (case ob => (exact oZ))) | exact True.intro | (show _ = _; first | exact oY | (skip; done) | exact rfl) | exact oW | (apply And.intro)))
      refine ⟨11, [some 0, some 1, some 2], by omega, ?mu, ?_⟩
      case mu => (show 14 - 11 < 14 - 10; omega)
      have e3 : P ++ byts x10 4 = ([66, 77] : List Int) ++ byts x0 4 ++ byts x1 4 ++ byts x2 4 ++ byts x3 4 ++ byts x4 4 ++ byts x5 4 ++ byts x6 2 ++ byts x7 2 ++ byts x8 4 ++ byts x9 4 ++ byts x10 4 := by rw [hPe]
      (repeat' (first | (refine And.intro ?_ ?_) | exact True.intro | (show _ = _; with_reducible rfl) | exact Chk.mk (by kernel_rfl)))
      all_goals first | rfl | exact e3
  · obtain ⟨u0, u1⟩ := h11
    have hP : (([66, 77] : List Int) ++ byts x0 4 ++ byts x1 4 ++ byts x2 4 ++ byts x3 4 ++ byts x4 4 ++ byts x5 4 ++ byts x6 2 ++ byts x7 2 ++ byts x8 4 ++ byts x9 4 ++ byts x10 4).length = 42 := by simp only [List.length_append, byts_len, List.length_cons, List.length_nil]
    obtain ⟨P, hPe⟩ : ∃ P, ([66, 77] : List Int) ++ byts x0 4 ++ byts x1 4 ++ byts x2 4 ++ byts x3 4 ++ byts x4 4 ++ byts x5 4 ++ byts x6 2 ++ byts x7 2 ++ byts x8 4 ++ byts x9 4 ++ byts x10 4 = P := ⟨_, rfl⟩
    rw [hPe] at hP
    (repeat' (first | (refine xI (fun hfk => ?_) (fun hfk => ?_) <;> ((try (first | replace hfk := oT hfk | replace hfk := oF hfk | simp only [oA, oB, dh1, dh0, ne_eq, reduceCtorEq] at hfk)); (try exact oX))) | (refine And.intro ?ob ?_; (case ob => (exact oZ))) | exact True.intro | (show _ = _; first | exact oY | (skip; done) | exact rfl) | exact oW | (apply And.intro)))
    refine ⟨Nat, fun t => [(0, .ptr 0 0), (3, .sl 1 1 0 (42 + t)), (5, .ptr 3 0), (10, .sl 2 2 0 14), (11, .int .i64 14), (12, .int .i64 ((11 : Nat) : Int)), (17, .int .i64 4), (18, .int .i64 (t : Int))],
      fun t => ⟨4, [(0, some (hdEn x0 x1 x2 x3 x4 x5 x6 x7 x8 x9 x10 x11 x12 x13)), (1, some (bE (P ++ byts x11 t))), (2, some (.cells 108 [.ptr 0 0, .int .i64 4, .ptr 0 1, .int .i64 4, .ptr 0 2, .int .i64 4, .ptr 0 3, .int .i64 4, .ptr 0 4, .int .i64 4, .ptr 0 5, .int .i64 4, .ptr 0 6, .int .i64 2, .ptr 0 7, .int .i64 2, .ptr 0 8, .int .i64 4, .ptr 0 9, .int .i64 4, .ptr 0 10, .int .i64 4, .ptr 0 11, .int .i64 4, .ptr 0 12, .int .i64 4, .ptr 0 13, .int .i64 4])), (3, some (.cells 108 [.ptr 0 11, .int .i64 4]))]⟩,
      fun t => t ≤ 4, fun t => 4 - t, ⟨0, [some 0, some 1, some 2, some 3], by omega, ?_⟩, fun t ht => ?_⟩
    · have e0 : ([66, 77] : List Int) ++ byts x0 4 ++ byts x1 4 ++ byts x2 4 ++ byts x3 4 ++ byts x4 4 ++ byts x5 4 ++ byts x6 2 ++ byts x7 2 ++ byts x8 4 ++ byts x9 4 ++ byts x10 4 = P ++ byts x11 0 := by rw [hPe]; simp [byts]
      (repeat' (first | (refine And.intro ?_ ?_) | exact True.intro | (show _ = _; with_reducible rfl) | exact Chk.mk (by kernel_rfl)))
      all_goals first | rfl | exact e0
    have ht : t ≤ 4 := ht
    have hl : (P ++ byts x11 t).length = 42 + t := by rw [List.length_append, hP, byts_len]
    have hlb : (byts x11 t).length = t := byts_len _ _
    by_cases htk : t < 4
    · have eb := byt_sh (t := t) u0 u1 (by omega)
      have r8 : rngI .i64 (8 * (t : Int)) := rng64 (by omega) (by omega)
      have rt : rngI .i64 ((t : Int) + 1) := rng64 (by omega) (by omega)
      have w8 : IntKind.u64.wrap (8 * (t : Int)) = 8 * (t : Int) := w64 (by omega) (by omega)
      have s8 : 0 ≤ IntKind.u64.wrap (8 * (t : Int)) := by rw [w8]; omega
      have e1 : List.take 1 (List.drop 0 [IntKind.u8.wrap (x11.fdiv (2 ^ min (IntKind.u64.wrap (8 * (t : Int))).toNat IntKind.u32.bits))]) = [byt x11 t] := by rw [eb]; rfl
      have e2 : P ++ byts x11 t ++ List.take 1 (List.drop 0 [IntKind.u8.wrap (x11.fdiv (2 ^ min (IntKind.u64.wrap (8 * (t : Int))).toNat IntKind.u32.bits))]) = P ++ byts x11 (t + 1) := by rw [e1, byts_succ, List.append_assoc]
      (repeat' (first | (refine xI (fun hfk => ?_) (fun hfk => ?_) <;> ((try (first | replace hfk := oT hfk | replace hfk := oF hfk | simp only [oA, oB, dh1, dh0, ne_eq, reduceCtorEq] at hfk)); (try exact oX))) | (refine And.intro ?ob ?_; (case ob => (exact oZ))) | exact True.intro | (show _ = _; first | exact oY | (skip; done) | exact rfl) | exact oW | (apply And.intro)))
      refine ⟨t + 1, [some 0, some 5, some 2, some 3], htk, ?mu, ?_⟩
      case mu => (show 4 - (t + 1) < 4 - t; omega)
      (repeat' (first | (refine And.intro ?_ ?_) | exact True.intro | (show _ = _; with_reducible rfl) | exact Chk.mk (by kernel_rfl)))
      all_goals first | rfl | exact e2 | (show (_ : Int) = _; omega) | (show (_ : Nat) = _; simp only [List.length_append, List.length_take, List.length_drop, List.length_cons, List.length_nil, byts_len]; omega)
    · obtain rfl : t = 4 := by omega
      (repeat' (first | (refine xI (fun hfk => ?_) (fun hfk => ?_) <;> ((try (first | replace hfk := oT hfk | replace hfk := oF hfk | simp only [oA, oB, dh1, dh0, ne_eq, reduceCtorEq] at hfk)); (try exact oX))) | (refine And.intro ?ob ?_; (case ob => (exact oZ))) | exact True.intro | (show _ = _; first | exact oY | (skip; done) | exact rfl) | exact oW | (apply And.intro)))
      refine ⟨12, [some 0, some 1, some 2], by omega, ?mu, ?_⟩
      case mu => (show 14 - 12 < 14 - 11; omega)
      have e3 : P ++ byts x11 4 = ([66, 77] : List Int) ++ byts x0 4 ++ byts x1 4 ++ byts x2 4 ++ byts x3 4 ++ byts x4 4 ++ byts x5 4 ++ byts x6 2 ++ byts x7 2 ++ byts x8 4 ++ byts x9 4 ++ byts x10 4 ++ byts x11 4 := by rw [hPe]
      (repeat' (first | (refine And.intro ?_ ?_) | exact True.intro | (show _ = _; with_reducible rfl) | exact Chk.mk (by kernel_rfl)))
      all_goals first | rfl | exact e3
  · obtain ⟨u0, u1⟩ := h12
    have hP : (([66, 77] : List Int) ++ byts x0 4 ++ byts x1 4 ++ byts x2 4 ++ byts x3 4 ++ byts x4 4 ++ byts x5 4 ++ byts x6 2 ++ byts x7 2 ++ byts x8 4 ++ byts x9 4 ++ byts x10 4 ++ byts x11 4).length = 46 := by simp only [List.length_append, byts_len, List.length_cons, List.length_nil]
    obtain ⟨P, hPe⟩ : ∃ P, ([66, 77] : List Int) ++ byts x0 4 ++ byts x1 4 ++ byts x2 4 ++ byts x3 4 ++ byts x4 4 ++ byts x5 4 ++ byts x6 2 ++ byts x7 2 ++ byts x8 4 ++ byts x9 4 ++ byts x10 4 ++ byts x11 4 = P := ⟨_, rfl⟩
    rw [hPe] at hP
    (repeat' (first | (refine xI (fun hfk => ?_) (fun hfk => ?_) <;> ((try (first | replace hfk := oT hfk | replace hfk := oF hfk | simp only [oA, oB, dh1, dh0, ne_eq, reduceCtorEq] at hfk)); (try exact oX))) | (refine And.intro ?ob ?_; (case ob => (exact oZ))) | exact True.intro | (show _ = _; first | exact oY | (skip; done) | exact rfl) | exact oW | (apply And.intro)))
    refine ⟨Nat, fun t => [(0, .ptr 0 0), (3, .sl 1 1 0 (46 + t)), (5, .ptr 3 0), (10, .sl 2 2 0 14), (11, .int .i64 14), (12, .int .i64 ((12 : Nat) : Int)), (17, .int .i64 4), (18, .int .i64 (t : Int))],
      fun t => ⟨4, [(0, some (hdEn x0 x1 x2 x3 x4 x5 x6 x7 x8 x9 x10 x11 x12 x13)), (1, some (bE (P ++ byts x12 t))), (2, some (.cells 108 [.ptr 0 0, .int .i64 4, .ptr 0 1, .int .i64 4, .ptr 0 2, .int .i64 4, .ptr 0 3, .int .i64 4, .ptr 0 4, .int .i64 4, .ptr 0 5, .int .i64 4, .ptr 0 6, .int .i64 2, .ptr 0 7, .int .i64 2, .ptr 0 8, .int .i64 4, .ptr 0 9, .int .i64 4, .ptr 0 10, .int .i64 4, .ptr 0 11, .int .i64 4, .ptr 0 12, .int .i64 4, .ptr 0 13, .int .i64 4])), (3, some (.cells 108 [.ptr 0 12, .int .i64 4]))]⟩,
      fun t => t ≤ 4, fun t => 4 - t, ⟨0, [some 0, some 1, some 2, some 3], by omega, ?_⟩, fun t ht => ?_⟩
    · have e0 : ([66, 77] : List Int) ++ byts x0 4 ++ byts x1 4 ++ byts x2 4 ++ byts x3 4 ++ byts x4 4 ++ byts x5 4 ++ byts x6 2 ++ byts x7 2 ++ byts x8 4 ++ byts x9 4 ++ byts x10 4 ++ byts x11 4 = P ++ byts x12 0 := by rw [hPe]; simp [byts]
      (repeat' (first | (refine And.intro ?_ ?_) | exact True.intro | (show _ = _; with_reducible rfl) | exact Chk.mk (by kernel_rfl)))
      all_goals first | rfl | exact e0
    have ht : t ≤ 4 := ht
    have hl : (P ++ byts x12 t).length = 46 + t := by rw [List.length_append, hP, byts_len]
    have hlb : (byts x12 t).length = t := byts_len _ _
    by_cases htk : t < 4
    · have eb := byt_sh (t := t) u0 u1 (by omega)
      have r8 : rngI .i64 (8 * (t : Int)) := rng64 (by omega) (by omega)
      have rt : rngI .i64 ((t : Int) + 1) := rng64 (by omega) (by omega)
      have w8 : IntKind.u64.wrap (8 * (t : Int)) = 8 * (t : Int) := w64 (by omega) (by omega)
      have s8 : 0 ≤ IntKind.u64.wrap (8 * (t : Int)) := by rw [w8]; omega
      have e1 : List.take 1 (List.drop 0 [IntKind.u8.wrap (x12.fdiv (2 ^ min (IntKind.u64.wrap (8 * (t : Int))).toNat IntKind.u32.bits))]) = [byt x12 t] := by rw [eb]; rfl
      have e2 : P ++ byts x12 t ++ List.take 1 (List.drop 0 [IntKind.u8.wrap (x12.fdiv (2 ^ min (IntKind.u64.wrap (8 * (t : Int))).toNat IntKind.u32.bits))]) = P ++ byts x12 (t + 1) := by rw [e1, byts_succ, List.append_assoc]
      (repeat' (first | (refine xI (fun hfk => ?_) (fun hfk => ?_) <;> ((try (first | replace hfk := oT hfk | replace hfk := oF hfk | simp only [oA, oB, dh1, dh0, ne_eq, reduceCtorEq] at hfk)); (try exact oX))) | (refine And.intro ?ob ?_; (case ob => (exact oZ))) | exact True.intro | (show _ = _; first | exact oY | (skip; done) | exact rfl) | exact oW | (apply And.intro)))
      refine ⟨t + 1, [some 0, some 5, some 2, some 3], htk, ?mu, ?_⟩
      case mu => (show 4 - (t + 1) < 4 - t; omega)
      (repeat' (first | (refine And.intro ?_ ?_) | exact True.intro | (show _ = _; with_reducible rfl) | exact Chk.mk (by kernel_rfl)))
      all_goals first | rfl | exact e2 | (show (_ : Int) = _; omega) | (show (_ : Nat) = _; simp only [List.length_append, List.length_take, List.length_drop, List.length_cons, List.length_nil, byts_len]; omega)
    · obtain rfl : t = 4 := by omega
      (repeat' (first | (refine xI (fun hfk => ?_) (fun hfk => ?_) <;> ((try (first | replace hfk := oT hfk | replace hfk := oF hfk | simp only [oA, oB, dh1, dh0, ne_eq, reduceCtorEq] at hfk)); (try exact oX))) | (refine And.intro ?ob ?_; (case ob => (exact oZ))) | exact True.intro | (show _ = _; first | exact oY | (skip; done) | exact rfl) | exact oW | (apply And.intro)))
      refine ⟨13, [some 0, some 1, some 2], by omega, ?mu, ?_⟩
      case mu => (show 14 - 13 < 14 - 12; omega)
      have e3 : P ++ byts x12 4 = ([66, 77] : List Int) ++ byts x0 4 ++ byts x1 4 ++ byts x2 4 ++ byts x3 4 ++ byts x4 4 ++ byts x5 4 ++ byts x6 2 ++ byts x7 2 ++ byts x8 4 ++ byts x9 4 ++ byts x10 4 ++ byts x11 4 ++ byts x12 4 := by rw [hPe]
      (repeat' (first | (refine And.intro ?_ ?_) | exact True.intro | (show _ = _; with_reducible rfl) | exact Chk.mk (by kernel_rfl)))
      all_goals first | rfl | exact e3
  · obtain ⟨u0, u1⟩ := h13
    have hP : (([66, 77] : List Int) ++ byts x0 4 ++ byts x1 4 ++ byts x2 4 ++ byts x3 4 ++ byts x4 4 ++ byts x5 4 ++ byts x6 2 ++ byts x7 2 ++ byts x8 4 ++ byts x9 4 ++ byts x10 4 ++ byts x11 4 ++ byts x12 4).length = 50 := by simp only [List.length_append, byts_len, List.length_cons, List.length_nil]
    obtain ⟨P, hPe⟩ : ∃ P, ([66, 77] : List Int) ++ byts x0 4 ++ byts x1 4 ++ byts x2 4 ++ byts x3 4 ++ byts x4 4 ++ byts x5 4 ++ byts x6 2 ++ byts x7 2 ++ byts x8 4 ++ byts x9 4 ++ byts x10 4 ++ byts x11 4 ++ byts x12 4 = P := ⟨_, rfl⟩
    rw [hPe] at hP
    (repeat' (first | (refine xI (fun hfk => ?_) (fun hfk => ?_) <;> ((try (first | replace hfk := oT hfk | replace hfk := oF hfk | simp only [oA, oB, dh1, dh0, ne_eq, reduceCtorEq] at hfk)); (try exact oX))) | (refine And.intro ?ob ?_; (case ob => (exact oZ))) | exact True.intro | (show _ = _; first | exact oY | (skip; done) | exact rfl) | exact oW | (apply And.intro)))
    refine ⟨Nat, fun t => [(0, .ptr 0 0), (3, .sl 1 1 0 (50 + t)), (5, .ptr 3 0), (10, .sl 2 2 0 14), (11, .int .i64 14), (12, .int .i64 ((13 : Nat) : Int)), (17, .int .i64 4), (18, .int .i64 (t : Int))],
      fun t => ⟨4, [(0, some (hdEn x0 x1 x2 x3 x4 x5 x6 x7 x8 x9 x10 x11 x12 x13)), (1, some (bE (P ++ byts x13 t))), (2, some (.cells 108 [.ptr 0 0, .int .i64 4, .ptr 0 1, .int .i64 4, .ptr 0 2, .int .i64 4, .ptr 0 3, .int .i64 4, .ptr 0 4, .int .i64 4, .ptr 0 5, .int .i64 4, .ptr 0 6, .int .i64 2, .ptr 0 7, .int .i64 2, .ptr 0 8, .int .i64 4, .ptr 0 9, .int .i64 4, .ptr 0 10, .int .i64 4, .ptr 0 11, .int .i64 4, .ptr 0 12, .int .i64 4, .ptr 0 13, .int .i64 4])), (3, some (.cells 108 [.ptr 0 13, .int .i64 4]))]⟩,
      fun t => t ≤ 4, fun t => 4 - t, ⟨0, [some 0, some 1, some 2, some 3], by omega, ?_⟩, fun t ht => ?_⟩
    · have e0 : ([66, 77] : List Int) ++ byts x0 4 ++ byts x1 4 ++ byts x2 4 ++ byts x3 4 ++ byts x4 4 ++ byts x5 4 ++ byts x6 2 ++ byts x7 2 ++ byts x8 4 ++ byts x9 4 ++ byts x10 4 ++ byts x11 4 ++ byts x12 4 = P ++ byts x13 0 := by rw [hPe]; simp [byts]
      (repeat' (first | (refine And.intro ?_ ?_) | exact True.intro | (show _ = _; with_reducible rfl) | exact Chk.mk (by kernel_rfl)))
      all_goals first | rfl | exact e0
    have ht : t ≤ 4 := ht
    have hl : (P ++ byts x13 t).length = 50 + t := by rw [List.length_append, hP, byts_len]
    have hlb : (byts x13 t).length = t := byts_len _ _
    by_cases htk : t < 4
    · have eb := byt_sh (t := t) u0 u1 (by omega)
      have r8 : rngI .i64 (8 * (t : Int)) := rng64 (by omega) (by omega)
      have rt : rngI .i64 ((t : Int) + 1) := rng64 (by omega) (by omega)
      have w8 : IntKind.u64.wrap (8 * (t : Int)) = 8 * (t : Int) := w64 (by omega) (by omega)
      have s8 : 0 ≤ IntKind.u64.wrap (8 * (t : Int)) := by rw [w8]; omega
      have e1 : List.take 1 (List.drop 0 [IntKind.u8.wrap (x13.fdiv (2 ^ min (IntKind.u64.wrap (8 * (t : Int))).toNat IntKind.u32.bits))]) = [byt x13 t] := by rw [eb]; rfl
      have e2 : P ++ byts x13 t ++ List.take 1 (List.drop 0 [IntKind.u8.wrap (x13.fdiv (2 ^ min (IntKind.u64.wrap (8 * (t : Int))).toNat IntKind.u32.bits))]) = P ++ byts x13 (t + 1) := by rw [e1, byts_succ, List.append_assoc]
      (repeat' (first | (refine xI (fun hfk => ?_) (fun hfk => ?_) <;> ((try (first | replace hfk := oT hfk | replace hfk := oF hfk | simp only [oA, oB, dh1, dh0, ne_eq, reduceCtorEq] at hfk)); (try exact oX))) | (refine And.intro ?ob ?_; (case ob => (exact oZ))) | exact True.intro | (show _ = _; first | exact oY | (skip; done) | exact rfl) | exact oW | (apply And.intro)))
      refine ⟨t + 1, [some 0, some 5, some 2, some 3], htk, ?mu, ?_⟩
      case mu => (show 4 - (t + 1) < 4 - t; omega)
      (repeat' (first | (refine And.intro ?_ ?_) | exact True.intro | (show _ = _; with_reducible rfl) | exact Chk.mk (by kernel_rfl)))
      all_goals first | rfl | exact e2 | (show (_ : Int) = _; omega) | (show (_ : Nat) = _; simp only [List.length_append, List.length_take, List.length_drop, List.length_cons, List.length_nil, byts_len]; omega)
    · obtain rfl : t = 4 := by omega
      (repeat' (first | (refine xI (fun hfk => ?_) (fun hfk => ?_) <;> ((try (first | replace hfk := oT hfk | replace hfk := oF hfk | simp only [oA, oB, dh1, dh0, ne_eq, reduceCtorEq] at hfk)); (try exact oX))) | (refine And.intro ?ob ?_; (case ob => (exact oZ))) | exact True.intro | (show _ = _; first | exact oY | (skip; done) | exact rfl) | exact oW | (apply And.intro)))
      refine ⟨14, [some 0, some 1, some 2], by omega, ?mu, ?_⟩
      case mu => (show 14 - 14 < 14 - 13; omega)
      have e3 : P ++ byts x13 4 = ([66, 77] : List Int) ++ byts x0 4 ++ byts x1 4 ++ byts x2 4 ++ byts x3 4 ++ byts x4 4 ++ byts x5 4 ++ byts x6 2 ++ byts x7 2 ++ byts x8 4 ++ byts x9 4 ++ byts x10 4 ++ byts x11 4 ++ byts x12 4 ++ byts x13 4 := by rw [hPe]
      (repeat' (first | (refine And.intro ?_ ?_) | exact True.intro | (show _ = _; with_reducible rfl) | exact Chk.mk (by kernel_rfl)))
      all_goals first | rfl | exact e3
  · (repeat' (first | (refine xI (fun hfk => ?_) (fun hfk => ?_) <;> ((try (first | replace hfk := oT hfk | replace hfk := oF hfk | simp only [oA, oB, dh1, dh0, ne_eq, reduceCtorEq] at hfk)); (try exact oX))) | (refine And.intro ?ob ?_; (case ob => (exact oZ))) | exact True.intro | (show _ = _; first | exact oY | (skip; done) | exact rfl) | exact oW | (apply And.intro)))
    refine ⟨[some 0, some 1], ?_⟩
    (repeat' (first | (refine xI (fun hfk => ?_) (fun hfk => ?_) <;> ((try (first | replace hfk := oT hfk | replace hfk := oF hfk | simp only [oA, oB, dh1, dh0, ne_eq, reduceCtorEq] at hfk)); (try exact oX))) | (refine And.intro ?ob ?_; (case ob => (exact oZ))) | exact True.intro | (show _ = _; first | exact oY | (rfl; done) | exact rfl) | exact oW | (apply And.intro)))
end Go.Proofs.YtocboijpmmlegaaDoor
namespace Go.Proofs.YtocboijpmmlegaaDoor
open Go Go.RowKit
def catK (f : Nat → List Int) : Nat → List Int
  | 0 => []
  | k + 1 => catK f k ++ f k
theorem catK_len {f : Nat → List Int} {d Q : Nat} (hf : ∀ k, k < Q → (f k).length = d) : ∀ k, k ≤ Q → (catK f k).length = k * d
  | 0, _ => by simp [catK]
  | k + 1, h => by rw [catK, List.length_append, catK_len hf k (by omega), hf k h, Nat.succ_mul]
theorem catK_congr {f g : Nat → List Int} {Q : Nat} (h : ∀ k, k < Q → f k = g k) : ∀ k, k ≤ Q → catK f k = catK g k
  | 0, _ => rfl
  | k + 1, hk => by rw [catK, catK, catK_congr h k (by omega), h k hk]
theorem catK_get {f : Nat → List Int} {d Q : Nat} (hf : ∀ k, k < Q → (f k).length = d) : ∀ m, m ≤ Q → ∀ k j, k < m → j < d → (catK f m).getD (k * d + j) 0 = (f k).getD j 0
  | 0, _, k, j, hk, _ => by omega
  | m + 1, hm, k, j, hk, hj => by
    have hl := catK_len hf m (by omega)
    have hq := hf m hm
    show (catK f m ++ f m).getD (k * d + j) 0 = _
    rw [List.getD_eq_getElem?_getD]
    by_cases he : k = m
    · subst he
      rw [List.getElem?_append_right (by omega), hl, Nat.add_sub_cancel_left, ← List.getD_eq_getElem?_getD]
    · have h1 := prod_of (n := d) (show k < m by omega)
      rw [List.getElem?_append_left (by omega), ← List.getD_eq_getElem?_getD]
      exact catK_get hf m (by omega) k j (by omega) hj
theorem eq_pieces {A B : List Int} {Q d : Nat} (ha : A.length = Q * d) (hb : B.length = Q * d) (h : ∀ k j, k < Q → j < d → A.getD (k * d + j) 0 = B.getD (k * d + j) 0) : A = B := by
  refine list_getD (by rw [ha, hb]) fun i hi => ?_
  rcases Nat.eq_zero_or_pos d with hd | hd
  · subst hd; rw [ha] at hi; omega
  rw [ha] at hi
  have h1 : i / d < Q := (Nat.div_lt_iff_lt_mul hd).2 hi
  have h2 : i % d < d := Nat.mod_lt _ hd
  have h3 : i / d * d + i % d = i := by rw [Nat.mul_comm]; exact Nat.div_add_mod i d
  have := h _ _ h1 h2
  rwa [h3] at this
theorem spl_out {L q : List Int} {o i : Nat} (ho : o + q.length ≤ L.length) (hi : i < o ∨ o + q.length ≤ i) : (spl L o q).getD i 0 = L.getD i 0 := by
  have hl : (L.take o).length = o := by rw [List.length_take]; omega
  unfold spl
  rw [List.getD_eq_getElem?_getD, List.getD_eq_getElem?_getD]
  rcases hi with hi | hi
  · rw [List.getElem?_append_left (by omega), List.getElem?_take_of_lt hi]
  · rw [List.getElem?_append_right (by omega), hl, List.getElem?_append_right (by omega), List.getElem?_drop]
    congr 2; omega
theorem catK_upd {f : Nat → List Int} {d h r : Nat} {q : List Int} (hf : ∀ k, k < h → (f k).length = d) (hr : r < h) (hq : q.length = d) :
    spl (catK f h) (r * d) q = catK (fun k => if k = r then q else f k) h := by
  have hl := catK_len hf h (Nat.le_refl _)
  have hp := prod_of (n := d) hr
  have hf2 : ∀ k, k < h → ((fun k => if k = r then q else f k) k).length = d := fun k hk => by
    show (if k = r then q else f k).length = d
    split
    · exact hq
    · exact hf k hk
  refine eq_pieces (Q := h) (d := d) (by rw [spl_len (by omega), hl]) (catK_len hf2 h (Nat.le_refl _)) fun k j hk hj => ?_
  rw [catK_get hf2 h (Nat.le_refl _) k j hk hj]
  by_cases he : k = r
  · subst he
    rw [spl_get (by omega) (by omega)]; simp
  · have hne : (if k = r then q else f k) = f k := if_neg he
    show _ = (if k = r then q else f k).getD j 0
    rw [hne, spl_out (by omega) ?_, catK_get hf h (Nat.le_refl _) k j hk hj]
    rcases Nat.lt_or_gt_of_ne he with hlt | hgt
    · have := prod_of (n := d) hlt; left; omega
    · have := prod_of (n := d) hgt; right; omega
def sw (t : Nat) : Nat := if t = 0 then 2 else if t = 2 then 0 else t
theorem sw_lt {t c : Nat} (h : t < c) (hc : 3 ≤ c) : sw t < c := by unfold sw; split; omega; split <;> omega
theorem sw_sw (t : Nat) : sw (sw t) = t := by unfold sw; (repeat' split) <;> omega
theorem swapTo_get {L : List Int} {o c : Nat} (hc : 3 ≤ c) : ∀ Q, o + Q * c ≤ L.length →
    (∀ k t, k < Q → t < c → (swapTo L o c Q).getD (o + (k * c + t)) 0 = L.getD (o + (k * c + sw t)) 0) ∧ (∀ i, i < o ∨ o + Q * c ≤ i → (swapTo L o c Q).getD i 0 = L.getD i 0)
  | 0, _ => ⟨fun k t hk => by omega, fun i _ => rfl⟩
  | Q + 1, hl => by
    rw [Nat.succ_mul] at hl
    obtain ⟨i1, i2⟩ := swapTo_get (L := L) (o := o) hc Q (by omega)
    have hlen := swapTo_len L o c Q
    have g0 : (swapTo L o c Q).getD (o + Q * c) 0 = L.getD (o + Q * c) 0 := i2 _ (by right; omega)
    have g2 : (swapTo L o c Q).getD (o + Q * c + 2) 0 = L.getD (o + Q * c + 2) 0 := i2 _ (by right; omega)
    have st : ∀ i, (swapTo L o c (Q + 1)).getD i 0 = if i = o + Q * c + 2 then L.getD (o + Q * c) 0 else if i = o + Q * c then L.getD (o + Q * c + 2) 0 else (swapTo L o c Q).getD i 0 := fun i => by
      show (((swapTo L o c Q).set (o + Q * c) ((swapTo L o c Q).getD (o + Q * c + 2) 0)).set (o + Q * c + 2) ((swapTo L o c Q).getD (o + Q * c) 0)).getD i 0 = _
      rw [set_getD (by rw [List.length_set]; omega), set_getD (by omega), g0, g2]
    refine ⟨fun k t hk ht => ?_, fun i hi => ?_⟩
    · rw [st]
      by_cases hkQ : k = Q
      · subst hkQ
        unfold sw
        by_cases t0 : t = 0
        · subst t0
          rw [if_neg (by omega), if_pos (by omega), if_pos rfl]
          congr 1
        · by_cases t2 : t = 2
          · subst t2
            rw [if_pos (by omega), if_neg (by decide), if_pos rfl]
            congr 1
          · rw [if_neg (by omega), if_neg (by omega), if_neg t0, if_neg t2]
            exact i2 _ (by right; omega)
      · have := prod_of (n := c) (show k < Q by omega)
        rw [if_neg (by omega), if_neg (by omega)]
        exact i1 k t (by omega) ht
    · rw [Nat.succ_mul] at hi
      rw [st, if_neg (by omega), if_neg (by omega)]
      exact i2 i (by omega)
theorem swapTo_spl {L q : List Int} {o c w : Nat} (hc : 3 ≤ c) (hq : q.length = w * c) (ho : o + q.length ≤ L.length) : ∀ k, k ≤ w → swapTo (spl L o q) o c k = spl L o (swapTo q 0 c k)
  | 0, _ => rfl
  | k + 1, hk => by
    have ih := swapTo_spl hc hq ho k (by omega)
    have hp := prod_of (n := c) (show k < w by omega)
    have hl := swapTo_len q 0 c k
    show ((swapTo (spl L o q) o c k).set (o + k * c) ((swapTo (spl L o q) o c k).getD (o + k * c + 2) 0)).set (o + k * c + 2) ((swapTo (spl L o q) o c k).getD (o + k * c) 0)
      = spl L o (((swapTo q 0 c k).set (0 + k * c) ((swapTo q 0 c k).getD (0 + k * c + 2) 0)).set (0 + k * c + 2) ((swapTo q 0 c k).getD (0 + k * c) 0))
    rw [ih, Nat.zero_add, show o + k * c + 2 = o + (k * c + 2) by omega, spl_get (by omega) (by omega), spl_get (by omega) (by omega), spl_set (by omega) (by omega), spl_set (by rw [List.length_set]; omega) (by omega)]
theorem trn_trn {q : List Int} {c w : Nat} (hc : 3 ≤ c) (hq : q.length = w * c) : swapTo (swapTo q 0 c w) 0 c w = q := by
  refine eq_pieces (Q := w) (d := c) (by rw [swapTo_len, swapTo_len, hq]) hq fun k j hk hj => ?_
  have h1 := (swapTo_get (L := swapTo q 0 c w) (o := 0) (c := c) hc w (by rw [swapTo_len]; omega)).1 k j hk hj
  have h2 := (swapTo_get (L := q) (o := 0) (c := c) hc w (by omega)).1 k (sw j) hk (sw_lt hj hc)
  simp only [Nat.zero_add] at h1 h2
  rw [h1, h2, sw_sw]
def fRow (b : List Int) (st wc k : Nat) : List Int := (b.drop (54 + k * st)).take wc
def rdPx (b : List Int) (c w h st : Nat) (dn : Bool) : List Int := catK (fun r => swapTo (fRow b st (w * c) (if dn = true then r else h - 1 - r)) 0 c w) h
def wrRow (p : List Int) (c w h st k : Nat) : List Int := swapTo (piece p (w * c) (h - 1 - k)) 0 c w ++ List.replicate (st - w * c) 0
def wrB (p : List Int) (c w h st : Nat) : List Int := catK (wrRow p c w h st) h
theorem fRow_len {b : List Int} {st wc k : Nat} (h : 54 + k * st + wc ≤ b.length) : (fRow b st wc k).length = wc := by
  unfold fRow; rw [List.length_take, List.length_drop]; omega
theorem fRow_get {b : List Int} {st wc k j : Nat} (hj : j < wc) : (fRow b st wc k).getD j 0 = b.getD (54 + k * st + j) 0 := by
  unfold fRow; rw [take_getD hj, drop_getD]
end Go.Proofs.YtocboijpmmlegaaDoor
namespace Go.Proofs.YtocboijpmmlegaaDoor
open Go Go.RowKit
set_option maxHeartbeats 4000000
abbrev hW (b : List Int) : Int := lw b 18 4
abbrev hH0 (b : List Int) : Int := lw b 22 4
abbrev hCn (b : List Int) : Int := lw b 28 2 / 8
abbrev hNn (b : List Int) : Int := up4 (hW b * hCn b) * hrV (hH0 b)
def rdE (b : List Int) : Int :=
  if hdE b ≠ 0 then hdE b else if shC (hW b) (hrV (hH0 b)) ≠ 0 then shC (hW b) (hrV (hH0 b)) else if (b.length : Int) - 54 < hNn b then 20 else if hNn b < (b.length : Int) - 54 then 22
  else if lw b 2 4 = b.length ∧ (lw b 34 4 = 0 ∨ lw b 34 4 = hNn b) then 0 else 21
def rdL (b : List Int) : List Int := if rdE b = 0 then rdPx b (hCn b).toNat (hW b).toNat (hrV (hH0 b)).toNat (up4 (hW b * hCn b)).toNat (decide (2147483648 ≤ hH0 b)) else []
def rdK (b : List Int) (x : Int) : Int := if rdE b = 0 then x else 0
theorem lw_bd {b : List Int} (hb : Byt b) {a n : Int} (hn : n ≤ 4) : 0 ≤ lw b a n ∧ lw b a n < 4294967296 := by
  have := low_rng (b := b.drop a.toNat) (n := n) (fun i => by rw [drop_getD]; exact hb.bd _) hn
  exact this
structure BmOK (b : List Int) (W H c st : Nat) (dn : Bool) : Prop where
  by_ : Byt b
  hd : hdE b = 0
  w : hW b = W
  h : hrV (hH0 b) = H
  dn_ : dn = decide (2147483648 ≤ hH0 b)
  c_ : lw b 28 2 = 8 * c
  c34 : c = 3 ∨ c = 4
  w1 : 1 ≤ W
  w2 : W ≤ 32768
  h1 : 1 ≤ H
  h2 : H ≤ 32768
  wh : W * H ≤ 4194304
  st_ : up4 ((W : Int) * (c : Int)) = st
  st1 : W * c ≤ st
  st2 : st ≤ W * c + 3
  len : b.length = 54 + H * st
  s1 : lw b 2 4 = b.length
  s2 : lw b 34 4 = 0 ∨ lw b 34 4 = (H * st : Nat)
theorem sh_inv {w r : Int} (hw : 0 ≤ w) (hr : 0 ≤ r) (h : shC w r = 0) : 1 ≤ w ∧ w ≤ 32768 ∧ 1 ≤ r ∧ r ≤ 32768 ∧ w * r ≤ 4194304 := by
  unfold shC at h
  split at h
  · cases h
  · split at h
    · cases h
    · omega
theorem hd_inv {b : List Int} (h : hdE b = 0) : b.getD 0 0 = 66 ∧ b.getD 1 0 = 77 ∧ 54 ≤ b.length ∧ frm0 b ∧ (lw b 28 2 = 24 ∨ lw b 28 2 = 32) := by
  unfold hdE at h
  split at h
  · cases h
  split at h
  · cases h
  split at h
  · cases h
  split at h
  · rename_i h1 h2 h3 h4
    exact ⟨by omega, by omega, by omega, h4⟩
  · cases h
theorem hr_bd {x : Int} (h0 : 0 ≤ x) (h1 : x < 4294967296) : 0 ≤ hrV x ∧ hrV x < 4294967296 := by unfold hrV; split <;> omega
theorem gd_of {b : List Int} (hb : Byt b) (h : rdE b = 0) : BmOK b (hW b).toNat (hrV (hH0 b)).toNat (hCn b).toNat (up4 (hW b * hCn b)).toNat (decide (2147483648 ≤ hH0 b)) := by
  unfold rdE at h
  split at h
  · rename_i k; exact absurd h k
  rename_i k1
  have k1 : hdE b = 0 := Classical.not_not.1 k1
  split at h
  · rename_i k; exact absurd h k
  rename_i k2
  have k2 : shC (hW b) (hrV (hH0 b)) = 0 := Classical.not_not.1 k2
  split at h
  · cases h
  split at h
  · cases h
  split at h
  rotate_left
  · cases h
  rename_i k3 k4 k5
  obtain ⟨_, _, k6, k7, k8⟩ := hd_inv k1
  have wb := lw_bd hb (a := 18) (n := 4) (by decide)
  have hb0 := lw_bd hb (a := 22) (n := 4) (by decide)
  have hrb := hr_bd hb0.1 hb0.2
  obtain ⟨w1, w2, r1, r2, wr⟩ := sh_inv (w := hW b) (r := hrV (hH0 b)) wb.1 hrb.1 k2
  have hc : hCn b = 3 ∨ hCn b = 4 := by unfold hCn; rcases k8 with k | k <;> rw [k] <;> decide
  have ec : (hCn b).toNat = hCn b := by omega
  have ew : ((hW b).toNat : Int) = hW b := Int.toNat_of_nonneg wb.1
  have eh : ((hrV (hH0 b)).toNat : Int) = hrV (hH0 b) := Int.toNat_of_nonneg hrb.1
  have ub := up4_bd (hW b * hCn b)
  have wc0 : 0 ≤ hW b * hCn b := Int.mul_nonneg wb.1 (by omega)
  have es : ((up4 (hW b * hCn b)).toNat : Int) = up4 (hW b * hCn b) := Int.toNat_of_nonneg (by omega)
  have en : (b.length : Int) = 54 + up4 (hW b * hCn b) * hrV (hH0 b) := by
    have : hNn b = up4 (hW b * hCn b) * hrV (hH0 b) := rfl
    omega
  have ewc : (((hW b).toNat * (hCn b).toNat : Nat) : Int) = hW b * hCn b := by rw [Int.natCast_mul, ew, ec]
  have est : (((hrV (hH0 b)).toNat * (up4 (hW b * hCn b)).toNat : Nat) : Int) = hNn b := by rw [Int.natCast_mul, eh, es, Int.mul_comm]
  refine ⟨hb, k1, ew.symm, eh.symm, rfl, ?_, by omega, by omega, by omega, by omega, by omega, ?_, by rw [ew, ec, es], by omega, by omega, ?_, k5.1, ?_⟩
  · rw [ec]; unfold hCn; rcases k8 with k | k <;> rw [k] <;> decide
  · have : (((hW b).toNat * (hrV (hH0 b)).toNat : Nat) : Int) = hW b * hrV (hH0 b) := by rw [Int.natCast_mul, ew, eh]
    omega
  · have : hNn b = up4 (hW b * hCn b) * hrV (hH0 b) := rfl
    omega
  · rw [est]; exact k5.2
def fr (dn : Bool) (H r : Nat) : Nat := if dn = true then r else H - 1 - r
abbrev bmS : PSpec := fun l => match l with
  | [.roi .u8 b] => some ([Byt b], .tup [imA (rdK b (hW b)) (rdK b (hrV (hH0 b))) (rdK b (hCn b)) (rdL b), .int .i64 (rdE b)])
  | _ => none
theorem rd_bad {b : List Int} (h : rdE b ≠ 0) : (∀ x, rdK b x = 0) ∧ rdL b = [] := ⟨fun x => if_neg h, if_neg h⟩
theorem fr_lt {dn : Bool} {H r : Nat} (h : r < H) : fr dn H r < H := by unfold fr; split <;> omega
end Go.Proofs.YtocboijpmmlegaaDoor
namespace Go.Proofs.YtocboijpmmlegaaDoor
open Go Go.RowKit
set_option maxHeartbeats 4000000
def rowRF : FSpec := fun l es => match l, es with
  | [.agg [.int .i64 w, .int .i64 h, .int .i64 c, .roi .u8 p], .int .i64 y], [] =>
    some ([imCheck w h c p.length = 0, 0 ≤ y, y < h], .sl 0 1 0 (w * c).toNat, [some (bE ((p.drop (y * (w * c)).toNat).take (w * c).toNat))])
  | _, _ => none
theorem rowR_g : GSOK Tryd.prog 79 (fG rowRF) := by
  refine fok (S := [(22, checkS)]) (G := glook [(45, fG cloneF)]) (pok_cons check_s pok_nil) (gl_cons clone_g gl_nil) ⟨Tryd.func79, by kernel_rfl, by kernel_rfl, by kernel_rfl⟩ fun l es obs v es' h ho => ?_
  (unfold rowRF at h; split at h; rotate_left; (focus (cases h)); rename_i w hh c p y; simp only [Option.some.injEq, Prod.mk.injEq] at h; obtain ⟨rfl, rfl, rfl⟩ := h; simp only [List.mem_cons, List.not_mem_nil, or_false, forall_eq_or_imp, forall_eq, false_implies, implies_true] at ho)
  obtain ⟨hc0, hy0, hy1⟩ := ho
  have hc := check_inv hc0
  obtain ⟨k1, k2, k3, k4⟩ := row_bd hc.1 hy0 hy1
  have hl := hc.2
  have q1 : rngI .i64 (w * c) := rng64 (by omega) (by omega)
  have q2 : rngI .i64 (y * (w * c)) := rng64 (by omega) (by omega)
  have q3 : rngI .i64 (y * (w * c) + w * c) := rng64 (by omega) (by omega)
  have e1 : (List.drop (y * (w * c)).toNat (List.take (y * (w * c) + w * c).toNat p)).length = (w * c).toNat := by
    rw [List.length_drop, List.length_take]; omega
  have e2 : List.drop (y * (w * c)).toNat (List.take (y * (w * c) + w * c).toNat p) = (p.drop (y * (w * c)).toNat).take (w * c).toNat := by
    rw [List.drop_take]; congr 1; omega
  refine ⟨Nat.le_of_ble_eq_true rfl, ?_⟩
  (repeat' (first | (refine xI (fun hfk => ?_) (fun hfk => ?_) <;> ((try (first | replace hfk := oT hfk | replace hfk := oF hfk | simp only [oA, oB, dh1, dh0, ne_eq, reduceCtorEq] at hfk)); (try exact oX))) | (refine And.intro ?ob ?_; (case ob => (exact oZ))) | exact True.intro | (show _ = _; first | exact oY | (skip; done) | exact rfl) | exact oW | (apply And.intro)))
  (refine ⟨[], ⟨by kernel_rfl⟩, ?_⟩)
  (repeat' (first | (refine xI (fun hfk => ?_) (fun hfk => ?_) <;> ((try (first | replace hfk := oT hfk | replace hfk := oF hfk | simp only [oA, oB, dh1, dh0, ne_eq, reduceCtorEq] at hfk)); (try exact oX))) | (refine And.intro ?ob ?_; (case ob => (exact oZ))) | exact True.intro | (show _ = _; first | exact oY | (skip; done) | exact rfl) | exact oW | (apply And.intro)))
  refine ⟨[some 1], ?_⟩
  (repeat' (first | (refine xI (fun hfk => ?_) (fun hfk => ?_) <;> ((try (first | replace hfk := oT hfk | replace hfk := oF hfk | simp only [oA, oB, dh1, dh0, ne_eq, reduceCtorEq] at hfk)); (try exact oX))) | (refine And.intro ?ob ?_; (case ob => (exact oZ))) | exact True.intro | (show _ = _; first | exact oY | (first | exact e1 | exact e2; done) | exact rfl) | exact oW | (apply And.intro)))
theorem hd_take {b : List Int} : hdE b = if tkC b ≠ 0 then tkC b else if fmP (lw b 6 4) (lw b 10 4) (lw b 14 4) (lw b 26 2) (lw b 28 2) (lw b 30 4) (lw b 46 4) (lw b 50 4) then 0 else 21 := by
  have hf : (frm0 b ∧ (lw b 28 2 = 24 ∨ lw b 28 2 = 32)) ↔ fmP (lw b 6 4) (lw b 10 4) (lw b 14 4) (lw b 26 2) (lw b 28 2) (lw b 30 4) (lw b 46 4) (lw b 50 4) := by
    unfold frm0 fmP
    constructor
    · rintro ⟨⟨a, b, c, d, e, f, g⟩, h⟩; exact ⟨a, e, f, g, b, c, d, h⟩
    · rintro ⟨a, e, f, g, b, c, d, h⟩; exact ⟨⟨a, b, c, d, e, f, g⟩, h⟩
  have hw : wordC b [66, 77] = if b.length = 0 ∨ (b.length = 1 ∧ b.getD 0 0 = 66) then 20 else if b.getD 0 0 ≠ 66 ∨ (1 < b.length ∧ b.getD 1 0 ≠ 77) then 21 else 0 := by
    match b with
    | [] => rfl
    | [x] =>
      show (if x = 66 then wordC [] [77] else 21) = _
      by_cases hx : x = 66
      · subst hx; rfl
      · rw [if_neg hx, if_neg (by simp [hx]), if_pos (by simp [hx])]
    | x :: y :: r =>
      show (if x = 66 then (if y = 77 then wordC r [] else 21) else 21) = _
      have h0 : ¬ ((x :: y :: r).length = 0 ∨ ((x :: y :: r).length = 1 ∧ (x :: y :: r).getD 0 0 = 66)) := by simp
      rw [if_neg h0]
      by_cases hx : x = 66
      · by_cases hy : y = 77
        · rw [if_pos hx, if_pos hy, if_neg (by simp [hx, hy])]; cases r <;> rfl
        · rw [if_pos hx, if_neg hy, if_pos (by simp [hy])]
      · rw [if_neg hx, if_pos (by simp [hx])]
  unfold hdE tkC
  rw [hw]
  by_cases k1 : b.length = 0 ∨ (b.length = 1 ∧ b.getD 0 0 = 66)
  · rw [if_pos k1, if_pos k1]; rfl
  rw [if_neg k1, if_neg k1]
  by_cases k2 : b.getD 0 0 ≠ 66 ∨ (1 < b.length ∧ b.getD 1 0 ≠ 77)
  · rw [if_pos k2, if_pos k2]; rfl
  rw [if_neg k2, if_neg k2]
  simp only [ne_eq, not_true_eq_false, if_false]
  by_cases k3 : b.length < 54
  · rw [if_pos k3, if_pos k3]; rfl
  rw [if_neg k3, if_neg k3]
  simp only [not_true_eq_false, if_false]
  by_cases k4 : frm0 b ∧ (lw b 28 2 = 24 ∨ lw b 28 2 = 32)
  · rw [if_pos k4, if_pos (hf.1 k4)]
  · rw [if_neg k4, if_neg (fun k => k4 (hf.2 k))]
end Go.Proofs.YtocboijpmmlegaaDoor

