
/- Images of several channels: what the layer tint and the document answer. No condition. -/
import Derived.Test.YtjnkjjojkfemoaaI8b
import Derived.Test.YtjnkjjojkfemoaaFi
namespace Go.Proofs.Ytjnkjjojkfemoaa
open Go Go.RowKit
set_option linter.unusedVariables false
set_option linter.unusedSimpArgs false
set_option maxRecDepth 100000

/-- A new image, its bytes its own. -/
def newF : FSpec := fun l es => match l, es with
  | [.int .i64 w, .int .i64 h, .int .i64 c], [] => some ([fitsI w h c = 0], .tup [.agg [.int .i64 w, .int .i64 h, .int .i64 c, .sl 0 1 0 (w * h * c).toNat], .int .i64 0], [some (.ints 5 .u8 (List.replicate (w * h * c).toNat 0))])
  | _, _ => none
theorem new_g : GSOK Try.prog 87 (fG newF) := by
  refine fok (S := [(123, fitsS)]) (G := noG) (pok_cons fits_s pok_nil) noG_ok ⟨Try.func87, by kernel_rfl, by kernel_rfl, by kernel_rfl⟩ fun l es obs v es' h ho => ?_
  unfold newF at h
  split at h
  · rename_i w hh c
    simp only [Option.some.injEq, Prod.mk.injEq] at h
    obtain ⟨rfl, rfl, rfl⟩ := h
    have h1 : fitsI w hh c = 0 := ho _ (by simp)
    clear ho
    have hb := fits_inv h1
    obtain ⟨q1, q2⟩ := whc_rng h1
    refine ⟨Nat.le_of_ble_eq_true rfl, ?_⟩
    have o1 : 0 ≤ w * hh * c ∧ w * hh * c ≤ w * hh * c ∧ w * hh * c ≤ 140737488355328 ∧ w * hh * c * ((1 : Nat) : Int) ≤ 140737488355328 := by omega
    (repeat (first | (refine ⟨fun hh => absurd hh ?prx, fun _ => ?_⟩; (case prx => (simp [h1]; done))) | (refine ⟨fun _ => ?_, fun hh => absurd hh ?prx⟩; (case prx => (simp [h1]; done))) | (refine ⟨?prx, ?_⟩; (case prx => (first | exact Chk.mk (by kernel_rfl) | exact rfl | (first | exact q1 | exact q2 | exact o1))))))
    refine ⟨[some 1], ⟨by kernel_rfl⟩, ⟨⟨rfl, rfl, rfl, rfl, rfl⟩, rfl⟩, rfl, True.intro⟩
  · cases h

def oneC (m v : Im) : Int := if imCheck m.w m.h m.c m.p.length ≠ 0 then imCheck m.w m.h m.c m.p.length else if m.c ≠ 1 then 10 else if m.w ≠ v.w ∨ m.h ≠ v.h then 12 else 0
abbrev oneS : PSpec := fun l => match l with
  | [.agg [.int .i64 w, .int .i64 h, .int .i64 c, .roi .u8 p], .agg [.int .i64 v, .int .i64 g, .int .i64 d, .roi .u8 q]] => some ([], .int .i64 (oneC ⟨w, h, c, p⟩ ⟨v, g, d, q⟩)) | _ => none
theorem one_s : SOK Try.prog 86 oneS := by
  refine sok_of (C := mkC 0 [(83, checkS)] noG) (mkC_ok (pok_cons check_s pok_nil) noG_ok) rfl mixed ⟨Try.func86, by kernel_rfl, by kernel_rfl, by kernel_rfl⟩ fun l obs v h ho => ?_
  unfold oneS at h
  split at h
  · rename_i w hh c p v g d q
    simp only [Option.some.injEq, Prod.mk.injEq] at h
    obtain ⟨rfl, rfl⟩ := h
    clear ho
    refine ⟨Nat.le_of_ble_eq_true rfl, ?_⟩
    by_cases k1 : imCheck w hh c p.length = 0
    · by_cases k2 : c = 1
      · subst k2
        by_cases k3 : w = v
        · subst k3
          by_cases k4 : hh = g
          · subst k4
            have e : oneC ⟨w, hh, 1, p⟩ ⟨w, hh, d, q⟩ = 0 := by simp [oneC, k1]
            rw [e]
            (repeat (first | (refine ⟨fun hh => absurd hh ?prx, fun _ => ?_⟩; (case prx => (simp [k1]; done))) | (refine ⟨fun _ => ?_, fun hh => absurd hh ?prx⟩; (case prx => (simp [k1]; done))) | (refine ⟨?prx, ?_⟩; (case prx => (first | exact Chk.mk (by kernel_rfl) | exact rfl | exact rfl)))))
            exact rfl
          · have e : oneC ⟨w, hh, 1, p⟩ ⟨w, g, d, q⟩ = 12 := by simp [oneC, k1, k4]
            rw [e]
            (repeat (first | (refine ⟨fun hh => absurd hh ?prx, fun _ => ?_⟩; (case prx => (simp [k1, k4]; done))) | (refine ⟨fun _ => ?_, fun hh => absurd hh ?prx⟩; (case prx => (simp [k1, k4]; done))) | (refine ⟨?prx, ?_⟩; (case prx => (first | exact Chk.mk (by kernel_rfl) | exact rfl | exact rfl)))))
            exact rfl
        · have e : oneC ⟨w, hh, 1, p⟩ ⟨v, g, d, q⟩ = 12 := by simp [oneC, k1, k3]
          rw [e]
          (repeat (first | (refine ⟨fun hh => absurd hh ?prx, fun _ => ?_⟩; (case prx => (simp [k1, k3]; done))) | (refine ⟨fun _ => ?_, fun hh => absurd hh ?prx⟩; (case prx => (simp [k1, k3]; done))) | (refine ⟨?prx, ?_⟩; (case prx => (first | exact Chk.mk (by kernel_rfl) | exact rfl | exact rfl)))))
          exact rfl
      · have e : oneC ⟨w, hh, c, p⟩ ⟨v, g, d, q⟩ = 10 := by simp [oneC, k1, k2]
        rw [e]
        (repeat (first | (refine ⟨fun hh => absurd hh ?prx, fun _ => ?_⟩; (case prx => (simp [k1, k2]; done))) | (refine ⟨fun _ => ?_, fun hh => absurd hh ?prx⟩; (case prx => (simp [k1, k2]; done))) | (refine ⟨?prx, ?_⟩; (case prx => (first | exact Chk.mk (by kernel_rfl) | exact rfl | exact rfl)))))
        exact rfl
    · have e : oneC ⟨w, hh, c, p⟩ ⟨v, g, d, q⟩ = imCheck w hh c p.length := by simp [oneC, k1]
      rw [e]
      (repeat (first | (refine ⟨fun hh => absurd hh ?prx, fun _ => ?_⟩; (case prx => (simp [k1]; done))) | (refine ⟨fun _ => ?_, fun hh => absurd hh ?prx⟩; (case prx => (simp [k1]; done))) | (refine ⟨?prx, ?_⟩; (case prx => (first | exact Chk.mk (by kernel_rfl) | exact rfl | exact rfl)))))
      exact rfl
  · cases h
abbrev grayS : PSpec := fun l => match l with
  | [.roi .u8 p] => some ([∀ x ∈ p, 0 ≤ x ∧ x ≤ 255], .int .u8 ((128 + 77 * p.getD 0 0 + 150 * p.getD 1 0 + 29 * p.getD 2 0) / 256)) | _ => none
def grayP (p : List Int) : Nat → Int
  | 0 => 128
  | 1 => 128 + 77 * p.getD 0 0
  | 2 => 128 + 77 * p.getD 0 0 + 150 * p.getD 1 0
  | _ => 128 + 77 * p.getD 0 0 + 150 * p.getD 1 0 + 29 * p.getD 2 0
theorem gray_s : SOK Try.prog 29 grayS := by
  refine sok_of (C := mkC 0 [] noG) (mkC_ok pok_nil noG_ok) rfl mixed ⟨Try.func29, by kernel_rfl, by kernel_rfl, by kernel_rfl⟩ fun l obs v h ho => ?_
  unfold grayS at h
  split at h
  · rename_i p
    simp only [Option.some.injEq, Prod.mk.injEq] at h
    obtain ⟨rfl, rfl⟩ := h
    have hp : ∀ x ∈ p, 0 ≤ x ∧ x ≤ 255 := ho _ (List.mem_singleton.2 rfl)
    clear ho
    have hb : ∀ i : Nat, 0 ≤ p.getD i 0 ∧ p.getD i 0 ≤ 255 := fun i => by
      by_cases hi : i < p.length
      · have : p.getD i 0 = p[i] := by simp [List.getD, hi]
        rw [this]; exact hp _ (List.getElem_mem hi)
      · simp [List.getD, hi]
    have g0 := hb 0
    have g1 := hb 1
    have g2 := hb 2
    have gp0 : grayP p 0 = 128 := rfl
    have gp1 : grayP p 1 = 128 + 77 * p.getD 0 0 := rfl
    have gp2 : grayP p 2 = 128 + 77 * p.getD 0 0 + 150 * p.getD 1 0 := rfl
    have gp3 : grayP p 3 = 128 + 77 * p.getD 0 0 + 150 * p.getD 1 0 + 29 * p.getD 2 0 := rfl
    refine ⟨Nat.le_of_ble_eq_true rfl, ?_⟩
    refine ⟨Nat, fun i => [(0, .roi .u8 p), (3, .int .i64 (grayP p i)), (6, .agg [.int .i64 77, .int .i64 150, .int .i64 29]), (7, .int .i64 i)], fun i => ⟨0, []⟩,
      fun i => i ≤ 3, fun i => 3 - i, ⟨0, [], by decide, ?_⟩, fun i hi => ?_⟩
    · (repeat' (first | apply And.intro | intro h)); (all_goals (try exact Chk.mk (by kernel_rfl)))
      (all_goals (try first | exact True.intro | exact rfl | exact And.intro rfl rfl | exact And.intro rfl (fun _ _ => rfl)))
    refine ⟨fun hy => ?_, fun hy => ?_⟩
    · replace hy : (i : Int) < 3 := of_decide_eq_true hy
      have hi3 : i = 0 ∨ i = 1 ∨ i = 2 := by omega
      rcases hi3 with rfl | rfl | rfl
      · have o2 : rngI .i64 (p.getD 0 0) := rng64 (by omega) (by omega)
        have o3 : rngI .i64 (77 * p.getD 0 0) := rng64 (by omega) (by omega)
        have o4 : rngI .i64 (grayP p 0 + 77 * p.getD 0 0) := rng64 (by omega) (by omega)
        have o5 : rngI .i64 (((0 : Nat) : Int) + 1) := rng64 (by decide) (by decide)
        refine ⟨by decide, fun h1 => ?_, fun h1 => ?_⟩
        · have o1 : 0 ≤ ((0 : Nat) : Int) ∧ ((0 : Nat) : Int) < (p.length : Int) := ⟨by decide, of_decide_eq_true h1⟩
          refine ⟨o1, o2, o3, o4, o5, 1, [], by decide, by decide, ?_⟩
          (repeat' (first | apply And.intro | intro h)); (all_goals (try exact Chk.mk (by kernel_rfl)))
          (all_goals (try first | exact True.intro | exact rfl | exact And.intro rfl rfl | exact And.intro rfl (fun _ _ => rfl)))
        · have h1 := of_decide_eq_false h1
          have e : p.getD 0 0 = 0 := by
            have : p.length ≤ 0 := by omega
            simp [List.getD, this]
          have e2 : grayP p 1 = grayP p 0 := by omega
          refine ⟨o5, 1, [], by decide, by decide, ?_⟩
          (repeat' (first | apply And.intro | intro h)); (all_goals (try exact Chk.mk (by kernel_rfl)))
          all_goals (try first | exact True.intro | exact e2.symm | exact rfl)
      · have o2 : rngI .i64 (p.getD 1 0) := rng64 (by omega) (by omega)
        have o3 : rngI .i64 (150 * p.getD 1 0) := rng64 (by omega) (by omega)
        have o4 : rngI .i64 (grayP p 1 + 150 * p.getD 1 0) := rng64 (by omega) (by omega)
        have o5 : rngI .i64 (((1 : Nat) : Int) + 1) := rng64 (by decide) (by decide)
        refine ⟨by decide, fun h1 => ?_, fun h1 => ?_⟩
        · have o1 : 0 ≤ ((1 : Nat) : Int) ∧ ((1 : Nat) : Int) < (p.length : Int) := ⟨by decide, of_decide_eq_true h1⟩
          refine ⟨o1, o2, o3, o4, o5, 2, [], by decide, by decide, ?_⟩
          (repeat' (first | apply And.intro | intro h)); (all_goals (try exact Chk.mk (by kernel_rfl)))
          (all_goals (try first | exact True.intro | exact rfl | exact And.intro rfl rfl | exact And.intro rfl (fun _ _ => rfl)))
        · have h1 := of_decide_eq_false h1
          have e : p.getD 1 0 = 0 := by
            have : p.length ≤ 1 := by omega
            simp [List.getD, this]
          have e2 : grayP p 2 = grayP p 1 := by omega
          refine ⟨o5, 2, [], by decide, by decide, ?_⟩
          (repeat' (first | apply And.intro | intro h)); (all_goals (try exact Chk.mk (by kernel_rfl)))
          all_goals (try first | exact True.intro | exact e2.symm | exact rfl)
      · have o2 : rngI .i64 (p.getD 2 0) := rng64 (by omega) (by omega)
        have o3 : rngI .i64 (29 * p.getD 2 0) := rng64 (by omega) (by omega)
        have o4 : rngI .i64 (grayP p 2 + 29 * p.getD 2 0) := rng64 (by omega) (by omega)
        have o5 : rngI .i64 (((2 : Nat) : Int) + 1) := rng64 (by decide) (by decide)
        refine ⟨by decide, fun h1 => ?_, fun h1 => ?_⟩
        · have o1 : 0 ≤ ((2 : Nat) : Int) ∧ ((2 : Nat) : Int) < (p.length : Int) := ⟨by decide, of_decide_eq_true h1⟩
          refine ⟨o1, o2, o3, o4, o5, 3, [], by decide, by decide, ?_⟩
          (repeat' (first | apply And.intro | intro h)); (all_goals (try exact Chk.mk (by kernel_rfl)))
          (all_goals (try first | exact True.intro | exact rfl | exact And.intro rfl rfl | exact And.intro rfl (fun _ _ => rfl)))
        · have h1 := of_decide_eq_false h1
          have e : p.getD 2 0 = 0 := by
            have : p.length ≤ 2 := by omega
            simp [List.getD, this]
          have e2 : grayP p 3 = grayP p 2 := by omega
          refine ⟨o5, 3, [], by decide, by decide, ?_⟩
          (repeat' (first | apply And.intro | intro h)); (all_goals (try exact Chk.mk (by kernel_rfl)))
          all_goals (try first | exact True.intro | exact e2.symm | exact rfl)
    · replace hy : ¬ (i : Int) < 3 := of_decide_eq_false hy
      have ei : i = 3 := by have : i ≤ 3 := hi; omega
      subst ei
      refine ⟨by decide, ?_⟩
      show IntKind.u8.wrap ((grayP p 3).fdiv (2 ^ min (Int.toNat 8) IntKind.i64.bits)) = (128 + 77 * p.getD 0 0 + 150 * p.getD 1 0 + 29 * p.getD 2 0) / 256
      have e1 : (2 : Int) ^ min (Int.toNat 8) IntKind.i64.bits = 256 := by decide
      have e2 : ∀ n : Int, IntKind.u8.wrap n = n % 256 := fun n => by simp [IntKind.wrap, IntKind.signed, IntKind.bits]
      rw [e1, e2, Int.fdiv_eq_ediv_of_nonneg _ (by decide), gp3]
      omega
  · cases h
theorem gray_w : (∀ x ∈ [(255 : Int), 255, 255], 0 ≤ x ∧ x ≤ 255) ∧ (∀ x ∈ [(255 : Int), 0, 0], 0 ≤ x ∧ x ≤ 255) := by decide
theorem alive11_s : SOK Try.prog 31 (sN (.bool true)) := by
  refine sok_of (C := mkC 0 [(29, grayS)] noG) (mkC_ok (pok_cons gray_s pok_nil) noG_ok) rfl mixed ⟨Try.func31, by kernel_rfl, by kernel_rfl, by kernel_rfl⟩ fun l obs v h ho => ?_
  obtain ⟨rfl, rfl⟩ := sN_inv h
  refine ⟨Nat.le_of_ble_eq_true rfl, ?_⟩
  refine ⟨by decide, gray_w.1, fun h1 => ⟨by decide, gray_w.2, ?_⟩, fun h1 => absurd h1 (by decide)⟩
  show _ = _
  decide
end Go.Proofs.Ytjnkjjojkfemoaa
