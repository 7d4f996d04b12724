
/- Iterators: the places of a rectangle (rect.Places). No condition. -/
import Derived.Test.YtjnkjjojkfemoaaIu
namespace Go.Proofs.Ytjnkjjojkfemoaa
open Go Go.RowKit
set_option linter.unusedVariables false
set_option linter.unusedSimpArgs false
attribute [local go_sem] Oper.semAt_some

set_option maxRecDepth 100000 in
set_option maxHeartbeats 4000000 in
theorem places1_in (l b w h : Nat) (x0 y0 x1 y1 : Int) (hx0 : -2147483648 ≤ x0) (hy0 : -2147483648 ≤ y0) (hx1 : x1 ≤ 2147483648) (hy1 : y1 ≤ 2147483648) (hw : w = (x1 - x0).toNat) (hh : h = (y1 - y0).toNat) (J : Nat → PN → (Nat → Prop) → World → Prop) (Jx : World → Prop) (d : Nat)
    (hkw : ∀ k R O W, J k R O W → W.cell? ⟨b, 0, none⟩ = some (.int .i64 x0) ∧ W.cell? ⟨b, 1, none⟩ = some (.int .i64 y0) ∧ W.cell? ⟨b, 2, none⟩ = some (.int .i64 x1) ∧ W.cell? ⟨b, 3, none⟩ = some (.int .i64 y1))
    (hY : ∀ (i j : Nat) R O W, i < h → j < w → J (i * w + j) R O W → YieldAt Fence.wide d Try.prog l #[.int .i64 (x0 + (j : Int)), .int .i64 (y0 + (i : Int))] W fun e W' => (e = .returned (.bool true) ∧ ∃ R' O', J (i * w + j + 1) R' O' W') ∨ (e = .returned (.bool false) ∧ Jx W'))
    (W : World) (h0 : ∃ R O, J 0 R O W) :
    CallsIn Fence.wide (d + 1) Try.prog 71 #[.func (.yield l) #[] #[], .pointer (some ⟨b, 0, none⟩)] W fun e W' => (∃ v, e = .returned v) ∧ ((∃ R O, J (h * w) R O W') ∨ Jx W') := by
  refine callsIn_of_wp Try.func71 rfl trivial ?_ rfl
  simp only [Try.ntmps71, List.size_toArray, List.length_cons, List.length_nil, Nat.reduceAdd, Nat.reduceSub, Array.replicate_succ, Array.replicate_zero, List.push_toArray, List.append_toArray, List.nil_append, List.cons_append]
  obtain ⟨R0, O0, h0⟩ := h0
  obtain ⟨c0, c1, c2, c3⟩ := hkw _ _ _ _ h0
  gi_wp2
  gi_loopw [3] (fun y wr => ∃ (i : Nat) (R : PN) (O : Nat → Prop), i ≤ h ∧ y = .int .i64 (y0 + (i : Int)) ∧ J (i * w) R O wr)
    (fun y _ => (y1 - intOf y).toNat)
  case atStart => exact ⟨0, R0, O0, Nat.zero_le _, by simp, by simpa using h0⟩
  case round =>
    obtain ⟨i, R, O, hi, rfl, hJ⟩ := hrel
    obtain ⟨q0, q1, q2, q3⟩ := hkw _ _ _ _ hJ
    by_cases hlt : i < h
    · have hlt' : y0 + (i : Int) < y1 := by omega
      gi_wp2
      gi_loopw [4] (fun x wr => ∃ (j : Nat) (R : PN) (O : Nat → Prop), j ≤ w ∧ x = .int .i64 (x0 + (j : Int)) ∧ J (i * w + j) R O wr)
        (fun x _ => (x1 - intOf x).toNat)
      case atStart => exact ⟨0, R, O, Nat.zero_le _, by simp, by simpa using hJ⟩
      case round =>
        obtain ⟨j, R, O, hj, rfl, hJ⟩ := hrel
        obtain ⟨p0, p1, p2, p3⟩ := hkw _ _ _ _ hJ
        by_cases hjt : j < w
        · have hjt' : x0 + (j : Int) < x1 := by omega
          obtain ⟨fn, tmps, assign, body, hy, hR⟩ := hY i j _ _ _ hlt hjt hJ
          gi_wp2
          refine hR.mono ?_
          rintro e W3 (⟨rfl, R', O', hJ3⟩ | ⟨rfl, hJx3⟩)
          · gi_wp2
            go_roundw
            case rel => exact ⟨j + 1, R', O', by omega, by congr 1; omega, hJ3⟩
            case measure => simp [intOf]; omega
          · gi_wp2
            exact ⟨rfl, _, results_none rfl _ _ _, ⟨_, rfl⟩, .inr hJx3⟩
        · have hjt' : ¬ x0 + (j : Int) < x1 := by omega
          obtain rfl : j = w := by omega
          gi_wp2
          go_roundw
          case rel => exact ⟨i + 1, R, O, by omega, by congr 1; omega, by rw [Nat.succ_mul]; exact hJ⟩
          case measure => simp [intOf]; omega
    · have hlt' : ¬ y0 + (i : Int) < y1 := by omega
      have e : i = h := by omega
      rw [e, hw, hh] at hJ
      gi_wp2
      exact ⟨rfl, _, results_none rfl _ _ _, ⟨_, rfl⟩, .inl ⟨R, O, hJ⟩⟩
def placesRS : RSpec := fun cap H => match cap with
  | [.ptr i 0] => (match H.get i with
    | some (.cells _ [.int .i64 x0, .int .i64 y0, .int .i64 x1, .int .i64 y1]) => some ([-2147483648 ≤ x0, -2147483648 ≤ y0, x1 ≤ 2147483648, y1 ≤ 2147483648], (y1 - y0).toNat * (x1 - x0).toNat, fun k => [.int .i64 (x0 + ((k % (x1 - x0).toNat : Nat) : Int)), .int .i64 (y0 + ((k / (x1 - x0).toNat : Nat) : Int))])
    | _ => none)
  | _ => none
theorem places_it : RSOK Try.prog 71 placesRS := by
  refine ⟨⟨_, Try.func71, by kernel_rfl, by kernel_rfl⟩, fun cap H obs N items hs ho F Ob W0 R w lb hH hc => ?_⟩
  unfold placesRS at hs
  split at hs
  · rename_i i
    split at hs
    · rename_i t x0 y0 x1 y1 hi
      simp only [Option.some.injEq, Prod.mk.injEq] at hs
      obtain ⟨rfl, rfl, rfl⟩ := hs
      simp only [List.mem_cons, List.not_mem_nil, or_false, forall_eq_or_imp, forall_eq] at ho
      obtain ⟨o1, o2, o3, o4⟩ := ho
      intro d l J Jx W hq hqx hkw hY h0
      have e1 := hc.1
      obtain ⟨v1, rfl⟩ : ∃ v1, lb = [v1] := by match lb, e1 with | [a], _ => exact ⟨a, rfl⟩
      have r1 := hc.2 0 _ v1 rfl rfl
      cases r1 with
      | ptr _ _ b hb =>
      refine (places1_in l b _ _ x0 y0 x1 y1 o1 o2 o3 o4 rfl rfl J Jx d (fun k R' O' W' hJ => ?_) (fun i j R' O' W' h1 h2 hJ => ?_) W h0).mono fun e W' h => h
      · have kw := hkw k R' O' W' hJ
        have key : ∀ (j : Nat) (x : Int), [AV.int .i64 x0, .int .i64 y0, .int .i64 x1, .int .i64 y1][j]? = some (.int .i64 x) → W'.cell? ⟨b, j, none⟩ = some (.int .i64 x) := fun j x hj => by
          obtain ⟨v, k1, k2, k3⟩ := kw_cells kw hi (by simp [nmsL, nms0]) hb j _ hj
          cases k3
          exact k1
        exact ⟨key 0 _ rfl, key 1 _ rfl, key 2 _ rfl, key 3 _ rfl⟩
      · have hlt : i * (x1 - x0).toNat + j < (y1 - y0).toNat * (x1 - x0).toNat := by
          have := Nat.mul_le_mul_right (x1 - x0).toNat (Nat.succ_le_of_lt h1)
          rw [Nat.succ_mul] at this
          omega
        have m1 : (i * (x1 - x0).toNat + j) % (x1 - x0).toNat = j := by rw [Nat.mul_comm, Nat.mul_add_mod, Nat.mod_eq_of_lt h2]
        have m2 : (i * (x1 - x0).toNat + j) / (x1 - x0).toNat = i := by rw [Nat.mul_comm, Nat.mul_add_div (by omega), Nat.div_eq_of_lt h2, Nat.add_zero]
        refine hY _ R' O' W' [.int .i64 (x0 + (j : Int)), .int .i64 (y0 + (i : Int))] hlt hJ ?_
        dsimp only
        rw [m1, m2]
        exact crel_cons (.int _ _) (crel_cons (.int _ _) crel_nil)
    · cases hs
  · cases hs
end Go.Proofs.Ytjnkjjojkfemoaa
