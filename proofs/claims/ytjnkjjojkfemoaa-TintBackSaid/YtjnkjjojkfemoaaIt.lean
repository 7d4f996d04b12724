
/- Iterators: pieces of a slice, one behind the other (slices.Chunk). No condition. -/
import Derived.Test.YtjnkjjojkfemoaaA
import Derived.Test.YtjnkjjojkfemoaaE18
import Derived.Shelf.Abstract
import Derived.WalkKit
import Derived.OwnWalkIn
import Derived.TacticsInMore
import Derived.LoopNIn
import Derived.LoopIn
namespace Go.Proofs.Ytjnkjjojkfemoaa
open Go Go.RowKit
set_option linter.unusedVariables false
set_option linter.unusedSimpArgs false
attribute [local go_sem] Oper.semAt_some

section
variable {P : Program} {R R' : PN} {w W : World} {F Ob : Nat → Prop} {W0 : World} {H : AH} {O O' : Nat → Prop}
/-- What stands in a captured place, at whatever world. -/
theorem kw_cells {cap : List AV} (h : KWof cap H R R' O' W) {i b : Nat} {t : TypeId} {l : List AV} (hi : H.get i = some (.cells t l)) (hm : i ∈ nmsL cap) (hR : R[i]? = some (some b)) :
    ∀ j x, l[j]? = some x → ∃ v, W.cell? ⟨b, j, none⟩ = some v ∧ v.oneCell' = true ∧ Rep R' W O' x v := by
  obtain ⟨hRR, F', Ob', W0', H', hH, rfl, hs⟩ := h
  have hi' : H'.get i = some (.cells t l) := by
    have key : ∀ l : List Nat, i ∈ l → sameE l H H' → H'.get i = H.get i := by
      intro l
      induction l with
      | nil => intro h; cases h
      | cons a l ih =>
        intro h ⟨k1, k2⟩
        rcases List.mem_cons.1 h with rfl | h
        · exact k1
        · exact ih h k2
    rw [key _ hm hs, hi]
  obtain ⟨b', h1, h2⟩ := hH.ent i _ hi'
  rw [hRR i _ hR] at h1
  cases h1
  obtain ⟨vs, fr, h3, h4, h5, h6⟩ := h2
  intro j x hj
  have hlt : j < vs.length := by rw [← h5]; exact (List.getElem?_eq_some_iff.1 hj).1
  obtain ⟨k1, k2⟩ := h6 j x vs[j] hj (by simp [hlt])
  exact ⟨vs[j], by simp [World.cell?, h3, hlt], k1, k2⟩
/-- A slice of m elements of one cell: what it looks like, and its pieces. -/
def Pieces (R : PN) (W : World) (O : Nat → Prop) (pc : Nat → Nat → AV) (m : Nat) (sv : Value) : Prop :=
  (m = 0 ∧ ∃ A c, sv = .slice A 0 c) ∨ ∃ b off c, sv = .slice (some ⟨b, off, none⟩) m c ∧ m ≤ c ∧ c ≤ maxLen ∧ ∀ lo hi, lo ≤ hi → hi ≤ m → Rep R W O (pc lo (hi - lo)) (.slice (some ⟨b, off + lo, none⟩) (hi - lo) (hi - lo))
theorem pieces_roi {k : IntKind} {l : List Int} {v : Value} (h : Rep R W O (.roi k l) v) : Pieces R W O (fun lo n => .roi k ((l.drop lo).take n)) l.length v := by
  cases h with
  | roinil => exact .inl ⟨rfl, none, 0, rfl⟩
  | roiz _ a c hc => exact .inl ⟨rfl, _, _, rfl⟩
  | roi _ _ b off c hn hc hO hb hcell =>
    refine .inr ⟨b, off, c, rfl, hn, hc, fun lo hi h1 h2 => ?_⟩
    have hl : ((l.drop lo).take (hi - lo)).length = hi - lo := by simp; omega
    have := Rep.roi (R := R) (w := W) (O := O) k ((l.drop lo).take (hi - lo)) b (off + lo) (hi - lo) (by omega) (by omega) hO hb (fun j x hj => by
      have hj1 : j < hi - lo := by have := (List.getElem?_eq_some_iff.1 hj).1; omega
      rw [List.getElem?_take_of_lt hj1, List.getElem?_drop] at hj
      rw [Nat.add_assoc]
      exact hcell _ x hj)
    rw [hl] at this
    exact this
theorem pieces_sl {i o m : Nat} {v : Value} (h : Rep R W O (.sl i 1 o m) v) : Pieces R W O (fun lo n => .sl i 1 (o + lo) n) m v := by
  cases h with
  | slnil _ _ _ h => exact .inl ⟨rfl, none, 0, rfl⟩
  | sl _ _ _ _ b c off s h hn hc ho hs hl =>
    by_cases hm : m = 0
    · subst hm; exact .inl ⟨rfl, _, _, rfl⟩
    · refine .inr ⟨b, off, c, rfl, hn, hc, fun lo hi h1 h2 => ?_⟩
      have := ho (by omega)
      exact .sl i 1 (o + lo) (hi - lo) b (hi - lo) (off + lo) s h (Nat.le_refl _) (by omega) (fun _ => by omega) hs (by omega)
end

set_option maxRecDepth 100000 in
set_option maxHeartbeats 4000000 in
theorem chunk1_in (l b1 b2 m : Nat) (n : Int) (hn : 1 ≤ n) (hm : (m : Int) + n ≤ 9223372036854775807) (pc : Nat → Nat → AV) (J : Nat → PN → (Nat → Prop) → World → Prop) (Jx : World → Prop) (d : Nat)
    (hq : ∀ k R O w w', J k R O w → Ext NoO w w' → J k R O w')
    (hkw : ∀ k R O W, J k R O W → ∃ sv, W.cell? ⟨b1, 0, none⟩ = some sv ∧ Pieces R W O pc m sv ∧ W.cell? ⟨b2, 0, none⟩ = some (.int .i64 n))
    (hY : ∀ k R O W (args : List Value), k * n.toNat < m → J k R O W → CRel R W O [pc (k * n.toNat) (min n.toNat (m - k * n.toNat))] args → YieldAt Fence.wide d Try.prog l args.toArray W fun e W' => (e = .returned (.bool true) ∧ ∃ R' O', J (k + 1) R' O' W') ∨ (e = .returned (.bool false) ∧ Jx W'))
    (W : World) (h0 : ∃ R O, J 0 R O W) :
    CallsIn Fence.wide (d + 1) Try.prog 140 #[.func (.yield l) #[] #[], .pointer (some ⟨b1, 0, none⟩), .pointer (some ⟨b2, 0, none⟩)] W fun e W' => (∃ v, e = .returned v) ∧ ((∃ k R O, m ≤ k * n.toNat ∧ (k = 0 ∨ (k - 1) * n.toNat < m) ∧ J k R O W') ∨ Jx W') := by
  refine callsIn_of_wp Try.func140 rfl trivial ?_ rfl
  simp only [Try.ntmps140, List.size_toArray, List.length_cons, List.length_nil, Nat.reduceAdd, Nat.reduceSub, Array.replicate_succ, Array.replicate_zero, List.push_toArray, List.append_toArray, List.nil_append, List.cons_append]
  obtain ⟨R0, O0, h0⟩ := h0
  gi_wp2
  gi_loopw [4] (fun i wr => ∃ (k : Nat) (R : PN) (O : Nat → Prop), (k = 0 ∨ (k - 1) * n.toNat < m) ∧ i = .int .i64 ((k * n.toNat : Nat) : Int) ∧ J k R O wr)
    (fun i _ => m + n.toNat - (intOf i).toNat)
  case atStart => exact ⟨0, R0, O0, .inl rfl, by simp, h0⟩
  case round =>
    obtain ⟨k, R, O, hk, rfl, hJ⟩ := hrel
    obtain ⟨sv, hc1, hpc, hc2⟩ := hkw k R O wr hJ
    generalize hK : k * n.toNat = K at *
    by_cases hlt : K < m
    · rcases hpc with ⟨rfl, _⟩ | ⟨b, off, c, rfl, hmc, hcm, hpc⟩
      · omega
      have hY' := hY k R O wr.drew
      rw [hK] at hY'
      by_cases hcase : n ≤ ((m - K : Nat) : Int)
      · obtain ⟨fn, tmps, assign, body, hy, hR⟩ := hY' [.slice (some ⟨b, off + K, none⟩) (((K : Int) + n).toNat - K) (((K : Int) + n).toNat - K)] hlt (hq _ _ _ _ _ hJ (Ext.drew _ _)) (by
          have e : min n.toNat (m - K) = ((K : Int) + n).toNat - K := by omega
          rw [e]
          exact crel_cons ((hpc K ((K : Int) + n).toNat (by omega) (by omega)).mono (fun _ _ k => k) (Ext.drew O _) (fun _ _ k => k)) crel_nil)
        gi_wp2
        gi_region
        all_goals gi_wp2
        all_goals first
          | (exfalso; omega)
          | skip
        refine hR.mono ?_
        rintro e W3 (⟨rfl, R', O', hJ3⟩ | ⟨rfl, hJx3⟩)
        · obtain ⟨sv', hc1', _, hc2'⟩ := hkw (k + 1) R' O' W3 hJ3
          gi_wp2
          go_roundw
          case rel =>
            refine ⟨k + 1, R', O', .inr (by rw [Nat.add_sub_cancel, hK]; exact hlt), ?_, hJ3⟩
            rw [Nat.add_mul, hK, Nat.one_mul]
            congr 1
            omega
          case measure => simp [intOf]; omega
        · gi_wp2
          refine ⟨rfl, _, results_none rfl _ _ _, ⟨_, rfl⟩, .inr hJx3⟩
      · obtain ⟨fn, tmps, assign, body, hy, hR⟩ := hY' [.slice (some ⟨b, off + K, none⟩) (m - K) (m - K)] hlt (hq _ _ _ _ _ hJ (Ext.drew _ _)) (by
          have e : min n.toNat (m - K) = m - K := by omega
          rw [e]
          exact crel_cons ((hpc K m (by omega) (by omega)).mono (fun _ _ k => k) (Ext.drew O _) (fun _ _ k => k)) crel_nil)
        gi_wp2
        gi_region
        all_goals gi_wp2
        all_goals first
          | (exfalso; omega)
          | skip
        refine hR.mono ?_
        rintro e W3 (⟨rfl, R', O', hJ3⟩ | ⟨rfl, hJx3⟩)
        · obtain ⟨sv', hc1', _, hc2'⟩ := hkw (k + 1) R' O' W3 hJ3
          gi_wp2
          go_roundw
          case rel =>
            refine ⟨k + 1, R', O', .inr (by rw [Nat.add_sub_cancel, hK]; exact hlt), ?_, hJ3⟩
            rw [Nat.add_mul, hK, Nat.one_mul]
            congr 1
            omega
          case measure => simp [intOf]; omega
        · gi_wp2
          refine ⟨rfl, _, results_none rfl _ _ _, ⟨_, rfl⟩, .inr hJx3⟩
    · rcases hpc with ⟨rfl, A, c, rfl⟩ | ⟨b, off, c, rfl, hmc, hcm, hpc⟩
      · gi_wp2
        exact ⟨rfl, _, results_none rfl _ _ _, ⟨_, rfl⟩, .inl ⟨k, R, O, by omega, by rw [hK] at *; exact hk, hJ⟩⟩
      · gi_wp2
        exact ⟨rfl, _, results_none rfl _ _ _, ⟨_, rfl⟩, .inl ⟨k, R, O, by omega, hk, hJ⟩⟩


theorem ceil_lt {k n m : Nat} (hn : 0 < n) (h : k * n < m) : k < (m + n - 1) / n := by
  have : k + 1 ≤ (m + n - 1) / n := (Nat.le_div_iff_mul_le hn).2 (by rw [Nat.add_mul]; omega)
  omega
theorem ceil_eq {k n m : Nat} (hn : 0 < n) (h1 : m ≤ k * n) (h2 : k = 0 ∨ (k - 1) * n < m) : k = (m + n - 1) / n := by
  have a : ¬ (k < (m + n - 1) / n) := fun h => by
    have := (Nat.le_div_iff_mul_le hn).1 (Nat.succ_le_of_lt h)
    rw [Nat.succ_mul] at this
    omega
  rcases h2 with rfl | h2
  · exact (Nat.eq_zero_of_not_pos a).symm
  · have := ceil_lt hn h2
    omega
theorem take_min (l : List Int) (n : Nat) : l.take (min n l.length) = l.take n := by
  rcases Nat.le_total n l.length with h | h
  · rw [Nat.min_eq_left h]
  · rw [Nat.min_eq_right h, List.take_of_length_le (Nat.le_refl _), List.take_of_length_le h]
def chunkRS : RSpec := fun cap H => match cap with
  | [.ptr i 0, .ptr j 0] => (match H.get i, H.get j with
    | some (.cells _ [.roi k l]), some (.cells _ [.int .i64 n]) => some ([1 ≤ n, (l.length : Int) + n ≤ 9223372036854775807], (l.length + n.toNat - 1) / n.toNat, fun q => [.roi k ((l.drop (q * n.toNat)).take n.toNat)])
    | some (.cells _ [.sl a 1 o m]), some (.cells _ [.int .i64 n]) => some ([1 ≤ n, (m : Int) + n ≤ 9223372036854775807], (m + n.toNat - 1) / n.toNat, fun q => [.sl a 1 (o + q * n.toNat) (min n.toNat (m - q * n.toNat))])
    | _, _ => none)
  | _ => none
theorem chunk_core {i j : Nat} {x : AV} {n : Int} {m : Nat} {pc : Nat → Nat → AV} {H : AH} {t1 t2 : TypeId} (hi : H.get i = some (.cells t1 [x])) (hj : H.get j = some (.cells t2 [.int .i64 n])) (hn : 1 ≤ n) (hm : (m : Int) + n ≤ 9223372036854775807)
    (hpc : ∀ (R : PN) (W : World) (O : Nat → Prop) (v : Value), Rep R W O x v → Pieces R W O pc m v) {R : PN} {w : World} {O : Nat → Prop} {lb : List Value} (hc : CRel R w O [.ptr i 0, .ptr j 0] lb) {items : Nat → List AV} (hit : ∀ q, items q = [pc (q * n.toNat) (min n.toNat (m - q * n.toNat))]) :
    IterOK Try.prog 140 lb.toArray ((m + n.toNat - 1) / n.toNat) items (KWof [.ptr i 0, .ptr j 0] H R) := by
  intro d l J Jx W hq hqx hkw hY h0
  have e1 := hc.1
  obtain ⟨v1, v2, rfl⟩ : ∃ v1 v2, lb = [v1, v2] := by match lb, e1 with | [a, b], _ => exact ⟨a, b, rfl⟩
  have r1 := hc.2 0 _ v1 rfl rfl
  have r2 := hc.2 1 _ v2 rfl rfl
  cases r1 with
  | ptr _ _ b1 hb1 =>
  cases r2 with
  | ptr _ _ b2 hb2 =>
  refine (chunk1_in l b1 b2 m n hn hm pc J Jx d hq (fun k R' O' W' hJ => ?_) (fun k R' O' W' args hk hJ ha => ?_) W h0).mono ?_
  · have kw := hkw k R' O' W' hJ
    obtain ⟨v, k1, k2, k3⟩ := kw_cells kw hi (by simp [nmsL, nms0]) hb1 0 x rfl
    obtain ⟨u, q1, q2, q3⟩ := kw_cells kw hj (by simp [nmsL, nms0]) hb2 0 (.int .i64 n) rfl
    cases q3
    exact ⟨v, k1, hpc _ _ _ _ k3, q1⟩
  · exact hY k R' O' W' args (ceil_lt (by omega) hk) hJ (by rw [hit]; exact ha)
  · rintro e W' ⟨hv, ⟨k, R', O', h1, h2, h3⟩ | h⟩
    · have := ceil_eq (by omega) h1 h2
      subst this
      exact ⟨hv, .inl ⟨R', O', h3⟩⟩
    · exact ⟨hv, .inr h⟩
theorem chunk_it : RSOK Try.prog 140 chunkRS := by
  refine ⟨⟨_, Try.func140, by kernel_rfl, by kernel_rfl⟩, fun cap H obs N items hs ho F Ob W0 R w lb hH hc => ?_⟩
  unfold chunkRS at hs
  split at hs
  · split at hs
    · rename_i hi hj
      simp only [Option.some.injEq, Prod.mk.injEq] at hs
      obtain ⟨rfl, rfl, rfl⟩ := hs
      refine chunk_core (pc := fun lo n => .roi _ ((List.drop lo _).take n)) hi hj (ho _ (by simp)) (ho _ (by simp)) (fun R W O v h => pieces_roi h) hc (fun q => ?_)
      rw [← List.length_drop, take_min]
    · rename_i hi hj
      simp only [Option.some.injEq, Prod.mk.injEq] at hs
      obtain ⟨rfl, rfl, rfl⟩ := hs
      exact chunk_core hi hj (ho _ (by simp)) (ho _ (by simp)) (fun R W O v h => pieces_sl h) hc (fun q => rfl)
    · cases hs
  · cases hs
end Go.Proofs.Ytjnkjjojkfemoaa
