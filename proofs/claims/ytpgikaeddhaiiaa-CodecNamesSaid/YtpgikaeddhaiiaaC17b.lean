
/- Which kind a text names; the law's own words; the law CodecNames. No condition. -/
import Derived.Test.YtpgikaeddhaiiaaC17
namespace Go.Proofs.Ytpgikaeddhaiiaa
open Go Go.RowKit
set_option linter.unusedVariables false
set_option linter.unusedSimpArgs false
set_option maxRecDepth 100000

def indexF : FSpec := fun l es => match l, es with
  | [.ro 2 n get, .fn 71 0 [.ptr 0 0]], [.cells 9 [.str s]] => some ([n = 5, ∀ j, j < 5 → get j = formG j], .int .i64 (idxC s), [some (.cells 9 [.str s])])
  | _, _ => none
theorem index_g : GSOK Try.prog 69 (fG indexF) := by
  refine fokK (S := []) (G := glook [(71, fG isF)]) [0] pok_nil (gl_cons is_g gl_nil) ⟨Try.func69, by kernel_rfl, by kernel_rfl, by kernel_rfl⟩ fun l es obs v es' h ho => ?_
  unfold indexF at h
  split at h
  · rename_i n get s
    simp only [Option.some.injEq, Prod.mk.injEq] at h
    obtain ⟨rfl, rfl, rfl⟩ := h
    have hn : n = 5 := ho _ (by simp)
    have hg : ∀ j, j < 5 → get j = formG j := ho _ (by simp)
    subst hn
    clear ho
    refine ⟨Nat.le_of_ble_eq_true rfl, ?_⟩
    refine ⟨[(0, .ro 2 5 formG), (1, .fn 71 0 [.ptr 0 0]), (4, .int .i64 0)], ⟨1, [(0, some (.cells 9 [.str s]))]⟩, [some 0], ?_, ?_⟩
    · (repeat' (first | apply And.intro | intro h)); (all_goals (try exact Chk.mk (by kernel_rfl)))
      (all_goals (try first | exact True.intro | exact rfl | exact And.intro rfl rfl | exact And.intro rfl (fun _ _ => rfl)))
      exact hg _ (by assumption)
    refine ⟨Nat, fun i => [(0, .ro 2 5 formG), (1, .fn 71 0 [.ptr 0 0]), (7, .int .i64 5), (8, .int .i64 i)], fun i => ⟨1, [(0, some (.cells 9 [.str s]))]⟩,
      fun i => i ≤ 5 ∧ ∀ j : Nat, j < i → (decide (0 < chC j) && decide (nmC j = s)) = false, fun i => 5 - i, ⟨0, [some 0], ⟨by omega, fun j hj => by omega⟩, ?_⟩, fun i hi => ?_⟩
    · (repeat' (first | apply And.intro | intro h)); (all_goals (try exact Chk.mk (by kernel_rfl)))
      (all_goals (try first | exact True.intro | exact rfl | exact And.intro rfl rfl | exact And.intro rfl (fun _ _ => rfl)))
    obtain ⟨hi5, hno⟩ := hi
    refine ⟨fun hy => ?_, fun hy => ?_⟩
    · replace hy : (i : Int) < 5 := of_decide_eq_true hy
      have o1 : 0 ≤ (i : Int) ∧ (i : Int) < ((5 : Nat) : Int) := ⟨by omega, by omega⟩
      have oq : rngI .i64 ((i : Int) + 1) := rng64 (by omega) (by omega)
      refine ⟨o1, [0], ⟨by kernel_rfl⟩, fun h1 => ?_, fun h1 => ?_⟩
      · have h1 : (decide (0 < chC i) && decide (nmC i = s)) = true := h1
        simp only [Bool.and_eq_true, decide_eq_true_eq] at h1
        have hi1 : 1 ≤ (i : Int) := by
          rcases kind_cases (i : Int) with hk | hk | hk | hk | hk
          · rw [(nmC_out hk).2] at h1; omega
          all_goals omega
        have e : idxC s = i := (idxC_iff hi1 (by omega)).1 h1.2.symm
        rw [e]
        refine ⟨[some 0], ?_⟩
        (repeat' (first | apply And.intro | intro h)); (all_goals (try exact Chk.mk (by kernel_rfl)))
        (all_goals (try first | assumption | exact rfl | exact True.intro | contradiction | (exfalso; simp only [decide_eq_true_eq, decide_eq_false_iff_not, Bool.not_eq_true', Bool.not_eq_false', Bool.and_eq_true, Bool.or_eq_true, Bool.and_eq_false_iff, Bool.or_eq_false_iff, Int.not_lt, Int.not_le, ne_eq, Classical.not_not] at *; omega)))
      · have h1 : (decide (0 < chC i) && decide (nmC i = s)) = false := h1
        refine ⟨oq, i + 1, [some 0], ⟨by omega, fun j hj => ?_⟩, (by show 5 - (i + 1) < 5 - i; omega), ?_⟩
        · by_cases hji : j = i
          · rw [hji]; exact h1
          · exact hno j (by omega)
        · (repeat' (first | apply And.intro | intro h)); (all_goals (try exact Chk.mk (by kernel_rfl)))
          (all_goals (try first | exact True.intro | exact rfl | exact And.intro rfl rfl | exact And.intro rfl (fun _ _ => rfl)))
    · replace hy : ¬ (i : Int) < 5 := of_decide_eq_false hy
      have hx : ∀ j : Nat, j < i → 1 ≤ j → j ≤ 4 → idxC s = ((j : Nat) : Int) → idxC s = -1 := fun j hj h1 h4 h => by
        have e := (idxC_iff (k := ((j : Nat) : Int)) (by omega) (by omega)).2 h
        have := hno j hj
        simp only [Bool.and_eq_false_iff, decide_eq_false_iff_not] at this
        rcases this with t | t
        · have hj : j = 1 ∨ j = 2 ∨ j = 3 ∨ j = 4 := by omega
          rcases hj with rfl | rfl | rfl | rfl <;> exact absurd (by decide) t
        · exact absurd e.symm t
      have e : idxC s = -1 := by
        rcases idxC_cases s with h | h | h | h | h
        · exact h
        · exact hx 1 (by omega) (by omega) (by omega) h
        · exact hx 2 (by omega) (by omega) (by omega) h
        · exact hx 3 (by omega) (by omega) (by omega) h
        · exact hx 4 (by omega) (by omega) (by omega) h
      rw [e]
      refine ⟨[some 0], ?_⟩
      (repeat' (first | apply And.intro | intro h)); (all_goals (try exact Chk.mk (by kernel_rfl)))
      (all_goals (try first | assumption | exact rfl | exact True.intro | contradiction | (exfalso; simp only [decide_eq_true_eq, decide_eq_false_iff_not, Bool.not_eq_true', Bool.not_eq_false', Bool.and_eq_true, Bool.or_eq_true, Bool.and_eq_false_iff, Bool.or_eq_false_iff, Int.not_lt, Int.not_le, ne_eq, Classical.not_not] at *; omega)))
  · cases h
abbrev namedS : PSpec := sS fun s => .tup [.int .i64 (max (idxC s) 0), .bool (decide (0 ≤ idxC s))]
theorem named_s : SOK Try.prog 15 namedS := by
  refine sok_of (C := mkC 0 [(70, formsS)] (glook [(69, fG indexF)])) (mkC_ok (pok_cons forms_s pok_nil) (gl_cons index_g gl_nil)) rfl mixed ⟨Try.func15, by kernel_rfl, by kernel_rfl, by kernel_rfl⟩ fun l obs v h _ => ?_
  obtain ⟨s, rfl, rfl⟩ := sS_inv h
  clear h
  refine ⟨Nat.le_of_ble_eq_true rfl, ?_⟩
  refine ⟨[0], ⟨by kernel_rfl⟩, rfl, fun _ _ => rfl, ?_⟩
  (repeat' (first | apply And.intro | intro h)); (all_goals (try exact Chk.mk (by kernel_rfl)))
  (all_goals (try first | assumption | exact rfl | exact True.intro | contradiction | (exfalso; simp only [decide_eq_true_eq, decide_eq_false_iff_not, Bool.not_eq_true', Bool.not_eq_false', Bool.and_eq_true, Bool.or_eq_true, Bool.and_eq_false_iff, Bool.or_eq_false_iff, Int.not_lt, Int.not_le, ne_eq, Classical.not_not] at *; omega)))
  trace_state
abbrev preS : PSpec := sSS fun s t => .bool (decide (t.length ≤ s.length) && decide (s.take t.length = t))
theorem pre0_s : SOK Try.prog 141 preS := by
  refine sok_of (C := mkC 0 [] noG) (mkC_ok pok_nil noG_ok) rfl mixed ⟨Try.func141, by kernel_rfl, by kernel_rfl, by kernel_rfl⟩ fun l obs v h _ => ?_
  obtain ⟨s, t, rfl, rfl⟩ := sSS_inv h
  clear h
  refine ⟨Nat.le_of_ble_eq_true rfl, ?_⟩
  refine ⟨fun h => ⟨⟨Int.natCast_nonneg _, of_decide_eq_true h⟩, ?_⟩, fun h => ?_⟩
  · have h := of_decide_eq_true h
    show decide ((s.take t.length).drop 0 = t) = (decide (t.length ≤ s.length) && decide (s.take t.length = t))
    have : decide (t.length ≤ s.length) = true := by simp; omega
    rw [this]; simp
  · have h := of_decide_eq_false h
    show false = (decide (t.length ≤ s.length) && decide (s.take t.length = t))
    have : decide (t.length ≤ s.length) = false := by simp; omega
    rw [this]; rfl
theorem pre_s : SOK Try.prog 115 preS := by
  refine sok_of (C := mkC 0 [(141, preS)] noG) (mkC_ok (pok_cons pre0_s pok_nil) noG_ok) rfl mixed ⟨Try.func115, by kernel_rfl, by kernel_rfl, by kernel_rfl⟩ fun l obs v h _ => ?_
  obtain ⟨s, t, rfl, rfl⟩ := sSS_inv h
  clear h
  refine ⟨Nat.le_of_ble_eq_true rfl, ?_⟩
  (repeat' (first | apply And.intro | intro h)); (all_goals (try exact Chk.mk (by kernel_rfl)))
  (all_goals (try first | assumption | exact rfl | exact True.intro | contradiction | (exfalso; simp only [decide_eq_true_eq, decide_eq_false_iff_not, Bool.not_eq_true', Bool.not_eq_false', Bool.and_eq_true, Bool.or_eq_true, Bool.and_eq_false_iff, Bool.or_eq_false_iff, Int.not_lt, Int.not_le, ne_eq, Classical.not_not] at *; omega)))
abbrev kindS : PSpec := fun l => match l with | [.roi .u8 p] => some ([p = [80, 53]], .int .i64 1) | _ => none
theorem kind_s : SOK Try.prog 73 kindS := by
  refine sok_of (C := mkC 0 [(115, preS)] noG) (mkC_ok (pok_cons pre_s pok_nil) noG_ok) rfl mixed ⟨Try.func73, by kernel_rfl, by kernel_rfl, by kernel_rfl⟩ fun l obs v h ho => ?_
  unfold kindS at h
  split at h
  · simp only [Option.some.injEq, Prod.mk.injEq] at h
    obtain ⟨rfl, rfl⟩ := h
    have hp := ho _ (List.mem_singleton.2 rfl)
    subst hp
    clear ho
    refine ⟨Nat.le_of_ble_eq_true rfl, ?_⟩
    refine ⟨⟨by decide, by decide⟩, ?_⟩
    exact ⟨fun _ => rfl, fun hh => absurd hh (by decide)⟩
  · cases h
theorem alive17_s : SOK Try.prog 20 (sN (.bool true)) := by
  refine sok_of (C := mkC 0 [(73, kindS)] noG) (mkC_ok (pok_cons kind_s pok_nil) noG_ok) rfl mixed ⟨Try.func20, by kernel_rfl, by kernel_rfl, by kernel_rfl⟩ fun l obs v h ho => ?_
  obtain ⟨rfl, rfl⟩ := sN_inv h
  refine ⟨Nat.le_of_ble_eq_true rfl, ?_⟩
  (repeat' (first | apply And.intro | intro h)); (all_goals (try exact Chk.mk (by kernel_rfl)))
  (all_goals (try first | assumption | exact rfl | exact True.intro | contradiction | (exfalso; simp only [decide_eq_true_eq, decide_eq_false_iff_not, Bool.not_eq_true', Bool.not_eq_false', Bool.and_eq_true, Bool.or_eq_true, Bool.and_eq_false_iff, Bool.or_eq_false_iff, Int.not_lt, Int.not_le, ne_eq, Classical.not_not] at *; omega)))
  · decide
  · decide
def wI (I : Int) (i : Nat) : Int := if 1 ≤ I ∧ I < i then I else 0
def wB (I : Int) (i : Nat) : Bool := decide (1 ≤ I ∧ I < i)
theorem walk_CodecNames' (kind : Int) (s : List UInt8) (W : World) {cl : List Value} (hc : CRel noN W NoO [.int .i64 kind, .str s] cl) :
    Calls Try.prog 3 cl.toArray W fun e W' => e = .returned (.bool true) ∧ Below W.heap.size W W' := by
  refine law_of (l := [.int .i64 kind, .str s]) (C := mkC 0 [(15, namedS), (16, nameS), (17, chanS), (18, chanS), (19, nameS), (20, sN (.bool true))] noG)
    (mkC_ok (pok_cons named_s (pok_cons rname_s (pok_cons chan_s (pok_cons rchan_s (pok_cons name_s (pok_cons alive17_s pok_nil)))))) noG_ok) rfl ⟨Try.func3, by kernel_rfl, by kernel_rfl, by kernel_rfl⟩ (by exact Nat.le_of_ble_eq_true rfl) ?_ hc
  have hI := idxC_cases s
  have h5 : ∀ i : Nat, 1 ≤ i → i ≤ 4 → (s = nmC i ↔ idxC s = i) := fun i h1 h4 => idxC_iff (k := (i : Int)) (by omega) (by omega)
  have w0 : (0 : Int) = wI (idxC s) 1 := by unfold wI; rw [if_neg (by omega)]
  have w0' : false = wB (idxC s) 1 := (decide_eq_false (by omega)).symm
  refine ⟨Nat, fun i => [(0, .int .i64 kind), (1, .str s), (5, .int .i64 (max (idxC s) 0)), (6, .bool (decide (0 ≤ idxC s))), (7, .int .i64 (wI (idxC s) i)), (8, .bool (wB (idxC s) i)), (9, .int .i64 i)], fun i => ⟨0, []⟩,
    fun i => 1 ≤ i ∧ i ≤ 5, fun i => 5 - i, ⟨1, [], ⟨by omega, by omega⟩, ?_⟩, fun i hi => ?_⟩
  · (repeat' (first | apply And.intro | intro h)); (all_goals (try exact Chk.mk (by kernel_rfl)))
    all_goals (try first | exact True.intro | exact w0 | exact w0' | exact rfl)
  refine ⟨fun hy => ?_, fun hy => ?_⟩
  · replace hy : (i : Int) ≤ 4 := of_decide_eq_true hy
    have oq : rngI .i64 ((i : Int) + 1) := rng64 (by omega) (by omega)
    refine ⟨fun h1 => ?_, fun h1 => ?_⟩
    · have h1 : idxC s = i := (h5 i hi.1 (by omega)).1 (of_decide_eq_true h1)
      have w1 : (i : Int) = wI (idxC s) (i + 1) := by unfold wI; rw [if_pos (by omega)]; exact h1.symm
      have w1' : true = wB (idxC s) (i + 1) := (decide_eq_true (by omega)).symm
      refine ⟨oq, i + 1, [], ⟨by omega, by omega⟩, (by show 5 - (i + 1) < 5 - i; omega), ?_⟩
      (repeat' (first | apply And.intro | intro h)); (all_goals (try exact Chk.mk (by kernel_rfl)))
      all_goals (try first | exact True.intro | exact w1 | exact w1' | exact rfl)
    · have h1 : ¬ idxC s = i := fun h => of_decide_eq_false h1 ((h5 i hi.1 (by omega)).2 h)
      have w1 : wI (idxC s) i = wI (idxC s) (i + 1) := by unfold wI; congr 1; simp only [eq_iff_iff]; omega
      have w1' : wB (idxC s) i = wB (idxC s) (i + 1) := by unfold wB; congr 1; simp only [eq_iff_iff]; omega
      refine ⟨oq, i + 1, [], ⟨by omega, by omega⟩, (by show 5 - (i + 1) < 5 - i; omega), ?_⟩
      (repeat' (first | apply And.intro | intro h)); (all_goals (try exact Chk.mk (by kernel_rfl)))
      all_goals (try first | exact True.intro | exact w1 | exact w1' | exact rfl)
  · replace hy : ¬ (i : Int) ≤ 4 := of_decide_eq_false hy
    have hi2 := hi.2
    have ei : i = 5 := by omega
    subst ei
    have z1 : max (idxC s) 0 = wI (idxC s) 5 := by unfold wI; split <;> omega
    have z2 : decide (0 ≤ idxC s) = wB (idxC s) 5 := by
      unfold wB
      rw [Bool.eq_iff_iff]; simp only [decide_eq_true_eq]; omega
    (repeat (first | (refine ⟨fun hh => absurd hh ?prx, fun _ => ?_⟩; (case prx => (simp [z1, z2]; done))) | (refine ⟨fun _ => ?_, fun hh => absurd hh ?prx⟩; (case prx => (simp [z1, z2]; done))) | (refine ⟨?prx, ?_⟩; (case prx => (first | exact Chk.mk (by kernel_rfl) | exact rfl | exact rfl)))))
    exact rfl
end Go.Proofs.Ytpgikaeddhaiiaa
