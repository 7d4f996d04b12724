/- Texts laid together. No condition. -/
import Derived.Test.YtgbekbofeaoniaaS2
set_option maxRecDepth 100000
set_option maxHeartbeats 4000000
set_option linter.unusedVariables false
set_option linter.unusedSimpArgs false
namespace Go.Proofs.Ytgbekbofeaoniaa
open Go Go.RowKit
attribute [local irreducible] swapL qrL popL popX pushL fstV selA cutI arrV farV apV gis gtile stG storeC fewL
abbrev orderN (A : List Tl) : PSpec := fun l => match l with
  | [.nilp, .ro 2 m f, .int .i64 x, .int .i64 y] => some ([m = A.length, f = fun j => (A.getD j Tl.z).av, A.length ≤ 40], .nils)
  | _ => none
theorem orderN_s (A : List Tl) : SOK Try.prog 43 (orderN A) := by
  refine sok_of (C := mkI 0 [(31, sNT (.tup [R4.zero.av, .bool false])), (70, cutQ), (41, apS)]
      (glook [(34, fG qnewF), (35, fG qpushF), (36, gdq (fG qpopF) (fG qpop0F))]) [] [] [] [6, 8, 11, 14, 13])
    (mkI_ok (pok_cons placeN_s (pok_cons qcut_s (pok_cons apart_s pok_nil))) (gl_cons qnew_g (gl_cons qpush_g (gl_cons qpop_d gl_nil))) dl_nil mok_nil) rfl mixed ⟨Try.func43, by kernel_rfl, by kernel_rfl, by kernel_rfl⟩ fun l obs v h ho => ?_
  (unfold orderN at h; split at h; rotate_left; (focus (cases h)); rename_i m f x y; simp only [Option.some.injEq, Prod.mk.injEq] at h; obtain ⟨rfl, rfl⟩ := h; simp only [List.mem_cons, List.not_mem_nil, or_false, forall_eq_or_imp, forall_eq, false_implies, implies_true] at ho)
  obtain ⟨rfl, rfl, a40⟩ := ho
  refine ⟨Nat.le_of_ble_eq_true rfl, ?_⟩
  (repeat' (first | (refine xI (fun hfk => ?_) (fun hfk => ?_) <;> ((try (first | replace hfk := oT hfk | replace hfk := oF hfk | simp only [oD, ne_eq, reduceCtorEq] at hfk)); (try exact oX))) | (refine And.intro ?ob ?_; (case ob => (exact oZ))) | exact True.intro | (show _ = _; first | exact oY | exact rfl) | exact oW | (apply And.intro)))
  (refine ⟨[], ⟨by kernel_rfl⟩, ?_⟩)
  (repeat' (first | (refine xI (fun hfk => ?_) (fun hfk => ?_) <;> ((try (first | replace hfk := oT hfk | replace hfk := oF hfk | simp only [oD, ne_eq, reduceCtorEq] at hfk)); (try exact oX))) | (refine And.intro ?ob ?_; (case ob => (exact oZ))) | exact True.intro | (show _ = _; first | exact oY | exact rfl) | exact oW | (apply And.intro)))
  refine ⟨Nat, fun k => [(0, .nilp), (1, TlA A), (2, .int .i64 x), (3, .int .i64 y), (9, .ptr 0 0), (10, .fn 35 1 [.ptr 0 0]), (22, TlA A), (23, .int .i64 (A.length : Int)), (24, .int .i64 (k : Int))],
    fun k => ⟨2, [(0, some (.cells 76 [.sl 1 4 0 0, .int .i64 0])), (1, some (rowE []))]⟩,
    fun k => k ≤ A.length, fun k => A.length - k, ⟨0, [some 0, none], Nat.zero_le _, ?_⟩, fun k hk => ?_⟩
  · (repeat' (first | (refine And.intro ?_ ?_) | exact True.intro | (show _ = _; with_reducible rfl) | exact Chk.mk (by kernel_rfl)))
    all_goals first | rfl | (exact fun _ _ => rfl)
  have hk : k ≤ A.length := hk
  by_cases hlt : k < A.length
  · (repeat' (first | (refine xI (fun hfk => ?_) (fun hfk => ?_) <;> ((try (first | replace hfk := oT hfk | replace hfk := oF hfk | simp only [oD, ne_eq, reduceCtorEq] at hfk)); (try exact oX))) | (refine And.intro ?ob ?_; (case ob => (exact oZ))) | exact True.intro | (show _ = _; first | exact oY | exact rfl) | exact oW | (apply And.intro)))
    refine ⟨[(0, .nilp), (1, TlA A), (2, .int .i64 x), (3, .int .i64 y), (9, .ptr 0 0), (10, .fn 35 1 [.ptr 0 0]), (14, .bool false), (22, TlA A), (23, .int .i64 (A.length : Int)), (24, .int .i64 (k : Int))],
      ⟨2, [(0, some (.cells 76 [.sl 1 4 0 0, .int .i64 0])), (1, some (rowE []))]⟩, [some 0, some 1], ?_, ?_⟩
    · (repeat' (first | (refine And.intro ?_ ?_) | exact True.intro | (show _ = _; with_reducible rfl) | exact Chk.mk (by kernel_rfl)))
      all_goals first | rfl | (exact fun _ _ => rfl)
    (repeat' (first | (refine xI (fun hfk => ?_) (fun hfk => ?_) <;> ((try (first | replace hfk := oT hfk | replace hfk := oF hfk | simp only [oD, ne_eq, reduceCtorEq] at hfk)); (try exact oX))) | (refine And.intro ?ob ?_; (case ob => (exact oZ))) | exact True.intro | (show _ = _; first | exact oY | exact rfl) | exact oW | (apply And.intro)))
    refine ⟨k + 1, [some 0, some 1], hlt, ?mu, ?_⟩
    case mu => (show A.length - (k + 1) < A.length - k; omega)
    (repeat' (first | (refine And.intro ?_ ?_) | exact True.intro | (show _ = _; with_reducible rfl) | exact Chk.mk (by kernel_rfl)))
    all_goals first | rfl | (exact fun _ _ => rfl) | (show (_ : Int) = _; omega)
  · obtain rfl : k = A.length := by omega
    (repeat' (first | (refine xI (fun hfk => ?_) (fun hfk => ?_) <;> ((try (first | replace hfk := oT hfk | replace hfk := oF hfk | simp only [oD, ne_eq, reduceCtorEq] at hfk)); (try exact oX))) | (refine And.intro ?ob ?_; (case ob => (exact oZ))) | exact True.intro | (show _ = _; first | exact oY | exact rfl) | exact oW | (apply And.intro)))
    right
    (refine ⟨[0, 1], ⟨by kernel_rfl⟩, ?_⟩)
    (repeat' (first | (refine xI (fun hfk => ?_) (fun hfk => ?_) <;> ((try (first | replace hfk := oT hfk | replace hfk := oF hfk | simp only [oD, ne_eq, reduceCtorEq] at hfk)); (try exact oX))) | (refine And.intro ?ob ?_; (case ob => (exact oZ))) | exact True.intro | (show _ = _; first | exact oY | exact rfl) | exact oW | (apply And.intro)))
    refine ⟨[(9, .ptr 0 0), (15, .nils), (16, .ptr 2 0), (18, .fls)], ⟨3, [(0, some (.cells 76 [.sl 1 4 0 0, .int .i64 0])), (1, some (rowE [])), (2, some (.cells 62 [.int .i64 0, .int .i64 0]))]⟩, [some 0, some 1, some 2], ?_, ?_⟩
    · (repeat' (first | (refine And.intro ?_ ?_) | exact True.intro | (show _ = _; with_reducible rfl) | exact Chk.mk (by kernel_rfl)))
      all_goals first | rfl | (exact fun _ _ => rfl)
    (repeat' (first | (refine xI (fun hfk => ?_) (fun hfk => ?_) <;> ((try (first | replace hfk := oT hfk | replace hfk := oF hfk | simp only [oD, ne_eq, reduceCtorEq] at hfk)); (try exact oX))) | (refine And.intro ?ob ?_; (case ob => (exact oZ))) | exact True.intro | (show _ = _; first | exact oY | exact rfl) | exact oW | (apply And.intro)))
    refine ⟨Unit, fun i => [(9, .ptr 0 0), (15, .nils), (16, .ptr 2 0), (18, .fls)],
      fun i => ⟨3, [(0, some (.cells 76 [.sl 1 4 0 0, .int .i64 0])), (1, some (rowE [])), (2, some (.cells 62 [.int .i64 0, .int .i64 0]))]⟩,
      fun i => True, fun i => 0, ⟨(), [some 0, some 1, some 2], True.intro, ?_⟩, fun i hi => ?_⟩
    · (repeat' (first | (refine And.intro ?_ ?_) | exact True.intro | (show _ = _; with_reducible rfl) | exact Chk.mk (by kernel_rfl)))
      all_goals first | rfl | (exact fun _ _ => rfl)
    (repeat' (first | (refine xI (fun hfk => ?_) (fun hfk => ?_) <;> ((try (first | replace hfk := oT hfk | replace hfk := oF hfk | simp only [oD, ne_eq, reduceCtorEq] at hfk)); (try exact oX))) | (refine And.intro ?ob ?_; (case ob => (exact oZ))) | exact True.intro | (show _ = _; first | exact oY | exact rfl) | exact oW | (apply And.intro)))
abbrev same0S : PSpec := fun l => match l with | [.nils, .nils] => some ([], .bool true) | _ => none
theorem same0_s : SOK Try.prog 45 same0S := by
  refine sok_of (C := mkC 0 [] noG) (mkC_ok pok_nil noG_ok) rfl mixed ⟨Try.func45, by kernel_rfl, by kernel_rfl, by kernel_rfl⟩ fun l obs v h ho => ?_
  unfold same0S at h
  split at h
  rotate_left
  · cases h
  simp only [Option.some.injEq, Prod.mk.injEq] at h
  obtain ⟨rfl, rfl⟩ := h
  refine ⟨Nat.le_of_ble_eq_true rfl, ?_⟩
  (repeat' (first | (refine xI (fun hfk => ?_) (fun hfk => ?_) <;> ((try (first | replace hfk := oT hfk | replace hfk := oF hfk | simp only [oD, ne_eq, reduceCtorEq] at hfk)); (try exact oX))) | (refine And.intro ?ob ?_; (case ob => (exact oZ))) | exact True.intro | (show _ = _; first | exact oY | exact rfl) | exact oW | (apply And.intro)))
  refine ⟨Unit, fun i => [(0, .nils), (1, .nils), (5, .int .i64 0)], fun i => ⟨0, []⟩, fun i => True, fun i => 0, ⟨(), [], True.intro, ?_⟩, fun i hi => ?_⟩
  · (repeat' (first | (refine And.intro ?_ ?_) | exact True.intro | (show _ = _; with_reducible rfl) | exact Chk.mk (by kernel_rfl)))
    all_goals rfl
  (repeat' (first | (refine xI (fun hfk => ?_) (fun hfk => ?_) <;> ((try (first | replace hfk := oT hfk | replace hfk := oF hfk | simp only [oD, ne_eq, reduceCtorEq] at hfk)); (try exact oX))) | (refine And.intro ?ob ?_; (case ob => (exact oZ))) | exact True.intro | (show _ = _; first | exact oY | exact rfl) | exact oW | (apply And.intro)))
theorem qo_big (L : List Im) (A : List Tl) (x y : Int) (hL : LenOK L.length) (h : 6 < L.length ∨ 40 < A.length) (W : World) {cl : List Value} (hc : CRel noN W NoO [imsA L, TlA A, .agg [.int .i64 x, .int .i64 y]] cl) :
    Calls Try.prog 8 cl.toArray W fun e W' => e = .returned (.bool true) ∧ Below W.heap.size W W' := by
  refine law_of (C := mkC 0 [] noG) (mkC_ok pok_nil noG_ok) rfl ⟨Try.func8, by kernel_rfl, by kernel_rfl, by kernel_rfl⟩ (by exact Nat.le_of_ble_eq_true rfl) ?_ hc
  by_cases h1 : 6 < L.length
  · (repeat' (first | (refine xI (fun hfk => ?_) (fun hfk => ?_) <;> ((try (first | replace hfk := oT hfk | replace hfk := oF hfk | simp only [oD, ne_eq, reduceCtorEq] at hfk)); (try exact oX))) | (refine And.intro ?ob ?_; (case ob => (exact oZ))) | exact True.intro | (show _ = _; first | exact oY | exact rfl) | exact oW | (apply And.intro)))
  · have h2 : 40 < A.length := h.resolve_left h1
    (repeat' (first | (refine xI (fun hfk => ?_) (fun hfk => ?_) <;> ((try (first | replace hfk := oT hfk | replace hfk := oF hfk | simp only [oD, ne_eq, reduceCtorEq] at hfk)); (try exact oX))) | (refine And.intro ?ob ?_; (case ob => (exact oZ))) | exact True.intro | (show _ = _; first | exact oY | exact rfl) | exact oW | (apply And.intro)))
theorem qo_few (L : List Im) (A : List Tl) (x y : Int) (hL : LenOK L.length) (h6 : L.length ≤ 6) (hA : A.length ≤ 40) (hfew : fewL L = false) (W : World) {cl : List Value} (hc : CRel noN W NoO [imsA L, TlA A, .agg [.int .i64 x, .int .i64 y]] cl) :
    Calls Try.prog 8 cl.toArray W fun e W' => e = .returned (.bool true) ∧ Below W.heap.size W W' := by
  refine law_of (C := mkK 0 [(16, fewS)] noG []) (mkK_ok (pok_cons few_s pok_nil) noG_ok) rfl ⟨Try.func8, by kernel_rfl, by kernel_rfl, by kernel_rfl⟩ (by exact Nat.le_of_ble_eq_true rfl) ?_ hc
  (repeat' (first | (refine xI (fun hfk => ?_) (fun hfk => ?_) <;> ((try (first | replace hfk := oT hfk | replace hfk := oF hfk | simp only [oD, ne_eq, reduceCtorEq] at hfk)); (try exact oX))) | (refine And.intro ?ob ?_; (case ob => (exact oZ))) | exact True.intro | (show _ = _; first | exact oY | exact rfl) | exact oW | (apply And.intro)))
  refine ⟨Nat, fun i => [(0, imsA L), (1, TlA A), (5, .ptr 0 0), (6, .fls), (29, imsA L), (30, .int .i64 (L.length : Int)), (31, .int .i64 (i : Int))],
    fun i => ⟨1, [(0, some (.cells 52 [.int .i64 x, .int .i64 y]))]⟩,
    fun i => i ≤ L.length ∧ ∀ j, j < i → (Lm L j).p.length ≤ 2000, fun i => L.length - i, ⟨0, [some 0], ⟨Nat.zero_le _, fun j hj => by omega⟩, ?_⟩, fun i hi => ?_⟩
  · (repeat' (first | (refine And.intro ?_ ?_) | exact True.intro | (show _ = _; with_reducible rfl) | exact Chk.mk (by kernel_rfl)))
    all_goals first | (intro j hj; rfl) | rfl
  obtain ⟨hi, hz⟩ := hi
  have hi : i ≤ L.length := hi
  have hz : ∀ j, j < i → (Lm L j).p.length ≤ 2000 := hz
  by_cases hlt : i < L.length
  · have hrr := hL.rng hlt
    by_cases hs : (Lm L i).p.length ≤ 2000
    · have hs' : ((L.getD (i : Int).toNat Im.z).p.length : Int) ≤ 2000 := by have : (L.getD (i : Int).toNat Im.z).p.length ≤ 2000 := hs; omega
      (repeat' (first | (refine xI (fun hfk => ?_) (fun hfk => ?_) <;> ((try (first | replace hfk := oT hfk | replace hfk := oF hfk | simp only [oD, ne_eq, reduceCtorEq] at hfk)); (try exact oX))) | (refine And.intro ?ob ?_; (case ob => (exact oZ))) | exact True.intro | (show _ = _; first | exact oY | exact rfl) | exact oW | (apply And.intro)))
      refine ⟨i + 1, [some 0], ?_, ?mu, ?_⟩
      · refine ⟨hlt, fun j hj => ?_⟩
        by_cases e : j = i
        · rw [e]; exact hs
        · exact hz j (by omega)
      case mu => (show L.length - (i + 1) < L.length - i; omega)
      (repeat' (first | (refine And.intro ?_ ?_) | exact True.intro | (show _ = _; with_reducible rfl) | exact Chk.mk (by kernel_rfl)))
      all_goals first | (intro j hj; rfl) | (show (_ : Int) = _; omega) | rfl
    · have hs' : ¬ ((L.getD (i : Int).toNat Im.z).p.length : Int) ≤ 2000 := by have : ¬ (L.getD (i : Int).toNat Im.z).p.length ≤ 2000 := hs; omega
      (repeat' (first | (refine xI (fun hfk => ?_) (fun hfk => ?_) <;> ((try (first | replace hfk := oT hfk | replace hfk := oF hfk | simp only [oD, ne_eq, reduceCtorEq] at hfk)); (try exact oX))) | (refine And.intro ?ob ?_; (case ob => (exact oZ))) | exact True.intro | (show _ = _; first | exact oY | exact rfl) | exact oW | (apply And.intro)))
  · exfalso
    unfold fewL at hfew
    rw [decide_eq_true (fun j hj => hz j (by omega)), decide_eq_true h6] at hfew
    cases hfew
theorem few_at {L : List Im} (h : fewL L = true) {i : Nat} (hi : i < L.length) : (Lm L i).p.length ≤ 2000 := by
  unfold fewL at h
  rw [Bool.and_eq_true] at h
  exact of_decide_eq_true h.1 i hi
theorem qo_bad (L : List Im) (A : List Tl) (x y : Int) (hL : LenOK L.length) (h6 : L.length ≤ 6) (hA : A.length ≤ 40) (hfew : fewL L = true) (hs : storeC L 2 3 ≠ 0) (W : World) {cl : List Value} (hc : CRel noN W NoO [imsA L, TlA A, .agg [.int .i64 x, .int .i64 y]] cl) :
    Calls Try.prog 8 cl.toArray W fun e W' => e = .returned (.bool true) ∧ Below W.heap.size W W' := by
  refine law_of (C := mkK 0 [(16, fewS), (27, newStBad L), (43, orderN A), (45, same0S), (40, al43S)] noG [])
    (mkK_ok (pok_cons few_s (pok_cons (newStBad_s L) (pok_cons (orderN_s A) (pok_cons same0_s (pok_cons alive43_s pok_nil))))) noG_ok) rfl ⟨Try.func8, by kernel_rfl, by kernel_rfl, by kernel_rfl⟩ (by exact Nat.le_of_ble_eq_true rfl) ?_ hc
  have ne : decide (¬ storeC L 2 3 = 0) = true := decide_eq_true hs
  (repeat' (first | (refine xI (fun hfk => ?_) (fun hfk => ?_) <;> ((try (first | replace hfk := oT hfk | replace hfk := oF hfk | simp only [oD, ne_eq, reduceCtorEq] at hfk)); (try exact oX))) | (refine And.intro ?ob ?_; (case ob => (exact oZ))) | exact True.intro | (show _ = _; first | exact oY | exact rfl) | exact oW | (apply And.intro)))
  refine ⟨Nat, fun i => [(0, imsA L), (1, TlA A), (5, .ptr 0 0), (6, .fls), (29, imsA L), (30, .int .i64 (L.length : Int)), (31, .int .i64 (i : Int))],
    fun i => ⟨1, [(0, some (.cells 52 [.int .i64 x, .int .i64 y]))]⟩,
    fun i => i ≤ L.length, fun i => L.length - i, ⟨0, [some 0], Nat.zero_le _, ?_⟩, fun i hi => ?_⟩
  · (repeat' (first | (refine And.intro ?_ ?_) | exact True.intro | (show _ = _; with_reducible rfl) | exact Chk.mk (by kernel_rfl)))
    all_goals first | (intro j hj; rfl) | rfl
  have hi : i ≤ L.length := hi
  by_cases hlt : i < L.length
  · have hrr := hL.rng hlt
    have hf := few_at hfew hlt
    have hs' : ((L.getD (i : Int).toNat Im.z).p.length : Int) ≤ 2000 := by have : (L.getD (i : Int).toNat Im.z).p.length ≤ 2000 := hf; omega
    (repeat' (first | (refine xI (fun hfk => ?_) (fun hfk => ?_) <;> ((try (first | replace hfk := oT hfk | replace hfk := oF hfk | simp only [oD, ne_eq, reduceCtorEq] at hfk)); (try exact oX))) | (refine And.intro ?ob ?_; (case ob => (exact oZ))) | exact True.intro | (show _ = _; first | exact oY | exact rfl) | exact oW | (apply And.intro)))
    refine ⟨i + 1, [some 0], hlt, ?mu, ?_⟩
    case mu => (show L.length - (i + 1) < L.length - i; omega)
    (repeat' (first | (refine And.intro ?_ ?_) | exact True.intro | (show _ = _; with_reducible rfl) | exact Chk.mk (by kernel_rfl)))
    all_goals first | (intro j hj; rfl) | (show (_ : Int) = _; omega) | rfl
  obtain rfl : i = L.length := by omega
  (repeat' (first | (refine xI (fun hfk => ?_) (fun hfk => ?_) <;> ((try (first | replace hfk := oT hfk | replace hfk := oF hfk | simp only [oD, ne_eq, reduceCtorEq] at hfk)); (try exact oX))) | (refine And.intro ?ob ?_; (case ob => (exact oZ))) | exact True.intro | (show _ = _; first | exact oY | exact rfl) | exact oW | (apply And.intro)))
  refine ⟨Unit, fun i => [(5, .ptr 0 0), (6, .fls), (9, .nilp), (10, .int .i64 (storeC L 2 3)), (11, .nils), (12, .nils), (51, TlA A), (52, .int .i64 (A.length : Int)), (53, .int .i64 0)],
      fun i => ⟨1, [(0, some (.cells 52 [.int .i64 x, .int .i64 y]))]⟩,
      fun i => True, fun i => 0, ⟨(), [some 0], True.intro, ?_⟩, fun i hi => ?_⟩
  · (repeat' (first | (refine And.intro ?_ ?_) | exact True.intro | (show _ = _; with_reducible rfl) | exact Chk.mk (by kernel_rfl)))
    all_goals first | rfl | (exact fun _ _ => rfl)
  by_cases hA0 : 0 < A.length
  · have hA1 : 0 < (A.length : Int) := by omega
    (repeat' (first | (refine xI (fun hfk => ?_) (fun hfk => ?_) <;> ((try (first | replace hfk := oT hfk | replace hfk := oF hfk | simp only [oD, ne_eq, reduceCtorEq] at hfk)); (try exact oX))) | (refine And.intro ?ob ?_; (case ob => (exact oZ))) | exact True.intro | (show _ = _; first | exact oY | exact rfl) | exact oW | (apply And.intro)))
    refine ⟨Unit, fun i => [(12, .nils), (19, .nils), (6, .fls), (11, .nils)], fun i => ⟨1, [(0, some (.cells 52 [.int .i64 x, .int .i64 y]))]⟩, fun i => True, fun i => 0, ⟨(), [some 0], True.intro, ?_⟩, fun i hi => ?_⟩
    · (repeat' (first | (refine And.intro ?_ ?_) | exact True.intro | (show _ = _; with_reducible rfl) | exact Chk.mk (by kernel_rfl)))
      all_goals first | rfl | (exact fun _ _ => rfl)
    (repeat' (first | (refine xI (fun hfk => ?_) (fun hfk => ?_) <;> ((try (first | replace hfk := oT hfk | replace hfk := oF hfk | simp only [oD, ne_eq, reduceCtorEq] at hfk)); (try exact oX))) | (refine And.intro ?ob ?_; (case ob => (exact oZ))) | exact True.intro | (show _ = _; first | exact oY | exact rfl) | exact oW | (apply And.intro)))
  · have hA1 : ¬ 0 < (A.length : Int) := by omega
    (repeat' (first | (refine xI (fun hfk => ?_) (fun hfk => ?_) <;> ((try (first | replace hfk := oT hfk | replace hfk := oF hfk | simp only [oD, ne_eq, reduceCtorEq] at hfk)); (try exact oX))) | (refine And.intro ?ob ?_; (case ob => (exact oZ))) | exact True.intro | (show _ = _; first | exact oY | exact rfl) | exact oW | (apply And.intro)))
    refine ⟨Unit, fun i => [(12, .nils), (19, .nils), (6, .fls), (11, .nils)], fun i => ⟨1, [(0, some (.cells 52 [.int .i64 x, .int .i64 y]))]⟩, fun i => True, fun i => 0, ⟨(), [some 0], True.intro, ?_⟩, fun i hi => ?_⟩
    · (repeat' (first | (refine And.intro ?_ ?_) | exact True.intro | (show _ = _; with_reducible rfl) | exact Chk.mk (by kernel_rfl)))
      all_goals first | rfl | (exact fun _ _ => rfl)
    (repeat' (first | (refine xI (fun hfk => ?_) (fun hfk => ?_) <;> ((try (first | replace hfk := oT hfk | replace hfk := oF hfk | simp only [oD, ne_eq, reduceCtorEq] at hfk)); (try exact oX))) | (refine And.intro ?ob ?_; (case ob => (exact oZ))) | exact True.intro | (show _ = _; first | exact oY | exact rfl) | exact oW | (apply And.intro)))
end Go.Proofs.Ytgbekbofeaoniaa
namespace Go.Proofs.Ytgbekbofeaoniaa
open Go Go.RowKit
abbrev itE (N : List It) : Ent := .recs 82 3 N.length (rowJ N)
theorem fst_at2 (N : List It) : fstV (fun j => pOf ((fun j => rowJ N (0 + j)) j)) N.length = fstN N := by
  unfold fstN
  congr 1
  funext j
  show pOf (rowJ N (0 + j)) = _
  rw [Nat.zero_add]
  rfl
theorem rowj_snoc {N : List It} {x : It} {F : Nat → AV} (hF : F 0 = jtA x) {j : Nat} (h : j < N.length + 1) : (if j < N.length then rowJ N j else F (j - N.length)) = rowJ (N ++ [x]) j := by
  show _ = jtA ((N ++ [x]).getD j It.z)
  by_cases c : j < N.length
  · rw [if_pos c, List.getD_eq_getElem?_getD, List.getElem?_append_left c, ← List.getD_eq_getElem?_getD]
  · rw [if_neg c, show j = N.length by omega, List.getD_eq_getElem?_getD, List.getElem?_append_right (Nat.le_refl _), Nat.sub_self]
    exact hF
attribute [local irreducible] swapL qrL popL popX pushL fstV selA cutI arrV farV apV gis gtile stG storeC fewL fstN
theorem qo_good (L : List Im) (A : List Tl) (x y : Int) (hL : LenOK L.length) (h6 : L.length ≤ 6) (hA : A.length ≤ 40) (hfew : fewL L = true) (hs : storeC L 2 3 = 0) (W : World) {cl : List Value} (hc : CRel noN W NoO [imsA L, TlA A, .agg [.int .i64 x, .int .i64 y]] cl) :
    Calls Try.prog 8 cl.toArray W fun e W' => e = .returned (.bool true) ∧ Below W.heap.size W W' := by
  refine law_of (C := mkI 0 [(16, fewS), (31, placeS41 L), (44, levS), (41, apS), (42, apS), (37, firstS), (45, same42S), (40, al43S)]
      (glook [(27, fG (newStF L)), (43, fGv (orderF L A)), (38, fGv withoutF)]) [] [] [] [9, 10, 16, 18, 21, 25, 26])
    (mkI_ok (pok_cons few_s (pok_cons (place41_s L) (pok_cons level_s (pok_cons apart_s (pok_cons rapart_s (pok_cons first_s (pok_cons same42_s (pok_cons alive43_s pok_nil))))))))
      (gl_cons (newSt_g L) (gl_cons (gview (order_g L A)) (gl_cons (gview without_g) gl_nil))) dl_nil mok_nil) rfl ⟨Try.func8, by kernel_rfl, by kernel_rfl, by kernel_rfl⟩ (by exact Nat.le_of_ble_eq_true rfl) ?_ hc
  (repeat' (first | (refine xI (fun hfk => ?_) (fun hfk => ?_) <;> ((try (first | replace hfk := oT hfk | replace hfk := oF hfk | simp only [oD, ne_eq, reduceCtorEq] at hfk)); (try exact oX))) | (refine And.intro ?ob ?_; (case ob => (exact oZ))) | exact True.intro | (show _ = _; first | exact oY | exact rfl) | exact oW | (apply And.intro)))
  refine ⟨Nat, fun i => [(0, imsA L), (1, TlA A), (5, .ptr 0 0), (6, .fls), (29, imsA L), (30, .int .i64 (L.length : Int)), (31, .int .i64 (i : Int))],
    fun i => ⟨1, [(0, some (.cells 52 [.int .i64 x, .int .i64 y]))]⟩,
    fun i => i ≤ L.length, fun i => L.length - i, ⟨0, [some 0], Nat.zero_le _, ?_⟩, fun i hi => ?_⟩
  · (repeat' (first | (refine And.intro ?_ ?_) | exact True.intro | (show _ = _; with_reducible rfl) | exact Chk.mk (by kernel_rfl)))
    all_goals first | (intro j hj; rfl) | rfl
  have hi : i ≤ L.length := hi
  by_cases hlt : i < L.length
  · have hrr := hL.rng hlt
    have hf := few_at hfew hlt
    have hs' : ((L.getD (i : Int).toNat Im.z).p.length : Int) ≤ 2000 := by have : (L.getD (i : Int).toNat Im.z).p.length ≤ 2000 := hf; omega
    (repeat' (first | (refine xI (fun hfk => ?_) (fun hfk => ?_) <;> ((try (first | replace hfk := oT hfk | replace hfk := oF hfk | simp only [oD, ne_eq, reduceCtorEq] at hfk)); (try exact oX))) | (refine And.intro ?ob ?_; (case ob => (exact oZ))) | exact True.intro | (show _ = _; first | exact oY | exact rfl) | exact oW | (apply And.intro)))
    refine ⟨i + 1, [some 0], hlt, ?mu, ?_⟩
    case mu => (show L.length - (i + 1) < L.length - i; omega)
    (repeat' (first | (refine And.intro ?_ ?_) | exact True.intro | (show _ = _; with_reducible rfl) | exact Chk.mk (by kernel_rfl)))
    all_goals first | (intro j hj; rfl) | (show (_ : Int) = _; omega) | rfl
  obtain rfl : i = L.length := by omega
  have ef : (fun j => (fun j => (Lm L j).av) (0 + j)) = fun j => (Lm L j).av := funext fun j => by rw [Nat.zero_add]
  (repeat' (first | (refine xI (fun hfk => ?_) (fun hfk => ?_) <;> ((try (first | replace hfk := oT hfk | replace hfk := oF hfk | simp only [oD, ne_eq, reduceCtorEq] at hfk)); (try exact oX))) | (refine And.intro ?ob ?_; (case ob => (exact oZ))) | exact True.intro | (show _ = _; first | exact oY | exact rfl) | exact oW | (apply And.intro)))
  (refine ⟨[], ⟨by kernel_rfl⟩, ?_⟩)
  (repeat' (first | (refine xI (fun hfk => ?_) (fun hfk => ?_) <;> ((try (first | replace hfk := oT hfk | replace hfk := oF hfk | simp only [oD, ne_eq, reduceCtorEq] at hfk)); (try exact oX))) | (refine And.intro ?ob ?_; (case ob => (exact oZ))) | exact True.intro | (show _ = _; first | exact oY | exact rfl) | exact oW | (apply And.intro)))
  refine ⟨[(1, TlA A), (5, .ptr 0 0), (6, .fls), (9, .ptr 1 0), (10, .int .i64 0)], ⟨3, [(0, some (.cells 52 [.int .i64 x, .int .i64 y])), (1, some (stA2 L 2 3 0)), (2, some (rowA L L.length))]⟩, [some 0, some 1, some 2], ?_, ?_⟩
  · (repeat' (first | (refine And.intro ?_ ?_) | exact True.intro | (show _ = _; with_reducible rfl) | exact Chk.mk (by kernel_rfl)))
    all_goals first | (intro j hj; rfl) | rfl
  obtain ⟨T, hT⟩ : ∃ T, selA (arrV L 2 3 x y A A.length) = T := ⟨_, rfl⟩
  have lT : T.length ≤ 40 := by
    rw [← hT, selA_len _ _ rfl]
    have := arr_len L 2 3 x y A A.length
    omega
  (repeat' (first | (refine xI (fun hfk => ?_) (fun hfk => ?_) <;> ((try (first | replace hfk := oT hfk | replace hfk := oF hfk | simp only [oD, ne_eq, reduceCtorEq] at hfk)); (try exact oX))) | (refine And.intro ?ob ?_; (case ob => (exact oZ))) | exact True.intro | (show _ = _; first | exact oY | exact rfl) | exact oW | (apply And.intro)))
  (refine ⟨[], [1, 2], ⟨by kernel_rfl⟩, ?_⟩)
  (repeat' (first | (refine xI (fun hfk => ?_) (fun hfk => ?_) <;> ((try (first | replace hfk := oT hfk | replace hfk := oF hfk | simp only [oD, ne_eq, reduceCtorEq] at hfk)); (try exact oX))) | (refine And.intro ?ob ?_; (case ob => (exact oZ))) | exact True.intro | (show _ = _; first | exact oY | (exact ef; done) | exact rfl) | exact oW | (apply And.intro)))
  refine ⟨[(1, TlA A), (5, .ptr 0 0), (6, .fls), (9, .ptr 1 0), (10, .int .i64 0), (11, .sl 3 2 0 T.length)], ⟨4, [(0, some (.cells 52 [.int .i64 x, .int .i64 y])), (1, some (stA2 L 2 3 0)), (2, some (rowA L L.length)), (3, some (.recs 62 2 T.length (tlG T)))]⟩, [some 0, some 1, some 2, some 3], ?_, ?_⟩
  · (repeat' (first | (refine And.intro ?_ ?_) | exact True.intro | (show _ = _; with_reducible rfl) | exact Chk.mk (by kernel_rfl)))
    all_goals first | (intro j hj; rfl) | rfl | exact congrArg List.length hT | exact fun j _ => congrArg (fun T => tlG T j) hT
  (repeat' (first | (refine xI (fun hfk => ?_) (fun hfk => ?_) <;> ((try (first | replace hfk := oT hfk | replace hfk := oF hfk | simp only [oD, ne_eq, reduceCtorEq] at hfk)); (try exact oX))) | (refine And.intro ?ob ?_; (case ob => (exact oZ))) | exact True.intro | (show _ = _; first | exact oY | exact rfl) | exact oW | (apply And.intro)))
  refine ⟨Nat, fun k => [(5, .ptr 0 0), (6, .fls), (9, .ptr 1 0), (10, .int .i64 0), (11, .sl 3 2 0 T.length), (12, .sl 4 3 0 (arrV L 2 3 x y A k).length), (51, TlA A), (52, .int .i64 (A.length : Int)), (53, .int .i64 (k : Int))],
    fun k => ⟨5, [(0, some (.cells 52 [.int .i64 x, .int .i64 y])), (1, some (stA2 L 2 3 0)), (2, some (rowA L L.length)), (3, some (.recs 62 2 T.length (tlG T))), (4, some (itE (arrV L 2 3 x y A k)))]⟩,
    fun k => k ≤ A.length, fun k => A.length - k, ⟨0, [some 0, some 1, some 2, some 3, none], Nat.zero_le _, ?_⟩, fun k hk => ?_⟩
  · have a0 : (arrV L 2 3 x y A 0).length = 0 := by unfold arrV; rfl
    (repeat' (first | (refine And.intro ?_ ?_) | exact True.intro | (show _ = _; with_reducible rfl) | exact Chk.mk (by kernel_rfl)))
    all_goals first | rfl | (exact fun _ _ => rfl) | exact a0
  have hk : k ≤ A.length := hk
  have nl := arr_len L 2 3 x y A k
  dsimp only
  by_cases hlt : k < A.length
  · obtain ⟨l, hl⟩ : ∃ l, (atT A k).level = l := ⟨_, rfl⟩
    obtain ⟨i, hi⟩ : ∃ i, (atT A k).i = i := ⟨_, rfl⟩
    obtain ⟨r, hr⟩ : ∃ r, gtile (stG L 2 3 l) i = r := ⟨_, rfl⟩
    obtain ⟨is, his⟩ : ∃ is, gis (stG L 2 3 l) i = is := ⟨_, rfl⟩
    have hr' : gtile (stG L 2 3 (atT A k).level) (atT A k).i = r := by rw [hl, hi]; exact hr
    have his' : gis (stG L 2 3 (atT A k).level) (atT A k).i = is := by rw [hl, hi]; exact his
    (repeat' (first | (refine xI (fun hfk => ?_) (fun hfk => ?_) <;> ((try (first | replace hfk := oT hfk | replace hfk := oF hfk | simp only [oD, ne_eq, reduceCtorEq] at hfk)); (try exact oX))) | (refine And.intro ?ob ?_; (case ob => (exact oZ))) | exact True.intro | (show _ = _; first | exact oY | exact rfl) | exact oW | (apply And.intro)))
    refine ⟨[(5, .ptr 0 0), (6, .fls), (9, .ptr 1 0), (10, .int .i64 0), (11, .sl 3 2 0 T.length), (12, .sl 4 3 0 (arrV L 2 3 x y A k).length), (51, TlA A), (52, .int .i64 (A.length : Int)), (53, .int .i64 (k : Int)), (14, .ptr 5 0), (15, .ptr 6 0), (16, .bool is)],
      ⟨7, [(0, some (.cells 52 [.int .i64 x, .int .i64 y])), (1, some (stA2 L 2 3 0)), (2, some (rowA L L.length)), (3, some (.recs 62 2 T.length (tlG T))), (4, some (itE (arrV L 2 3 x y A k))), (5, some (.cells 62 [.int .i64 l, .int .i64 i])), (6, some (.cells 64 [.int .i64 r.x0, .int .i64 r.y0, .int .i64 r.x1, .int .i64 r.y1]))]⟩, [some 0, some 1, some 2, some 3, some 4, some 5, some 6], ?_, ?_⟩
    · (repeat' (first | (refine And.intro ?_ ?_) | exact True.intro | (show _ = _; with_reducible rfl) | exact Chk.mk (by kernel_rfl)))
      all_goals first | rfl | exact hl | exact hi | exact his' | exact congrArg R4.x0 hr' | exact congrArg R4.y0 hr' | exact congrArg R4.x1 hr' | exact congrArg R4.y1 hr' | (exact fun _ _ => rfl) | exact ef
    cases is with
    | false =>
      have an : (arrV L 2 3 x y A (k + 1)).length = (arrV L 2 3 x y A k).length := by rw [arr_no his']
      (repeat' (first | (refine xI (fun hfk => ?_) (fun hfk => ?_) <;> ((try (first | replace hfk := oT hfk | replace hfk := oF hfk | simp only [oD, ne_eq, reduceCtorEq] at hfk)); (try exact oX))) | (refine And.intro ?ob ?_; (case ob => (exact oZ))) | exact True.intro | (show _ = _; first | exact oY | exact rfl) | exact oW | (apply And.intro)))
      refine ⟨k + 1, [some 0, some 1, some 2, some 3, some 4], hlt, ?mu, ?_⟩
      case mu => (show A.length - (k + 1) < A.length - k; omega)
      (repeat' (first | (refine And.intro ?_ ?_) | exact True.intro | (show _ = _; with_reducible rfl) | exact Chk.mk (by kernel_rfl)))
      all_goals first | rfl | exact an.symm | (exact fun j _ => congrArg (fun N => rowJ N j) (arr_no his').symm) | (exact fun _ _ => rfl) | (show (_ : Int) = _; omega)
    | true =>
      obtain ⟨l0, l1⟩ := inL_iff.1 (gis_in his)
      have ay := arr_yes (x := x) (y := y) his'
      obtain ⟨N, hN⟩ : ∃ N, arrV L 2 3 x y A k = N := ⟨_, rfl⟩
      rw [hN] at ay nl ⊢
      have hlv : 0 ≤ l ∧ l ≤ 6 := ⟨l0, by omega⟩
      obtain ⟨X, hX⟩ : ∃ X, (cutI x).fdiv (2 ^ l.toNat) = X := ⟨_, rfl⟩
      obtain ⟨Y, hY⟩ : ∃ Y, (cutI y).fdiv (2 ^ l.toNat) = Y := ⟨_, rfl⟩
      obtain ⟨p, hp⟩ : ∃ p, apV r X Y = p := ⟨_, rfl⟩
      have hfar : farV L 2 3 x y (atT A k) = p := by
        rw [← hp, ← hX, ← hY]
        unfold farV
        rw [hl, hi, hr]
      rw [hl, hi, hfar] at ay
      obtain ⟨N', hN'⟩ : ∃ N', arrV L 2 3 x y A (k + 1) = N' := ⟨_, rfl⟩
      rw [hN'] at ay
      have lN : N'.length = N.length + 1 := by rw [ay, List.length_append]; rfl
      (repeat' (first | (refine xI (fun hfk => ?_) (fun hfk => ?_) <;> ((try (first | replace hfk := oT hfk | replace hfk := oF hfk | simp only [oD, ne_eq, reduceCtorEq] at hfk)); (try exact oX))) | (refine And.intro ?ob ?_; (case ob => (exact oZ))) | exact True.intro | (show _ = _; first | exact oY | exact rfl) | exact oW | (apply And.intro)))
      refine ⟨[(5, .ptr 0 0), (6, .fls), (9, .ptr 1 0), (10, .int .i64 0), (11, .sl 3 2 0 T.length), (12, .sl 4 3 0 N.length), (51, TlA A), (52, .int .i64 (A.length : Int)), (53, .int .i64 (k : Int)), (14, .ptr 5 0), (15, .ptr 6 0), (17, .int .i64 X), (18, .int .i64 Y)],
        ⟨7, [(0, some (.cells 52 [.int .i64 x, .int .i64 y])), (1, some (stA2 L 2 3 0)), (2, some (rowA L L.length)), (3, some (.recs 62 2 T.length (tlG T))), (4, some (itE N)), (5, some (.cells 62 [.int .i64 l, .int .i64 i])), (6, some (.cells 64 [.int .i64 r.x0, .int .i64 r.y0, .int .i64 r.x1, .int .i64 r.y1]))]⟩, [some 0, some 1, some 2, some 3, some 4, some 5, some 6], ?_, ?_⟩
      · (repeat' (first | (refine And.intro ?_ ?_) | exact True.intro | (show _ = _; with_reducible rfl) | exact Chk.mk (by kernel_rfl)))
        all_goals first | rfl | exact hX | exact hY | (exact fun _ _ => rfl)
      have eP : ∀ {F : Nat → AV}, F 0 = .agg [.int .i64 l, .int .i64 i, .int .i64 (apV r X Y)] → ∀ j, j < N'.length → (if j < N.length then rowJ N j else F (j - N.length)) = rowJ N' j := fun {F} hF j hj => by
        rw [ay]
        exact rowj_snoc (x := ⟨l, i, p, N.length⟩) (by rw [hF, hp]) (by omega)
      have np : decide (¬ p = p) = false := decide_eq_false (fun h => h rfl)
      have np2 : decide (¬ apV r X Y = apV r X Y) = false := decide_eq_false (fun h => h rfl)
      (repeat' (first | (refine xI (fun hfk => ?_) (fun hfk => ?_) <;> ((try (first | replace hfk := oT hfk | replace hfk := oF hfk | simp only [oD, ne_eq, reduceCtorEq] at hfk)); (try exact oX))) | (refine And.intro ?ob ?_; (case ob => (exact oZ))) | exact True.intro | (show _ = _; first | exact oY | exact rfl) | exact oW | (apply And.intro)))
      refine ⟨[(5, .ptr 0 0), (6, .fls), (9, .ptr 1 0), (10, .int .i64 0), (11, .sl 3 2 0 T.length), (12, .sl 4 3 0 N'.length), (51, TlA A), (52, .int .i64 (A.length : Int)), (53, .int .i64 (k : Int))],
        ⟨5, [(0, some (.cells 52 [.int .i64 x, .int .i64 y])), (1, some (stA2 L 2 3 0)), (2, some (rowA L L.length)), (3, some (.recs 62 2 T.length (tlG T))), (4, some (itE N'))]⟩, [some 0, some 1, some 2, some 3, some 8], ?_, ?_⟩
      · (repeat' (first | (refine And.intro ?_ ?_) | exact True.intro | (show _ = _; with_reducible rfl) | exact Chk.mk (by kernel_rfl)))
        all_goals first | rfl | exact lN.symm | exact And.intro rfl lN.symm | exact eP (F := fun j => chunkA _ _ (0 + j)) rfl | (exact fun _ _ => rfl)
      (repeat' (first | (refine xI (fun hfk => ?_) (fun hfk => ?_) <;> ((try (first | replace hfk := oT hfk | replace hfk := oF hfk | simp only [oD, ne_eq, reduceCtorEq] at hfk)); (try exact oX))) | (refine And.intro ?ob ?_; (case ob => (exact oZ))) | exact True.intro | (show _ = _; first | exact oY | exact rfl) | exact oW | (apply And.intro)))
      refine ⟨k + 1, [some 0, some 1, some 2, some 3, some 4], hlt, ?mu, ?_⟩
      case mu => (show A.length - (k + 1) < A.length - k; omega)
      (repeat' (first | (refine And.intro ?_ ?_) | exact True.intro | (show _ = _; with_reducible rfl) | exact Chk.mk (by kernel_rfl)))
      all_goals first | rfl | exact (congrArg List.length hN').symm | (exact fun j _ => congrArg (fun N => rowJ N j) hN'.symm) | (exact fun _ _ => rfl) | (show (_ : Int) = _; omega)
  · obtain rfl : k = A.length := by omega
    obtain ⟨N, hN⟩ : ∃ N, arrV L 2 3 x y A A.length = N := ⟨_, rfl⟩
    rw [hN] at nl hT ⊢
    (repeat' (first | (refine xI (fun hfk => ?_) (fun hfk => ?_) <;> ((try (first | replace hfk := oT hfk | replace hfk := oF hfk | simp only [oD, ne_eq, reduceCtorEq] at hfk)); (try exact oX))) | (refine And.intro ?ob ?_; (case ob => (exact oZ))) | exact True.intro | (show _ = _; first | exact oY | exact rfl) | exact oW | (apply And.intro)))
    refine ⟨List It × List It, fun g => [(6, .fls), (11, .sl 0 2 0 T.length), (12, .sl 1 3 0 g.1.length), (19, .sl 2 2 0 g.2.length)],
      fun g => ⟨3, [(0, some (.recs 62 2 T.length (tlG T))), (1, some (itE g.1)), (2, some (.recs 62 2 g.2.length (tlG g.2)))]⟩,
      fun g => g.2 ++ selA g.1 = T ∧ g.1.length ≤ 40, fun g => g.1.length, ⟨(N, []), [some 3, some 4, none], ⟨hT, by show N.length ≤ 40; omega⟩, ?_⟩, fun g hg => ?_⟩
    · (repeat' (first | (refine And.intro ?_ ?_) | exact True.intro | (show _ = _; with_reducible rfl) | exact Chk.mk (by kernel_rfl)))
      all_goals first | rfl | (exact fun _ _ => rfl)
    clear nl hT hN N
    obtain ⟨N, O⟩ := g
    obtain ⟨g1, g2⟩ := hg
    have g1 : O ++ selA N = T := g1
    have g2 : N.length ≤ 40 := g2
    have rJ := rowj0 N
    have lO : O.length ≤ 40 := by
      have := congrArg List.length g1
      rw [List.length_append] at this
      omega
    dsimp only
    by_cases n0 : 0 < N.length
    · have n0' : (0 : Int) < (N.length : Int) := by omega
      have hT := selA_step n0
      have f1 := fstN_lt n0
      have f2 := fst_at2 N
      obtain ⟨k, hk⟩ : ∃ k, fstN N = k := ⟨_, rfl⟩
      rw [hk] at hT f1 f2
      obtain ⟨N', hN'⟩ : ∃ N', N.eraseIdx k = N' := ⟨_, rfl⟩
      have lN : N'.length = N.length - 1 := by rw [← hN', List.length_eraseIdx, if_pos f1]
      obtain ⟨c, hc⟩ : ∃ c, atL N k = c := ⟨_, rfl⟩
      obtain ⟨P, hP⟩ : ∃ P, O ++ [c] = P := ⟨_, rfl⟩
      have lP : P.length = O.length + 1 := by rw [← hP, List.length_append]; rfl
      have gP : P ++ selA N' = T := by rw [← g1, hT, hN', ← hP, ← hc, List.append_assoc]; rfl
      have hk2 : ((fstV (fun j => pOf ((fun j => rowJ N (0 + j)) j)) N.length : Nat) : Int) = (k : Int) := by rw [f2]
      (repeat' (first | (refine xI (fun hfk => ?_) (fun hfk => ?_) <;> ((try (first | replace hfk := oT hfk | replace hfk := oF hfk | simp only [oD, ne_eq, reduceCtorEq] at hfk)); (try exact oX))) | (refine And.intro ?ob ?_; (case ob => (exact oZ))) | exact True.intro | (show _ = _; first | exact oY | (first | exact rJ | skip; done) | exact rfl) | exact oW | (apply And.intro)))
      refine ⟨[(6, .fls), (11, .sl 0 2 0 T.length), (12, .sl 1 3 0 N.length), (19, .sl 2 2 0 O.length), (20, .int .i64 (k : Int))],
        ⟨3, [(0, some (.recs 62 2 T.length (tlG T))), (1, some (itE N)), (2, some (.recs 62 2 O.length (tlG O)))]⟩, [some 0, some 1, some 2], ?_, ?_⟩
      · (repeat' (first | (refine And.intro ?_ ?_) | exact True.intro | (show _ = _; with_reducible rfl) | exact Chk.mk (by kernel_rfl)))
        all_goals first | rfl | exact hk2 | (exact fun _ _ => rfl)
      clear hk2 f2
      have eQ : ∀ {F : Nat → AV}, F 0 = .agg [.int .i64 (N.getD (0 + (k : Int).toNat) It.z).l, .int .i64 (N.getD (0 + (k : Int).toNat) It.z).i] → ∀ j, j < P.length → (if j < O.length then tlG O j else F (j - O.length)) = tlG P j := fun {F} hF j hj => by
        rw [← hP]
        refine tlG_snoc ?_ (by omega)
        rw [hF, Nat.zero_add, Int.toNat_natCast, ← hc]
      (repeat' (first | (refine xI (fun hfk => ?_) (fun hfk => ?_) <;> ((try (first | replace hfk := oT hfk | replace hfk := oF hfk | simp only [oD, ne_eq, reduceCtorEq] at hfk)); (try exact oX))) | (refine And.intro ?ob ?_; (case ob => (exact oZ))) | exact True.intro | (show _ = _; first | exact oY | exact rfl) | exact oW | (apply And.intro)))
      refine ⟨[(6, .fls), (11, .sl 0 2 0 T.length), (12, .sl 1 3 0 N.length), (19, .sl 2 2 0 P.length), (20, .int .i64 (k : Int))],
        ⟨3, [(0, some (.recs 62 2 T.length (tlG T))), (1, some (itE N)), (2, some (.recs 62 2 P.length (tlG P)))]⟩, [some 0, some 1, some 4], ?_, ?_⟩
      · (repeat' (first | (refine And.intro ?_ ?_) | exact True.intro | (show _ = _; with_reducible rfl) | exact Chk.mk (by kernel_rfl)))
        all_goals first | rfl | exact lP.symm | exact And.intro rfl lP.symm | exact eQ (F := fun j => chunkA _ _ (0 + j)) rfl | (exact fun _ _ => rfl)
      have ef : (fun j => rowJ N (0 + j)) = rowJ N := funext fun j => by rw [Nat.zero_add]
      have hw : ∀ j, wiG (fun j => rowJ N (0 + j)) (k : Int).toNat j = rowJ N' j := fun j => by rw [ef, Int.toNat_natCast, wiG_row N f1, hN']
      (repeat' (first | (refine xI (fun hfk => ?_) (fun hfk => ?_) <;> ((try (first | replace hfk := oT hfk | replace hfk := oF hfk | simp only [oD, ne_eq, reduceCtorEq] at hfk)); (try exact oX))) | (refine And.intro ?ob ?_; (case ob => (exact oZ))) | exact True.intro | (show _ = _; first | exact oY | exact rfl) | exact oW | (apply And.intro)))
      (refine ⟨[], [1], ⟨by kernel_rfl⟩, ?_⟩)
      (repeat' (first | (refine xI (fun hfk => ?_) (fun hfk => ?_) <;> ((try (first | replace hfk := oT hfk | replace hfk := oF hfk | simp only [oD, ne_eq, reduceCtorEq] at hfk)); (try exact oX))) | (refine And.intro ?ob ?_; (case ob => (exact oZ))) | exact True.intro | (show _ = _; first | exact oY | (first | exact rJ | skip; done) | exact rfl) | exact oW | (apply And.intro)))
      · intro j _
        rw [hw j]
        rfl
      refine ⟨(N', P), [some 0, some 3, some 2], ⟨gP, by show N'.length ≤ 40; omega⟩, ?mu, ?_⟩
      case mu => (show N'.length < N.length; omega)
      (repeat' (first | (refine And.intro ?_ ?_) | exact True.intro | (show _ = _; with_reducible rfl) | exact Chk.mk (by kernel_rfl)))
      all_goals first | rfl | exact lN.symm | exact And.intro rfl lN.symm | (exact fun j _ => hw j) | (exact fun _ _ => rfl)
    · obtain rfl : N = [] := List.eq_nil_of_length_eq_zero (by omega)
      have g1 : O = T := by rw [← g1, selA_nil, List.append_nil]
      subst g1
      have e0 : (fun j => tlG O (0 + j)) = tlG O := funext fun j => by rw [Nat.zero_add]
      have two : TwoT O.length O.length (fun j => tlG O (0 + j)) (fun j => tlG O (0 + j)) := ⟨O, rfl, rfl, e0, e0⟩
      (repeat' (first | (refine xI (fun hfk => ?_) (fun hfk => ?_) <;> ((try (first | replace hfk := oT hfk | replace hfk := oF hfk | simp only [oD, ne_eq, reduceCtorEq] at hfk)); (try exact oX))) | (refine And.intro ?ob ?_; (case ob => (exact oZ))) | exact True.intro | (show _ = _; first | exact oY | (first | exact two | skip; done) | exact rfl) | exact oW | (apply And.intro)))
theorem walk_QueueOrders' (L : List Im) (A : List Tl) (x y : Int) (W : World) {cl : List Value} (hc : CRel noN W NoO [imsA L, TlA A, .agg [.int .i64 x, .int .i64 y]] cl) :
    Calls Try.prog 8 cl.toArray W fun e W' => e = .returned (.bool true) ∧ Below W.heap.size W W' := by
  have hL := lenOK_of hc
  by_cases h : 6 < L.length ∨ 40 < A.length
  · exact qo_big L A x y hL h W hc
  have h6 : L.length ≤ 6 := by omega
  have hA : A.length ≤ 40 := by omega
  cases hf : fewL L with
  | false => exact qo_few L A x y hL h6 hA hf W hc
  | true =>
    by_cases hs : storeC L 2 3 = 0
    · exact qo_good L A x y hL h6 hA hf hs W hc
    · exact qo_bad L A x y hL h6 hA hf hs W hc
end Go.Proofs.Ytgbekbofeaoniaa

