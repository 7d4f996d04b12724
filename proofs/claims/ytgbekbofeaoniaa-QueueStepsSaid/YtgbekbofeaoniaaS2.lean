/- Texts laid together. No condition. -/
import Derived.Test.YtgbekbofeaoniaaS1
set_option maxRecDepth 100000
set_option maxHeartbeats 4000000
set_option linter.unusedVariables false
set_option linter.unusedSimpArgs false
namespace Go.Proofs.Ytgbekbofeaoniaa
open Go Go.RowKit
abbrev jtE (N : List It) : Ent := .recs 82 3 N.length (rowJ N)
theorem fst_at (N : List It) : fstV (fun j => pOf ((fun j => rowJ N (0 + j)) j)) N.length = fstV (fun j => (atL N j).p) N.length := by
  congr 1
  funext j
  show pOf (rowJ N (0 + j)) = _
  rw [Nat.zero_add]
  rfl
theorem rowJ_snoc2 {N : List It} {x : It} {F : Nat → AV} (hF : F 0 = jtA x) {j : Nat} (h : j < N.length + 1) : (if j < N.length then rowJ N j else F (j - N.length)) = rowJ (N ++ [x]) j := by
  show _ = jtA ((N ++ [x]).getD j It.z)
  by_cases c : j < N.length
  · rw [if_pos c, List.getD_eq_getElem?_getD, List.getElem?_append_left c, ← List.getD_eq_getElem?_getD]
  · rw [if_neg c, show j = N.length by omega, List.getD_eq_getElem?_getD, List.getElem?_append_right (Nat.le_refl _), Nat.sub_self]
    exact hF
attribute [local irreducible] swapL qrL popL popX pushL fstV
theorem walk_QueueSteps' (S : List Qs) (W : World) {cl : List Value} (hcl : CRel noN W NoO [QsA S] cl) :
    Calls Try.prog 6 cl.toArray W fun e W' => e = .returned (.bool true) ∧ Below W.heap.size W W' := by
  refine law_of (C := mkI 0 [(39, qlenS), (35, qpushN), (36, qpopN), (37, firstS), (40, al43S)]
      (glook [(34, fG qnewF), (35, fG qpushF), (36, gdq (fG qpopF) (fG qpop0F)), (38, fGv withoutF)]) [] [] [] [11, 13, 14, 16, 17, 18, 23, 26])
    (mkI_ok (pok_cons qlen_s (pok_cons qpushN_s (pok_cons qpopN_s (pok_cons first_s (pok_cons alive43_s pok_nil))))) (gl_cons qnew_g (gl_cons qpush_g (gl_cons qpop_d (gl_cons (gview without_g) gl_nil)))) dl_nil mok_nil) rfl ⟨Try.func6, by kernel_rfl, by kernel_rfl, by kernel_rfl⟩ (by exact Nat.le_of_ble_eq_true rfl) ?_ hcl
  by_cases h200 : 200 < S.length
  · (repeat' (first | (refine xI (fun hfk => ?_) (fun hfk => ?_) <;> ((try (first | replace hfk := oT hfk | replace hfk := oF hfk | simp only [oD, ne_eq, reduceCtorEq] at hfk)); (try exact oX))) | (refine And.intro ?ob ?_; (case ob => (exact oZ))) | exact True.intro | (show _ = _; first | exact oY | exact rfl) | exact oW | (apply And.intro)))
  (repeat' (first | (refine xI (fun hfk => ?_) (fun hfk => ?_) <;> ((try (first | replace hfk := oT hfk | replace hfk := oF hfk | simp only [oD, ne_eq, reduceCtorEq] at hfk)); (try exact oX))) | (refine And.intro ?ob ?_; (case ob => (exact oZ))) | exact True.intro | (show _ = _; first | exact oY | exact rfl) | exact oW | (apply And.intro)))
  (refine ⟨[], ⟨by kernel_rfl⟩, ?_⟩)
  (repeat' (first | (refine xI (fun hfk => ?_) (fun hfk => ?_) <;> ((try (first | replace hfk := oT hfk | replace hfk := oF hfk | simp only [oD, ne_eq, reduceCtorEq] at hfk)); (try exact oX))) | (refine And.intro ?ob ?_; (case ob => (exact oZ))) | exact True.intro | (show _ = _; first | exact oY | exact rfl) | exact oW | (apply And.intro)))
  refine ⟨Nat × List It × List It × Nat, fun g => [(0, QsA S), (3, .ptr 0 0), (4, .ptr 1 0), (5, .nilp), (6, .sl 4 3 0 g.2.2.1.length), (25, QsA S), (26, .int .i64 (S.length : Int)), (27, .int .i64 (g.1 : Int))],
    fun g => ⟨5, [(0, some (.cells 76 [.sl 2 4 0 g.2.1.length, .int .i64 (g.2.2.2 : Int)])), (1, some (.cells 76 [.sl 3 4 0 g.2.1.length, .int .i64 (g.2.2.2 : Int)])), (2, some (rowE g.2.1)), (3, some (rowE g.2.1)), (4, some (jtE g.2.2.1))]⟩,
    fun g => g.1 ≤ S.length ∧ QI g.2.1 g.2.2.1 g.2.2.2 ∧ g.2.2.2 ≤ g.1 ∧ g.2.2.1.length ≤ g.1, fun g => S.length - g.1, ⟨(0, [], [], 0), [some 0, some 1, none, none, none], ⟨Nat.zero_le _, qi_nil 0, Nat.le_refl _, Nat.le_refl _⟩, ?_⟩, fun g hg => ?_⟩
  · (repeat' (first | (refine And.intro ?_ ?_) | exact True.intro | (show _ = _; with_reducible rfl) | exact Chk.mk (by kernel_rfl)))
    all_goals first | rfl | (exact fun _ _ => rfl)
  obtain ⟨i, L, N, c⟩ := g
  obtain ⟨i1, hq, c1, n1⟩ := hg
  have i1 : i ≤ S.length := i1
  have hq : QI L N c := hq
  have c1 : c ≤ i := c1
  have n1 : N.length ≤ i := n1
  dsimp only
  have hLN := qi_len hq
  have rL := rowp L
  have rJ := rowj0 N
  by_cases hlt : i < S.length
  rotate_left
  · (repeat' (first | (refine xI (fun hfk => ?_) (fun hfk => ?_) <;> ((try (first | replace hfk := oT hfk | replace hfk := oF hfk | simp only [oD, ne_eq, reduceCtorEq] at hfk)); (try exact oX))) | (refine And.intro ?ob ?_; (case ob => (exact oZ))) | exact True.intro | (show _ = _; first | exact oY | exact rfl) | exact oW | (apply And.intro)))
  (repeat' (first | (refine xI (fun hfk => ?_) (fun hfk => ?_) <;> ((try (first | replace hfk := oT hfk | replace hfk := oF hfk | simp only [oD, ne_eq, reduceCtorEq] at hfk)); (try exact oX))) | (refine And.intro ?ob ?_; (case ob => (exact oZ))) | exact True.intro | (show _ = _; first | exact oY | exact rfl) | exact oW | (apply And.intro)))
  obtain ⟨b, hb⟩ : ∃ b, (S.getD i Qs.z).pop = b := ⟨_, rfl⟩
  obtain ⟨l, hl⟩ : ∃ l, (S.getD i Qs.z).l = l := ⟨_, rfl⟩
  obtain ⟨a, ha⟩ : ∃ a, (S.getD i Qs.z).i = a := ⟨_, rfl⟩
  obtain ⟨p, hp⟩ : ∃ p, (S.getD i Qs.z).p = p := ⟨_, rfl⟩
  refine ⟨[(0, QsA S), (3, .ptr 0 0), (4, .ptr 1 0), (5, .nilp), (6, .sl 4 3 0 N.length), (25, QsA S), (26, .int .i64 (S.length : Int)), (27, .int .i64 (i : Int)), (8, .ptr 5 0)], ⟨6, [(0, some (.cells 76 [.sl 2 4 0 L.length, .int .i64 (c : Int)])), (1, some (.cells 76 [.sl 3 4 0 L.length, .int .i64 (c : Int)])), (2, some (rowE L)), (3, some (rowE L)), (4, some (jtE N)), (5, some (.cells 79 [.bool b, .int .i64 l, .int .i64 a, .int .i64 p]))]⟩, [some 0, some 1, some 2, some 3, some 4, some 5], ?_, ?_⟩
  · (repeat' (first | (refine And.intro ?_ ?_) | exact True.intro | (show _ = _; with_reducible rfl) | exact Chk.mk (by kernel_rfl)))
    all_goals first | rfl | (exact fun _ _ => rfl) | exact hb | exact hl | exact ha | exact hp
  clear hb hl ha hp
  cases b with
  | false =>
    obtain ⟨L', hL'⟩ : ∃ L', pushL L ⟨l, a, p, c⟩ = L' := ⟨_, rfl⟩
    obtain ⟨N', hN'⟩ : ∃ N', N ++ [⟨l, a, p, c⟩] = N' := ⟨_, rfl⟩
    have hq' := qi_push hq l a p
    rw [hL', hN'] at hq'
    have lL : L'.length = L.length + 1 := by rw [← hL', pushL_len]
    have lN : N'.length = N.length + 1 := by rw [← hN', List.length_append]; rfl
    have eL : pushL (qrL L.length (rowG L)) ⟨l, a, p, c⟩ = L' := by rw [qrL_row]; exact hL'
    have rL' : RowP L'.length (rowG L') := rowp L'
    (repeat' (first | (refine xI (fun hfk => ?_) (fun hfk => ?_) <;> ((try (first | replace hfk := oT hfk | replace hfk := oF hfk | simp only [oD, ne_eq, reduceCtorEq] at hfk)); (try exact oX))) | (refine And.intro ?ob ?_; (case ob => (exact oZ))) | exact True.intro | (show _ = _; first | exact oY | exact rfl) | exact oW | (apply And.intro)))
    (refine ⟨[0, 2], ⟨by kernel_rfl⟩, ?_⟩)
    (repeat' (first | (refine xI (fun hfk => ?_) (fun hfk => ?_) <;> ((try (first | replace hfk := oT hfk | replace hfk := oF hfk | simp only [oD, ne_eq, reduceCtorEq] at hfk)); (try exact oX))) | (refine And.intro ?ob ?_; (case ob => (exact oZ))) | exact True.intro | (show _ = _; first | exact oY | (first | exact rL | skip; done) | exact rfl) | exact oW | (apply And.intro)))
    refine ⟨[(0, QsA S), (3, .ptr 0 0), (4, .ptr 1 0), (5, .nilp), (6, .sl 4 3 0 N.length), (25, QsA S), (26, .int .i64 (S.length : Int)), (27, .int .i64 (i : Int)), (8, .ptr 5 0)], ⟨6, [(0, some (.cells 76 [.sl 2 4 0 L'.length, .int .i64 ((c : Int) + 1)])), (1, some (.cells 76 [.sl 3 4 0 L.length, .int .i64 (c : Int)])), (2, some (rowE L')), (3, some (rowE L)), (4, some (jtE N)), (5, some (.cells 79 [.bool false, .int .i64 l, .int .i64 a, .int .i64 p]))]⟩, [some 0, some 1, some 6, some 3, some 4, some 5], ?_, ?_⟩
    · (repeat' (first | (refine And.intro ?_ ?_) | exact True.intro | (show _ = _; with_reducible rfl) | exact Chk.mk (by kernel_rfl)))
      all_goals first | rfl | exact lL.symm | (exact fun j _ => congrArg (fun L => rowG L j) eL) | (exact fun _ _ => rfl)
    (repeat' (first | (refine xI (fun hfk => ?_) (fun hfk => ?_) <;> ((try (first | replace hfk := oT hfk | replace hfk := oF hfk | simp only [oD, ne_eq, reduceCtorEq] at hfk)); (try exact oX))) | (refine And.intro ?ob ?_; (case ob => (exact oZ))) | exact True.intro | (show _ = _; first | exact oY | exact rfl) | exact oW | (apply And.intro)))
    (refine ⟨[1, 3], ⟨by kernel_rfl⟩, ?_⟩)
    (repeat' (first | (refine xI (fun hfk => ?_) (fun hfk => ?_) <;> ((try (first | replace hfk := oT hfk | replace hfk := oF hfk | simp only [oD, ne_eq, reduceCtorEq] at hfk)); (try exact oX))) | (refine And.intro ?ob ?_; (case ob => (exact oZ))) | exact True.intro | (show _ = _; first | exact oY | (first | exact rL | skip; done) | exact rfl) | exact oW | (apply And.intro)))
    refine ⟨[(0, QsA S), (3, .ptr 0 0), (4, .ptr 1 0), (5, .nilp), (6, .sl 4 3 0 N.length), (25, QsA S), (26, .int .i64 (S.length : Int)), (27, .int .i64 (i : Int)), (8, .ptr 5 0)], ⟨6, [(0, some (.cells 76 [.sl 2 4 0 L'.length, .int .i64 ((c : Int) + 1)])), (1, some (.cells 76 [.sl 3 4 0 L'.length, .int .i64 ((c : Int) + 1)])), (2, some (rowE L')), (3, some (rowE L')), (4, some (jtE N)), (5, some (.cells 79 [.bool false, .int .i64 l, .int .i64 a, .int .i64 p]))]⟩, [some 0, some 1, some 2, some 6, some 4, some 5], ?_, ?_⟩
    · (repeat' (first | (refine And.intro ?_ ?_) | exact True.intro | (show _ = _; with_reducible rfl) | exact Chk.mk (by kernel_rfl)))
      all_goals first | rfl | exact lL.symm | (exact fun j _ => congrArg (fun L => rowG L j) eL) | (exact fun _ _ => rfl)
    (repeat' (first | (refine xI (fun hfk => ?_) (fun hfk => ?_) <;> ((try (first | replace hfk := oT hfk | replace hfk := oF hfk | simp only [oD, ne_eq, reduceCtorEq] at hfk)); (try exact oX))) | (refine And.intro ?ob ?_; (case ob => (exact oZ))) | exact True.intro | (show _ = _; first | exact oY | exact rfl) | exact oW | (apply And.intro)))
    refine ⟨[(0, QsA S), (3, .ptr 0 0), (4, .ptr 1 0), (5, .nilp), (6, .sl 4 3 0 N'.length), (25, QsA S), (26, .int .i64 (S.length : Int)), (27, .int .i64 (i : Int))], ⟨5, [(0, some (.cells 76 [.sl 2 4 0 L'.length, .int .i64 ((c : Int) + 1)])), (1, some (.cells 76 [.sl 3 4 0 L'.length, .int .i64 ((c : Int) + 1)])), (2, some (rowE L')), (3, some (rowE L')), (4, some (jtE N'))]⟩, [some 0, some 1, some 2, some 3, some 7], ?_, ?_⟩
    · (repeat' (first | (refine And.intro ?_ ?_) | exact True.intro | (show _ = _; with_reducible rfl) | exact Chk.mk (by kernel_rfl)))
      all_goals first | rfl | exact lN.symm | (exact fun _ _ => rfl) | skip
      intro j hj
      rw [lN] at hj
      rw [← hN']
      exact rowJ_snoc2 (F := fun j => chunkA _ _ (0 + j)) rfl hj
    have lLN : (L'.length : Int) = (N'.length : Int) := by rw [qi_len hq']
    (repeat' (first | (refine xI (fun hfk => ?_) (fun hfk => ?_) <;> ((try (first | replace hfk := oT hfk | replace hfk := oF hfk | simp only [oD, ne_eq, reduceCtorEq] at hfk)); (try exact oX))) | (refine And.intro ?ob ?_; (case ob => (exact oZ))) | exact True.intro | (show _ = _; first | exact oY | exact rfl) | exact oW | (apply And.intro)))
    refine ⟨(i + 1, L', N', c + 1), [some 0, some 1, some 2, some 3, some 4], ⟨hlt, hq', by show c + 1 ≤ i + 1; omega, by show N'.length ≤ i + 1; omega⟩, ?mu, ?_⟩
    case mu => (show S.length - (i + 1) < S.length - i; omega)
    (repeat' (first | (refine And.intro ?_ ?_) | exact True.intro | (show _ = _; with_reducible rfl) | exact Chk.mk (by kernel_rfl)))
    all_goals first | rfl | (exact fun _ _ => rfl) | (show (_ : Int) = _; omega)
  | true =>
    by_cases l0 : L.length = 0
    · obtain rfl : L = [] := List.eq_nil_of_length_eq_zero l0
      obtain rfl : N = [] := List.eq_nil_of_length_eq_zero (by rw [← hLN]; rfl)
      (repeat' (first | (refine xI (fun hfk => ?_) (fun hfk => ?_) <;> ((try (first | replace hfk := oT hfk | replace hfk := oF hfk | simp only [oD, ne_eq, reduceCtorEq] at hfk)); (try exact oX))) | (refine And.intro ?ob ?_; (case ob => (exact oZ))) | exact True.intro | (show _ = _; first | exact oY | exact rfl) | exact oW | (apply And.intro)))
      right
      (refine ⟨[0, 2], ⟨by kernel_rfl⟩, ?_⟩)
      (repeat' (first | (refine xI (fun hfk => ?_) (fun hfk => ?_) <;> ((try (first | replace hfk := oT hfk | replace hfk := oF hfk | simp only [oD, ne_eq, reduceCtorEq] at hfk)); (try exact oX))) | (refine And.intro ?ob ?_; (case ob => (exact oZ))) | exact True.intro | (show _ = _; first | exact oY | exact rfl) | exact oW | (apply And.intro)))
      refine ⟨[(0, QsA S), (3, .ptr 0 0), (4, .ptr 1 0), (5, .nilp), (6, .sl 4 3 0 0), (25, QsA S), (26, .int .i64 (S.length : Int)), (27, .int .i64 (i : Int)), (9, .ptr 5 0), (10, .int .i64 0), (11, .fls)], ⟨6, [(0, some (.cells 76 [.sl 2 4 0 0, .int .i64 (c : Int)])), (1, some (.cells 76 [.sl 3 4 0 0, .int .i64 (c : Int)])), (2, some (rowE [])), (3, some (rowE [])), (4, some (jtE [])), (5, some (.cells 62 [.int .i64 0, .int .i64 0]))]⟩, [some 0, some 1, some 2, some 3, some 4, some 6], ?_, ?_⟩
      · (repeat' (first | (refine And.intro ?_ ?_) | exact True.intro | (show _ = _; with_reducible rfl) | exact Chk.mk (by kernel_rfl)))
        all_goals first | rfl | (exact fun _ _ => rfl)
      (repeat' (first | (refine xI (fun hfk => ?_) (fun hfk => ?_) <;> ((try (first | replace hfk := oT hfk | replace hfk := oF hfk | simp only [oD, ne_eq, reduceCtorEq] at hfk)); (try exact oX))) | (refine And.intro ?ob ?_; (case ob => (exact oZ))) | exact True.intro | (show _ = _; first | exact oY | exact rfl) | exact oW | (apply And.intro)))
      right
      (refine ⟨[1, 3], ⟨by kernel_rfl⟩, ?_⟩)
      (repeat' (first | (refine xI (fun hfk => ?_) (fun hfk => ?_) <;> ((try (first | replace hfk := oT hfk | replace hfk := oF hfk | simp only [oD, ne_eq, reduceCtorEq] at hfk)); (try exact oX))) | (refine And.intro ?ob ?_; (case ob => (exact oZ))) | exact True.intro | (show _ = _; first | exact oY | exact rfl) | exact oW | (apply And.intro)))
      refine ⟨[(0, QsA S), (3, .ptr 0 0), (4, .ptr 1 0), (5, .nilp), (6, .sl 4 3 0 0), (25, QsA S), (26, .int .i64 (S.length : Int)), (27, .int .i64 (i : Int)), (9, .ptr 5 0), (10, .int .i64 0), (11, .fls), (12, .ptr 6 0), (13, .int .i64 0), (14, .fls)], ⟨7, [(0, some (.cells 76 [.sl 2 4 0 0, .int .i64 (c : Int)])), (1, some (.cells 76 [.sl 3 4 0 0, .int .i64 (c : Int)])), (2, some (rowE [])), (3, some (rowE [])), (4, some (jtE [])), (5, some (.cells 62 [.int .i64 0, .int .i64 0])), (6, some (.cells 62 [.int .i64 0, .int .i64 0]))]⟩, [some 0, some 1, some 2, some 3, some 4, some 5, some 6], ?_, ?_⟩
      · (repeat' (first | (refine And.intro ?_ ?_) | exact True.intro | (show _ = _; with_reducible rfl) | exact Chk.mk (by kernel_rfl)))
        all_goals first | rfl | (exact fun _ _ => rfl)
      (repeat' (first | (refine xI (fun hfk => ?_) (fun hfk => ?_) <;> ((try (first | replace hfk := oT hfk | replace hfk := oF hfk | simp only [oD, ne_eq, reduceCtorEq] at hfk)); (try exact oX))) | (refine And.intro ?ob ?_; (case ob => (exact oZ))) | exact True.intro | (show _ = _; first | exact oY | exact rfl) | exact oW | (apply And.intro)))
      refine ⟨(i + 1, [], [], c), [some 0, some 1, some 2, some 3, some 4], ⟨hlt, hq, by show c ≤ i + 1; omega, Nat.zero_le _⟩, ?mu, ?_⟩
      case mu => (show S.length - (i + 1) < S.length - i; omega)
      (repeat' (first | (refine And.intro ?_ ?_) | exact True.intro | (show _ = _; with_reducible rfl) | exact Chk.mk (by kernel_rfl)))
      all_goals first | rfl | (exact fun _ _ => rfl) | (show (_ : Int) = _; omega)
    · have L0 : 0 < L.length := by omega
      obtain ⟨k, hk⟩ : ∃ k, fstV (fun j => (atL N j).p) N.length = k := ⟨_, rfl⟩
      obtain ⟨k1, k2, k3⟩ := qi_pop hq L0 k hk
      obtain ⟨L', hL'⟩ : ∃ L', popL L = L' := ⟨_, rfl⟩
      obtain ⟨N', hN'⟩ : ∃ N', N.eraseIdx k = N' := ⟨_, rfl⟩
      rw [hL', hN'] at k3
      have lL : L'.length = L.length - 1 := by rw [← hL', popL_len]
      have lN : N'.length = N.length - 1 := by rw [← hN', List.length_eraseIdx, if_pos k1]
      have eL : popL (qrL L.length (rowG L)) = L' := by rw [qrL_row]; exact hL'
      have eX : popX (qrL L.length (rowG L)) = atL N k := by rw [qrL_row]; exact k2
      obtain ⟨xl, hxl⟩ : ∃ xl, (atL N k).l = xl := ⟨_, rfl⟩
      obtain ⟨xi, hxi⟩ : ∃ xi, (atL N k).i = xi := ⟨_, rfl⟩
      obtain ⟨xp, hxp⟩ : ∃ xp, (atL N k).p = xp := ⟨_, rfl⟩
      have q1 : (popX (qrL L.length (rowG L))).l = xl := by rw [eX]; exact hxl
      have q2 : (popX (qrL L.length (rowG L))).i = xi := by rw [eX]; exact hxi
      have q3 : (popX (qrL L.length (rowG L))).p = xp := by rw [eX]; exact hxp
      (repeat' (first | (refine xI (fun hfk => ?_) (fun hfk => ?_) <;> ((try (first | replace hfk := oT hfk | replace hfk := oF hfk | simp only [oD, ne_eq, reduceCtorEq] at hfk)); (try exact oX))) | (refine And.intro ?ob ?_; (case ob => (exact oZ))) | exact True.intro | (show _ = _; first | exact oY | exact rfl) | exact oW | (apply And.intro)))
      left
      (refine ⟨[0, 2], ⟨by kernel_rfl⟩, ?_⟩)
      (repeat' (first | (refine xI (fun hfk => ?_) (fun hfk => ?_) <;> ((try (first | replace hfk := oT hfk | replace hfk := oF hfk | simp only [oD, ne_eq, reduceCtorEq] at hfk)); (try exact oX))) | (refine And.intro ?ob ?_; (case ob => (exact oZ))) | exact True.intro | (show _ = _; first | exact oY | (first | exact rL | skip; done) | exact rfl) | exact oW | (apply And.intro)))
      refine ⟨[(0, QsA S), (3, .ptr 0 0), (4, .ptr 1 0), (5, .nilp), (6, .sl 4 3 0 N.length), (25, QsA S), (26, .int .i64 (S.length : Int)), (27, .int .i64 (i : Int)), (9, .ptr 5 0), (10, .int .i64 xp), (11, .tru)], ⟨6, [(0, some (.cells 76 [.sl 2 4 0 L'.length, .int .i64 (c : Int)])), (1, some (.cells 76 [.sl 3 4 0 L.length, .int .i64 (c : Int)])), (2, some (rowE L')), (3, some (rowE L)), (4, some (jtE N)), (5, some (.cells 62 [.int .i64 xl, .int .i64 xi]))]⟩, [some 0, some 1, some 2, some 3, some 4, some 6], ?_, ?_⟩
      · (repeat' (first | (refine And.intro ?_ ?_) | exact True.intro | (show _ = _; with_reducible rfl) | exact Chk.mk (by kernel_rfl)))
        all_goals first | rfl | exact lL.symm | exact q1 | exact q2 | exact q3 | (exact fun j _ => congrArg (fun L => rowG L j) eL) | (exact fun _ _ => rfl)
      (repeat' (first | (refine xI (fun hfk => ?_) (fun hfk => ?_) <;> ((try (first | replace hfk := oT hfk | replace hfk := oF hfk | simp only [oD, ne_eq, reduceCtorEq] at hfk)); (try exact oX))) | (refine And.intro ?ob ?_; (case ob => (exact oZ))) | exact True.intro | (show _ = _; first | exact oY | exact rfl) | exact oW | (apply And.intro)))
      left
      (refine ⟨[1, 3], ⟨by kernel_rfl⟩, ?_⟩)
      (repeat' (first | (refine xI (fun hfk => ?_) (fun hfk => ?_) <;> ((try (first | replace hfk := oT hfk | replace hfk := oF hfk | simp only [oD, ne_eq, reduceCtorEq] at hfk)); (try exact oX))) | (refine And.intro ?ob ?_; (case ob => (exact oZ))) | exact True.intro | (show _ = _; first | exact oY | (first | exact rL | skip; done) | exact rfl) | exact oW | (apply And.intro)))
      refine ⟨[(0, QsA S), (3, .ptr 0 0), (4, .ptr 1 0), (5, .nilp), (6, .sl 4 3 0 N.length), (25, QsA S), (26, .int .i64 (S.length : Int)), (27, .int .i64 (i : Int)), (9, .ptr 5 0), (10, .int .i64 xp), (11, .tru), (12, .ptr 6 0), (13, .int .i64 xp), (14, .tru)], ⟨7, [(0, some (.cells 76 [.sl 2 4 0 L'.length, .int .i64 (c : Int)])), (1, some (.cells 76 [.sl 3 4 0 L'.length, .int .i64 (c : Int)])), (2, some (rowE L')), (3, some (rowE L')), (4, some (jtE N)), (5, some (.cells 62 [.int .i64 xl, .int .i64 xi])), (6, some (.cells 62 [.int .i64 xl, .int .i64 xi]))]⟩, [some 0, some 1, some 2, some 3, some 4, some 5, some 6], ?_, ?_⟩
      · (repeat' (first | (refine And.intro ?_ ?_) | exact True.intro | (show _ = _; with_reducible rfl) | exact Chk.mk (by kernel_rfl)))
        all_goals first | rfl | exact lL.symm | exact q1 | exact q2 | exact q3 | (exact fun j _ => congrArg (fun L => rowG L j) eL) | (exact fun _ _ => rfl)
      clear q1 q2 q3 eX eL
      have n0 : 0 < (N.length : Int) := by omega
      have d0 : (true == decide (0 < (N.length : Int))) = true := by rw [decide_eq_true n0]; rfl
      have hk2 : ((fstV (fun j => pOf ((fun j => rowJ N (0 + j)) j)) N.length : Nat) : Int) = (k : Int) := by rw [fst_at, hk]
      (repeat' (first | (refine xI (fun hfk => ?_) (fun hfk => ?_) <;> ((try (first | replace hfk := oT hfk | replace hfk := oF hfk | simp only [oD, ne_eq, reduceCtorEq] at hfk)); (try exact oX))) | (refine And.intro ?ob ?_; (case ob => (exact oZ))) | exact True.intro | (show _ = _; first | exact oY | (first | exact rJ | skip; done) | exact rfl) | exact oW | (apply And.intro)))
      refine ⟨[(0, QsA S), (3, .ptr 0 0), (4, .ptr 1 0), (5, .nilp), (6, .sl 4 3 0 N.length), (25, QsA S), (26, .int .i64 (S.length : Int)), (27, .int .i64 (i : Int)), (9, .ptr 5 0), (10, .int .i64 xp), (11, .tru), (18, .int .i64 (k : Int))], ⟨6, [(0, some (.cells 76 [.sl 2 4 0 L'.length, .int .i64 (c : Int)])), (1, some (.cells 76 [.sl 3 4 0 L'.length, .int .i64 (c : Int)])), (2, some (rowE L')), (3, some (rowE L')), (4, some (jtE N)), (5, some (.cells 62 [.int .i64 xl, .int .i64 xi]))]⟩, [some 0, some 1, some 2, some 3, some 4, some 5], ?_, ?_⟩
      · (repeat' (first | (refine And.intro ?_ ?_) | exact True.intro | (show _ = _; with_reducible rfl) | exact Chk.mk (by kernel_rfl)))
        all_goals first | rfl | exact hk2 | (exact fun _ _ => rfl)
      clear hk2 d0
      have z1 : (N.getD (0 + (k : Int).toNat) It.z).l = xl := by rw [Nat.zero_add]; exact hxl
      have z2 : (N.getD (0 + (k : Int).toNat) It.z).i = xi := by rw [Nat.zero_add]; exact hxi
      have z3 : (N.getD (0 + (k : Int).toNat) It.z).p = xp := by rw [Nat.zero_add]; exact hxp
      (repeat' (first | (refine xI (fun hfk => ?_) (fun hfk => ?_) <;> ((try (first | replace hfk := oT hfk | replace hfk := oF hfk | simp only [oD, ne_eq, reduceCtorEq] at hfk)); (try exact oX))) | (refine And.intro ?ob ?_; (case ob => (exact oZ))) | exact True.intro | (show _ = _; first | exact oY | exact rfl) | exact oW | (apply And.intro)))
      (refine ⟨[], [4], ⟨by kernel_rfl⟩, ?_⟩)
      have ef : (fun j => rowJ N (0 + j)) = rowJ N := funext fun j => by rw [Nat.zero_add]
      have hw : ∀ j, wiG (fun j => rowJ N (0 + j)) (k : Int).toNat j = rowJ N' j := fun j => by rw [ef, Int.toNat_natCast, wiG_row N k1, hN']
      (repeat' (first | (refine xI (fun hfk => ?_) (fun hfk => ?_) <;> ((try (first | replace hfk := oT hfk | replace hfk := oF hfk | simp only [oD, ne_eq, reduceCtorEq] at hfk)); (try exact oX))) | (refine And.intro ?ob ?_; (case ob => (exact oZ))) | exact True.intro | (show _ = _; first | exact oY | (first | exact rJ | skip; done) | exact rfl) | exact oW | (apply And.intro)))
      · intro j _
        rw [hw j]
        rfl
      refine ⟨[(0, QsA S), (3, .ptr 0 0), (4, .ptr 1 0), (5, .nilp), (6, .sl 4 3 0 N'.length), (25, QsA S), (26, .int .i64 (S.length : Int)), (27, .int .i64 (i : Int)), (9, .ptr 5 0), (10, .int .i64 xp), (11, .tru)], ⟨6, [(0, some (.cells 76 [.sl 2 4 0 L'.length, .int .i64 (c : Int)])), (1, some (.cells 76 [.sl 3 4 0 L'.length, .int .i64 (c : Int)])), (2, some (rowE L')), (3, some (rowE L')), (4, some (jtE N')), (5, some (.cells 62 [.int .i64 xl, .int .i64 xi]))]⟩, [some 0, some 1, some 2, some 3, some 6, some 5], ?_, ?_⟩
      · (repeat' (first | (refine And.intro ?_ ?_) | exact True.intro | (show _ = _; with_reducible rfl) | exact Chk.mk (by kernel_rfl)))
        all_goals first | rfl | exact lN.symm | (exact fun j _ => hw j) | (exact fun _ _ => rfl)
      have lLN : (L'.length : Int) = (N'.length : Int) := by rw [qi_len k3]
      (repeat' (first | (refine xI (fun hfk => ?_) (fun hfk => ?_) <;> ((try (first | replace hfk := oT hfk | replace hfk := oF hfk | simp only [oD, ne_eq, reduceCtorEq] at hfk)); (try exact oX))) | (refine And.intro ?ob ?_; (case ob => (exact oZ))) | exact True.intro | (show _ = _; first | exact oY | exact rfl) | exact oW | (apply And.intro)))
      refine ⟨(i + 1, L', N', c), [some 0, some 1, some 2, some 3, some 4], ⟨hlt, k3, by show c ≤ i + 1; omega, by show N'.length ≤ i + 1; omega⟩, ?mu, ?_⟩
      case mu => (show S.length - (i + 1) < S.length - i; omega)
      (repeat' (first | (refine And.intro ?_ ?_) | exact True.intro | (show _ = _; with_reducible rfl) | exact Chk.mk (by kernel_rfl)))
      all_goals first | rfl | (exact fun _ _ => rfl) | (show (_ : Int) = _; omega)
end Go.Proofs.Ytgbekbofeaoniaa

