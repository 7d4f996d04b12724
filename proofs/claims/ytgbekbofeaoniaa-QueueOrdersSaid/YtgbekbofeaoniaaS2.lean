/- Texts laid together. No condition. -/
import Derived.Test.YtgbekbofeaoniaaS1
set_option maxRecDepth 100000
set_option maxHeartbeats 4000000
set_option linter.unusedVariables false
set_option linter.unusedSimpArgs false
namespace Go.Proofs.Ytgbekbofeaoniaa
theorem It.asym {a b : It} (h : a.lt b) : ¬ b.lt a := by
  unfold It.lt at *; omega
theorem It.tr {a b c : It} (h : a.lt b) (k : b.lt c) : a.lt c := by
  unfold It.lt at *; omega
theorem It.ntr {a b c : It} (h : ¬ a.lt b) (k : ¬ b.lt c) : ¬ a.lt c := by
  unfold It.lt at *; omega
theorem It.irr (a : It) : ¬ a.lt a := by
  unfold It.lt; omega
abbrev par (j : Nat) : Nat := (j - 1) / 2
abbrev atL (L : List It) (j : Nat) : It := L.getD j It.z
theorem atL_eq {L : List It} {j : Nat} (h : j < L.length) : atL L j = L[j] := by
  show L.getD j It.z = _
  rw [List.getD_eq_getElem?_getD, List.getElem?_eq_getElem h]; rfl
def HPn (L : List It) (n : Nat) : Prop := ∀ j, 0 < j → j < n → ¬ (atL L j).lt (atL L (par j))
structure UpI (L : List It) (k : Nat) : Prop where
  oth : ∀ j, 0 < j → j < L.length → j ≠ k → ¬ (atL L j).lt (atL L (par j))
  bel : ∀ j, 0 < j → j < L.length → par j = k → 0 < k → ¬ (atL L j).lt (atL L (par k))
theorem swap_at {L : List It} {i k : Nat} (hi : i < L.length) (hk : k < L.length) (m : Nat) : atL (swapL L i k) m = if m = k then atL L i else if m = i then atL L k else atL L m := swapL_get hi hk m
theorem up_heap : ∀ (j : Nat) (L : List It), j < L.length → UpI L j → HPn (upL L j) (upL L j).length := by
  intro j
  induction j using Nat.strongRecOn with
  | _ k ih =>
    intro L hk h
    rw [upL_len]
    by_cases h0 : 0 < k
    · by_cases hl : (atL L k).lt (atL L (par k))
      · rw [upL_yes h0 hl]
        have hp : par k < k := by unfold par; omega
        have hpl : par k < L.length := by omega
        have := ih (par k) hp (swapL L (par k) k) (by rw [swapL_len]; exact hpl) ?_
        · rw [upL_len, swapL_len] at this
          exact this
        refine ⟨fun j j0 jl jp => ?_, fun j j0 jl jp p0 => ?_⟩
        · rw [swapL_len] at jl
          rw [swap_at hpl hk, swap_at hpl hk]
          by_cases e1 : j = k
          · subst e1
            rw [if_pos rfl, if_neg (by omega), if_pos rfl]
            exact It.asym hl
          · rw [if_neg e1, if_neg jp]
            by_cases e2 : par j = k
            · rw [if_pos e2]
              exact h.bel j j0 jl e2 h0
            · rw [if_neg e2]
              by_cases e3 : par j = par k
              · rw [if_pos e3]
                have := h.oth j j0 jl e1
                rw [e3] at this
                exact fun q => this (It.tr q hl)
              · rw [if_neg e3]
                exact h.oth j j0 jl e1
        · rw [swapL_len] at jl
          rw [swap_at hpl hk, swap_at hpl hk]
          have hpp : par (par k) < par k := by unfold par at p0 ⊢; omega
          rw [if_neg (show ¬ par (par k) = k by omega), if_neg (show ¬ par (par k) = par k by omega)]
          have h2 := h.oth (par k) p0 (by omega) (by omega)
          by_cases e1 : j = k
          · rw [if_pos e1]
            exact h2
          · rw [if_neg e1, if_neg (show ¬ j = par k from fun e => by
              have : par j < j := by unfold par; omega
              omega)]
            have h1 := h.oth j j0 jl e1
            rw [jp] at h1
            exact It.ntr h1 h2
      · rw [upL_no hl]
        intro j j0 jl
        by_cases e : j = k
        · subst e; exact hl
        · exact h.oth j j0 jl e
    · obtain rfl : k = 0 := by omega
      rw [upL_0]
      intro j j0 jl
      exact h.oth j j0 jl (by omega)
structure DownI (L : List It) (i n : Nat) : Prop where
  oth : ∀ j, 0 < j → j < n → par j ≠ i → ¬ (atL L j).lt (atL L (par j))
  bel : ∀ j, 0 < j → j < n → par j = i → 0 < i → ¬ (atL L j).lt (atL L (par i))
theorem ch_min {L : List It} {i n j : Nat} (j0 : 0 < j) (hj : j < n) (hp : par j = i) : ¬ (atL L j).lt (atL L (chL L i n)) := by
  have h2 : j = 2 * i + 1 ∨ j = 2 * i + 2 := by unfold par at hp; omega
  unfold chL
  by_cases k : 2 * i + 2 < n ∧ (L.getD (2 * i + 2) It.z).lt (L.getD (2 * i + 1) It.z)
  · rw [if_pos k]
    rcases h2 with rfl | rfl
    · exact It.asym k.2
    · exact It.irr _
  · rw [if_neg k]
    rcases h2 with rfl | rfl
    · exact It.irr _
    · exact fun q => k ⟨hj, q⟩
theorem down_heap : ∀ (m : Nat) (L : List It) (i n : Nat), n - i = m → n ≤ L.length → DownI L i n → HPn (downL L i n) n := by
  intro m
  induction m using Nat.strongRecOn with
  | _ m ih =>
    intro L i n hm hn h
    by_cases h0 : 2 * i + 1 < n
    · by_cases hl : (L.getD (chL L i n) It.z).lt (L.getD i It.z)
      · have h1 := chL_ge L i n
        have h2 := chL_lt L h0
        rw [downL_yes h0 hl]
        obtain ⟨c, hc⟩ : ∃ c, chL L i n = c := ⟨_, rfl⟩
        have mn : ∀ j, 0 < j → j < n → par j = i → ¬ (atL L j).lt (atL L c) := fun j j0 jl jp => by rw [← hc]; exact ch_min j0 jl jp
        rw [hc] at h1 h2 hl ⊢
        have hl : (atL L c).lt (atL L i) := hl
        have hil : i < L.length := by omega
        have hcl : c < L.length := by omega
        have hpc : par c = i := by
          rw [← hc]
          unfold chL par
          split <;> omega
        refine ih (n - c) (by omega) (swapL L i c) c n rfl (by rw [swapL_len]; exact hn) ⟨fun j j0 jl jp => ?_, fun j j0 jl jp c0 => ?_⟩
        · rw [swap_at hil hcl, swap_at hil hcl, if_neg jp]
          by_cases e1 : j = c
          · subst e1
            rw [if_pos rfl, if_pos hpc]
            exact It.asym hl
          · rw [if_neg e1]
            by_cases e2 : j = i
            · subst e2
              rw [if_pos rfl, if_neg (show ¬ par j = j by unfold par; omega)]
              have := h.bel c (by omega) (by omega) hpc j0
              exact this
            · rw [if_neg e2]
              by_cases e3 : par j = i
              · rw [if_pos e3]
                exact mn j j0 jl e3
              · rw [if_neg e3]
                exact h.oth j j0 jl e3
        · rw [swap_at hil hcl, swap_at hil hcl, hpc]
          have hjc : ¬ j = c := fun e => by
            have : par j < j := by unfold par; omega
            omega
          have hji : ¬ j = i := fun e => by
            have : par j < j := by unfold par; omega
            omega
          rw [if_neg hjc, if_neg hji, if_neg (show ¬ i = c by omega), if_pos rfl]
          have := h.oth j j0 jl (by omega)
          rw [jp] at this
          exact this
      · rw [downL_no hl]
        intro j j0 jl
        by_cases e : par j = i
        · have h3 := ch_min (L := L) j0 jl e
          rw [e]
          exact It.ntr h3 hl
        · exact h.oth j j0 jl e
    · rw [downL_end h0]
      intro j j0 jl
      exact h.oth j j0 jl (by unfold par; omega)
theorem down_keep : ∀ (m : Nat) (L : List It) (i n : Nat), n - i = m → n ≤ L.length → ∀ j, n ≤ j → atL (downL L i n) j = atL L j := by
  intro m
  induction m using Nat.strongRecOn with
  | _ m ih =>
    intro L i n hm hn j hj
    by_cases h0 : 2 * i + 1 < n
    · by_cases hl : (L.getD (chL L i n) It.z).lt (L.getD i It.z)
      · have h1 := chL_ge L i n
        have h2 := chL_lt L h0
        rw [downL_yes h0 hl, ih (n - chL L i n) (by omega) _ _ _ rfl (by rw [swapL_len]; exact hn) j hj, swap_at (by omega) (by omega), if_neg (by omega), if_neg (by omega)]
      · rw [downL_no hl]
    · rw [downL_end h0]
theorem swap_perm {L : List It} {i k : Nat} (hi : i < L.length) (hk : k < L.length) : (swapL L i k).Perm L := by
  have := List.set_set_perm hi hk
  have e1 : L.getD i It.z = L[i] := atL_eq hi
  have e2 : L.getD k It.z = L[k] := atL_eq hk
  unfold swapL
  rw [e1, e2]
  exact this
theorem up_perm : ∀ (j : Nat) (L : List It), j < L.length → (upL L j).Perm L := by
  intro j
  induction j using Nat.strongRecOn with
  | _ k ih =>
    intro L hk
    by_cases h0 : 0 < k
    · by_cases hl : (L.getD k It.z).lt (L.getD ((k - 1) / 2) It.z)
      · rw [upL_yes h0 hl]
        exact (ih _ (by omega) _ (by rw [swapL_len]; omega)).trans (swap_perm (by omega) hk)
      · rw [upL_no hl]
    · obtain rfl : k = 0 := by omega
      rw [upL_0]
theorem down_perm : ∀ (m : Nat) (L : List It) (i n : Nat), n - i = m → n ≤ L.length → (downL L i n).Perm L := by
  intro m
  induction m using Nat.strongRecOn with
  | _ m ih =>
    intro L i n hm hn
    by_cases h0 : 2 * i + 1 < n
    · by_cases hl : (L.getD (chL L i n) It.z).lt (L.getD i It.z)
      · have h1 := chL_ge L i n
        have h2 := chL_lt L h0
        rw [downL_yes h0 hl]
        exact (ih _ (by omega) _ _ _ rfl (by rw [swapL_len]; exact hn)).trans (swap_perm (by omega) (by omega))
      · rw [downL_no hl]
    · rw [downL_end h0]
theorem erase_perm : ∀ {L : List It} {a : Nat} (h : a < L.length), (L[a] :: L.eraseIdx a).Perm L
  | x :: L, 0, h => List.Perm.refl _
  | x :: L, a + 1, h => by
    have ih := erase_perm (L := L) (a := a) (by simpa using h)
    show (L[a]'(by simpa using h) :: x :: L.eraseIdx a).Perm (x :: L)
    exact (List.Perm.swap _ _ _).trans (ih.cons x)
theorem heap_min {L : List It} {n : Nat} (h : HPn L n) : ∀ j, j < n → ¬ (atL L j).lt (atL L 0) := by
  intro j
  induction j using Nat.strongRecOn with
  | _ j ih =>
    intro hj
    by_cases h0 : 0 < j
    · exact It.ntr (h j h0 hj) (ih (par j) (by unfold par; omega) (by unfold par; omega))
    · obtain rfl : j = 0 := by omega
      exact It.irr _
structure QI (L N : List It) (c : Nat) : Prop where
  heap : HPn L L.length
  perm : L.Perm N
  inc : N.Pairwise (fun a b => a.n < b.n)
  lt : ∀ x ∈ N, x.n < (c : Int)
theorem qi_nil (c : Nat) : QI [] [] c := ⟨fun j j0 jl => absurd jl (Nat.not_lt_zero _), List.Perm.refl _, List.Pairwise.nil, fun x hx => by cases hx⟩
theorem qi_len {L N : List It} {c : Nat} (h : QI L N c) : L.length = N.length := h.perm.length_eq
theorem qi_push {L N : List It} {c : Nat} (h : QI L N c) (l i p : Int) : QI (pushL L ⟨l, i, p, c⟩) (N ++ [⟨l, i, p, c⟩]) (c + 1) := by
  obtain ⟨x, hx⟩ : ∃ x : It, ⟨l, i, p, c⟩ = x := ⟨_, rfl⟩
  have hl : L.length < (L ++ [x]).length := by rw [List.length_append]; exact Nat.lt_succ_self _
  have at1 : ∀ j, j < L.length → atL (L ++ [x]) j = atL L j := fun j hj => by
    show (L ++ [x]).getD j It.z = L.getD j It.z
    rw [List.getD_eq_getElem?_getD, List.getElem?_append_left hj, ← List.getD_eq_getElem?_getD]
  have hu : UpI (L ++ [x]) L.length := ⟨fun j j0 jl jk => by
    have jl2 : j < L.length := by rw [List.length_append] at jl; have : j < L.length + 1 := jl; omega
    rw [at1 j jl2, at1 (par j) (by unfold par; omega)]
    exact h.heap j j0 jl2, fun j j0 jl jp p0 => by
    rw [List.length_append] at jl
    have : j < L.length + 1 := jl
    unfold par at jp
    omega⟩
  rw [hx]
  refine ⟨up_heap _ _ hl hu, (up_perm _ _ hl).trans (h.perm.append_right [x]), ?_, ?_⟩
  · rw [List.pairwise_append]
    refine ⟨h.inc, List.pairwise_singleton _ _, fun a ha b hb => ?_⟩
    rw [List.mem_singleton.1 hb, ← hx]
    exact h.lt a ha
  · intro y hy
    rcases List.mem_append.1 hy with k | k
    · have := h.lt y k
      omega
    · rw [List.mem_singleton.1 k, ← hx]
      show (c : Int) < ((c + 1 : Nat) : Int)
      omega
def fstV (M : Nat → Int) : Nat → Nat
  | 0 => 0
  | k + 1 => if M k < M (fstV M k) then k else fstV M k
theorem fst_spec (M : Nat → Int) : ∀ k, (∀ j, j < k → M (fstV M k) ≤ M j) ∧ (∀ j, j < fstV M k → M (fstV M k) < M j) ∧ (0 < k → fstV M k < k)
  | 0 => ⟨fun j h => absurd h (Nat.not_lt_zero _), fun j h => absurd h (Nat.not_lt_zero _), fun h => absurd h (Nat.lt_irrefl _)⟩
  | k + 1 => by
    obtain ⟨h1, h2, h3⟩ := fst_spec M k
    unfold fstV
    by_cases c : M k < M (fstV M k)
    · rw [if_pos c]
      refine ⟨fun j hj => ?_, fun j hj => ?_, fun _ => Nat.lt_succ_self _⟩
      · by_cases e : j = k
        · subst e; exact Int.le_refl _
        · have := h1 j (by omega); omega
      · have := h1 j hj; omega
    · rw [if_neg c]
      refine ⟨fun j hj => ?_, h2, fun _ => ?_⟩
      · by_cases e : j = k
        · subst e; omega
        · exact h1 j (by omega)
      · by_cases k0 : 0 < k
        · have := h3 k0; omega
        · obtain rfl : k = 0 := by omega
          show fstV M 0 < 1
          exact Nat.one_pos
theorem qi_pop {L N : List It} {c : Nat} (h : QI L N c) (h0 : 0 < L.length) (at_ : Nat) (ha : fstV (fun j => (atL N j).p) N.length = at_) :
    at_ < N.length ∧ popX L = atL N at_ ∧ QI (popL L) (N.eraseIdx at_) c := by
  have hnl := qi_len h
  obtain ⟨k, hk⟩ : ∃ k, L.length - 1 = k := ⟨_, rfl⟩
  have hlk : L.length = k + 1 := by omega
  obtain ⟨A, hA⟩ : ∃ A, swapL L 0 k = A := ⟨_, rfl⟩
  have hAl : A.length = L.length := by rw [← hA, swapL_len]
  obtain ⟨B, hB⟩ : ∃ B, downL A 0 k = B := ⟨_, rfl⟩
  have hBl : B.length = L.length := by rw [← hB, downL_len, hAl]
  have hpx : popX L = atL B k := by unfold popX; rw [hk, hA, hB]
  have hpl : popL L = B.take k := by unfold popL; rw [hk, hA, hB]
  have swA : ∀ j, atL A j = if j = k then atL L 0 else if j = 0 then atL L k else atL L j := fun j => by rw [← hA]; exact swap_at (by omega) (by omega) j
  have hBk : atL B k = atL L 0 := by
    rw [← hB, down_keep k A 0 k rfl (by omega) k (Nat.le_refl _), swA, if_pos rfl]
  have hd : DownI A 0 k := ⟨fun j j0 jl jp => by
    rw [swA, swA, if_neg (by omega), if_neg (by omega), if_neg (show ¬ par j = k by unfold par; omega), if_neg jp]
    exact h.heap j j0 (by omega), fun j j0 jl jp c0 => absurd c0 (Nat.lt_irrefl _)⟩
  have hBh : HPn B k := by rw [← hB]; exact down_heap k A 0 k rfl (by omega) hd
  have hBp : B.Perm L := by
    rw [← hB]
    refine (down_perm k A 0 k rfl (by omega)).trans ?_
    rw [← hA]
    exact swap_perm (by omega) (by omega)
  have hBs : B = B.take k ++ [atL L 0] := by
    have e : B.take (k + 1) = B := List.take_of_length_le (by omega)
    rw [List.take_add_one, List.getElem?_eq_getElem (by omega)] at e
    have e2 : B[k]'(by omega) = atL L 0 := by rw [← atL_eq (by omega)]; exact hBk
    rw [e2] at e
    exact e.symm
  have hx : popX L = atL L 0 := by rw [hpx, hBk]
  have hmem : atL L 0 ∈ N := h.perm.subset (by rw [atL_eq h0]; exact List.getElem_mem h0)
  have hmin : ∀ y ∈ N, ¬ y.lt (atL L 0) := fun y hy => by
    have := h.perm.symm.subset hy
    obtain ⟨j, hj, rfl⟩ := List.mem_iff_getElem.1 this
    rw [← atL_eq hj]
    exact heap_min h.heap j hj
  obtain ⟨a, hal, hax⟩ := List.mem_iff_getElem.1 hmem
  have haN : atL N a = atL L 0 := by rw [atL_eq hal]; exact hax
  obtain ⟨f1, f2, f3⟩ := fst_spec (fun j => (atL N j).p) N.length
  rw [ha] at f1 f2 f3
  have f3 := f3 (by omega)
  have mina : ∀ j, j < N.length → ¬ (atL N j).lt (atL N a) := fun j hj => by
    rw [haN]
    exact hmin _ (by rw [atL_eq hj]; exact List.getElem_mem hj)
  have incN : ∀ i j, i < j → j < N.length → (atL N i).n < (atL N j).n := fun i j hij hj => by
    rw [atL_eq (by omega), atL_eq hj]
    exact List.pairwise_iff_getElem.1 h.inc i j (by omega) hj hij
  have hat : at_ = a := by
    rcases Nat.lt_trichotomy at_ a with k1 | k1 | k1
    · exfalso
      have g1 : (atL N at_).p ≤ (atL N a).p := f1 a hal
      have g2 := incN at_ a k1 hal
      refine mina at_ f3 ?_
      unfold It.lt
      omega
    · exact k1
    · exfalso
      have g1 : (atL N at_).p < (atL N a).p := f2 a k1
      have g2 := mina at_ f3
      unfold It.lt at g2
      omega
  subst hat
  refine ⟨hal, by rw [hx, haN], ?_, ?_, ?_, ?_⟩
  · rw [hpl]
    have : (B.take k).length = k := by rw [List.length_take]; omega
    rw [this]
    intro j j0 jl
    have tk : ∀ i, i < k → atL (B.take k) i = atL B i := fun i hi => by
      show (B.take k).getD i It.z = B.getD i It.z
      rw [List.getD_eq_getElem?_getD, List.getElem?_take_of_lt hi, ← List.getD_eq_getElem?_getD]
    rw [tk j jl, tk (par j) (by unfold par; omega)]
    exact hBh j j0 jl
  · rw [hpl]
    have p1 : (atL L 0 :: B.take k).Perm N := by
      have q : (B.take k ++ [atL L 0]).Perm N := by rw [← hBs]; exact hBp.trans h.perm
      exact (List.perm_append_comm (l₁ := [atL L 0]) (l₂ := B.take k)).trans q
    have p2 : N.Perm (N[at_] :: N.eraseIdx at_) := (erase_perm hal).symm
    rw [hax] at p2
    exact (p1.trans p2).cons_inv
  · exact h.inc.sublist (List.eraseIdx_sublist _ _)
  · exact fun y hy => h.lt y ((List.eraseIdx_sublist _ _).subset hy)
end Go.Proofs.Ytgbekbofeaoniaa
namespace Go.Proofs.Ytgbekbofeaoniaa
open Go Go.RowKit
abbrev jtA (x : It) : AV := .agg [.int .i64 x.l, .int .i64 x.i, .int .i64 x.p]
abbrev rowJ (N : List It) : Nat → AV := fun j => jtA (N.getD j It.z)
structure RowJ (n : Nat) (f : Nat → AV) : Prop where
  out : ∃ N : List It, n = N.length ∧ f = rowJ N
theorem rowj0 (N : List It) : RowJ N.length (fun j => rowJ N (0 + j)) := ⟨N, rfl, funext fun j => by rw [Nat.zero_add]⟩
def pOf : AV → Int
  | .agg [_, _, .int _ p] => p
  | _ => 0
def wiG (f : Nat → AV) (a : Nat) : Nat → AV := fun j => if j < a then f j else f (j + 1)
theorem wiG_row (N : List It) {a : Nat} (ha : a < N.length) (j : Nat) : wiG (rowJ N) a j = rowJ (N.eraseIdx a) j := by
  show (if j < a then jtA (N.getD j It.z) else jtA (N.getD (j + 1) It.z)) = jtA ((N.eraseIdx a).getD j It.z)
  rw [List.getD_eq_getElem?_getD (l := N.eraseIdx a), List.getElem?_eraseIdx]
  by_cases h : j < a
  · rw [if_pos h, if_pos h, ← List.getD_eq_getElem?_getD]
  · rw [if_neg h, if_neg h, ← List.getD_eq_getElem?_getD]
abbrev firstS : PSpec := fun l => match l with | [.ro 3 n f] => some ([RowJ n f, n ≤ 1000000], .int .i64 (fstV (fun j => pOf (f j)) n : Int)) | _ => none
attribute [local irreducible] fstV
theorem fst_0 (M : Nat → Int) : fstV M 0 = 0 := by unfold fstV; rfl
theorem fst_yes {M : Nat → Int} {k : Nat} (h : M k < M (fstV M k)) : fstV M (k + 1) = k := by rw [fstV, if_pos h]
theorem fst_no {M : Nat → Int} {k : Nat} (h : ¬ M k < M (fstV M k)) : fstV M (k + 1) = fstV M k := by rw [fstV, if_neg h]
theorem fst_lt (M : Nat → Int) {k n : Nat} (hk : k ≤ n) (hn : 0 < n) : fstV M k < n := by
  rcases Nat.eq_zero_or_pos k with h | h
  · subst h; rw [fst_0]; exact hn
  · have := (fst_spec M k).2.2 h; omega
theorem first_s : SOK Try.prog 37 firstS := by
  refine sok_of (C := mkC 0 [] noG) (mkC_ok pok_nil noG_ok) rfl mixed ⟨Try.func37, by kernel_rfl, by kernel_rfl, by kernel_rfl⟩ fun l obs v h ho => ?_
  (unfold firstS at h; split at h; rotate_left; (focus (cases h)); rename_i n f; simp only [Option.some.injEq, Prod.mk.injEq] at h; obtain ⟨rfl, rfl⟩ := h; simp only [List.mem_cons, List.not_mem_nil, or_false, forall_eq_or_imp, forall_eq, false_implies, implies_true] at ho)
  obtain ⟨⟨N, rfl, rfl⟩, n1⟩ := ho
  refine ⟨Nat.le_of_ble_eq_true rfl, ?_⟩
  (repeat' (first | (refine xI (fun hfk => ?_) (fun hfk => ?_) <;> ((try (first | replace hfk := oT hfk | replace hfk := oF hfk | simp only [oD, ne_eq, reduceCtorEq] at hfk)); (try exact oX))) | (refine And.intro ?ob ?_; (case ob => (exact oZ))) | exact True.intro | (show _ = _; first | exact oY | exact rfl) | exact oW | (apply And.intro)))
  refine ⟨Nat, fun i => [(0, .ro 3 N.length (rowJ N)), (3, .int .i64 (fstV (fun j => pOf (rowJ N j)) i : Int)), (4, .int .i64 (i : Int))], fun i => ⟨0, []⟩,
    fun i => i ≤ N.length, fun i => N.length - i, ⟨0, [], Nat.zero_le _, ?_⟩, fun i hi => ?_⟩
  · have e0 := fst_0 (fun j => pOf (rowJ N j))
    have q0 : (0 : Int) = ((fstV (fun j => pOf (rowJ N j)) 0 : Nat) : Int) := by rw [e0]; rfl
    (repeat' (first | (refine And.intro ?_ ?_) | exact True.intro | (show _ = _; with_reducible rfl) | exact Chk.mk (by kernel_rfl)))
    all_goals first | exact q0 | rfl | (exact fun _ _ => rfl)
  have hi : i ≤ N.length := hi
  dsimp only
  by_cases hlt : i < N.length
  · have hb := fst_lt (fun j => pOf (rowJ N j)) hi (by omega)
    obtain ⟨b, hbe⟩ : ∃ b, fstV (fun j => pOf (rowJ N j)) i = b := ⟨_, rfl⟩
    rw [hbe] at hb ⊢
    by_cases c : (N.getD i It.z).p < (N.getD b It.z).p
    · have e1 : fstV (fun j => pOf (rowJ N j)) (i + 1) = i := fst_yes (by rw [hbe]; exact c)
      have c' : (N.getD (i : Int).toNat It.z).p < (N.getD (b : Int).toNat It.z).p := c
      (repeat' (first | (refine xI (fun hfk => ?_) (fun hfk => ?_) <;> ((try (first | replace hfk := oT hfk | replace hfk := oF hfk | simp only [oD, ne_eq, reduceCtorEq] at hfk)); (try exact oX))) | (refine And.intro ?ob ?_; (case ob => (exact oZ))) | exact True.intro | (show _ = _; first | exact oY | exact rfl) | exact oW | (apply And.intro)))
      refine ⟨i + 1, [], hlt, ?mu, ?_⟩
      case mu => (show N.length - (i + 1) < N.length - i; omega)
      have q1 : (i : Int) = ((fstV (fun j => pOf (rowJ N j)) (i + 1) : Nat) : Int) := by rw [e1]
      (repeat' (first | (refine And.intro ?_ ?_) | exact True.intro | (show _ = _; with_reducible rfl) | exact Chk.mk (by kernel_rfl)))
      all_goals first | exact q1 | rfl | (exact fun _ _ => rfl) | (show (_ : Int) = _; omega)
    · have e1 : fstV (fun j => pOf (rowJ N j)) (i + 1) = b := (fst_no (by rw [hbe]; exact c)).trans hbe
      have c' : ¬ (N.getD (i : Int).toNat It.z).p < (N.getD (b : Int).toNat It.z).p := c
      (repeat' (first | (refine xI (fun hfk => ?_) (fun hfk => ?_) <;> ((try (first | replace hfk := oT hfk | replace hfk := oF hfk | simp only [oD, ne_eq, reduceCtorEq] at hfk)); (try exact oX))) | (refine And.intro ?ob ?_; (case ob => (exact oZ))) | exact True.intro | (show _ = _; first | exact oY | exact rfl) | exact oW | (apply And.intro)))
      refine ⟨i + 1, [], hlt, ?mu, ?_⟩
      case mu => (show N.length - (i + 1) < N.length - i; omega)
      have q1 : (b : Int) = ((fstV (fun j => pOf (rowJ N j)) (i + 1) : Nat) : Int) := by rw [e1]
      (repeat' (first | (refine And.intro ?_ ?_) | exact True.intro | (show _ = _; with_reducible rfl) | exact Chk.mk (by kernel_rfl)))
      all_goals first | exact q1 | rfl | (exact fun _ _ => rfl) | (show (_ : Int) = _; omega)
  · obtain rfl : i = N.length := by omega
    (repeat' (first | (refine xI (fun hfk => ?_) (fun hfk => ?_) <;> ((try (first | replace hfk := oT hfk | replace hfk := oF hfk | simp only [oD, ne_eq, reduceCtorEq] at hfk)); (try exact oX))) | (refine And.intro ?ob ?_; (case ob => (exact oZ))) | exact True.intro | (show _ = _; first | exact oY | exact rfl) | exact oW | (apply And.intro)))
def withoutF : FSpec := fun l es => match l, es with
  | [.ro 3 n f, .int .i64 a], [] => some ([RowJ n f, n ≤ 1000000, 0 ≤ a, a < (n : Int)], .sl 0 3 0 (n - 1), [some (.recs 82 3 (n - 1) (wiG f a.toNat))])
  | _, _ => none
theorem wiG_at {f : Nat → AV} {a j : Nat} : wiG f a j = if j < a then f j else f (j + 1) := rfl
theorem without_g : GSOK Try.prog 38 (fG withoutF) := by
  refine fokI (S := []) (G := noG) [] [] [] [] pok_nil noG_ok dl_nil mok_nil ⟨Try.func38, by kernel_rfl, by kernel_rfl, by kernel_rfl⟩ fun l es obs v es' h ho => ?_
  unfold withoutF at h
  split at h
  rotate_left
  · cases h
  rename_i n f a
  simp only [Option.some.injEq, Prod.mk.injEq] at h
  obtain ⟨rfl, rfl, rfl⟩ := h
  simp only [List.mem_cons, List.not_mem_nil, or_false, forall_eq_or_imp, forall_eq] at ho
  obtain ⟨⟨N, rfl, rfl⟩, n1, a0, a1⟩ := ho
  obtain ⟨a, rfl⟩ := Int.eq_ofNat_of_zero_le a0
  rw [Int.toNat_natCast]
  refine ⟨Nat.le_of_ble_eq_true rfl, ?_⟩
  (repeat' (first | (refine xI (fun hfk => ?_) (fun hfk => ?_) <;> ((try (first | replace hfk := oT hfk | replace hfk := oF hfk | simp only [oD, ne_eq, reduceCtorEq] at hfk)); (try exact oX))) | (refine And.intro ?ob ?_; (case ob => (exact oZ))) | exact True.intro | (show _ = _; first | exact oY | exact rfl) | exact oW | (apply And.intro)))
  refine ⟨Nat, fun i => [(0, .ro 3 N.length (rowJ N)), (1, .int .i64 (a : Int)), (5, .sl 0 3 0 (if i ≤ a then i else i - 1)), (6, .int .i64 (i : Int))],
    fun i => ⟨1, [(0, some (.recs 82 3 (if i ≤ a then i else i - 1) (wiG (rowJ N) a)))]⟩,
    fun i => i ≤ N.length, fun i => N.length - i, ⟨0, [none], Nat.zero_le _, ?_⟩, fun i hi => ?_⟩
  · have q0 : 0 = if 0 ≤ a then 0 else 0 - 1 := by rw [if_pos (Nat.zero_le a)]
    (repeat' (first | (refine And.intro ?_ ?_) | exact True.intro | (show _ = _; with_reducible rfl) | exact Chk.mk (by kernel_rfl)))
    all_goals first | exact q0.symm | rfl | (exact fun _ _ => rfl)
  have hi : i ≤ N.length := hi
  dsimp only
  by_cases hlt : i < N.length
  · by_cases hia : i = a
    · subst hia
      rw [if_pos (Nat.le_refl _)]
      (repeat' (first | (refine xI (fun hfk => ?_) (fun hfk => ?_) <;> ((try (first | replace hfk := oT hfk | replace hfk := oF hfk | simp only [oD, ne_eq, reduceCtorEq] at hfk)); (try exact oX))) | (refine And.intro ?ob ?_; (case ob => (exact oZ))) | exact True.intro | (show _ = _; first | exact oY | exact rfl) | exact oW | (apply And.intro)))
      refine ⟨i + 1, [some 0], hlt, ?mu, ?_⟩
      case mu => (show N.length - (i + 1) < N.length - i; omega)
      have q1 : i = if i + 1 ≤ i then i + 1 else i + 1 - 1 := by rw [if_neg (by omega)]; rfl
      (repeat' (first | (refine And.intro ?_ ?_) | exact True.intro | (show _ = _; with_reducible rfl) | exact Chk.mk (by kernel_rfl)))
      all_goals first | exact q1 | rfl | (exact fun _ _ => rfl) | (show (_ : Int) = _; omega)
    · obtain ⟨k, hk⟩ : ∃ k, (if i ≤ a then i else i - 1) = k := ⟨_, rfl⟩
      rw [hk]
      have hkl : k ≤ i := by rw [← hk]; split <;> omega
      have q1 : k + 1 = if i + 1 ≤ a then i + 1 else i + 1 - 1 := by
        rw [← hk]
        by_cases c : i ≤ a
        · rw [if_pos c, if_pos (by omega)]
        · rw [if_neg c, if_neg (by omega)]; omega
      have hx : wiG (rowJ N) a k = rowJ N i := by
        rw [wiG_at, ← hk]
        by_cases c : i ≤ a
        · rw [if_pos c, if_pos (by omega)]
        · rw [if_neg c, if_neg (by omega), show i - 1 + 1 = i by omega]
      (repeat' (first | (refine xI (fun hfk => ?_) (fun hfk => ?_) <;> ((try (first | replace hfk := oT hfk | replace hfk := oF hfk | simp only [oD, ne_eq, reduceCtorEq] at hfk)); (try exact oX))) | (refine And.intro ?ob ?_; (case ob => (exact oZ))) | exact True.intro | (show _ = _; first | exact oY | exact rfl) | exact oW | (apply And.intro)))
      refine ⟨i + 1, [some 2], hlt, ?mu, ?_⟩
      case mu => (show N.length - (i + 1) < N.length - i; omega)
      (repeat' (first | (refine And.intro ?_ ?_) | exact True.intro | (show _ = _; with_reducible rfl) | exact Chk.mk (by kernel_rfl)))
      all_goals first | exact q1 | rfl | (exact fun _ _ => rfl) | (show (_ : Int) = _; omega) | skip
      intro j hj
      rw [← q1] at hj
      show (if j < k then wiG (rowJ N) a j else chunkA _ _ (0 + (j - k))) = _
      by_cases c : j < k
      · rw [if_pos c]
      · rw [if_neg c, show j = k by omega, hx, show 0 + (k - k) = 0 by omega]
        rfl
  · obtain rfl : i = N.length := by omega
    have q1 : (if N.length ≤ a then N.length else N.length - 1) = N.length - 1 := by rw [if_neg (by omega)]
    rw [q1]
    (repeat' (first | (refine xI (fun hfk => ?_) (fun hfk => ?_) <;> ((try (first | replace hfk := oT hfk | replace hfk := oF hfk | simp only [oD, ne_eq, reduceCtorEq] at hfk)); (try exact oX))) | (refine And.intro ?ob ?_; (case ob => (exact oZ))) | exact True.intro | (show _ = _; first | exact oY | exact rfl) | exact oW | (apply And.intro)))
    refine ⟨[some 0], ?_⟩
    (repeat' (first | (refine xI (fun hfk => ?_) (fun hfk => ?_) <;> ((try (first | replace hfk := oT hfk | replace hfk := oF hfk | simp only [oD, ne_eq, reduceCtorEq] at hfk)); (try exact oX))) | (refine And.intro ?ob ?_; (case ob => (exact oZ))) | exact True.intro | (show _ = _; first | exact oY | exact rfl) | exact oW | (apply And.intro)))
end Go.Proofs.Ytgbekbofeaoniaa
namespace Go.Proofs.Ytgbekbofeaoniaa
open Go Go.RowKit
theorem fdiv_tdiv {a b : Int} (hb : 0 < b) : a.fdiv b = if a.tmod b ≠ 0 ∧ a < 0 then a.tdiv b - 1 else a.tdiv b := by
  rw [Int.fdiv_eq_ediv_of_nonneg a (by omega), Int.tdiv_eq_ediv]
  have hs : b.sign = 1 := Int.sign_eq_one_of_pos hb
  by_cases h0 : 0 ≤ a
  · rw [if_neg (by omega), if_pos (.inl h0), Int.add_zero]
  · by_cases hd : b ∣ a
    · rw [if_neg (fun k => k.1 (Int.tmod_eq_zero_of_dvd hd)), if_pos (.inr hd), Int.add_zero]
    · have hm : a.tmod b ≠ 0 := fun k => hd (Int.dvd_of_tmod_eq_zero k)
      rw [if_pos ⟨hm, by omega⟩, if_neg (fun k => k.elim h0 hd), hs]
      omega
abbrev downS : PSpec := fun l => match l with | [.int .i64 a, .int .i64 b] => some ([0 < b, b ≤ 64, -2147483648 ≤ a, a ≤ 2147483648], .int .i64 (a.fdiv b)) | _ => none
theorem tdiv_bd {a b : Int} (hb : 0 < b) (h0 : -2147483648 ≤ a) (h1 : a ≤ 2147483648) : -2147483648 ≤ a.tdiv b ∧ a.tdiv b ≤ 2147483648 := by
  by_cases h : 0 ≤ a
  · rw [Int.tdiv_eq_ediv_of_nonneg h]
    have := Int.ediv_nonneg h (by omega : 0 ≤ b)
    have := Int.ediv_le_self b h
    omega
  · have e : a = -(-a) := by omega
    rw [e, Int.neg_tdiv, Int.tdiv_eq_ediv_of_nonneg (by omega)]
    have := Int.ediv_nonneg (by omega : 0 ≤ -a) (by omega : 0 ≤ b)
    have := Int.ediv_le_self b (by omega : 0 ≤ -a)
    omega
theorem down_s : SOK Try.prog 74 downS := by
  refine sok_of (C := mkC 0 [] noG) (mkC_ok pok_nil noG_ok) rfl mixed ⟨Try.func74, by kernel_rfl, by kernel_rfl, by kernel_rfl⟩ fun l obs v h ho => ?_
  (unfold downS at h; split at h; rotate_left; (focus (cases h)); rename_i a b; simp only [Option.some.injEq, Prod.mk.injEq] at h; obtain ⟨rfl, rfl⟩ := h; simp only [List.mem_cons, List.not_mem_nil, or_false, forall_eq_or_imp, forall_eq, false_implies, implies_true] at ho)
  obtain ⟨b0, b1, a0, a1⟩ := ho
  have hd := tdiv_bd b0 a0 a1
  have hf := fdiv_tdiv (a := a) b0
  have dr : rngI .i64 (a.tdiv b) := rng64 (by omega) (by omega)
  have bn : b ≠ 0 := by omega
  have nb : ¬ b < 0 := by omega
  refine ⟨Nat.le_of_ble_eq_true rfl, ?_⟩
  by_cases h1 : a.tmod b = 0
  · rw [hf, if_neg (fun k => k.1 h1)]
    (repeat' (first | (refine xI (fun hfk => ?_) (fun hfk => ?_) <;> ((try (first | replace hfk := oT hfk | replace hfk := oF hfk | simp only [oD, ne_eq, reduceCtorEq] at hfk)); (try exact oX))) | (refine And.intro ?ob ?_; (case ob => (exact oZ))) | exact True.intro | (show _ = _; first | exact oY | (first | exact dr | exact bn | rfl | skip; done) | exact rfl) | exact oW | (apply And.intro)))
  · by_cases h2 : a < 0
    · rw [hf, if_pos ⟨h1, h2⟩]
      have d1 : (decide (a < 0) == decide (b < 0)) = false := by rw [decide_eq_true h2, decide_eq_false nb]; rfl
      (repeat' (first | (refine xI (fun hfk => ?_) (fun hfk => ?_) <;> ((try (first | replace hfk := oT hfk | replace hfk := oF hfk | simp only [oD, ne_eq, reduceCtorEq] at hfk)); (try exact oX))) | (refine And.intro ?ob ?_; (case ob => (exact oZ))) | exact True.intro | (show _ = _; first | exact oY | (first | exact dr | exact bn | rfl | skip; done) | exact rfl) | exact oW | (apply And.intro)))
    · rw [hf, if_neg (fun k => h2 k.2)]
      have d1 : (decide (a < 0) == decide (b < 0)) = true := by rw [decide_eq_false h2, decide_eq_false nb]; rfl
      (repeat' (first | (refine xI (fun hfk => ?_) (fun hfk => ?_) <;> ((try (first | replace hfk := oT hfk | replace hfk := oF hfk | simp only [oD, ne_eq, reduceCtorEq] at hfk)); (try exact oX))) | (refine And.intro ?ob ?_; (case ob => (exact oZ))) | exact True.intro | (show _ = _; first | exact oY | (first | exact dr | exact bn | rfl | skip; done) | exact rfl) | exact oW | (apply And.intro)))
abbrev levS : PSpec := fun l => match l with | [.int .i64 x, .int .i64 k] => some ([0 ≤ k, k ≤ 6], .int .i64 ((cutI x).fdiv (2 ^ k.toNat))) | _ => none
attribute [local irreducible] cutI
theorem pow2_bd {i : Nat} (h : i ≤ 6) : 0 < (2 : Int) ^ i ∧ (2 : Int) ^ i ≤ 64 := by
  have : i = 0 ∨ i = 1 ∨ i = 2 ∨ i = 3 ∨ i = 4 ∨ i = 5 ∨ i = 6 := by omega
  rcases this with rfl | rfl | rfl | rfl | rfl | rfl | rfl <;> decide
theorem level_s : SOK Try.prog 44 levS := by
  refine sok_of (C := mkC 0 [(73, cutQ), (74, downS)] noG) (mkC_ok (pok_cons rcut43_s (pok_cons down_s pok_nil)) noG_ok) rfl mixed ⟨Try.func44, by kernel_rfl, by kernel_rfl, by kernel_rfl⟩ fun l obs v h ho => ?_
  (unfold levS at h; split at h; rotate_left; (focus (cases h)); rename_i x k; simp only [Option.some.injEq, Prod.mk.injEq] at h; obtain ⟨rfl, rfl⟩ := h; simp only [List.mem_cons, List.not_mem_nil, or_false, forall_eq_or_imp, forall_eq, false_implies, implies_true] at ho)
  obtain ⟨k0, k1⟩ := ho
  obtain ⟨k, rfl⟩ := Int.eq_ofNat_of_zero_le k0
  rw [Int.toNat_natCast]
  have cx := cutI_bd x
  refine ⟨Nat.le_of_ble_eq_true rfl, ?_⟩
  (repeat' (first | (refine xI (fun hfk => ?_) (fun hfk => ?_) <;> ((try (first | replace hfk := oT hfk | replace hfk := oF hfk | simp only [oD, ne_eq, reduceCtorEq] at hfk)); (try exact oX))) | (refine And.intro ?ob ?_; (case ob => (exact oZ))) | exact True.intro | (show _ = _; first | exact oY | exact rfl) | exact oW | (apply And.intro)))
  refine ⟨Nat, fun i => [(0, .int .i64 x), (1, .int .i64 (k : Int)), (5, .int .i64 ((2 : Int) ^ i)), (6, .int .i64 (i : Int))], fun i => ⟨0, []⟩,
    fun i => i ≤ k, fun i => k - i, ⟨0, [], Nat.zero_le _, ?_⟩, fun i hi => ?_⟩
  · (repeat' (first | (refine And.intro ?_ ?_) | exact True.intro | (show _ = _; with_reducible rfl) | exact Chk.mk (by kernel_rfl)))
    all_goals rfl
  have hi : i ≤ k := hi
  dsimp only
  obtain ⟨b0, b1⟩ := pow2_bd (i := i) (by omega)
  obtain ⟨P, hP⟩ : ∃ P, (2 : Int) ^ i = P := ⟨_, rfl⟩
  by_cases hlt : i < k
  · have st : P * 2 = (2 : Int) ^ (i + 1) := by rw [Int.pow_succ, hP]
    rw [hP] at b0 b1 ⊢
    (repeat' (first | (refine xI (fun hfk => ?_) (fun hfk => ?_) <;> ((try (first | replace hfk := oT hfk | replace hfk := oF hfk | simp only [oD, ne_eq, reduceCtorEq] at hfk)); (try exact oX))) | (refine And.intro ?ob ?_; (case ob => (exact oZ))) | exact True.intro | (show _ = _; first | exact oY | exact rfl) | exact oW | (apply And.intro)))
    refine ⟨i + 1, [], hlt, ?mu, ?_⟩
    case mu => (show k - (i + 1) < k - i; omega)
    (repeat' (first | (refine And.intro ?_ ?_) | exact True.intro | (show _ = _; with_reducible rfl) | exact Chk.mk (by kernel_rfl)))
    all_goals first | rfl | exact st | (show (_ : Int) = _; omega)
  · obtain rfl : i = k := by omega
    rw [hP] at b0 b1 ⊢
    (repeat' (first | (refine xI (fun hfk => ?_) (fun hfk => ?_) <;> ((try (first | replace hfk := oT hfk | replace hfk := oF hfk | simp only [oD, ne_eq, reduceCtorEq] at hfk)); (try exact oX))) | (refine And.intro ?ob ?_; (case ob => (exact oZ))) | exact True.intro | (show _ = _; first | exact oY | exact rfl) | exact oW | (apply And.intro)))
abbrev tlG (O : List It) : Nat → AV := fun j => .agg [.int .i64 (O.getD j It.z).l, .int .i64 (O.getD j It.z).i]
structure TwoT (n m : Nat) (f g : Nat → AV) : Prop where
  out : ∃ O : List It, n = O.length ∧ m = O.length ∧ f = tlG O ∧ g = tlG O
abbrev same42S : PSpec := fun l => match l with | [.ro 2 n f, .ro 2 m g] => some ([TwoT n m f g, n ≤ 1000000], .bool true) | _ => none
theorem same42_s : SOK Try.prog 45 same42S := by
  refine sok_of (C := mkC 0 [] noG) (mkC_ok pok_nil noG_ok) rfl mixed ⟨Try.func45, by kernel_rfl, by kernel_rfl, by kernel_rfl⟩ fun l obs v h ho => ?_
  (unfold same42S at h; split at h; rotate_left; (focus (cases h)); rename_i n f m g; simp only [Option.some.injEq, Prod.mk.injEq] at h; obtain ⟨rfl, rfl⟩ := h; simp only [List.mem_cons, List.not_mem_nil, or_false, forall_eq_or_imp, forall_eq, false_implies, implies_true] at ho)
  obtain ⟨⟨O, rfl, rfl, rfl, rfl⟩, n1⟩ := ho
  refine ⟨Nat.le_of_ble_eq_true rfl, ?_⟩
  (repeat' (first | (refine xI (fun hfk => ?_) (fun hfk => ?_) <;> ((try (first | replace hfk := oT hfk | replace hfk := oF hfk | simp only [oD, ne_eq, reduceCtorEq] at hfk)); (try exact oX))) | (refine And.intro ?ob ?_; (case ob => (exact oZ))) | exact True.intro | (show _ = _; first | exact oY | exact rfl) | exact oW | (apply And.intro)))
  refine ⟨Nat, fun i => [(0, .ro 2 O.length (tlG O)), (1, .ro 2 O.length (tlG O)), (5, .int .i64 (i : Int))], fun i => ⟨0, []⟩,
    fun i => i ≤ O.length, fun i => O.length - i, ⟨0, [], Nat.zero_le _, ?_⟩, fun i hi => ?_⟩
  · (repeat' (first | (refine And.intro ?_ ?_) | exact True.intro | (show _ = _; with_reducible rfl) | exact Chk.mk (by kernel_rfl)))
    all_goals first | rfl | (exact fun _ _ => rfl)
  have hi : i ≤ O.length := hi
  (repeat' (first | (refine xI (fun hfk => ?_) (fun hfk => ?_) <;> ((try (first | replace hfk := oT hfk | replace hfk := oF hfk | simp only [oD, ne_eq, reduceCtorEq] at hfk)); (try exact oX))) | (refine And.intro ?ob ?_; (case ob => (exact oZ))) | exact True.intro | (show _ = _; first | exact oY | exact rfl) | exact oW | (apply And.intro)))
  · refine ⟨i + 1, [], by show i + 1 ≤ _; omega, ?mu, ?_⟩
    case mu => (show O.length - (i + 1) < O.length - i; omega)
    (repeat' (first | (refine And.intro ?_ ?_) | exact True.intro | (show _ = _; with_reducible rfl) | exact Chk.mk (by kernel_rfl)))
    all_goals first | rfl | (exact fun _ _ => rfl) | (show (_ : Int) = _; omega)
def fstN (N : List It) : Nat := fstV (fun j => (atL N j).p) N.length
def selV : Nat → List It → List It
  | 0, _ => []
  | k + 1, N => atL N (fstN N) :: selV k (N.eraseIdx (fstN N))
def selA (N : List It) : List It := selV N.length N
theorem fstN_lt {N : List It} (h : 0 < N.length) : fstN N < N.length := (fst_spec _ _).2.2 h
theorem selA_step {N : List It} (h : 0 < N.length) : selA N = atL N (fstN N) :: selA (N.eraseIdx (fstN N)) := by
  obtain ⟨k, hk⟩ : ∃ k, N.length = k + 1 := ⟨N.length - 1, by omega⟩
  have e : (N.eraseIdx (fstN N)).length = k := by rw [List.length_eraseIdx, if_pos (fstN_lt h)]; omega
  unfold selA
  rw [hk, e]
  rfl
theorem selA_nil : selA [] = [] := rfl
theorem selA_len : ∀ (k : Nat) (N : List It), N.length = k → (selA N).length = k
  | 0, N, h => by
    have : N = [] := List.eq_nil_of_length_eq_zero h
    subst this; rfl
  | k + 1, N, h => by
    have e : (N.eraseIdx (fstN N)).length = k := by rw [List.length_eraseIdx, if_pos (fstN_lt (by omega))]; omega
    rw [selA_step (by omega), List.length_cons, selA_len k _ e]
end Go.Proofs.Ytgbekbofeaoniaa
namespace Go.Proofs.Ytgbekbofeaoniaa
open Go Go.RowKit
def fitsI (w h c : Int) : Int := if c ≠ 1 ∧ c ≠ 3 ∧ c ≠ 4 then 10 else if 32768 < w ∨ 32768 < h ∨ (0 < w ∧ 0 < h ∧ 4194304 < w * h) then 30 else if w < 1 ∨ h < 1 then 12 else 0
def imCheck (w h c n : Int) : Int := if fitsI w h c ≠ 0 then fitsI w h c else if n ≠ w * h * c then 12 else 0
theorem fits_inv {w h c : Int} (hf : fitsI w h c = 0) : (c = 1 ∨ c = 3 ∨ c = 4) ∧ 1 ≤ w ∧ w ≤ 32768 ∧ 1 ≤ h ∧ h ≤ 32768 ∧ w * h ≤ 4194304 ∧ 0 ≤ w * h ∧ 0 ≤ w * h * c ∧ w * h * c ≤ 16777216 := by
  unfold fitsI at hf
  split at hf
  · cases hf
  · split at hf
    · cases hf
    · split at hf
      · cases hf
      · rename_i h1 h2 h3
        have h4 : 0 ≤ w * h := Int.mul_nonneg (by omega) (by omega)
        have h5 : 0 ≤ w * h * c := Int.mul_nonneg h4 (by omega)
        have h6 : w * h ≤ 4194304 := by omega
        have h7 : w * h * c ≤ 4194304 * 4 := Int.mul_le_mul h6 (by omega) (by omega) (by omega)
        omega
theorem check_inv {w h c n : Int} (hf : imCheck w h c n = 0) : fitsI w h c = 0 ∧ n = w * h * c := by
  unfold imCheck at hf
  split at hf
  · rename_i h1; exact absurd hf h1
  · rename_i h1
    split at hf
    · cases hf
    · rename_i h2; exact ⟨by omega, by omega⟩
def inI (w h c x y k : Int) : Bool := decide (0 ≤ x) && decide (x < w) && decide (0 ≤ y) && decide (y < h) && decide (0 ≤ k) && decide (k < c)
def plI (w c x y k : Int) : Int := (y * w + x) * c + k
theorem in_inv {w h c x y k : Int} (hi : inI w h c x y k = true) : 0 ≤ x ∧ x < w ∧ 0 ≤ y ∧ y < h ∧ 0 ≤ k ∧ k < c := by
  simp only [inI, Bool.and_eq_true, decide_eq_true_eq] at hi; omega
theorem pl_bd {w h c x y k : Int} (hf : fitsI w h c = 0) (hi : inI w h c x y k = true) :
    (0 ≤ y * w ∧ y * w ≤ 4194304) ∧ (0 ≤ y * w + x ∧ y * w + x < w * h) ∧ (0 ≤ (y * w + x) * c ∧ (y * w + x) * c ≤ 16777216) ∧ 0 ≤ plI w c x y k ∧ plI w c x y k < w * h * c := by
  have hb := fits_inv hf
  have hh := in_inv hi
  have h1 : 0 ≤ y * w := Int.mul_nonneg (by omega) (by omega)
  have h2 : (y + 1) * w ≤ h * w := Int.mul_le_mul_of_nonneg_right (by omega) (by omega)
  rw [Int.add_mul, Int.one_mul, Int.mul_comm h w] at h2
  have h3 : 0 ≤ (y * w + x) * c := Int.mul_nonneg (by omega) (by omega)
  have h4 : (y * w + x + 1) * c ≤ w * h * c := Int.mul_le_mul_of_nonneg_right (by omega) (by omega)
  rw [Int.add_mul, Int.one_mul] at h4
  unfold plI
  omega
def sIII (f : Int → Int → Int → AV) : PSpec := fun l => match l with | [.int .i64 a, .int .i64 b, .int .i64 c] => some ([], f a b c) | _ => none
theorem sIII_inv {f : Int → Int → Int → AV} {l : List AV} {obs : List Prop} {v : AV} (h : sIII f l = some (obs, v)) : ∃ a b c, l = [.int .i64 a, .int .i64 b, .int .i64 c] ∧ v = f a b c := by
  unfold sIII at h
  split at h
  · simp only [Option.some.injEq, Prod.mk.injEq] at h; exact ⟨_, _, _, rfl, h.2.symm⟩
  · cases h
abbrev imA (w h c : Int) (l : List Int) : AV := .agg [.int .i64 w, .int .i64 h, .int .i64 c, .roi .u8 l]
def sM (ob : Int → Int → Int → List Int → List Prop) (f : Int → Int → Int → List Int → AV) : PSpec := fun l => match l with | [.agg [.int .i64 w, .int .i64 h, .int .i64 c, .roi .u8 p]] => some (ob w h c p, f w h c p) | _ => none
theorem sM_inv {ob : Int → Int → Int → List Int → List Prop} {f : Int → Int → Int → List Int → AV} {l : List AV} {obs : List Prop} {v : AV} (h : sM ob f l = some (obs, v)) : ∃ w hh c p, l = [imA w hh c p] ∧ obs = ob w hh c p ∧ v = f w hh c p := by
  unfold sM at h
  split at h
  · simp only [Option.some.injEq, Prod.mk.injEq] at h; exact ⟨_, _, _, _, rfl, h.1.symm, h.2.symm⟩
  · cases h
def sMI (ob : Int → Int → Int → List Int → Int → List Prop) (f : Int → Int → Int → List Int → Int → AV) : PSpec := fun l => match l with | [.agg [.int .i64 w, .int .i64 h, .int .i64 c, .roi .u8 p], .int .i64 x] => some (ob w h c p x, f w h c p x) | _ => none
theorem sMI_inv {ob : Int → Int → Int → List Int → Int → List Prop} {f : Int → Int → Int → List Int → Int → AV} {l : List AV} {obs : List Prop} {v : AV} (h : sMI ob f l = some (obs, v)) : ∃ w hh c p x, l = [imA w hh c p, .int .i64 x] ∧ obs = ob w hh c p x ∧ v = f w hh c p x := by
  unfold sMI at h
  split at h
  · simp only [Option.some.injEq, Prod.mk.injEq] at h; exact ⟨_, _, _, _, _, rfl, h.1.symm, h.2.symm⟩
  · cases h
theorem wh_rng {w h : Int} (h1 : decide (32768 < w) = false) (h2 : decide (32768 < h) = false) (h3 : decide (0 < w) = true) (h4 : decide (0 < h) = true) : rngI .i64 (w * h) := by
  replace h1 := of_decide_eq_false h1
  replace h2 := of_decide_eq_false h2
  replace h3 := of_decide_eq_true h3
  replace h4 := of_decide_eq_true h4
  have h5 : 0 ≤ w * h := Int.mul_nonneg (by omega) (by omega)
  have h6 : w * h ≤ 32768 * 32768 := Int.mul_le_mul (by omega) (by omega) (by omega) (by omega)
  exact rng64 (by omega) (by omega)
theorem fits_s : SOK Try.prog 80 (sIII fun w h c => .int .i64 (fitsI w h c)) := by
  refine sok_of (C := mkC 0 [] noG) (mkC_ok pok_nil noG_ok) rfl mixed ⟨Try.func80, by kernel_rfl, by kernel_rfl, by kernel_rfl⟩ fun l obs v h _ => ?_
  obtain ⟨w, hh, c, rfl, rfl⟩ := sIII_inv h
  clear h
  refine ⟨Nat.le_of_ble_eq_true rfl, ?_⟩
  (repeat' (first | apply And.intro | intro h)); (all_goals (try exact Chk.mk (by kernel_rfl)))
  all_goals first | exact wh_rng (by assumption) (by assumption) (by assumption) (by assumption) | (show _ = fitsI _ _ _; simp only [decide_eq_true_eq, decide_eq_false_iff_not, Bool.not_eq_true', Bool.not_eq_false', Bool.and_eq_true, Bool.or_eq_true, Bool.and_eq_false_iff, Bool.or_eq_false_iff, Int.not_lt, Int.not_le, ne_eq, Classical.not_not] at *; unfold fitsI; (repeat' split) <;> first | rfl | omega)
abbrev fitsS : PSpec := sIII fun w h c => .int .i64 (fitsI w h c)
abbrev checkS : PSpec := sM (fun _ _ _ _ => []) fun w h c p => .int .i64 (imCheck w h c p.length)
theorem whc_rng {w h c : Int} (hf : fitsI w h c = 0) : rngI .i64 (w * h) ∧ rngI .i64 (w * h * c) := by
  have hb := fits_inv hf
  exact ⟨rng64 (by omega) (by omega), rng64 (by omega) (by omega)⟩
theorem check_s : SOK Try.prog 51 checkS := by
  refine sok_of (C := mkC 0 [(80, fitsS)] noG) (mkC_ok (pok_cons fits_s pok_nil) noG_ok) rfl mixed ⟨Try.func51, by kernel_rfl, by kernel_rfl, by kernel_rfl⟩ fun l obs v h _ => ?_
  obtain ⟨w, hh, c, p, rfl, rfl, rfl⟩ := sM_inv h
  clear h
  refine ⟨Nat.le_of_ble_eq_true rfl, ?_⟩
  refine ⟨fun h1 => ?_, fun h1 => ?_⟩
  · have h1 : ¬ fitsI w hh c = 0 := of_decide_eq_true h1
    have e : imCheck w hh c p.length = fitsI w hh c := if_pos h1
    rw [e]
    (repeat' (first | apply And.intro | intro h)); (all_goals (try exact Chk.mk (by kernel_rfl)))
    (all_goals (try first | exact True.intro | exact rfl | exact And.intro rfl rfl | exact And.intro rfl (fun _ _ => rfl)))
  · have h1 : fitsI w hh c = 0 := by simpa using h1
    have hr := whc_rng h1
    refine ⟨hr.1, hr.2, fun h2 => ?_, fun h2 => ?_⟩
    · have e : imCheck w hh c p.length = 12 := by unfold imCheck; rw [if_neg (by omega), if_pos (of_decide_eq_true h2)]
      rw [e]
      (repeat' (first | apply And.intro | intro h)); (all_goals (try exact Chk.mk (by kernel_rfl)))
      (all_goals (try first | exact True.intro | exact rfl | exact And.intro rfl rfl | exact And.intro rfl (fun _ _ => rfl)))
    · have e : imCheck w hh c p.length = 0 := by unfold imCheck; rw [if_neg (by omega), if_neg (of_decide_eq_false h2)]
      rw [e]
      (repeat' (first | apply And.intro | intro h)); (all_goals (try exact Chk.mk (by kernel_rfl)))
      (all_goals (try first | exact True.intro | exact rfl | exact And.intro rfl rfl | exact And.intro rfl (fun _ _ => rfl)))
abbrev fewS : PSpec := sMI (fun _ _ _ _ _ => []) fun w h c p x => .bool (decide ((p.length : Int) ≤ x))
theorem few_s : SOK Try.prog 16 fewS := by
  refine sok_of (C := mkC 0 [] noG) (mkC_ok pok_nil noG_ok) rfl mixed ⟨Try.func16, by kernel_rfl, by kernel_rfl, by kernel_rfl⟩ fun l obs v h _ => ?_
  obtain ⟨w, hh, c, p, x, rfl, rfl, rfl⟩ := sMI_inv h
  clear h
  refine ⟨Nat.le_of_ble_eq_true rfl, ?_⟩
  (repeat' (first | apply And.intro | intro h)); (all_goals (try exact Chk.mk (by kernel_rfl)))
  (all_goals (try first | exact True.intro | exact rfl | exact And.intro rfl rfl | exact And.intro rfl (fun _ _ => rfl)))
def sB (ob : List Int → List Prop) (f : List Int → AV) : PSpec := fun l => match l with | [.roi .u8 p] => some (ob p, f p) | _ => none
theorem sB_inv {ob : List Int → List Prop} {f : List Int → AV} {l : List AV} {obs : List Prop} {v : AV} (h : sB ob f l = some (obs, v)) : ∃ p, l = [.roi .u8 p] ∧ obs = ob p ∧ v = f p := by
  unfold sB at h
  split at h
  · simp only [Option.some.injEq, Prod.mk.injEq] at h; exact ⟨_, rfl, h.1.symm, h.2.symm⟩
  · cases h
abbrev cloneS : PSpec := sB (fun p => [p.length ≤ 140737488355328]) fun p => .roi .u8 p
theorem clone_s : SOK Try.prog 55 cloneS := by
  refine sok_of (C := mkC 0 [] noG) (mkC_ok pok_nil noG_ok) rfl mixed ⟨Try.func55, by kernel_rfl, by kernel_rfl, by kernel_rfl⟩ fun l obs v h ho => ?_
  obtain ⟨p, rfl, rfl, rfl⟩ := sB_inv h
  have hl : p.length ≤ 140737488355328 := ho _ (by simp)
  clear h ho
  refine ⟨Nat.le_of_ble_eq_true rfl, ?_⟩
  refine fun b hb => ⟨fun h1 => ?_, fun h1 => ?_⟩
  · rw [hb h1]
    (repeat' (first | apply And.intro | intro h)); (all_goals (try exact Chk.mk (by kernel_rfl)))
    (all_goals (try first | exact True.intro | exact rfl | exact And.intro rfl rfl | exact And.intro rfl (fun _ _ => rfl)))
  · (repeat' (first | apply And.intro | intro h)); (all_goals (try exact Chk.mk (by kernel_rfl)))
    (all_goals (try first | exact True.intro | exact rfl | exact And.intro rfl rfl | exact And.intro rfl (fun _ _ => rfl)))
    · show (((0 : Nat) : Int) + (p.length : Int)) * ((1 : Nat) : Int) ≤ 140737488355328; omega
    · show 0 + p.length ≤ 140737488355328; omega
    · show 0 + (0 + p.length) ≤ p.length; omega
    · show List.take (0 + p.length) p = p; simp
end Go.Proofs.Ytgbekbofeaoniaa
namespace Go.Proofs.Ytgbekbofeaoniaa
open Go Go.RowKit
abbrev Lm (L : List Im) (i : Nat) : Im := L.getD i Im.z
def imgC (L : List Im) (i : Nat) : Int := if imCheck (Lm L i).w (Lm L i).h (Lm L i).c (Lm L i).p.length ≠ 0 then imCheck (Lm L i).w (Lm L i).h (Lm L i).c (Lm L i).p.length else if (Lm L i).c ≠ (Lm L 0).c then 10 else 0
def imgsC (L : List Im) : Nat → Int
  | 0 => 0
  | i + 1 => if imgsC L i ≠ 0 then imgsC L i else imgC L i
theorem imgsC_keep {L : List Im} {i n : Nat} (h : imgsC L i ≠ 0) (hn : i ≤ n) : imgsC L n = imgsC L i := by
  induction n with
  | zero => obtain rfl : i = 0 := by omega
            rfl
  | succ n ih =>
    by_cases e : i = n + 1
    · rw [e]
    · have := ih (by omega)
      show (if imgsC L n ≠ 0 then imgsC L n else imgC L n) = imgsC L i
      rw [this, if_pos h]
theorem imgsC_all {L : List Im} : ∀ {n : Nat}, imgsC L n = 0 → ∀ j, j < n → imgC L j = 0
  | n + 1, h, j, hj => by
    have h0 : imgsC L n = 0 := Classical.byContradiction fun k => by
      have := imgsC_keep k (Nat.le_succ n)
      exact k (this ▸ h)
    by_cases e : j = n
    · subst e
      unfold imgsC at h
      rw [if_neg (fun k => k h0)] at h
      exact h
    · exact imgsC_all h0 j (by omega)
theorem imgsC_first {L : List Im} {i n : Nat} (h : imgsC L i = 0) (h1 : imgC L i ≠ 0) (hi : i < n) : imgsC L n = imgC L i := by
  have e : imgsC L (i + 1) = imgC L i := if_neg (fun k => k h)
  rw [← e]
  exact imgsC_keep (by rw [e]; exact h1) hi
theorem imgsC_next {L : List Im} {i : Nat} (h : imgsC L i = 0) (h1 : imgC L i = 0) : imgsC L (i + 1) = 0 := by
  unfold imgsC
  rw [if_neg (fun k => k h), h1]
theorem imgC_cases (L : List Im) (i : Nat) : (imgC L i = 0 ∧ imCheck (Lm L i).w (Lm L i).h (Lm L i).c (Lm L i).p.length = 0 ∧ (Lm L i).c = (Lm L 0).c) ∨
    (imCheck (Lm L i).w (Lm L i).h (Lm L i).c (Lm L i).p.length ≠ 0 ∧ imgC L i = imCheck (Lm L i).w (Lm L i).h (Lm L i).c (Lm L i).p.length) ∨
    (imCheck (Lm L i).w (Lm L i).h (Lm L i).c (Lm L i).p.length = 0 ∧ (Lm L i).c ≠ (Lm L 0).c ∧ imgC L i = 10) := by
  unfold imgC
  by_cases h : imCheck (Lm L i).w (Lm L i).h (Lm L i).c (Lm L i).p.length = 0
  · by_cases g : (Lm L i).c = (Lm L 0).c
    · exact .inl ⟨by rw [if_neg (fun k => k h), if_neg (fun k => k g)], h, g⟩
    · exact .inr (.inr ⟨h, g, by rw [if_neg (fun k => k h), if_pos g]⟩)
  · exact .inr (.inl ⟨h, if_pos h⟩)
def imagesC (L : List Im) : Int := if L.length = 0 then 60 else imgsC L L.length
theorem imagesC_ok {L : List Im} (h : imagesC L = 0) : 0 < L.length ∧ imgsC L L.length = 0 ∧ ∀ j, j < L.length → imCheck (Lm L j).w (Lm L j).h (Lm L j).c (Lm L j).p.length = 0 ∧ (Lm L j).c = (Lm L 0).c := by
  unfold imagesC at h
  split at h
  · omega
  · refine ⟨by omega, h, fun j hj => ?_⟩
    have := imgsC_all h j hj
    rcases imgC_cases L j with k | k | k
    · exact k.2
    · exact absurd (k.2 ▸ this) k.1
    · have := k.2.2; omega
structure LenOK (n : Nat) : Prop where
  le : n ≤ 9223372036854775807
theorem LenOK.rng {n i : Nat} (h : LenOK n) (hi : i < n) : rngI .i64 ((i : Int) + 1) := by
  have := h.le
  exact rng64 (by omega) (by omega)
abbrev sIms (L : List Im) (ob : List Prop) (v : AV) : PSpec := fun l => match l with
  | [.ro 4 n get] => some ((n = L.length) :: (∀ j, j < n → get j = (Lm L j).av) :: ob, v) | _ => none
theorem sIms_inv {L : List Im} {ob : List Prop} {v : AV} {l : List AV} {obs : List Prop} {v' : AV} (h : sIms L ob v l = some (obs, v')) (ho : ∀ p ∈ obs, p) : ∃ get, l = [.ro 4 L.length get] ∧ (∀ j, j < L.length → get j = (Lm L j).av) ∧ v' = v ∧ ∀ p ∈ ob, p := by
  unfold sIms at h
  split at h
  · simp only [Option.some.injEq, Prod.mk.injEq] at h
    obtain ⟨rfl, rfl⟩ := h
    rename_i n get
    obtain rfl : n = L.length := ho (n = L.length) List.mem_cons_self
    exact ⟨_, rfl, ho (∀ j, j < L.length → get j = (Lm L j).av) (List.mem_cons_of_mem _ List.mem_cons_self), rfl, fun p hp => ho p (List.mem_cons_of_mem _ (List.mem_cons_of_mem _ hp))⟩
  · cases h
def fewL (L : List Im) : Bool := decide (∀ j, j < L.length → (Lm L j).p.length ≤ 2000) && decide (L.length ≤ 6)
def storeC (L : List Im) (tw th : Int) : Int := if imagesC L ≠ 0 then imagesC L else if tw < 1 ∨ 4096 < tw ∨ th < 1 ∨ 4096 < th then 10 else 0
end Go.Proofs.Ytgbekbofeaoniaa
namespace Go.Proofs.Ytgbekbofeaoniaa
open Go Go.RowKit
theorem sampleOf_s (L : List Im) : SOK Try.prog 60 (sIms L [L.length ≤ 6] (.tup [.any, .int .i64 (imagesC L)])) := by
  refine sok_of (C := mkK 0 [(51, checkS), (55, cloneS)] noG [0, 6]) (mkK_ok (pok_cons check_s (pok_cons clone_s pok_nil)) noG_ok) rfl mixed ⟨Try.func60, by kernel_rfl, by kernel_rfl, by kernel_rfl⟩ fun l obs v h ho => ?_
  obtain ⟨get, rfl, hg, rfl, hL⟩ := sIms_inv h ho
  have hL : L.length ≤ 6 := hL _ List.mem_cons_self
  refine ⟨Nat.le_of_ble_eq_true rfl, ?_⟩
  refine ⟨[(0, imsA L)], ⟨0, []⟩, [], ?_, ?_⟩
  · (repeat' (first | (refine And.intro ?_ ?_) | exact True.intro | (show _ = _; with_reducible rfl) | exact Chk.mk (by kernel_rfl)))
    exact hg
  by_cases h0 : L.length = 0
  · have e : imagesC L = 60 := if_pos h0
    (repeat' (first | (refine xI (fun hfk => ?_) (fun hfk => ?_) <;> ((try (first | replace hfk := oT hfk | replace hfk := oF hfk | simp only [oD, ne_eq, reduceCtorEq] at hfk)); (try exact oX))) | (refine And.intro ?ob ?_; (case ob => (exact oZ))) | exact True.intro | (show _ = _; first | exact oY | (exact e.symm; done) | exact rfl) | exact oW | (apply And.intro)))
  have e : imagesC L = imgsC L L.length := if_neg h0
  (repeat' (first | (refine xI (fun hfk => ?_) (fun hfk => ?_) <;> ((try (first | replace hfk := oT hfk | replace hfk := oF hfk | simp only [oD, ne_eq, reduceCtorEq] at hfk)); (try exact oX))) | (refine And.intro ?ob ?_; (case ob => (exact oZ))) | exact True.intro | (show _ = _; first | exact oY | exact rfl) | exact oW | (apply And.intro)))
  refine ⟨Nat, fun i => [(0, imsA L), (4, .sl 0 4 0 i), (11, imsA L), (12, .int .i64 (L.length : Int)), (13, .int .i64 (i : Int))], fun i => ⟨1, [(0, some (.recs 40 4 i (fun j => (Lm L j).av)))]⟩, fun i => i ≤ L.length ∧ imgsC L i = 0, fun i => L.length - i, ⟨0, [none], ⟨Nat.zero_le _, rfl⟩, ?_⟩, fun i hi => ?_⟩
  · (repeat' (first | (refine And.intro ?_ ?_) | exact True.intro | (show _ = _; with_reducible rfl) | exact Chk.mk (by kernel_rfl)))
    all_goals first | (intro j hj; rfl) | rfl
  obtain ⟨hi, hz⟩ := hi
  by_cases hlt : i < L.length
  · obtain ⟨x, hx⟩ : ∃ x, L.getD (i : Int).toNat Im.z = x := ⟨_, rfl⟩
    have hx' : Lm L i = x := hx
    have hcs := imgC_cases L i
    rw [hx'] at hcs
    (repeat' (first | (refine xI (fun hfk => ?_) (fun hfk => ?_) <;> ((try (first | replace hfk := oT hfk | replace hfk := oF hfk | simp only [oD, ne_eq, reduceCtorEq] at hfk)); (try exact oX))) | (refine And.intro ?ob ?_; (case ob => (exact oZ))) | exact True.intro | (show _ = _; first | exact oY | exact rfl) | exact oW | (apply And.intro)))
    refine ⟨[(0, imsA L), (4, .sl 0 4 0 i), (6, .ptr 1 0), (11, imsA L), (12, .int .i64 (L.length : Int)), (13, .int .i64 (i : Int))],
      ⟨2, [(0, some (.recs 40 4 i (fun j => (Lm L j).av))), (1, some (.cells 40 [.int .i64 x.w, .int .i64 x.h, .int .i64 x.c, .roi .u8 x.p]))]⟩, [some 0, some 1], ?_, ?_⟩
    · (repeat' (first | (refine And.intro ?_ ?_) | exact True.intro | (show _ = _; with_reducible rfl) | exact Chk.mk (by kernel_rfl)))
      all_goals first
        | exact congrArg Im.w hx
        | exact congrArg Im.h hx
        | exact congrArg Im.c hx
        | exact congrArg Im.p hx
        | (intro j hj; rfl)
    rcases hcs with ⟨k0, k1, k2⟩ | ⟨k1, k2⟩ | ⟨k1, k2, k3⟩
    · have k2' : x.c = (L.getD (Int.toNat 0) Im.z).c := k2
      obtain ⟨hf, hl⟩ := check_inv k1
      have hb := fits_inv hf
      (repeat' (first | (refine xI (fun hfk => ?_) (fun hfk => ?_) <;> ((try (first | replace hfk := oT hfk | replace hfk := oF hfk | simp only [oD, ne_eq, reduceCtorEq] at hfk)); (try exact oX))) | (refine And.intro ?ob ?_; (case ob => (exact oZ))) | exact True.intro | (show _ = _; first | exact oY | exact rfl) | exact oW | (apply And.intro)))
      (refine ⟨i + 1, [some 3], ?_, ?mu, ?_⟩; (case mu => ((try dsimp only); omega)))
      · exact ⟨hlt, imgsC_next hz k0⟩
      (repeat' (first | (refine xI (fun hfk => ?_) (fun hfk => ?_) <;> ((try (first | replace hfk := oT hfk | replace hfk := oF hfk | simp only [oD, ne_eq, reduceCtorEq] at hfk)); (try exact oX))) | (refine And.intro ?ob ?_; (case ob => (exact oZ))) | exact True.intro | (show _ = _; first | exact oY | exact rfl) | exact oW | (apply And.intro)))
      intro j hj
      by_cases h : j < i
      · simp only [if_pos h]
      · obtain rfl : j = i := by have : j < i + 1 := hj; omega
        simp only [if_neg h, Nat.sub_self]
        rw [hx']
        rfl
    · have e2 : imCheck x.w x.h x.c x.p.length = imagesC L := by
        rw [e, imgsC_first hz (by rw [k2]; exact k1) hlt, k2]
      (repeat' (first | (refine xI (fun hfk => ?_) (fun hfk => ?_) <;> ((try (first | replace hfk := oT hfk | replace hfk := oF hfk | simp only [oD, ne_eq, reduceCtorEq] at hfk)); (try exact oX))) | (refine And.intro ?ob ?_; (case ob => (exact oZ))) | exact True.intro | (show _ = _; first | exact oY | (exact e2; done) | exact rfl) | exact oW | (apply And.intro)))
    · have k2' : ¬ x.c = (L.getD (Int.toNat 0) Im.z).c := k2
      have e2 : (10 : Int) = imagesC L := by
        rw [e, imgsC_first hz (by rw [k3]; decide) hlt, k3]
      (repeat' (first | (refine xI (fun hfk => ?_) (fun hfk => ?_) <;> ((try (first | replace hfk := oT hfk | replace hfk := oF hfk | simp only [oD, ne_eq, reduceCtorEq] at hfk)); (try exact oX))) | (refine And.intro ?ob ?_; (case ob => (exact oZ))) | exact True.intro | (show _ = _; first | exact oY | (exact e2; done) | exact rfl) | exact oW | (apply And.intro)))
  · have e2 : (0 : Int) = imagesC L := by
      have : i = L.length := by omega
      rw [e, ← this, hz]
    (repeat' (first | (refine xI (fun hfk => ?_) (fun hfk => ?_) <;> ((try (first | replace hfk := oT hfk | replace hfk := oF hfk | simp only [oD, ne_eq, reduceCtorEq] at hfk)); (try exact oX))) | (refine And.intro ?ob ?_; (case ob => (exact oZ))) | exact True.intro | (show _ = _; first | exact oY | (exact e2; done) | exact rfl) | exact oW | (apply And.intro)))
abbrev stA (L : List Im) (tw th n : Int) : Ent := .cells 126 [.sl 1 4 0 L.length, .int .i64 tw, .int .i64 th, .int .i64 n]
abbrev rowA (L : List Im) (i : Nat) : Ent := .recs 40 4 i (fun j => (Lm L j).av)
def newStF (L : List Im) : FSpec := fun l es => match l, es with
  | [.ro 4 n get, .int .i64 tw, .int .i64 th], [] => some ([n = L.length, ∀ j, j < n → get j = (Lm L j).av, L.length ≤ 6, storeC L tw th = 0], .tup [.ptr 0 0, .int .i64 0], [some (stA L tw th 0), some (rowA L L.length)])
  | _, _ => none
theorem storeC_ok {L : List Im} {tw th : Int} (h : storeC L tw th = 0) : imagesC L = 0 ∧ 1 ≤ tw ∧ tw ≤ 4096 ∧ 1 ≤ th ∧ th ≤ 4096 := by
  unfold storeC at h
  split at h
  · rename_i k; exact absurd h k
  · rename_i k
    split at h
    · omega
    · exact ⟨Classical.not_not.1 k, by omega, by omega, by omega, by omega⟩
theorem newSt_g (L : List Im) : GSOK Try.prog 27 (fG (newStF L)) := by
  refine fokK [0, 9] (S := [(60, sIms L [L.length ≤ 6] (.tup [.any, .int .i64 (imagesC L)])), (55, cloneS)]) (G := noG) (pok_cons (sampleOf_s L) (pok_cons clone_s pok_nil)) noG_ok ⟨Try.func27, by kernel_rfl, by kernel_rfl, by kernel_rfl⟩ fun l es obs v es' h ho => ?_
  (unfold newStF at h; split at h; rotate_left; (focus (cases h)); rename_i n get tw th; simp only [Option.some.injEq, Prod.mk.injEq] at h; obtain ⟨rfl, rfl, rfl⟩ := h; simp only [List.mem_cons, List.not_mem_nil, or_false, forall_eq_or_imp, forall_eq, false_implies, implies_true] at ho)
  obtain ⟨rfl, hg, h6, hk⟩ := ho
  obtain ⟨hi, t1, t2, t3, t4⟩ := storeC_ok hk
  obtain ⟨p0, p1, p2⟩ := imagesC_ok hi
  refine ⟨Nat.le_of_ble_eq_true rfl, ?_⟩
  refine ⟨[(0, imsA L), (1, .int .i64 tw), (2, .int .i64 th)], ⟨0, []⟩, [], ?_, ?_⟩
  · (repeat' (first | (refine And.intro ?_ ?_) | exact True.intro | (show _ = _; with_reducible rfl) | exact Chk.mk (by kernel_rfl)))
    exact hg
  (repeat' (first | (refine xI (fun hfk => ?_) (fun hfk => ?_) <;> ((try (first | replace hfk := oT hfk | replace hfk := oF hfk | simp only [oD, ne_eq, reduceCtorEq] at hfk)); (try exact oX))) | (refine And.intro ?ob ?_; (case ob => (exact oZ))) | exact True.intro | (show _ = _; first | exact oY | exact rfl) | exact oW | (apply And.intro)))
  refine ⟨Nat, fun i => [(10, .ptr 0 0), (39, imsA L), (40, .int .i64 (L.length : Int)), (41, .int .i64 (i : Int))], fun i => ⟨2, [(0, some (.cells 126 [.sl 1 4 0 i, .int .i64 tw, .int .i64 th, .int .i64 0])), (1, some (rowA L i))]⟩, fun i => i ≤ L.length, fun i => L.length - i, ⟨0, [some 0, none], Nat.zero_le _, ?_⟩, fun i hi => ?_⟩
  · (repeat' (first | (refine And.intro ?_ ?_) | exact True.intro | (show _ = _; with_reducible rfl) | exact Chk.mk (by kernel_rfl)))
    all_goals first | (intro j hj; rfl) | rfl
  have hi : i ≤ L.length := hi
  by_cases hlt : i < L.length
  · obtain ⟨x, hx⟩ : ∃ x, L.getD (i : Int).toNat Im.z = x := ⟨_, rfl⟩
    have hx' : Lm L i = x := hx
    have hc := (p2 i hlt).1
    rw [hx'] at hc
    obtain ⟨hf, hl⟩ := check_inv hc
    have hb := fits_inv hf
    (repeat' (first | (refine xI (fun hfk => ?_) (fun hfk => ?_) <;> ((try (first | replace hfk := oT hfk | replace hfk := oF hfk | simp only [oD, ne_eq, reduceCtorEq] at hfk)); (try exact oX))) | (refine And.intro ?ob ?_; (case ob => (exact oZ))) | exact True.intro | (show _ = _; first | exact oY | exact rfl) | exact oW | (apply And.intro)))
    refine ⟨[(10, .ptr 0 0), (12, .ptr 2 0), (39, imsA L), (40, .int .i64 (L.length : Int)), (41, .int .i64 (i : Int))],
      ⟨3, [(0, some (.cells 126 [.sl 1 4 0 i, .int .i64 tw, .int .i64 th, .int .i64 0])), (1, some (rowA L i)), (2, some (.cells 40 [.int .i64 x.w, .int .i64 x.h, .int .i64 x.c, .roi .u8 x.p]))]⟩, [some 0, some 1, some 2], ?_, ?_⟩
    · (repeat' (first | (refine And.intro ?_ ?_) | exact True.intro | (show _ = _; with_reducible rfl) | exact Chk.mk (by kernel_rfl)))
      all_goals first
        | exact congrArg Im.w hx
        | exact congrArg Im.h hx
        | exact congrArg Im.c hx
        | exact congrArg Im.p hx
        | (intro j hj; rfl)
    (repeat' (first | (refine xI (fun hfk => ?_) (fun hfk => ?_) <;> ((try (first | replace hfk := oT hfk | replace hfk := oF hfk | simp only [oD, ne_eq, reduceCtorEq] at hfk)); (try exact oX))) | (refine And.intro ?ob ?_; (case ob => (exact oZ))) | exact True.intro | (show _ = _; first | exact oY | exact rfl) | exact oW | (apply And.intro)))
    (refine ⟨i + 1, [some 0, some 4], ?_, ?mu, ?_⟩; (case mu => ((try dsimp only); omega)))
    · exact hlt
    (repeat' (first | (refine xI (fun hfk => ?_) (fun hfk => ?_) <;> ((try (first | replace hfk := oT hfk | replace hfk := oF hfk | simp only [oD, ne_eq, reduceCtorEq] at hfk)); (try exact oX))) | (refine And.intro ?ob ?_; (case ob => (exact oZ))) | exact True.intro | (show _ = _; first | exact oY | exact rfl) | exact oW | (apply And.intro)))
    · intro j hj
      by_cases h : j < i
      · simp only [if_pos h]
      · obtain rfl : j = i := by have : j < i + 1 := hj; omega
        simp only [if_neg h, Nat.sub_self]
        rw [hx']
        rfl
  · obtain rfl : i = L.length := by omega
    (repeat' (first | (refine xI (fun hfk => ?_) (fun hfk => ?_) <;> ((try (first | replace hfk := oT hfk | replace hfk := oF hfk | simp only [oD, ne_eq, reduceCtorEq] at hfk)); (try exact oX))) | (refine And.intro ?ob ?_; (case ob => (exact oZ))) | exact True.intro | (show _ = _; first | exact oY | exact rfl) | exact oW | (apply And.intro)))
    refine ⟨[some 0, some 1], ?_⟩
    (repeat' (first | (refine xI (fun hfk => ?_) (fun hfk => ?_) <;> ((try (first | replace hfk := oT hfk | replace hfk := oF hfk | simp only [oD, ne_eq, reduceCtorEq] at hfk)); (try exact oX))) | (refine And.intro ?ob ?_; (case ob => (exact oZ))) | exact True.intro | (show _ = _; first | exact oY | exact rfl) | exact oW | (apply And.intro)))
end Go.Proofs.Ytgbekbofeaoniaa
namespace Go.Proofs.Ytgbekbofeaoniaa
open Go Go.RowKit
def inL (L : List Im) (k : Int) : Bool := decide (0 ≤ k) && decide (k < (L.length : Int))
def stG (L : List Im) (tw th k : Int) : R4 := if inL L k = true then ⟨(Lm L k.toNat).w, (Lm L k.toNat).h, tw, th⟩ else .zero
theorem inL_iff {L : List Im} {k : Int} : inL L k = true ↔ 0 ≤ k ∧ k < (L.length : Int) := by simp [inL]
theorem stG_in {L : List Im} {tw th k : Int} (h : inL L k = true) : stG L tw th k = ⟨(Lm L k.toNat).w, (Lm L k.toNat).h, tw, th⟩ := if_pos h
theorem stG_out {L : List Im} {tw th k : Int} (h : inL L k = false) : stG L tw th k = .zero := if_neg (by rw [h]; decide)
abbrev sSt (L : List Im) (f : Int → Int → Int → AV) : PSpec := fun l => match l with
  | [.rop (.agg [.ro 4 n get, .int .i64 tw, .int .i64 th, .int .i64 c])] => some ([n = L.length, get = fun j => (Lm L j).av], f tw th c) | _ => none
abbrev sStK (L : List Im) (f : Int → Int → Int → Int → AV) : PSpec := fun l => match l with
  | [.rop (.agg [.ro 4 n get, .int .i64 tw, .int .i64 th, .int .i64 c]), .int .i64 k] => some ([n = L.length, get = fun j => (Lm L j).av], f tw th c k) | _ => none
abbrev sStT (L : List Im) (f : Int → Int → Int → Int → Int → AV) : PSpec := fun l => match l with
  | [.rop (.agg [.ro 4 n get, .int .i64 tw, .int .i64 th, .int .i64 c]), .agg [.int .i64 k, .int .i64 i]] => some ([n = L.length, get = fun j => (Lm L j).av], f tw th c k i) | _ => none
abbrev levelsS (L : List Im) : PSpec := sSt L fun _ _ _ => .int .i64 L.length
theorem levels_s (L : List Im) : SOK Try.prog 63 (levelsS L) := by
  refine sok_of (C := mkC 0 [] noG) (mkC_ok pok_nil noG_ok) rfl mixed ⟨Try.func63, by kernel_rfl, by kernel_rfl, by kernel_rfl⟩ fun l obs v h ho => ?_
  unfold levelsS at h
  (unfold sSt at h; split at h; rotate_left; (focus (cases h)); rename_i n get tw th c; simp only [Option.some.injEq, Prod.mk.injEq] at h; obtain ⟨rfl, rfl⟩ := h; simp only [List.mem_cons, List.not_mem_nil, or_false, forall_eq_or_imp, forall_eq, false_implies, implies_true] at ho)
  obtain ⟨rfl, rfl⟩ := ho
  refine ⟨Nat.le_of_ble_eq_true rfl, ?_⟩
  (repeat' (first | (refine xI (fun hfk => ?_) (fun hfk => ?_) <;> ((try (first | replace hfk := oT hfk | replace hfk := oF hfk | simp only [oD, ne_eq, reduceCtorEq] at hfk)); (try exact oX))) | (refine And.intro ?ob ?_; (case ob => (exact oZ))) | exact True.intro | (show _ = _; first | exact oY | exact rfl) | exact oW | (apply And.intro)))
abbrev isS41 (L : List Im) : PSpec := sStK L fun _ _ _ k => .bool (inL L k)
theorem is41_s (L : List Im) : SOK Try.prog 85 (isS41 L) := by
  refine sok_of (C := mkC 0 [(63, levelsS L)] noG) (mkC_ok (pok_cons (levels_s L) pok_nil) noG_ok) rfl mixed ⟨Try.func85, by kernel_rfl, by kernel_rfl, by kernel_rfl⟩ fun l obs v h ho => ?_
  unfold isS41 at h
  (unfold sStK at h; split at h; rotate_left; (focus (cases h)); rename_i n get tw th c k; simp only [Option.some.injEq, Prod.mk.injEq] at h; obtain ⟨rfl, rfl⟩ := h; simp only [List.mem_cons, List.not_mem_nil, or_false, forall_eq_or_imp, forall_eq, false_implies, implies_true] at ho)
  obtain ⟨rfl, rfl⟩ := ho
  refine ⟨Nat.le_of_ble_eq_true rfl, ?_⟩
  by_cases h0 : 0 ≤ k
  · have e : decide (k < (L.length : Int)) = inL L k := by unfold inL; rw [decide_eq_true h0, Bool.true_and]
    (repeat' (first | (refine xI (fun hfk => ?_) (fun hfk => ?_) <;> ((try (first | replace hfk := oT hfk | replace hfk := oF hfk | simp only [oD, ne_eq, reduceCtorEq] at hfk)); (try exact oX))) | (refine And.intro ?ob ?_; (case ob => (exact oZ))) | exact True.intro | (show _ = _; first | exact oY | (exact e; done) | exact rfl) | exact oW | (apply And.intro)))
  · have e : false = inL L k := by unfold inL; rw [decide_eq_false h0, Bool.false_and]
    (repeat' (first | (refine xI (fun hfk => ?_) (fun hfk => ?_) <;> ((try (first | replace hfk := oT hfk | replace hfk := oF hfk | simp only [oD, ne_eq, reduceCtorEq] at hfk)); (try exact oX))) | (refine And.intro ?ob ?_; (case ob => (exact oZ))) | exact True.intro | (show _ = _; first | exact oY | (exact e; done) | exact rfl) | exact oW | (apply And.intro)))
def szW (L : List Im) (k : Int) : Int := if inL L k = true then (Lm L k.toNat).w else 0
def szH (L : List Im) (k : Int) : Int := if inL L k = true then (Lm L k.toNat).h else 0
abbrev sizeS41 (L : List Im) : PSpec := sStK L fun _ _ _ k => .tup [.int .i64 (szW L k), .int .i64 (szH L k)]
theorem size41_s (L : List Im) : SOK Try.prog 86 (sizeS41 L) := by
  refine sok_of (C := mkC 0 [(85, isS41 L)] noG) (mkC_ok (pok_cons (is41_s L) pok_nil) noG_ok) rfl mixed ⟨Try.func86, by kernel_rfl, by kernel_rfl, by kernel_rfl⟩ fun l obs v h ho => ?_
  unfold sizeS41 at h
  (unfold sStK at h; split at h; rotate_left; (focus (cases h)); rename_i n get tw th c k; simp only [Option.some.injEq, Prod.mk.injEq] at h; obtain ⟨rfl, rfl⟩ := h; simp only [List.mem_cons, List.not_mem_nil, or_false, forall_eq_or_imp, forall_eq, false_implies, implies_true] at ho)
  obtain ⟨rfl, rfl⟩ := ho
  refine ⟨Nat.le_of_ble_eq_true rfl, ?_⟩
  cases hi : inL L k with
  | true =>
    have hb := inL_iff.1 hi
    have e1 : szW L k = (Lm L k.toNat).w := if_pos hi
    have e2 : szH L k = (Lm L k.toNat).h := if_pos hi
    (repeat' (first | (refine xI (fun hfk => ?_) (fun hfk => ?_) <;> ((try (first | replace hfk := oT hfk | replace hfk := oF hfk | simp only [oD, ne_eq, reduceCtorEq] at hfk)); (try exact oX))) | (refine And.intro ?ob ?_; (case ob => (exact oZ))) | exact True.intro | (show _ = _; first | exact oY | ((first | exact e1.symm | exact e2.symm); done) | exact rfl) | exact oW | (apply And.intro)))
  | false =>
    have e1 : szW L k = 0 := if_neg (by rw [hi]; decide)
    have e2 : szH L k = 0 := if_neg (by rw [hi]; decide)
    (repeat' (first | (refine xI (fun hfk => ?_) (fun hfk => ?_) <;> ((try (first | replace hfk := oT hfk | replace hfk := oF hfk | simp only [oD, ne_eq, reduceCtorEq] at hfk)); (try exact oX))) | (refine And.intro ?ob ?_; (case ob => (exact oZ))) | exact True.intro | (show _ = _; first | exact oY | ((first | exact e1.symm | exact e2.symm); done) | exact rfl) | exact oW | (apply And.intro)))
abbrev gridS41 (L : List Im) : PSpec := sStK L fun tw th _ k => (stG L tw th k).av
theorem grid41_s (L : List Im) : SOK Try.prog 65 (gridS41 L) := by
  refine sok_of (C := mkC 0 [(85, isS41 L), (86, sizeS41 L)] noG) (mkC_ok (pok_cons (is41_s L) (pok_cons (size41_s L) pok_nil)) noG_ok) rfl mixed ⟨Try.func65, by kernel_rfl, by kernel_rfl, by kernel_rfl⟩ fun l obs v h ho => ?_
  unfold gridS41 at h
  (unfold sStK at h; split at h; rotate_left; (focus (cases h)); rename_i n get tw th c k; simp only [Option.some.injEq, Prod.mk.injEq] at h; obtain ⟨rfl, rfl⟩ := h; simp only [List.mem_cons, List.not_mem_nil, or_false, forall_eq_or_imp, forall_eq, false_implies, implies_true] at ho)
  obtain ⟨rfl, rfl⟩ := ho
  refine ⟨Nat.le_of_ble_eq_true rfl, ?_⟩
  cases hi : inL L k with
  | true =>
    rw [stG_in hi]
    have e1 : szW L k = (Lm L k.toNat).w := if_pos hi
    have e2 : szH L k = (Lm L k.toNat).h := if_pos hi
    (repeat' (first | (refine xI (fun hfk => ?_) (fun hfk => ?_) <;> ((try (first | replace hfk := oT hfk | replace hfk := oF hfk | simp only [oD, ne_eq, reduceCtorEq] at hfk)); (try exact oX))) | (refine And.intro ?ob ?_; (case ob => (exact oZ))) | exact True.intro | (show _ = _; first | exact oY | ((first | exact e1 | exact e2); done) | exact rfl) | exact oW | (apply And.intro)))
  | false =>
    rw [stG_out hi]
    (repeat' (first | (refine xI (fun hfk => ?_) (fun hfk => ?_) <;> ((try (first | replace hfk := oT hfk | replace hfk := oF hfk | simp only [oD, ne_eq, reduceCtorEq] at hfk)); (try exact oX))) | (refine And.intro ?ob ?_; (case ob => (exact oZ))) | exact True.intro | (show _ = _; first | exact oY | exact rfl) | exact oW | (apply And.intro)))
abbrev placeS41 (L : List Im) : PSpec := sStT L fun tw th _ k i => .tup [(gtile (stG L tw th k) i).av, .bool (gis (stG L tw th k) i)]
theorem place41_s (L : List Im) : SOK Try.prog 31 (placeS41 L) := by
  refine sok_of (C := mkC 0 [(65, gridS41 L), (64, sRI fun g i => .tup [(gtile g i).av, .bool (gis g i)])] noG) (mkC_ok (pok_cons (grid41_s L) (pok_cons gtile_s pok_nil)) noG_ok) rfl mixed ⟨Try.func31, by kernel_rfl, by kernel_rfl, by kernel_rfl⟩ fun l obs v h ho => ?_
  unfold placeS41 at h
  (unfold sStT at h; split at h; rotate_left; (focus (cases h)); rename_i n get tw th c k i; simp only [Option.some.injEq, Prod.mk.injEq] at h; obtain ⟨rfl, rfl⟩ := h; simp only [List.mem_cons, List.not_mem_nil, or_false, forall_eq_or_imp, forall_eq, false_implies, implies_true] at ho)
  obtain ⟨rfl, rfl⟩ := ho
  refine ⟨Nat.le_of_ble_eq_true rfl, ?_⟩
  (repeat' (first | (refine xI (fun hfk => ?_) (fun hfk => ?_) <;> ((try (first | replace hfk := oT hfk | replace hfk := oF hfk | simp only [oD, ne_eq, reduceCtorEq] at hfk)); (try exact oX))) | (refine And.intro ?ob ?_; (case ob => (exact oZ))) | exact True.intro | (show _ = _; first | exact oY | exact rfl) | exact oW | (apply And.intro)))
end Go.Proofs.Ytgbekbofeaoniaa
namespace Go.Proofs.Ytgbekbofeaoniaa
open Go Go.RowKit
abbrev newStBad (L : List Im) : PSpec := fun l => match l with
  | [.ro 4 n get, .int .i64 tw, .int .i64 th] => some ([n = L.length, ∀ j, j < n → get j = (Lm L j).av, L.length ≤ 6, storeC L tw th ≠ 0], .tup [.nilp, .int .i64 (storeC L tw th)])
  | _ => none
theorem newStBad_s (L : List Im) : SOK Try.prog 27 (newStBad L) := by
  refine sok_of (C := mkK 0 [(60, sIms L [L.length ≤ 6] (.tup [.any, .int .i64 (imagesC L)]))] noG [0]) (mkK_ok (pok_cons (sampleOf_s L) pok_nil) noG_ok) rfl mixed ⟨Try.func27, by kernel_rfl, by kernel_rfl, by kernel_rfl⟩ fun l obs v h ho => ?_
  (unfold newStBad at h; split at h; rotate_left; (focus (cases h)); rename_i n get tw th; simp only [Option.some.injEq, Prod.mk.injEq] at h; obtain ⟨rfl, rfl⟩ := h; simp only [List.mem_cons, List.not_mem_nil, or_false, forall_eq_or_imp, forall_eq, false_implies, implies_true] at ho)
  obtain ⟨rfl, hg, h6, hk⟩ := ho
  refine ⟨Nat.le_of_ble_eq_true rfl, ?_⟩
  refine ⟨[(0, imsA L), (1, .int .i64 tw), (2, .int .i64 th)], ⟨0, []⟩, [], ?_, ?_⟩
  · (repeat' (first | (refine And.intro ?_ ?_) | exact True.intro | (show _ = _; with_reducible rfl) | exact Chk.mk (by kernel_rfl)))
    exact hg
  by_cases hi : imagesC L = 0
  · have ht : tw < 1 ∨ 4096 < tw ∨ th < 1 ∨ 4096 < th := Classical.byContradiction fun k => hk (by unfold storeC; rw [if_neg (fun q => q hi), if_neg k])
    have e : storeC L tw th = 10 := by unfold storeC; rw [if_neg (fun k => k hi), if_pos ht]
    (repeat' (first | (refine xI (fun hfk => ?_) (fun hfk => ?_) <;> ((try (first | replace hfk := oT hfk | replace hfk := oF hfk | simp only [oD, ne_eq, reduceCtorEq] at hfk)); (try exact oX))) | (refine And.intro ?ob ?_; (case ob => (exact oZ))) | exact True.intro | (show _ = _; first | exact oY | (exact e.symm; done) | exact rfl) | exact oW | (apply And.intro)))
  · have e : storeC L tw th = imagesC L := if_pos hi
    (repeat' (first | (refine xI (fun hfk => ?_) (fun hfk => ?_) <;> ((try (first | replace hfk := oT hfk | replace hfk := oF hfk | simp only [oD, ne_eq, reduceCtorEq] at hfk)); (try exact oX))) | (refine And.intro ?ob ?_; (case ob => (exact oZ))) | exact True.intro | (show _ = _; first | exact oY | (exact e.symm; done) | exact rfl) | exact oW | (apply And.intro)))
abbrev sNK (f : Int → AV) : PSpec := fun l => match l with | [.nilp, .int .i64 k] => some ([], f k) | _ => none
abbrev levelsN : PSpec := fun l => match l with | [.nilp] => some ([], .int .i64 0) | _ => none
theorem levelsN_s : SOK Try.prog 63 levelsN := by
  refine sok_of (C := mkC 0 [] noG) (mkC_ok pok_nil noG_ok) rfl mixed ⟨Try.func63, by kernel_rfl, by kernel_rfl, by kernel_rfl⟩ fun l obs v h ho => ?_
  unfold levelsN at h
  split at h <;> cases h
  refine ⟨Nat.le_of_ble_eq_true rfl, ?_⟩
  (repeat' (first | (refine xI (fun hfk => ?_) (fun hfk => ?_) <;> ((try (first | replace hfk := oT hfk | replace hfk := oF hfk | simp only [oD, ne_eq, reduceCtorEq] at hfk)); (try exact oX))) | (refine And.intro ?ob ?_; (case ob => (exact oZ))) | exact True.intro | (show _ = _; first | exact oY | exact rfl) | exact oW | (apply And.intro)))
theorem isN_s : SOK Try.prog 85 (sNK fun _ => .bool false) := by
  refine sok_of (C := mkC 0 [(63, levelsN)] noG) (mkC_ok (pok_cons levelsN_s pok_nil) noG_ok) rfl mixed ⟨Try.func85, by kernel_rfl, by kernel_rfl, by kernel_rfl⟩ fun l obs v h ho => ?_
  (unfold sNK at h; split at h; rotate_left; (focus (cases h)); rename_i k; simp only [Option.some.injEq, Prod.mk.injEq] at h; obtain ⟨rfl, rfl⟩ := h; simp only [List.mem_cons, List.not_mem_nil, or_false, forall_eq_or_imp, forall_eq, false_implies, implies_true] at ho)
  refine ⟨Nat.le_of_ble_eq_true rfl, ?_⟩
  by_cases h0 : 0 ≤ k
  · have e : decide (k < 0) = false := decide_eq_false (by omega)
    (repeat' (first | (refine xI (fun hfk => ?_) (fun hfk => ?_) <;> ((try (first | replace hfk := oT hfk | replace hfk := oF hfk | simp only [oD, ne_eq, reduceCtorEq] at hfk)); (try exact oX))) | (refine And.intro ?ob ?_; (case ob => (exact oZ))) | exact True.intro | (show _ = _; first | exact oY | (exact e; done) | exact rfl) | exact oW | (apply And.intro)))
  · (repeat' (first | (refine xI (fun hfk => ?_) (fun hfk => ?_) <;> ((try (first | replace hfk := oT hfk | replace hfk := oF hfk | simp only [oD, ne_eq, reduceCtorEq] at hfk)); (try exact oX))) | (refine And.intro ?ob ?_; (case ob => (exact oZ))) | exact True.intro | (show _ = _; first | exact oY | exact rfl) | exact oW | (apply And.intro)))
theorem gridN_s : SOK Try.prog 65 (sNK fun _ => R4.zero.av) := by
  refine sok_of (C := mkC 0 [(85, sNK fun _ => .bool false)] noG) (mkC_ok (pok_cons isN_s pok_nil) noG_ok) rfl mixed ⟨Try.func65, by kernel_rfl, by kernel_rfl, by kernel_rfl⟩ fun l obs v h ho => ?_
  (unfold sNK at h; split at h; rotate_left; (focus (cases h)); rename_i k; simp only [Option.some.injEq, Prod.mk.injEq] at h; obtain ⟨rfl, rfl⟩ := h; simp only [List.mem_cons, List.not_mem_nil, or_false, forall_eq_or_imp, forall_eq, false_implies, implies_true] at ho)
  refine ⟨Nat.le_of_ble_eq_true rfl, ?_⟩
  (repeat' (first | (refine xI (fun hfk => ?_) (fun hfk => ?_) <;> ((try (first | replace hfk := oT hfk | replace hfk := oF hfk | simp only [oD, ne_eq, reduceCtorEq] at hfk)); (try exact oX))) | (refine And.intro ?ob ?_; (case ob => (exact oZ))) | exact True.intro | (show _ = _; first | exact oY | exact rfl) | exact oW | (apply And.intro)))
end Go.Proofs.Ytgbekbofeaoniaa
namespace Go.Proofs.Ytgbekbofeaoniaa
open Go Go.RowKit
theorem lenOK_of {L : List Im} {r : List AV} {W : World} {cl : List Value} (hc : CRel noN W NoO (imsA L :: r) cl) : LenOK L.length := by
  obtain ⟨h1, h2⟩ := hc
  cases cl with
  | nil => simp at h1
  | cons v cl =>
    have h : Rep noN W NoO (.ro 4 L.length (fun j => (L.getD j Im.z).av)) v := h2 0 _ v rfl rfl
    revert h
    generalize L.length = n
    generalize (fun j => (L.getD j Im.z).av) = get
    intro h
    cases h with
    | ronil => exact ⟨by omega⟩
    | roz => exact ⟨by omega⟩
    | ro _ _ _ b off c vals hn2 hc2 => exact ⟨by unfold maxLen at hc2; omega⟩
end Go.Proofs.Ytgbekbofeaoniaa
namespace Go.Proofs.Ytgbekbofeaoniaa
open Go Go.RowKit
def cropN (c : Int) (r : R4) : Nat := ((r.x1 - r.x0) * c).toNat
def cropP (w c : Int) (r : R4) (k : Nat) : Nat := (((r.y0 + k) * w + r.x0) * c).toNat
def cropL (w c : Int) (p : List Int) (r : R4) : Nat → List Int
  | 0 => []
  | k + 1 => cropL w c p r k ++ (p.take (cropP w c r k + cropN c r)).drop (cropP w c r k)
structure CropOK (w h c : Int) (p : List Int) (r : R4) : Prop where
  i : imCheck w h c p.length = 0
  f : fitsI w h c = 0
  l : (p.length : Int) = w * h * c
  e : r.empty = false
  s : r.inside ⟨0, 0, w, h⟩ = true
  b : 0 ≤ r.x0 ∧ r.x0 < r.x1 ∧ r.x1 ≤ w ∧ 0 ≤ r.y0 ∧ r.y0 < r.y1 ∧ r.y1 ≤ h
  m : r.rboth ⟨0, 0, w, h⟩ = r
  a : r.rarea ≠ 0
theorem CropOK.row {w h c : Int} {p : List Int} {r : R4} (H : CropOK w h c p r) {k : Nat} (hk : (k : Int) < r.y1 - r.y0) :
    inI w h c r.x0 (r.y0 + k) 0 = true ∧ inI w h c (r.x1 - 1) (r.y0 + k) 0 = true ∧ plI w c r.x0 (r.y0 + k) 0 = (cropP w c r k : Int) ∧ plI w c (r.x1 - 1) (r.y0 + k) 0 + c = (cropP w c r k + cropN c r : Nat) ∧ cropP w c r k + cropN c r ≤ p.length ∧ (r.x1 - r.x0) * c = (cropN c r : Int) := by
  have b := H.b
  have y := fits_inv H.f
  have i1 : inI w h c r.x0 (r.y0 + k) 0 = true := by simp [inI]; omega
  have i2 : inI w h c (r.x1 - 1) (r.y0 + k) 0 = true := by simp [inI]; omega
  have p1 := pl_bd H.f i1
  have p2 := pl_bd H.f i2
  have e0 : 0 ≤ (r.x1 - r.x0) * c := Int.mul_nonneg (by omega) (by omega)
  have e1 : (cropN c r : Int) = (r.x1 - r.x0) * c := by unfold cropN; omega
  have e2 : (cropP w c r k : Int) = ((r.y0 + k) * w + r.x0) * c := by unfold cropP; omega
  have q : plI w c (r.x1 - 1) (r.y0 + k) 0 + c = plI w c r.x0 (r.y0 + k) 0 + (r.x1 - r.x0) * c := by
    unfold plI
    simp only [Int.sub_mul, Int.add_mul, Int.one_mul]; omega
  have e3 : plI w c r.x0 (r.y0 + k) 0 = ((r.y0 + k) * w + r.x0) * c := by unfold plI; omega
  have l := H.l
  refine ⟨i1, i2, by rw [e2, e3], by omega, ?_, e1.symm⟩
  have p3 : (plI w c (r.x1 - 1) (r.y0 + k) 0) + c ≤ w * h * c := by
    have e4 : plI w c (r.x1 - 1) (r.y0 + k) 0 = ((r.y0 + k) * w + (r.x1 - 1)) * c := by unfold plI; omega
    have : ((r.y0 + k) * w + (r.x1 - 1) + 1) * c ≤ w * h * c := Int.mul_le_mul_of_nonneg_right (by omega) (by omega)
    rw [Int.add_mul _ 1, Int.one_mul] at this
    omega
  omega
theorem CropOK.len {w h c : Int} {p : List Int} {r : R4} (H : CropOK w h c p r) : ∀ k : Nat, (k : Int) ≤ r.y1 - r.y0 → (cropL w c p r k).length = k * cropN c r
  | 0, _ => by simp [cropL]
  | k + 1, hk => by
    have ih := H.len k (by omega)
    have rw1 := H.row (k := k) (by omega)
    simp only [cropL, List.length_append, ih, List.length_drop, List.length_take, Nat.add_mul, Nat.one_mul]
    omega
end Go.Proofs.Ytgbekbofeaoniaa
namespace Go.Proofs.Ytgbekbofeaoniaa
open Go Go.RowKit
theorem gcount_zero : gcount R4.zero = 0 := by decide
theorem gis_in {L : List Im} {tw th k i : Int} (h : gis (stG L tw th k) i = true) : inL L k = true := by
  cases hk : inL L k with
  | true => rfl
  | false =>
    rw [stG_out hk] at h
    unfold gis at h
    rw [gcount_zero] at h
    simp only [Bool.and_eq_true, decide_eq_true_eq] at h
    omega
theorem gis_out {g : R4} {i : Int} (h : gis g i = false) : gtile g i = R4.zero := by
  unfold gtile
  rw [if_neg]
  intro k
  unfold gis at h
  rw [decide_eq_true k.1, decide_eq_true k.2] at h
  cases h
theorem gis_iff {g : R4} {i : Int} : gis g i = true ↔ 0 ≤ i ∧ i < gcount g := by simp [gis]
end Go.Proofs.Ytgbekbofeaoniaa
namespace Go.Proofs.Ytgbekbofeaoniaa
open Go Go.RowKit
theorem gis_zero (i : Int) : gis R4.zero i = false := by
  cases h : gis R4.zero i with
  | false => rfl
  | true => have := gis_iff.1 h; rw [gcount_zero] at this; omega
abbrev sNT (v : AV) : PSpec := fun l => match l with | [.nilp, .agg [.int .i64 k, .int .i64 i]] => some ([], v) | _ => none
theorem placeN_s : SOK Try.prog 31 (sNT (.tup [R4.zero.av, .bool false])) := by
  refine sok_of (C := mkC 0 [(65, sNK fun _ => R4.zero.av), (64, sRI fun g i => .tup [(gtile g i).av, .bool (gis g i)])] noG) (mkC_ok (pok_cons gridN_s (pok_cons gtile_s pok_nil)) noG_ok) rfl mixed ⟨Try.func31, by kernel_rfl, by kernel_rfl, by kernel_rfl⟩ fun l obs v h ho => ?_
  (unfold sNT at h; split at h; rotate_left; (focus (cases h)); rename_i k i; simp only [Option.some.injEq, Prod.mk.injEq] at h; obtain ⟨rfl, rfl⟩ := h; simp only [List.mem_cons, List.not_mem_nil, or_false, forall_eq_or_imp, forall_eq, false_implies, implies_true] at ho)
  refine ⟨Nat.le_of_ble_eq_true rfl, ?_⟩
  have e := gis_zero i
  have e1 := gis_out e
  have x0 : (gtile R4.zero i).x0 = 0 := by rw [e1]; rfl
  have x1 : (gtile R4.zero i).x1 = 0 := by rw [e1]; rfl
  have x2 : (gtile R4.zero i).y0 = 0 := by rw [e1]; rfl
  have x3 : (gtile R4.zero i).y1 = 0 := by rw [e1]; rfl
  (repeat' (first | (refine xI (fun hfk => ?_) (fun hfk => ?_) <;> ((try (first | replace hfk := oT hfk | replace hfk := oF hfk | simp only [oD, ne_eq, reduceCtorEq] at hfk)); (try exact oX))) | (refine And.intro ?ob ?_; (case ob => (exact oZ))) | exact True.intro | (show _ = _; first | exact oY | ((first | exact e | exact x0 | exact x1 | exact x2 | exact x3); done) | exact rfl) | exact oW | (apply And.intro)))
end Go.Proofs.Ytgbekbofeaoniaa
namespace Go.Proofs.Ytgbekbofeaoniaa
open Go Go.RowKit
def farV (L : List Im) (tw th x y : Int) (t : Tl) : Int := apV (gtile (stG L tw th t.level) t.i) ((cutI x).fdiv (2 ^ t.level.toNat)) ((cutI y).fdiv (2 ^ t.level.toNat))
abbrev atT (A : List Tl) (k : Nat) : Tl := A.getD k Tl.z
def arrV (L : List Im) (tw th x y : Int) (A : List Tl) : Nat → List It
  | 0 => []
  | k + 1 => if gis (stG L tw th (atT A k).level) (atT A k).i = true then arrV L tw th x y A k ++ [⟨(atT A k).level, (atT A k).i, farV L tw th x y (atT A k), (arrV L tw th x y A k).length⟩] else arrV L tw th x y A k
theorem arr_yes {L : List Im} {tw th x y : Int} {A : List Tl} {k : Nat} (h : gis (stG L tw th (atT A k).level) (atT A k).i = true) : arrV L tw th x y A (k + 1) = arrV L tw th x y A k ++ [⟨(atT A k).level, (atT A k).i, farV L tw th x y (atT A k), (arrV L tw th x y A k).length⟩] := if_pos h
theorem arr_no {L : List Im} {tw th x y : Int} {A : List Tl} {k : Nat} (h : gis (stG L tw th (atT A k).level) (atT A k).i = false) : arrV L tw th x y A (k + 1) = arrV L tw th x y A k := if_neg (by rw [h]; decide)
theorem arr_len (L : List Im) (tw th x y : Int) (A : List Tl) : ∀ k, (arrV L tw th x y A k).length ≤ k
  | 0 => Nat.le_refl _
  | k + 1 => by
    have ih := arr_len L tw th x y A k
    cases h : gis (stG L tw th (atT A k).level) (atT A k).i with
    | true => rw [arr_yes h, List.length_append]; exact Nat.succ_le_succ ih
    | false => rw [arr_no h]; omega
theorem shr_lv {a lv : Int} (h0 : 0 ≤ lv) (h1 : lv ≤ 6) : a.fdiv (2 ^ min (IntKind.u64.wrap lv).toNat IntKind.i64.bits) = a.fdiv (2 ^ lv.toNat) := by
  have e : IntKind.u64.wrap lv = lv := wrap_rng ⟨by show (0 : Int) ≤ _; omega, by show _ ≤ (18446744073709551615 : Int); omega⟩
  have hm : min lv.toNat IntKind.i64.bits = lv.toNat := Nat.min_eq_left (by
    show lv.toNat ≤ 64
    omega)
  rw [e, hm]
def orderF (L : List Im) (A : List Tl) : FSpec := fun l es => match l, es with
  | [.rop (.agg [.ro 4 n get, .int .i64 tw, .int .i64 th, .int .i64 c]), .ro 2 m f, .int .i64 x, .int .i64 y], [] =>
    some ([n = L.length, get = fun j => (Lm L j).av, L.length ≤ 6, m = A.length, f = fun j => (A.getD j Tl.z).av, A.length ≤ 40], .sl 0 2 0 (selA (arrV L tw th x y A A.length)).length, [some (.recs 62 2 (selA (arrV L tw th x y A A.length)).length (tlG (selA (arrV L tw th x y A A.length))))])
  | _, _ => none
theorem tlG_snoc {O : List It} {x : It} {F : Nat → AV} (hF : F 0 = .agg [.int .i64 x.l, .int .i64 x.i]) {j : Nat} (h : j < O.length + 1) : (if j < O.length then tlG O j else F (j - O.length)) = tlG (O ++ [x]) j := by
  show _ = AV.agg [.int .i64 ((O ++ [x]).getD j It.z).l, .int .i64 ((O ++ [x]).getD j It.z).i]
  by_cases c : j < O.length
  · rw [if_pos c, List.getD_eq_getElem?_getD, List.getElem?_append_left c, ← List.getD_eq_getElem?_getD]
  · rw [if_neg c, show j = O.length by omega, List.getD_eq_getElem?_getD, List.getElem?_append_right (Nat.le_refl _), Nat.sub_self]
    exact hF
attribute [local irreducible] swapL qrL popL popX pushL fstV selA cutI arrV farV apV gis gtile stG
theorem order_g (L : List Im) (A : List Tl) : GSOK Try.prog 43 (fG (orderF L A)) := by
  refine fokI (S := [(31, placeS41 L), (70, cutQ), (41, apS)])
      (G := glook [(34, fG qnewF), (35, fG qpushF), (36, gdq (fG qpopF) (fG qpop0F))]) [] [] [] [6, 8, 11, 14, 13]
    (pok_cons (place41_s L) (pok_cons qcut_s (pok_cons apart_s pok_nil))) (gl_cons qnew_g (gl_cons qpush_g (gl_cons qpop_d gl_nil))) dl_nil mok_nil ⟨Try.func43, by kernel_rfl, by kernel_rfl, by kernel_rfl⟩ fun l es obs v es' h ho => ?_
  unfold orderF at h
  split at h
  rotate_left
  · cases h
  rename_i n get tw th c m f x y
  simp only [Option.some.injEq, Prod.mk.injEq] at h
  obtain ⟨rfl, rfl, rfl⟩ := h
  simp only [List.mem_cons, List.not_mem_nil, or_false, forall_eq_or_imp, forall_eq] at ho
  obtain ⟨rfl, rfl, l6, rfl, rfl, a40⟩ := ho
  refine ⟨Nat.le_of_ble_eq_true rfl, ?_⟩
  (repeat' (first | (refine xI (fun hfk => ?_) (fun hfk => ?_) <;> ((try (first | replace hfk := oT hfk | replace hfk := oF hfk | simp only [oD, ne_eq, reduceCtorEq] at hfk)); (try exact oX))) | (refine And.intro ?ob ?_; (case ob => (exact oZ))) | exact True.intro | (show _ = _; first | exact oY | exact rfl) | exact oW | (apply And.intro)))
  (refine ⟨[], ⟨by kernel_rfl⟩, ?_⟩)
  (repeat' (first | (refine xI (fun hfk => ?_) (fun hfk => ?_) <;> ((try (first | replace hfk := oT hfk | replace hfk := oF hfk | simp only [oD, ne_eq, reduceCtorEq] at hfk)); (try exact oX))) | (refine And.intro ?ob ?_; (case ob => (exact oZ))) | exact True.intro | (show _ = _; first | exact oY | exact rfl) | exact oW | (apply And.intro)))
  refine ⟨Nat × List It, fun g => [(0, .rop (.agg [.ro 4 L.length (fun j => (Lm L j).av), .int .i64 tw, .int .i64 th, .int .i64 c])), (1, TlA A), (2, .int .i64 x), (3, .int .i64 y), (9, .ptr 0 0), (10, .fn 35 1 [.ptr 0 0]), (22, TlA A), (23, .int .i64 (A.length : Int)), (24, .int .i64 (g.1 : Int))],
    fun g => ⟨2, [(0, some (.cells 76 [.sl 1 4 0 g.2.length, .int .i64 ((arrV L tw th x y A g.1).length : Int)])), (1, some (rowE g.2))]⟩,
    fun g => g.1 ≤ A.length ∧ QI g.2 (arrV L tw th x y A g.1) (arrV L tw th x y A g.1).length, fun g => A.length - g.1, ⟨(0, []), [some 0, none], ⟨Nat.zero_le _, by unfold arrV; exact qi_nil 0⟩, ?_⟩, fun g hg => ?_⟩
  · have a0 : (arrV L tw th x y A 0).length = 0 := by unfold arrV; rfl
    (repeat' (first | (refine And.intro ?_ ?_) | exact True.intro | (show _ = _; with_reducible rfl) | exact Chk.mk (by kernel_rfl)))
    all_goals first | rfl | (exact fun _ _ => rfl) | (rw [a0]; rfl)
  obtain ⟨k, Q⟩ := g
  obtain ⟨k1, hq⟩ := hg
  have k1 : k ≤ A.length := k1
  have hq : QI Q (arrV L tw th x y A k) (arrV L tw th x y A k).length := hq
  have nl := arr_len L tw th x y A k
  have hQl := qi_len hq
  have rQ := rowp Q
  dsimp only
  by_cases hlt : k < A.length
  · obtain ⟨l, hl⟩ : ∃ l, (atT A k).level = l := ⟨_, rfl⟩
    obtain ⟨i, hi⟩ : ∃ i, (atT A k).i = i := ⟨_, rfl⟩
    obtain ⟨r, hr⟩ : ∃ r, gtile (stG L tw th l) i = r := ⟨_, rfl⟩
    obtain ⟨is, his⟩ : ∃ is, gis (stG L tw th l) i = is := ⟨_, rfl⟩
    have hr' : gtile (stG L tw th (atT A k).level) (atT A k).i = r := by rw [hl, hi]; exact hr
    have his' : gis (stG L tw th (atT A k).level) (atT A k).i = is := by rw [hl, hi]; exact his
    (repeat' (first | (refine xI (fun hfk => ?_) (fun hfk => ?_) <;> ((try (first | replace hfk := oT hfk | replace hfk := oF hfk | simp only [oD, ne_eq, reduceCtorEq] at hfk)); (try exact oX))) | (refine And.intro ?ob ?_; (case ob => (exact oZ))) | exact True.intro | (show _ = _; first | exact oY | exact rfl) | exact oW | (apply And.intro)))
    refine ⟨[(0, .rop (.agg [.ro 4 L.length (fun j => (Lm L j).av), .int .i64 tw, .int .i64 th, .int .i64 c])), (1, TlA A), (2, .int .i64 x), (3, .int .i64 y), (9, .ptr 0 0), (10, .fn 35 1 [.ptr 0 0]), (12, .ptr 2 0), (13, .ptr 3 0), (14, .bool is), (22, TlA A), (23, .int .i64 (A.length : Int)), (24, .int .i64 (k : Int))],
      ⟨4, [(0, some (.cells 76 [.sl 1 4 0 Q.length, .int .i64 ((arrV L tw th x y A k).length : Int)])), (1, some (rowE Q)), (2, some (.cells 62 [.int .i64 l, .int .i64 i])), (3, some (.cells 64 [.int .i64 r.x0, .int .i64 r.y0, .int .i64 r.x1, .int .i64 r.y1]))]⟩, [some 0, some 1, some 2, some 3], ?_, ?_⟩
    · (repeat' (first | (refine And.intro ?_ ?_) | exact True.intro | (show _ = _; with_reducible rfl) | exact Chk.mk (by kernel_rfl)))
      all_goals first | rfl | exact hl | exact hi | exact his' | exact congrArg R4.x0 hr' | exact congrArg R4.y0 hr' | exact congrArg R4.x1 hr' | exact congrArg R4.y1 hr' | (exact fun _ _ => rfl)
    cases is with
    | false =>
      (repeat' (first | (refine xI (fun hfk => ?_) (fun hfk => ?_) <;> ((try (first | replace hfk := oT hfk | replace hfk := oF hfk | simp only [oD, ne_eq, reduceCtorEq] at hfk)); (try exact oX))) | (refine And.intro ?ob ?_; (case ob => (exact oZ))) | exact True.intro | (show _ = _; first | exact oY | exact rfl) | exact oW | (apply And.intro)))
      refine ⟨(k + 1, Q), [some 0, some 1], ⟨hlt, by rw [arr_no his']; exact hq⟩, ?mu, ?_⟩
      case mu => (show A.length - (k + 1) < A.length - k; omega)
      have an : ((arrV L tw th x y A (k + 1)).length : Int) = ((arrV L tw th x y A k).length : Int) := by rw [arr_no his']
      (repeat' (first | (refine And.intro ?_ ?_) | exact True.intro | (show _ = _; with_reducible rfl) | exact Chk.mk (by kernel_rfl)))
      all_goals first | rfl | (exact fun _ _ => rfl) | exact an.symm | (show (_ : Int) = _; omega)
    | true =>
      obtain ⟨l0, l1⟩ := inL_iff.1 (gis_in his)
      have ay := arr_yes (x := x) (y := y) his'
      obtain ⟨N, hN⟩ : ∃ N, arrV L tw th x y A k = N := ⟨_, rfl⟩
      rw [hN] at ay hq nl hQl ⊢
      have hlv : 0 ≤ l ∧ l ≤ 6 := ⟨l0, by omega⟩
      have sh0 : 0 ≤ IntKind.u64.wrap l := by
        rw [wrap_rng ⟨by show (0 : Int) ≤ _; omega, by show _ ≤ (18446744073709551615 : Int); omega⟩]
        exact l0
      have ex : ((cutI x).fdiv (2 ^ min (IntKind.u64.wrap l).toNat IntKind.i64.bits)) = (cutI x).fdiv (2 ^ l.toNat) := shr_lv hlv.1 hlv.2
      have ey : ((cutI y).fdiv (2 ^ min (IntKind.u64.wrap l).toNat IntKind.i64.bits)) = (cutI y).fdiv (2 ^ l.toNat) := shr_lv hlv.1 hlv.2
      obtain ⟨p, hp⟩ : ∃ p, farV L tw th x y (atT A k) = p := ⟨_, rfl⟩
      have ep : apV r ((cutI x).fdiv (2 ^ min (IntKind.u64.wrap l).toNat IntKind.i64.bits)) ((cutI y).fdiv (2 ^ min (IntKind.u64.wrap l).toNat IntKind.i64.bits)) = p := by
        rw [ex, ey, ← hp]
        unfold farV
        rw [hl, hi, hr]
      rw [hl, hi, hp] at ay
      obtain ⟨Q', hQ'⟩ : ∃ Q', pushL Q ⟨l, i, p, N.length⟩ = Q' := ⟨_, rfl⟩
      have hq' := qi_push hq l i p
      rw [hQ'] at hq'
      have lQ : Q'.length = Q.length + 1 := by rw [← hQ', pushL_len]
      have eQ : pushL (qrL Q.length (rowG Q)) ⟨l, i, apV r ((cutI x).fdiv (2 ^ min (IntKind.u64.wrap l).toNat IntKind.i64.bits)) ((cutI y).fdiv (2 ^ min (IntKind.u64.wrap l).toNat IntKind.i64.bits)), N.length⟩ = Q' := by rw [qrL_row, ep]; exact hQ'
      have an : (arrV L tw th x y A (k + 1)).length = N.length + 1 := by rw [ay, List.length_append]; rfl
      (repeat' (first | (refine xI (fun hfk => ?_) (fun hfk => ?_) <;> ((try (first | replace hfk := oT hfk | replace hfk := oF hfk | simp only [oD, ne_eq, reduceCtorEq] at hfk)); (try exact oX))) | (refine And.intro ?ob ?_; (case ob => (exact oZ))) | exact True.intro | (show _ = _; first | exact oY | (first | exact sh0 | skip; done) | exact rfl) | exact oW | (apply And.intro)))
      (refine ⟨[0, 1], ⟨by kernel_rfl⟩, ?_⟩)
      (repeat' (first | (refine xI (fun hfk => ?_) (fun hfk => ?_) <;> ((try (first | replace hfk := oT hfk | replace hfk := oF hfk | simp only [oD, ne_eq, reduceCtorEq] at hfk)); (try exact oX))) | (refine And.intro ?ob ?_; (case ob => (exact oZ))) | exact True.intro | (show _ = _; first | exact oY | (first | exact rQ | skip; done) | exact rfl) | exact oW | (apply And.intro)))
      refine ⟨[(0, .rop (.agg [.ro 4 L.length (fun j => (Lm L j).av), .int .i64 tw, .int .i64 th, .int .i64 c])), (1, TlA A), (2, .int .i64 x), (3, .int .i64 y), (9, .ptr 0 0), (10, .fn 35 1 [.ptr 0 0]), (22, TlA A), (23, .int .i64 (A.length : Int)), (24, .int .i64 (k : Int))],
        ⟨2, [(0, some (.cells 76 [.sl 1 4 0 Q'.length, .int .i64 ((N.length : Int) + 1)])), (1, some (rowE Q'))]⟩, [some 0, some 4], ?_, ?_⟩
      · (repeat' (first | (refine And.intro ?_ ?_) | exact True.intro | (show _ = _; with_reducible rfl) | exact Chk.mk (by kernel_rfl)))
        all_goals first | rfl | exact lQ.symm | (exact fun j _ => congrArg (fun L => rowG L j) eQ) | (exact fun _ _ => rfl)
      clear ex ey ep eQ
      (repeat' (first | (refine xI (fun hfk => ?_) (fun hfk => ?_) <;> ((try (first | replace hfk := oT hfk | replace hfk := oF hfk | simp only [oD, ne_eq, reduceCtorEq] at hfk)); (try exact oX))) | (refine And.intro ?ob ?_; (case ob => (exact oZ))) | exact True.intro | (show _ = _; first | exact oY | exact rfl) | exact oW | (apply And.intro)))
      refine ⟨(k + 1, Q'), [some 0, some 1], ⟨hlt, by rw [an, ay]; exact hq'⟩, ?mu, ?_⟩
      case mu => (show A.length - (k + 1) < A.length - k; omega)
      have an' : ((arrV L tw th x y A (k + 1)).length : Int) = (N.length : Int) + 1 := by rw [an]; rfl
      (repeat' (first | (refine And.intro ?_ ?_) | exact True.intro | (show _ = _; with_reducible rfl) | exact Chk.mk (by kernel_rfl)))
      all_goals first | rfl | (exact fun _ _ => rfl) | exact an'.symm | (show (_ : Int) = _; omega)
  · obtain rfl : k = A.length := by omega
    have n40 : (arrV L tw th x y A A.length).length ≤ 40 := Nat.le_trans nl a40
    obtain ⟨N, hN⟩ : ∃ N, arrV L tw th x y A A.length = N := ⟨_, rfl⟩
    rw [hN] at hq hQl nl n40 ⊢
    by_cases h0 : Q.length = 0
    · obtain rfl : Q = [] := List.eq_nil_of_length_eq_zero h0
      obtain rfl : N = [] := List.eq_nil_of_length_eq_zero (by rw [← hQl]; rfl)
      (repeat' (first | (refine xI (fun hfk => ?_) (fun hfk => ?_) <;> ((try (first | replace hfk := oT hfk | replace hfk := oF hfk | simp only [oD, ne_eq, reduceCtorEq] at hfk)); (try exact oX))) | (refine And.intro ?ob ?_; (case ob => (exact oZ))) | exact True.intro | (show _ = _; first | exact oY | exact rfl) | exact oW | (apply And.intro)))
      right
      (refine ⟨[0, 1], ⟨by kernel_rfl⟩, ?_⟩)
      (repeat' (first | (refine xI (fun hfk => ?_) (fun hfk => ?_) <;> ((try (first | replace hfk := oT hfk | replace hfk := oF hfk | simp only [oD, ne_eq, reduceCtorEq] at hfk)); (try exact oX))) | (refine And.intro ?ob ?_; (case ob => (exact oZ))) | exact True.intro | (show _ = _; first | exact oY | (first | exact rQ | skip; done) | exact rfl) | exact oW | (apply And.intro)))
      refine ⟨[(9, .ptr 0 0), (15, .nils), (16, .ptr 2 0), (18, .fls)], ⟨3, [(0, some (.cells 76 [.sl 1 4 0 0, .int .i64 0])), (1, some (rowE [])), (2, some (.cells 62 [.int .i64 0, .int .i64 0]))]⟩, [some 0, some 1, some 2], ?_, ?_⟩
      · (repeat' (first | (refine And.intro ?_ ?_) | exact True.intro | (show _ = _; with_reducible rfl) | exact Chk.mk (by kernel_rfl)))
        all_goals first | rfl | (exact fun _ _ => rfl)
      (repeat' (first | (refine xI (fun hfk => ?_) (fun hfk => ?_) <;> ((try (first | replace hfk := oT hfk | replace hfk := oF hfk | simp only [oD, ne_eq, reduceCtorEq] at hfk)); (try exact oX))) | (refine And.intro ?ob ?_; (case ob => (exact oZ))) | exact True.intro | (show _ = _; first | exact oY | exact rfl) | exact oW | (apply And.intro)))
      refine ⟨Unit, fun i => [(9, .ptr 0 0), (15, .nils), (16, .ptr 2 0), (18, .fls)],
        fun i => ⟨3, [(0, some (.cells 76 [.sl 1 4 0 0, .int .i64 0])), (1, some (rowE [])), (2, some (.cells 62 [.int .i64 0, .int .i64 0]))]⟩,
        fun i => True, fun i => 0, ⟨(), [some 0, some 1, some 2], True.intro, ?_⟩, fun i hi => ?_⟩
      · (repeat' (first | (refine And.intro ?_ ?_) | exact True.intro | (show _ = _; with_reducible rfl) | exact Chk.mk (by kernel_rfl)))
        all_goals first | rfl | (exact fun _ _ => rfl)
      (repeat' (first | (refine xI (fun hfk => ?_) (fun hfk => ?_) <;> ((try (first | replace hfk := oT hfk | replace hfk := oF hfk | simp only [oD, ne_eq, reduceCtorEq] at hfk)); (try exact oX))) | (refine And.intro ?ob ?_; (case ob => (exact oZ))) | exact True.intro | (show _ = _; first | exact oY | exact rfl) | exact oW | (apply And.intro)))
      have e0 : (selA []).length = 0 := selA_len 0 [] rfl
      refine ⟨[none], ?_⟩
      (repeat' (first | (refine And.intro ?_ ?_) | exact True.intro | (show _ = _; with_reducible rfl) | exact Chk.mk (by kernel_rfl)))
      all_goals first | rfl | exact e0
    · have Q0 : 0 < Q.length := by omega
      have N0 : 0 < N.length := by omega
      obtain ⟨k1, k2, k3⟩ := qi_pop hq Q0 (fstN N) rfl
      obtain ⟨Q', hQ'⟩ : ∃ Q', popL Q = Q' := ⟨_, rfl⟩
      obtain ⟨N', hN'⟩ : ∃ N', N.eraseIdx (fstN N) = N' := ⟨_, rfl⟩
      obtain ⟨cur, hcur⟩ : ∃ cur, atL N (fstN N) = cur := ⟨_, rfl⟩
      have hT := selA_step N0
      rw [hQ', hN'] at k3
      rw [hN', hcur] at hT
      have lQ : Q'.length = Q.length - 1 := by rw [← hQ', popL_len]
      have lN : N'.length = N.length - 1 := by rw [← hN', List.length_eraseIdx, if_pos k1]
      have eL : popL (qrL Q.length (rowG Q)) = Q' := by rw [qrL_row]; exact hQ'
      have eX : popX (qrL Q.length (rowG Q)) = cur := by rw [qrL_row, k2]; exact hcur
      (repeat' (first | (refine xI (fun hfk => ?_) (fun hfk => ?_) <;> ((try (first | replace hfk := oT hfk | replace hfk := oF hfk | simp only [oD, ne_eq, reduceCtorEq] at hfk)); (try exact oX))) | (refine And.intro ?ob ?_; (case ob => (exact oZ))) | exact True.intro | (show _ = _; first | exact oY | exact rfl) | exact oW | (apply And.intro)))
      left
      (refine ⟨[0, 1], ⟨by kernel_rfl⟩, ?_⟩)
      (repeat' (first | (refine xI (fun hfk => ?_) (fun hfk => ?_) <;> ((try (first | replace hfk := oT hfk | replace hfk := oF hfk | simp only [oD, ne_eq, reduceCtorEq] at hfk)); (try exact oX))) | (refine And.intro ?ob ?_; (case ob => (exact oZ))) | exact True.intro | (show _ = _; first | exact oY | (first | exact rQ | skip; done) | exact rfl) | exact oW | (apply And.intro)))
      refine ⟨[(9, .ptr 0 0), (15, .nils), (16, .ptr 2 0), (18, .tru)], ⟨3, [(0, some (.cells 76 [.sl 1 4 0 Q'.length, .int .i64 (N.length : Int)])), (1, some (rowE Q')), (2, some (.cells 62 [.int .i64 cur.l, .int .i64 cur.i]))]⟩, [some 0, some 1, some 2], ?_, ?_⟩
      · (repeat' (first | (refine And.intro ?_ ?_) | exact True.intro | (show _ = _; with_reducible rfl) | exact Chk.mk (by kernel_rfl)))
        all_goals first | rfl | exact lQ.symm | (exact congrArg It.l eX) | (exact congrArg It.i eX) | (exact fun j _ => congrArg (fun L => rowG L j) eL) | (exact fun _ _ => rfl)
      clear eX eL
      clear hQ' hN' hcur k1 k2 hq hQl rQ Q0 h0
      (repeat' (first | (refine xI (fun hfk => ?_) (fun hfk => ?_) <;> ((try (first | replace hfk := oT hfk | replace hfk := oF hfk | simp only [oD, ne_eq, reduceCtorEq] at hfk)); (try exact oX))) | (refine And.intro ?ob ?_; (case ob => (exact oZ))) | exact True.intro | (show _ = _; first | exact oY | exact rfl) | exact oW | (apply And.intro)))
      refine ⟨List It × List It × List It × It × Bool, fun g => [(9, .ptr 0 0), (15, .sl 2 2 0 g.2.2.1.length), (16, .ptr 3 0), (18, .bool g.2.2.2.2)],
        fun g => ⟨4, [(0, some (.cells 76 [.sl 1 4 0 g.1.length, .int .i64 (N.length : Int)])), (1, some (rowE g.1)), (2, some (.recs 62 2 g.2.2.1.length (tlG g.2.2.1))), (3, some (.cells 62 [.int .i64 g.2.2.2.1.l, .int .i64 g.2.2.2.1.i]))]⟩,
        fun g => QI g.1 g.2.1 N.length ∧ g.2.1.length + g.2.2.1.length ≤ N.length ∧ (g.2.2.2.2 = true → g.2.2.1 ++ g.2.2.2.1 :: selA g.2.1 = selA N ∧ g.2.1.length + g.2.2.1.length + 1 ≤ N.length) ∧ (g.2.2.2.2 = false → g.2.2.1 = selA N),
        fun g => if g.2.2.2.2 = true then g.2.1.length + 1 else 0,
        ⟨(Q', N', [], cur, true), [some 0, some 1, none, some 2], ⟨k3, by show N'.length + 0 ≤ N.length; omega, fun _ => ⟨hT.symm, by show N'.length + 0 + 1 ≤ N.length; omega⟩, fun h => by cases h⟩, ?_⟩, fun g hg => ?_⟩
      · (repeat' (first | (refine And.intro ?_ ?_) | exact True.intro | (show _ = _; with_reducible rfl) | exact Chk.mk (by kernel_rfl)))
        all_goals first | rfl | (exact fun _ _ => rfl)
      clear k3 hT lQ lN cur Q' N'
      obtain ⟨Q, M, O, cur, b⟩ := g
      obtain ⟨g1, g2, g3, g4⟩ := hg
      have g1 : QI Q M N.length := g1
      have g2 : M.length + O.length ≤ N.length := g2
      have g3 : b = true → O ++ cur :: selA M = selA N ∧ M.length + O.length + 1 ≤ N.length := g3
      have g4 : b = false → O = selA N := g4
      have hQM := qi_len g1
      have rQ := rowp Q
      dsimp only
      cases b with
      | false =>
        have e := g4 rfl
        rw [← e]
        (repeat' (first | (refine xI (fun hfk => ?_) (fun hfk => ?_) <;> ((try (first | replace hfk := oT hfk | replace hfk := oF hfk | simp only [oD, ne_eq, reduceCtorEq] at hfk)); (try exact oX))) | (refine And.intro ?ob ?_; (case ob => (exact oZ))) | exact True.intro | (show _ = _; first | exact oY | exact rfl) | exact oW | (apply And.intro)))
        refine ⟨[some 2], ?_⟩
        (repeat' (first | (refine And.intro ?_ ?_) | exact True.intro | (show _ = _; with_reducible rfl) | exact Chk.mk (by kernel_rfl)))
        all_goals first | rfl | (exact fun _ _ => rfl)
      | true =>
        obtain ⟨e, e2⟩ := g3 rfl
        clear g3 g4
        obtain ⟨P, hP⟩ : ∃ P, O ++ [cur] = P := ⟨_, rfl⟩
        have lP : P.length = O.length + 1 := by rw [← hP, List.length_append]; rfl
        have eP : ∀ {F : Nat → AV}, F 0 = .agg [.int .i64 cur.l, .int .i64 cur.i] → ∀ j, j < P.length → (if j < O.length then tlG O j else F (j - O.length)) = tlG P j := fun {F} hF j hj => by
          rw [← hP]
          exact tlG_snoc hF (by omega)
        have e : P ++ selA M = selA N := by rw [← e, ← hP, List.append_assoc]; rfl
        (repeat' (first | (refine xI (fun hfk => ?_) (fun hfk => ?_) <;> ((try (first | replace hfk := oT hfk | replace hfk := oF hfk | simp only [oD, ne_eq, reduceCtorEq] at hfk)); (try exact oX))) | (refine And.intro ?ob ?_; (case ob => (exact oZ))) | exact True.intro | (show _ = _; first | exact oY | exact rfl) | exact oW | (apply And.intro)))
        refine ⟨[(9, .ptr 0 0), (15, .sl 2 2 0 P.length), (16, .ptr 3 0), (18, .bool true)], ⟨4, [(0, some (.cells 76 [.sl 1 4 0 Q.length, .int .i64 (N.length : Int)])), (1, some (rowE Q)), (2, some (.recs 62 2 P.length (tlG P))), (3, some (.cells 62 [.int .i64 cur.l, .int .i64 cur.i]))]⟩, [some 0, some 1, some 5, some 3], ?_, ?_⟩
        · (repeat' (first | (refine And.intro ?_ ?_) | exact True.intro | (show _ = _; with_reducible rfl) | exact Chk.mk (by kernel_rfl)))
          all_goals first | rfl | exact lP.symm | exact And.intro rfl lP.symm | exact eP (F := fun j => chunkA _ _ (0 + j)) rfl | (exact fun _ _ => rfl)
        by_cases h0 : Q.length = 0
        · obtain rfl : Q = [] := List.eq_nil_of_length_eq_zero h0
          obtain rfl : M = [] := List.eq_nil_of_length_eq_zero (by rw [← hQM]; rfl)
          have e : P = selA N := by rw [← e, selA_nil, List.append_nil]
          (repeat' (first | (refine xI (fun hfk => ?_) (fun hfk => ?_) <;> ((try (first | replace hfk := oT hfk | replace hfk := oF hfk | simp only [oD, ne_eq, reduceCtorEq] at hfk)); (try exact oX))) | (refine And.intro ?ob ?_; (case ob => (exact oZ))) | exact True.intro | (show _ = _; first | exact oY | exact rfl) | exact oW | (apply And.intro)))
          right
          (refine ⟨[0, 1], ⟨by kernel_rfl⟩, ?_⟩)
          (repeat' (first | (refine xI (fun hfk => ?_) (fun hfk => ?_) <;> ((try (first | replace hfk := oT hfk | replace hfk := oF hfk | simp only [oD, ne_eq, reduceCtorEq] at hfk)); (try exact oX))) | (refine And.intro ?ob ?_; (case ob => (exact oZ))) | exact True.intro | (show _ = _; first | exact oY | (first | exact rQ | skip; done) | exact rfl) | exact oW | (apply And.intro)))
          refine ⟨[(9, .ptr 0 0), (15, .sl 2 2 0 P.length), (16, .ptr 3 0), (18, .fls)], ⟨4, [(0, some (.cells 76 [.sl 1 4 0 0, .int .i64 (N.length : Int)])), (1, some (rowE [])), (2, some (.recs 62 2 P.length (tlG P))), (3, some (.cells 62 [.int .i64 0, .int .i64 0]))]⟩, [some 0, some 1, some 2, some 4], ?_, ?_⟩
          · (repeat' (first | (refine And.intro ?_ ?_) | exact True.intro | (show _ = _; with_reducible rfl) | exact Chk.mk (by kernel_rfl)))
            all_goals first | rfl | (exact fun _ _ => rfl)
          (repeat' (first | (refine xI (fun hfk => ?_) (fun hfk => ?_) <;> ((try (first | replace hfk := oT hfk | replace hfk := oF hfk | simp only [oD, ne_eq, reduceCtorEq] at hfk)); (try exact oX))) | (refine And.intro ?ob ?_; (case ob => (exact oZ))) | exact True.intro | (show _ = _; first | exact oY | exact rfl) | exact oW | (apply And.intro)))
          refine ⟨([], [], P, It.z, false), [some 0, some 1, some 2, some 3], ⟨g1, by show 0 + P.length ≤ _; omega, fun h => (by cases h), fun _ => e⟩, ?mu, ?_⟩
          case mu => exact Nat.zero_lt_succ _
          (repeat' (first | (refine And.intro ?_ ?_) | exact True.intro | (show _ = _; with_reducible rfl) | exact Chk.mk (by kernel_rfl)))
          all_goals first | rfl | (exact fun _ _ => rfl)
        · have Q0 : 0 < Q.length := by omega
          have M0 : 0 < M.length := by omega
          obtain ⟨k1, k2, k3⟩ := qi_pop g1 Q0 (fstN M) rfl
          obtain ⟨Q', hQ'⟩ : ∃ Q', popL Q = Q' := ⟨_, rfl⟩
          obtain ⟨N', hN'⟩ : ∃ N', M.eraseIdx (fstN M) = N' := ⟨_, rfl⟩
          obtain ⟨cur', hcur⟩ : ∃ cur', atL M (fstN M) = cur' := ⟨_, rfl⟩
          have hT := selA_step M0
          rw [hQ', hN'] at k3
          rw [hN', hcur] at hT
          have lQ : Q'.length = Q.length - 1 := by rw [← hQ', popL_len]
          have lN : N'.length = M.length - 1 := by rw [← hN', List.length_eraseIdx, if_pos k1]
          have eL : popL (qrL Q.length (rowG Q)) = Q' := by rw [qrL_row]; exact hQ'
          have eX : popX (qrL Q.length (rowG Q)) = cur' := by rw [qrL_row, k2]; exact hcur
          (repeat' (first | (refine xI (fun hfk => ?_) (fun hfk => ?_) <;> ((try (first | replace hfk := oT hfk | replace hfk := oF hfk | simp only [oD, ne_eq, reduceCtorEq] at hfk)); (try exact oX))) | (refine And.intro ?ob ?_; (case ob => (exact oZ))) | exact True.intro | (show _ = _; first | exact oY | exact rfl) | exact oW | (apply And.intro)))
          left
          (refine ⟨[0, 1], ⟨by kernel_rfl⟩, ?_⟩)
          (repeat' (first | (refine xI (fun hfk => ?_) (fun hfk => ?_) <;> ((try (first | replace hfk := oT hfk | replace hfk := oF hfk | simp only [oD, ne_eq, reduceCtorEq] at hfk)); (try exact oX))) | (refine And.intro ?ob ?_; (case ob => (exact oZ))) | exact True.intro | (show _ = _; first | exact oY | (first | exact rQ | skip; done) | exact rfl) | exact oW | (apply And.intro)))
          refine ⟨[(9, .ptr 0 0), (15, .sl 2 2 0 P.length), (16, .ptr 3 0), (18, .tru)], ⟨4, [(0, some (.cells 76 [.sl 1 4 0 Q'.length, .int .i64 (N.length : Int)])), (1, some (rowE Q')), (2, some (.recs 62 2 P.length (tlG P))), (3, some (.cells 62 [.int .i64 cur'.l, .int .i64 cur'.i]))]⟩, [some 0, some 1, some 2, some 4], ?_, ?_⟩
          · (repeat' (first | (refine And.intro ?_ ?_) | exact True.intro | (show _ = _; with_reducible rfl) | exact Chk.mk (by kernel_rfl)))
            all_goals first | rfl | exact lQ.symm | (exact congrArg It.l eX) | (exact congrArg It.i eX) | (exact fun j _ => congrArg (fun L => rowG L j) eL) | (exact fun _ _ => rfl)
          clear eX eL
          (repeat' (first | (refine xI (fun hfk => ?_) (fun hfk => ?_) <;> ((try (first | replace hfk := oT hfk | replace hfk := oF hfk | simp only [oD, ne_eq, reduceCtorEq] at hfk)); (try exact oX))) | (refine And.intro ?ob ?_; (case ob => (exact oZ))) | exact True.intro | (show _ = _; first | exact oY | exact rfl) | exact oW | (apply And.intro)))
          refine ⟨(Q', N', P, cur', true), [some 0, some 1, some 2, some 3], ⟨k3, by show N'.length + P.length ≤ _; omega, fun _ => ⟨by rw [← e, hT], by show N'.length + P.length + 1 ≤ _; omega⟩, fun h => (by cases h)⟩, ?mu, ?_⟩
          case mu => (show N'.length + 1 < M.length + 1; omega)
          (repeat' (first | (refine And.intro ?_ ?_) | exact True.intro | (show _ = _; with_reducible rfl) | exact Chk.mk (by kernel_rfl)))
          all_goals first | rfl | (exact fun _ _ => rfl)
end Go.Proofs.Ytgbekbofeaoniaa
namespace Go.Proofs.Ytgbekbofeaoniaa
open Go Go.RowKit
abbrev stA2 (L : List Im) (tw th n : Int) : Ent := .cells 126 [.sl 2 4 0 L.length, .int .i64 tw, .int .i64 th, .int .i64 n]
end Go.Proofs.Ytgbekbofeaoniaa

