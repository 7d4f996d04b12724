/- The reference's Same of two images: a loop over their bytes. No condition but what the slices read as. -/
import Derived.Test.YtenjmgopfcbbbaaImg
namespace Go.Proofs.Ytenjmgopfcbbbaa
open Go.ChangeShapes Go.WideShapes Go.ChangeAt Go.RowKit
set_option linter.unusedVariables false
set_option linter.unusedSimpArgs false

theorem list_eq_getD {xs ys : List Int} {n : Nat} (hx : xs.length = n) (hy : ys.length = n) (h : ∀ j, j < n → xs.getD j 0 = ys.getD j 0) : xs = ys := by
  refine List.ext_getElem (by omega) fun j h1 h2 => ?_
  have := h j (by omega)
  simpa [List.getD, h1, h2] using this

set_option maxHeartbeats 1000000 in
theorem rsame_any (w h c : Int) (A : Option Addr) (n k : Nat) (xs : List Int) (w' h' c' : Int) (A' : Option Addr) (n' k' : Nat) (ys : List Int) (b : Nat) (W : World) (hb : b ≤ W.heap.size) (hn : n ≤ 9223372036854775807) (hx : Sl W .u8 b A n xs) (hy : Sl W .u8 b A' n' ys) :
    Calls Try.prog 21 #[.agg #[.int .i64 w, .int .i64 h, .int .i64 c, .slice A n k], .agg #[.int .i64 w', .int .i64 h', .int .i64 c', .slice A' n' k']] W fun e W' => e = .returned (.bool (sameF w h c xs w' h' c' ys)) ∧ Below W.heap.size W W' := by
  have HX := Lib.hid hx
  have HY := Lib.hid hy
  clear hx hy
  by_cases e1 : w = w'
  · subst e1
    by_cases e2 : h = h'
    · subst e2
      by_cases e3 : c = c'
      · subst e3
        by_cases e4 : n = n'
        · subst e4
          go_enter Try.func21, Try.ntmps21
          go_wp2
          refine wp_name fun w0 hwN => ?_; have hb_w0 : Below W.heap.size W w0 := (by rw [hwN]; (repeat (first | exact Below.refl _ _ | with_reducible refine bel_set ?_ (by first | omega | (simp; done) | (simp; omega)) | with_reducible refine bel_alloc ?_ _ | with_reducible refine bel_drew ?_ | with_reducible refine bel_drewN ?_ _ | with_reducible refine bel_step ?_ (by assumption)))); have hc_w0 := fun (b o : Nat) => congrArg (fun w : World => w.cell? ⟨b, o, none⟩) hwN; have hf_w0 := fun (b o : Nat) => congrArg (fun w : World => w.frozen? ⟨b, o, none⟩) hwN; have hz_w0 := congrArg (fun w : World => w.heap.size) hwN; (try simp only [World.size_alloc, World.size_setCell, World.size_drew] at hz_w0); (try dsimp only at hc_w0 hf_w0); clear hwN
          go_loopw [5] (fun i wr => ∃ j : Nat, j ≤ n ∧ i = .int .i64 j ∧ Below w0.heap.size w0 wr ∧ (∀ m, m < j → xs.getD m 0 = ys.getD m 0)) (fun i _ => n - (intOf i).toNat)
          case atStart => exact ⟨0, Nat.zero_le _, rfl, Below.refl _ _, fun j hj => by omega⟩
          case round =>
            rename_i wr
            obtain ⟨j, hj, rfl, hbr, heq⟩ := hrel
            have HE := Lib.hid heq
            clear heq
            have hbW := bel_step hb_w0 hbr
            obtain ⟨hc_wr, hf_wr⟩ := bcell hbr; have hz_wr := (hbr).size; (try simp only [hz_w0] at hz_wr); (try have zW0 : W.heap.size < wr.heap.size := by omega); (try have zW1 : W.heap.size + 1 < wr.heap.size := by omega); (try have zW2 : W.heap.size + 1 + 1 < wr.heap.size := by omega); (try have zW3 : W.heap.size + 1 + 1 + 1 < wr.heap.size := by omega); (try have zW4 : W.heap.size + 1 + 1 + 1 + 1 < wr.heap.size := by omega)
            by_cases hlt : j < n
            · obtain ⟨b1, o1, rfl, hb1, hc1⟩ := HX.out.cells (by omega)
              obtain ⟨b2, o2, rfl, hb2, hc2⟩ := HY.out.cells (by omega)
              obtain ⟨x, hx⟩ : ∃ x, x = xs.getD j 0 := ⟨_, rfl⟩
              obtain ⟨y, hy⟩ : ∃ y, y = ys.getD j 0 := ⟨_, rfl⟩
              have q1 : wr.cell? ⟨b1, o1 + j, none⟩ = some (.int .u8 x) := by rw [hx, ← hc1 j hlt]; exact hbW.cell (p := ⟨b1, o1 + j, none⟩) (by show b1 < _; omega)
              have q2 : wr.cell? ⟨b2, o2 + j, none⟩ = some (.int .u8 y) := by rw [hy, ← hc2 j hlt]; exact hbW.cell (p := ⟨b2, o2 + j, none⟩) (by show b2 < _; omega)
              have y1 : b1 < wr.heap.size := by omega
              have y2 : b2 < wr.heap.size := by omega
              have hlt' : (j : Int) < (n : Int) := by omega
              have hj0 : (0 : Int) ≤ (j : Int) := by omega
              have HXj := Lib.hid hx
              have HYj := Lib.hid hy
              clear hc1 hc2 hx hy
              by_cases he : x = y
              · have he' : (x != y) = false := by simp [he]
                have HQ := Lib.hid he
                clear he
                go_wp2
                refine wp_region_plan 11 (fun w' => (∀ b o, b < wr.heap.size → w'.cell? ⟨b, o, none⟩ = wr.cell? ⟨b, o, none⟩) ∧ Below wr.heap.size wr w') (by kernel_rfl) (by kernel_rfl) (by kernel_rfl) (keep0 _) ?_; simp only [List.take_succ_cons, List.take_zero, List.drop_succ_cons, List.drop_zero]; (repeat (first | (refine plan_no (by rfl) ?_; simp only [Act.put, List.setIfInBounds_toArray, List.set_cons_zero, List.set_cons_succ]) | ((first | apply plan_plain rfl | apply plan_yes (by rfl)); (focus (intro wx hS K hK; go_simp; (try go_bits); (first | exact hK _ hS | ((first | fail); (try dsimp only); (try go_simp); (first | exact hK _ hS | exact hK _ (keep1 hS hb)))))); rfl))); refine plan_nil ?_; intro w3 hS; have hb3 := hS.2; clear hS; obtain ⟨hc3, hf3⟩ := bcell hb3; have hz3 := hb3.size; (try simp at hz3); (try have zW0 : W.heap.size < w3.heap.size := by omega); (try have zW1 : W.heap.size + 1 < w3.heap.size := by omega); (try have zW2 : W.heap.size + 1 + 1 < w3.heap.size := by omega); (try have zW3 : W.heap.size + 1 + 1 + 1 < w3.heap.size := by omega); (try have zW4 : W.heap.size + 1 + 1 + 1 + 1 < w3.heap.size := by omega); (try have zw10 : w1.heap.size < w3.heap.size := by omega); (try have zw11 : w1.heap.size + 1 < w3.heap.size := by omega); (try have zw20 : w2.heap.size < w3.heap.size := by omega); (try have zw21 : w2.heap.size + 1 < w3.heap.size := by omega); (try have zw30 : w3.heap.size < w3.heap.size := by omega); (try have zw31 : w3.heap.size + 1 < w3.heap.size := by omega); (try have zw40 : w4.heap.size < w3.heap.size := by omega); (try have zw41 : w4.heap.size + 1 < w3.heap.size := by omega); (try have zw50 : w5.heap.size < w3.heap.size := by omega); (try have zw51 : w5.heap.size + 1 < w3.heap.size := by omega); (try have zw60 : w6.heap.size < w3.heap.size := by omega); (try have zw61 : w6.heap.size + 1 < w3.heap.size := by omega)
                go_wp2
                go_roundw
                case rel =>
                  refine ⟨j + 1, by omega, by go_num, bel_step hbr hb3, fun m hm => ?_⟩
                  by_cases hmj : m = j
                  · subst hmj; rw [← HXj.out, ← HYj.out]; exact HQ.out
                  · exact HE.out m (by omega)
                case measure => simp [intOf]; omega
              · have he' : (x != y) = true := by simp [he]
                go_wp2
                refine wp_region_plan 11 (fun w' => (∀ b o, b < wr.heap.size → w'.cell? ⟨b, o, none⟩ = wr.cell? ⟨b, o, none⟩) ∧ Below wr.heap.size wr w') (by kernel_rfl) (by kernel_rfl) (by kernel_rfl) (keep0 _) ?_; simp only [List.take_succ_cons, List.take_zero, List.drop_succ_cons, List.drop_zero]; (repeat (first | (refine plan_no (by rfl) ?_; simp only [Act.put, List.setIfInBounds_toArray, List.set_cons_zero, List.set_cons_succ]) | ((first | apply plan_plain rfl | apply plan_yes (by rfl)); (focus (intro wx hS K hK; go_simp; (try go_bits); (first | exact hK _ hS | ((first | fail); (try dsimp only); (try go_simp); (first | exact hK _ hS | exact hK _ (keep1 hS hb)))))); rfl))); refine plan_nil ?_; intro w3 hS; have hb3 := hS.2; clear hS; obtain ⟨hc3, hf3⟩ := bcell hb3; have hz3 := hb3.size; (try simp at hz3); (try have zW0 : W.heap.size < w3.heap.size := by omega); (try have zW1 : W.heap.size + 1 < w3.heap.size := by omega); (try have zW2 : W.heap.size + 1 + 1 < w3.heap.size := by omega); (try have zW3 : W.heap.size + 1 + 1 + 1 < w3.heap.size := by omega); (try have zW4 : W.heap.size + 1 + 1 + 1 + 1 < w3.heap.size := by omega); (try have zw10 : w1.heap.size < w3.heap.size := by omega); (try have zw11 : w1.heap.size + 1 < w3.heap.size := by omega); (try have zw20 : w2.heap.size < w3.heap.size := by omega); (try have zw21 : w2.heap.size + 1 < w3.heap.size := by omega); (try have zw30 : w3.heap.size < w3.heap.size := by omega); (try have zw31 : w3.heap.size + 1 < w3.heap.size := by omega); (try have zw40 : w4.heap.size < w3.heap.size := by omega); (try have zw41 : w4.heap.size + 1 < w3.heap.size := by omega); (try have zw50 : w5.heap.size < w3.heap.size := by omega); (try have zw51 : w5.heap.size + 1 < w3.heap.size := by omega); (try have zw60 : w6.heap.size < w3.heap.size := by omega); (try have zw61 : w6.heap.size + 1 < w3.heap.size := by omega)
                go_wp2
                go_ret
                refine ⟨ret_bool ?_, bel_step hbW hb3⟩
                have hne : xs ≠ ys := fun e => he (by rw [HXj.out, HYj.out, e])
                simp [sameF, hne]
            · have hlt' : ¬ (j : Int) < (n : Int) := by omega
              go_wp2
              go_ret
              refine ⟨ret_bool ?_, hbW⟩
              have hj' : j = n := by omega
              have := list_eq_getD HX.out.len HY.out.len (hj' ▸ HE.out)
              simp [sameF, this]
        · have hne : xs ≠ ys := fun e => e4 (by rw [← HX.out.len, ← HY.out.len, e])
          have e4' : ((n : Int) != (n' : Int)) = true := bne_iff_ne.2 (by omega)
          go_enter Try.func21, Try.ntmps21
          go_wp2
          all_goals (go_ret; exact ⟨ret_bool (by simp [sameF, hne]), (by (repeat (first | exact Below.refl _ _ | with_reducible refine bel_set ?_ (by first | omega | (simp; done) | (simp; omega)) | with_reducible refine bel_alloc ?_ _ | with_reducible refine bel_drew ?_ | with_reducible refine bel_drewN ?_ _ | with_reducible refine bel_step ?_ (by assumption))))⟩)
      · have e3' : (c != c') = true := by simp [e3]
        go_enter Try.func21, Try.ntmps21
        go_wp2
        all_goals (go_ret; exact ⟨ret_bool (by simp [sameF, e3]), (by (repeat (first | exact Below.refl _ _ | with_reducible refine bel_set ?_ (by first | omega | (simp; done) | (simp; omega)) | with_reducible refine bel_alloc ?_ _ | with_reducible refine bel_drew ?_ | with_reducible refine bel_drewN ?_ _ | with_reducible refine bel_step ?_ (by assumption))))⟩)
    · have e2' : (h != h') = true := by simp [e2]
      go_enter Try.func21, Try.ntmps21
      go_wp2
      all_goals (go_ret; exact ⟨ret_bool (by simp [sameF, e2]), (by (repeat (first | exact Below.refl _ _ | with_reducible refine bel_set ?_ (by first | omega | (simp; done) | (simp; omega)) | with_reducible refine bel_alloc ?_ _ | with_reducible refine bel_drew ?_ | with_reducible refine bel_drewN ?_ _ | with_reducible refine bel_step ?_ (by assumption))))⟩)
  · have e1' : (w != w') = true := by simp [e1]
    go_enter Try.func21, Try.ntmps21
    go_wp2
    all_goals (go_ret; exact ⟨ret_bool (by simp [sameF, e1]), (by (repeat (first | exact Below.refl _ _ | with_reducible refine bel_set ?_ (by first | omega | (simp; done) | (simp; omega)) | with_reducible refine bel_alloc ?_ _ | with_reducible refine bel_drew ?_ | with_reducible refine bel_drewN ?_ _ | with_reducible refine bel_step ?_ (by assumption))))⟩)
end Go.Proofs.Ytenjmgopfcbbbaa
