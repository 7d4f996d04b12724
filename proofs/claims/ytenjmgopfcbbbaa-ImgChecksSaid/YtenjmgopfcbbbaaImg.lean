/- The contracts of package img and of its reference: what is wrong with an image; whether two are the same. -/
import Derived.Test.YtenjmgopfcbbbaaFrame
import Derived.Laws.BytesArg
import Derived.Lib.Strings
namespace Go.Proofs.Ytenjmgopfcbbbaa
open Go.ChangeShapes Go.WideShapes Go.ChangeAt Go.RowKit
set_option linter.unusedVariables false
set_option linter.unusedSimpArgs false

/-- The code of an image of a size. -/
def fitsF (w h c : Int) : Int :=
  if c ≠ 1 ∧ c ≠ 3 ∧ c ≠ 4 then 10 else if w > 32768 ∨ h > 32768 ∨ (w > 0 ∧ h > 0 ∧ w * h > 4194304) then 30 else if w < 1 ∨ h < 1 then 12 else 0
/-- The code of an image. -/
def checkF (w h c : Int) (n : Nat) : Int := if fitsF w h c ≠ 0 then fitsF w h c else if (n : Int) ≠ w * h * c then 12 else 0

theorem mul_in {w h a b : Int} (h0 : 0 ≤ w) (h1 : w ≤ a) (k0 : 0 ≤ h) (k1 : h ≤ b) : 0 ≤ w * h ∧ w * h ≤ a * b :=
  ⟨Int.mul_nonneg h0 k0, Int.mul_le_mul h1 k1 k0 (by omega)⟩
theorem wrap_wh {w h : Int} (hq : 0 < w ∧ w ≤ 32768 ∧ 0 < h ∧ h ≤ 32768) : wrap64 (w * h) = w * h := by
  have := mul_in (w := w) (h := h) (a := 32768) (b := 32768) (by omega) (by omega) (by omega) (by omega)
  exact IntWalk.wrap64_in _ ⟨by omega, by omega⟩
theorem fits_zero {w h c : Int} (hf : fitsF w h c = 0) : (c = 1 ∨ c = 3 ∨ c = 4) ∧ 1 ≤ w ∧ w ≤ 32768 ∧ 1 ≤ h ∧ h ≤ 32768 ∧ w * h ≤ 4194304 := by
  unfold fitsF at hf
  generalize w * h = p at *
  split at hf <;> (try split at hf) <;> (try split at hf) <;> omega
theorem check_zero {w h c : Int} {n : Nat} (hc : checkF w h c n = 0) : fitsF w h c = 0 ∧ (n : Int) = w * h * c := by
  unfold checkF at hc
  split at hc
  · omega
  · split at hc <;> omega
theorem wrap_whc {w h c : Int} (hf : fitsF w h c = 0) : wrap64 (w * h) = w * h ∧ wrap64 (w * h * c) = w * h * c ∧ 1 ≤ w * h * c ∧ w * h * c ≤ 16777216 := by
  obtain ⟨h1, h2, h3, h4, h5, h6⟩ := fits_zero hf
  have h7 : 1 ≤ w * h := Int.mul_pos (by omega) (by omega)
  have h8 := mul_in (w := w * h) (h := c) (a := 4194304) (b := 4) (by omega) (by omega) (by omega) (by omega)
  have h9 : 1 ≤ w * h * c := Int.mul_pos (by omega) (by omega)
  exact ⟨wrap_wh ⟨by omega, by omega, by omega, by omega⟩, IntWalk.wrap64_in _ ⟨by omega, by omega⟩, h9, by omega⟩

set_option maxHeartbeats 1000000 in
theorem fits_any (w h c : Int) (W : World) : Calls Try.prog 74 #[.int .i64 w, .int .i64 h, .int .i64 c] W fun e W' => e = .returned (.int .i64 (fitsF w h c)) ∧ W = W' := by
  have hq : ¬ (0 < w ∧ w ≤ 32768 ∧ 0 < h ∧ h ≤ 32768) ∨ wrap64 (w * h) = w * h := (Decidable.em _).symm.imp_right wrap_wh
  have HQ := Lib.hid hq
  clear hq
  go_enter Try.func74, Try.ntmps74
  go_wp2
  all_goals
    go_ret
    refine ⟨ret_int ?_, rfl⟩
    have hq := HQ.out
    unfold fitsF
    simp only [bne_iff_ne, ne_eq, bne_eq_false_iff_eq] at *
    generalize wrap64 (w * h) = q at *
    generalize w * h = p at *
    split <;> (try split) <;> (try split) <;> (first | omega | (rename_i hh; simp at hh) | (simp_all <;> omega))

set_option maxHeartbeats 1000000 in
theorem rfits_any (w h c : Int) (W : World) : Calls Try.prog 75 #[.int .i64 w, .int .i64 h, .int .i64 c] W fun e W' => e = .returned (.int .i64 (fitsF w h c)) ∧ W = W' := by
  have hq : ¬ (0 < w ∧ w ≤ 32768 ∧ 0 < h ∧ h ≤ 32768) ∨ wrap64 (w * h) = w * h := (Decidable.em _).symm.imp_right wrap_wh
  have HQ := Lib.hid hq
  clear hq
  go_enter Try.func75, Try.ntmps75
  go_wp2
  all_goals
    go_ret
    refine ⟨ret_int ?_, rfl⟩
    have hq := HQ.out
    unfold fitsF
    simp only [bne_iff_ne, ne_eq, bne_eq_false_iff_eq] at *
    generalize wrap64 (w * h) = q at *
    generalize w * h = p at *
    split <;> (try split) <;> (try split) <;> (first | omega | (rename_i hh; simp at hh) | (simp_all <;> omega))

set_option maxHeartbeats 400000 in
theorem check_any (w h c : Int) (A : Option Addr) (n k : Nat) (W : World) : Calls Try.prog 18 #[.agg #[.int .i64 w, .int .i64 h, .int .i64 c, .slice A n k]] W fun e W' => e = .returned (.int .i64 (checkF w h c n)) ∧ Below W.heap.size W W' := by
  by_cases hf : fitsF w h c = 0
  · obtain ⟨h1, h2, h3, h4⟩ := wrap_whc hf
    by_cases hn : (n : Int) = w * h * c
    · have hn' : ((n : Int) != w * h * c) = false := by simp [hn]
      have HN := Lib.hid hn
      clear hn
      go_enter Try.func18, Try.ntmps18
      go_wp2_with (go_at_call 74; (with_reducible refine (fits_any _ _ _ _).mono ?_); rintro e w' ⟨rfl, rfl⟩)
      all_goals (go_ret; exact ⟨ret_int (by simp [checkF, hf, HN.out]), (by (repeat (first | exact Below.refl _ _ | with_reducible refine bel_set ?_ (by first | omega | (simp; done) | (simp; omega)) | with_reducible refine bel_alloc ?_ _ | with_reducible refine bel_drew ?_ | with_reducible refine bel_drewN ?_ _ | with_reducible refine bel_step ?_ (by assumption))))⟩)
    · have hn' : ((n : Int) != w * h * c) = true := by simp [hn]
      go_enter Try.func18, Try.ntmps18
      go_wp2_with (go_at_call 74; (with_reducible refine (fits_any _ _ _ _).mono ?_); rintro e w' ⟨rfl, rfl⟩)
      all_goals (go_ret; exact ⟨ret_int (by simp [checkF, hf, hn]), (by (repeat (first | exact Below.refl _ _ | with_reducible refine bel_set ?_ (by first | omega | (simp; done) | (simp; omega)) | with_reducible refine bel_alloc ?_ _ | with_reducible refine bel_drew ?_ | with_reducible refine bel_drewN ?_ _ | with_reducible refine bel_step ?_ (by assumption))))⟩)
  · have hf' : (fitsF w h c != 0) = true := by simp [hf]
    go_enter Try.func18, Try.ntmps18
    go_wp2_with (go_at_call 74; (with_reducible refine (fits_any _ _ _ _).mono ?_); rintro e w' ⟨rfl, rfl⟩)
    all_goals (go_ret; exact ⟨ret_int (by simp [checkF, hf]), (by (repeat (first | exact Below.refl _ _ | with_reducible refine bel_set ?_ (by first | omega | (simp; done) | (simp; omega)) | with_reducible refine bel_alloc ?_ _ | with_reducible refine bel_drew ?_ | with_reducible refine bel_drewN ?_ _ | with_reducible refine bel_step ?_ (by assumption))))⟩)

set_option maxHeartbeats 400000 in
theorem rcheck_any (w h c : Int) (A : Option Addr) (n k : Nat) (W : World) : Calls Try.prog 19 #[.agg #[.int .i64 w, .int .i64 h, .int .i64 c, .slice A n k]] W fun e W' => e = .returned (.int .i64 (checkF w h c n)) ∧ Below W.heap.size W W' := by
  by_cases hf : fitsF w h c = 0
  · have hf' : (fitsF w h c == 0) = true := by simp [hf]
    obtain ⟨h1, h2, h3, h4⟩ := wrap_whc hf
    by_cases hn : (n : Int) = w * h * c
    · have hn' : ((n : Int) != w * h * c) = false := by simp [hn]
      have HN := Lib.hid hn
      clear hn
      go_enter Try.func19, Try.ntmps19
      go_wp2_with (go_at_call 75; (with_reducible refine (rfits_any _ _ _ _).mono ?_); rintro e w' ⟨rfl, rfl⟩)
      all_goals (go_ret; exact ⟨ret_int (by simp [checkF, hf, HN.out]), (by (repeat (first | exact Below.refl _ _ | with_reducible refine bel_set ?_ (by first | omega | (simp; done) | (simp; omega)) | with_reducible refine bel_alloc ?_ _ | with_reducible refine bel_drew ?_ | with_reducible refine bel_drewN ?_ _ | with_reducible refine bel_step ?_ (by assumption))))⟩)
    · have hn' : ((n : Int) != w * h * c) = true := by simp [hn]
      go_enter Try.func19, Try.ntmps19
      go_wp2_with (go_at_call 75; (with_reducible refine (rfits_any _ _ _ _).mono ?_); rintro e w' ⟨rfl, rfl⟩)
      all_goals (go_ret; exact ⟨ret_int (by simp [checkF, hf, hn]), (by (repeat (first | exact Below.refl _ _ | with_reducible refine bel_set ?_ (by first | omega | (simp; done) | (simp; omega)) | with_reducible refine bel_alloc ?_ _ | with_reducible refine bel_drew ?_ | with_reducible refine bel_drewN ?_ _ | with_reducible refine bel_step ?_ (by assumption))))⟩)
  · have hf' : (fitsF w h c == 0) = false := by simp [hf]
    go_enter Try.func19, Try.ntmps19
    go_wp2_with (go_at_call 75; (with_reducible refine (rfits_any _ _ _ _).mono ?_); rintro e w' ⟨rfl, rfl⟩)
    all_goals (go_ret; exact ⟨ret_int (by simp [checkF, hf]), (by (repeat (first | exact Below.refl _ _ | with_reducible refine bel_set ?_ (by first | omega | (simp; done) | (simp; omega)) | with_reducible refine bel_alloc ?_ _ | with_reducible refine bel_drew ?_ | with_reducible refine bel_drewN ?_ _ | with_reducible refine bel_step ?_ (by assumption))))⟩)

set_option maxHeartbeats 400000 in
theorem few_any (w h c : Int) (A : Option Addr) (n k : Nat) (m : Int) (W : World) : Calls Try.prog 17 #[.agg #[.int .i64 w, .int .i64 h, .int .i64 c, .slice A n k], .int .i64 m] W fun e W' => e = .returned (.bool (decide ((n : Int) ≤ m))) ∧ Below W.heap.size W W' := by
  go_enter Try.func17, Try.ntmps17
  go_wp2
  all_goals (go_ret; exact ⟨ret_bool (by simp), (by (repeat (first | exact Below.refl _ _ | with_reducible refine bel_set ?_ (by first | omega | (simp; done) | (simp; omega)) | with_reducible refine bel_alloc ?_ _ | with_reducible refine bel_drew ?_ | with_reducible refine bel_drewN ?_ _ | with_reducible refine bel_step ?_ (by assumption))))⟩)

/-! ### bytes.Equal -/
theorem sl_convert {w : World} {B : Nat} {A : Option Addr} {n c : Nat} {xs : List Int} (h : Sl w .u8 B A n xs) :
    (convert 22 9 (.slice A n c)).run Try.prog w = .ok (.string (strOfNums xs)) w := by
  by_cases hn : 0 < n
  · obtain ⟨b, o, rfl, _, hc⟩ := h.cells hn
    exact run_convert_bytes_arg w _ _ Try.underlying22 Try.underlying5 b o n c xs h.len hc _ Try.underlying9
  · obtain rfl : n = 0 := by omega
    obtain rfl : xs = [] := List.eq_nil_of_length_eq_zero h.len
    cases A with
    | none => exact run_convert_bytes_nil w _ _ Try.underlying22 Try.underlying5 0 c _ Try.underlying9
    | some a =>
      rw [run_convert_bytes_string w _ _ _ _ 0 c Try.underlying22 Try.underlying5 Try.underlying9, run_bytesToString w a 0 c [] (by
        have := run_loadCells_list (P := Try.prog) w a [] (fun j v hj => by simp at hj)
        simpa using this)]
      rfl

theorem strOfNums_inj : ∀ {xs ys : List Int}, (∀ x ∈ xs, (Lit.int .u8 x).wf = true) → (∀ y ∈ ys, (Lit.int .u8 y).wf = true) → xs.map (fun n => UInt8.ofNat n.toNat) = ys.map (fun n => UInt8.ofNat n.toNat) → xs = ys
  | [], [], _, _, _ => rfl
  | [], _ :: _, _, _, h => by simp at h
  | _ :: _, [], _, _, h => by simp at h
  | x :: xs, y :: ys, hx, hy, h => by
    simp only [List.map_cons, List.cons.injEq] at h
    have h1 := strOfNums_inj (fun z hz => hx z (List.mem_cons_of_mem _ hz)) (fun z hz => hy z (List.mem_cons_of_mem _ hz)) h.2
    have hx0 := bounds_u8 (hx x (List.mem_cons_self ..))
    have hy0 := bounds_u8 (hy y (List.mem_cons_self ..))
    have h2 := congrArg UInt8.toNat h.1
    simp only [UInt8.toNat_ofNat'] at h2
    have : x = y := by omega
    rw [this, h1]
theorem strOfNums_beq {xs ys : List Int} (hx : ∀ x ∈ xs, (Lit.int .u8 x).wf = true) (hy : ∀ y ∈ ys, (Lit.int .u8 y).wf = true) : ((strOfNums xs).toList == (strOfNums ys).toList) = decide (xs = ys) := by
  rw [Lib.toList_data, Lib.toList_data, strOfNums_data, strOfNums_data, Bool.eq_iff_iff]
  simp only [beq_iff_eq, decide_eq_true_eq]
  exact ⟨strOfNums_inj hx hy, fun h => by rw [h]⟩

set_option maxHeartbeats 400000 in
theorem bequal_any (A B : Option Addr) (n c m d : Nat) (xs ys : List Int) (b : Nat) (W : World) (hx : Sl W .u8 b A n xs) (hy : Sl W .u8 b B m ys) :
    Calls Try.prog 76 #[.slice A n c, .slice B m d] W fun e W' => e = .returned (.bool (decide (xs = ys))) ∧ W = W' := by
  have h1 := sl_convert (c := c) hx
  have h2 := sl_convert (c := d) hy
  have h3 := strOfNums_beq hx.wf hy.wf
  go_enter Try.func76, Try.ntmps76
  go_wp2
  all_goals (go_ret; exact ⟨rfl, rfl⟩)

/-- Whether two images are alike in all. -/
def sameF (w h c : Int) (xs : List Int) (w' h' c' : Int) (ys : List Int) : Bool := decide (w = w') && decide (h = h') && decide (c = c') && decide (xs = ys)

set_option maxHeartbeats 400000 in
theorem same_any (w h c : Int) (A : Option Addr) (n k : Nat) (xs : List Int) (w' h' c' : Int) (A' : Option Addr) (n' k' : Nat) (ys : List Int) (b : Nat) (W : World) (hb : b ≤ W.heap.size) (hx : Sl W .u8 b A n xs) (hy : Sl W .u8 b A' n' ys) :
    Calls Try.prog 20 #[.agg #[.int .i64 w, .int .i64 h, .int .i64 c, .slice A n k], .agg #[.int .i64 w', .int .i64 h', .int .i64 c', .slice A' n' k']] W fun e W' => e = .returned (.bool (sameF w h c xs w' h' c' ys)) ∧ Below W.heap.size W W' := by
  have HX := Lib.hid hx
  have HY := Lib.hid hy
  clear hx hy
  go_enter Try.func20, Try.ntmps20
  go_wp2_with (go_at_call 76; (with_reducible refine (bequal_any _ _ _ _ _ _ xs ys b _ ((HX.out.below (((Below.refl _ _).alloc (Nat.le_refl _) _).alloc (by simp) _ |>.mono hb))) ((HY.out.below (((Below.refl _ _).alloc (Nat.le_refl _) _).alloc (by simp) _ |>.mono hb)))).mono ?_); rintro e w' ⟨rfl, rfl⟩)
  all_goals (go_ret; exact ⟨ret_bool (by simp [sameF, *]), (by (repeat (first | exact Below.refl _ _ | with_reducible refine bel_set ?_ (by first | omega | (simp; done) | (simp; omega)) | with_reducible refine bel_alloc ?_ _ | with_reducible refine bel_drew ?_ | with_reducible refine bel_drewN ?_ _ | with_reducible refine bel_step ?_ (by assumption))))⟩)
end Go.Proofs.Ytenjmgopfcbbbaa
