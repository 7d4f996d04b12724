
/- A new image, its bytes its own (img.New). No condition. -/
import Derived.Test.YtpgikaeddhaiiaaI8b
import Derived.Test.YtpgikaeddhaiiaaFi
namespace Go.Proofs.Ytpgikaeddhaiiaa
open Go Go.RowKit
set_option linter.unusedVariables false
set_option linter.unusedSimpArgs false
set_option maxRecDepth 100000

def newF : FSpec := fun l es => match l, es with
  | [.int .i64 w, .int .i64 h, .int .i64 c], [] => some ([fitsI w h c = 0], .tup [.agg [.int .i64 w, .int .i64 h, .int .i64 c, .sl 0 1 0 (w * h * c).toNat], .int .i64 0], [some (.ints 5 .u8 (List.replicate (w * h * c).toNat 0))])
  | _, _ => none
theorem newI_g : GSOK Try.prog 22 (fG newF) := by
  refine fok (S := [(74, fitsS)]) (G := noG) (pok_cons fits_s pok_nil) noG_ok ⟨Try.func22, by kernel_rfl, by kernel_rfl, by kernel_rfl⟩ fun l es obs v es' h ho => ?_
  (unfold newF at h; split at h; rotate_left; (focus (cases h)); rename_i w hh c; simp only [Option.some.injEq, Prod.mk.injEq] at h; obtain ⟨rfl, rfl, rfl⟩ := h; simp only [List.mem_cons, List.not_mem_nil, or_false, forall_eq_or_imp, forall_eq, false_implies, implies_true] at ho)
  have hb := fits_inv ho
  obtain ⟨q1, q2⟩ := whc_rng ho
  refine ⟨Nat.le_of_ble_eq_true rfl, ?_⟩
  have o1 : 0 ≤ w * hh * c ∧ w * hh * c ≤ w * hh * c ∧ w * hh * c ≤ 140737488355328 ∧ w * hh * c * ((1 : Nat) : Int) ≤ 140737488355328 := by omega
  (repeat (first | (refine ⟨fun hh => absurd hh ?prx, fun _ => ?_⟩; (case prx => (simp [ho]; done))) | (refine ⟨fun _ => ?_, fun hh => absurd hh ?prx⟩; (case prx => (simp [ho]; done))) | (refine ⟨?prx, ?_⟩; (case prx => (first | exact Chk.mk (by kernel_rfl) | exact rfl | (first | exact q1 | exact q2 | exact o1))))))
  refine ⟨[some 1], ?_⟩
  (repeat' (first | (refine And.intro (fun (hfk : _ = true) => ?_) (fun (hfk : _ = false) => ?_) <;> ((try (first | replace hfk := of_decide_eq_true hfk | replace hfk := of_decide_eq_false hfk | simp only [decide_eq_true_eq, decide_eq_false_iff_not, dh1, dh0, ne_eq, reduceCtorEq] at hfk)); (try (exfalso; first | omega | contradiction | exact Bool.noConfusion (Eq.trans (Eq.symm hfk) (by with_reducible assumption : _ = false)) | exact Bool.noConfusion (Eq.trans (Eq.symm hfk) (by with_reducible assumption : _ = true)))))) | (refine And.intro ?ob ?_; (case ob => (first | exact Chk.mk (by kernel_rfl) | exact True.intro | with_reducible assumption | exact rng64 (by omega) (by omega) | omega | (dsimp only; omega) | (show (_ : Nat) ≤ _; omega) | (simp only [ll1, ll2, ll0]; done) | (simp only [ll1, ll2, ll0]; omega) | (dsimp only; simp only [ll1, ll2, ll0]; omega)))) | exact True.intro | (show _ = _; first | with_reducible rfl | with_reducible assumption | omega | (simp only [ll1, ll2, ll0]; omega) | (skip; done) | exact rfl) | with_reducible assumption | (apply And.intro) | omega | (intro j hj; exact rfl) | fail))
end Go.Proofs.Ytpgikaeddhaiiaa
