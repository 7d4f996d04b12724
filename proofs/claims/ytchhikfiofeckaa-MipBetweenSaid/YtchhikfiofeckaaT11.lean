
/- Images of several channels: what the layer tint and the document answer. No condition. -/
import Derived.Test.YtchhikfiofeckaaI8b
import Derived.Test.YtchhikfiofeckaaFi
namespace Go.Proofs.Ytchhikfiofeckaa
open Go Go.RowKit
set_option linter.unusedVariables false
set_option linter.unusedSimpArgs false
set_option maxRecDepth 100000

/-- A new image, its bytes its own. -/
def newF : FSpec := fun l es => match l, es with
  | [.int .i64 w, .int .i64 h, .int .i64 c], [] => some ([fitsI w h c = 0], .tup [.agg [.int .i64 w, .int .i64 h, .int .i64 c, .sl 0 1 0 (w * h * c).toNat], .int .i64 0], [some (.ints 5 .u8 (List.replicate (w * h * c).toNat 0))])
  | _, _ => none
theorem new_g : GSOK Try.prog 18 (fG newF) := by
  refine fok (S := [(75, fitsS)]) (G := noG) (pok_cons fits_s pok_nil) noG_ok ⟨Try.func18, by kernel_rfl, by kernel_rfl, by kernel_rfl⟩ fun l es obs v es' h ho => ?_
  unfold newF at h
  split at h
  · rename_i w hh c
    simp only [Option.some.injEq, Prod.mk.injEq] at h
    obtain ⟨rfl, rfl, rfl⟩ := h
    have h1 : fitsI w hh c = 0 := ho _ (by simp)
    clear ho
    have hb := fits_inv h1
    obtain ⟨q1, q2⟩ := whc_rng h1
    refine ⟨Nat.le_of_ble_eq_true rfl, ?_⟩
    have o1 : 0 ≤ w * hh * c ∧ w * hh * c ≤ w * hh * c ∧ w * hh * c ≤ 140737488355328 ∧ w * hh * c * ((1 : Nat) : Int) ≤ 140737488355328 := by omega
    (repeat (first | (refine ⟨fun hh => absurd hh ?prx, fun _ => ?_⟩; (case prx => (simp [h1]; done))) | (refine ⟨fun _ => ?_, fun hh => absurd hh ?prx⟩; (case prx => (simp [h1]; done))) | (refine ⟨?prx, ?_⟩; (case prx => (first | exact Chk.mk (by kernel_rfl) | exact rfl | (first | exact q1 | exact q2 | exact o1))))))
    refine ⟨[some 1], ⟨by kernel_rfl⟩, ⟨⟨rfl, rfl, rfl, rfl, rfl⟩, rfl⟩, rfl, True.intro⟩
  · cases h

def oneC (m v : Im) : Int := if imCheck m.w m.h m.c m.p.length ≠ 0 then imCheck m.w m.h m.c m.p.length else if m.c ≠ 1 then 10 else if m.w ≠ v.w ∨ m.h ≠ v.h then 12 else 0
abbrev oneS : PSpec := fun l => match l with
  | [.agg [.int .i64 w, .int .i64 h, .int .i64 c, .roi .u8 p], .agg [.int .i64 v, .int .i64 g, .int .i64 d, .roi .u8 q]] => some ([], .int .i64 (oneC ⟨w, h, c, p⟩ ⟨v, g, d, q⟩)) | _ => none
abbrev grayS : PSpec := fun l => match l with
  | [.roi .u8 p] => some ([∀ x ∈ p, 0 ≤ x ∧ x ≤ 255], .int .u8 ((128 + 77 * p.getD 0 0 + 150 * p.getD 1 0 + 29 * p.getD 2 0) / 256)) | _ => none
def grayP (p : List Int) : Nat → Int
  | 0 => 128
  | 1 => 128 + 77 * p.getD 0 0
  | 2 => 128 + 77 * p.getD 0 0 + 150 * p.getD 1 0
  | _ => 128 + 77 * p.getD 0 0 + 150 * p.getD 1 0 + 29 * p.getD 2 0
theorem gray_w : (∀ x ∈ [(255 : Int), 255, 255], 0 ≤ x ∧ x ≤ 255) ∧ (∀ x ∈ [(255 : Int), 0, 0], 0 ≤ x ∧ x ≤ 255) := by decide
end Go.Proofs.Ytchhikfiofeckaa
