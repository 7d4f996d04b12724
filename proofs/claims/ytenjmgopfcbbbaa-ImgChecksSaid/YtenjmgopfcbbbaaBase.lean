/- Small lemmas that all of this seat's walks use: endings, blocks below a bound. No condition. -/
import Derived.Test.YtenjmgopfcbbbaaRows
import Derived.Test.YtenjmgopfcbbbaaPlan
import Derived.WalkKit
import Derived.ProofKit
import Derived.OpenShut
import Derived.ShutString
import Derived.ChangeOld
import Derived.Below
import Derived.Outline
import Derived.Lib.Hide
import Derived.Deep.QuietTactic
import Derived.BigQuiet
import Derived.Deep.RegionHeld3
import Derived.WalkSpells
import Derived.Deep.DeepFit
import Derived.Deep.DeepCutAuto
import Derived.Lib.SmallJoins
namespace Go.Proofs.Ytenjmgopfcbbbaa
open Go.ChangeShapes Go.WideShapes Go.ChangeAt Go.RowKit
set_option linter.unusedVariables false

theorem ret_int {k : IntKind} {a b : Int} (h : a = b) : Ending.returned (.int k a) = .returned (.int k b) := by rw [h]
theorem ret_bool {a b : Bool} (h : a = b) : Ending.returned (.bool a) = .returned (.bool b) := by rw [h]
theorem bcell {W w1 : World} (hb : Below W.heap.size W w1) : (∀ b o, b < W.heap.size → w1.cell? ⟨b, o, none⟩ = W.cell? ⟨b, o, none⟩) ∧ (∀ b o, b < W.heap.size → w1.frozen? ⟨b, o, none⟩ = W.frozen? ⟨b, o, none⟩) :=
  ⟨fun b o h => hb.cell (p := ⟨b, o, none⟩) h, fun b o h => hb.frozen (p := ⟨b, o, none⟩) h⟩

theorem bel_alloc {W w1 : World} (h : Below W.heap.size W w1) (o : Obj) : Below W.heap.size W (w1.alloc o) := h.alloc h.size o
theorem bel_set {W w1 : World} {p : Addr} {u : Value} (h : Below W.heap.size W w1) (hp : W.heap.size ≤ p.block) : Below W.heap.size W (w1.setCell p u) := h.setCell hp u
theorem bel_drew {W w1 : World} (h : Below W.heap.size W w1) : Below W.heap.size W w1.drew := h.drew
theorem bel_drewN {W w1 : World} (h : Below W.heap.size W w1) (n : Nat) : Below W.heap.size W (w1.drewN n) := ⟨h.os, h.tape, h.output, h.size, h.block⟩
theorem bel_step {W w1 w2 : World} (h : Below W.heap.size W w1) (hb : Below w1.heap.size w1 w2) : Below W.heap.size W w2 := h.trans (hb.mono h.size)

@[go_sem ↓] theorem run_max_max {P : Program} (w : World) (ts : Array TypeId) (t : TypeId) (k k' : IntKind) (x y : Int) : (Builtin.max_ ts t #[.int k x, .int k' y]).run P w = .ok (.int k (max x y)) w := by
  rw [run_max_int2]; congr 2; omega
@[go_sem ↓] theorem run_min_min {P : Program} (w : World) (ts : Array TypeId) (t : TypeId) (k k' : IntKind) (x y : Int) : (Builtin.min_ ts t #[.int k x, .int k' y]).run P w = .ok (.int k (min x y)) w := by
  rw [run_min_int2]; congr 2; omega

/-- A world under a name of its own. -/
theorem wp_name {P : Program} {c : Code} {Q : Exit → Act → World → Prop} {a : Act} {w : World} (h : ∀ w0, w0 = w → c.wp P Q a w0) : c.wp P Q a w := h w rfl
theorem wl_name {P : Program} {ops : Array Oper} {l : List Oper} {Q : Exit → Act → World → Prop} {a : Act} {w : World} (h : ∀ w0, w0 = w → wpList P ops Q l a w0) : wpList P ops Q l a w := h w rfl
/-- The condition under which a drawn region is walked: what was there when it began is there as it was. -/
theorem keep0 (w0 : World) : (∀ b o, b < w0.heap.size → w0.drew.cell? ⟨b, o, none⟩ = w0.cell? ⟨b, o, none⟩) ∧ Below w0.heap.size w0 w0.drew := ⟨fun _ _ _ => rfl, (Below.refl _ _).drew⟩
theorem keep1 {w0 w1 w2 : World} (h : (∀ b o, b < w0.heap.size → w1.cell? ⟨b, o, none⟩ = w0.cell? ⟨b, o, none⟩) ∧ Below w0.heap.size w0 w1) (hb : Below w1.heap.size w1 w2) :
    (∀ b o, b < w0.heap.size → w2.cell? ⟨b, o, none⟩ = w0.cell? ⟨b, o, none⟩) ∧ Below w0.heap.size w0 w2 := by
  have h2 := bel_step h.2 hb
  exact ⟨(bcell h2).1, h2⟩
end Go.Proofs.Ytenjmgopfcbbbaa
