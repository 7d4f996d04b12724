
/- The engine: bytealg.MakeNoZero, which the model answers itself: a new row of whatever bytes. No condition. -/
import Derived.Test.YtchhikfiofeckaaU
import Derived.Lib.MakeNoZero
import Derived.Laws.Externs
namespace Go.Proofs.Ytchhikfiofeckaa
open Go Go.RowKit
set_option linter.unusedVariables false
set_option linter.unusedSimpArgs false
set_option maxRecDepth 100000

def mnzB (o : Op) : Bool := match o with | .call { callee := .value (.func f), args, .. } => Nat.beq f 129 && Nat.beq args.size 1 | _ => false
def mnzX (e : Env) (H : AH) (o : Op) (K : AV → AH → Prop) : Prop := match o with
  | .call { callee := .value (.func f), args, .. } => (match args.toList with
    | [x] => (match evA e x with
      | some (.int .i64 n) => (0 ≤ n ∧ n ≤ 140737488355328) ∧ ∀ xs : List Int, xs.length = n.toNat → K (.sl H.nx 1 0 n.toNat) (H.push (.ints 5 .u8 xs))
      | _ => False)
    | _ => False)
  | _ => False
noncomputable def xop3 (T : TypeId → Option TI) (o : Op) (e : Env) (H : AH) (K : AV → AH → Prop) : Prop := match mnzB o with
  | true => mnzX e H o K
  | false => xop2 T o e H K
def xsD (T : TypeId → Option TI) (o : Op) (e : Env) (H : AH) : Bool := mnzB o || xsC T o e H

theorem digits_int : ∀ (n t : Nat) (acc : Array Value), (∀ (j : Nat) (v : Value), acc[j]? = some v → ∃ z, v = .int .u8 z) → ∀ (j : Nat) (v : Value), (Extern.BytealgMakeNoZero.digits n t acc)[j]? = some v → ∃ z, v = .int .u8 z
  | 0, _, _, h => h
  | n + 1, t, acc, h => by
    rw [Extern.BytealgMakeNoZero.digits]
    refine digits_int n _ _ fun j v hj => ?_
    rw [Array.getElem?_push] at hj
    split at hj
    · cases hj; exact ⟨_, rfl⟩
    · exact h j v hj
section
variable {C : Ctx} {R : PN} {w : World} {F Ob : Nat → Prop} {W0 : World} {H : AH}
theorem mnz_run (w : World) (n : Nat) (hn : n ≤ 281474976710656) : ∃ cs : Array Value, (callFunc 129 #[.int .i64 (n : Int)]).run Try.prog w = .ok (.value (.slice (some ⟨w.heap.size, 0, none⟩) n cs.size)) (w.drew.drew.alloc (.cells cs 5)) ∧ n ≤ cs.size ∧ (n ≤ maxLen → cs.size ≤ maxLen) ∧ (∀ (j : Nat) (v : Value), cs[j]? = some v → ∃ z, v = .int .u8 z) := by
  have hdef : Extern.BytealgMakeNoZero.makeNoZero #[3] #[22] #[.int .i64 (n : Int)] =
      (do
        let .slice elem ← underlying 22 | stuck "bytealg.MakeNoZero: slice type expected"
        if (n : Int) < 0 || (n : Int) > 2 ^ 48 then runtimePanic (.error "makeslice: len out of range")
        let cap ← choose (.appendCap (n : Int).toNat 0 elem)
        askRoom cap
        let bytes ← choose (.extern "internal/bytealg.MakeNoZero.bytes" 0)
        let a ← newRow elem (Extern.BytealgMakeNoZero.digits cap bytes #[])
        pure (.slice (some a) (n : Int).toNat cap)) := rfl
  refine ⟨Extern.BytealgMakeNoZero.digits (grownCap w n 0 5) ((Question.extern "internal/bytealg.MakeNoZero.bytes" 0).cut (w.tape (w.drawn + 1) (.extern "internal/bytealg.MakeNoZero.bytes" 0))) #[], ?_, ?_, ?_, ?_⟩
  · rw [run_callFunc_extern Try.func129 (by kernel_rfl) (by kernel_rfl) (by kernel_rfl) (e := Extern.BytealgMakeNoZero.makeNoZero #[3] #[22]) (by kernel_rfl), hdef]
    have h1 : ¬ (n : Int) < 0 := by omega
    have h2 : ¬ (281474976710656 : Int) < (n : Int) := by omega
    simp [run_underlying Try.underlying22, h1, h2, Question.forced, newRow, Lib.size_digits, grownCap, Result.andThen]
  · rw [Lib.size_digits]
    simpa using grownCap_ge w n 0 5
  · intro hm
    rw [Lib.size_digits]
    simpa using grownCap_le_maxLen w n 0 5 hm
  · exact digits_int _ _ _ fun j v h => by simp at h

theorem mnz_ok {o : Oper} {a : Act} {e : Env} {K : AV → AH → Prop} (hb : mnzB o.op = true) (h : mnzX e H o.op K) (hH : HRel F Ob W0 R H w) (hE : ERel R w (Wr F R H) e a.tmps) : o.wp Try.prog a w (GP F Ob W0 R H o a e K) NoWay := by
  unfold mnzX at h
  split at h
  rotate_left
  · exact h.elim
  rename_i f args ts ho
  rw [ho] at hb
  simp only [mnzB, Bool.and_eq_true] at hb
  obtain rfl : f = 129 := beq_iff.1 hb.1
  split at h
  rotate_left
  · exact h.elim
  rename_i x hargs
  split at h
  rotate_left
  · exact h.elim
  rename_i n hx
  obtain ⟨⟨h0, h1⟩, hK⟩ := h
  have hr := evA_rep hE hx
  have hv : a.eval x = .int .i64 n := by generalize a.eval x = v at hr; cases hr; rfl
  have hargs' : args = #[x] := by rw [← Array.toArray_toList (xs := args), hargs]
  obtain ⟨m, rfl⟩ := Int.eq_ofNat_of_zero_le h0
  obtain ⟨cs, k1, k2, k3, k4⟩ := mnz_run w m (by omega)
  have hrun : (execOp a.eval o).run Try.prog w = .ok (.value (.slice (some ⟨w.heap.size, 0, none⟩) m cs.size)) (w.drew.drew.alloc (.cells cs 5)) := by
    simp [execOp, ho, hargs', resolve, Act.eval, hv, Deferred.ofValue, invoke, k1]
    rw [← hv] at k1
    simpa [Act.eval, hv] using k1
  have hxt : Ext (fun _ => False) w (w.drew.drew.alloc (.cells cs 5)) := (Ext.drew _ w).trans ((Ext.drew _ _).trans (Ext.alloc _ _ _) fun _ _ k => k) fun _ _ k => k
  obtain ⟨xs, hxs⟩ : ∃ xs : List Int, xs.length = m ∧ ∀ (j : Nat) (z : Int), xs[j]? = some z → cs[j]? = some (.int .u8 z) := by
    refine ⟨(List.range m).map fun j => (match cs[j]? with | some (Value.int _ z) => z | _ => 0 : Int), by simp, fun j z hj => ?_⟩
    simp only [List.getElem?_map, Option.map_eq_some_iff] at hj
    obtain ⟨i, hi, hz⟩ := hj
    obtain ⟨hil, rfl⟩ := List.getElem?_eq_some_iff.1 hi
    simp only [List.getElem_range, List.length_range] at hz hil
    have hjc : j < cs.size := by omega
    obtain ⟨z', hz'⟩ := k4 j cs[j] (by simp [hjc])
    rw [Array.getElem?_eq_getElem hjc, hz'] at hz
    rw [Array.getElem?_eq_getElem hjc, hz']
    rw [← hz]
  have hle : xs.length ≤ cs.toList.length := by rw [hxs.1]; simpa using k2
  have hp : (w.drew.drew.alloc (.cells cs 5)).heap[w.heap.size]? = some (.cells cs 5) := heap_push w.drew.drew _
  obtain ⟨p1, p2⟩ := hH.push (b := some w.heap.size) (en := .ints 5 .u8 xs) hxt (fun g hg => by cases hg; exact Nat.le_refl _) (fun O' hO' =>
    ⟨cs.toList, (0, 0), by rw [hp, Array.toArray_toList], rfl, hle, fun j z hj => by
      rw [Array.getElem?_toList]; exact hxs.2 j z hj⟩)
  have := hK xs hxs.1
  refine gp_run hrun hE this hH.len (fun i hi => pre_nx _ i hi) (hxt.weaken fun _ _ k => k.elim) p1 p2 (.sl _ _ _ _ w.heap.size cs.size 0 (5, cs.size) (by exact app_last _ _ _) (by simpa using k2) (k3 (by simp only [maxLen]; omega)) (fun _ => by simp) (by unfold World.shape?; rw [hp]) (by simp))
theorem xok3 (hT : TOK Try.prog C.T) (hC : C.X = xop3 C.T) : XOK Try.prog C := by
  intro o a e F Ob W0 R H w K h hH hE
  rw [hC] at h
  unfold xop3 at h
  split at h
  · rename_i hb; exact mnz_ok hb h hH hE
  · refine xok2 (C := { C with X := xop2 C.T }) hT rfl o a e F Ob W0 R H w K ?_ hH hE
    exact h
end
theorem copyok3 {C : Ctx} (hC : C.X = xop3 C.T) : CopyOK C := by
  intro o e H obs v δ nx K h ho hK
  rw [hC]
  have h2 := copyok2 (C := { C with X := xop2 C.T }) rfl o e H obs v δ nx K h ho hK
  have hm : mnzB o = false := by
    unfold dcopy at h
    split at h
    · rfl
    · cases h
  unfold xop3
  rw [hm]
  exact h2
def mkZ (p : Nat) (S : List (FuncId × PSpec)) (G : FuncId → Option GSpec) (cuts : List Nat) : Ctx := ⟨p, tlook tt, slook S, G, xsD (tlook tt), xop3 (tlook tt), fun i => cuts.any (Nat.beq i), fun _ _ _ => none, fun _ => false⟩
theorem mkZ_ok {p : Nat} {S : List (FuncId × PSpec)} {G : FuncId → Option GSpec} {cuts : List Nat} (hS : POK Try.prog (slook S)) (hG : ∀ g s, G g = some s → GSOK Try.prog g s) : COK Try.prog (mkZ p S G cuts) :=
  ⟨ttok, hS, gok_of ttok (xok3 ttok rfl) hG, (fun _ _ _ _ _ _ _ _ h => by cases h), copyok3 rfl⟩
end Go.Proofs.Ytchhikfiofeckaa
