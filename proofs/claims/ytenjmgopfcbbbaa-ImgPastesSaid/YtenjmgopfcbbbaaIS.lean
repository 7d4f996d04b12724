/- The law ImgPastes: its conditions. -/
import Derived.Test.YtenjmgopfcbbbaaI8c
namespace Go.Proofs.Ytenjmgopfcbbbaa
open Go Go.RowKit
set_option linter.unusedVariables false
set_option linter.unusedSimpArgs false
set_option maxRecDepth 100000

theorem walk_ImgPastes' (w h c : Int) (m : List Int) (v g d : Int) (a : List Int) (x y : Int) (W : World) {cl : List Value} (hc : CRel noN W NoO [imA w h c m, imA v g d a, .agg [.int .i64 x, .int .i64 y]] cl) :
    Calls Try.prog 10 cl.toArray W fun e W' => e = .returned (.bool true) ∧ Below W.heap.size W W' := by
  refine law_of (l := [imA w h c m, imA v g d a, .agg [.int .i64 x, .int .i64 y]]) (C := mkK 0 [(17, fewS), (57, pasteS), (21, sameS), (58, pasteNilS), (22, aliveS)] (glook [(58, fG pasteF)]) [3, 5])
    (mkK_ok (pok_cons few_s (pok_cons rpaste_s (pok_cons rsame_s (pok_cons pasteNil_s (pok_cons alive7_s pok_nil))))) (gl_cons paste_g gl_nil)) rfl ⟨Try.func10, by kernel_rfl, by kernel_rfl, by kernel_rfl⟩ (by exact Nat.le_of_ble_eq_true rfl) ?_ hc
  refine ⟨fun h1 => rfl, fun h1 => ⟨fun h2 => rfl, fun h2 => ?_⟩⟩
  replace h1 : (m.length : Int) ≤ 20000 := by simpa using h1
  replace h2 : (a.length : Int) ≤ 20000 := by simpa using h2
  repeat (refine ⟨Chk.mk (by kernel_rfl), ?_⟩)
  refine ⟨rfl, ?o2, ?o3, ?_⟩
  · show (((0 : Nat) : Int) + (m.length : Int)) * ((1 : Nat) : Int) ≤ 140737488355328; omega
  · show 0 + m.length ≤ 140737488355328; omega
  repeat (refine ⟨Chk.mk (by kernel_rfl), ?_⟩)
  refine ⟨[(3, .ptr 0 0), (4, .ptr 1 0), (5, .ptr 2 0), (7, .ptr 3 0)],
    ⟨5, [(0, some (.cells 24 [.int .i64 w, .int .i64 h, .int .i64 c, .roi .u8 m])), (1, some (.cells 24 [.int .i64 v, .int .i64 g, .int .i64 d, .roi .u8 a])), (2, some (.cells 36 [.int .i64 x, .int .i64 y])), (3, some (.cells 24 [.int .i64 w, .int .i64 h, .int .i64 c, .sl 4 1 0 m.length])), (4, some (.ints 5 .u8 m))]⟩, [some 0, some 1, some 2, some 5, some 4], ?_, ?_⟩
  · (repeat' (first | apply And.intro | intro h)); (all_goals (try exact Chk.mk (by kernel_rfl)))
    (all_goals (try first | exact True.intro | exact rfl | exact And.intro rfl rfl | exact And.intro rfl (fun _ _ => rfl)))
    exact Nat.zero_add _
  refine ⟨by decide, by decide, by decide, by decide, [3, 4], ⟨by kernel_rfl⟩, rfl, ?_⟩
  refine ⟨[(4, .ptr 1 0), (7, .ptr 3 0), (8, .ptr 5 0), (9, .int .i64 (pasteC w h c m.length v g d a.length x y)), (10, .int .i64 (pasteC w h c m.length v g d a.length x y))],
    ⟨6, [(1, some (.cells 24 [.int .i64 v, .int .i64 g, .int .i64 d, .roi .u8 a])), (3, some (.cells 24 [.int .i64 w, .int .i64 h, .int .i64 c, .sl 4 1 0 m.length])), (4, some (.ints 5 .u8 (pasteI w h c m v g d a x y))), (5, some (.cells 24 [.int .i64 w, .int .i64 h, .int .i64 c, .roi .u8 (pasteL w h c m v g d a x y)]))]⟩, [some 0, some 1, some 2, some 3, some 4, some 5], ?_, ?_⟩
  · (repeat' (first | apply And.intro | intro h)); (all_goals (try exact Chk.mk (by kernel_rfl)))
    (all_goals (try first | exact True.intro | exact rfl | exact And.intro rfl rfl | exact And.intro rfl (fun _ _ => rfl)))
  have e1 : (pasteL w h c m v g d a x y).length = m.length := by unfold pasteL; split; exact stepL_len _ _ _ _ _; rfl
  have e2 : List.take m.length (List.drop 0 (pasteI w h c m v g d a x y)) = pasteL w h c m v g d a x y := by
    rw [paste_eq, ← e1]; simp
  have e3 : sameM w h c (List.take m.length (List.drop 0 (pasteI w h c m v g d a x y))) w h c (pasteL w h c m v g d a x y) = true := by
    rw [e2]; simp [sameM]
  have o1 : 0 + m.length ≤ (pasteI w h c m v g d a x y).length := by rw [paste_eq, e1]; omega
  have o2 : (List.take m.length (List.drop 0 (pasteI w h c m v g d a x y))).length ≤ 1152921504606846975 := by rw [e2, e1]; omega
  rw [List.drop_zero] at e3
  (repeat (first | (refine ⟨fun hh => absurd hh ?prx, fun _ => ?_⟩; (case prx => (simp [e3]; done))) | (refine ⟨fun _ => ?_, fun hh => absurd hh ?prx⟩; (case prx => (simp [e3]; done))) | (refine ⟨?prx, ?_⟩; (case prx => (first | exact Chk.mk (by kernel_rfl) | exact rfl | (first | exact o1 | exact o2))))))
  exact rfl
end Go.Proofs.Ytenjmgopfcbbbaa
