/- The table of this translation's types, for the engine: each row is what the program's own table says (tt_ok). No condition. -/
import Derived.Test.YtdiflkabpjnncaaE12
import Derived.Test.YtdiflkabpjnncaaRows
namespace Go.Proofs.Ytdiflkabpjnncaa
open Go
set_option maxRecDepth 100000
def tt : List (Nat × TI) := [
  (3, ⟨.int .i64, 1, 8, [.int .i64 0], false⟩),
  (4, ⟨.bool, 1, 1, [.bool false], false⟩),
  (5, ⟨.int .u8, 1, 1, [.int .u8 0], false⟩),
  (2, ⟨.int .i64, 1, 8, [.int .i64 0], false⟩),
  (9, ⟨.str, 1, 16, [.string { data := #[] }], false⟩),
  (12, ⟨.int .u64, 1, 8, [.int .u64 0], false⟩),
  (21, ⟨.int .i32, 1, 4, [.int .i32 0], false⟩),
  (22, ⟨.slice 5, 1, 24, [.slice none 0 0], false⟩),
  (23, ⟨.struct [(0, 3), (1, 3), (2, 3), (3, 22)], 4, 48, [.int .i64 0, .int .i64 0, .int .i64 0, .slice none 0 0], true⟩),
  (24, ⟨.struct [(0, 3), (1, 3), (2, 3), (3, 22)], 4, 48, [.int .i64 0, .int .i64 0, .int .i64 0, .slice none 0 0], true⟩),
  (26, ⟨.int .i64, 1, 8, [.int .i64 0], false⟩),
  (29, ⟨.slice 24, 1, 24, [.slice none 0 0], false⟩),
  (41, ⟨.struct [(0, 24)], 4, 48, [.int .i64 0, .int .i64 0, .int .i64 0, .slice none 0 0], true⟩),
  (42, ⟨.struct [(0, 24)], 4, 48, [.int .i64 0, .int .i64 0, .int .i64 0, .slice none 0 0], true⟩),
  (56, ⟨.int .u32, 1, 4, [.int .u32 0], false⟩),
  (60, ⟨.ptr, 1, 8, [.pointer none], false⟩),
  (1, ⟨.fn, 1, 8, [.nilFunc], false⟩),
  (25, ⟨.fn, 1, 8, [.nilFunc], false⟩),
  (28, ⟨.fn, 1, 8, [.nilFunc], false⟩),
  (31, ⟨.fn, 1, 8, [.nilFunc], false⟩),
  (32, ⟨.fn, 1, 8, [.nilFunc], false⟩),
  (33, ⟨.fn, 1, 8, [.nilFunc], false⟩),
  (34, ⟨.fn, 1, 8, [.nilFunc], false⟩),
  (35, ⟨.fn, 1, 8, [.nilFunc], false⟩),
  (36, ⟨.fn, 1, 8, [.nilFunc], false⟩),
  (37, ⟨.fn, 1, 8, [.nilFunc], false⟩),
  (38, ⟨.fn, 1, 8, [.nilFunc], false⟩),
  (39, ⟨.fn, 1, 8, [.nilFunc], false⟩),
  (40, ⟨.fn, 1, 8, [.nilFunc], false⟩),
  (43, ⟨.fn, 1, 8, [.nilFunc], false⟩),
  (44, ⟨.fn, 1, 8, [.nilFunc], false⟩),
  (46, ⟨.fn, 1, 8, [.nilFunc], false⟩),
  (47, ⟨.fn, 1, 8, [.nilFunc], false⟩),
  (48, ⟨.fn, 1, 8, [.nilFunc], false⟩),
  (49, ⟨.fn, 1, 8, [.nilFunc], false⟩),
  (55, ⟨.fn, 1, 8, [.nilFunc], false⟩),
  (59, ⟨.fn, 1, 8, [.nilFunc], false⟩)]
theorem tt_ok : tt.map (fun p => probe Try.prog p.1) = tt.map (fun p => some p.2) := by kernel_rfl
end Go.Proofs.Ytdiflkabpjnncaa
