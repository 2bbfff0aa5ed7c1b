/- What the evaluator is told of the program: its types, checked against the program's own table. -/
import Derived.Test.YtbfkfobfhjgphaaPevZ
import Derived.Test.YtbfkfobfhjgphaaProg
set_option linter.unusedVariables false
set_option maxRecDepth 100000
namespace Go.Proofs.Ytbfkfobfhjgphaa.Fn
open Go Go.Pev Go.Proofs
def tabL : List (Nat × TI) := [
  (2, ⟨.int .i64, 1, 8, [.int .i64 0], .int .i64, true⟩),
  (3, ⟨.int .i64, 1, 8, [.int .i64 0], .int .i64, true⟩),
  (4, ⟨.bool, 1, 1, [.bool false], .bool, true⟩),
  (5, ⟨.int .u8, 1, 1, [.int .u8 0], .int .u8, true⟩),
  (6, ⟨.int .u8, 1, 1, [.int .u8 0], .int .u8, true⟩),
  (7, ⟨.struct [(0, 1), (1, 1), (2, 1), (3, 1)], 4, 24, [.int .i64 0, .int .i64 0, .bool false, .int .u8 0], .pair (.int .i64) (.pair (.int .i64) (.pair (.bool) (.int .u8))), true⟩),
  (8, ⟨.struct [(0, 1), (1, 1), (2, 1), (3, 1)], 4, 24, [.int .i64 0, .int .i64 0, .bool false, .int .u8 0], .pair (.int .i64) (.pair (.int .i64) (.pair (.bool) (.int .u8))), true⟩),
  (9, ⟨.str, 1, 16, [.str ByteArray.empty], .str, true⟩),
  (10, ⟨.str, 1, 16, [.str ByteArray.empty], .str, true⟩),
  (11, ⟨.str, 1, 16, [.str ByteArray.empty], .str, true⟩),
  (12, ⟨.int .u64, 1, 8, [.int .u64 0], .int .u64, true⟩),
  (13, ⟨.struct [(0, 1), (1, 1)], 2, 24, [.str ByteArray.empty, .int .u64 0], .pair (.str) (.int .u64), true⟩),
  (14, ⟨.struct [(0, 1), (1, 1)], 2, 24, [.str ByteArray.empty, .int .u64 0], .pair (.str) (.int .u64), true⟩),
  (15, ⟨.other, 1, 8, [.nilp], .bool, false⟩),
  (16, ⟨.other, 1, 8, [.nilp], .bool, false⟩),
  (17, ⟨.other, 1, 8, [.nilp], .bool, false⟩),
  (18, ⟨.struct [(0, 1)], 1, 8, [.nilp], .bool, false⟩),
  (19, ⟨.struct [(0, 1)], 1, 8, [.nilp], .bool, false⟩),
  (21, ⟨.int .i32, 1, 4, [.int .i32 0], .int .i32, true⟩),
  (22, ⟨.struct [(0, 1), (1, 1)], 2, 16, [.int .i64 0, .int .i64 0], .pair (.int .i64) (.int .i64), true⟩),
  (23, ⟨.struct [(0, 1), (1, 1)], 2, 16, [.int .i64 0, .int .i64 0], .pair (.int .i64) (.int .i64), true⟩),
  (24, ⟨.struct [(0, 2), (2, 1), (3, 1), (4, 1)], 5, 40, [.int .i64 0, .int .i64 0, .int .i64 0, .int .i64 0, .int .i64 0], .pair (.int .i64) (.pair (.int .i64) (.pair (.int .i64) (.pair (.int .i64) (.int .i64)))), true⟩),
  (25, ⟨.struct [(0, 2), (2, 1), (3, 1), (4, 1)], 5, 40, [.int .i64 0, .int .i64 0, .int .i64 0, .int .i64 0, .int .i64 0], .pair (.int .i64) (.pair (.int .i64) (.pair (.int .i64) (.pair (.int .i64) (.int .i64)))), true⟩),
  (26, ⟨.slice 21, 1, 24, [.nilsl], .sl (.int .i32), true⟩),
  (27, ⟨.struct [(0, 1), (1, 5), (6, 1)], 7, 72, [.int .i64 0, .int .i64 0, .int .i64 0, .int .i64 0, .int .i64 0, .int .i64 0, .nilsl], .pair (.int .i64) (.pair (.int .i64) (.pair (.int .i64) (.pair (.int .i64) (.pair (.int .i64) (.pair (.int .i64) (.sl (.int .i32))))))), true⟩),
  (28, ⟨.struct [(0, 1), (1, 5), (6, 1)], 7, 72, [.int .i64 0, .int .i64 0, .int .i64 0, .int .i64 0, .int .i64 0, .int .i64 0, .nilsl], .pair (.int .i64) (.pair (.int .i64) (.pair (.int .i64) (.pair (.int .i64) (.pair (.int .i64) (.pair (.int .i64) (.sl (.int .i32))))))), true⟩),
  (29, ⟨.struct [(0, 1), (1, 1)], 2, 32, [.int .i64 0, .nilsl], .pair (.int .i64) (.sl (.int .i32)), true⟩),
  (30, ⟨.struct [(0, 1), (1, 1)], 2, 32, [.int .i64 0, .nilsl], .pair (.int .i64) (.sl (.int .i32)), true⟩),
  (31, ⟨.slice 5, 1, 24, [.nilsl], .sl (.int .u8), true⟩),
  (35, ⟨.other, 1, 8, [.nilp], .bool, false⟩),
  (38, ⟨.slice 28, 1, 24, [.nilsl], .sl (.pair (.int .i64) (.pair (.int .i64) (.pair (.int .i64) (.pair (.int .i64) (.pair (.int .i64) (.pair (.int .i64) (.sl (.int .i32)))))))), true⟩),
  (40, ⟨.slice 30, 1, 24, [.nilsl], .sl (.pair (.int .i64) (.sl (.int .i32))), true⟩),
  (41, ⟨.int .i64, 1, 8, [.int .i64 0], .int .i64, true⟩),
  (49, ⟨.slice 3, 1, 24, [.nilsl], .sl (.int .i64), true⟩),
  (67, ⟨.int .i16, 1, 2, [.int .i16 0], .int .i16, true⟩),
  (70, ⟨.struct [(0, 1), (1, 1), (2, 1), (3, 1)], 4, 32, [.int .i64 0, .int .i64 0, .int .i64 0, .int .i64 0], .pair (.int .i64) (.pair (.int .i64) (.pair (.int .i64) (.int .i64))), true⟩),
  (71, ⟨.struct [(0, 1), (1, 1), (2, 1), (3, 1)], 4, 32, [.int .i64 0, .int .i64 0, .int .i64 0, .int .i64 0], .pair (.int .i64) (.pair (.int .i64) (.pair (.int .i64) (.int .i64))), true⟩),
  (72, ⟨.struct [(0, 1), (1, 4), (5, 7), (12, 1), (13, 1)], 14, 128, [.int .i64 0, .int .i64 0, .int .i64 0, .int .i64 0, .int .i64 0, .int .i64 0, .int .i64 0, .int .i64 0, .int .i64 0, .int .i64 0, .int .i64 0, .nilsl, .int .i64 0, .int .i64 0], .pair (.int .i64) (.pair (.int .i64) (.pair (.int .i64) (.pair (.int .i64) (.pair (.int .i64) (.pair (.int .i64) (.pair (.int .i64) (.pair (.int .i64) (.pair (.int .i64) (.pair (.int .i64) (.pair (.int .i64) (.pair (.sl (.int .i32)) (.pair (.int .i64) (.int .i64))))))))))))), true⟩),
  (73, ⟨.struct [(0, 1), (1, 4), (5, 7), (12, 1), (13, 1)], 14, 128, [.int .i64 0, .int .i64 0, .int .i64 0, .int .i64 0, .int .i64 0, .int .i64 0, .int .i64 0, .int .i64 0, .int .i64 0, .int .i64 0, .int .i64 0, .nilsl, .int .i64 0, .int .i64 0], .pair (.int .i64) (.pair (.int .i64) (.pair (.int .i64) (.pair (.int .i64) (.pair (.int .i64) (.pair (.int .i64) (.pair (.int .i64) (.pair (.int .i64) (.pair (.int .i64) (.pair (.int .i64) (.pair (.int .i64) (.pair (.sl (.int .i32)) (.pair (.int .i64) (.int .i64))))))))))))), true⟩),
  (75, ⟨.slice 73, 1, 24, [.nilsl], .sl (.pair (.int .i64) (.pair (.int .i64) (.pair (.int .i64) (.pair (.int .i64) (.pair (.int .i64) (.pair (.int .i64) (.pair (.int .i64) (.pair (.int .i64) (.pair (.int .i64) (.pair (.int .i64) (.pair (.int .i64) (.pair (.sl (.int .i32)) (.pair (.int .i64) (.int .i64)))))))))))))), true⟩),
  (87, ⟨.int .u64, 1, 8, [.int .u64 0], .int .u64, true⟩),
  (92, ⟨.int .i8, 1, 1, [.int .i8 0], .int .i8, true⟩),
  (93, ⟨.slice 103, 1, 24, [.nilsl], .sl (.pair (.int .i64) (.int .i64)), true⟩),
  (94, ⟨.struct [(0, 2), (2, 2), (4, 1), (5, 1), (6, 1)], 7, 72, [.int .i64 0, .int .i64 0, .int .i64 0, .int .i64 0, .int .i64 0, .int .i64 0, .nilsl], .pair (.int .i64) (.pair (.int .i64) (.pair (.int .i64) (.pair (.int .i64) (.pair (.int .i64) (.pair (.int .i64) (.sl (.pair (.int .i64) (.int .i64)))))))), true⟩),
  (95, ⟨.struct [(0, 2), (2, 2), (4, 1), (5, 1), (6, 1)], 7, 72, [.int .i64 0, .int .i64 0, .int .i64 0, .int .i64 0, .int .i64 0, .int .i64 0, .nilsl], .pair (.int .i64) (.pair (.int .i64) (.pair (.int .i64) (.pair (.int .i64) (.pair (.int .i64) (.pair (.int .i64) (.sl (.pair (.int .i64) (.int .i64)))))))), true⟩),
  (102, ⟨.struct [(0, 1), (1, 1)], 2, 16, [.int .i64 0, .int .i64 0], .pair (.int .i64) (.int .i64), true⟩),
  (103, ⟨.struct [(0, 1), (1, 1)], 2, 16, [.int .i64 0, .int .i64 0], .pair (.int .i64) (.int .i64), true⟩),
  (105, ⟨.struct [(0, 1), (1, 1), (2, 1), (3, 1), (4, 1)], 5, 56, [.int .i64 0, .int .i64 0, .int .i64 0, .int .i64 0, .nilsl], .pair (.int .i64) (.pair (.int .i64) (.pair (.int .i64) (.pair (.int .i64) (.sl (.int .i32))))), true⟩),
  (106, ⟨.struct [(0, 1), (1, 1), (2, 1), (3, 1), (4, 1)], 5, 56, [.int .i64 0, .int .i64 0, .int .i64 0, .int .i64 0, .nilsl], .pair (.int .i64) (.pair (.int .i64) (.pair (.int .i64) (.pair (.int .i64) (.sl (.int .i32))))), true⟩),
  (107, ⟨.struct [(0, 1), (1, 1), (2, 1), (3, 1), (4, 7), (11, 5), (16, 1), (17, 1), (18, 1)], 19, 184, [.int .i64 0, .int .i64 0, .int .i64 0, .int .i64 0, .int .i64 0, .int .i64 0, .int .i64 0, .int .i64 0, .int .i64 0, .int .i64 0, .nilsl, .int .i64 0, .int .i64 0, .int .i64 0, .int .i64 0, .nilsl, .int .i64 0, .int .i64 0, .int .i64 0], .pair (.int .i64) (.pair (.int .i64) (.pair (.int .i64) (.pair (.int .i64) (.pair (.int .i64) (.pair (.int .i64) (.pair (.int .i64) (.pair (.int .i64) (.pair (.int .i64) (.pair (.int .i64) (.pair (.sl (.int .i32)) (.pair (.int .i64) (.pair (.int .i64) (.pair (.int .i64) (.pair (.int .i64) (.pair (.sl (.int .i32)) (.pair (.int .i64) (.pair (.int .i64) (.int .i64)))))))))))))))))), true⟩),
  (108, ⟨.struct [(0, 1), (1, 1), (2, 1), (3, 1), (4, 7), (11, 5), (16, 1), (17, 1), (18, 1)], 19, 184, [.int .i64 0, .int .i64 0, .int .i64 0, .int .i64 0, .int .i64 0, .int .i64 0, .int .i64 0, .int .i64 0, .int .i64 0, .int .i64 0, .nilsl, .int .i64 0, .int .i64 0, .int .i64 0, .int .i64 0, .nilsl, .int .i64 0, .int .i64 0, .int .i64 0], .pair (.int .i64) (.pair (.int .i64) (.pair (.int .i64) (.pair (.int .i64) (.pair (.int .i64) (.pair (.int .i64) (.pair (.int .i64) (.pair (.int .i64) (.pair (.int .i64) (.pair (.int .i64) (.pair (.sl (.int .i32)) (.pair (.int .i64) (.pair (.int .i64) (.pair (.int .i64) (.pair (.int .i64) (.pair (.sl (.int .i32)) (.pair (.int .i64) (.pair (.int .i64) (.int .i64)))))))))))))))))), true⟩),
  (124, ⟨.struct [(0, 1)], 1, 24, [.nilsl], .sl (.int .u8), true⟩),
  (125, ⟨.struct [(0, 1)], 1, 24, [.nilsl], .sl (.int .u8), true⟩),
  (142, ⟨.slice 2, 1, 24, [.nilsl], .sl (.int .i64), true⟩),
  (148, ⟨.slice 23, 1, 24, [.nilsl], .sl (.pair (.int .i64) (.int .i64)), true⟩),
  (154, ⟨.int .u64, 1, 8, [.int .u64 0], .int .u64, true⟩),
  (155, ⟨.struct [(0, 1), (1, 1)], 2, 16, [.int .u64 0, .int .u64 0], .pair (.int .u64) (.int .u64), true⟩),
  (156, ⟨.struct [(0, 1), (1, 1)], 2, 16, [.int .u64 0, .int .u64 0], .pair (.int .u64) (.int .u64), true⟩),
  (167, ⟨.struct [(0, 1), (1, 1)], 2, 32, [.nilsl, .undef], .bool, false⟩),
  (168, ⟨.struct [(0, 1), (1, 1)], 2, 32, [.nilsl, .undef], .bool, false⟩),
  (182, ⟨.slice 26, 1, 24, [.nilsl], .sl (.sl (.int .i32)), true⟩),
  (200, ⟨.struct [(0, 1), (1, 1), (2, 1), (3, 1)], 4, 40, [.nilp, .nilp, .nilp, .str ByteArray.empty], .bool, false⟩),
  (201, ⟨.struct [(0, 1), (1, 1), (2, 1), (3, 1)], 4, 40, [.nilp, .nilp, .nilp, .str ByteArray.empty], .bool, false⟩),
  (206, ⟨.int .u32, 1, 4, [.int .u32 0], .int .u32, true⟩),
  (207, ⟨.int .u8, 1, 1, [.int .u8 0], .int .u8, true⟩),
  (208, ⟨.int .u8, 1, 1, [.int .u8 0], .int .u8, true⟩),
  (210, ⟨.other, 1, 8, [.nilp], .bool, false⟩),
  (211, ⟨.int .i32, 1, 4, [.int .i32 0], .int .i32, true⟩),
  (212, ⟨.int .i32, 1, 4, [.int .i32 0], .int .i32, true⟩),
  (213, ⟨.struct [(0, 1), (1, 1), (2, 1), (3, 1), (4, 1), (5, 1), (6, 1), (7, 1), (8, 1), (9, 1), (10, 1)], 11, 48, [.int .u64 0, .int .u64 0, .int .u32 0, .int .u8 0, .int .u8 0, .int .u8 0, .int .u8 0, .undef, .nilp, .int .i32 0, .int .i32 0], .bool, false⟩),
  (214, ⟨.struct [(0, 1), (1, 1), (2, 1), (3, 1), (4, 1), (5, 1), (6, 1), (7, 1), (8, 1), (9, 1), (10, 1)], 11, 48, [.int .u64 0, .int .u64 0, .int .u32 0, .int .u8 0, .int .u8 0, .int .u8 0, .int .u8 0, .undef, .nilp, .int .i32 0, .int .i32 0], .bool, false⟩)]
def eqL : List (Nat × List Ty) := [(4, []), (7, [.int .i64, .int .i64, .bool, .int .u8]), (8, [.int .i64, .int .i64, .bool, .int .u8]), (22, [.int .i64, .int .i64]), (23, [.int .i64, .int .i64]), (24, [.int .i64, .int .i64, .int .i64, .int .i64, .int .i64]), (25, [.int .i64, .int .i64, .int .i64, .int .i64, .int .i64]), (70, [.int .i64, .int .i64, .int .i64, .int .i64]), (71, [.int .i64, .int .i64, .int .i64, .int .i64]), (102, [.int .i64, .int .i64]), (103, [.int .i64, .int .i64]), (155, [.int .u64, .int .u64]), (156, [.int .u64, .int .u64])]

def tab : TypeId → Option TI := tabOf tabL
theorem tab_ok : TabOK Try.prog tab := tabOf_ok tabL (by kernel_rfl)
theorem hmix : Try.prog.follows .mixedOrders = true := by kernel_rfl
def eqs : TypeId → Option (List Ty) := eqsOf eqL
theorem eq_ok : EqOK Try.prog eqs := eqsOf_ok eqL (by kernel_rfl)
end Go.Proofs.Ytbfkfobfhjgphaa.Fn
