/- The types of this program as the evaluator knows them. -/
import Derived.Test.YtaefmhdpfmpijaaGB
import Derived.Test.YtaefmhdpfmpijaaProg
namespace Go.Proofs.Ytaefmhdpfmpijaa.Abs
open Go

def tyList : List (Nat × TI) := [
  (0, ⟨.other, 1, 0, .top, []⟩),
  (2, ⟨.int .i64, 1, 8, .int .i64 0, []⟩),
  (3, ⟨.int .i64, 1, 8, .int .i64 0, []⟩),
  (4, ⟨.bool, 1, 1, .bool false, []⟩),
  (5, ⟨.int .u8, 1, 1, .int .u8 0, []⟩),
  (6, ⟨.int .u8, 1, 1, .int .u8 0, []⟩),
  (7, ⟨.struct [(0, 2), (1, 3), (2, 4), (3, 6)], 4, 24, .agg ([.int .i64 0, .int .i64 0, .bool false, .int .u8 0]), [⟨0, 1, [.int .i64 0]⟩, ⟨1, 1, [.int .i64 0]⟩, ⟨2, 1, [.bool false]⟩, ⟨3, 1, [.int .u8 0]⟩]⟩),
  (8, ⟨.struct [(0, 2), (1, 3), (2, 4), (3, 6)], 4, 24, .agg ([.int .i64 0, .int .i64 0, .bool false, .int .u8 0]), [⟨0, 1, [.int .i64 0]⟩, ⟨1, 1, [.int .i64 0]⟩, ⟨2, 1, [.bool false]⟩, ⟨3, 1, [.int .u8 0]⟩]⟩),
  (9, ⟨.str, 1, 16, .str [], []⟩),
  (10, ⟨.str, 1, 16, .str [], []⟩),
  (11, ⟨.str, 1, 16, .str [], []⟩),
  (12, ⟨.int .u64, 1, 8, .int .u64 0, []⟩),
  (13, ⟨.struct [(0, 9), (1, 12)], 2, 24, .agg ([.str [], .int .u64 0]), [⟨0, 1, [.str []]⟩, ⟨1, 1, [.int .u64 0]⟩]⟩),
  (14, ⟨.struct [(0, 9), (1, 12)], 2, 24, .agg ([.str [], .int .u64 0]), [⟨0, 1, [.str []]⟩, ⟨1, 1, [.int .u64 0]⟩]⟩),
  (15, ⟨.ptr 45, 1, 8, .nilp, []⟩),
  (16, ⟨.ptr 48, 1, 8, .nilp, []⟩),
  (17, ⟨.ptr 58, 1, 8, .nilp, []⟩),
  (18, ⟨.struct [(0, 17)], 1, 8, .agg ([.nilp]), [⟨0, 1, [.nilp]⟩]⟩),
  (19, ⟨.struct [(0, 17)], 1, 8, .agg ([.nilp]), [⟨0, 1, [.nilp]⟩]⟩),
  (20, ⟨.other, 1, 16, .top, []⟩),
  (21, ⟨.int .i32, 1, 4, .int .i32 0, []⟩),
  (22, ⟨.slice 5, 1, 24, .nil, []⟩),
  (24, ⟨.int .i64, 1, 8, .int .i64 0, []⟩),
  (25, ⟨.other, 1, 0, .top, []⟩),
  (30, ⟨.other, 1, 0, .top, []⟩),
  (34, ⟨.int .u64, 1, 8, .int .u64 0, []⟩),
  (36, ⟨.slice 3, 1, 24, .nil, []⟩),
  (40, ⟨.other, 1, 0, .top, []⟩),
  (42, ⟨.int .u64, 1, 8, .int .u64 0, []⟩),
  (44, ⟨.struct [(0, 17), (1, 17), (2, 17), (3, 9)], 4, 40, .agg ([.nilp, .nilp, .nilp, .str []]), [⟨0, 1, [.nilp]⟩, ⟨1, 1, [.nilp]⟩, ⟨2, 1, [.nilp]⟩, ⟨3, 1, [.str []]⟩]⟩),
  (45, ⟨.struct [(0, 17), (1, 17), (2, 17), (3, 9)], 4, 40, .agg ([.nilp, .nilp, .nilp, .str []]), [⟨0, 1, [.nilp]⟩, ⟨1, 1, [.nilp]⟩, ⟨2, 1, [.nilp]⟩, ⟨3, 1, [.str []]⟩]⟩),
  (46, ⟨.arr 0 16, 0, 0, .agg ([]), []⟩),
  (47, ⟨.struct [(0, 46)], 0, 0, .agg ([]), [⟨0, 0, []⟩]⟩),
  (48, ⟨.struct [(0, 46)], 0, 0, .agg ([]), [⟨0, 0, []⟩]⟩),
  (50, ⟨.int .u32, 1, 4, .int .u32 0, []⟩),
  (51, ⟨.int .u8, 1, 1, .int .u8 0, []⟩),
  (52, ⟨.int .u8, 1, 1, .int .u8 0, []⟩),
  (54, ⟨.ptr 5, 1, 8, .nilp, []⟩),
  (55, ⟨.int .i32, 1, 4, .int .i32 0, []⟩),
  (56, ⟨.int .i32, 1, 4, .int .i32 0, []⟩),
  (57, ⟨.struct [(0, 12), (1, 12), (2, 50), (3, 51), (4, 5), (5, 5), (6, 52), (7, 53), (8, 54), (9, 55), (10, 56)], 11, 48, .agg ([.int .u64 0, .int .u64 0, .int .u32 0, .int .u8 0, .int .u8 0, .int .u8 0, .int .u8 0, .top, .nilp, .int .i32 0, .int .i32 0]), [⟨0, 1, [.int .u64 0]⟩, ⟨1, 1, [.int .u64 0]⟩, ⟨2, 1, [.int .u32 0]⟩, ⟨3, 1, [.int .u8 0]⟩, ⟨4, 1, [.int .u8 0]⟩, ⟨5, 1, [.int .u8 0]⟩, ⟨6, 1, [.int .u8 0]⟩, ⟨7, 1, [.top]⟩, ⟨8, 1, [.nilp]⟩, ⟨9, 1, [.int .i32 0]⟩, ⟨10, 1, [.int .i32 0]⟩]⟩),
  (58, ⟨.struct [(0, 12), (1, 12), (2, 50), (3, 51), (4, 5), (5, 5), (6, 52), (7, 53), (8, 54), (9, 55), (10, 56)], 11, 48, .agg ([.int .u64 0, .int .u64 0, .int .u32 0, .int .u8 0, .int .u8 0, .int .u8 0, .int .u8 0, .top, .nilp, .int .i32 0, .int .i32 0]), [⟨0, 1, [.int .u64 0]⟩, ⟨1, 1, [.int .u64 0]⟩, ⟨2, 1, [.int .u32 0]⟩, ⟨3, 1, [.int .u8 0]⟩, ⟨4, 1, [.int .u8 0]⟩, ⟨5, 1, [.int .u8 0]⟩, ⟨6, 1, [.int .u8 0]⟩, ⟨7, 1, [.top]⟩, ⟨8, 1, [.nilp]⟩, ⟨9, 1, [.int .i32 0]⟩, ⟨10, 1, [.int .i32 0]⟩]⟩)]

def TT : Types := lookT tyList

theorem TTok : TOK Try.prog TT := tabChk_ok (by kernel_rfl)

theorem mixed : Try.prog.follows .mixedOrders = true := by kernel_rfl

end Go.Proofs.Ytaefmhdpfmpijaa.Abs
