/- The seat's types and functions, for the machine over values. -/
import Derived.Test.YtfdemnefkfkghaaRA
import Derived.Test.YtfdemnefkfkghaaProg
namespace Go.Proofs.Ytfdemnefkfkghaa.R
open Go Go.Proofs
def table : List (Option TI) := [
  none,
  some ⟨.func, 1, 8, .nilf⟩,
  some ⟨.int .i64, 1, 8, .int .i64 0⟩,
  some ⟨.int .i64, 1, 8, .int .i64 0⟩,
  some ⟨.bool, 1, 1, .bool false⟩,
  some ⟨.int .u8, 1, 1, .int .u8 0⟩,
  some ⟨.int .u8, 1, 1, .int .u8 0⟩,
  none,
  none,
  some ⟨.str, 1, 16, .str ⟨#[]⟩⟩,
  some ⟨.str, 1, 16, .str ⟨#[]⟩⟩,
  some ⟨.str, 1, 16, .str ⟨#[]⟩⟩,
  some ⟨.int .u64, 1, 8, .int .u64 0⟩,
  none,
  none,
  some ⟨.ptr, 1, 8, .nilp⟩,
  some ⟨.ptr, 1, 8, .nilp⟩,
  some ⟨.ptr, 1, 8, .nilp⟩,
  none,
  none,
  some ⟨.iface, 1, 16, .nili⟩,
  some ⟨.int .i32, 1, 4, .int .i32 0⟩,
  some ⟨.slice 95, 1, 24, .nils⟩,
  some ⟨.func, 1, 8, .nilf⟩,
  some ⟨.func, 1, 8, .nilf⟩,
  some ⟨.int .i64, 1, 8, .int .i64 0⟩,
  none,
  some ⟨.func, 1, 8, .nilf⟩,
  none,
  some ⟨.func, 1, 8, .nilf⟩,
  some ⟨.func, 1, 8, .nilf⟩,
  some ⟨.slice 5, 1, 24, .nils⟩,
  some ⟨.func, 1, 8, .nilf⟩,
  some ⟨.slice 136, 1, 24, .nils⟩,
  none,
  some ⟨.func, 1, 8, .nilf⟩,
  none,
  some ⟨.func, 1, 8, .nilf⟩,
  some ⟨.func, 1, 8, .nilf⟩,
  none,
  some ⟨.func, 1, 8, .nilf⟩,
  some ⟨.func, 1, 8, .nilf⟩,
  some ⟨.int .u32, 1, 4, .int .u32 0⟩,
  some ⟨.func, 1, 8, .nilf⟩,
  some ⟨.func, 1, 8, .nilf⟩,
  none,
  some ⟨.func, 1, 8, .nilf⟩,
  some ⟨.func, 1, 8, .nilf⟩,
  some ⟨.slice 149, 1, 24, .nils⟩,
  some ⟨.func, 1, 8, .nilf⟩,
  some ⟨.slice 151, 1, 24, .nils⟩,
  some ⟨.slice 145, 1, 24, .nils⟩,
  some ⟨.func, 1, 8, .nilf⟩,
  some ⟨.func, 1, 8, .nilf⟩,
  none,
  some ⟨.func, 1, 8, .nilf⟩,
  none,
  some ⟨.func, 1, 8, .nilf⟩,
  some ⟨.func, 1, 8, .nilf⟩,
  some ⟨.func, 1, 8, .nilf⟩,
  some ⟨.func, 1, 8, .nilf⟩,
  some ⟨.func, 1, 8, .nilf⟩,
  none,
  some ⟨.func, 1, 8, .nilf⟩,
  some ⟨.func, 1, 8, .nilf⟩,
  some ⟨.func, 1, 8, .nilf⟩,
  none,
  some ⟨.func, 1, 8, .nilf⟩,
  some ⟨.func, 1, 8, .nilf⟩,
  some ⟨.slice 9, 1, 24, .nils⟩,
  none,
  some ⟨.func, 1, 8, .nilf⟩,
  none,
  some ⟨.func, 1, 8, .nilf⟩,
  some ⟨.func, 1, 8, .nilf⟩,
  some ⟨.func, 1, 8, .nilf⟩,
  some ⟨.slice 42, 1, 24, .nils⟩,
  some ⟨.slice 184, 1, 24, .nils⟩,
  some ⟨.slice 179, 1, 24, .nils⟩,
  some ⟨.struct [(0, 76), (1, 77), (2, 78)], 3, 72, .agg [.nils, .nils, .nils]⟩,
  some ⟨.struct [(0, 76), (1, 77), (2, 78)], 3, 72, .agg [.nils, .nils, .nils]⟩,
  some ⟨.func, 1, 8, .nilf⟩,
  some ⟨.func, 1, 8, .nilf⟩,
  some ⟨.func, 1, 8, .nilf⟩,
  some ⟨.func, 1, 8, .nilf⟩,
  some ⟨.func, 1, 8, .nilf⟩,
  some ⟨.struct [(0, 3), (1, 3), (2, 3), (3, 3), (4, 3), (5, 3), (6, 3), (7, 3)], 8, 64, .agg [.int .i64 0, .int .i64 0, .int .i64 0, .int .i64 0, .int .i64 0, .int .i64 0, .int .i64 0, .int .i64 0]⟩,
  some ⟨.struct [(0, 3), (1, 3), (2, 3), (3, 3), (4, 3), (5, 3), (6, 3), (7, 3)], 8, 64, .agg [.int .i64 0, .int .i64 0, .int .i64 0, .int .i64 0, .int .i64 0, .int .i64 0, .int .i64 0, .int .i64 0]⟩,
  some ⟨.func, 1, 8, .nilf⟩,
  some ⟨.func, 1, 8, .nilf⟩,
  some ⟨.slice 100, 1, 24, .nils⟩,
  some ⟨.slice 121, 1, 24, .nils⟩,
  some ⟨.struct [(0, 4), (1, 51), (2, 69), (3, 90), (4, 91)], 5, 104, .agg [.bool false, .nils, .nils, .nils, .nils]⟩,
  some ⟨.struct [(0, 4), (1, 51), (2, 69), (3, 90), (4, 91)], 5, 104, .agg [.bool false, .nils, .nils, .nils, .nils]⟩,
  some ⟨.struct [(0, 42), (1, 93)], 6, 112, .agg [.int .u32 0, .bool false, .nils, .nils, .nils, .nils]⟩,
  some ⟨.struct [(0, 42), (1, 93)], 6, 112, .agg [.int .u32 0, .bool false, .nils, .nils, .nils, .nils]⟩,
  some ⟨.int .u16, 1, 2, .int .u16 0⟩,
  some ⟨.struct [(0, 9), (1, 9)], 2, 32, .agg [.str ⟨#[]⟩, .str ⟨#[]⟩]⟩,
  some ⟨.struct [(0, 9), (1, 9)], 2, 32, .agg [.str ⟨#[]⟩, .str ⟨#[]⟩]⟩,
  some ⟨.struct [(0, 42), (1, 96), (2, 98)], 4, 40, .agg [.int .u32 0, .int .u16 0, .str ⟨#[]⟩, .str ⟨#[]⟩]⟩,
  some ⟨.struct [(0, 42), (1, 96), (2, 98)], 4, 40, .agg [.int .u32 0, .int .u16 0, .str ⟨#[]⟩, .str ⟨#[]⟩]⟩,
  some ⟨.func, 1, 8, .nilf⟩,
  some ⟨.ptr, 1, 8, .nilp⟩,
  some ⟨.map 42 93, 1, 8, .nilm⟩,
  some ⟨.map 42 3, 1, 8, .nilm⟩,
  some ⟨.struct [(0, 103), (1, 104), (2, 4)], 3, 24, .agg [.nilm, .nilm, .bool false]⟩,
  some ⟨.struct [(0, 103), (1, 104), (2, 4)], 3, 24, .agg [.nilm, .nilm, .bool false]⟩,
  some ⟨.func, 1, 8, .nilf⟩,
  some ⟨.func, 1, 8, .nilf⟩,
  some ⟨.func, 1, 8, .nilf⟩,
  some ⟨.func, 1, 8, .nilf⟩,
  some ⟨.func, 1, 8, .nilf⟩,
  some ⟨.slice 3, 1, 24, .nils⟩,
  some ⟨.func, 1, 8, .nilf⟩,
  none,
  some ⟨.func, 1, 8, .nilf⟩,
  none,
  some ⟨.func, 1, 8, .nilf⟩,
  some ⟨.func, 1, 8, .nilf⟩,
  some ⟨.func, 1, 8, .nilf⟩,
  some ⟨.struct [(0, 5), (1, 9), (2, 9), (3, 42), (4, 96), (5, 9)], 6, 64, .agg [.int .u8 0, .str ⟨#[]⟩, .str ⟨#[]⟩, .int .u32 0, .int .u16 0, .str ⟨#[]⟩]⟩,
  some ⟨.struct [(0, 5), (1, 9), (2, 9), (3, 42), (4, 96), (5, 9)], 6, 64, .agg [.int .u8 0, .str ⟨#[]⟩, .str ⟨#[]⟩, .int .u32 0, .int .u16 0, .str ⟨#[]⟩]⟩,
  some ⟨.func, 1, 8, .nilf⟩,
  some ⟨.func, 1, 8, .nilf⟩,
  some ⟨.func, 1, 8, .nilf⟩,
  some ⟨.ptr, 1, 8, .nilp⟩,
  some ⟨.func, 1, 8, .nilf⟩,
  some ⟨.func, 1, 8, .nilf⟩,
  some ⟨.func, 1, 8, .nilf⟩,
  some ⟨.func, 1, 8, .nilf⟩,
  some ⟨.int .u64, 1, 8, .int .u64 0⟩,
  some ⟨.struct [(0, 31), (1, 3), (2, 3)], 3, 40, .agg [.nils, .int .i64 0, .int .i64 0]⟩,
  some ⟨.struct [(0, 31), (1, 3), (2, 3)], 3, 40, .agg [.nils, .int .i64 0, .int .i64 0]⟩,
  none,
  some ⟨.func, 1, 8, .nilf⟩,
  some ⟨.struct [(0, 9), (1, 51)], 2, 40, .agg [.str ⟨#[]⟩, .nils]⟩,
  some ⟨.struct [(0, 9), (1, 51)], 2, 40, .agg [.str ⟨#[]⟩, .nils]⟩,
  none,
  some ⟨.func, 1, 8, .nilf⟩,
  some ⟨.func, 1, 8, .nilf⟩,
  some ⟨.func, 1, 8, .nilf⟩,
  some ⟨.func, 1, 8, .nilf⟩,
  some ⟨.func, 1, 8, .nilf⟩,
  some ⟨.func, 1, 8, .nilf⟩,
  some ⟨.struct [(0, 9), (1, 9)], 2, 32, .agg [.str ⟨#[]⟩, .str ⟨#[]⟩]⟩,
  some ⟨.struct [(0, 9), (1, 9)], 2, 32, .agg [.str ⟨#[]⟩, .str ⟨#[]⟩]⟩,
  some ⟨.func, 1, 8, .nilf⟩,
  some ⟨.func, 1, 8, .nilf⟩,
  some ⟨.struct [(0, 5), (1, 9), (2, 9), (3, 9), (4, 9), (5, 9)], 6, 88, .agg [.int .u8 0, .str ⟨#[]⟩, .str ⟨#[]⟩, .str ⟨#[]⟩, .str ⟨#[]⟩, .str ⟨#[]⟩]⟩,
  some ⟨.struct [(0, 5), (1, 9), (2, 9), (3, 9), (4, 9), (5, 9)], 6, 88, .agg [.int .u8 0, .str ⟨#[]⟩, .str ⟨#[]⟩, .str ⟨#[]⟩, .str ⟨#[]⟩, .str ⟨#[]⟩]⟩,
  some ⟨.struct [(0, 9), (1, 4), (2, 4), (3, 9), (4, 9)], 5, 56, .agg [.str ⟨#[]⟩, .bool false, .bool false, .str ⟨#[]⟩, .str ⟨#[]⟩]⟩,
  some ⟨.struct [(0, 9), (1, 4), (2, 4), (3, 9), (4, 9)], 5, 56, .agg [.str ⟨#[]⟩, .bool false, .bool false, .str ⟨#[]⟩, .str ⟨#[]⟩]⟩,
  some ⟨.ptr, 1, 8, .nilp⟩,
  some ⟨.func, 1, 8, .nilf⟩,
  some ⟨.func, 1, 8, .nilf⟩,
  none,
  some ⟨.func, 1, 8, .nilf⟩,
  some ⟨.func, 1, 8, .nilf⟩,
  some ⟨.func, 1, 8, .nilf⟩,
  some ⟨.func, 1, 8, .nilf⟩,
  some ⟨.func, 1, 8, .nilf⟩,
  some ⟨.func, 1, 8, .nilf⟩,
  some ⟨.func, 1, 8, .nilf⟩,
  some ⟨.func, 1, 8, .nilf⟩,
  some ⟨.func, 1, 8, .nilf⟩,
  some ⟨.func, 1, 8, .nilf⟩,
  some ⟨.ptr, 1, 8, .nilp⟩,
  some ⟨.func, 1, 8, .nilf⟩,
  none,
  some ⟨.func, 1, 8, .nilf⟩,
  some ⟨.func, 1, 8, .nilf⟩,
  some ⟨.func, 1, 8, .nilf⟩,
  some ⟨.func, 1, 8, .nilf⟩,
  some ⟨.func, 1, 8, .nilf⟩,
  some ⟨.func, 1, 8, .nilf⟩,
  some ⟨.func, 1, 8, .nilf⟩,
  some ⟨.map 9 151, 1, 8, .nilm⟩,
  some ⟨.func, 1, 8, .nilf⟩,
  some ⟨.struct [(0, 9), (1, 42), (2, 96)], 3, 24, .agg [.str ⟨#[]⟩, .int .u32 0, .int .u16 0]⟩,
  some ⟨.struct [(0, 9), (1, 42), (2, 96)], 3, 24, .agg [.str ⟨#[]⟩, .int .u32 0, .int .u16 0]⟩,
  some ⟨.func, 1, 8, .nilf⟩,
  some ⟨.func, 1, 8, .nilf⟩,
  some ⟨.func, 1, 8, .nilf⟩,
  some ⟨.struct [(0, 42), (1, 42)], 2, 8, .agg [.int .u32 0, .int .u32 0]⟩,
  some ⟨.struct [(0, 42), (1, 42)], 2, 8, .agg [.int .u32 0, .int .u32 0]⟩,
  some ⟨.func, 1, 8, .nilf⟩,
  some ⟨.func, 1, 8, .nilf⟩,
  none,
  some ⟨.func, 1, 8, .nilf⟩,
  some ⟨.func, 1, 8, .nilf⟩,
  some ⟨.func, 1, 8, .nilf⟩,
  some ⟨.func, 1, 8, .nilf⟩,
  some ⟨.func, 1, 8, .nilf⟩,
  some ⟨.func, 1, 8, .nilf⟩,
  some ⟨.map 42 4, 1, 8, .nilm⟩,
  some ⟨.func, 1, 8, .nilf⟩,
  some ⟨.func, 1, 8, .nilf⟩,
  some ⟨.func, 1, 8, .nilf⟩,
  some ⟨.func, 1, 8, .nilf⟩,
  some ⟨.func, 1, 8, .nilf⟩,
  some ⟨.func, 1, 8, .nilf⟩,
  some ⟨.func, 1, 8, .nilf⟩,
  some ⟨.func, 1, 8, .nilf⟩,
  none,
  some ⟨.func, 1, 8, .nilf⟩,
  some ⟨.struct [(0, 31), (1, 3), (2, 25)], 3, 40, .agg [.nils, .int .i64 0, .int .i64 0]⟩,
  some ⟨.struct [(0, 31), (1, 3), (2, 25)], 3, 40, .agg [.nils, .int .i64 0, .int .i64 0]⟩,
  some ⟨.func, 1, 8, .nilf⟩,
  some ⟨.func, 1, 8, .nilf⟩,
  some ⟨.func, 1, 8, .nilf⟩,
  some ⟨.func, 1, 8, .nilf⟩,
  some ⟨.func, 1, 8, .nilf⟩,
  none,
  some ⟨.func, 1, 8, .nilf⟩,
  some ⟨.func, 1, 8, .nilf⟩,
  some ⟨.func, 1, 8, .nilf⟩,
  some ⟨.struct [(0, 69), (1, 50)], 2, 48, .agg [.nils, .nils]⟩,
  some ⟨.struct [(0, 69), (1, 50)], 2, 48, .agg [.nils, .nils]⟩,
  some ⟨.func, 1, 8, .nilf⟩,
  some ⟨.func, 1, 8, .nilf⟩,
  some ⟨.func, 1, 8, .nilf⟩,
  some ⟨.func, 1, 8, .nilf⟩,
  some ⟨.func, 1, 8, .nilf⟩,
  some ⟨.func, 1, 8, .nilf⟩,
  some ⟨.struct [(0, 69), (1, 69)], 2, 48, .agg [.nils, .nils]⟩,
  some ⟨.struct [(0, 69), (1, 69)], 2, 48, .agg [.nils, .nils]⟩,
  some ⟨.func, 1, 8, .nilf⟩,
  some ⟨.func, 1, 8, .nilf⟩,
  some ⟨.func, 1, 8, .nilf⟩,
  some ⟨.func, 1, 8, .nilf⟩,
  some ⟨.map 42 96, 1, 8, .nilm⟩,
  some ⟨.func, 1, 8, .nilf⟩,
  some ⟨.func, 1, 8, .nilf⟩,
  some ⟨.func, 1, 8, .nilf⟩,
  some ⟨.int .u64, 1, 8, .int .u64 0⟩,
  some ⟨.func, 1, 8, .nilf⟩,
  some ⟨.func, 1, 8, .nilf⟩,
  some ⟨.func, 1, 8, .nilf⟩,
  some ⟨.func, 1, 8, .nilf⟩,
  some ⟨.ptr, 1, 8, .nilp⟩,
  some ⟨.func, 1, 8, .nilf⟩,
  none,
  some ⟨.func, 1, 8, .nilf⟩,
  some ⟨.func, 1, 8, .nilf⟩,
  some ⟨.func, 1, 8, .nilf⟩,
  some ⟨.func, 1, 8, .nilf⟩,
  some ⟨.func, 1, 8, .nilf⟩,
  some ⟨.func, 1, 8, .nilf⟩,
  some ⟨.func, 1, 8, .nilf⟩,
  some ⟨.func, 1, 8, .nilf⟩,
  some ⟨.func, 1, 8, .nilf⟩,
  some ⟨.func, 1, 8, .nilf⟩,
  some ⟨.func, 1, 8, .nilf⟩,
  some ⟨.func, 1, 8, .nilf⟩,
  some ⟨.func, 1, 8, .nilf⟩,
  some ⟨.func, 1, 8, .nilf⟩,
  some ⟨.func, 1, 8, .nilf⟩,
  some ⟨.func, 1, 8, .nilf⟩,
  none,
  some ⟨.func, 1, 8, .nilf⟩,
  some ⟨.int .i64, 1, 8, .int .i64 0⟩,
  none,
  some ⟨.func, 1, 8, .nilf⟩,
  some ⟨.func, 1, 8, .nilf⟩,
  some ⟨.func, 1, 8, .nilf⟩,
  some ⟨.func, 1, 8, .nilf⟩,
  some ⟨.func, 1, 8, .nilf⟩,
  some ⟨.func, 1, 8, .nilf⟩,
  some ⟨.struct [(0, 76), (1, 76)], 2, 48, .agg [.nils, .nils]⟩,
  some ⟨.struct [(0, 76), (1, 76)], 2, 48, .agg [.nils, .nils]⟩,
  some ⟨.func, 1, 8, .nilf⟩,
  some ⟨.func, 1, 8, .nilf⟩,
  some ⟨.func, 1, 8, .nilf⟩,
  some ⟨.func, 1, 8, .nilf⟩,
  some ⟨.func, 1, 8, .nilf⟩,
  some ⟨.int .u64, 1, 8, .int .u64 0⟩,
  some ⟨.func, 1, 8, .nilf⟩,
  some ⟨.func, 1, 8, .nilf⟩,
  some ⟨.func, 1, 8, .nilf⟩,
  some ⟨.ptr, 1, 8, .nilp⟩,
  some ⟨.func, 1, 8, .nilf⟩,
  some ⟨.func, 1, 8, .nilf⟩,
  some ⟨.func, 1, 8, .nilf⟩,
  some ⟨.func, 1, 8, .nilf⟩,
  some ⟨.func, 1, 8, .nilf⟩,
  some ⟨.ptr, 1, 8, .nilp⟩,
  none,
  some ⟨.func, 1, 8, .nilf⟩,
  some ⟨.func, 1, 8, .nilf⟩,
  none,
  none,
  none,
  none,
  none,
  some ⟨.int .u8, 1, 1, .int .u8 0⟩,
  some ⟨.int .u8, 1, 1, .int .u8 0⟩,
  some ⟨.func, 1, 8, .nilf⟩,
  some ⟨.ptr, 1, 8, .nilp⟩,
  some ⟨.int .i32, 1, 4, .int .i32 0⟩,
  some ⟨.int .i32, 1, 4, .int .i32 0⟩,
  none,
  none,
  some ⟨.func, 1, 8, .nilf⟩,
  none]
def T : TT := fun t => match table[t]? with | some x => x | none => none
theorem T_1 : T 1 = some ⟨.func, 1, 8, .nilf⟩ := rfl
theorem T_2 : T 2 = some ⟨.int .i64, 1, 8, .int .i64 0⟩ := rfl
theorem T_3 : T 3 = some ⟨.int .i64, 1, 8, .int .i64 0⟩ := rfl
theorem T_4 : T 4 = some ⟨.bool, 1, 1, .bool false⟩ := rfl
theorem T_5 : T 5 = some ⟨.int .u8, 1, 1, .int .u8 0⟩ := rfl
theorem T_6 : T 6 = some ⟨.int .u8, 1, 1, .int .u8 0⟩ := rfl
theorem T_9 : T 9 = some ⟨.str, 1, 16, .str ⟨#[]⟩⟩ := rfl
theorem T_10 : T 10 = some ⟨.str, 1, 16, .str ⟨#[]⟩⟩ := rfl
theorem T_11 : T 11 = some ⟨.str, 1, 16, .str ⟨#[]⟩⟩ := rfl
theorem T_12 : T 12 = some ⟨.int .u64, 1, 8, .int .u64 0⟩ := rfl
theorem T_15 : T 15 = some ⟨.ptr, 1, 8, .nilp⟩ := rfl
theorem T_16 : T 16 = some ⟨.ptr, 1, 8, .nilp⟩ := rfl
theorem T_17 : T 17 = some ⟨.ptr, 1, 8, .nilp⟩ := rfl
theorem T_20 : T 20 = some ⟨.iface, 1, 16, .nili⟩ := rfl
theorem T_21 : T 21 = some ⟨.int .i32, 1, 4, .int .i32 0⟩ := rfl
theorem T_22 : T 22 = some ⟨.slice 95, 1, 24, .nils⟩ := rfl
theorem T_23 : T 23 = some ⟨.func, 1, 8, .nilf⟩ := rfl
theorem T_24 : T 24 = some ⟨.func, 1, 8, .nilf⟩ := rfl
theorem T_25 : T 25 = some ⟨.int .i64, 1, 8, .int .i64 0⟩ := rfl
theorem T_27 : T 27 = some ⟨.func, 1, 8, .nilf⟩ := rfl
theorem T_29 : T 29 = some ⟨.func, 1, 8, .nilf⟩ := rfl
theorem T_30 : T 30 = some ⟨.func, 1, 8, .nilf⟩ := rfl
theorem T_31 : T 31 = some ⟨.slice 5, 1, 24, .nils⟩ := rfl
theorem T_32 : T 32 = some ⟨.func, 1, 8, .nilf⟩ := rfl
theorem T_33 : T 33 = some ⟨.slice 136, 1, 24, .nils⟩ := rfl
theorem T_35 : T 35 = some ⟨.func, 1, 8, .nilf⟩ := rfl
theorem T_37 : T 37 = some ⟨.func, 1, 8, .nilf⟩ := rfl
theorem T_38 : T 38 = some ⟨.func, 1, 8, .nilf⟩ := rfl
theorem T_40 : T 40 = some ⟨.func, 1, 8, .nilf⟩ := rfl
theorem T_41 : T 41 = some ⟨.func, 1, 8, .nilf⟩ := rfl
theorem T_42 : T 42 = some ⟨.int .u32, 1, 4, .int .u32 0⟩ := rfl
theorem T_43 : T 43 = some ⟨.func, 1, 8, .nilf⟩ := rfl
theorem T_44 : T 44 = some ⟨.func, 1, 8, .nilf⟩ := rfl
theorem T_46 : T 46 = some ⟨.func, 1, 8, .nilf⟩ := rfl
theorem T_47 : T 47 = some ⟨.func, 1, 8, .nilf⟩ := rfl
theorem T_48 : T 48 = some ⟨.slice 149, 1, 24, .nils⟩ := rfl
theorem T_49 : T 49 = some ⟨.func, 1, 8, .nilf⟩ := rfl
theorem T_50 : T 50 = some ⟨.slice 151, 1, 24, .nils⟩ := rfl
theorem T_51 : T 51 = some ⟨.slice 145, 1, 24, .nils⟩ := rfl
theorem T_52 : T 52 = some ⟨.func, 1, 8, .nilf⟩ := rfl
theorem T_53 : T 53 = some ⟨.func, 1, 8, .nilf⟩ := rfl
theorem T_55 : T 55 = some ⟨.func, 1, 8, .nilf⟩ := rfl
theorem T_57 : T 57 = some ⟨.func, 1, 8, .nilf⟩ := rfl
theorem T_58 : T 58 = some ⟨.func, 1, 8, .nilf⟩ := rfl
theorem T_59 : T 59 = some ⟨.func, 1, 8, .nilf⟩ := rfl
theorem T_60 : T 60 = some ⟨.func, 1, 8, .nilf⟩ := rfl
theorem T_61 : T 61 = some ⟨.func, 1, 8, .nilf⟩ := rfl
theorem T_63 : T 63 = some ⟨.func, 1, 8, .nilf⟩ := rfl
theorem T_64 : T 64 = some ⟨.func, 1, 8, .nilf⟩ := rfl
theorem T_65 : T 65 = some ⟨.func, 1, 8, .nilf⟩ := rfl
theorem T_67 : T 67 = some ⟨.func, 1, 8, .nilf⟩ := rfl
theorem T_68 : T 68 = some ⟨.func, 1, 8, .nilf⟩ := rfl
theorem T_69 : T 69 = some ⟨.slice 9, 1, 24, .nils⟩ := rfl
theorem T_71 : T 71 = some ⟨.func, 1, 8, .nilf⟩ := rfl
theorem T_73 : T 73 = some ⟨.func, 1, 8, .nilf⟩ := rfl
theorem T_74 : T 74 = some ⟨.func, 1, 8, .nilf⟩ := rfl
theorem T_75 : T 75 = some ⟨.func, 1, 8, .nilf⟩ := rfl
theorem T_76 : T 76 = some ⟨.slice 42, 1, 24, .nils⟩ := rfl
theorem T_77 : T 77 = some ⟨.slice 184, 1, 24, .nils⟩ := rfl
theorem T_78 : T 78 = some ⟨.slice 179, 1, 24, .nils⟩ := rfl
theorem T_79 : T 79 = some ⟨.struct [(0, 76), (1, 77), (2, 78)], 3, 72, .agg [.nils, .nils, .nils]⟩ := rfl
theorem T_80 : T 80 = some ⟨.struct [(0, 76), (1, 77), (2, 78)], 3, 72, .agg [.nils, .nils, .nils]⟩ := rfl
theorem T_81 : T 81 = some ⟨.func, 1, 8, .nilf⟩ := rfl
theorem T_82 : T 82 = some ⟨.func, 1, 8, .nilf⟩ := rfl
theorem T_83 : T 83 = some ⟨.func, 1, 8, .nilf⟩ := rfl
theorem T_84 : T 84 = some ⟨.func, 1, 8, .nilf⟩ := rfl
theorem T_85 : T 85 = some ⟨.func, 1, 8, .nilf⟩ := rfl
theorem T_86 : T 86 = some ⟨.struct [(0, 3), (1, 3), (2, 3), (3, 3), (4, 3), (5, 3), (6, 3), (7, 3)], 8, 64, .agg [.int .i64 0, .int .i64 0, .int .i64 0, .int .i64 0, .int .i64 0, .int .i64 0, .int .i64 0, .int .i64 0]⟩ := rfl
theorem T_87 : T 87 = some ⟨.struct [(0, 3), (1, 3), (2, 3), (3, 3), (4, 3), (5, 3), (6, 3), (7, 3)], 8, 64, .agg [.int .i64 0, .int .i64 0, .int .i64 0, .int .i64 0, .int .i64 0, .int .i64 0, .int .i64 0, .int .i64 0]⟩ := rfl
theorem T_88 : T 88 = some ⟨.func, 1, 8, .nilf⟩ := rfl
theorem T_89 : T 89 = some ⟨.func, 1, 8, .nilf⟩ := rfl
theorem T_90 : T 90 = some ⟨.slice 100, 1, 24, .nils⟩ := rfl
theorem T_91 : T 91 = some ⟨.slice 121, 1, 24, .nils⟩ := rfl
theorem T_92 : T 92 = some ⟨.struct [(0, 4), (1, 51), (2, 69), (3, 90), (4, 91)], 5, 104, .agg [.bool false, .nils, .nils, .nils, .nils]⟩ := rfl
theorem T_93 : T 93 = some ⟨.struct [(0, 4), (1, 51), (2, 69), (3, 90), (4, 91)], 5, 104, .agg [.bool false, .nils, .nils, .nils, .nils]⟩ := rfl
theorem T_94 : T 94 = some ⟨.struct [(0, 42), (1, 93)], 6, 112, .agg [.int .u32 0, .bool false, .nils, .nils, .nils, .nils]⟩ := rfl
theorem T_95 : T 95 = some ⟨.struct [(0, 42), (1, 93)], 6, 112, .agg [.int .u32 0, .bool false, .nils, .nils, .nils, .nils]⟩ := rfl
theorem T_96 : T 96 = some ⟨.int .u16, 1, 2, .int .u16 0⟩ := rfl
theorem T_97 : T 97 = some ⟨.struct [(0, 9), (1, 9)], 2, 32, .agg [.str ⟨#[]⟩, .str ⟨#[]⟩]⟩ := rfl
theorem T_98 : T 98 = some ⟨.struct [(0, 9), (1, 9)], 2, 32, .agg [.str ⟨#[]⟩, .str ⟨#[]⟩]⟩ := rfl
theorem T_99 : T 99 = some ⟨.struct [(0, 42), (1, 96), (2, 98)], 4, 40, .agg [.int .u32 0, .int .u16 0, .str ⟨#[]⟩, .str ⟨#[]⟩]⟩ := rfl
theorem T_100 : T 100 = some ⟨.struct [(0, 42), (1, 96), (2, 98)], 4, 40, .agg [.int .u32 0, .int .u16 0, .str ⟨#[]⟩, .str ⟨#[]⟩]⟩ := rfl
theorem T_101 : T 101 = some ⟨.func, 1, 8, .nilf⟩ := rfl
theorem T_102 : T 102 = some ⟨.ptr, 1, 8, .nilp⟩ := rfl
theorem T_103 : T 103 = some ⟨.map 42 93, 1, 8, .nilm⟩ := rfl
theorem T_104 : T 104 = some ⟨.map 42 3, 1, 8, .nilm⟩ := rfl
theorem T_105 : T 105 = some ⟨.struct [(0, 103), (1, 104), (2, 4)], 3, 24, .agg [.nilm, .nilm, .bool false]⟩ := rfl
theorem T_106 : T 106 = some ⟨.struct [(0, 103), (1, 104), (2, 4)], 3, 24, .agg [.nilm, .nilm, .bool false]⟩ := rfl
theorem T_107 : T 107 = some ⟨.func, 1, 8, .nilf⟩ := rfl
theorem T_108 : T 108 = some ⟨.func, 1, 8, .nilf⟩ := rfl
theorem T_109 : T 109 = some ⟨.func, 1, 8, .nilf⟩ := rfl
theorem T_110 : T 110 = some ⟨.func, 1, 8, .nilf⟩ := rfl
theorem T_111 : T 111 = some ⟨.func, 1, 8, .nilf⟩ := rfl
theorem T_112 : T 112 = some ⟨.slice 3, 1, 24, .nils⟩ := rfl
theorem T_113 : T 113 = some ⟨.func, 1, 8, .nilf⟩ := rfl
theorem T_115 : T 115 = some ⟨.func, 1, 8, .nilf⟩ := rfl
theorem T_117 : T 117 = some ⟨.func, 1, 8, .nilf⟩ := rfl
theorem T_118 : T 118 = some ⟨.func, 1, 8, .nilf⟩ := rfl
theorem T_119 : T 119 = some ⟨.func, 1, 8, .nilf⟩ := rfl
theorem T_120 : T 120 = some ⟨.struct [(0, 5), (1, 9), (2, 9), (3, 42), (4, 96), (5, 9)], 6, 64, .agg [.int .u8 0, .str ⟨#[]⟩, .str ⟨#[]⟩, .int .u32 0, .int .u16 0, .str ⟨#[]⟩]⟩ := rfl
theorem T_121 : T 121 = some ⟨.struct [(0, 5), (1, 9), (2, 9), (3, 42), (4, 96), (5, 9)], 6, 64, .agg [.int .u8 0, .str ⟨#[]⟩, .str ⟨#[]⟩, .int .u32 0, .int .u16 0, .str ⟨#[]⟩]⟩ := rfl
theorem T_122 : T 122 = some ⟨.func, 1, 8, .nilf⟩ := rfl
theorem T_123 : T 123 = some ⟨.func, 1, 8, .nilf⟩ := rfl
theorem T_124 : T 124 = some ⟨.func, 1, 8, .nilf⟩ := rfl
theorem T_125 : T 125 = some ⟨.ptr, 1, 8, .nilp⟩ := rfl
theorem T_126 : T 126 = some ⟨.func, 1, 8, .nilf⟩ := rfl
theorem T_127 : T 127 = some ⟨.func, 1, 8, .nilf⟩ := rfl
theorem T_128 : T 128 = some ⟨.func, 1, 8, .nilf⟩ := rfl
theorem T_129 : T 129 = some ⟨.func, 1, 8, .nilf⟩ := rfl
theorem T_130 : T 130 = some ⟨.int .u64, 1, 8, .int .u64 0⟩ := rfl
theorem T_131 : T 131 = some ⟨.struct [(0, 31), (1, 3), (2, 3)], 3, 40, .agg [.nils, .int .i64 0, .int .i64 0]⟩ := rfl
theorem T_132 : T 132 = some ⟨.struct [(0, 31), (1, 3), (2, 3)], 3, 40, .agg [.nils, .int .i64 0, .int .i64 0]⟩ := rfl
theorem T_134 : T 134 = some ⟨.func, 1, 8, .nilf⟩ := rfl
theorem T_135 : T 135 = some ⟨.struct [(0, 9), (1, 51)], 2, 40, .agg [.str ⟨#[]⟩, .nils]⟩ := rfl
theorem T_136 : T 136 = some ⟨.struct [(0, 9), (1, 51)], 2, 40, .agg [.str ⟨#[]⟩, .nils]⟩ := rfl
theorem T_138 : T 138 = some ⟨.func, 1, 8, .nilf⟩ := rfl
theorem T_139 : T 139 = some ⟨.func, 1, 8, .nilf⟩ := rfl
theorem T_140 : T 140 = some ⟨.func, 1, 8, .nilf⟩ := rfl
theorem T_141 : T 141 = some ⟨.func, 1, 8, .nilf⟩ := rfl
theorem T_142 : T 142 = some ⟨.func, 1, 8, .nilf⟩ := rfl
theorem T_143 : T 143 = some ⟨.func, 1, 8, .nilf⟩ := rfl
theorem T_144 : T 144 = some ⟨.struct [(0, 9), (1, 9)], 2, 32, .agg [.str ⟨#[]⟩, .str ⟨#[]⟩]⟩ := rfl
theorem T_145 : T 145 = some ⟨.struct [(0, 9), (1, 9)], 2, 32, .agg [.str ⟨#[]⟩, .str ⟨#[]⟩]⟩ := rfl
theorem T_146 : T 146 = some ⟨.func, 1, 8, .nilf⟩ := rfl
theorem T_147 : T 147 = some ⟨.func, 1, 8, .nilf⟩ := rfl
theorem T_148 : T 148 = some ⟨.struct [(0, 5), (1, 9), (2, 9), (3, 9), (4, 9), (5, 9)], 6, 88, .agg [.int .u8 0, .str ⟨#[]⟩, .str ⟨#[]⟩, .str ⟨#[]⟩, .str ⟨#[]⟩, .str ⟨#[]⟩]⟩ := rfl
theorem T_149 : T 149 = some ⟨.struct [(0, 5), (1, 9), (2, 9), (3, 9), (4, 9), (5, 9)], 6, 88, .agg [.int .u8 0, .str ⟨#[]⟩, .str ⟨#[]⟩, .str ⟨#[]⟩, .str ⟨#[]⟩, .str ⟨#[]⟩]⟩ := rfl
theorem T_150 : T 150 = some ⟨.struct [(0, 9), (1, 4), (2, 4), (3, 9), (4, 9)], 5, 56, .agg [.str ⟨#[]⟩, .bool false, .bool false, .str ⟨#[]⟩, .str ⟨#[]⟩]⟩ := rfl
theorem T_151 : T 151 = some ⟨.struct [(0, 9), (1, 4), (2, 4), (3, 9), (4, 9)], 5, 56, .agg [.str ⟨#[]⟩, .bool false, .bool false, .str ⟨#[]⟩, .str ⟨#[]⟩]⟩ := rfl
theorem T_152 : T 152 = some ⟨.ptr, 1, 8, .nilp⟩ := rfl
theorem T_153 : T 153 = some ⟨.func, 1, 8, .nilf⟩ := rfl
theorem T_154 : T 154 = some ⟨.func, 1, 8, .nilf⟩ := rfl
theorem T_156 : T 156 = some ⟨.func, 1, 8, .nilf⟩ := rfl
theorem T_157 : T 157 = some ⟨.func, 1, 8, .nilf⟩ := rfl
theorem T_158 : T 158 = some ⟨.func, 1, 8, .nilf⟩ := rfl
theorem T_159 : T 159 = some ⟨.func, 1, 8, .nilf⟩ := rfl
theorem T_160 : T 160 = some ⟨.func, 1, 8, .nilf⟩ := rfl
theorem T_161 : T 161 = some ⟨.func, 1, 8, .nilf⟩ := rfl
theorem T_162 : T 162 = some ⟨.func, 1, 8, .nilf⟩ := rfl
theorem T_163 : T 163 = some ⟨.func, 1, 8, .nilf⟩ := rfl
theorem T_164 : T 164 = some ⟨.func, 1, 8, .nilf⟩ := rfl
theorem T_165 : T 165 = some ⟨.func, 1, 8, .nilf⟩ := rfl
theorem T_166 : T 166 = some ⟨.ptr, 1, 8, .nilp⟩ := rfl
theorem T_167 : T 167 = some ⟨.func, 1, 8, .nilf⟩ := rfl
theorem T_169 : T 169 = some ⟨.func, 1, 8, .nilf⟩ := rfl
theorem T_170 : T 170 = some ⟨.func, 1, 8, .nilf⟩ := rfl
theorem T_171 : T 171 = some ⟨.func, 1, 8, .nilf⟩ := rfl
theorem T_172 : T 172 = some ⟨.func, 1, 8, .nilf⟩ := rfl
theorem T_173 : T 173 = some ⟨.func, 1, 8, .nilf⟩ := rfl
theorem T_174 : T 174 = some ⟨.func, 1, 8, .nilf⟩ := rfl
theorem T_175 : T 175 = some ⟨.func, 1, 8, .nilf⟩ := rfl
theorem T_176 : T 176 = some ⟨.map 9 151, 1, 8, .nilm⟩ := rfl
theorem T_177 : T 177 = some ⟨.func, 1, 8, .nilf⟩ := rfl
theorem T_178 : T 178 = some ⟨.struct [(0, 9), (1, 42), (2, 96)], 3, 24, .agg [.str ⟨#[]⟩, .int .u32 0, .int .u16 0]⟩ := rfl
theorem T_179 : T 179 = some ⟨.struct [(0, 9), (1, 42), (2, 96)], 3, 24, .agg [.str ⟨#[]⟩, .int .u32 0, .int .u16 0]⟩ := rfl
theorem T_180 : T 180 = some ⟨.func, 1, 8, .nilf⟩ := rfl
theorem T_181 : T 181 = some ⟨.func, 1, 8, .nilf⟩ := rfl
theorem T_182 : T 182 = some ⟨.func, 1, 8, .nilf⟩ := rfl
theorem T_183 : T 183 = some ⟨.struct [(0, 42), (1, 42)], 2, 8, .agg [.int .u32 0, .int .u32 0]⟩ := rfl
theorem T_184 : T 184 = some ⟨.struct [(0, 42), (1, 42)], 2, 8, .agg [.int .u32 0, .int .u32 0]⟩ := rfl
theorem T_185 : T 185 = some ⟨.func, 1, 8, .nilf⟩ := rfl
theorem T_186 : T 186 = some ⟨.func, 1, 8, .nilf⟩ := rfl
theorem T_188 : T 188 = some ⟨.func, 1, 8, .nilf⟩ := rfl
theorem T_189 : T 189 = some ⟨.func, 1, 8, .nilf⟩ := rfl
theorem T_190 : T 190 = some ⟨.func, 1, 8, .nilf⟩ := rfl
theorem T_191 : T 191 = some ⟨.func, 1, 8, .nilf⟩ := rfl
theorem T_192 : T 192 = some ⟨.func, 1, 8, .nilf⟩ := rfl
theorem T_193 : T 193 = some ⟨.func, 1, 8, .nilf⟩ := rfl
theorem T_194 : T 194 = some ⟨.map 42 4, 1, 8, .nilm⟩ := rfl
theorem T_195 : T 195 = some ⟨.func, 1, 8, .nilf⟩ := rfl
theorem T_196 : T 196 = some ⟨.func, 1, 8, .nilf⟩ := rfl
theorem T_197 : T 197 = some ⟨.func, 1, 8, .nilf⟩ := rfl
theorem T_198 : T 198 = some ⟨.func, 1, 8, .nilf⟩ := rfl
theorem T_199 : T 199 = some ⟨.func, 1, 8, .nilf⟩ := rfl
theorem T_200 : T 200 = some ⟨.func, 1, 8, .nilf⟩ := rfl
theorem T_201 : T 201 = some ⟨.func, 1, 8, .nilf⟩ := rfl
theorem T_202 : T 202 = some ⟨.func, 1, 8, .nilf⟩ := rfl
theorem T_204 : T 204 = some ⟨.func, 1, 8, .nilf⟩ := rfl
theorem T_205 : T 205 = some ⟨.struct [(0, 31), (1, 3), (2, 25)], 3, 40, .agg [.nils, .int .i64 0, .int .i64 0]⟩ := rfl
theorem T_206 : T 206 = some ⟨.struct [(0, 31), (1, 3), (2, 25)], 3, 40, .agg [.nils, .int .i64 0, .int .i64 0]⟩ := rfl
theorem T_207 : T 207 = some ⟨.func, 1, 8, .nilf⟩ := rfl
theorem T_208 : T 208 = some ⟨.func, 1, 8, .nilf⟩ := rfl
theorem T_209 : T 209 = some ⟨.func, 1, 8, .nilf⟩ := rfl
theorem T_210 : T 210 = some ⟨.func, 1, 8, .nilf⟩ := rfl
theorem T_211 : T 211 = some ⟨.func, 1, 8, .nilf⟩ := rfl
theorem T_213 : T 213 = some ⟨.func, 1, 8, .nilf⟩ := rfl
theorem T_214 : T 214 = some ⟨.func, 1, 8, .nilf⟩ := rfl
theorem T_215 : T 215 = some ⟨.func, 1, 8, .nilf⟩ := rfl
theorem T_216 : T 216 = some ⟨.struct [(0, 69), (1, 50)], 2, 48, .agg [.nils, .nils]⟩ := rfl
theorem T_217 : T 217 = some ⟨.struct [(0, 69), (1, 50)], 2, 48, .agg [.nils, .nils]⟩ := rfl
theorem T_218 : T 218 = some ⟨.func, 1, 8, .nilf⟩ := rfl
theorem T_219 : T 219 = some ⟨.func, 1, 8, .nilf⟩ := rfl
theorem T_220 : T 220 = some ⟨.func, 1, 8, .nilf⟩ := rfl
theorem T_221 : T 221 = some ⟨.func, 1, 8, .nilf⟩ := rfl
theorem T_222 : T 222 = some ⟨.func, 1, 8, .nilf⟩ := rfl
theorem T_223 : T 223 = some ⟨.func, 1, 8, .nilf⟩ := rfl
theorem T_224 : T 224 = some ⟨.struct [(0, 69), (1, 69)], 2, 48, .agg [.nils, .nils]⟩ := rfl
theorem T_225 : T 225 = some ⟨.struct [(0, 69), (1, 69)], 2, 48, .agg [.nils, .nils]⟩ := rfl
theorem T_226 : T 226 = some ⟨.func, 1, 8, .nilf⟩ := rfl
theorem T_227 : T 227 = some ⟨.func, 1, 8, .nilf⟩ := rfl
theorem T_228 : T 228 = some ⟨.func, 1, 8, .nilf⟩ := rfl
theorem T_229 : T 229 = some ⟨.func, 1, 8, .nilf⟩ := rfl
theorem T_230 : T 230 = some ⟨.map 42 96, 1, 8, .nilm⟩ := rfl
theorem T_231 : T 231 = some ⟨.func, 1, 8, .nilf⟩ := rfl
theorem T_232 : T 232 = some ⟨.func, 1, 8, .nilf⟩ := rfl
theorem T_233 : T 233 = some ⟨.func, 1, 8, .nilf⟩ := rfl
theorem T_234 : T 234 = some ⟨.int .u64, 1, 8, .int .u64 0⟩ := rfl
theorem T_235 : T 235 = some ⟨.func, 1, 8, .nilf⟩ := rfl
theorem T_236 : T 236 = some ⟨.func, 1, 8, .nilf⟩ := rfl
theorem T_237 : T 237 = some ⟨.func, 1, 8, .nilf⟩ := rfl
theorem T_238 : T 238 = some ⟨.func, 1, 8, .nilf⟩ := rfl
theorem T_239 : T 239 = some ⟨.ptr, 1, 8, .nilp⟩ := rfl
theorem T_240 : T 240 = some ⟨.func, 1, 8, .nilf⟩ := rfl
theorem T_242 : T 242 = some ⟨.func, 1, 8, .nilf⟩ := rfl
theorem T_243 : T 243 = some ⟨.func, 1, 8, .nilf⟩ := rfl
theorem T_244 : T 244 = some ⟨.func, 1, 8, .nilf⟩ := rfl
theorem T_245 : T 245 = some ⟨.func, 1, 8, .nilf⟩ := rfl
theorem T_246 : T 246 = some ⟨.func, 1, 8, .nilf⟩ := rfl
theorem T_247 : T 247 = some ⟨.func, 1, 8, .nilf⟩ := rfl
theorem T_248 : T 248 = some ⟨.func, 1, 8, .nilf⟩ := rfl
theorem T_249 : T 249 = some ⟨.func, 1, 8, .nilf⟩ := rfl
theorem T_250 : T 250 = some ⟨.func, 1, 8, .nilf⟩ := rfl
theorem T_251 : T 251 = some ⟨.func, 1, 8, .nilf⟩ := rfl
theorem T_252 : T 252 = some ⟨.func, 1, 8, .nilf⟩ := rfl
theorem T_253 : T 253 = some ⟨.func, 1, 8, .nilf⟩ := rfl
theorem T_254 : T 254 = some ⟨.func, 1, 8, .nilf⟩ := rfl
theorem T_255 : T 255 = some ⟨.func, 1, 8, .nilf⟩ := rfl
theorem T_256 : T 256 = some ⟨.func, 1, 8, .nilf⟩ := rfl
theorem T_257 : T 257 = some ⟨.func, 1, 8, .nilf⟩ := rfl
theorem T_259 : T 259 = some ⟨.func, 1, 8, .nilf⟩ := rfl
theorem T_260 : T 260 = some ⟨.int .i64, 1, 8, .int .i64 0⟩ := rfl
theorem T_262 : T 262 = some ⟨.func, 1, 8, .nilf⟩ := rfl
theorem T_263 : T 263 = some ⟨.func, 1, 8, .nilf⟩ := rfl
theorem T_264 : T 264 = some ⟨.func, 1, 8, .nilf⟩ := rfl
theorem T_265 : T 265 = some ⟨.func, 1, 8, .nilf⟩ := rfl
theorem T_266 : T 266 = some ⟨.func, 1, 8, .nilf⟩ := rfl
theorem T_267 : T 267 = some ⟨.func, 1, 8, .nilf⟩ := rfl
theorem T_268 : T 268 = some ⟨.struct [(0, 76), (1, 76)], 2, 48, .agg [.nils, .nils]⟩ := rfl
theorem T_269 : T 269 = some ⟨.struct [(0, 76), (1, 76)], 2, 48, .agg [.nils, .nils]⟩ := rfl
theorem T_270 : T 270 = some ⟨.func, 1, 8, .nilf⟩ := rfl
theorem T_271 : T 271 = some ⟨.func, 1, 8, .nilf⟩ := rfl
theorem T_272 : T 272 = some ⟨.func, 1, 8, .nilf⟩ := rfl
theorem T_273 : T 273 = some ⟨.func, 1, 8, .nilf⟩ := rfl
theorem T_274 : T 274 = some ⟨.func, 1, 8, .nilf⟩ := rfl
theorem T_275 : T 275 = some ⟨.int .u64, 1, 8, .int .u64 0⟩ := rfl
theorem T_276 : T 276 = some ⟨.func, 1, 8, .nilf⟩ := rfl
theorem T_277 : T 277 = some ⟨.func, 1, 8, .nilf⟩ := rfl
theorem T_278 : T 278 = some ⟨.func, 1, 8, .nilf⟩ := rfl
theorem T_279 : T 279 = some ⟨.ptr, 1, 8, .nilp⟩ := rfl
theorem T_280 : T 280 = some ⟨.func, 1, 8, .nilf⟩ := rfl
theorem T_281 : T 281 = some ⟨.func, 1, 8, .nilf⟩ := rfl
theorem T_282 : T 282 = some ⟨.func, 1, 8, .nilf⟩ := rfl
theorem T_283 : T 283 = some ⟨.func, 1, 8, .nilf⟩ := rfl
theorem T_284 : T 284 = some ⟨.func, 1, 8, .nilf⟩ := rfl
theorem T_285 : T 285 = some ⟨.ptr, 1, 8, .nilp⟩ := rfl
theorem T_287 : T 287 = some ⟨.func, 1, 8, .nilf⟩ := rfl
theorem T_288 : T 288 = some ⟨.func, 1, 8, .nilf⟩ := rfl
theorem T_294 : T 294 = some ⟨.int .u8, 1, 1, .int .u8 0⟩ := rfl
theorem T_295 : T 295 = some ⟨.int .u8, 1, 1, .int .u8 0⟩ := rfl
theorem T_296 : T 296 = some ⟨.func, 1, 8, .nilf⟩ := rfl
theorem T_297 : T 297 = some ⟨.ptr, 1, 8, .nilp⟩ := rfl
theorem T_298 : T 298 = some ⟨.int .i32, 1, 4, .int .i32 0⟩ := rfl
theorem T_299 : T 299 = some ⟨.int .i32, 1, 4, .int .i32 0⟩ := rfl
theorem T_302 : T 302 = some ⟨.func, 1, 8, .nilf⟩ := rfl
noncomputable def fn3 : AFn := { body := (Try.f3.body).getD .skip, ntmps := 53, res := Try.f3.results.toList, pfz := [true], rfz := true, intr := none, gcs := [] }
noncomputable def fn4 : AFn := { body := (Try.f4.body).getD .skip, ntmps := 28, res := Try.f4.results.toList, pfz := [true], rfz := true, intr := none, gcs := [] }
noncomputable def fn14 : AFn := { body := (Try.f14.body).getD .skip, ntmps := 19, res := Try.f14.results.toList, pfz := [true], rfz := true, intr := none, gcs := [⟨0, [0, 8, 9], []⟩] }
noncomputable def fn15 : AFn := { body := (Try.f15.body).getD .skip, ntmps := 41, res := Try.f15.results.toList, pfz := [], rfz := true, intr := none, gcs := [] }
noncomputable def fn16 : AFn := { body := (Try.f16.body).getD .skip, ntmps := 75, res := Try.f16.results.toList, pfz := [true], rfz := true, intr := none, gcs := [⟨0, [0, 5, 26, 27, 28], []⟩, ⟨2, [0, 5, 41, 42, 43], []⟩, ⟨4, [5, 10, 56, 57, 58], [(10, none, 6)]⟩] }
noncomputable def fn17 : AFn := { body := (Try.f17.body).getD .skip, ntmps := 120, res := Try.f17.results.toList, pfz := [true], rfz := true, intr := none, gcs := [⟨0, [0, 4, 17, 18], []⟩, ⟨2, [0, 4, 52, 53], []⟩, ⟨4, [0, 4, 7, 52, 53, 63, 64], []⟩, ⟨6, [0, 4, 11, 13, 91, 92], []⟩] }
noncomputable def fn18 : AFn := { body := (Try.f18.body).getD .skip, ntmps := 42, res := Try.f18.results.toList, pfz := [true, true], rfz := true, intr := none, gcs := [⟨0, [0, 1, 12, 13], []⟩] }
noncomputable def fn19 : AFn := { body := (Try.f19.body).getD .skip, ntmps := 92, res := Try.f19.results.toList, pfz := [true], rfz := true, intr := none, gcs := [⟨0, [0, 8, 9], []⟩, ⟨2, [0, 4, 8, 9, 40, 41], []⟩, ⟨4, [0, 4, 8, 9, 62, 63], []⟩] }
noncomputable def fn34 : AFn := { body := (Try.f34.body).getD .skip, ntmps := 29, res := Try.f34.results.toList, pfz := [true], rfz := true, intr := none, gcs := [⟨0, [0, 8, 9], []⟩] }
noncomputable def fn44 : AFn := { body := (Try.f44.body).getD .skip, ntmps := 26, res := Try.f44.results.toList, pfz := [true, true], rfz := true, intr := none, gcs := [⟨0, [0, 1, 12, 13], []⟩] }
noncomputable def fn59 : AFn := { body := (Try.f59.body).getD .skip, ntmps := 66, res := Try.f59.results.toList, pfz := [true], rfz := true, intr := none, gcs := [⟨0, [1, 27, 28], []⟩, ⟨2, [1, 41, 42], []⟩] }
noncomputable def fn60 : AFn := { body := (Try.f60.body).getD .skip, ntmps := 35, res := Try.f60.results.toList, pfz := [true], rfz := true, intr := none, gcs := [⟨0, [0, 6, 7, 8], []⟩] }
noncomputable def fn61 : AFn := { body := (Try.f61.body).getD .skip, ntmps := 31, res := Try.f61.results.toList, pfz := [true], rfz := true, intr := none, gcs := [⟨0, [0, 3, 9, 10, 11], []⟩, ⟨2, [3, 19, 20, 21], []⟩] }
noncomputable def fn62 : AFn := { body := (Try.f62.body).getD .skip, ntmps := 74, res := Try.f62.results.toList, pfz := [true, true], rfz := true, intr := none, gcs := [⟨0, [0, 1, 7, 43, 44, 45], []⟩] }
noncomputable def fn63 : AFn := { body := (Try.f63.body).getD .skip, ntmps := 52, res := Try.f63.results.toList, pfz := [true, true], rfz := true, intr := none, gcs := [⟨0, [1, 2, 4, 12, 13], []⟩, ⟨2, [1, 2, 4, 31, 32, 33], []⟩] }
noncomputable def fn64 : AFn := { body := (Try.f64.body).getD .skip, ntmps := 11, res := Try.f64.results.toList, pfz := [true, false], rfz := true, intr := none, gcs := [] }
noncomputable def fn65 : AFn := { body := (Try.f65.body).getD .skip, ntmps := 182, res := Try.f65.results.toList, pfz := [true], rfz := true, intr := none, gcs := [⟨0, [1, 49, 50], []⟩, ⟨2, [1, 94, 95], []⟩, ⟨4, [1, 130, 131], []⟩, ⟨6, [1, 170, 171], []⟩] }
noncomputable def fn66 : AFn := { body := (Try.f66.body).getD .skip, ntmps := 71, res := Try.f66.results.toList, pfz := [true, true, true], rfz := true, intr := none, gcs := [⟨0, [1, 2, 3, 6, 7, 21, 22], [(7, some 3, 4)]⟩, ⟨2, [1, 2, 3, 6, 7, 45, 46], [(7, some 4, 6)]⟩] }
noncomputable def fn67 : AFn := { body := (Try.f67.body).getD .skip, ntmps := 47, res := Try.f67.results.toList, pfz := [true], rfz := true, intr := none, gcs := [⟨0, [1, 3, 9, 10], []⟩, ⟨2, [1, 3, 25, 26], []⟩] }
noncomputable def fn68 : AFn := { body := (Try.f68.body).getD .skip, ntmps := 26, res := Try.f68.results.toList, pfz := [true, true], rfz := true, intr := none, gcs := [⟨0, [0, 1, 4, 8, 9], []⟩] }
noncomputable def fn69 : AFn := { body := (Try.f69.body).getD .skip, ntmps := 49, res := Try.f69.results.toList, pfz := [true], rfz := true, intr := none, gcs := [⟨0, [0, 4, 11, 12], []⟩, ⟨2, [0, 4, 5], []⟩, ⟨4, [0, 4, 5, 6, 7, 28, 29], []⟩] }
noncomputable def fn70 : AFn := { body := (Try.f70.body).getD .skip, ntmps := 78, res := Try.f70.results.toList, pfz := [true, true], rfz := true, intr := none, gcs := [⟨0, [2, 3, 32, 33], []⟩, ⟨2, [2, 3, 50, 51], []⟩] }
noncomputable def fn71 : AFn := { body := (Try.f71.body).getD .skip, ntmps := 26, res := Try.f71.results.toList, pfz := [true, true, true], rfz := true, intr := none, gcs := [] }
noncomputable def fn90 : AFn := { body := (Try.f90.body).getD .skip, ntmps := 22, res := Try.f90.results.toList, pfz := [true], rfz := true, intr := none, gcs := [⟨0, [0, 3], []⟩] }
noncomputable def fn116 : AFn := { body := (Try.f116.body).getD .skip, ntmps := 68, res := Try.f116.results.toList, pfz := [true], rfz := true, intr := none, gcs := [⟨0, [1, 3, 10, 11], []⟩, ⟨2, [1, 3, 33, 34], []⟩] }
noncomputable def fn125 : AFn := { body := (Try.f125.body).getD .skip, ntmps := 22, res := Try.f125.results.toList, pfz := [true], rfz := true, intr := none, gcs := [⟨0, [3, 6, 7, 8], [(3, none, 1)]⟩] }
noncomputable def fn127 : AFn := { body := (Try.f127.body).getD .skip, ntmps := 38, res := Try.f127.results.toList, pfz := [true], rfz := true, intr := none, gcs := [⟨0, [0, 8, 9], []⟩] }
noncomputable def fn128 : AFn := { body := (Try.f128.body).getD .skip, ntmps := 3, res := Try.f128.results.toList, pfz := [true], rfz := true, intr := none, gcs := [] }
noncomputable def fn129 : AFn := { body := (Try.f129.body).getD .skip, ntmps := 36, res := Try.f129.results.toList, pfz := [true], rfz := true, intr := none, gcs := [] }
noncomputable def fn130 : AFn := { body := (Try.f130.body).getD .skip, ntmps := 9, res := Try.f130.results.toList, pfz := [true, true], rfz := false, intr := none, gcs := [] }
noncomputable def fn131 : AFn := { body := (Try.f131.body).getD .skip, ntmps := 24, res := Try.f131.results.toList, pfz := [true], rfz := true, intr := none, gcs := [⟨0, [1, 3, 7, 8, 9], [(3, none, 1)]⟩] }
noncomputable def fn132 : AFn := { body := (Try.f132.body).getD .skip, ntmps := 8, res := Try.f132.results.toList, pfz := [true, false], rfz := true, intr := none, gcs := [] }
noncomputable def fn133 : AFn := { body := (Try.f133.body).getD .skip, ntmps := 20, res := Try.f133.results.toList, pfz := [true], rfz := false, intr := none, gcs := [] }
noncomputable def fn134 : AFn := { body := (Try.f134.body).getD .skip, ntmps := 58, res := Try.f134.results.toList, pfz := [true], rfz := true, intr := none, gcs := [] }
noncomputable def fn135 : AFn := { body := (Try.f135.body).getD .skip, ntmps := 29, res := Try.f135.results.toList, pfz := [true, true, true], rfz := true, intr := none, gcs := [⟨0, [0, 1, 2, 12, 13], []⟩] }
noncomputable def fn136 : AFn := { body := (Try.f136.body).getD .skip, ntmps := 58, res := Try.f136.results.toList, pfz := [true, true], rfz := true, intr := none, gcs := [⟨0, [0, 1, 5, 13, 14], []⟩, ⟨2, [0, 1, 5, 7, 8, 13, 14, 24, 25], []⟩, ⟨4, [0, 1, 5, 7, 8, 9, 13, 14, 24, 25, 29, 30], []⟩] }
noncomputable def fn137 : AFn := { body := (Try.f137.body).getD .skip, ntmps := 26, res := Try.f137.results.toList, pfz := [true, true], rfz := true, intr := none, gcs := [⟨0, [0, 1, 12, 13], []⟩] }
noncomputable def fn159 : AFn := { body := (Try.f159.body).getD .skip, ntmps := 8, res := Try.f159.results.toList, pfz := [true], rfz := false, intr := some (1, 16), gcs := [] }
noncomputable def fn185 : AFn := { body := (Try.f185.body).getD .skip, ntmps := 52, res := Try.f185.results.toList, pfz := [true], rfz := true, intr := none, gcs := [⟨0, [1, 18, 19, 20], []⟩] }
noncomputable def fn186 : AFn := { body := (Try.f186.body).getD .skip, ntmps := 74, res := Try.f186.results.toList, pfz := [true], rfz := true, intr := none, gcs := [⟨0, [1, 29, 30, 31], []⟩, ⟨2, [1, 5, 54, 55, 56], []⟩] }
noncomputable def fn187 : AFn := { body := (Try.f187.body).getD .skip, ntmps := 19, res := Try.f187.results.toList, pfz := [true, true], rfz := false, intr := none, gcs := [⟨0, [0, 1, 7, 8], []⟩] }
noncomputable def fn188 : AFn := { body := (Try.f188.body).getD .skip, ntmps := 8, res := Try.f188.results.toList, pfz := [true], rfz := false, intr := some (2, 32), gcs := [] }
noncomputable def fn189 : AFn := { body := (Try.f189.body).getD .skip, ntmps := 8, res := Try.f189.results.toList, pfz := [true], rfz := false, intr := some (4, 40), gcs := [] }
noncomputable def fn190 : AFn := { body := (Try.f190.body).getD .skip, ntmps := 8, res := Try.f190.results.toList, pfz := [true], rfz := false, intr := some (6, 64), gcs := [] }
noncomputable def fn219 : AFn := { body := (Try.f219.body).getD .skip, ntmps := 6, res := Try.f219.results.toList, pfz := [true], rfz := true, intr := none, gcs := [] }
noncomputable def fn220 : AFn := { body := (Try.f220.body).getD .skip, ntmps := 9, res := Try.f220.results.toList, pfz := [true, true], rfz := false, intr := none, gcs := [] }
noncomputable def fn221 : AFn := { body := (Try.f221.body).getD .skip, ntmps := 6, res := Try.f221.results.toList, pfz := [true], rfz := true, intr := none, gcs := [] }
noncomputable def fn222 : AFn := { body := (Try.f222.body).getD .skip, ntmps := 47, res := Try.f222.results.toList, pfz := [true], rfz := true, intr := none, gcs := [] }
noncomputable def fn236 : AFn := { body := (Try.f236.body).getD .skip, ntmps := 19, res := Try.f236.results.toList, pfz := [true, true], rfz := false, intr := none, gcs := [⟨0, [0, 1, 7, 8], []⟩] }
noncomputable def fns : FuncId → Option AFn
  | 3 => some fn3
  | 4 => some fn4
  | 14 => some fn14
  | 15 => some fn15
  | 16 => some fn16
  | 17 => some fn17
  | 18 => some fn18
  | 19 => some fn19
  | 34 => some fn34
  | 44 => some fn44
  | 59 => some fn59
  | 60 => some fn60
  | 61 => some fn61
  | 62 => some fn62
  | 63 => some fn63
  | 64 => some fn64
  | 65 => some fn65
  | 66 => some fn66
  | 67 => some fn67
  | 68 => some fn68
  | 69 => some fn69
  | 70 => some fn70
  | 71 => some fn71
  | 90 => some fn90
  | 116 => some fn116
  | 125 => some fn125
  | 127 => some fn127
  | 128 => some fn128
  | 129 => some fn129
  | 130 => some fn130
  | 131 => some fn131
  | 132 => some fn132
  | 133 => some fn133
  | 134 => some fn134
  | 135 => some fn135
  | 136 => some fn136
  | 137 => some fn137
  | 159 => some fn159
  | 185 => some fn185
  | 186 => some fn186
  | 187 => some fn187
  | 188 => some fn188
  | 189 => some fn189
  | 190 => some fn190
  | 219 => some fn219
  | 220 => some fn220
  | 221 => some fn221
  | 222 => some fn222
  | 236 => some fn236
  | _ => none
end Go.Proofs.Ytfdemnefkfkghaa.R
