/-
  How structs and arrays of this seat are put together from their parts.
-/
import Derived.Test.YtcgocdcbceeoiaaGreatA27
import Derived.Test.YtcgocdcbceeoiaaGreatTy
namespace Go.Proofs.YtcgocdcbceeoiaaGreat
open Go Go.Proofs
instance tBuild_45 : TBuild Tryz.prog 45 [(0, 1), (1, 1), (2, 1), (3, 1)] [.bool false, .bool false, .bool false, .bool false] := tBuild_of (by kernel_rfl)
instance tBuild_52 : TBuild Tryz.prog 52 [(0, 4), (4, 4), (8, 4), (12, 4)] [.flt .f32 0, .flt .f32 0, .flt .f32 0, .flt .f32 0, .flt .f32 0, .flt .f32 0, .flt .f32 0, .flt .f32 0, .flt .f32 0, .flt .f32 0, .flt .f32 0, .flt .f32 0, .flt .f32 0, .flt .f32 0, .flt .f32 0, .flt .f32 0] := tBuild_of (by kernel_rfl)
instance tBuild_95 : TBuild Tryz.prog 95 [(0, 1), (1, 1), (2, 1), (3, 1)] [.flt .f32 0, .flt .f32 0, .flt .f32 0, .flt .f32 0] := tBuild_of (by kernel_rfl)
instance tBuild_139 : TBuild Tryz.prog 139 [(0, 1), (1, 1), (2, 1), (3, 1), (4, 1), (5, 1), (6, 1), (7, 1)] [.bool false, .bool false, .bool false, .bool false, .bool false, .bool false, .bool false, .bool false] := tBuild_of (by kernel_rfl)
instance tBuild_185 : TBuild Tryz.prog 185 [(0, 1), (1, 4), (5, 4), (9, 4), (13, 4), (17, 4), (21, 4)] [.any, .flt .f32 0, .flt .f32 0, .flt .f32 0, .flt .f32 0, .flt .f32 0, .flt .f32 0, .flt .f32 0, .flt .f32 0, .flt .f32 0, .flt .f32 0, .flt .f32 0, .flt .f32 0, .flt .f32 0, .flt .f32 0, .flt .f32 0, .flt .f32 0, .bool false, .bool false, .bool false, .bool false, .int .i64 0, .int .i64 0, .int .i64 0, .int .i64 0] := tBuild_of (by kernel_rfl)
instance tBuild_190 : TBuild Tryz.prog 190 [(0, 22), (22, 4), (26, 4), (30, 4), (34, 4), (38, 4), (42, 4)] [.int .i64 0, .int .i64 0, .flt .f32 0, .flt .f32 0, .flt .f32 0, .flt .f32 0, .flt .f32 0, .flt .f32 0, .flt .f32 0, .flt .f32 0, .flt .f32 0, .flt .f32 0, .flt .f32 0, .flt .f32 0, .flt .f32 0, .flt .f32 0, .flt .f32 0, .flt .f32 0, .flt .f32 0, .flt .f32 0, .flt .f32 0, .flt .f32 0, .flt .f32 0, .flt .f32 0, .flt .f32 0, .flt .f32 0, .flt .f32 0, .flt .f32 0, .flt .f32 0, .flt .f32 0, .flt .f32 0, .flt .f32 0, .flt .f32 0, .flt .f32 0, .flt .f32 0, .flt .f32 0, .flt .f32 0, .flt .f32 0, .bool false, .bool false, .bool false, .bool false, .int .i64 0, .int .i64 0, .int .i64 0, .int .i64 0] := tBuild_of (by kernel_rfl)
end Go.Proofs.YtcgocdcbceeoiaaGreat
