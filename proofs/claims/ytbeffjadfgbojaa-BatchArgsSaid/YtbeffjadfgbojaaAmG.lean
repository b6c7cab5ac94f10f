/- The tables of the program. Printed by gen_ti.py. -/
import Derived.Test.YtbeffjadfgbojaaAmT
import Derived.Test.YtbeffjadfgbojaaAmF
import Derived.Test.YtbeffjadfgbojaaProg
import Derived.KernelRfl
namespace Am
open Go Go.Proofs
set_option maxRecDepth 100000
noncomputable def ti1 : TI UU := { size := 1, bytes := 8, tk := .func, zero := [.nilfn], ty := none, flat := [] }
noncomputable def ti2 : TI UU := { size := 1, bytes := 8, tk := .int .i64, zero := [.int .i64 0], ty := (some Ty.int), flat := [] }
noncomputable def ti3 : TI UU := { size := 1, bytes := 8, tk := .int .i64, zero := [.int .i64 0], ty := (some Ty.int), flat := [] }
noncomputable def ti4 : TI UU := { size := 1, bytes := 1, tk := .bool, zero := [.bool false], ty := (some Ty.bool), flat := [] }
noncomputable def ti5 : TI UU := { size := 1, bytes := 1, tk := .int .u8, zero := [.int .u8 0], ty := (some Ty.u8), flat := [] }
noncomputable def ti6 : TI UU := { size := 1, bytes := 1, tk := .int .u8, zero := [.int .u8 0], ty := (some Ty.u8), flat := [] }
noncomputable def ti7 : TI UU := { size := 4, bytes := 24, tk := .struct [(0, 2), (1, 3), (2, 4), (3, 6)], zero := [.int .i64 0, .int .i64 0, .bool false, .int .u8 0], ty := none, flat := [.i, .i, .b, .i] }
noncomputable def ti8 : TI UU := { size := 4, bytes := 24, tk := .struct [(0, 2), (1, 3), (2, 4), (3, 6)], zero := [.int .i64 0, .int .i64 0, .bool false, .int .u8 0], ty := none, flat := [.i, .i, .b, .i] }
noncomputable def ti9 : TI UU := { size := 1, bytes := 16, tk := .str, zero := [.str []], ty := (some Ty.str), flat := [] }
noncomputable def ti10 : TI UU := { size := 1, bytes := 16, tk := .str, zero := [.str []], ty := (some Ty.str), flat := [] }
noncomputable def ti11 : TI UU := { size := 1, bytes := 16, tk := .str, zero := [.str []], ty := (some Ty.str), flat := [] }
noncomputable def ti12 : TI UU := { size := 1, bytes := 8, tk := .int .u64, zero := [.int .u64 0], ty := none, flat := [] }
noncomputable def ti13 : TI UU := { size := 2, bytes := 24, tk := .struct [(0, 9), (1, 12)], zero := [.str [], .int .u64 0], ty := none, flat := [] }
noncomputable def ti14 : TI UU := { size := 2, bytes := 24, tk := .struct [(0, 9), (1, 12)], zero := [.str [], .int .u64 0], ty := none, flat := [] }
noncomputable def ti15 : TI UU := { size := 1, bytes := 8, tk := .ptr 155, zero := [.nilp], ty := none, flat := [] }
noncomputable def ti16 : TI UU := { size := 1, bytes := 8, tk := .ptr 158, zero := [.nilp], ty := none, flat := [] }
noncomputable def ti17 : TI UU := { size := 1, bytes := 8, tk := .ptr 167, zero := [.nilp], ty := none, flat := [] }
noncomputable def ti18 : TI UU := { size := 1, bytes := 8, tk := .struct [(0, 17)], zero := [.nilp], ty := none, flat := [] }
noncomputable def ti19 : TI UU := { size := 1, bytes := 8, tk := .struct [(0, 17)], zero := [.nilp], ty := none, flat := [] }
noncomputable def ti20 : TI UU := { size := 1, bytes := 16, tk := .iface, zero := [.nilif], ty := none, flat := [] }
noncomputable def ti21 : TI UU := { size := 1, bytes := 4, tk := .int .i32, zero := [.int .i32 0], ty := none, flat := [] }
noncomputable def ti22 : TI UU := { size := 1, bytes := 24, tk := .slice 3, zero := [.nilsl], ty := none, flat := [] }
noncomputable def ti23 : TI UU := { size := 3, bytes := 40, tk := .struct [(0, 3), (1, 3), (2, 22)], zero := [.int .i64 0, .int .i64 0, .nilsl], ty := none, flat := [] }
noncomputable def ti24 : TI UU := { size := 3, bytes := 40, tk := .struct [(0, 3), (1, 3), (2, 22)], zero := [.int .i64 0, .int .i64 0, .nilsl], ty := (some Ty.mask), flat := [] }
noncomputable def ti25 : TI UU := { size := 6, bytes := 48, tk := .struct [(0, 3), (1, 3), (2, 3), (3, 3), (4, 3), (5, 3)], zero := [.int .i64 0, .int .i64 0, .int .i64 0, .int .i64 0, .int .i64 0, .int .i64 0], ty := none, flat := [.i, .i, .i, .i, .i, .i] }
noncomputable def ti26 : TI UU := { size := 6, bytes := 48, tk := .struct [(0, 3), (1, 3), (2, 3), (3, 3), (4, 3), (5, 3)], zero := [.int .i64 0, .int .i64 0, .int .i64 0, .int .i64 0, .int .i64 0, .int .i64 0], ty := (some Ty.affine), flat := [.i, .i, .i, .i, .i, .i] }
noncomputable def ti27 : TI UU := { size := 1, bytes := 24, tk := .slice 31, zero := [.nilsl], ty := none, flat := [] }
noncomputable def ti28 : TI UU := { size := 3, bytes := 40, tk := .struct [(0, 3), (1, 3), (2, 27)], zero := [.int .i64 0, .int .i64 0, .nilsl], ty := none, flat := [] }
noncomputable def ti29 : TI UU := { size := 3, bytes := 40, tk := .struct [(0, 3), (1, 3), (2, 27)], zero := [.int .i64 0, .int .i64 0, .nilsl], ty := (some Ty.image), flat := [] }
noncomputable def ti30 : TI UU := { size := 4, bytes := 32, tk := .struct [(0, 3), (1, 3), (2, 3), (3, 3)], zero := [.int .i64 0, .int .i64 0, .int .i64 0, .int .i64 0], ty := none, flat := [.i, .i, .i, .i] }
noncomputable def ti31 : TI UU := { size := 4, bytes := 32, tk := .struct [(0, 3), (1, 3), (2, 3), (3, 3)], zero := [.int .i64 0, .int .i64 0, .int .i64 0, .int .i64 0], ty := (some Ty.pixel), flat := [.i, .i, .i, .i] }
noncomputable def ti32 : TI UU := { size := 1, bytes := 24, tk := .slice 105, zero := [.nilsl], ty := none, flat := [] }
noncomputable def ti33 : TI UU := { size := 1, bytes := 24, tk := .slice 109, zero := [.nilsl], ty := none, flat := [] }
noncomputable def ti34 : TI UU := { size := 1, bytes := 24, tk := .slice 44, zero := [.nilsl], ty := none, flat := [] }
noncomputable def ti35 : TI UU := { size := 4, bytes := 48, tk := .struct [(0, 3), (1, 3), (2, 3), (3, 34)], zero := [.int .i64 0, .int .i64 0, .int .i64 0, .nilsl], ty := none, flat := [] }
noncomputable def ti36 : TI UU := { size := 4, bytes := 48, tk := .struct [(0, 3), (1, 3), (2, 3), (3, 34)], zero := [.int .i64 0, .int .i64 0, .int .i64 0, .nilsl], ty := (some Ty.warp), flat := [] }
noncomputable def ti37 : TI UU := { size := 43, bytes := 440, tk := .struct [(0, 3), (1, 3), (2, 3), (3, 9), (4, 4), (5, 4), (6, 4), (7, 3), (8, 3), (9, 24), (12, 26), (18, 3), (19, 29), (22, 31), (26, 3), (27, 22), (28, 3), (29, 32), (30, 33), (31, 3), (32, 3), (33, 3), (34, 3), (35, 9), (36, 3), (37, 3), (38, 3), (39, 36)], zero := [.int .i64 0, .int .i64 0, .int .i64 0, .str [], .bool false, .bool false, .bool false, .int .i64 0, .int .i64 0, .int .i64 0, .int .i64 0, .nilsl, .int .i64 0, .int .i64 0, .int .i64 0, .int .i64 0, .int .i64 0, .int .i64 0, .int .i64 0, .int .i64 0, .int .i64 0, .nilsl, .int .i64 0, .int .i64 0, .int .i64 0, .int .i64 0, .int .i64 0, .nilsl, .int .i64 0, .nilsl, .nilsl, .int .i64 0, .int .i64 0, .int .i64 0, .int .i64 0, .str [], .int .i64 0, .int .i64 0, .int .i64 0, .int .i64 0, .int .i64 0, .int .i64 0, .nilsl], ty := none, flat := [] }
noncomputable def ti38 : TI UU := { size := 43, bytes := 440, tk := .struct [(0, 3), (1, 3), (2, 3), (3, 9), (4, 4), (5, 4), (6, 4), (7, 3), (8, 3), (9, 24), (12, 26), (18, 3), (19, 29), (22, 31), (26, 3), (27, 22), (28, 3), (29, 32), (30, 33), (31, 3), (32, 3), (33, 3), (34, 3), (35, 9), (36, 3), (37, 3), (38, 3), (39, 36)], zero := [.int .i64 0, .int .i64 0, .int .i64 0, .str [], .bool false, .bool false, .bool false, .int .i64 0, .int .i64 0, .int .i64 0, .int .i64 0, .nilsl, .int .i64 0, .int .i64 0, .int .i64 0, .int .i64 0, .int .i64 0, .int .i64 0, .int .i64 0, .int .i64 0, .int .i64 0, .nilsl, .int .i64 0, .int .i64 0, .int .i64 0, .int .i64 0, .int .i64 0, .nilsl, .int .i64 0, .nilsl, .nilsl, .int .i64 0, .int .i64 0, .int .i64 0, .int .i64 0, .str [], .int .i64 0, .int .i64 0, .int .i64 0, .int .i64 0, .int .i64 0, .int .i64 0, .nilsl], ty := (some Ty.node), flat := [] }
noncomputable def ti39 : TI UU := { size := 1, bytes := 24, tk := .slice 115, zero := [.nilsl], ty := none, flat := [] }
noncomputable def ti40 : TI UU := { size := 16, bytes := 144, tk := .struct [(0, 3), (1, 3), (2, 3), (3, 3), (4, 3), (5, 3), (6, 3), (7, 3), (8, 3), (9, 31), (13, 3), (14, 39), (15, 4)], zero := [.int .i64 0, .int .i64 0, .int .i64 0, .int .i64 0, .int .i64 0, .int .i64 0, .int .i64 0, .int .i64 0, .int .i64 0, .int .i64 0, .int .i64 0, .int .i64 0, .int .i64 0, .int .i64 0, .nilsl, .bool false], ty := none, flat := [] }
noncomputable def ti41 : TI UU := { size := 16, bytes := 144, tk := .struct [(0, 3), (1, 3), (2, 3), (3, 3), (4, 3), (5, 3), (6, 3), (7, 3), (8, 3), (9, 31), (13, 3), (14, 39), (15, 4)], zero := [.int .i64 0, .int .i64 0, .int .i64 0, .int .i64 0, .int .i64 0, .int .i64 0, .int .i64 0, .int .i64 0, .int .i64 0, .int .i64 0, .int .i64 0, .int .i64 0, .int .i64 0, .int .i64 0, .nilsl, .bool false], ty := (some Ty.brush), flat := [] }
noncomputable def ti42 : TI UU := { size := 1, bytes := 24, tk := .slice 86, zero := [.nilsl], ty := none, flat := [] }
noncomputable def ti43 : TI UU := { size := 2, bytes := 16, tk := .struct [(0, 3), (1, 3)], zero := [.int .i64 0, .int .i64 0], ty := none, flat := [.i, .i] }
noncomputable def ti44 : TI UU := { size := 2, bytes := 16, tk := .struct [(0, 3), (1, 3)], zero := [.int .i64 0, .int .i64 0], ty := (some Ty.point), flat := [.i, .i] }
noncomputable def ti45 : TI UU := { size := 4, bytes := 32, tk := .struct [(0, 3), (1, 3), (2, 3), (3, 3)], zero := [.int .i64 0, .int .i64 0, .int .i64 0, .int .i64 0], ty := none, flat := [.i, .i, .i, .i] }
noncomputable def ti46 : TI UU := { size := 4, bytes := 32, tk := .struct [(0, 3), (1, 3), (2, 3), (3, 3)], zero := [.int .i64 0, .int .i64 0, .int .i64 0, .int .i64 0], ty := (some Ty.rect), flat := [.i, .i, .i, .i] }
noncomputable def ti47 : TI UU := { size := 84, bytes := 848, tk := .struct [(0, 3), (1, 3), (2, 3), (3, 3), (4, 3), (5, 3), (6, 9), (7, 9), (8, 38), (51, 24), (54, 29), (57, 41), (73, 42), (74, 44), (76, 46), (80, 31)], zero := [.int .i64 0, .int .i64 0, .int .i64 0, .int .i64 0, .int .i64 0, .int .i64 0, .str [], .str [], .int .i64 0, .int .i64 0, .int .i64 0, .str [], .bool false, .bool false, .bool false, .int .i64 0, .int .i64 0, .int .i64 0, .int .i64 0, .nilsl, .int .i64 0, .int .i64 0, .int .i64 0, .int .i64 0, .int .i64 0, .int .i64 0, .int .i64 0, .int .i64 0, .int .i64 0, .nilsl, .int .i64 0, .int .i64 0, .int .i64 0, .int .i64 0, .int .i64 0, .nilsl, .int .i64 0, .nilsl, .nilsl, .int .i64 0, .int .i64 0, .int .i64 0, .int .i64 0, .str [], .int .i64 0, .int .i64 0, .int .i64 0, .int .i64 0, .int .i64 0, .int .i64 0, .nilsl, .int .i64 0, .int .i64 0, .nilsl, .int .i64 0, .int .i64 0, .nilsl, .int .i64 0, .int .i64 0, .int .i64 0, .int .i64 0, .int .i64 0, .int .i64 0, .int .i64 0, .int .i64 0, .int .i64 0, .int .i64 0, .int .i64 0, .int .i64 0, .int .i64 0, .int .i64 0, .nilsl, .bool false, .nilsl, .int .i64 0, .int .i64 0, .int .i64 0, .int .i64 0, .int .i64 0, .int .i64 0, .int .i64 0, .int .i64 0, .int .i64 0, .int .i64 0], ty := none, flat := [] }
noncomputable def ti48 : TI UU := { size := 84, bytes := 848, tk := .struct [(0, 3), (1, 3), (2, 3), (3, 3), (4, 3), (5, 3), (6, 9), (7, 9), (8, 38), (51, 24), (54, 29), (57, 41), (73, 42), (74, 44), (76, 46), (80, 31)], zero := [.int .i64 0, .int .i64 0, .int .i64 0, .int .i64 0, .int .i64 0, .int .i64 0, .str [], .str [], .int .i64 0, .int .i64 0, .int .i64 0, .str [], .bool false, .bool false, .bool false, .int .i64 0, .int .i64 0, .int .i64 0, .int .i64 0, .nilsl, .int .i64 0, .int .i64 0, .int .i64 0, .int .i64 0, .int .i64 0, .int .i64 0, .int .i64 0, .int .i64 0, .int .i64 0, .nilsl, .int .i64 0, .int .i64 0, .int .i64 0, .int .i64 0, .int .i64 0, .nilsl, .int .i64 0, .nilsl, .nilsl, .int .i64 0, .int .i64 0, .int .i64 0, .int .i64 0, .str [], .int .i64 0, .int .i64 0, .int .i64 0, .int .i64 0, .int .i64 0, .int .i64 0, .nilsl, .int .i64 0, .int .i64 0, .nilsl, .int .i64 0, .int .i64 0, .nilsl, .int .i64 0, .int .i64 0, .int .i64 0, .int .i64 0, .int .i64 0, .int .i64 0, .int .i64 0, .int .i64 0, .int .i64 0, .int .i64 0, .int .i64 0, .int .i64 0, .int .i64 0, .int .i64 0, .nilsl, .bool false, .nilsl, .int .i64 0, .int .i64 0, .int .i64 0, .int .i64 0, .int .i64 0, .int .i64 0, .int .i64 0, .int .i64 0, .int .i64 0, .int .i64 0], ty := (some Ty.edit), flat := [] }
noncomputable def ti49 : TI UU := { size := 1, bytes := 24, tk := .slice 80, zero := [.nilsl], ty := (some Ty.l_bind), flat := [] }
noncomputable def ti50 : TI UU := { size := 85, bytes := 872, tk := .struct [(0, 48), (84, 49)], zero := [.int .i64 0, .int .i64 0, .int .i64 0, .int .i64 0, .int .i64 0, .int .i64 0, .str [], .str [], .int .i64 0, .int .i64 0, .int .i64 0, .str [], .bool false, .bool false, .bool false, .int .i64 0, .int .i64 0, .int .i64 0, .int .i64 0, .nilsl, .int .i64 0, .int .i64 0, .int .i64 0, .int .i64 0, .int .i64 0, .int .i64 0, .int .i64 0, .int .i64 0, .int .i64 0, .nilsl, .int .i64 0, .int .i64 0, .int .i64 0, .int .i64 0, .int .i64 0, .nilsl, .int .i64 0, .nilsl, .nilsl, .int .i64 0, .int .i64 0, .int .i64 0, .int .i64 0, .str [], .int .i64 0, .int .i64 0, .int .i64 0, .int .i64 0, .int .i64 0, .int .i64 0, .nilsl, .int .i64 0, .int .i64 0, .nilsl, .int .i64 0, .int .i64 0, .nilsl, .int .i64 0, .int .i64 0, .int .i64 0, .int .i64 0, .int .i64 0, .int .i64 0, .int .i64 0, .int .i64 0, .int .i64 0, .int .i64 0, .int .i64 0, .int .i64 0, .int .i64 0, .int .i64 0, .nilsl, .bool false, .nilsl, .int .i64 0, .int .i64 0, .int .i64 0, .int .i64 0, .int .i64 0, .int .i64 0, .int .i64 0, .int .i64 0, .int .i64 0, .int .i64 0, .nilsl], ty := none, flat := [] }
noncomputable def ti51 : TI UU := { size := 85, bytes := 872, tk := .struct [(0, 48), (84, 49)], zero := [.int .i64 0, .int .i64 0, .int .i64 0, .int .i64 0, .int .i64 0, .int .i64 0, .str [], .str [], .int .i64 0, .int .i64 0, .int .i64 0, .str [], .bool false, .bool false, .bool false, .int .i64 0, .int .i64 0, .int .i64 0, .int .i64 0, .nilsl, .int .i64 0, .int .i64 0, .int .i64 0, .int .i64 0, .int .i64 0, .int .i64 0, .int .i64 0, .int .i64 0, .int .i64 0, .nilsl, .int .i64 0, .int .i64 0, .int .i64 0, .int .i64 0, .int .i64 0, .nilsl, .int .i64 0, .nilsl, .nilsl, .int .i64 0, .int .i64 0, .int .i64 0, .int .i64 0, .str [], .int .i64 0, .int .i64 0, .int .i64 0, .int .i64 0, .int .i64 0, .int .i64 0, .nilsl, .int .i64 0, .int .i64 0, .nilsl, .int .i64 0, .int .i64 0, .nilsl, .int .i64 0, .int .i64 0, .int .i64 0, .int .i64 0, .int .i64 0, .int .i64 0, .int .i64 0, .int .i64 0, .int .i64 0, .int .i64 0, .int .i64 0, .int .i64 0, .int .i64 0, .int .i64 0, .nilsl, .bool false, .nilsl, .int .i64 0, .int .i64 0, .int .i64 0, .int .i64 0, .int .i64 0, .int .i64 0, .int .i64 0, .int .i64 0, .int .i64 0, .int .i64 0, .nilsl], ty := (some Ty.action), flat := [] }
noncomputable def ti52 : TI UU := { size := 1, bytes := 24, tk := .slice 73, zero := [.nilsl], ty := none, flat := [] }
noncomputable def ti53 : TI UU := { size := 1, bytes := 8, tk := .int .i64, zero := [.int .i64 0], ty := (some Ty.int), flat := [] }
noncomputable def ti55 : TI UU := { size := 1, bytes := 8, tk := .func, zero := [.nilfn], ty := none, flat := [] }
noncomputable def ti56 : TI UU := { size := 1, bytes := 8, tk := .func, zero := [.nilfn], ty := none, flat := [] }
noncomputable def ti57 : TI UU := { size := 1, bytes := 8, tk := .func, zero := [.nilfn], ty := none, flat := [] }
noncomputable def ti58 : TI UU := { size := 1, bytes := 8, tk := .func, zero := [.nilfn], ty := none, flat := [] }
noncomputable def ti59 : TI UU := { size := 1, bytes := 24, tk := .slice 48, zero := [.nilsl], ty := none, flat := [] }
noncomputable def ti60 : TI UU := { size := 1, bytes := 24, tk := .slice 49, zero := [.nilsl], ty := none, flat := [] }
noncomputable def ti61 : TI UU := { size := 1, bytes := 24, tk := .slice 51, zero := [.nilsl], ty := none, flat := [] }
noncomputable def ti63 : TI UU := { size := 1, bytes := 8, tk := .func, zero := [.nilfn], ty := none, flat := [] }
noncomputable def ti64 : TI UU := { size := 1, bytes := 8, tk := .func, zero := [.nilfn], ty := none, flat := [] }
noncomputable def ti65 : TI UU := { size := 1, bytes := 8, tk := .func, zero := [.nilfn], ty := none, flat := [] }
noncomputable def ti66 : TI UU := { size := 1, bytes := 8, tk := .func, zero := [.nilfn], ty := none, flat := [] }
noncomputable def ti67 : TI UU := { size := 1, bytes := 24, tk := .slice 9, zero := [.nilsl], ty := none, flat := [] }
noncomputable def ti68 : TI UU := { size := 1, bytes := 8, tk := .func, zero := [.nilfn], ty := none, flat := [] }
noncomputable def ti69 : TI UU := { size := 1, bytes := 8, tk := .func, zero := [.nilfn], ty := none, flat := [] }
noncomputable def ti70 : TI UU := { size := 1, bytes := 8, tk := .func, zero := [.nilfn], ty := none, flat := [] }
noncomputable def ti71 : TI UU := { size := 1, bytes := 8, tk := .func, zero := [.nilfn], ty := none, flat := [] }
noncomputable def ti72 : TI UU := { size := 2, bytes := 24, tk := .struct [(0, 9), (1, 3)], zero := [.str [], .int .i64 0], ty := none, flat := [.s, .i] }
noncomputable def ti73 : TI UU := { size := 2, bytes := 24, tk := .struct [(0, 9), (1, 3)], zero := [.str [], .int .i64 0], ty := (some Ty.arg), flat := [.s, .i] }
noncomputable def ti74 : TI UU := { size := 1, bytes := 8, tk := .func, zero := [.nilfn], ty := none, flat := [] }
noncomputable def ti75 : TI UU := { size := 1, bytes := 8, tk := .func, zero := [.nilfn], ty := none, flat := [] }
noncomputable def ti76 : TI UU := { size := 1, bytes := 8, tk := .map 9 3, zero := [.nilmap], ty := none, flat := [] }
noncomputable def ti78 : TI UU := { size := 1, bytes := 8, tk := .func, zero := [.nilfn], ty := none, flat := [] }
noncomputable def ti79 : TI UU := { size := 2, bytes := 32, tk := .struct [(0, 9), (1, 9)], zero := [.str [], .str []], ty := none, flat := [.s, .s] }
noncomputable def ti80 : TI UU := { size := 2, bytes := 32, tk := .struct [(0, 9), (1, 9)], zero := [.str [], .str []], ty := (some Ty.bind), flat := [.s, .s] }
noncomputable def ti81 : TI UU := { size := 1, bytes := 8, tk := .ptr 3, zero := [.nilp], ty := none, flat := [] }
noncomputable def ti82 : TI UU := { size := 1, bytes := 8, tk := .func, zero := [.nilfn], ty := none, flat := [] }
noncomputable def ti83 : TI UU := { size := 1, bytes := 8, tk := .ptr 48, zero := [.nilp], ty := none, flat := [] }
noncomputable def ti84 : TI UU := { size := 1, bytes := 8, tk := .func, zero := [.nilfn], ty := none, flat := [] }
noncomputable def ti85 : TI UU := { size := 5, bytes := 40, tk := .struct [(0, 3), (1, 3), (2, 3), (3, 3), (4, 3)], zero := [.int .i64 0, .int .i64 0, .int .i64 0, .int .i64 0, .int .i64 0], ty := none, flat := [.i, .i, .i, .i, .i] }
noncomputable def ti86 : TI UU := { size := 5, bytes := 40, tk := .struct [(0, 3), (1, 3), (2, 3), (3, 3), (4, 3)], zero := [.int .i64 0, .int .i64 0, .int .i64 0, .int .i64 0, .int .i64 0], ty := (some Ty.sample), flat := [.i, .i, .i, .i, .i] }
noncomputable def ti87 : TI UU := { size := 1, bytes := 8, tk := .func, zero := [.nilfn], ty := none, flat := [] }
noncomputable def ti88 : TI UU := { size := 1, bytes := 8, tk := .func, zero := [.nilfn], ty := none, flat := [] }
noncomputable def ti89 : TI UU := { size := 1, bytes := 8, tk := .func, zero := [.nilfn], ty := none, flat := [] }
noncomputable def ti90 : TI UU := { size := 1, bytes := 8, tk := .func, zero := [.nilfn], ty := none, flat := [] }
noncomputable def ti91 : TI UU := { size := 1, bytes := 8, tk := .func, zero := [.nilfn], ty := none, flat := [] }
noncomputable def ti92 : TI UU := { size := 1, bytes := 8, tk := .func, zero := [.nilfn], ty := none, flat := [] }
noncomputable def ti93 : TI UU := { size := 1, bytes := 8, tk := .func, zero := [.nilfn], ty := none, flat := [] }
noncomputable def ti94 : TI UU := { size := 1, bytes := 8, tk := .func, zero := [.nilfn], ty := none, flat := [] }
noncomputable def ti95 : TI UU := { size := 1, bytes := 8, tk := .func, zero := [.nilfn], ty := none, flat := [] }
noncomputable def ti96 : TI UU := { size := 1, bytes := 8, tk := .func, zero := [.nilfn], ty := none, flat := [] }
noncomputable def ti97 : TI UU := { size := 1, bytes := 8, tk := .func, zero := [.nilfn], ty := none, flat := [] }
noncomputable def ti98 : TI UU := { size := 1, bytes := 8, tk := .func, zero := [.nilfn], ty := none, flat := [] }
noncomputable def ti99 : TI UU := { size := 1, bytes := 8, tk := .func, zero := [.nilfn], ty := none, flat := [] }
noncomputable def ti100 : TI UU := { size := 1, bytes := 8, tk := .ptr 38, zero := [.nilp], ty := none, flat := [] }
noncomputable def ti101 : TI UU := { size := 1, bytes := 8, tk := .func, zero := [.nilfn], ty := none, flat := [] }
noncomputable def ti102 : TI UU := { size := 1, bytes := 8, tk := .func, zero := [.nilfn], ty := none, flat := [] }
noncomputable def ti103 : TI UU := { size := 1, bytes := 8, tk := .func, zero := [.nilfn], ty := none, flat := [] }
noncomputable def ti104 : TI UU := { size := 5, bytes := 40, tk := .struct [(0, 3), (1, 31)], zero := [.int .i64 0, .int .i64 0, .int .i64 0, .int .i64 0, .int .i64 0], ty := none, flat := [.i, .i, .i, .i, .i] }
noncomputable def ti105 : TI UU := { size := 5, bytes := 40, tk := .struct [(0, 3), (1, 31)], zero := [.int .i64 0, .int .i64 0, .int .i64 0, .int .i64 0, .int .i64 0], ty := (some Ty.stop), flat := [.i, .i, .i, .i, .i] }
noncomputable def ti106 : TI UU := { size := 1, bytes := 8, tk := .func, zero := [.nilfn], ty := none, flat := [] }
noncomputable def ti107 : TI UU := { size := 6, bytes := 48, tk := .array 3 44, zero := [.int .i64 0, .int .i64 0, .int .i64 0, .int .i64 0, .int .i64 0, .int .i64 0], ty := none, flat := [.i, .i, .i, .i, .i, .i] }
noncomputable def ti108 : TI UU := { size := 7, bytes := 56, tk := .struct [(0, 3), (1, 107)], zero := [.int .i64 0, .int .i64 0, .int .i64 0, .int .i64 0, .int .i64 0, .int .i64 0, .int .i64 0], ty := none, flat := [.i, .i, .i, .i, .i, .i, .i] }
noncomputable def ti109 : TI UU := { size := 7, bytes := 56, tk := .struct [(0, 3), (1, 107)], zero := [.int .i64 0, .int .i64 0, .int .i64 0, .int .i64 0, .int .i64 0, .int .i64 0, .int .i64 0], ty := (some Ty.seg), flat := [.i, .i, .i, .i, .i, .i, .i] }
noncomputable def ti110 : TI UU := { size := 1, bytes := 8, tk := .func, zero := [.nilfn], ty := none, flat := [] }
noncomputable def ti111 : TI UU := { size := 1, bytes := 8, tk := .func, zero := [.nilfn], ty := none, flat := [] }
noncomputable def ti112 : TI UU := { size := 1, bytes := 8, tk := .func, zero := [.nilfn], ty := none, flat := [] }
noncomputable def ti113 : TI UU := { size := 1, bytes := 24, tk := .slice 117, zero := [.nilsl], ty := none, flat := [] }
noncomputable def ti114 : TI UU := { size := 3, bytes := 40, tk := .struct [(0, 3), (1, 3), (2, 113)], zero := [.int .i64 0, .int .i64 0, .nilsl], ty := none, flat := [] }
noncomputable def ti115 : TI UU := { size := 3, bytes := 40, tk := .struct [(0, 3), (1, 3), (2, 113)], zero := [.int .i64 0, .int .i64 0, .nilsl], ty := (some Ty.dynamic), flat := [] }
noncomputable def ti116 : TI UU := { size := 1, bytes := 8, tk := .func, zero := [.nilfn], ty := none, flat := [] }
noncomputable def ti117 : TI UU := { size := 2, bytes := 16, tk := .struct [(0, 3), (1, 3)], zero := [.int .i64 0, .int .i64 0], ty := (some Ty.knot), flat := [.i, .i] }
noncomputable def ti118 : TI UU := { size := 1, bytes := 8, tk := .func, zero := [.nilfn], ty := none, flat := [] }
noncomputable def ti119 : TI UU := { size := 1, bytes := 8, tk := .func, zero := [.nilfn], ty := none, flat := [] }
noncomputable def ti120 : TI UU := { size := 1, bytes := 8, tk := .func, zero := [.nilfn], ty := none, flat := [] }
noncomputable def ti121 : TI UU := { size := 1, bytes := 8, tk := .func, zero := [.nilfn], ty := none, flat := [] }
noncomputable def ti122 : TI UU := { size := 1, bytes := 8, tk := .func, zero := [.nilfn], ty := none, flat := [] }
noncomputable def ti123 : TI UU := { size := 1, bytes := 8, tk := .int .u64, zero := [.int .u64 0], ty := none, flat := [] }
noncomputable def ti124 : TI UU := { size := 1, bytes := 8, tk := .func, zero := [.nilfn], ty := none, flat := [] }
noncomputable def ti125 : TI UU := { size := 1, bytes := 24, tk := .slice 5, zero := [.nilsl], ty := none, flat := [] }
noncomputable def ti126 : TI UU := { size := 1, bytes := 8, tk := .func, zero := [.nilfn], ty := none, flat := [] }
noncomputable def ti127 : TI UU := { size := 1, bytes := 8, tk := .func, zero := [.nilfn], ty := none, flat := [] }
noncomputable def ti128 : TI UU := { size := 1, bytes := 8, tk := .func, zero := [.nilfn], ty := none, flat := [] }
noncomputable def ti129 : TI UU := { size := 1, bytes := 8, tk := .func, zero := [.nilfn], ty := none, flat := [] }
noncomputable def ti130 : TI UU := { size := 1, bytes := 8, tk := .func, zero := [.nilfn], ty := none, flat := [] }
noncomputable def ti131 : TI UU := { size := 1, bytes := 8, tk := .func, zero := [.nilfn], ty := none, flat := [] }
noncomputable def ti132 : TI UU := { size := 1, bytes := 8, tk := .func, zero := [.nilfn], ty := none, flat := [] }
noncomputable def ti133 : TI UU := { size := 1, bytes := 8, tk := .int .i64, zero := [.int .i64 0], ty := (some Ty.int), flat := [] }
noncomputable def ti135 : TI UU := { size := 1, bytes := 8, tk := .func, zero := [.nilfn], ty := none, flat := [] }
noncomputable def ti136 : TI UU := { size := 1, bytes := 8, tk := .func, zero := [.nilfn], ty := none, flat := [] }
noncomputable def ti137 : TI UU := { size := 1, bytes := 8, tk := .func, zero := [.nilfn], ty := none, flat := [] }
noncomputable def ti138 : TI UU := { size := 1, bytes := 8, tk := .func, zero := [.nilfn], ty := none, flat := [] }
noncomputable def ti139 : TI UU := { size := 1, bytes := 8, tk := .func, zero := [.nilfn], ty := none, flat := [] }
noncomputable def ti140 : TI UU := { size := 1, bytes := 8, tk := .func, zero := [.nilfn], ty := none, flat := [] }
noncomputable def ti141 : TI UU := { size := 1, bytes := 4, tk := .int .u32, zero := [.int .u32 0], ty := none, flat := [] }
noncomputable def ti142 : TI UU := { size := 1, bytes := 8, tk := .func, zero := [.nilfn], ty := none, flat := [] }
noncomputable def ti143 : TI UU := { size := 1, bytes := 8, tk := .int .u64, zero := [.int .u64 0], ty := none, flat := [] }
noncomputable def ti144 : TI UU := { size := 1, bytes := 8, tk := .func, zero := [.nilfn], ty := none, flat := [] }
noncomputable def ti145 : TI UU := { size := 1, bytes := 8, tk := .int .u64, zero := [.int .u64 0], ty := none, flat := [] }
noncomputable def ti146 : TI UU := { size := 1, bytes := 8, tk := .func, zero := [.nilfn], ty := none, flat := [] }
noncomputable def ti147 : TI UU := { size := 1, bytes := 8, tk := .func, zero := [.nilfn], ty := none, flat := [] }
noncomputable def ti148 : TI UU := { size := 1, bytes := 8, tk := .func, zero := [.nilfn], ty := none, flat := [] }
noncomputable def ti149 : TI UU := { size := 1, bytes := 8, tk := .func, zero := [.nilfn], ty := none, flat := [] }
noncomputable def ti150 : TI UU := { size := 1, bytes := 8, tk := .ptr 145, zero := [.nilp], ty := none, flat := [] }
noncomputable def ti152 : TI UU := { size := 1, bytes := 8, tk := .func, zero := [.nilfn], ty := none, flat := [] }
noncomputable def ti153 : TI UU := { size := 1, bytes := 8, tk := .func, zero := [.nilfn], ty := none, flat := [] }
noncomputable def ti154 : TI UU := { size := 4, bytes := 40, tk := .struct [(0, 17), (1, 17), (2, 17), (3, 9)], zero := [.nilp, .nilp, .nilp, .str []], ty := none, flat := [] }
noncomputable def ti155 : TI UU := { size := 4, bytes := 40, tk := .struct [(0, 17), (1, 17), (2, 17), (3, 9)], zero := [.nilp, .nilp, .nilp, .str []], ty := none, flat := [] }
noncomputable def ti156 : TI UU := { size := 0, bytes := 0, tk := .array 0 16, zero := [], ty := none, flat := [] }
noncomputable def ti157 : TI UU := { size := 0, bytes := 0, tk := .struct [(0, 156)], zero := [], ty := none, flat := [] }
noncomputable def ti158 : TI UU := { size := 0, bytes := 0, tk := .struct [(0, 156)], zero := [], ty := none, flat := [] }
noncomputable def ti159 : TI UU := { size := 1, bytes := 8, tk := .func, zero := [.nilfn], ty := none, flat := [] }
noncomputable def ti160 : TI UU := { size := 1, bytes := 1, tk := .int .u8, zero := [.int .u8 0], ty := (some Ty.u8), flat := [] }
noncomputable def ti161 : TI UU := { size := 1, bytes := 1, tk := .int .u8, zero := [.int .u8 0], ty := (some Ty.u8), flat := [] }
noncomputable def ti162 : TI UU := { size := 1, bytes := 8, tk := .func, zero := [.nilfn], ty := none, flat := [] }
noncomputable def ti163 : TI UU := { size := 1, bytes := 8, tk := .ptr 5, zero := [.nilp], ty := none, flat := [] }
noncomputable def ti164 : TI UU := { size := 1, bytes := 4, tk := .int .i32, zero := [.int .i32 0], ty := none, flat := [] }
noncomputable def ti165 : TI UU := { size := 1, bytes := 4, tk := .int .i32, zero := [.int .i32 0], ty := none, flat := [] }
noncomputable def ti166 : TI UU := { size := 11, bytes := 48, tk := .struct [(0, 12), (1, 12), (2, 141), (3, 160), (4, 5), (5, 5), (6, 161), (7, 162), (8, 163), (9, 164), (10, 165)], zero := [.int .u64 0, .int .u64 0, .int .u32 0, .int .u8 0, .int .u8 0, .int .u8 0, .int .u8 0, .nilfn, .nilp, .int .i32 0, .int .i32 0], ty := none, flat := [] }
noncomputable def ti167 : TI UU := { size := 11, bytes := 48, tk := .struct [(0, 12), (1, 12), (2, 141), (3, 160), (4, 5), (5, 5), (6, 161), (7, 162), (8, 163), (9, 164), (10, 165)], zero := [.int .u64 0, .int .u64 0, .int .u32 0, .int .u8 0, .int .u8 0, .int .u8 0, .int .u8 0, .nilfn, .nilp, .int .i32 0, .int .i32 0], ty := none, flat := [] }
noncomputable def tiTree : Tr (TI UU) := (.node 85 ti85 (.node 41 ti41 (.node 21 ti21 (.node 11 ti11 (.node 6 ti6 (.node 3 ti3 (.node 2 ti2 (.node 1 ti1 .leaf .leaf) .leaf) (.node 5 ti5 (.node 4 ti4 .leaf .leaf) .leaf)) (.node 9 ti9 (.node 8 ti8 (.node 7 ti7 .leaf .leaf) .leaf) (.node 10 ti10 .leaf .leaf))) (.node 16 ti16 (.node 14 ti14 (.node 13 ti13 (.node 12 ti12 .leaf .leaf) .leaf) (.node 15 ti15 .leaf .leaf)) (.node 19 ti19 (.node 18 ti18 (.node 17 ti17 .leaf .leaf) .leaf) (.node 20 ti20 .leaf .leaf)))) (.node 31 ti31 (.node 26 ti26 (.node 24 ti24 (.node 23 ti23 (.node 22 ti22 .leaf .leaf) .leaf) (.node 25 ti25 .leaf .leaf)) (.node 29 ti29 (.node 28 ti28 (.node 27 ti27 .leaf .leaf) .leaf) (.node 30 ti30 .leaf .leaf))) (.node 36 ti36 (.node 34 ti34 (.node 33 ti33 (.node 32 ti32 .leaf .leaf) .leaf) (.node 35 ti35 .leaf .leaf)) (.node 39 ti39 (.node 38 ti38 (.node 37 ti37 .leaf .leaf) .leaf) (.node 40 ti40 .leaf .leaf))))) (.node 64 ti64 (.node 52 ti52 (.node 47 ti47 (.node 44 ti44 (.node 43 ti43 (.node 42 ti42 .leaf .leaf) .leaf) (.node 46 ti46 (.node 45 ti45 .leaf .leaf) .leaf)) (.node 50 ti50 (.node 49 ti49 (.node 48 ti48 .leaf .leaf) .leaf) (.node 51 ti51 .leaf .leaf))) (.node 58 ti58 (.node 56 ti56 (.node 55 ti55 (.node 53 ti53 .leaf .leaf) .leaf) (.node 57 ti57 .leaf .leaf)) (.node 61 ti61 (.node 60 ti60 (.node 59 ti59 .leaf .leaf) .leaf) (.node 63 ti63 .leaf .leaf)))) (.node 74 ti74 (.node 69 ti69 (.node 67 ti67 (.node 66 ti66 (.node 65 ti65 .leaf .leaf) .leaf) (.node 68 ti68 .leaf .leaf)) (.node 72 ti72 (.node 71 ti71 (.node 70 ti70 .leaf .leaf) .leaf) (.node 73 ti73 .leaf .leaf))) (.node 80 ti80 (.node 78 ti78 (.node 76 ti76 (.node 75 ti75 .leaf .leaf) .leaf) (.node 79 ti79 .leaf .leaf)) (.node 83 ti83 (.node 82 ti82 (.node 81 ti81 .leaf .leaf) .leaf) (.node 84 ti84 .leaf .leaf)))))) (.node 126 ti126 (.node 106 ti106 (.node 96 ti96 (.node 91 ti91 (.node 88 ti88 (.node 87 ti87 (.node 86 ti86 .leaf .leaf) .leaf) (.node 90 ti90 (.node 89 ti89 .leaf .leaf) .leaf)) (.node 94 ti94 (.node 93 ti93 (.node 92 ti92 .leaf .leaf) .leaf) (.node 95 ti95 .leaf .leaf))) (.node 101 ti101 (.node 99 ti99 (.node 98 ti98 (.node 97 ti97 .leaf .leaf) .leaf) (.node 100 ti100 .leaf .leaf)) (.node 104 ti104 (.node 103 ti103 (.node 102 ti102 .leaf .leaf) .leaf) (.node 105 ti105 .leaf .leaf)))) (.node 116 ti116 (.node 111 ti111 (.node 109 ti109 (.node 108 ti108 (.node 107 ti107 .leaf .leaf) .leaf) (.node 110 ti110 .leaf .leaf)) (.node 114 ti114 (.node 113 ti113 (.node 112 ti112 .leaf .leaf) .leaf) (.node 115 ti115 .leaf .leaf))) (.node 121 ti121 (.node 119 ti119 (.node 118 ti118 (.node 117 ti117 .leaf .leaf) .leaf) (.node 120 ti120 .leaf .leaf)) (.node 124 ti124 (.node 123 ti123 (.node 122 ti122 .leaf .leaf) .leaf) (.node 125 ti125 .leaf .leaf))))) (.node 147 ti147 (.node 137 ti137 (.node 131 ti131 (.node 129 ti129 (.node 128 ti128 (.node 127 ti127 .leaf .leaf) .leaf) (.node 130 ti130 .leaf .leaf)) (.node 135 ti135 (.node 133 ti133 (.node 132 ti132 .leaf .leaf) .leaf) (.node 136 ti136 .leaf .leaf))) (.node 142 ti142 (.node 140 ti140 (.node 139 ti139 (.node 138 ti138 .leaf .leaf) .leaf) (.node 141 ti141 .leaf .leaf)) (.node 145 ti145 (.node 144 ti144 (.node 143 ti143 .leaf .leaf) .leaf) (.node 146 ti146 .leaf .leaf)))) (.node 158 ti158 (.node 153 ti153 (.node 150 ti150 (.node 149 ti149 (.node 148 ti148 .leaf .leaf) .leaf) (.node 152 ti152 .leaf .leaf)) (.node 156 ti156 (.node 155 ti155 (.node 154 ti154 .leaf .leaf) .leaf) (.node 157 ti157 .leaf .leaf))) (.node 163 ti163 (.node 161 ti161 (.node 160 ti160 (.node 159 ti159 .leaf .leaf) .leaf) (.node 162 ti162 .leaf .leaf)) (.node 166 ti166 (.node 165 ti165 (.node 164 ti164 .leaf .leaf) .leaf) (.node 167 ti167 .leaf .leaf)))))))
noncomputable def fnTree : Tr Func := (.node 48 Try.f48 (.node 24 Try.f24 (.node 12 Try.f12 (.node 6 Try.f6 (.node 3 Try.f3 (.node 1 Try.f1 (.node 0 Try.f0 .leaf .leaf) (.node 2 Try.f2 .leaf .leaf)) (.node 5 Try.f5 (.node 4 Try.f4 .leaf .leaf) .leaf)) (.node 9 Try.f9 (.node 8 Try.f8 (.node 7 Try.f7 .leaf .leaf) .leaf) (.node 11 Try.f11 (.node 10 Try.f10 .leaf .leaf) .leaf))) (.node 18 Try.f18 (.node 15 Try.f15 (.node 14 Try.f14 (.node 13 Try.f13 .leaf .leaf) .leaf) (.node 17 Try.f17 (.node 16 Try.f16 .leaf .leaf) .leaf)) (.node 21 Try.f21 (.node 20 Try.f20 (.node 19 Try.f19 .leaf .leaf) .leaf) (.node 23 Try.f23 (.node 22 Try.f22 .leaf .leaf) .leaf)))) (.node 36 Try.f36 (.node 30 Try.f30 (.node 27 Try.f27 (.node 26 Try.f26 (.node 25 Try.f25 .leaf .leaf) .leaf) (.node 29 Try.f29 (.node 28 Try.f28 .leaf .leaf) .leaf)) (.node 33 Try.f33 (.node 32 Try.f32 (.node 31 Try.f31 .leaf .leaf) .leaf) (.node 35 Try.f35 (.node 34 Try.f34 .leaf .leaf) .leaf))) (.node 42 Try.f42 (.node 39 Try.f39 (.node 38 Try.f38 (.node 37 Try.f37 .leaf .leaf) .leaf) (.node 41 Try.f41 (.node 40 Try.f40 .leaf .leaf) .leaf)) (.node 45 Try.f45 (.node 44 Try.f44 (.node 43 Try.f43 .leaf .leaf) .leaf) (.node 47 Try.f47 (.node 46 Try.f46 .leaf .leaf) .leaf))))) (.node 72 Try.f72 (.node 60 Try.f60 (.node 54 Try.f54 (.node 51 Try.f51 (.node 50 Try.f50 (.node 49 Try.f49 .leaf .leaf) .leaf) (.node 53 Try.f53 (.node 52 Try.f52 .leaf .leaf) .leaf)) (.node 57 Try.f57 (.node 56 Try.f56 (.node 55 Try.f55 .leaf .leaf) .leaf) (.node 59 Try.f59 (.node 58 Try.f58 .leaf .leaf) .leaf))) (.node 66 Try.f66 (.node 63 Try.f63 (.node 62 Try.f62 (.node 61 Try.f61 .leaf .leaf) .leaf) (.node 65 Try.f65 (.node 64 Try.f64 .leaf .leaf) .leaf)) (.node 69 Try.f69 (.node 68 Try.f68 (.node 67 Try.f67 .leaf .leaf) .leaf) (.node 71 Try.f71 (.node 70 Try.f70 .leaf .leaf) .leaf)))) (.node 84 Try.f84 (.node 78 Try.f78 (.node 75 Try.f75 (.node 74 Try.f74 (.node 73 Try.f73 .leaf .leaf) .leaf) (.node 77 Try.f77 (.node 76 Try.f76 .leaf .leaf) .leaf)) (.node 81 Try.f81 (.node 80 Try.f80 (.node 79 Try.f79 .leaf .leaf) .leaf) (.node 83 Try.f83 (.node 82 Try.f82 .leaf .leaf) .leaf))) (.node 90 Try.f90 (.node 87 Try.f87 (.node 86 Try.f86 (.node 85 Try.f85 .leaf .leaf) .leaf) (.node 89 Try.f89 (.node 88 Try.f88 .leaf .leaf) .leaf)) (.node 93 Try.f93 (.node 92 Try.f92 (.node 91 Try.f91 .leaf .leaf) .leaf) (.node 95 Try.f95 (.node 94 Try.f94 .leaf .leaf) .leaf))))))
theorem ti_ok : tiTree.all (tiOk Try.prog) = true := by kernel_rfl
theorem flat_ok : tiTree.all (flatOk Try.prog) = true := by kernel_rfl
theorem name0 : (Try.f0.name == "runtime.NumGoroutine") = false := by kernel_rfl
theorem name1 : (Try.f1.name == "runtime.NumGoroutine") = false := by kernel_rfl
theorem name2 : (Try.f2.name == "runtime.NumGoroutine") = false := by kernel_rfl
theorem name3 : (Try.f3.name == "runtime.NumGoroutine") = false := by kernel_rfl
theorem name4 : (Try.f4.name == "runtime.NumGoroutine") = false := by kernel_rfl
theorem name5 : (Try.f5.name == "runtime.NumGoroutine") = false := by kernel_rfl
theorem name6 : (Try.f6.name == "runtime.NumGoroutine") = false := by kernel_rfl
theorem name7 : (Try.f7.name == "runtime.NumGoroutine") = false := by kernel_rfl
theorem name8 : (Try.f8.name == "runtime.NumGoroutine") = false := by kernel_rfl
theorem name9 : (Try.f9.name == "runtime.NumGoroutine") = false := by kernel_rfl
theorem name10 : (Try.f10.name == "runtime.NumGoroutine") = false := by kernel_rfl
theorem name11 : (Try.f11.name == "runtime.NumGoroutine") = false := by kernel_rfl
theorem name12 : (Try.f12.name == "runtime.NumGoroutine") = false := by kernel_rfl
theorem name13 : (Try.f13.name == "runtime.NumGoroutine") = false := by kernel_rfl
theorem name14 : (Try.f14.name == "runtime.NumGoroutine") = false := by kernel_rfl
theorem name15 : (Try.f15.name == "runtime.NumGoroutine") = false := by kernel_rfl
theorem name16 : (Try.f16.name == "runtime.NumGoroutine") = false := by kernel_rfl
theorem name17 : (Try.f17.name == "runtime.NumGoroutine") = false := by kernel_rfl
theorem name18 : (Try.f18.name == "runtime.NumGoroutine") = false := by kernel_rfl
theorem name19 : (Try.f19.name == "runtime.NumGoroutine") = false := by kernel_rfl
theorem name20 : (Try.f20.name == "runtime.NumGoroutine") = false := by kernel_rfl
theorem name21 : (Try.f21.name == "runtime.NumGoroutine") = false := by kernel_rfl
theorem name22 : (Try.f22.name == "runtime.NumGoroutine") = false := by kernel_rfl
theorem name23 : (Try.f23.name == "runtime.NumGoroutine") = false := by kernel_rfl
theorem name24 : (Try.f24.name == "runtime.NumGoroutine") = false := by kernel_rfl
theorem name25 : (Try.f25.name == "runtime.NumGoroutine") = false := by kernel_rfl
theorem name26 : (Try.f26.name == "runtime.NumGoroutine") = false := by kernel_rfl
theorem name27 : (Try.f27.name == "runtime.NumGoroutine") = false := by kernel_rfl
theorem name28 : (Try.f28.name == "runtime.NumGoroutine") = false := by kernel_rfl
theorem name29 : (Try.f29.name == "runtime.NumGoroutine") = false := by kernel_rfl
theorem name30 : (Try.f30.name == "runtime.NumGoroutine") = false := by kernel_rfl
theorem name31 : (Try.f31.name == "runtime.NumGoroutine") = false := by kernel_rfl
theorem name32 : (Try.f32.name == "runtime.NumGoroutine") = false := by kernel_rfl
theorem name33 : (Try.f33.name == "runtime.NumGoroutine") = false := by kernel_rfl
theorem name34 : (Try.f34.name == "runtime.NumGoroutine") = false := by kernel_rfl
theorem name35 : (Try.f35.name == "runtime.NumGoroutine") = false := by kernel_rfl
theorem name36 : (Try.f36.name == "runtime.NumGoroutine") = false := by kernel_rfl
theorem name37 : (Try.f37.name == "runtime.NumGoroutine") = false := by kernel_rfl
theorem name38 : (Try.f38.name == "runtime.NumGoroutine") = false := by kernel_rfl
theorem name39 : (Try.f39.name == "runtime.NumGoroutine") = false := by kernel_rfl
theorem name40 : (Try.f40.name == "runtime.NumGoroutine") = false := by kernel_rfl
theorem name41 : (Try.f41.name == "runtime.NumGoroutine") = false := by kernel_rfl
theorem name42 : (Try.f42.name == "runtime.NumGoroutine") = false := by kernel_rfl
theorem name43 : (Try.f43.name == "runtime.NumGoroutine") = false := by kernel_rfl
theorem name44 : (Try.f44.name == "runtime.NumGoroutine") = false := by kernel_rfl
theorem name45 : (Try.f45.name == "runtime.NumGoroutine") = false := by kernel_rfl
theorem name46 : (Try.f46.name == "runtime.NumGoroutine") = false := by kernel_rfl
theorem name47 : (Try.f47.name == "runtime.NumGoroutine") = false := by kernel_rfl
theorem name48 : (Try.f48.name == "runtime.NumGoroutine") = false := by kernel_rfl
theorem name49 : (Try.f49.name == "runtime.NumGoroutine") = false := by kernel_rfl
theorem name50 : (Try.f50.name == "runtime.NumGoroutine") = false := by kernel_rfl
theorem name51 : (Try.f51.name == "runtime.NumGoroutine") = false := by kernel_rfl
theorem name52 : (Try.f52.name == "runtime.NumGoroutine") = false := by kernel_rfl
theorem name53 : (Try.f53.name == "runtime.NumGoroutine") = false := by kernel_rfl
theorem name54 : (Try.f54.name == "runtime.NumGoroutine") = false := by kernel_rfl
theorem name55 : (Try.f55.name == "runtime.NumGoroutine") = false := by kernel_rfl
theorem name56 : (Try.f56.name == "runtime.NumGoroutine") = false := by kernel_rfl
theorem name57 : (Try.f57.name == "runtime.NumGoroutine") = false := by kernel_rfl
theorem name58 : (Try.f58.name == "runtime.NumGoroutine") = false := by kernel_rfl
theorem name59 : (Try.f59.name == "runtime.NumGoroutine") = false := by kernel_rfl
theorem name60 : (Try.f60.name == "runtime.NumGoroutine") = false := by kernel_rfl
theorem name61 : (Try.f61.name == "runtime.NumGoroutine") = false := by kernel_rfl
theorem name62 : (Try.f62.name == "runtime.NumGoroutine") = false := by kernel_rfl
theorem name63 : (Try.f63.name == "runtime.NumGoroutine") = false := by kernel_rfl
theorem name64 : (Try.f64.name == "runtime.NumGoroutine") = false := by kernel_rfl
theorem name65 : (Try.f65.name == "runtime.NumGoroutine") = false := by kernel_rfl
theorem name66 : (Try.f66.name == "runtime.NumGoroutine") = false := by kernel_rfl
theorem name67 : (Try.f67.name == "runtime.NumGoroutine") = false := by kernel_rfl
theorem name68 : (Try.f68.name == "runtime.NumGoroutine") = false := by kernel_rfl
theorem name69 : (Try.f69.name == "runtime.NumGoroutine") = false := by kernel_rfl
theorem name70 : (Try.f70.name == "runtime.NumGoroutine") = false := by kernel_rfl
theorem name71 : (Try.f71.name == "runtime.NumGoroutine") = false := by kernel_rfl
theorem name72 : (Try.f72.name == "runtime.NumGoroutine") = false := by kernel_rfl
theorem name73 : (Try.f73.name == "runtime.NumGoroutine") = false := by kernel_rfl
theorem name74 : (Try.f74.name == "runtime.NumGoroutine") = false := by kernel_rfl
theorem name75 : (Try.f75.name == "runtime.NumGoroutine") = false := by kernel_rfl
theorem name76 : (Try.f76.name == "runtime.NumGoroutine") = false := by kernel_rfl
theorem name77 : (Try.f77.name == "runtime.NumGoroutine") = false := by kernel_rfl
theorem name78 : (Try.f78.name == "runtime.NumGoroutine") = false := by kernel_rfl
theorem name79 : (Try.f79.name == "runtime.NumGoroutine") = false := by kernel_rfl
theorem name80 : (Try.f80.name == "runtime.NumGoroutine") = false := by kernel_rfl
theorem name81 : (Try.f81.name == "runtime.NumGoroutine") = false := by kernel_rfl
theorem name82 : (Try.f82.name == "runtime.NumGoroutine") = false := by kernel_rfl
theorem name83 : (Try.f83.name == "runtime.NumGoroutine") = false := by kernel_rfl
theorem name84 : (Try.f84.name == "runtime.NumGoroutine") = false := by kernel_rfl
theorem name85 : (Try.f85.name == "runtime.NumGoroutine") = false := by kernel_rfl
theorem name86 : (Try.f86.name == "runtime.NumGoroutine") = false := by kernel_rfl
theorem name87 : (Try.f87.name == "runtime.NumGoroutine") = false := by kernel_rfl
theorem name88 : (Try.f88.name == "runtime.NumGoroutine") = false := by kernel_rfl
theorem name89 : (Try.f89.name == "runtime.NumGoroutine") = false := by kernel_rfl
theorem name90 : (Try.f90.name == "runtime.NumGoroutine") = false := by kernel_rfl
theorem name91 : (Try.f91.name == "runtime.NumGoroutine") = false := by kernel_rfl
theorem name92 : (Try.f92.name == "runtime.NumGoroutine") = false := by kernel_rfl
theorem name93 : (Try.f93.name == "runtime.NumGoroutine") = false := by kernel_rfl
theorem name94 : (Try.f94.name == "runtime.NumGoroutine") = false := by kernel_rfl
theorem name95 : (Try.f95.name == "runtime.NumGoroutine") = false := by kernel_rfl
theorem fn_ok : fnTree.AllP (FnOK Try.prog) := ⟨⟨Try.func48, name48⟩, ⟨⟨Try.func24, name24⟩, ⟨⟨Try.func12, name12⟩, ⟨⟨Try.func6, name6⟩, ⟨⟨Try.func3, name3⟩, ⟨⟨Try.func1, name1⟩, ⟨⟨Try.func0, name0⟩, trivial, trivial⟩, ⟨⟨Try.func2, name2⟩, trivial, trivial⟩⟩, ⟨⟨Try.func5, name5⟩, ⟨⟨Try.func4, name4⟩, trivial, trivial⟩, trivial⟩⟩, ⟨⟨Try.func9, name9⟩, ⟨⟨Try.func8, name8⟩, ⟨⟨Try.func7, name7⟩, trivial, trivial⟩, trivial⟩, ⟨⟨Try.func11, name11⟩, ⟨⟨Try.func10, name10⟩, trivial, trivial⟩, trivial⟩⟩⟩, ⟨⟨Try.func18, name18⟩, ⟨⟨Try.func15, name15⟩, ⟨⟨Try.func14, name14⟩, ⟨⟨Try.func13, name13⟩, trivial, trivial⟩, trivial⟩, ⟨⟨Try.func17, name17⟩, ⟨⟨Try.func16, name16⟩, trivial, trivial⟩, trivial⟩⟩, ⟨⟨Try.func21, name21⟩, ⟨⟨Try.func20, name20⟩, ⟨⟨Try.func19, name19⟩, trivial, trivial⟩, trivial⟩, ⟨⟨Try.func23, name23⟩, ⟨⟨Try.func22, name22⟩, trivial, trivial⟩, trivial⟩⟩⟩⟩, ⟨⟨Try.func36, name36⟩, ⟨⟨Try.func30, name30⟩, ⟨⟨Try.func27, name27⟩, ⟨⟨Try.func26, name26⟩, ⟨⟨Try.func25, name25⟩, trivial, trivial⟩, trivial⟩, ⟨⟨Try.func29, name29⟩, ⟨⟨Try.func28, name28⟩, trivial, trivial⟩, trivial⟩⟩, ⟨⟨Try.func33, name33⟩, ⟨⟨Try.func32, name32⟩, ⟨⟨Try.func31, name31⟩, trivial, trivial⟩, trivial⟩, ⟨⟨Try.func35, name35⟩, ⟨⟨Try.func34, name34⟩, trivial, trivial⟩, trivial⟩⟩⟩, ⟨⟨Try.func42, name42⟩, ⟨⟨Try.func39, name39⟩, ⟨⟨Try.func38, name38⟩, ⟨⟨Try.func37, name37⟩, trivial, trivial⟩, trivial⟩, ⟨⟨Try.func41, name41⟩, ⟨⟨Try.func40, name40⟩, trivial, trivial⟩, trivial⟩⟩, ⟨⟨Try.func45, name45⟩, ⟨⟨Try.func44, name44⟩, ⟨⟨Try.func43, name43⟩, trivial, trivial⟩, trivial⟩, ⟨⟨Try.func47, name47⟩, ⟨⟨Try.func46, name46⟩, trivial, trivial⟩, trivial⟩⟩⟩⟩⟩, ⟨⟨Try.func72, name72⟩, ⟨⟨Try.func60, name60⟩, ⟨⟨Try.func54, name54⟩, ⟨⟨Try.func51, name51⟩, ⟨⟨Try.func50, name50⟩, ⟨⟨Try.func49, name49⟩, trivial, trivial⟩, trivial⟩, ⟨⟨Try.func53, name53⟩, ⟨⟨Try.func52, name52⟩, trivial, trivial⟩, trivial⟩⟩, ⟨⟨Try.func57, name57⟩, ⟨⟨Try.func56, name56⟩, ⟨⟨Try.func55, name55⟩, trivial, trivial⟩, trivial⟩, ⟨⟨Try.func59, name59⟩, ⟨⟨Try.func58, name58⟩, trivial, trivial⟩, trivial⟩⟩⟩, ⟨⟨Try.func66, name66⟩, ⟨⟨Try.func63, name63⟩, ⟨⟨Try.func62, name62⟩, ⟨⟨Try.func61, name61⟩, trivial, trivial⟩, trivial⟩, ⟨⟨Try.func65, name65⟩, ⟨⟨Try.func64, name64⟩, trivial, trivial⟩, trivial⟩⟩, ⟨⟨Try.func69, name69⟩, ⟨⟨Try.func68, name68⟩, ⟨⟨Try.func67, name67⟩, trivial, trivial⟩, trivial⟩, ⟨⟨Try.func71, name71⟩, ⟨⟨Try.func70, name70⟩, trivial, trivial⟩, trivial⟩⟩⟩⟩, ⟨⟨Try.func84, name84⟩, ⟨⟨Try.func78, name78⟩, ⟨⟨Try.func75, name75⟩, ⟨⟨Try.func74, name74⟩, ⟨⟨Try.func73, name73⟩, trivial, trivial⟩, trivial⟩, ⟨⟨Try.func77, name77⟩, ⟨⟨Try.func76, name76⟩, trivial, trivial⟩, trivial⟩⟩, ⟨⟨Try.func81, name81⟩, ⟨⟨Try.func80, name80⟩, ⟨⟨Try.func79, name79⟩, trivial, trivial⟩, trivial⟩, ⟨⟨Try.func83, name83⟩, ⟨⟨Try.func82, name82⟩, trivial, trivial⟩, trivial⟩⟩⟩, ⟨⟨Try.func90, name90⟩, ⟨⟨Try.func87, name87⟩, ⟨⟨Try.func86, name86⟩, ⟨⟨Try.func85, name85⟩, trivial, trivial⟩, trivial⟩, ⟨⟨Try.func89, name89⟩, ⟨⟨Try.func88, name88⟩, trivial, trivial⟩, trivial⟩⟩, ⟨⟨Try.func93, name93⟩, ⟨⟨Try.func92, name92⟩, ⟨⟨Try.func91, name91⟩, trivial, trivial⟩, trivial⟩, ⟨⟨Try.func95, name95⟩, ⟨⟨Try.func94, name94⟩, trivial, trivial⟩, trivial⟩⟩⟩⟩⟩⟩
end Am
