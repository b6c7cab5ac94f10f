/- The tables of the program. Printed by gen_ti.py. -/
import Derived.Test.YtlogoccciaopnaaGreatDoorAmT
import Derived.Test.YtlogoccciaopnaaGreatDoorAmF
import Derived.Test.YtlogoccciaopnaaGreatDoorProg
import Derived.KernelRfl
namespace Am
open Go Go.Proofs
set_option maxRecDepth 100000
noncomputable def ti1 : TI UU := { size := 1, bytes := 8, tk := .func, zero := [.nilfn], ty := none, flat := [] }
noncomputable def ti2 : TI UU := { size := 1, bytes := 8, tk := .int .i64, zero := [.int .i64 0], ty := (some Ty.int), flat := [] }
noncomputable def ti3 : TI UU := { size := 1, bytes := 8, tk := .int .i64, zero := [.int .i64 0], ty := (some Ty.int), flat := [] }
noncomputable def ti4 : TI UU := { size := 1, bytes := 1, tk := .bool, zero := [.bool false], ty := (some Ty.bool), flat := [] }
noncomputable def ti5 : TI UU := { size := 1, bytes := 1, tk := .int .u8, zero := [.int .u8 0], ty := (some Ty.u8), flat := [] }
noncomputable def ti6 : TI UU := { size := 1, bytes := 1, tk := .int .u8, zero := [.int .u8 0], ty := (some Ty.u8), flat := [] }
noncomputable def ti7 : TI UU := { size := 4, bytes := 24, tk := .struct [(0, 2), (1, 3), (2, 4), (3, 6)], zero := [.int .i64 0, .int .i64 0, .bool false, .int .u8 0], ty := none, flat := [.i, .i, .b, .i] }
noncomputable def ti8 : TI UU := { size := 4, bytes := 24, tk := .struct [(0, 2), (1, 3), (2, 4), (3, 6)], zero := [.int .i64 0, .int .i64 0, .bool false, .int .u8 0], ty := none, flat := [.i, .i, .b, .i] }
noncomputable def ti9 : TI UU := { size := 1, bytes := 16, tk := .str, zero := [.str []], ty := (some Ty.str), flat := [] }
noncomputable def ti10 : TI UU := { size := 1, bytes := 16, tk := .str, zero := [.str []], ty := (some Ty.str), flat := [] }
noncomputable def ti11 : TI UU := { size := 1, bytes := 16, tk := .str, zero := [.str []], ty := (some Ty.str), flat := [] }
noncomputable def ti12 : TI UU := { size := 1, bytes := 8, tk := .int .u64, zero := [.int .u64 0], ty := none, flat := [] }
noncomputable def ti13 : TI UU := { size := 2, bytes := 24, tk := .struct [(0, 9), (1, 12)], zero := [.str [], .int .u64 0], ty := none, flat := [] }
noncomputable def ti14 : TI UU := { size := 2, bytes := 24, tk := .struct [(0, 9), (1, 12)], zero := [.str [], .int .u64 0], ty := none, flat := [] }
noncomputable def ti15 : TI UU := { size := 1, bytes := 8, tk := .ptr 577, zero := [.nilp], ty := none, flat := [] }
noncomputable def ti16 : TI UU := { size := 1, bytes := 8, tk := .ptr 580, zero := [.nilp], ty := none, flat := [] }
noncomputable def ti17 : TI UU := { size := 1, bytes := 8, tk := .ptr 587, zero := [.nilp], ty := none, flat := [] }
noncomputable def ti18 : TI UU := { size := 1, bytes := 8, tk := .struct [(0, 17)], zero := [.nilp], ty := none, flat := [] }
noncomputable def ti19 : TI UU := { size := 1, bytes := 8, tk := .struct [(0, 17)], zero := [.nilp], ty := none, flat := [] }
noncomputable def ti20 : TI UU := { size := 1, bytes := 16, tk := .iface, zero := [.nilif], ty := none, flat := [] }
noncomputable def ti21 : TI UU := { size := 1, bytes := 4, tk := .int .i32, zero := [.int .i32 0], ty := none, flat := [] }
noncomputable def ti22 : TI UU := { size := 1, bytes := 24, tk := .slice 3, zero := [.nilsl], ty := none, flat := [] }
noncomputable def ti23 : TI UU := { size := 3, bytes := 40, tk := .struct [(0, 3), (1, 3), (2, 22)], zero := [.int .i64 0, .int .i64 0, .nilsl], ty := none, flat := [] }
noncomputable def ti24 : TI UU := { size := 3, bytes := 40, tk := .struct [(0, 3), (1, 3), (2, 22)], zero := [.int .i64 0, .int .i64 0, .nilsl], ty := (some Ty.mask), flat := [] }
noncomputable def ti25 : TI UU := { size := 6, bytes := 48, tk := .struct [(0, 3), (1, 3), (2, 3), (3, 3), (4, 3), (5, 3)], zero := [.int .i64 0, .int .i64 0, .int .i64 0, .int .i64 0, .int .i64 0, .int .i64 0], ty := none, flat := [.i, .i, .i, .i, .i, .i] }
noncomputable def ti26 : TI UU := { size := 6, bytes := 48, tk := .struct [(0, 3), (1, 3), (2, 3), (3, 3), (4, 3), (5, 3)], zero := [.int .i64 0, .int .i64 0, .int .i64 0, .int .i64 0, .int .i64 0, .int .i64 0], ty := (some Ty.affine), flat := [.i, .i, .i, .i, .i, .i] }
noncomputable def ti27 : TI UU := { size := 1, bytes := 24, tk := .slice 31, zero := [.nilsl], ty := none, flat := [] }
noncomputable def ti28 : TI UU := { size := 3, bytes := 40, tk := .struct [(0, 3), (1, 3), (2, 27)], zero := [.int .i64 0, .int .i64 0, .nilsl], ty := none, flat := [] }
noncomputable def ti29 : TI UU := { size := 3, bytes := 40, tk := .struct [(0, 3), (1, 3), (2, 27)], zero := [.int .i64 0, .int .i64 0, .nilsl], ty := (some Ty.image), flat := [] }
noncomputable def ti30 : TI UU := { size := 4, bytes := 32, tk := .struct [(0, 3), (1, 3), (2, 3), (3, 3)], zero := [.int .i64 0, .int .i64 0, .int .i64 0, .int .i64 0], ty := none, flat := [.i, .i, .i, .i] }
noncomputable def ti31 : TI UU := { size := 4, bytes := 32, tk := .struct [(0, 3), (1, 3), (2, 3), (3, 3)], zero := [.int .i64 0, .int .i64 0, .int .i64 0, .int .i64 0], ty := (some Ty.pixel), flat := [.i, .i, .i, .i] }
noncomputable def ti32 : TI UU := { size := 1, bytes := 24, tk := .slice 132, zero := [.nilsl], ty := none, flat := [] }
noncomputable def ti33 : TI UU := { size := 1, bytes := 24, tk := .slice 136, zero := [.nilsl], ty := none, flat := [] }
noncomputable def ti34 : TI UU := { size := 1, bytes := 24, tk := .slice 44, zero := [.nilsl], ty := (some Ty.l_point), flat := [] }
noncomputable def ti35 : TI UU := { size := 4, bytes := 48, tk := .struct [(0, 3), (1, 3), (2, 3), (3, 34)], zero := [.int .i64 0, .int .i64 0, .int .i64 0, .nilsl], ty := none, flat := [] }
noncomputable def ti36 : TI UU := { size := 4, bytes := 48, tk := .struct [(0, 3), (1, 3), (2, 3), (3, 34)], zero := [.int .i64 0, .int .i64 0, .int .i64 0, .nilsl], ty := (some Ty.warp), flat := [] }
noncomputable def ti37 : TI UU := { size := 43, bytes := 440, tk := .struct [(0, 3), (1, 3), (2, 3), (3, 9), (4, 4), (5, 4), (6, 4), (7, 3), (8, 3), (9, 24), (12, 26), (18, 3), (19, 29), (22, 31), (26, 3), (27, 22), (28, 3), (29, 32), (30, 33), (31, 3), (32, 3), (33, 3), (34, 3), (35, 9), (36, 3), (37, 3), (38, 3), (39, 36)], zero := [.int .i64 0, .int .i64 0, .int .i64 0, .str [], .bool false, .bool false, .bool false, .int .i64 0, .int .i64 0, .int .i64 0, .int .i64 0, .nilsl, .int .i64 0, .int .i64 0, .int .i64 0, .int .i64 0, .int .i64 0, .int .i64 0, .int .i64 0, .int .i64 0, .int .i64 0, .nilsl, .int .i64 0, .int .i64 0, .int .i64 0, .int .i64 0, .int .i64 0, .nilsl, .int .i64 0, .nilsl, .nilsl, .int .i64 0, .int .i64 0, .int .i64 0, .int .i64 0, .str [], .int .i64 0, .int .i64 0, .int .i64 0, .int .i64 0, .int .i64 0, .int .i64 0, .nilsl], ty := none, flat := [] }
noncomputable def ti38 : TI UU := { size := 43, bytes := 440, tk := .struct [(0, 3), (1, 3), (2, 3), (3, 9), (4, 4), (5, 4), (6, 4), (7, 3), (8, 3), (9, 24), (12, 26), (18, 3), (19, 29), (22, 31), (26, 3), (27, 22), (28, 3), (29, 32), (30, 33), (31, 3), (32, 3), (33, 3), (34, 3), (35, 9), (36, 3), (37, 3), (38, 3), (39, 36)], zero := [.int .i64 0, .int .i64 0, .int .i64 0, .str [], .bool false, .bool false, .bool false, .int .i64 0, .int .i64 0, .int .i64 0, .int .i64 0, .nilsl, .int .i64 0, .int .i64 0, .int .i64 0, .int .i64 0, .int .i64 0, .int .i64 0, .int .i64 0, .int .i64 0, .int .i64 0, .nilsl, .int .i64 0, .int .i64 0, .int .i64 0, .int .i64 0, .int .i64 0, .nilsl, .int .i64 0, .nilsl, .nilsl, .int .i64 0, .int .i64 0, .int .i64 0, .int .i64 0, .str [], .int .i64 0, .int .i64 0, .int .i64 0, .int .i64 0, .int .i64 0, .int .i64 0, .nilsl], ty := (some Ty.node), flat := [] }
noncomputable def ti39 : TI UU := { size := 1, bytes := 24, tk := .slice 152, zero := [.nilsl], ty := none, flat := [] }
noncomputable def ti40 : TI UU := { size := 16, bytes := 144, tk := .struct [(0, 3), (1, 3), (2, 3), (3, 3), (4, 3), (5, 3), (6, 3), (7, 3), (8, 3), (9, 31), (13, 3), (14, 39), (15, 4)], zero := [.int .i64 0, .int .i64 0, .int .i64 0, .int .i64 0, .int .i64 0, .int .i64 0, .int .i64 0, .int .i64 0, .int .i64 0, .int .i64 0, .int .i64 0, .int .i64 0, .int .i64 0, .int .i64 0, .nilsl, .bool false], ty := none, flat := [] }
noncomputable def ti41 : TI UU := { size := 16, bytes := 144, tk := .struct [(0, 3), (1, 3), (2, 3), (3, 3), (4, 3), (5, 3), (6, 3), (7, 3), (8, 3), (9, 31), (13, 3), (14, 39), (15, 4)], zero := [.int .i64 0, .int .i64 0, .int .i64 0, .int .i64 0, .int .i64 0, .int .i64 0, .int .i64 0, .int .i64 0, .int .i64 0, .int .i64 0, .int .i64 0, .int .i64 0, .int .i64 0, .int .i64 0, .nilsl, .bool false], ty := (some Ty.brush), flat := [] }
noncomputable def ti42 : TI UU := { size := 1, bytes := 24, tk := .slice 164, zero := [.nilsl], ty := none, flat := [] }
noncomputable def ti43 : TI UU := { size := 2, bytes := 16, tk := .struct [(0, 3), (1, 3)], zero := [.int .i64 0, .int .i64 0], ty := none, flat := [.i, .i] }
noncomputable def ti44 : TI UU := { size := 2, bytes := 16, tk := .struct [(0, 3), (1, 3)], zero := [.int .i64 0, .int .i64 0], ty := (some Ty.point), flat := [.i, .i] }
noncomputable def ti45 : TI UU := { size := 4, bytes := 32, tk := .struct [(0, 3), (1, 3), (2, 3), (3, 3)], zero := [.int .i64 0, .int .i64 0, .int .i64 0, .int .i64 0], ty := none, flat := [.i, .i, .i, .i] }
noncomputable def ti46 : TI UU := { size := 4, bytes := 32, tk := .struct [(0, 3), (1, 3), (2, 3), (3, 3)], zero := [.int .i64 0, .int .i64 0, .int .i64 0, .int .i64 0], ty := (some Ty.rect), flat := [.i, .i, .i, .i] }
noncomputable def ti47 : TI UU := { size := 84, bytes := 848, tk := .struct [(0, 3), (1, 3), (2, 3), (3, 3), (4, 3), (5, 3), (6, 9), (7, 9), (8, 38), (51, 24), (54, 29), (57, 41), (73, 42), (74, 44), (76, 46), (80, 31)], zero := [.int .i64 0, .int .i64 0, .int .i64 0, .int .i64 0, .int .i64 0, .int .i64 0, .str [], .str [], .int .i64 0, .int .i64 0, .int .i64 0, .str [], .bool false, .bool false, .bool false, .int .i64 0, .int .i64 0, .int .i64 0, .int .i64 0, .nilsl, .int .i64 0, .int .i64 0, .int .i64 0, .int .i64 0, .int .i64 0, .int .i64 0, .int .i64 0, .int .i64 0, .int .i64 0, .nilsl, .int .i64 0, .int .i64 0, .int .i64 0, .int .i64 0, .int .i64 0, .nilsl, .int .i64 0, .nilsl, .nilsl, .int .i64 0, .int .i64 0, .int .i64 0, .int .i64 0, .str [], .int .i64 0, .int .i64 0, .int .i64 0, .int .i64 0, .int .i64 0, .int .i64 0, .nilsl, .int .i64 0, .int .i64 0, .nilsl, .int .i64 0, .int .i64 0, .nilsl, .int .i64 0, .int .i64 0, .int .i64 0, .int .i64 0, .int .i64 0, .int .i64 0, .int .i64 0, .int .i64 0, .int .i64 0, .int .i64 0, .int .i64 0, .int .i64 0, .int .i64 0, .int .i64 0, .nilsl, .bool false, .nilsl, .int .i64 0, .int .i64 0, .int .i64 0, .int .i64 0, .int .i64 0, .int .i64 0, .int .i64 0, .int .i64 0, .int .i64 0, .int .i64 0], ty := none, flat := [] }
noncomputable def ti48 : TI UU := { size := 84, bytes := 848, tk := .struct [(0, 3), (1, 3), (2, 3), (3, 3), (4, 3), (5, 3), (6, 9), (7, 9), (8, 38), (51, 24), (54, 29), (57, 41), (73, 42), (74, 44), (76, 46), (80, 31)], zero := [.int .i64 0, .int .i64 0, .int .i64 0, .int .i64 0, .int .i64 0, .int .i64 0, .str [], .str [], .int .i64 0, .int .i64 0, .int .i64 0, .str [], .bool false, .bool false, .bool false, .int .i64 0, .int .i64 0, .int .i64 0, .int .i64 0, .nilsl, .int .i64 0, .int .i64 0, .int .i64 0, .int .i64 0, .int .i64 0, .int .i64 0, .int .i64 0, .int .i64 0, .int .i64 0, .nilsl, .int .i64 0, .int .i64 0, .int .i64 0, .int .i64 0, .int .i64 0, .nilsl, .int .i64 0, .nilsl, .nilsl, .int .i64 0, .int .i64 0, .int .i64 0, .int .i64 0, .str [], .int .i64 0, .int .i64 0, .int .i64 0, .int .i64 0, .int .i64 0, .int .i64 0, .nilsl, .int .i64 0, .int .i64 0, .nilsl, .int .i64 0, .int .i64 0, .nilsl, .int .i64 0, .int .i64 0, .int .i64 0, .int .i64 0, .int .i64 0, .int .i64 0, .int .i64 0, .int .i64 0, .int .i64 0, .int .i64 0, .int .i64 0, .int .i64 0, .int .i64 0, .int .i64 0, .nilsl, .bool false, .nilsl, .int .i64 0, .int .i64 0, .int .i64 0, .int .i64 0, .int .i64 0, .int .i64 0, .int .i64 0, .int .i64 0, .int .i64 0, .int .i64 0], ty := (some Ty.edit), flat := [] }
noncomputable def ti49 : TI UU := { size := 86, bytes := 864, tk := .struct [(0, 3), (1, 3), (2, 48)], zero := [.int .i64 0, .int .i64 0, .int .i64 0, .int .i64 0, .int .i64 0, .int .i64 0, .int .i64 0, .int .i64 0, .str [], .str [], .int .i64 0, .int .i64 0, .int .i64 0, .str [], .bool false, .bool false, .bool false, .int .i64 0, .int .i64 0, .int .i64 0, .int .i64 0, .nilsl, .int .i64 0, .int .i64 0, .int .i64 0, .int .i64 0, .int .i64 0, .int .i64 0, .int .i64 0, .int .i64 0, .int .i64 0, .nilsl, .int .i64 0, .int .i64 0, .int .i64 0, .int .i64 0, .int .i64 0, .nilsl, .int .i64 0, .nilsl, .nilsl, .int .i64 0, .int .i64 0, .int .i64 0, .int .i64 0, .str [], .int .i64 0, .int .i64 0, .int .i64 0, .int .i64 0, .int .i64 0, .int .i64 0, .nilsl, .int .i64 0, .int .i64 0, .nilsl, .int .i64 0, .int .i64 0, .nilsl, .int .i64 0, .int .i64 0, .int .i64 0, .int .i64 0, .int .i64 0, .int .i64 0, .int .i64 0, .int .i64 0, .int .i64 0, .int .i64 0, .int .i64 0, .int .i64 0, .int .i64 0, .int .i64 0, .nilsl, .bool false, .nilsl, .int .i64 0, .int .i64 0, .int .i64 0, .int .i64 0, .int .i64 0, .int .i64 0, .int .i64 0, .int .i64 0, .int .i64 0, .int .i64 0], ty := none, flat := [] }
noncomputable def ti50 : TI UU := { size := 86, bytes := 864, tk := .struct [(0, 3), (1, 3), (2, 48)], zero := [.int .i64 0, .int .i64 0, .int .i64 0, .int .i64 0, .int .i64 0, .int .i64 0, .int .i64 0, .int .i64 0, .str [], .str [], .int .i64 0, .int .i64 0, .int .i64 0, .str [], .bool false, .bool false, .bool false, .int .i64 0, .int .i64 0, .int .i64 0, .int .i64 0, .nilsl, .int .i64 0, .int .i64 0, .int .i64 0, .int .i64 0, .int .i64 0, .int .i64 0, .int .i64 0, .int .i64 0, .int .i64 0, .nilsl, .int .i64 0, .int .i64 0, .int .i64 0, .int .i64 0, .int .i64 0, .nilsl, .int .i64 0, .nilsl, .nilsl, .int .i64 0, .int .i64 0, .int .i64 0, .int .i64 0, .str [], .int .i64 0, .int .i64 0, .int .i64 0, .int .i64 0, .int .i64 0, .int .i64 0, .nilsl, .int .i64 0, .int .i64 0, .nilsl, .int .i64 0, .int .i64 0, .nilsl, .int .i64 0, .int .i64 0, .int .i64 0, .int .i64 0, .int .i64 0, .int .i64 0, .int .i64 0, .int .i64 0, .int .i64 0, .int .i64 0, .int .i64 0, .int .i64 0, .int .i64 0, .int .i64 0, .nilsl, .bool false, .nilsl, .int .i64 0, .int .i64 0, .int .i64 0, .int .i64 0, .int .i64 0, .int .i64 0, .int .i64 0, .int .i64 0, .int .i64 0, .int .i64 0], ty := (some Ty.imageeditorlaw45_op), flat := [] }
noncomputable def ti51 : TI UU := { size := 1, bytes := 8, tk := .ptr 55, zero := [.nilp], ty := none, flat := [] }
noncomputable def ti52 : TI UU := { size := 1, bytes := 8, tk := .ptr 101, zero := [.nilp], ty := none, flat := [] }
noncomputable def ti53 : TI UU := { size := 2, bytes := 32, tk := .array 2 9, zero := [.str [], .str []], ty := none, flat := [.s, .s] }
noncomputable def ti54 : TI UU := { size := 7, bytes := 72, tk := .struct [(0, 52), (1, 53), (3, 3), (4, 3), (5, 3), (6, 3)], zero := [.nilp, .str [], .str [], .int .i64 0, .int .i64 0, .int .i64 0, .int .i64 0], ty := none, flat := [] }
noncomputable def ti55 : TI UU := { size := 7, bytes := 72, tk := .struct [(0, 52), (1, 53), (3, 3), (4, 3), (5, 3), (6, 3)], zero := [.nilp, .str [], .str [], .int .i64 0, .int .i64 0, .int .i64 0, .int .i64 0], ty := none, flat := [] }
noncomputable def ti56 : TI UU := { size := 1, bytes := 24, tk := .slice 51, zero := [.nilsl], ty := none, flat := [] }
noncomputable def ti57 : TI UU := { size := 1, bytes := 8, tk := .int .i64, zero := [.int .i64 0], ty := (some Ty.int), flat := [] }
noncomputable def ti58 : TI UU := { size := 1, bytes := 8, tk := .func, zero := [.nilfn], ty := none, flat := [] }
noncomputable def ti59 : TI UU := { size := 1, bytes := 8, tk := .func, zero := [.nilfn], ty := none, flat := [] }
noncomputable def ti60 : TI UU := { size := 1, bytes := 8, tk := .func, zero := [.nilfn], ty := none, flat := [] }
noncomputable def ti61 : TI UU := { size := 2, bytes := 32, tk := .struct [(0, 9), (1, 9)], zero := [.str [], .str []], ty := none, flat := [.s, .s] }
noncomputable def ti62 : TI UU := { size := 2, bytes := 32, tk := .struct [(0, 9), (1, 9)], zero := [.str [], .str []], ty := (some Ty.disk), flat := [.s, .s] }
noncomputable def ti63 : TI UU := { size := 1, bytes := 8, tk := .func, zero := [.nilfn], ty := none, flat := [] }
noncomputable def ti64 : TI UU := { size := 1, bytes := 8, tk := .func, zero := [.nilfn], ty := none, flat := [] }
noncomputable def ti65 : TI UU := { size := 1, bytes := 8, tk := .func, zero := [.nilfn], ty := none, flat := [] }
noncomputable def ti66 : TI UU := { size := 1, bytes := 8, tk := .func, zero := [.nilfn], ty := none, flat := [] }
noncomputable def ti67 : TI UU := { size := 1, bytes := 8, tk := .func, zero := [.nilfn], ty := none, flat := [] }
noncomputable def ti68 : TI UU := { size := 1, bytes := 24, tk := .slice 38, zero := [.nilsl], ty := none, flat := [] }
noncomputable def ti69 : TI UU := { size := 1, bytes := 24, tk := .slice 88, zero := [.nilsl], ty := none, flat := [] }
noncomputable def ti70 : TI UU := { size := 1, bytes := 24, tk := .slice 90, zero := [.nilsl], ty := none, flat := [] }
noncomputable def ti71 : TI UU := { size := 10, bytes := 144, tk := .struct [(0, 3), (1, 3), (2, 3), (3, 68), (4, 3), (5, 24), (8, 69), (9, 70)], zero := [.int .i64 0, .int .i64 0, .int .i64 0, .nilsl, .int .i64 0, .int .i64 0, .int .i64 0, .nilsl, .nilsl, .nilsl], ty := none, flat := [] }
noncomputable def ti72 : TI UU := { size := 10, bytes := 144, tk := .struct [(0, 3), (1, 3), (2, 3), (3, 68), (4, 3), (5, 24), (8, 69), (9, 70)], zero := [.int .i64 0, .int .i64 0, .int .i64 0, .nilsl, .int .i64 0, .int .i64 0, .int .i64 0, .nilsl, .nilsl, .nilsl], ty := (some Ty.doc), flat := [] }
noncomputable def ti73 : TI UU := { size := 1, bytes := 8, tk := .func, zero := [.nilfn], ty := none, flat := [] }
noncomputable def ti74 : TI UU := { size := 1, bytes := 8, tk := .func, zero := [.nilfn], ty := none, flat := [] }
noncomputable def ti75 : TI UU := { size := 1, bytes := 8, tk := .func, zero := [.nilfn], ty := none, flat := [] }
noncomputable def ti76 : TI UU := { size := 1, bytes := 8, tk := .func, zero := [.nilfn], ty := none, flat := [] }
noncomputable def ti78 : TI UU := { size := 1, bytes := 8, tk := .func, zero := [.nilfn], ty := none, flat := [] }
noncomputable def ti79 : TI UU := { size := 1, bytes := 8, tk := .func, zero := [.nilfn], ty := none, flat := [] }
noncomputable def ti80 : TI UU := { size := 1, bytes := 8, tk := .func, zero := [.nilfn], ty := none, flat := [] }
noncomputable def ti81 : TI UU := { size := 1, bytes := 8, tk := .func, zero := [.nilfn], ty := none, flat := [] }
noncomputable def ti82 : TI UU := { size := 1, bytes := 8, tk := .func, zero := [.nilfn], ty := none, flat := [] }
noncomputable def ti83 : TI UU := { size := 1, bytes := 8, tk := .func, zero := [.nilfn], ty := none, flat := [] }
noncomputable def ti84 : TI UU := { size := 1, bytes := 8, tk := .func, zero := [.nilfn], ty := none, flat := [] }
noncomputable def ti86 : TI UU := { size := 1, bytes := 8, tk := .func, zero := [.nilfn], ty := none, flat := [] }
noncomputable def ti87 : TI UU := { size := 2, bytes := 32, tk := .struct [(0, 9), (1, 9)], zero := [.str [], .str []], ty := none, flat := [.s, .s] }
noncomputable def ti88 : TI UU := { size := 2, bytes := 32, tk := .struct [(0, 9), (1, 9)], zero := [.str [], .str []], ty := (some Ty.meta_), flat := [.s, .s] }
noncomputable def ti89 : TI UU := { size := 7, bytes := 80, tk := .struct [(0, 3), (1, 9), (2, 3), (3, 3), (4, 29)], zero := [.int .i64 0, .str [], .int .i64 0, .int .i64 0, .int .i64 0, .int .i64 0, .nilsl], ty := none, flat := [] }
noncomputable def ti90 : TI UU := { size := 7, bytes := 80, tk := .struct [(0, 3), (1, 9), (2, 3), (3, 3), (4, 29)], zero := [.int .i64 0, .str [], .int .i64 0, .int .i64 0, .int .i64 0, .int .i64 0, .nilsl], ty := (some Ty.link), flat := [] }
noncomputable def ti91 : TI UU := { size := 1, bytes := 8, tk := .func, zero := [.nilfn], ty := none, flat := [] }
noncomputable def ti92 : TI UU := { size := 1, bytes := 8, tk := .func, zero := [.nilfn], ty := none, flat := [] }
noncomputable def ti94 : TI UU := { size := 1, bytes := 8, tk := .func, zero := [.nilfn], ty := none, flat := [] }
noncomputable def ti95 : TI UU := { size := 1, bytes := 8, tk := .func, zero := [.nilfn], ty := none, flat := [] }
noncomputable def ti96 : TI UU := { size := 1, bytes := 8, tk := .func, zero := [.nilfn], ty := none, flat := [] }
noncomputable def ti97 : TI UU := { size := 1, bytes := 8, tk := .func, zero := [.nilfn], ty := none, flat := [] }
noncomputable def ti98 : TI UU := { size := 1, bytes := 8, tk := .func, zero := [.nilfn], ty := none, flat := [] }
noncomputable def ti99 : TI UU := { size := 1, bytes := 24, tk := .slice 106, zero := [.nilsl], ty := none, flat := [] }
noncomputable def ti100 : TI UU := { size := 4, bytes := 48, tk := .struct [(0, 99), (1, 3), (2, 3), (3, 3)], zero := [.nilsl, .int .i64 0, .int .i64 0, .int .i64 0], ty := none, flat := [] }
noncomputable def ti101 : TI UU := { size := 4, bytes := 48, tk := .struct [(0, 99), (1, 3), (2, 3), (3, 3)], zero := [.nilsl, .int .i64 0, .int .i64 0, .int .i64 0], ty := none, flat := [] }
noncomputable def ti102 : TI UU := { size := 1, bytes := 8, tk := .func, zero := [.nilfn], ty := none, flat := [] }
noncomputable def ti103 : TI UU := { size := 13, bytes := 176, tk := .struct [(0, 3), (1, 3), (2, 9), (3, 72)], zero := [.int .i64 0, .int .i64 0, .str [], .int .i64 0, .int .i64 0, .int .i64 0, .nilsl, .int .i64 0, .int .i64 0, .int .i64 0, .nilsl, .nilsl, .nilsl], ty := none, flat := [] }
noncomputable def ti104 : TI UU := { size := 13, bytes := 176, tk := .struct [(0, 3), (1, 3), (2, 9), (3, 72)], zero := [.int .i64 0, .int .i64 0, .str [], .int .i64 0, .int .i64 0, .int .i64 0, .nilsl, .int .i64 0, .int .i64 0, .int .i64 0, .nilsl, .nilsl, .nilsl], ty := (some Ty.state), flat := [] }
noncomputable def ti105 : TI UU := { size := 14, bytes := 184, tk := .struct [(0, 104), (13, 3)], zero := [.int .i64 0, .int .i64 0, .str [], .int .i64 0, .int .i64 0, .int .i64 0, .nilsl, .int .i64 0, .int .i64 0, .int .i64 0, .nilsl, .nilsl, .nilsl, .int .i64 0], ty := none, flat := [] }
noncomputable def ti106 : TI UU := { size := 14, bytes := 184, tk := .struct [(0, 104), (13, 3)], zero := [.int .i64 0, .int .i64 0, .str [], .int .i64 0, .int .i64 0, .int .i64 0, .nilsl, .int .i64 0, .int .i64 0, .int .i64 0, .nilsl, .nilsl, .nilsl, .int .i64 0], ty := (some Ty.history_state), flat := [] }
noncomputable def ti108 : TI UU := { size := 1, bytes := 8, tk := .func, zero := [.nilfn], ty := none, flat := [] }
noncomputable def ti110 : TI UU := { size := 1, bytes := 8, tk := .func, zero := [.nilfn], ty := none, flat := [] }
noncomputable def ti111 : TI UU := { size := 1, bytes := 8, tk := .func, zero := [.nilfn], ty := none, flat := [] }
noncomputable def ti112 : TI UU := { size := 1, bytes := 8, tk := .func, zero := [.nilfn], ty := none, flat := [] }
noncomputable def ti113 : TI UU := { size := 1, bytes := 8, tk := .func, zero := [.nilfn], ty := none, flat := [] }
noncomputable def ti114 : TI UU := { size := 1, bytes := 8, tk := .func, zero := [.nilfn], ty := none, flat := [] }
noncomputable def ti115 : TI UU := { size := 3, bytes := 32, tk := .struct [(0, 3), (1, 3), (2, 9)], zero := [.int .i64 0, .int .i64 0, .str []], ty := none, flat := [.i, .i, .s] }
noncomputable def ti116 : TI UU := { size := 3, bytes := 32, tk := .struct [(0, 3), (1, 3), (2, 9)], zero := [.int .i64 0, .int .i64 0, .str []], ty := (some Ty.record), flat := [.i, .i, .s] }
noncomputable def ti117 : TI UU := { size := 1, bytes := 8, tk := .func, zero := [.nilfn], ty := none, flat := [] }
noncomputable def ti118 : TI UU := { size := 1, bytes := 8, tk := .func, zero := [.nilfn], ty := none, flat := [] }
noncomputable def ti119 : TI UU := { size := 1, bytes := 8, tk := .int .u64, zero := [.int .u64 0], ty := none, flat := [] }
noncomputable def ti120 : TI UU := { size := 1, bytes := 8, tk := .int .u64, zero := [.int .u64 0], ty := none, flat := [] }
noncomputable def ti121 : TI UU := { size := 1, bytes := 8, tk := .func, zero := [.nilfn], ty := none, flat := [] }
noncomputable def ti123 : TI UU := { size := 1, bytes := 8, tk := .func, zero := [.nilfn], ty := none, flat := [] }
noncomputable def ti124 : TI UU := { size := 1, bytes := 8, tk := .func, zero := [.nilfn], ty := none, flat := [] }
noncomputable def ti125 : TI UU := { size := 1, bytes := 8, tk := .func, zero := [.nilfn], ty := none, flat := [] }
noncomputable def ti126 : TI UU := { size := 1, bytes := 8, tk := .func, zero := [.nilfn], ty := none, flat := [] }
noncomputable def ti127 : TI UU := { size := 1, bytes := 8, tk := .func, zero := [.nilfn], ty := none, flat := [] }
noncomputable def ti128 : TI UU := { size := 1, bytes := 8, tk := .func, zero := [.nilfn], ty := none, flat := [] }
noncomputable def ti129 : TI UU := { size := 1, bytes := 8, tk := .func, zero := [.nilfn], ty := none, flat := [] }
noncomputable def ti130 : TI UU := { size := 1, bytes := 8, tk := .func, zero := [.nilfn], ty := none, flat := [] }
noncomputable def ti131 : TI UU := { size := 5, bytes := 40, tk := .struct [(0, 3), (1, 31)], zero := [.int .i64 0, .int .i64 0, .int .i64 0, .int .i64 0, .int .i64 0], ty := none, flat := [.i, .i, .i, .i, .i] }
noncomputable def ti132 : TI UU := { size := 5, bytes := 40, tk := .struct [(0, 3), (1, 31)], zero := [.int .i64 0, .int .i64 0, .int .i64 0, .int .i64 0, .int .i64 0], ty := (some Ty.stop), flat := [.i, .i, .i, .i, .i] }
noncomputable def ti133 : TI UU := { size := 1, bytes := 8, tk := .func, zero := [.nilfn], ty := none, flat := [] }
noncomputable def ti134 : TI UU := { size := 6, bytes := 48, tk := .array 3 44, zero := [.int .i64 0, .int .i64 0, .int .i64 0, .int .i64 0, .int .i64 0, .int .i64 0], ty := none, flat := [.i, .i, .i, .i, .i, .i] }
noncomputable def ti135 : TI UU := { size := 7, bytes := 56, tk := .struct [(0, 3), (1, 134)], zero := [.int .i64 0, .int .i64 0, .int .i64 0, .int .i64 0, .int .i64 0, .int .i64 0, .int .i64 0], ty := none, flat := [.i, .i, .i, .i, .i, .i, .i] }
noncomputable def ti136 : TI UU := { size := 7, bytes := 56, tk := .struct [(0, 3), (1, 134)], zero := [.int .i64 0, .int .i64 0, .int .i64 0, .int .i64 0, .int .i64 0, .int .i64 0, .int .i64 0], ty := (some Ty.seg), flat := [.i, .i, .i, .i, .i, .i, .i] }
noncomputable def ti137 : TI UU := { size := 1, bytes := 8, tk := .func, zero := [.nilfn], ty := none, flat := [] }
noncomputable def ti138 : TI UU := { size := 1, bytes := 8, tk := .func, zero := [.nilfn], ty := none, flat := [] }
noncomputable def ti139 : TI UU := { size := 1, bytes := 24, tk := .slice 116, zero := [.nilsl], ty := none, flat := [] }
noncomputable def ti140 : TI UU := { size := 12, bytes := 176, tk := .struct [(0, 3), (1, 72), (11, 139)], zero := [.int .i64 0, .int .i64 0, .int .i64 0, .int .i64 0, .nilsl, .int .i64 0, .int .i64 0, .int .i64 0, .nilsl, .nilsl, .nilsl, .nilsl], ty := none, flat := [] }
noncomputable def ti141 : TI UU := { size := 12, bytes := 176, tk := .struct [(0, 3), (1, 72), (11, 139)], zero := [.int .i64 0, .int .i64 0, .int .i64 0, .int .i64 0, .nilsl, .int .i64 0, .int .i64 0, .int .i64 0, .nilsl, .nilsl, .nilsl, .nilsl], ty := none, flat := [] }
noncomputable def ti143 : TI UU := { size := 1, bytes := 8, tk := .func, zero := [.nilfn], ty := none, flat := [] }
noncomputable def ti144 : TI UU := { size := 1, bytes := 8, tk := .func, zero := [.nilfn], ty := none, flat := [] }
noncomputable def ti145 : TI UU := { size := 1, bytes := 8, tk := .func, zero := [.nilfn], ty := none, flat := [] }
noncomputable def ti146 : TI UU := { size := 1, bytes := 8, tk := .func, zero := [.nilfn], ty := none, flat := [] }
noncomputable def ti147 : TI UU := { size := 1, bytes := 24, tk := .slice 9, zero := [.nilsl], ty := none, flat := [] }
noncomputable def ti148 : TI UU := { size := 1, bytes := 8, tk := .func, zero := [.nilfn], ty := none, flat := [] }
noncomputable def ti149 : TI UU := { size := 1, bytes := 8, tk := .func, zero := [.nilfn], ty := none, flat := [] }
noncomputable def ti150 : TI UU := { size := 1, bytes := 24, tk := .slice 161, zero := [.nilsl], ty := none, flat := [] }
noncomputable def ti151 : TI UU := { size := 3, bytes := 40, tk := .struct [(0, 3), (1, 3), (2, 150)], zero := [.int .i64 0, .int .i64 0, .nilsl], ty := none, flat := [] }
noncomputable def ti152 : TI UU := { size := 3, bytes := 40, tk := .struct [(0, 3), (1, 3), (2, 150)], zero := [.int .i64 0, .int .i64 0, .nilsl], ty := (some Ty.dynamic), flat := [] }
noncomputable def ti153 : TI UU := { size := 1, bytes := 8, tk := .func, zero := [.nilfn], ty := none, flat := [] }
noncomputable def ti154 : TI UU := { size := 1, bytes := 8, tk := .func, zero := [.nilfn], ty := none, flat := [] }
noncomputable def ti155 : TI UU := { size := 1, bytes := 4, tk := .int .u32, zero := [.int .u32 0], ty := none, flat := [] }
noncomputable def ti156 : TI UU := { size := 1, bytes := 8, tk := .func, zero := [.nilfn], ty := none, flat := [] }
noncomputable def ti157 : TI UU := { size := 1, bytes := 8, tk := .func, zero := [.nilfn], ty := none, flat := [] }
noncomputable def ti158 : TI UU := { size := 1, bytes := 8, tk := .func, zero := [.nilfn], ty := none, flat := [] }
noncomputable def ti159 : TI UU := { size := 1, bytes := 8, tk := .func, zero := [.nilfn], ty := none, flat := [] }
noncomputable def ti160 : TI UU := { size := 1, bytes := 8, tk := .func, zero := [.nilfn], ty := none, flat := [] }
noncomputable def ti161 : TI UU := { size := 2, bytes := 16, tk := .struct [(0, 3), (1, 3)], zero := [.int .i64 0, .int .i64 0], ty := (some Ty.knot), flat := [.i, .i] }
noncomputable def ti162 : TI UU := { size := 1, bytes := 8, tk := .func, zero := [.nilfn], ty := none, flat := [] }
noncomputable def ti163 : TI UU := { size := 5, bytes := 40, tk := .struct [(0, 3), (1, 3), (2, 3), (3, 3), (4, 3)], zero := [.int .i64 0, .int .i64 0, .int .i64 0, .int .i64 0, .int .i64 0], ty := none, flat := [.i, .i, .i, .i, .i] }
noncomputable def ti164 : TI UU := { size := 5, bytes := 40, tk := .struct [(0, 3), (1, 3), (2, 3), (3, 3), (4, 3)], zero := [.int .i64 0, .int .i64 0, .int .i64 0, .int .i64 0, .int .i64 0], ty := (some Ty.sample), flat := [.i, .i, .i, .i, .i] }
noncomputable def ti166 : TI UU := { size := 1, bytes := 8, tk := .func, zero := [.nilfn], ty := none, flat := [] }
noncomputable def ti167 : TI UU := { size := 1, bytes := 8, tk := .func, zero := [.nilfn], ty := none, flat := [] }
noncomputable def ti168 : TI UU := { size := 1, bytes := 8, tk := .func, zero := [.nilfn], ty := none, flat := [] }
noncomputable def ti169 : TI UU := { size := 1, bytes := 8, tk := .func, zero := [.nilfn], ty := none, flat := [] }
noncomputable def ti170 : TI UU := { size := 1, bytes := 24, tk := .slice 5, zero := [.nilsl], ty := none, flat := [] }
noncomputable def ti171 : TI UU := { size := 1, bytes := 8, tk := .func, zero := [.nilfn], ty := none, flat := [] }
noncomputable def ti172 : TI UU := { size := 1, bytes := 8, tk := .func, zero := [.nilfn], ty := none, flat := [] }
noncomputable def ti173 : TI UU := { size := 1, bytes := 8, tk := .func, zero := [.nilfn], ty := none, flat := [] }
noncomputable def ti174 : TI UU := { size := 1, bytes := 8, tk := .func, zero := [.nilfn], ty := none, flat := [] }
noncomputable def ti175 : TI UU := { size := 1, bytes := 8, tk := .func, zero := [.nilfn], ty := none, flat := [] }
noncomputable def ti176 : TI UU := { size := 1, bytes := 8, tk := .ptr 38, zero := [.nilp], ty := none, flat := [] }
noncomputable def ti177 : TI UU := { size := 1, bytes := 8, tk := .func, zero := [.nilfn], ty := none, flat := [] }
noncomputable def ti178 : TI UU := { size := 1, bytes := 8, tk := .func, zero := [.nilfn], ty := none, flat := [] }
noncomputable def ti179 : TI UU := { size := 1, bytes := 8, tk := .func, zero := [.nilfn], ty := none, flat := [] }
noncomputable def ti180 : TI UU := { size := 1, bytes := 8, tk := .func, zero := [.nilfn], ty := none, flat := [] }
noncomputable def ti181 : TI UU := { size := 1, bytes := 8, tk := .ptr 183, zero := [.nilp], ty := none, flat := [] }
noncomputable def ti182 : TI UU := { size := 2, bytes := 32, tk := .struct [(0, 181), (1, 170)], zero := [.nilp, .nilsl], ty := none, flat := [] }
noncomputable def ti183 : TI UU := { size := 2, bytes := 32, tk := .struct [(0, 181), (1, 170)], zero := [.nilp, .nilsl], ty := none, flat := [] }
noncomputable def ti184 : TI UU := { size := 1, bytes := 16, tk := .iface, zero := [.nilif], ty := none, flat := [] }
noncomputable def ti185 : TI UU := { size := 1, bytes := 16, tk := .iface, zero := [.nilif], ty := none, flat := [] }
noncomputable def ti187 : TI UU := { size := 1, bytes := 8, tk := .func, zero := [.nilfn], ty := none, flat := [] }
noncomputable def ti188 : TI UU := { size := 1, bytes := 8, tk := .func, zero := [.nilfn], ty := none, flat := [] }
noncomputable def ti189 : TI UU := { size := 1, bytes := 8, tk := .func, zero := [.nilfn], ty := none, flat := [] }
noncomputable def ti190 : TI UU := { size := 1, bytes := 8, tk := .func, zero := [.nilfn], ty := none, flat := [] }
noncomputable def ti191 : TI UU := { size := 1, bytes := 24, tk := .slice 127, zero := [.nilsl], ty := none, flat := [] }
noncomputable def ti192 : TI UU := { size := 1, bytes := 8, tk := .func, zero := [.nilfn], ty := none, flat := [] }
noncomputable def ti193 : TI UU := { size := 1, bytes := 8, tk := .func, zero := [.nilfn], ty := none, flat := [] }
noncomputable def ti194 : TI UU := { size := 1, bytes := 8, tk := .func, zero := [.nilfn], ty := none, flat := [] }
noncomputable def ti196 : TI UU := { size := 1, bytes := 8, tk := .func, zero := [.nilfn], ty := none, flat := [] }
noncomputable def ti197 : TI UU := { size := 1, bytes := 8, tk := .func, zero := [.nilfn], ty := none, flat := [] }
noncomputable def ti199 : TI UU := { size := 1, bytes := 8, tk := .func, zero := [.nilfn], ty := none, flat := [] }
noncomputable def ti201 : TI UU := { size := 1, bytes := 8, tk := .func, zero := [.nilfn], ty := none, flat := [] }
noncomputable def ti202 : TI UU := { size := 1, bytes := 8, tk := .func, zero := [.nilfn], ty := none, flat := [] }
noncomputable def ti203 : TI UU := { size := 1, bytes := 8, tk := .func, zero := [.nilfn], ty := none, flat := [] }
noncomputable def ti204 : TI UU := { size := 1, bytes := 8, tk := .func, zero := [.nilfn], ty := none, flat := [] }
noncomputable def ti205 : TI UU := { size := 1, bytes := 8, tk := .func, zero := [.nilfn], ty := none, flat := [] }
noncomputable def ti206 : TI UU := { size := 1, bytes := 8, tk := .func, zero := [.nilfn], ty := none, flat := [] }
noncomputable def ti207 : TI UU := { size := 1, bytes := 8, tk := .func, zero := [.nilfn], ty := none, flat := [] }
noncomputable def ti208 : TI UU := { size := 256, bytes := 1024, tk := .array 256 155, zero := [.int .u32 0, .int .u32 0, .int .u32 0, .int .u32 0, .int .u32 0, .int .u32 0, .int .u32 0, .int .u32 0, .int .u32 0, .int .u32 0, .int .u32 0, .int .u32 0, .int .u32 0, .int .u32 0, .int .u32 0, .int .u32 0, .int .u32 0, .int .u32 0, .int .u32 0, .int .u32 0, .int .u32 0, .int .u32 0, .int .u32 0, .int .u32 0, .int .u32 0, .int .u32 0, .int .u32 0, .int .u32 0, .int .u32 0, .int .u32 0, .int .u32 0, .int .u32 0, .int .u32 0, .int .u32 0, .int .u32 0, .int .u32 0, .int .u32 0, .int .u32 0, .int .u32 0, .int .u32 0, .int .u32 0, .int .u32 0, .int .u32 0, .int .u32 0, .int .u32 0, .int .u32 0, .int .u32 0, .int .u32 0, .int .u32 0, .int .u32 0, .int .u32 0, .int .u32 0, .int .u32 0, .int .u32 0, .int .u32 0, .int .u32 0, .int .u32 0, .int .u32 0, .int .u32 0, .int .u32 0, .int .u32 0, .int .u32 0, .int .u32 0, .int .u32 0, .int .u32 0, .int .u32 0, .int .u32 0, .int .u32 0, .int .u32 0, .int .u32 0, .int .u32 0, .int .u32 0, .int .u32 0, .int .u32 0, .int .u32 0, .int .u32 0, .int .u32 0, .int .u32 0, .int .u32 0, .int .u32 0, .int .u32 0, .int .u32 0, .int .u32 0, .int .u32 0, .int .u32 0, .int .u32 0, .int .u32 0, .int .u32 0, .int .u32 0, .int .u32 0, .int .u32 0, .int .u32 0, .int .u32 0, .int .u32 0, .int .u32 0, .int .u32 0, .int .u32 0, .int .u32 0, .int .u32 0, .int .u32 0, .int .u32 0, .int .u32 0, .int .u32 0, .int .u32 0, .int .u32 0, .int .u32 0, .int .u32 0, .int .u32 0, .int .u32 0, .int .u32 0, .int .u32 0, .int .u32 0, .int .u32 0, .int .u32 0, .int .u32 0, .int .u32 0, .int .u32 0, .int .u32 0, .int .u32 0, .int .u32 0, .int .u32 0, .int .u32 0, .int .u32 0, .int .u32 0, .int .u32 0, .int .u32 0, .int .u32 0, .int .u32 0, .int .u32 0, .int .u32 0, .int .u32 0, .int .u32 0, .int .u32 0, .int .u32 0, .int .u32 0, .int .u32 0, .int .u32 0, .int .u32 0, .int .u32 0, .int .u32 0, .int .u32 0, .int .u32 0, .int .u32 0, .int .u32 0, .int .u32 0, .int .u32 0, .int .u32 0, .int .u32 0, .int .u32 0, .int .u32 0, .int .u32 0, .int .u32 0, .int .u32 0, .int .u32 0, .int .u32 0, .int .u32 0, .int .u32 0, .int .u32 0, .int .u32 0, .int .u32 0, .int .u32 0, .int .u32 0, .int .u32 0, .int .u32 0, .int .u32 0, .int .u32 0, .int .u32 0, .int .u32 0, .int .u32 0, .int .u32 0, .int .u32 0, .int .u32 0, .int .u32 0, .int .u32 0, .int .u32 0, .int .u32 0, .int .u32 0, .int .u32 0, .int .u32 0, .int .u32 0, .int .u32 0, .int .u32 0, .int .u32 0, .int .u32 0, .int .u32 0, .int .u32 0, .int .u32 0, .int .u32 0, .int .u32 0, .int .u32 0, .int .u32 0, .int .u32 0, .int .u32 0, .int .u32 0, .int .u32 0, .int .u32 0, .int .u32 0, .int .u32 0, .int .u32 0, .int .u32 0, .int .u32 0, .int .u32 0, .int .u32 0, .int .u32 0, .int .u32 0, .int .u32 0, .int .u32 0, .int .u32 0, .int .u32 0, .int .u32 0, .int .u32 0, .int .u32 0, .int .u32 0, .int .u32 0, .int .u32 0, .int .u32 0, .int .u32 0, .int .u32 0, .int .u32 0, .int .u32 0, .int .u32 0, .int .u32 0, .int .u32 0, .int .u32 0, .int .u32 0, .int .u32 0, .int .u32 0, .int .u32 0, .int .u32 0, .int .u32 0, .int .u32 0, .int .u32 0, .int .u32 0, .int .u32 0, .int .u32 0, .int .u32 0, .int .u32 0, .int .u32 0, .int .u32 0, .int .u32 0, .int .u32 0, .int .u32 0, .int .u32 0, .int .u32 0, .int .u32 0, .int .u32 0, .int .u32 0, .int .u32 0, .int .u32 0, .int .u32 0, .int .u32 0, .int .u32 0, .int .u32 0, .int .u32 0, .int .u32 0, .int .u32 0], ty := none, flat := [.i, .i, .i, .i, .i, .i, .i, .i, .i, .i, .i, .i, .i, .i, .i, .i, .i, .i, .i, .i, .i, .i, .i, .i, .i, .i, .i, .i, .i, .i, .i, .i, .i, .i, .i, .i, .i, .i, .i, .i, .i, .i, .i, .i, .i, .i, .i, .i, .i, .i, .i, .i, .i, .i, .i, .i, .i, .i, .i, .i, .i, .i, .i, .i, .i, .i, .i, .i, .i, .i, .i, .i, .i, .i, .i, .i, .i, .i, .i, .i, .i, .i, .i, .i, .i, .i, .i, .i, .i, .i, .i, .i, .i, .i, .i, .i, .i, .i, .i, .i, .i, .i, .i, .i, .i, .i, .i, .i, .i, .i, .i, .i, .i, .i, .i, .i, .i, .i, .i, .i, .i, .i, .i, .i, .i, .i, .i, .i, .i, .i, .i, .i, .i, .i, .i, .i, .i, .i, .i, .i, .i, .i, .i, .i, .i, .i, .i, .i, .i, .i, .i, .i, .i, .i, .i, .i, .i, .i, .i, .i, .i, .i, .i, .i, .i, .i, .i, .i, .i, .i, .i, .i, .i, .i, .i, .i, .i, .i, .i, .i, .i, .i, .i, .i, .i, .i, .i, .i, .i, .i, .i, .i, .i, .i, .i, .i, .i, .i, .i, .i, .i, .i, .i, .i, .i, .i, .i, .i, .i, .i, .i, .i, .i, .i, .i, .i, .i, .i, .i, .i, .i, .i, .i, .i, .i, .i, .i, .i, .i, .i, .i, .i, .i, .i, .i, .i, .i, .i, .i, .i, .i, .i, .i, .i, .i, .i, .i, .i, .i, .i, .i, .i, .i, .i, .i, .i] }
noncomputable def ti209 : TI UU := { size := 1, bytes := 8, tk := .func, zero := [.nilfn], ty := none, flat := [] }
noncomputable def ti210 : TI UU := { size := 1, bytes := 8, tk := .func, zero := [.nilfn], ty := none, flat := [] }
noncomputable def ti211 : TI UU := { size := 1, bytes := 8, tk := .func, zero := [.nilfn], ty := none, flat := [] }
noncomputable def ti212 : TI UU := { size := 1, bytes := 8, tk := .func, zero := [.nilfn], ty := none, flat := [] }
noncomputable def ti213 : TI UU := { size := 1, bytes := 8, tk := .func, zero := [.nilfn], ty := none, flat := [] }
noncomputable def ti214 : TI UU := { size := 1, bytes := 8, tk := .func, zero := [.nilfn], ty := none, flat := [] }
noncomputable def ti215 : TI UU := { size := 1, bytes := 8, tk := .func, zero := [.nilfn], ty := none, flat := [] }
noncomputable def ti217 : TI UU := { size := 1, bytes := 8, tk := .func, zero := [.nilfn], ty := none, flat := [] }
noncomputable def ti219 : TI UU := { size := 1, bytes := 8, tk := .func, zero := [.nilfn], ty := none, flat := [] }
noncomputable def ti220 : TI UU := { size := 1, bytes := 8, tk := .func, zero := [.nilfn], ty := none, flat := [] }
noncomputable def ti221 : TI UU := { size := 1, bytes := 8, tk := .ptr 5, zero := [.nilp], ty := none, flat := [] }
noncomputable def ti222 : TI UU := { size := 1, bytes := 8, tk := .map 3 4, zero := [.nilmap], ty := none, flat := [] }
noncomputable def ti223 : TI UU := { size := 1, bytes := 8, tk := .func, zero := [.nilfn], ty := none, flat := [] }
noncomputable def ti224 : TI UU := { size := 1, bytes := 8, tk := .map 3 3, zero := [.nilmap], ty := none, flat := [] }
noncomputable def ti226 : TI UU := { size := 1, bytes := 8, tk := .func, zero := [.nilfn], ty := none, flat := [] }
noncomputable def ti227 : TI UU := { size := 1, bytes := 8, tk := .map 9 4, zero := [.nilmap], ty := none, flat := [] }
noncomputable def ti228 : TI UU := { size := 1, bytes := 8, tk := .func, zero := [.nilfn], ty := none, flat := [] }
noncomputable def ti229 : TI UU := { size := 1, bytes := 8, tk := .func, zero := [.nilfn], ty := none, flat := [] }
noncomputable def ti230 : TI UU := { size := 1, bytes := 8, tk := .func, zero := [.nilfn], ty := none, flat := [] }
noncomputable def ti232 : TI UU := { size := 1, bytes := 8, tk := .func, zero := [.nilfn], ty := none, flat := [] }
noncomputable def ti234 : TI UU := { size := 1, bytes := 8, tk := .func, zero := [.nilfn], ty := none, flat := [] }
noncomputable def ti235 : TI UU := { size := 1, bytes := 8, tk := .ptr 279, zero := [.nilp], ty := none, flat := [] }
noncomputable def ti236 : TI UU := { size := 1, bytes := 8, tk := .func, zero := [.nilfn], ty := none, flat := [] }
noncomputable def ti237 : TI UU := { size := 1, bytes := 8, tk := .func, zero := [.nilfn], ty := none, flat := [] }
noncomputable def ti238 : TI UU := { size := 1, bytes := 8, tk := .func, zero := [.nilfn], ty := none, flat := [] }
noncomputable def ti240 : TI UU := { size := 1, bytes := 8, tk := .func, zero := [.nilfn], ty := none, flat := [] }
noncomputable def ti242 : TI UU := { size := 1, bytes := 8, tk := .func, zero := [.nilfn], ty := none, flat := [] }
noncomputable def ti243 : TI UU := { size := 1, bytes := 8, tk := .func, zero := [.nilfn], ty := none, flat := [] }
noncomputable def ti244 : TI UU := { size := 1, bytes := 8, tk := .func, zero := [.nilfn], ty := none, flat := [] }
noncomputable def ti245 : TI UU := { size := 1, bytes := 8, tk := .func, zero := [.nilfn], ty := none, flat := [] }
noncomputable def ti246 : TI UU := { size := 1, bytes := 8, tk := .func, zero := [.nilfn], ty := none, flat := [] }
noncomputable def ti247 : TI UU := { size := 1, bytes := 8, tk := .func, zero := [.nilfn], ty := none, flat := [] }
noncomputable def ti248 : TI UU := { size := 1, bytes := 8, tk := .func, zero := [.nilfn], ty := none, flat := [] }
noncomputable def ti249 : TI UU := { size := 1, bytes := 8, tk := .func, zero := [.nilfn], ty := none, flat := [] }
noncomputable def ti250 : TI UU := { size := 1, bytes := 8, tk := .func, zero := [.nilfn], ty := none, flat := [] }
noncomputable def ti251 : TI UU := { size := 1, bytes := 8, tk := .func, zero := [.nilfn], ty := none, flat := [] }
noncomputable def ti252 : TI UU := { size := 1, bytes := 8, tk := .func, zero := [.nilfn], ty := none, flat := [] }
noncomputable def ti253 : TI UU := { size := 1, bytes := 8, tk := .func, zero := [.nilfn], ty := none, flat := [] }
noncomputable def ti254 : TI UU := { size := 1, bytes := 8, tk := .func, zero := [.nilfn], ty := none, flat := [] }
noncomputable def ti255 : TI UU := { size := 1, bytes := 8, tk := .func, zero := [.nilfn], ty := none, flat := [] }
noncomputable def ti256 : TI UU := { size := 9, bytes := 72, tk := .array 9 3, zero := [.int .i64 0, .int .i64 0, .int .i64 0, .int .i64 0, .int .i64 0, .int .i64 0, .int .i64 0, .int .i64 0, .int .i64 0], ty := none, flat := [.i, .i, .i, .i, .i, .i, .i, .i, .i] }
noncomputable def ti257 : TI UU := { size := 11, bytes := 112, tk := .struct [(0, 9), (1, 150), (2, 256)], zero := [.str [], .nilsl, .int .i64 0, .int .i64 0, .int .i64 0, .int .i64 0, .int .i64 0, .int .i64 0, .int .i64 0, .int .i64 0, .int .i64 0], ty := none, flat := [] }
noncomputable def ti258 : TI UU := { size := 11, bytes := 112, tk := .struct [(0, 9), (1, 150), (2, 256)], zero := [.str [], .nilsl, .int .i64 0, .int .i64 0, .int .i64 0, .int .i64 0, .int .i64 0, .int .i64 0, .int .i64 0, .int .i64 0, .int .i64 0], ty := (some Ty.profile), flat := [] }
noncomputable def ti260 : TI UU := { size := 1, bytes := 8, tk := .func, zero := [.nilfn], ty := none, flat := [] }
noncomputable def ti262 : TI UU := { size := 1, bytes := 8, tk := .func, zero := [.nilfn], ty := none, flat := [] }
noncomputable def ti263 : TI UU := { size := 1, bytes := 8, tk := .func, zero := [.nilfn], ty := none, flat := [] }
noncomputable def ti264 : TI UU := { size := 1, bytes := 8, tk := .func, zero := [.nilfn], ty := none, flat := [] }
noncomputable def ti265 : TI UU := { size := 1, bytes := 8, tk := .ptr 90, zero := [.nilp], ty := none, flat := [] }
noncomputable def ti267 : TI UU := { size := 1, bytes := 8, tk := .func, zero := [.nilfn], ty := none, flat := [] }
noncomputable def ti268 : TI UU := { size := 1, bytes := 8, tk := .func, zero := [.nilfn], ty := none, flat := [] }
noncomputable def ti269 : TI UU := { size := 1, bytes := 8, tk := .func, zero := [.nilfn], ty := none, flat := [] }
noncomputable def ti270 : TI UU := { size := 1, bytes := 8, tk := .func, zero := [.nilfn], ty := none, flat := [] }
noncomputable def ti271 : TI UU := { size := 1, bytes := 8, tk := .func, zero := [.nilfn], ty := none, flat := [] }
noncomputable def ti272 : TI UU := { size := 1, bytes := 8, tk := .func, zero := [.nilfn], ty := none, flat := [] }
noncomputable def ti273 : TI UU := { size := 1, bytes := 8, tk := .func, zero := [.nilfn], ty := none, flat := [] }
noncomputable def ti275 : TI UU := { size := 1, bytes := 8, tk := .func, zero := [.nilfn], ty := none, flat := [] }
noncomputable def ti276 : TI UU := { size := 1, bytes := 8, tk := .func, zero := [.nilfn], ty := none, flat := [] }
noncomputable def ti277 : TI UU := { size := 1, bytes := 8, tk := .func, zero := [.nilfn], ty := none, flat := [] }
noncomputable def ti278 : TI UU := { size := 4, bytes := 40, tk := .struct [(0, 9), (1, 3), (2, 57), (3, 4)], zero := [.str [], .int .i64 0, .int .i64 0, .bool false], ty := none, flat := [.s, .i, .i, .b] }
noncomputable def ti279 : TI UU := { size := 4, bytes := 40, tk := .struct [(0, 9), (1, 3), (2, 57), (3, 4)], zero := [.str [], .int .i64 0, .int .i64 0, .bool false], ty := none, flat := [.s, .i, .i, .b] }
noncomputable def ti280 : TI UU := { size := 1, bytes := 8, tk := .func, zero := [.nilfn], ty := none, flat := [] }
noncomputable def ti281 : TI UU := { size := 1, bytes := 8, tk := .ptr 3, zero := [.nilp], ty := none, flat := [] }
noncomputable def ti282 : TI UU := { size := 1, bytes := 8, tk := .func, zero := [.nilfn], ty := none, flat := [] }
noncomputable def ti283 : TI UU := { size := 1, bytes := 8, tk := .func, zero := [.nilfn], ty := none, flat := [] }
noncomputable def ti284 : TI UU := { size := 1, bytes := 8, tk := .func, zero := [.nilfn], ty := none, flat := [] }
noncomputable def ti285 : TI UU := { size := 1, bytes := 8, tk := .ptr 41, zero := [.nilp], ty := none, flat := [] }
noncomputable def ti286 : TI UU := { size := 1, bytes := 8, tk := .func, zero := [.nilfn], ty := none, flat := [] }
noncomputable def ti287 : TI UU := { size := 1, bytes := 8, tk := .func, zero := [.nilfn], ty := none, flat := [] }
noncomputable def ti288 : TI UU := { size := 1, bytes := 8, tk := .func, zero := [.nilfn], ty := none, flat := [] }
noncomputable def ti289 : TI UU := { size := 1, bytes := 8, tk := .func, zero := [.nilfn], ty := none, flat := [] }
noncomputable def ti290 : TI UU := { size := 1, bytes := 8, tk := .func, zero := [.nilfn], ty := none, flat := [] }
noncomputable def ti291 : TI UU := { size := 1, bytes := 8, tk := .func, zero := [.nilfn], ty := none, flat := [] }
noncomputable def ti292 : TI UU := { size := 1, bytes := 8, tk := .func, zero := [.nilfn], ty := none, flat := [] }
noncomputable def ti293 : TI UU := { size := 1, bytes := 8, tk := .func, zero := [.nilfn], ty := none, flat := [] }
noncomputable def ti294 : TI UU := { size := 1, bytes := 8, tk := .func, zero := [.nilfn], ty := none, flat := [] }
noncomputable def ti295 : TI UU := { size := 1, bytes := 8, tk := .func, zero := [.nilfn], ty := none, flat := [] }
noncomputable def ti296 : TI UU := { size := 1, bytes := 8, tk := .func, zero := [.nilfn], ty := none, flat := [] }
noncomputable def ti297 : TI UU := { size := 1, bytes := 8, tk := .func, zero := [.nilfn], ty := none, flat := [] }
noncomputable def ti298 : TI UU := { size := 1, bytes := 8, tk := .func, zero := [.nilfn], ty := none, flat := [] }
noncomputable def ti299 : TI UU := { size := 1, bytes := 8, tk := .func, zero := [.nilfn], ty := none, flat := [] }
noncomputable def ti300 : TI UU := { size := 1, bytes := 8, tk := .func, zero := [.nilfn], ty := none, flat := [] }
noncomputable def ti301 : TI UU := { size := 1, bytes := 8, tk := .func, zero := [.nilfn], ty := none, flat := [] }
noncomputable def ti302 : TI UU := { size := 1, bytes := 8, tk := .func, zero := [.nilfn], ty := none, flat := [] }
noncomputable def ti303 : TI UU := { size := 1, bytes := 8, tk := .func, zero := [.nilfn], ty := none, flat := [] }
noncomputable def ti304 : TI UU := { size := 10, bytes := 96, tk := .struct [(0, 256), (9, 150)], zero := [.int .i64 0, .int .i64 0, .int .i64 0, .int .i64 0, .int .i64 0, .int .i64 0, .int .i64 0, .int .i64 0, .int .i64 0, .nilsl], ty := none, flat := [] }
noncomputable def ti305 : TI UU := { size := 10, bytes := 96, tk := .struct [(0, 256), (9, 150)], zero := [.int .i64 0, .int .i64 0, .int .i64 0, .int .i64 0, .int .i64 0, .int .i64 0, .int .i64 0, .int .i64 0, .int .i64 0, .nilsl], ty := none, flat := [] }
noncomputable def ti306 : TI UU := { size := 1, bytes := 8, tk := .func, zero := [.nilfn], ty := none, flat := [] }
noncomputable def ti307 : TI UU := { size := 1, bytes := 8, tk := .func, zero := [.nilfn], ty := none, flat := [] }
noncomputable def ti308 : TI UU := { size := 3, bytes := 24, tk := .array 3 3, zero := [.int .i64 0, .int .i64 0, .int .i64 0], ty := none, flat := [.i, .i, .i] }
noncomputable def ti309 : TI UU := { size := 1, bytes := 8, tk := .func, zero := [.nilfn], ty := none, flat := [] }
noncomputable def ti310 : TI UU := { size := 1, bytes := 8, tk := .func, zero := [.nilfn], ty := none, flat := [] }
noncomputable def ti311 : TI UU := { size := 1, bytes := 8, tk := .func, zero := [.nilfn], ty := none, flat := [] }
noncomputable def ti312 : TI UU := { size := 1, bytes := 8, tk := .func, zero := [.nilfn], ty := none, flat := [] }
noncomputable def ti313 : TI UU := { size := 1, bytes := 8, tk := .func, zero := [.nilfn], ty := none, flat := [] }
noncomputable def ti314 : TI UU := { size := 1, bytes := 8, tk := .func, zero := [.nilfn], ty := none, flat := [] }
noncomputable def ti315 : TI UU := { size := 1, bytes := 8, tk := .func, zero := [.nilfn], ty := none, flat := [] }
noncomputable def ti316 : TI UU := { size := 1, bytes := 8, tk := .func, zero := [.nilfn], ty := none, flat := [] }
noncomputable def ti318 : TI UU := { size := 1, bytes := 8, tk := .func, zero := [.nilfn], ty := none, flat := [] }
noncomputable def ti319 : TI UU := { size := 1, bytes := 8, tk := .func, zero := [.nilfn], ty := none, flat := [] }
noncomputable def ti320 : TI UU := { size := 1, bytes := 8, tk := .func, zero := [.nilfn], ty := none, flat := [] }
noncomputable def ti321 : TI UU := { size := 1, bytes := 8, tk := .func, zero := [.nilfn], ty := none, flat := [] }
noncomputable def ti322 : TI UU := { size := 1, bytes := 8, tk := .func, zero := [.nilfn], ty := none, flat := [] }
noncomputable def ti323 : TI UU := { size := 1, bytes := 8, tk := .func, zero := [.nilfn], ty := none, flat := [] }
noncomputable def ti324 : TI UU := { size := 1, bytes := 8, tk := .func, zero := [.nilfn], ty := none, flat := [] }
noncomputable def ti325 : TI UU := { size := 1, bytes := 24, tk := .slice 281, zero := [.nilsl], ty := none, flat := [] }
noncomputable def ti326 : TI UU := { size := 1, bytes := 8, tk := .func, zero := [.nilfn], ty := none, flat := [] }
noncomputable def ti328 : TI UU := { size := 1, bytes := 8, tk := .func, zero := [.nilfn], ty := none, flat := [] }
noncomputable def ti330 : TI UU := { size := 1, bytes := 8, tk := .func, zero := [.nilfn], ty := none, flat := [] }
noncomputable def ti331 : TI UU := { size := 1, bytes := 8, tk := .func, zero := [.nilfn], ty := none, flat := [] }
noncomputable def ti332 : TI UU := { size := 1, bytes := 24, tk := .slice 390, zero := [.nilsl], ty := none, flat := [] }
noncomputable def ti334 : TI UU := { size := 1, bytes := 8, tk := .func, zero := [.nilfn], ty := none, flat := [] }
noncomputable def ti335 : TI UU := { size := 1, bytes := 8, tk := .func, zero := [.nilfn], ty := none, flat := [] }
noncomputable def ti336 : TI UU := { size := 1, bytes := 8, tk := .func, zero := [.nilfn], ty := none, flat := [] }
noncomputable def ti337 : TI UU := { size := 1, bytes := 8, tk := .func, zero := [.nilfn], ty := none, flat := [] }
noncomputable def ti338 : TI UU := { size := 1, bytes := 8, tk := .func, zero := [.nilfn], ty := none, flat := [] }
noncomputable def ti339 : TI UU := { size := 1, bytes := 8, tk := .func, zero := [.nilfn], ty := none, flat := [] }
noncomputable def ti340 : TI UU := { size := 1, bytes := 8, tk := .func, zero := [.nilfn], ty := none, flat := [] }
noncomputable def ti341 : TI UU := { size := 1, bytes := 8, tk := .func, zero := [.nilfn], ty := none, flat := [] }
noncomputable def ti342 : TI UU := { size := 1, bytes := 8, tk := .func, zero := [.nilfn], ty := none, flat := [] }
noncomputable def ti343 : TI UU := { size := 1, bytes := 8, tk := .func, zero := [.nilfn], ty := none, flat := [] }
noncomputable def ti344 : TI UU := { size := 1, bytes := 24, tk := .slice 345, zero := [.nilsl], ty := none, flat := [] }
noncomputable def ti345 : TI UU := { size := 4, bytes := 32, tk := .array 4 3, zero := [.int .i64 0, .int .i64 0, .int .i64 0, .int .i64 0], ty := none, flat := [.i, .i, .i, .i] }
noncomputable def ti346 : TI UU := { size := 1, bytes := 8, tk := .func, zero := [.nilfn], ty := none, flat := [] }
noncomputable def ti347 : TI UU := { size := 1, bytes := 8, tk := .func, zero := [.nilfn], ty := none, flat := [] }
noncomputable def ti348 : TI UU := { size := 1, bytes := 8, tk := .func, zero := [.nilfn], ty := none, flat := [] }
noncomputable def ti349 : TI UU := { size := 1, bytes := 8, tk := .func, zero := [.nilfn], ty := none, flat := [] }
noncomputable def ti350 : TI UU := { size := 1, bytes := 8, tk := .func, zero := [.nilfn], ty := none, flat := [] }
noncomputable def ti351 : TI UU := { size := 1, bytes := 8, tk := .func, zero := [.nilfn], ty := none, flat := [] }
noncomputable def ti353 : TI UU := { size := 1, bytes := 8, tk := .func, zero := [.nilfn], ty := none, flat := [] }
noncomputable def ti355 : TI UU := { size := 1, bytes := 8, tk := .func, zero := [.nilfn], ty := none, flat := [] }
noncomputable def ti356 : TI UU := { size := 1, bytes := 8, tk := .func, zero := [.nilfn], ty := none, flat := [] }
noncomputable def ti357 : TI UU := { size := 1, bytes := 8, tk := .func, zero := [.nilfn], ty := none, flat := [] }
noncomputable def ti358 : TI UU := { size := 1, bytes := 8, tk := .ptr 406, zero := [.nilp], ty := none, flat := [] }
noncomputable def ti360 : TI UU := { size := 1, bytes := 8, tk := .func, zero := [.nilfn], ty := none, flat := [] }
noncomputable def ti361 : TI UU := { size := 1, bytes := 8, tk := .func, zero := [.nilfn], ty := none, flat := [] }
noncomputable def ti362 : TI UU := { size := 1, bytes := 8, tk := .func, zero := [.nilfn], ty := none, flat := [] }
noncomputable def ti364 : TI UU := { size := 1, bytes := 8, tk := .func, zero := [.nilfn], ty := none, flat := [] }
noncomputable def ti365 : TI UU := { size := 1, bytes := 8, tk := .func, zero := [.nilfn], ty := none, flat := [] }
noncomputable def ti367 : TI UU := { size := 1, bytes := 8, tk := .func, zero := [.nilfn], ty := none, flat := [] }
noncomputable def ti368 : TI UU := { size := 1, bytes := 24, tk := .slice 34, zero := [.nilsl], ty := none, flat := [] }
noncomputable def ti370 : TI UU := { size := 1, bytes := 8, tk := .func, zero := [.nilfn], ty := none, flat := [] }
noncomputable def ti371 : TI UU := { size := 1, bytes := 24, tk := .slice 4, zero := [.nilsl], ty := none, flat := [] }
noncomputable def ti373 : TI UU := { size := 1, bytes := 8, tk := .func, zero := [.nilfn], ty := none, flat := [] }
noncomputable def ti374 : TI UU := { size := 1, bytes := 8, tk := .func, zero := [.nilfn], ty := none, flat := [] }
noncomputable def ti375 : TI UU := { size := 1, bytes := 8, tk := .func, zero := [.nilfn], ty := none, flat := [] }
noncomputable def ti376 : TI UU := { size := 1, bytes := 8, tk := .func, zero := [.nilfn], ty := none, flat := [] }
noncomputable def ti377 : TI UU := { size := 1, bytes := 24, tk := .slice 421, zero := [.nilsl], ty := none, flat := [] }
noncomputable def ti378 : TI UU := { size := 1, bytes := 24, tk := .slice 425, zero := [.nilsl], ty := none, flat := [] }
noncomputable def ti379 : TI UU := { size := 5, bytes := 72, tk := .struct [(0, 3), (1, 3), (2, 3), (3, 377), (4, 378)], zero := [.int .i64 0, .int .i64 0, .int .i64 0, .nilsl, .nilsl], ty := none, flat := [] }
noncomputable def ti380 : TI UU := { size := 5, bytes := 72, tk := .struct [(0, 3), (1, 3), (2, 3), (3, 377), (4, 378)], zero := [.int .i64 0, .int .i64 0, .int .i64 0, .nilsl, .nilsl], ty := (some Ty.font), flat := [] }
noncomputable def ti381 : TI UU := { size := 1, bytes := 8, tk := .func, zero := [.nilfn], ty := none, flat := [] }
noncomputable def ti382 : TI UU := { size := 1, bytes := 8, tk := .func, zero := [.nilfn], ty := none, flat := [] }
noncomputable def ti383 : TI UU := { size := 1, bytes := 24, tk := .slice 385, zero := [.nilsl], ty := none, flat := [] }
noncomputable def ti384 : TI UU := { size := 1, bytes := 8, tk := .func, zero := [.nilfn], ty := none, flat := [] }
noncomputable def ti385 : TI UU := { size := 2, bytes := 16, tk := .array 2 3, zero := [.int .i64 0, .int .i64 0], ty := none, flat := [.i, .i] }
noncomputable def ti386 : TI UU := { size := 1, bytes := 8, tk := .func, zero := [.nilfn], ty := none, flat := [] }
noncomputable def ti387 : TI UU := { size := 1, bytes := 8, tk := .func, zero := [.nilfn], ty := none, flat := [] }
noncomputable def ti388 : TI UU := { size := 1, bytes := 8, tk := .func, zero := [.nilfn], ty := none, flat := [] }
noncomputable def ti389 : TI UU := { size := 5, bytes := 40, tk := .struct [(0, 3), (1, 3), (2, 3), (3, 3), (4, 3)], zero := [.int .i64 0, .int .i64 0, .int .i64 0, .int .i64 0, .int .i64 0], ty := none, flat := [.i, .i, .i, .i, .i] }
noncomputable def ti390 : TI UU := { size := 5, bytes := 40, tk := .struct [(0, 3), (1, 3), (2, 3), (3, 3), (4, 3)], zero := [.int .i64 0, .int .i64 0, .int .i64 0, .int .i64 0, .int .i64 0], ty := (some Ty.dab), flat := [.i, .i, .i, .i, .i] }
noncomputable def ti391 : TI UU := { size := 1, bytes := 8, tk := .func, zero := [.nilfn], ty := none, flat := [] }
noncomputable def ti392 : TI UU := { size := 1, bytes := 8, tk := .func, zero := [.nilfn], ty := none, flat := [] }
noncomputable def ti393 : TI UU := { size := 1, bytes := 8, tk := .func, zero := [.nilfn], ty := none, flat := [] }
noncomputable def ti394 : TI UU := { size := 1, bytes := 8, tk := .func, zero := [.nilfn], ty := none, flat := [] }
noncomputable def ti395 : TI UU := { size := 1, bytes := 8, tk := .func, zero := [.nilfn], ty := none, flat := [] }
noncomputable def ti396 : TI UU := { size := 1, bytes := 8, tk := .func, zero := [.nilfn], ty := none, flat := [] }
noncomputable def ti397 : TI UU := { size := 1, bytes := 8, tk := .func, zero := [.nilfn], ty := none, flat := [] }
noncomputable def ti398 : TI UU := { size := 1, bytes := 8, tk := .func, zero := [.nilfn], ty := none, flat := [] }
noncomputable def ti399 : TI UU := { size := 1, bytes := 8, tk := .func, zero := [.nilfn], ty := none, flat := [] }
noncomputable def ti400 : TI UU := { size := 1, bytes := 8, tk := .func, zero := [.nilfn], ty := none, flat := [] }
noncomputable def ti401 : TI UU := { size := 1, bytes := 8, tk := .func, zero := [.nilfn], ty := none, flat := [] }
noncomputable def ti402 : TI UU := { size := 1, bytes := 8, tk := .func, zero := [.nilfn], ty := none, flat := [] }
noncomputable def ti403 : TI UU := { size := 1, bytes := 8, tk := .func, zero := [.nilfn], ty := none, flat := [] }
noncomputable def ti404 : TI UU := { size := 1, bytes := 8, tk := .map 3 29, zero := [.nilmap], ty := none, flat := [] }
noncomputable def ti405 : TI UU := { size := 11, bytes := 152, tk := .struct [(0, 72), (10, 404)], zero := [.int .i64 0, .int .i64 0, .int .i64 0, .nilsl, .int .i64 0, .int .i64 0, .int .i64 0, .nilsl, .nilsl, .nilsl, .nilmap], ty := none, flat := [] }
noncomputable def ti406 : TI UU := { size := 11, bytes := 152, tk := .struct [(0, 72), (10, 404)], zero := [.int .i64 0, .int .i64 0, .int .i64 0, .nilsl, .int .i64 0, .int .i64 0, .int .i64 0, .nilsl, .nilsl, .nilsl, .nilmap], ty := none, flat := [] }
noncomputable def ti407 : TI UU := { size := 1, bytes := 8, tk := .func, zero := [.nilfn], ty := none, flat := [] }
noncomputable def ti408 : TI UU := { size := 1, bytes := 8, tk := .func, zero := [.nilfn], ty := none, flat := [] }
noncomputable def ti409 : TI UU := { size := 1, bytes := 8, tk := .func, zero := [.nilfn], ty := none, flat := [] }
noncomputable def ti410 : TI UU := { size := 1, bytes := 8, tk := .ptr 34, zero := [.nilp], ty := none, flat := [] }
noncomputable def ti411 : TI UU := { size := 1, bytes := 8, tk := .func, zero := [.nilfn], ty := none, flat := [] }
noncomputable def ti412 : TI UU := { size := 1, bytes := 8, tk := .func, zero := [.nilfn], ty := none, flat := [] }
noncomputable def ti413 : TI UU := { size := 5, bytes := 56, tk := .struct [(0, 3), (1, 3), (2, 3), (3, 368), (4, 3)], zero := [.int .i64 0, .int .i64 0, .int .i64 0, .nilsl, .int .i64 0], ty := none, flat := [] }
noncomputable def ti414 : TI UU := { size := 5, bytes := 56, tk := .struct [(0, 3), (1, 3), (2, 3), (3, 368), (4, 3)], zero := [.int .i64 0, .int .i64 0, .int .i64 0, .nilsl, .int .i64 0], ty := none, flat := [] }
noncomputable def ti415 : TI UU := { size := 1, bytes := 8, tk := .func, zero := [.nilfn], ty := none, flat := [] }
noncomputable def ti417 : TI UU := { size := 1, bytes := 8, tk := .func, zero := [.nilfn], ty := none, flat := [] }
noncomputable def ti418 : TI UU := { size := 1, bytes := 8, tk := .func, zero := [.nilfn], ty := none, flat := [] }
noncomputable def ti419 : TI UU := { size := 1, bytes := 8, tk := .func, zero := [.nilfn], ty := none, flat := [] }
noncomputable def ti420 : TI UU := { size := 3, bytes := 40, tk := .struct [(0, 5), (1, 3), (2, 33)], zero := [.int .u8 0, .int .i64 0, .nilsl], ty := none, flat := [] }
noncomputable def ti421 : TI UU := { size := 3, bytes := 40, tk := .struct [(0, 5), (1, 3), (2, 33)], zero := [.int .u8 0, .int .i64 0, .nilsl], ty := (some Ty.glyph), flat := [] }
noncomputable def ti422 : TI UU := { size := 1, bytes := 8, tk := .func, zero := [.nilfn], ty := none, flat := [] }
noncomputable def ti423 : TI UU := { size := 1, bytes := 8, tk := .func, zero := [.nilfn], ty := none, flat := [] }
noncomputable def ti424 : TI UU := { size := 3, bytes := 16, tk := .struct [(0, 5), (1, 5), (2, 3)], zero := [.int .u8 0, .int .u8 0, .int .i64 0], ty := none, flat := [.i, .i, .i] }
noncomputable def ti425 : TI UU := { size := 3, bytes := 16, tk := .struct [(0, 5), (1, 5), (2, 3)], zero := [.int .u8 0, .int .u8 0, .int .i64 0], ty := (some Ty.kern), flat := [.i, .i, .i] }
noncomputable def ti427 : TI UU := { size := 1, bytes := 8, tk := .func, zero := [.nilfn], ty := none, flat := [] }
noncomputable def ti428 : TI UU := { size := 1, bytes := 8, tk := .func, zero := [.nilfn], ty := none, flat := [] }
noncomputable def ti429 : TI UU := { size := 1, bytes := 8, tk := .func, zero := [.nilfn], ty := none, flat := [] }
noncomputable def ti430 : TI UU := { size := 1, bytes := 8, tk := .func, zero := [.nilfn], ty := none, flat := [] }
noncomputable def ti431 : TI UU := { size := 9, bytes := 72, tk := .struct [(0, 390), (5, 3), (6, 3), (7, 3), (8, 3)], zero := [.int .i64 0, .int .i64 0, .int .i64 0, .int .i64 0, .int .i64 0, .int .i64 0, .int .i64 0, .int .i64 0, .int .i64 0], ty := none, flat := [.i, .i, .i, .i, .i, .i, .i, .i, .i] }
noncomputable def ti432 : TI UU := { size := 9, bytes := 72, tk := .struct [(0, 390), (5, 3), (6, 3), (7, 3), (8, 3)], zero := [.int .i64 0, .int .i64 0, .int .i64 0, .int .i64 0, .int .i64 0, .int .i64 0, .int .i64 0, .int .i64 0, .int .i64 0], ty := none, flat := [.i, .i, .i, .i, .i, .i, .i, .i, .i] }
noncomputable def ti433 : TI UU := { size := 1, bytes := 8, tk := .func, zero := [.nilfn], ty := none, flat := [] }
noncomputable def ti434 : TI UU := { size := 1, bytes := 8, tk := .func, zero := [.nilfn], ty := none, flat := [] }
noncomputable def ti435 : TI UU := { size := 1, bytes := 8, tk := .func, zero := [.nilfn], ty := none, flat := [] }
noncomputable def ti436 : TI UU := { size := 1, bytes := 8, tk := .func, zero := [.nilfn], ty := none, flat := [] }
noncomputable def ti437 : TI UU := { size := 1, bytes := 8, tk := .func, zero := [.nilfn], ty := none, flat := [] }
noncomputable def ti438 : TI UU := { size := 1, bytes := 8, tk := .func, zero := [.nilfn], ty := none, flat := [] }
noncomputable def ti439 : TI UU := { size := 1, bytes := 8, tk := .func, zero := [.nilfn], ty := none, flat := [] }
noncomputable def ti440 : TI UU := { size := 1, bytes := 8, tk := .func, zero := [.nilfn], ty := none, flat := [] }
noncomputable def ti441 : TI UU := { size := 1, bytes := 8, tk := .func, zero := [.nilfn], ty := none, flat := [] }
noncomputable def ti442 : TI UU := { size := 1, bytes := 8, tk := .func, zero := [.nilfn], ty := none, flat := [] }
noncomputable def ti444 : TI UU := { size := 1, bytes := 8, tk := .func, zero := [.nilfn], ty := none, flat := [] }
noncomputable def ti445 : TI UU := { size := 1, bytes := 8, tk := .func, zero := [.nilfn], ty := none, flat := [] }
noncomputable def ti446 : TI UU := { size := 1, bytes := 8, tk := .func, zero := [.nilfn], ty := none, flat := [] }
noncomputable def ti447 : TI UU := { size := 1, bytes := 8, tk := .func, zero := [.nilfn], ty := none, flat := [] }
noncomputable def ti449 : TI UU := { size := 1, bytes := 8, tk := .func, zero := [.nilfn], ty := none, flat := [] }
noncomputable def ti450 : TI UU := { size := 1, bytes := 8, tk := .ptr 414, zero := [.nilp], ty := none, flat := [] }
noncomputable def ti451 : TI UU := { size := 1, bytes := 8, tk := .func, zero := [.nilfn], ty := none, flat := [] }
noncomputable def ti452 : TI UU := { size := 1, bytes := 8, tk := .func, zero := [.nilfn], ty := none, flat := [] }
noncomputable def ti453 : TI UU := { size := 1, bytes := 24, tk := .slice 455, zero := [.nilsl], ty := none, flat := [] }
noncomputable def ti454 : TI UU := { size := 10, bytes := 80, tk := .struct [(0, 44), (2, 44), (4, 44), (6, 44), (8, 44)], zero := [.int .i64 0, .int .i64 0, .int .i64 0, .int .i64 0, .int .i64 0, .int .i64 0, .int .i64 0, .int .i64 0, .int .i64 0, .int .i64 0], ty := none, flat := [.i, .i, .i, .i, .i, .i, .i, .i, .i, .i] }
noncomputable def ti455 : TI UU := { size := 10, bytes := 80, tk := .struct [(0, 44), (2, 44), (4, 44), (6, 44), (8, 44)], zero := [.int .i64 0, .int .i64 0, .int .i64 0, .int .i64 0, .int .i64 0, .int .i64 0, .int .i64 0, .int .i64 0, .int .i64 0, .int .i64 0], ty := (some Ty.stroke_edge), flat := [.i, .i, .i, .i, .i, .i, .i, .i, .i, .i] }
noncomputable def ti456 : TI UU := { size := 1, bytes := 8, tk := .func, zero := [.nilfn], ty := none, flat := [] }
noncomputable def ti457 : TI UU := { size := 1, bytes := 8, tk := .func, zero := [.nilfn], ty := none, flat := [] }
noncomputable def ti458 : TI UU := { size := 1, bytes := 8, tk := .func, zero := [.nilfn], ty := none, flat := [] }
noncomputable def ti459 : TI UU := { size := 1, bytes := 8, tk := .func, zero := [.nilfn], ty := none, flat := [] }
noncomputable def ti460 : TI UU := { size := 1, bytes := 8, tk := .func, zero := [.nilfn], ty := none, flat := [] }
noncomputable def ti461 : TI UU := { size := 1, bytes := 8, tk := .func, zero := [.nilfn], ty := none, flat := [] }
noncomputable def ti462 : TI UU := { size := 1, bytes := 8, tk := .func, zero := [.nilfn], ty := none, flat := [] }
noncomputable def ti463 : TI UU := { size := 1, bytes := 8, tk := .func, zero := [.nilfn], ty := none, flat := [] }
noncomputable def ti464 : TI UU := { size := 1, bytes := 8, tk := .func, zero := [.nilfn], ty := none, flat := [] }
noncomputable def ti465 : TI UU := { size := 1, bytes := 8, tk := .func, zero := [.nilfn], ty := none, flat := [] }
noncomputable def ti466 : TI UU := { size := 1, bytes := 8, tk := .func, zero := [.nilfn], ty := none, flat := [] }
noncomputable def ti467 : TI UU := { size := 1, bytes := 8, tk := .func, zero := [.nilfn], ty := none, flat := [] }
noncomputable def ti468 : TI UU := { size := 1, bytes := 8, tk := .func, zero := [.nilfn], ty := none, flat := [] }
noncomputable def ti469 : TI UU := { size := 1, bytes := 8, tk := .func, zero := [.nilfn], ty := none, flat := [] }
noncomputable def ti471 : TI UU := { size := 1, bytes := 8, tk := .func, zero := [.nilfn], ty := none, flat := [] }
noncomputable def ti472 : TI UU := { size := 1, bytes := 8, tk := .func, zero := [.nilfn], ty := none, flat := [] }
noncomputable def ti473 : TI UU := { size := 1, bytes := 8, tk := .func, zero := [.nilfn], ty := none, flat := [] }
noncomputable def ti474 : TI UU := { size := 1, bytes := 8, tk := .func, zero := [.nilfn], ty := none, flat := [] }
noncomputable def ti475 : TI UU := { size := 4, bytes := 48, tk := .struct [(0, 29), (3, 4)], zero := [.int .i64 0, .int .i64 0, .nilsl, .bool false], ty := none, flat := [] }
noncomputable def ti476 : TI UU := { size := 4, bytes := 48, tk := .struct [(0, 29), (3, 4)], zero := [.int .i64 0, .int .i64 0, .nilsl, .bool false], ty := none, flat := [] }
noncomputable def ti477 : TI UU := { size := 1, bytes := 8, tk := .func, zero := [.nilfn], ty := none, flat := [] }
noncomputable def ti478 : TI UU := { size := 1, bytes := 8, tk := .func, zero := [.nilfn], ty := none, flat := [] }
noncomputable def ti479 : TI UU := { size := 1, bytes := 8, tk := .func, zero := [.nilfn], ty := none, flat := [] }
noncomputable def ti480 : TI UU := { size := 1, bytes := 8, tk := .func, zero := [.nilfn], ty := none, flat := [] }
noncomputable def ti481 : TI UU := { size := 1, bytes := 8, tk := .func, zero := [.nilfn], ty := none, flat := [] }
noncomputable def ti482 : TI UU := { size := 1, bytes := 8, tk := .func, zero := [.nilfn], ty := none, flat := [] }
noncomputable def ti483 : TI UU := { size := 1, bytes := 8, tk := .func, zero := [.nilfn], ty := none, flat := [] }
noncomputable def ti484 : TI UU := { size := 1, bytes := 8, tk := .func, zero := [.nilfn], ty := none, flat := [] }
noncomputable def ti485 : TI UU := { size := 1, bytes := 8, tk := .func, zero := [.nilfn], ty := none, flat := [] }
noncomputable def ti486 : TI UU := { size := 1, bytes := 8, tk := .func, zero := [.nilfn], ty := none, flat := [] }
noncomputable def ti487 : TI UU := { size := 1, bytes := 8, tk := .func, zero := [.nilfn], ty := none, flat := [] }
noncomputable def ti488 : TI UU := { size := 1, bytes := 8, tk := .func, zero := [.nilfn], ty := none, flat := [] }
noncomputable def ti489 : TI UU := { size := 1, bytes := 8, tk := .func, zero := [.nilfn], ty := none, flat := [] }
noncomputable def ti490 : TI UU := { size := 1, bytes := 8, tk := .func, zero := [.nilfn], ty := none, flat := [] }
noncomputable def ti491 : TI UU := { size := 1, bytes := 8, tk := .func, zero := [.nilfn], ty := none, flat := [] }
noncomputable def ti492 : TI UU := { size := 1, bytes := 8, tk := .func, zero := [.nilfn], ty := none, flat := [] }
noncomputable def ti493 : TI UU := { size := 1, bytes := 8, tk := .func, zero := [.nilfn], ty := none, flat := [] }
noncomputable def ti494 : TI UU := { size := 1, bytes := 8, tk := .func, zero := [.nilfn], ty := none, flat := [] }
noncomputable def ti496 : TI UU := { size := 1, bytes := 8, tk := .func, zero := [.nilfn], ty := none, flat := [] }
noncomputable def ti497 : TI UU := { size := 2, bytes := 16, tk := .struct [(0, 3), (1, 3)], zero := [.int .i64 0, .int .i64 0], ty := none, flat := [.i, .i] }
noncomputable def ti498 : TI UU := { size := 2, bytes := 16, tk := .struct [(0, 3), (1, 3)], zero := [.int .i64 0, .int .i64 0], ty := none, flat := [.i, .i] }
noncomputable def ti499 : TI UU := { size := 1, bytes := 8, tk := .func, zero := [.nilfn], ty := none, flat := [] }
noncomputable def ti500 : TI UU := { size := 1, bytes := 8, tk := .func, zero := [.nilfn], ty := none, flat := [] }
noncomputable def ti501 : TI UU := { size := 1, bytes := 8, tk := .func, zero := [.nilfn], ty := none, flat := [] }
noncomputable def ti502 : TI UU := { size := 1, bytes := 8, tk := .func, zero := [.nilfn], ty := none, flat := [] }
noncomputable def ti503 : TI UU := { size := 1, bytes := 8, tk := .func, zero := [.nilfn], ty := none, flat := [] }
noncomputable def ti504 : TI UU := { size := 1, bytes := 8, tk := .func, zero := [.nilfn], ty := none, flat := [] }
noncomputable def ti505 : TI UU := { size := 1, bytes := 8, tk := .func, zero := [.nilfn], ty := none, flat := [] }
noncomputable def ti506 : TI UU := { size := 1, bytes := 8, tk := .func, zero := [.nilfn], ty := none, flat := [] }
noncomputable def ti507 : TI UU := { size := 1, bytes := 8, tk := .ptr 498, zero := [.nilp], ty := none, flat := [] }
noncomputable def ti508 : TI UU := { size := 1, bytes := 8, tk := .func, zero := [.nilfn], ty := none, flat := [] }
noncomputable def ti509 : TI UU := { size := 1, bytes := 8, tk := .func, zero := [.nilfn], ty := none, flat := [] }
noncomputable def ti510 : TI UU := { size := 1, bytes := 8, tk := .func, zero := [.nilfn], ty := none, flat := [] }
noncomputable def ti511 : TI UU := { size := 1, bytes := 8, tk := .func, zero := [.nilfn], ty := none, flat := [] }
noncomputable def ti512 : TI UU := { size := 1, bytes := 8, tk := .func, zero := [.nilfn], ty := none, flat := [] }
noncomputable def ti514 : TI UU := { size := 1, bytes := 8, tk := .func, zero := [.nilfn], ty := none, flat := [] }
noncomputable def ti515 : TI UU := { size := 11, bytes := 104, tk := .struct [(0, 29), (3, 44), (5, 46), (9, 3), (10, 3)], zero := [.int .i64 0, .int .i64 0, .nilsl, .int .i64 0, .int .i64 0, .int .i64 0, .int .i64 0, .int .i64 0, .int .i64 0, .int .i64 0, .int .i64 0], ty := none, flat := [] }
noncomputable def ti516 : TI UU := { size := 11, bytes := 104, tk := .struct [(0, 29), (3, 44), (5, 46), (9, 3), (10, 3)], zero := [.int .i64 0, .int .i64 0, .nilsl, .int .i64 0, .int .i64 0, .int .i64 0, .int .i64 0, .int .i64 0, .int .i64 0, .int .i64 0, .int .i64 0], ty := none, flat := [] }
noncomputable def ti517 : TI UU := { size := 1, bytes := 8, tk := .func, zero := [.nilfn], ty := none, flat := [] }
noncomputable def ti518 : TI UU := { size := 1, bytes := 8, tk := .func, zero := [.nilfn], ty := none, flat := [] }
noncomputable def ti519 : TI UU := { size := 1, bytes := 8, tk := .func, zero := [.nilfn], ty := none, flat := [] }
noncomputable def ti520 : TI UU := { size := 1, bytes := 8, tk := .func, zero := [.nilfn], ty := none, flat := [] }
noncomputable def ti521 : TI UU := { size := 7, bytes := 56, tk := .struct [(0, 3), (1, 308), (4, 308)], zero := [.int .i64 0, .int .i64 0, .int .i64 0, .int .i64 0, .int .i64 0, .int .i64 0, .int .i64 0], ty := none, flat := [.i, .i, .i, .i, .i, .i, .i] }
noncomputable def ti522 : TI UU := { size := 7, bytes := 56, tk := .struct [(0, 3), (1, 308), (4, 308)], zero := [.int .i64 0, .int .i64 0, .int .i64 0, .int .i64 0, .int .i64 0, .int .i64 0, .int .i64 0], ty := none, flat := [.i, .i, .i, .i, .i, .i, .i] }
noncomputable def ti523 : TI UU := { size := 1, bytes := 8, tk := .func, zero := [.nilfn], ty := none, flat := [] }
noncomputable def ti524 : TI UU := { size := 1, bytes := 8, tk := .func, zero := [.nilfn], ty := none, flat := [] }
noncomputable def ti525 : TI UU := { size := 1, bytes := 8, tk := .func, zero := [.nilfn], ty := none, flat := [] }
noncomputable def ti527 : TI UU := { size := 1, bytes := 8, tk := .func, zero := [.nilfn], ty := none, flat := [] }
noncomputable def ti528 : TI UU := { size := 65, bytes := 520, tk := .array 65 3, zero := [.int .i64 0, .int .i64 0, .int .i64 0, .int .i64 0, .int .i64 0, .int .i64 0, .int .i64 0, .int .i64 0, .int .i64 0, .int .i64 0, .int .i64 0, .int .i64 0, .int .i64 0, .int .i64 0, .int .i64 0, .int .i64 0, .int .i64 0, .int .i64 0, .int .i64 0, .int .i64 0, .int .i64 0, .int .i64 0, .int .i64 0, .int .i64 0, .int .i64 0, .int .i64 0, .int .i64 0, .int .i64 0, .int .i64 0, .int .i64 0, .int .i64 0, .int .i64 0, .int .i64 0, .int .i64 0, .int .i64 0, .int .i64 0, .int .i64 0, .int .i64 0, .int .i64 0, .int .i64 0, .int .i64 0, .int .i64 0, .int .i64 0, .int .i64 0, .int .i64 0, .int .i64 0, .int .i64 0, .int .i64 0, .int .i64 0, .int .i64 0, .int .i64 0, .int .i64 0, .int .i64 0, .int .i64 0, .int .i64 0, .int .i64 0, .int .i64 0, .int .i64 0, .int .i64 0, .int .i64 0, .int .i64 0, .int .i64 0, .int .i64 0, .int .i64 0, .int .i64 0], ty := none, flat := [.i, .i, .i, .i, .i, .i, .i, .i, .i, .i, .i, .i, .i, .i, .i, .i, .i, .i, .i, .i, .i, .i, .i, .i, .i, .i, .i, .i, .i, .i, .i, .i, .i, .i, .i, .i, .i, .i, .i, .i, .i, .i, .i, .i, .i, .i, .i, .i, .i, .i, .i, .i, .i, .i, .i, .i, .i, .i, .i, .i, .i, .i, .i, .i, .i] }
noncomputable def ti529 : TI UU := { size := 1, bytes := 8, tk := .func, zero := [.nilfn], ty := none, flat := [] }
noncomputable def ti530 : TI UU := { size := 1, bytes := 8, tk := .func, zero := [.nilfn], ty := none, flat := [] }
noncomputable def ti531 : TI UU := { size := 1, bytes := 8, tk := .func, zero := [.nilfn], ty := none, flat := [] }
noncomputable def ti532 : TI UU := { size := 1, bytes := 8, tk := .func, zero := [.nilfn], ty := none, flat := [] }
noncomputable def ti533 : TI UU := { size := 1, bytes := 8, tk := .func, zero := [.nilfn], ty := none, flat := [] }
noncomputable def ti534 : TI UU := { size := 1, bytes := 8, tk := .func, zero := [.nilfn], ty := none, flat := [] }
noncomputable def ti535 : TI UU := { size := 1, bytes := 8, tk := .func, zero := [.nilfn], ty := none, flat := [] }
noncomputable def ti536 : TI UU := { size := 1, bytes := 8, tk := .func, zero := [.nilfn], ty := none, flat := [] }
noncomputable def ti537 : TI UU := { size := 1, bytes := 8, tk := .func, zero := [.nilfn], ty := none, flat := [] }
noncomputable def ti538 : TI UU := { size := 1, bytes := 8, tk := .func, zero := [.nilfn], ty := none, flat := [] }
noncomputable def ti539 : TI UU := { size := 1, bytes := 8, tk := .func, zero := [.nilfn], ty := none, flat := [] }
noncomputable def ti540 : TI UU := { size := 1, bytes := 8, tk := .func, zero := [.nilfn], ty := none, flat := [] }
noncomputable def ti541 : TI UU := { size := 1, bytes := 8, tk := .func, zero := [.nilfn], ty := none, flat := [] }
noncomputable def ti542 : TI UU := { size := 1, bytes := 8, tk := .func, zero := [.nilfn], ty := none, flat := [] }
noncomputable def ti543 : TI UU := { size := 1, bytes := 8, tk := .ptr 522, zero := [.nilp], ty := none, flat := [] }
noncomputable def ti544 : TI UU := { size := 16, bytes := 128, tk := .array 16 3, zero := [.int .i64 0, .int .i64 0, .int .i64 0, .int .i64 0, .int .i64 0, .int .i64 0, .int .i64 0, .int .i64 0, .int .i64 0, .int .i64 0, .int .i64 0, .int .i64 0, .int .i64 0, .int .i64 0, .int .i64 0, .int .i64 0], ty := none, flat := [.i, .i, .i, .i, .i, .i, .i, .i, .i, .i, .i, .i, .i, .i, .i, .i] }
noncomputable def ti545 : TI UU := { size := 1, bytes := 8, tk := .func, zero := [.nilfn], ty := none, flat := [] }
noncomputable def ti546 : TI UU := { size := 5, bytes := 40, tk := .struct [(0, 3), (1, 3), (2, 3), (3, 3), (4, 3)], zero := [.int .i64 0, .int .i64 0, .int .i64 0, .int .i64 0, .int .i64 0], ty := none, flat := [.i, .i, .i, .i, .i] }
noncomputable def ti547 : TI UU := { size := 5, bytes := 40, tk := .struct [(0, 3), (1, 3), (2, 3), (3, 3), (4, 3)], zero := [.int .i64 0, .int .i64 0, .int .i64 0, .int .i64 0, .int .i64 0], ty := none, flat := [.i, .i, .i, .i, .i] }
noncomputable def ti548 : TI UU := { size := 1, bytes := 8, tk := .func, zero := [.nilfn], ty := none, flat := [] }
noncomputable def ti549 : TI UU := { size := 1, bytes := 8, tk := .func, zero := [.nilfn], ty := none, flat := [] }
noncomputable def ti550 : TI UU := { size := 1, bytes := 8, tk := .func, zero := [.nilfn], ty := none, flat := [] }
noncomputable def ti551 : TI UU := { size := 256, bytes := 256, tk := .array 256 5, zero := [.int .u8 0, .int .u8 0, .int .u8 0, .int .u8 0, .int .u8 0, .int .u8 0, .int .u8 0, .int .u8 0, .int .u8 0, .int .u8 0, .int .u8 0, .int .u8 0, .int .u8 0, .int .u8 0, .int .u8 0, .int .u8 0, .int .u8 0, .int .u8 0, .int .u8 0, .int .u8 0, .int .u8 0, .int .u8 0, .int .u8 0, .int .u8 0, .int .u8 0, .int .u8 0, .int .u8 0, .int .u8 0, .int .u8 0, .int .u8 0, .int .u8 0, .int .u8 0, .int .u8 0, .int .u8 0, .int .u8 0, .int .u8 0, .int .u8 0, .int .u8 0, .int .u8 0, .int .u8 0, .int .u8 0, .int .u8 0, .int .u8 0, .int .u8 0, .int .u8 0, .int .u8 0, .int .u8 0, .int .u8 0, .int .u8 0, .int .u8 0, .int .u8 0, .int .u8 0, .int .u8 0, .int .u8 0, .int .u8 0, .int .u8 0, .int .u8 0, .int .u8 0, .int .u8 0, .int .u8 0, .int .u8 0, .int .u8 0, .int .u8 0, .int .u8 0, .int .u8 0, .int .u8 0, .int .u8 0, .int .u8 0, .int .u8 0, .int .u8 0, .int .u8 0, .int .u8 0, .int .u8 0, .int .u8 0, .int .u8 0, .int .u8 0, .int .u8 0, .int .u8 0, .int .u8 0, .int .u8 0, .int .u8 0, .int .u8 0, .int .u8 0, .int .u8 0, .int .u8 0, .int .u8 0, .int .u8 0, .int .u8 0, .int .u8 0, .int .u8 0, .int .u8 0, .int .u8 0, .int .u8 0, .int .u8 0, .int .u8 0, .int .u8 0, .int .u8 0, .int .u8 0, .int .u8 0, .int .u8 0, .int .u8 0, .int .u8 0, .int .u8 0, .int .u8 0, .int .u8 0, .int .u8 0, .int .u8 0, .int .u8 0, .int .u8 0, .int .u8 0, .int .u8 0, .int .u8 0, .int .u8 0, .int .u8 0, .int .u8 0, .int .u8 0, .int .u8 0, .int .u8 0, .int .u8 0, .int .u8 0, .int .u8 0, .int .u8 0, .int .u8 0, .int .u8 0, .int .u8 0, .int .u8 0, .int .u8 0, .int .u8 0, .int .u8 0, .int .u8 0, .int .u8 0, .int .u8 0, .int .u8 0, .int .u8 0, .int .u8 0, .int .u8 0, .int .u8 0, .int .u8 0, .int .u8 0, .int .u8 0, .int .u8 0, .int .u8 0, .int .u8 0, .int .u8 0, .int .u8 0, .int .u8 0, .int .u8 0, .int .u8 0, .int .u8 0, .int .u8 0, .int .u8 0, .int .u8 0, .int .u8 0, .int .u8 0, .int .u8 0, .int .u8 0, .int .u8 0, .int .u8 0, .int .u8 0, .int .u8 0, .int .u8 0, .int .u8 0, .int .u8 0, .int .u8 0, .int .u8 0, .int .u8 0, .int .u8 0, .int .u8 0, .int .u8 0, .int .u8 0, .int .u8 0, .int .u8 0, .int .u8 0, .int .u8 0, .int .u8 0, .int .u8 0, .int .u8 0, .int .u8 0, .int .u8 0, .int .u8 0, .int .u8 0, .int .u8 0, .int .u8 0, .int .u8 0, .int .u8 0, .int .u8 0, .int .u8 0, .int .u8 0, .int .u8 0, .int .u8 0, .int .u8 0, .int .u8 0, .int .u8 0, .int .u8 0, .int .u8 0, .int .u8 0, .int .u8 0, .int .u8 0, .int .u8 0, .int .u8 0, .int .u8 0, .int .u8 0, .int .u8 0, .int .u8 0, .int .u8 0, .int .u8 0, .int .u8 0, .int .u8 0, .int .u8 0, .int .u8 0, .int .u8 0, .int .u8 0, .int .u8 0, .int .u8 0, .int .u8 0, .int .u8 0, .int .u8 0, .int .u8 0, .int .u8 0, .int .u8 0, .int .u8 0, .int .u8 0, .int .u8 0, .int .u8 0, .int .u8 0, .int .u8 0, .int .u8 0, .int .u8 0, .int .u8 0, .int .u8 0, .int .u8 0, .int .u8 0, .int .u8 0, .int .u8 0, .int .u8 0, .int .u8 0, .int .u8 0, .int .u8 0, .int .u8 0, .int .u8 0, .int .u8 0, .int .u8 0, .int .u8 0, .int .u8 0, .int .u8 0, .int .u8 0, .int .u8 0, .int .u8 0, .int .u8 0, .int .u8 0, .int .u8 0, .int .u8 0, .int .u8 0, .int .u8 0, .int .u8 0, .int .u8 0], ty := none, flat := [.i, .i, .i, .i, .i, .i, .i, .i, .i, .i, .i, .i, .i, .i, .i, .i, .i, .i, .i, .i, .i, .i, .i, .i, .i, .i, .i, .i, .i, .i, .i, .i, .i, .i, .i, .i, .i, .i, .i, .i, .i, .i, .i, .i, .i, .i, .i, .i, .i, .i, .i, .i, .i, .i, .i, .i, .i, .i, .i, .i, .i, .i, .i, .i, .i, .i, .i, .i, .i, .i, .i, .i, .i, .i, .i, .i, .i, .i, .i, .i, .i, .i, .i, .i, .i, .i, .i, .i, .i, .i, .i, .i, .i, .i, .i, .i, .i, .i, .i, .i, .i, .i, .i, .i, .i, .i, .i, .i, .i, .i, .i, .i, .i, .i, .i, .i, .i, .i, .i, .i, .i, .i, .i, .i, .i, .i, .i, .i, .i, .i, .i, .i, .i, .i, .i, .i, .i, .i, .i, .i, .i, .i, .i, .i, .i, .i, .i, .i, .i, .i, .i, .i, .i, .i, .i, .i, .i, .i, .i, .i, .i, .i, .i, .i, .i, .i, .i, .i, .i, .i, .i, .i, .i, .i, .i, .i, .i, .i, .i, .i, .i, .i, .i, .i, .i, .i, .i, .i, .i, .i, .i, .i, .i, .i, .i, .i, .i, .i, .i, .i, .i, .i, .i, .i, .i, .i, .i, .i, .i, .i, .i, .i, .i, .i, .i, .i, .i, .i, .i, .i, .i, .i, .i, .i, .i, .i, .i, .i, .i, .i, .i, .i, .i, .i, .i, .i, .i, .i, .i, .i, .i, .i, .i, .i, .i, .i, .i, .i, .i, .i, .i, .i, .i, .i, .i, .i] }
noncomputable def ti552 : TI UU := { size := 2, bytes := 2, tk := .struct [(0, 5), (1, 5)], zero := [.int .u8 0, .int .u8 0], ty := none, flat := [.i, .i] }
noncomputable def ti553 : TI UU := { size := 2, bytes := 2, tk := .struct [(0, 5), (1, 5)], zero := [.int .u8 0, .int .u8 0], ty := none, flat := [.i, .i] }
noncomputable def ti554 : TI UU := { size := 32, bytes := 32, tk := .array 16 553, zero := [.int .u8 0, .int .u8 0, .int .u8 0, .int .u8 0, .int .u8 0, .int .u8 0, .int .u8 0, .int .u8 0, .int .u8 0, .int .u8 0, .int .u8 0, .int .u8 0, .int .u8 0, .int .u8 0, .int .u8 0, .int .u8 0, .int .u8 0, .int .u8 0, .int .u8 0, .int .u8 0, .int .u8 0, .int .u8 0, .int .u8 0, .int .u8 0, .int .u8 0, .int .u8 0, .int .u8 0, .int .u8 0, .int .u8 0, .int .u8 0, .int .u8 0, .int .u8 0], ty := none, flat := [.i, .i, .i, .i, .i, .i, .i, .i, .i, .i, .i, .i, .i, .i, .i, .i, .i, .i, .i, .i, .i, .i, .i, .i, .i, .i, .i, .i, .i, .i, .i, .i] }
noncomputable def ti556 : TI UU := { size := 1, bytes := 8, tk := .func, zero := [.nilfn], ty := none, flat := [] }
noncomputable def ti557 : TI UU := { size := 18, bytes := 144, tk := .array 6 308, zero := [.int .i64 0, .int .i64 0, .int .i64 0, .int .i64 0, .int .i64 0, .int .i64 0, .int .i64 0, .int .i64 0, .int .i64 0, .int .i64 0, .int .i64 0, .int .i64 0, .int .i64 0, .int .i64 0, .int .i64 0, .int .i64 0, .int .i64 0, .int .i64 0], ty := none, flat := [.i, .i, .i, .i, .i, .i, .i, .i, .i, .i, .i, .i, .i, .i, .i, .i, .i, .i] }
noncomputable def ti558 : TI UU := { size := 1, bytes := 8, tk := .ptr 547, zero := [.nilp], ty := none, flat := [] }
noncomputable def ti559 : TI UU := { size := 1, bytes := 8, tk := .func, zero := [.nilfn], ty := none, flat := [] }
noncomputable def ti560 : TI UU := { size := 1, bytes := 8, tk := .func, zero := [.nilfn], ty := none, flat := [] }
noncomputable def ti561 : TI UU := { size := 1, bytes := 8, tk := .func, zero := [.nilfn], ty := none, flat := [] }
noncomputable def ti562 : TI UU := { size := 1, bytes := 8, tk := .int .i64, zero := [.int .i64 0], ty := (some Ty.int), flat := [] }
noncomputable def ti564 : TI UU := { size := 1, bytes := 8, tk := .func, zero := [.nilfn], ty := none, flat := [] }
noncomputable def ti565 : TI UU := { size := 1, bytes := 8, tk := .func, zero := [.nilfn], ty := none, flat := [] }
noncomputable def ti566 : TI UU := { size := 1, bytes := 8, tk := .func, zero := [.nilfn], ty := none, flat := [] }
noncomputable def ti567 : TI UU := { size := 1, bytes := 8, tk := .func, zero := [.nilfn], ty := none, flat := [] }
noncomputable def ti568 : TI UU := { size := 1, bytes := 8, tk := .func, zero := [.nilfn], ty := none, flat := [] }
noncomputable def ti569 : TI UU := { size := 1, bytes := 8, tk := .int .u64, zero := [.int .u64 0], ty := none, flat := [] }
noncomputable def ti570 : TI UU := { size := 1, bytes := 8, tk := .func, zero := [.nilfn], ty := none, flat := [] }
noncomputable def ti571 : TI UU := { size := 1, bytes := 8, tk := .func, zero := [.nilfn], ty := none, flat := [] }
noncomputable def ti572 : TI UU := { size := 1, bytes := 8, tk := .func, zero := [.nilfn], ty := none, flat := [] }
noncomputable def ti573 : TI UU := { size := 1, bytes := 8, tk := .ptr 569, zero := [.nilp], ty := none, flat := [] }
noncomputable def ti574 : TI UU := { size := 1, bytes := 8, tk := .func, zero := [.nilfn], ty := none, flat := [] }
noncomputable def ti575 : TI UU := { size := 1, bytes := 8, tk := .ptr 589, zero := [.nilp], ty := none, flat := [] }
noncomputable def ti576 : TI UU := { size := 4, bytes := 40, tk := .struct [(0, 17), (1, 17), (2, 17), (3, 9)], zero := [.nilp, .nilp, .nilp, .str []], ty := none, flat := [] }
noncomputable def ti577 : TI UU := { size := 4, bytes := 40, tk := .struct [(0, 17), (1, 17), (2, 17), (3, 9)], zero := [.nilp, .nilp, .nilp, .str []], ty := none, flat := [] }
noncomputable def ti578 : TI UU := { size := 0, bytes := 0, tk := .array 0 16, zero := [], ty := none, flat := [] }
noncomputable def ti579 : TI UU := { size := 0, bytes := 0, tk := .struct [(0, 578)], zero := [], ty := none, flat := [] }
noncomputable def ti580 : TI UU := { size := 0, bytes := 0, tk := .struct [(0, 578)], zero := [], ty := none, flat := [] }
noncomputable def ti581 : TI UU := { size := 1, bytes := 1, tk := .int .u8, zero := [.int .u8 0], ty := (some Ty.u8), flat := [] }
noncomputable def ti582 : TI UU := { size := 1, bytes := 1, tk := .int .u8, zero := [.int .u8 0], ty := (some Ty.u8), flat := [] }
noncomputable def ti583 : TI UU := { size := 1, bytes := 8, tk := .func, zero := [.nilfn], ty := none, flat := [] }
noncomputable def ti584 : TI UU := { size := 1, bytes := 4, tk := .int .i32, zero := [.int .i32 0], ty := none, flat := [] }
noncomputable def ti585 : TI UU := { size := 1, bytes := 4, tk := .int .i32, zero := [.int .i32 0], ty := none, flat := [] }
noncomputable def ti586 : TI UU := { size := 11, bytes := 48, tk := .struct [(0, 12), (1, 12), (2, 155), (3, 581), (4, 5), (5, 5), (6, 582), (7, 583), (8, 221), (9, 584), (10, 585)], zero := [.int .u64 0, .int .u64 0, .int .u32 0, .int .u8 0, .int .u8 0, .int .u8 0, .int .u8 0, .nilfn, .nilp, .int .i32 0, .int .i32 0], ty := none, flat := [] }
noncomputable def ti587 : TI UU := { size := 11, bytes := 48, tk := .struct [(0, 12), (1, 12), (2, 155), (3, 581), (4, 5), (5, 5), (6, 582), (7, 583), (8, 221), (9, 584), (10, 585)], zero := [.int .u64 0, .int .u64 0, .int .u32 0, .int .u8 0, .int .u8 0, .int .u8 0, .int .u8 0, .nilfn, .nilp, .int .i32 0, .int .i32 0], ty := none, flat := [] }
noncomputable def ti588 : TI UU := { size := 1, bytes := 16, tk := .struct [(0, 9)], zero := [.str []], ty := none, flat := [.s] }
noncomputable def ti589 : TI UU := { size := 1, bytes := 16, tk := .struct [(0, 9)], zero := [.str []], ty := none, flat := [.s] }
noncomputable def tiTree : Tr (TI UU) := (.node 296 ti296 (.node 144 ti144 (.node 69 ti69 (.node 35 ti35 (.node 18 ti18 (.node 9 ti9 (.node 5 ti5 (.node 3 ti3 (.node 2 ti2 (.node 1 ti1 .leaf .leaf) .leaf) (.node 4 ti4 .leaf .leaf)) (.node 7 ti7 (.node 6 ti6 .leaf .leaf) (.node 8 ti8 .leaf .leaf))) (.node 14 ti14 (.node 12 ti12 (.node 11 ti11 (.node 10 ti10 .leaf .leaf) .leaf) (.node 13 ti13 .leaf .leaf)) (.node 16 ti16 (.node 15 ti15 .leaf .leaf) (.node 17 ti17 .leaf .leaf)))) (.node 27 ti27 (.node 23 ti23 (.node 21 ti21 (.node 20 ti20 (.node 19 ti19 .leaf .leaf) .leaf) (.node 22 ti22 .leaf .leaf)) (.node 25 ti25 (.node 24 ti24 .leaf .leaf) (.node 26 ti26 .leaf .leaf))) (.node 31 ti31 (.node 29 ti29 (.node 28 ti28 .leaf .leaf) (.node 30 ti30 .leaf .leaf)) (.node 33 ti33 (.node 32 ti32 .leaf .leaf) (.node 34 ti34 .leaf .leaf))))) (.node 52 ti52 (.node 44 ti44 (.node 40 ti40 (.node 38 ti38 (.node 37 ti37 (.node 36 ti36 .leaf .leaf) .leaf) (.node 39 ti39 .leaf .leaf)) (.node 42 ti42 (.node 41 ti41 .leaf .leaf) (.node 43 ti43 .leaf .leaf))) (.node 48 ti48 (.node 46 ti46 (.node 45 ti45 .leaf .leaf) (.node 47 ti47 .leaf .leaf)) (.node 50 ti50 (.node 49 ti49 .leaf .leaf) (.node 51 ti51 .leaf .leaf)))) (.node 61 ti61 (.node 57 ti57 (.node 55 ti55 (.node 54 ti54 (.node 53 ti53 .leaf .leaf) .leaf) (.node 56 ti56 .leaf .leaf)) (.node 59 ti59 (.node 58 ti58 .leaf .leaf) (.node 60 ti60 .leaf .leaf))) (.node 65 ti65 (.node 63 ti63 (.node 62 ti62 .leaf .leaf) (.node 64 ti64 .leaf .leaf)) (.node 67 ti67 (.node 66 ti66 .leaf .leaf) (.node 68 ti68 .leaf .leaf)))))) (.node 106 ti106 (.node 88 ti88 (.node 79 ti79 (.node 74 ti74 (.node 72 ti72 (.node 71 ti71 (.node 70 ti70 .leaf .leaf) .leaf) (.node 73 ti73 .leaf .leaf)) (.node 76 ti76 (.node 75 ti75 .leaf .leaf) (.node 78 ti78 .leaf .leaf))) (.node 83 ti83 (.node 81 ti81 (.node 80 ti80 .leaf .leaf) (.node 82 ti82 .leaf .leaf)) (.node 86 ti86 (.node 84 ti84 .leaf .leaf) (.node 87 ti87 .leaf .leaf)))) (.node 98 ti98 (.node 94 ti94 (.node 91 ti91 (.node 90 ti90 (.node 89 ti89 .leaf .leaf) .leaf) (.node 92 ti92 .leaf .leaf)) (.node 96 ti96 (.node 95 ti95 .leaf .leaf) (.node 97 ti97 .leaf .leaf))) (.node 102 ti102 (.node 100 ti100 (.node 99 ti99 .leaf .leaf) (.node 101 ti101 .leaf .leaf)) (.node 104 ti104 (.node 103 ti103 .leaf .leaf) (.node 105 ti105 .leaf .leaf))))) (.node 126 ti126 (.node 117 ti117 (.node 113 ti113 (.node 111 ti111 (.node 110 ti110 (.node 108 ti108 .leaf .leaf) .leaf) (.node 112 ti112 .leaf .leaf)) (.node 115 ti115 (.node 114 ti114 .leaf .leaf) (.node 116 ti116 .leaf .leaf))) (.node 121 ti121 (.node 119 ti119 (.node 118 ti118 .leaf .leaf) (.node 120 ti120 .leaf .leaf)) (.node 124 ti124 (.node 123 ti123 .leaf .leaf) (.node 125 ti125 .leaf .leaf)))) (.node 135 ti135 (.node 131 ti131 (.node 129 ti129 (.node 128 ti128 (.node 127 ti127 .leaf .leaf) .leaf) (.node 130 ti130 .leaf .leaf)) (.node 133 ti133 (.node 132 ti132 .leaf .leaf) (.node 134 ti134 .leaf .leaf))) (.node 139 ti139 (.node 137 ti137 (.node 136 ti136 .leaf .leaf) (.node 138 ti138 .leaf .leaf)) (.node 141 ti141 (.node 140 ti140 .leaf .leaf) (.node 143 ti143 .leaf .leaf))))))) (.node 219 ti219 (.node 179 ti179 (.node 161 ti161 (.node 153 ti153 (.node 149 ti149 (.node 147 ti147 (.node 146 ti146 (.node 145 ti145 .leaf .leaf) .leaf) (.node 148 ti148 .leaf .leaf)) (.node 151 ti151 (.node 150 ti150 .leaf .leaf) (.node 152 ti152 .leaf .leaf))) (.node 157 ti157 (.node 155 ti155 (.node 154 ti154 .leaf .leaf) (.node 156 ti156 .leaf .leaf)) (.node 159 ti159 (.node 158 ti158 .leaf .leaf) (.node 160 ti160 .leaf .leaf)))) (.node 171 ti171 (.node 167 ti167 (.node 164 ti164 (.node 163 ti163 (.node 162 ti162 .leaf .leaf) .leaf) (.node 166 ti166 .leaf .leaf)) (.node 169 ti169 (.node 168 ti168 .leaf .leaf) (.node 170 ti170 .leaf .leaf))) (.node 175 ti175 (.node 173 ti173 (.node 172 ti172 .leaf .leaf) (.node 174 ti174 .leaf .leaf)) (.node 177 ti177 (.node 176 ti176 .leaf .leaf) (.node 178 ti178 .leaf .leaf))))) (.node 199 ti199 (.node 189 ti189 (.node 184 ti184 (.node 182 ti182 (.node 181 ti181 (.node 180 ti180 .leaf .leaf) .leaf) (.node 183 ti183 .leaf .leaf)) (.node 187 ti187 (.node 185 ti185 .leaf .leaf) (.node 188 ti188 .leaf .leaf))) (.node 193 ti193 (.node 191 ti191 (.node 190 ti190 .leaf .leaf) (.node 192 ti192 .leaf .leaf)) (.node 196 ti196 (.node 194 ti194 .leaf .leaf) (.node 197 ti197 .leaf .leaf)))) (.node 209 ti209 (.node 205 ti205 (.node 203 ti203 (.node 202 ti202 (.node 201 ti201 .leaf .leaf) .leaf) (.node 204 ti204 .leaf .leaf)) (.node 207 ti207 (.node 206 ti206 .leaf .leaf) (.node 208 ti208 .leaf .leaf))) (.node 213 ti213 (.node 211 ti211 (.node 210 ti210 .leaf .leaf) (.node 212 ti212 .leaf .leaf)) (.node 215 ti215 (.node 214 ti214 .leaf .leaf) (.node 217 ti217 .leaf .leaf)))))) (.node 258 ti258 (.node 240 ti240 (.node 229 ti229 (.node 224 ti224 (.node 222 ti222 (.node 221 ti221 (.node 220 ti220 .leaf .leaf) .leaf) (.node 223 ti223 .leaf .leaf)) (.node 227 ti227 (.node 226 ti226 .leaf .leaf) (.node 228 ti228 .leaf .leaf))) (.node 235 ti235 (.node 232 ti232 (.node 230 ti230 .leaf .leaf) (.node 234 ti234 .leaf .leaf)) (.node 237 ti237 (.node 236 ti236 .leaf .leaf) (.node 238 ti238 .leaf .leaf)))) (.node 250 ti250 (.node 246 ti246 (.node 244 ti244 (.node 243 ti243 (.node 242 ti242 .leaf .leaf) .leaf) (.node 245 ti245 .leaf .leaf)) (.node 248 ti248 (.node 247 ti247 .leaf .leaf) (.node 249 ti249 .leaf .leaf))) (.node 254 ti254 (.node 252 ti252 (.node 251 ti251 .leaf .leaf) (.node 253 ti253 .leaf .leaf)) (.node 256 ti256 (.node 255 ti255 .leaf .leaf) (.node 257 ti257 .leaf .leaf))))) (.node 279 ti279 (.node 270 ti270 (.node 265 ti265 (.node 263 ti263 (.node 262 ti262 (.node 260 ti260 .leaf .leaf) .leaf) (.node 264 ti264 .leaf .leaf)) (.node 268 ti268 (.node 267 ti267 .leaf .leaf) (.node 269 ti269 .leaf .leaf))) (.node 275 ti275 (.node 272 ti272 (.node 271 ti271 .leaf .leaf) (.node 273 ti273 .leaf .leaf)) (.node 277 ti277 (.node 276 ti276 .leaf .leaf) (.node 278 ti278 .leaf .leaf)))) (.node 288 ti288 (.node 284 ti284 (.node 282 ti282 (.node 281 ti281 (.node 280 ti280 .leaf .leaf) .leaf) (.node 283 ti283 .leaf .leaf)) (.node 286 ti286 (.node 285 ti285 .leaf .leaf) (.node 287 ti287 .leaf .leaf))) (.node 292 ti292 (.node 290 ti290 (.node 289 ti289 .leaf .leaf) (.node 291 ti291 .leaf .leaf)) (.node 294 ti294 (.node 293 ti293 .leaf .leaf) (.node 295 ti295 .leaf .leaf)))))))) (.node 447 ti447 (.node 376 ti376 (.node 335 ti335 (.node 314 ti314 (.node 305 ti305 (.node 301 ti301 (.node 299 ti299 (.node 298 ti298 (.node 297 ti297 .leaf .leaf) .leaf) (.node 300 ti300 .leaf .leaf)) (.node 303 ti303 (.node 302 ti302 .leaf .leaf) (.node 304 ti304 .leaf .leaf))) (.node 310 ti310 (.node 308 ti308 (.node 307 ti307 (.node 306 ti306 .leaf .leaf) .leaf) (.node 309 ti309 .leaf .leaf)) (.node 312 ti312 (.node 311 ti311 .leaf .leaf) (.node 313 ti313 .leaf .leaf)))) (.node 324 ti324 (.node 320 ti320 (.node 318 ti318 (.node 316 ti316 (.node 315 ti315 .leaf .leaf) .leaf) (.node 319 ti319 .leaf .leaf)) (.node 322 ti322 (.node 321 ti321 .leaf .leaf) (.node 323 ti323 .leaf .leaf))) (.node 330 ti330 (.node 326 ti326 (.node 325 ti325 .leaf .leaf) (.node 328 ti328 .leaf .leaf)) (.node 332 ti332 (.node 331 ti331 .leaf .leaf) (.node 334 ti334 .leaf .leaf))))) (.node 353 ti353 (.node 344 ti344 (.node 340 ti340 (.node 338 ti338 (.node 337 ti337 (.node 336 ti336 .leaf .leaf) .leaf) (.node 339 ti339 .leaf .leaf)) (.node 342 ti342 (.node 341 ti341 .leaf .leaf) (.node 343 ti343 .leaf .leaf))) (.node 348 ti348 (.node 346 ti346 (.node 345 ti345 .leaf .leaf) (.node 347 ti347 .leaf .leaf)) (.node 350 ti350 (.node 349 ti349 .leaf .leaf) (.node 351 ti351 .leaf .leaf)))) (.node 365 ti365 (.node 360 ti360 (.node 357 ti357 (.node 356 ti356 (.node 355 ti355 .leaf .leaf) .leaf) (.node 358 ti358 .leaf .leaf)) (.node 362 ti362 (.node 361 ti361 .leaf .leaf) (.node 364 ti364 .leaf .leaf))) (.node 371 ti371 (.node 368 ti368 (.node 367 ti367 .leaf .leaf) (.node 370 ti370 .leaf .leaf)) (.node 374 ti374 (.node 373 ti373 .leaf .leaf) (.node 375 ti375 .leaf .leaf)))))) (.node 410 ti410 (.node 393 ti393 (.node 385 ti385 (.node 381 ti381 (.node 379 ti379 (.node 378 ti378 (.node 377 ti377 .leaf .leaf) .leaf) (.node 380 ti380 .leaf .leaf)) (.node 383 ti383 (.node 382 ti382 .leaf .leaf) (.node 384 ti384 .leaf .leaf))) (.node 389 ti389 (.node 387 ti387 (.node 386 ti386 .leaf .leaf) (.node 388 ti388 .leaf .leaf)) (.node 391 ti391 (.node 390 ti390 .leaf .leaf) (.node 392 ti392 .leaf .leaf)))) (.node 402 ti402 (.node 398 ti398 (.node 396 ti396 (.node 395 ti395 (.node 394 ti394 .leaf .leaf) .leaf) (.node 397 ti397 .leaf .leaf)) (.node 400 ti400 (.node 399 ti399 .leaf .leaf) (.node 401 ti401 .leaf .leaf))) (.node 406 ti406 (.node 404 ti404 (.node 403 ti403 .leaf .leaf) (.node 405 ti405 .leaf .leaf)) (.node 408 ti408 (.node 407 ti407 .leaf .leaf) (.node 409 ti409 .leaf .leaf))))) (.node 429 ti429 (.node 420 ti420 (.node 415 ti415 (.node 413 ti413 (.node 412 ti412 (.node 411 ti411 .leaf .leaf) .leaf) (.node 414 ti414 .leaf .leaf)) (.node 418 ti418 (.node 417 ti417 .leaf .leaf) (.node 419 ti419 .leaf .leaf))) (.node 424 ti424 (.node 422 ti422 (.node 421 ti421 .leaf .leaf) (.node 423 ti423 .leaf .leaf)) (.node 427 ti427 (.node 425 ti425 .leaf .leaf) (.node 428 ti428 .leaf .leaf)))) (.node 438 ti438 (.node 434 ti434 (.node 432 ti432 (.node 431 ti431 (.node 430 ti430 .leaf .leaf) .leaf) (.node 433 ti433 .leaf .leaf)) (.node 436 ti436 (.node 435 ti435 .leaf .leaf) (.node 437 ti437 .leaf .leaf))) (.node 442 ti442 (.node 440 ti440 (.node 439 ti439 .leaf .leaf) (.node 441 ti441 .leaf .leaf)) (.node 445 ti445 (.node 444 ti444 .leaf .leaf) (.node 446 ti446 .leaf .leaf))))))) (.node 519 ti519 (.node 483 ti483 (.node 465 ti465 (.node 457 ti457 (.node 453 ti453 (.node 451 ti451 (.node 450 ti450 (.node 449 ti449 .leaf .leaf) .leaf) (.node 452 ti452 .leaf .leaf)) (.node 455 ti455 (.node 454 ti454 .leaf .leaf) (.node 456 ti456 .leaf .leaf))) (.node 461 ti461 (.node 459 ti459 (.node 458 ti458 .leaf .leaf) (.node 460 ti460 .leaf .leaf)) (.node 463 ti463 (.node 462 ti462 .leaf .leaf) (.node 464 ti464 .leaf .leaf)))) (.node 475 ti475 (.node 471 ti471 (.node 468 ti468 (.node 467 ti467 (.node 466 ti466 .leaf .leaf) .leaf) (.node 469 ti469 .leaf .leaf)) (.node 473 ti473 (.node 472 ti472 .leaf .leaf) (.node 474 ti474 .leaf .leaf))) (.node 479 ti479 (.node 477 ti477 (.node 476 ti476 .leaf .leaf) (.node 478 ti478 .leaf .leaf)) (.node 481 ti481 (.node 480 ti480 .leaf .leaf) (.node 482 ti482 .leaf .leaf))))) (.node 501 ti501 (.node 492 ti492 (.node 488 ti488 (.node 486 ti486 (.node 485 ti485 (.node 484 ti484 .leaf .leaf) .leaf) (.node 487 ti487 .leaf .leaf)) (.node 490 ti490 (.node 489 ti489 .leaf .leaf) (.node 491 ti491 .leaf .leaf))) (.node 497 ti497 (.node 494 ti494 (.node 493 ti493 .leaf .leaf) (.node 496 ti496 .leaf .leaf)) (.node 499 ti499 (.node 498 ti498 .leaf .leaf) (.node 500 ti500 .leaf .leaf)))) (.node 510 ti510 (.node 506 ti506 (.node 504 ti504 (.node 503 ti503 (.node 502 ti502 .leaf .leaf) .leaf) (.node 505 ti505 .leaf .leaf)) (.node 508 ti508 (.node 507 ti507 .leaf .leaf) (.node 509 ti509 .leaf .leaf))) (.node 515 ti515 (.node 512 ti512 (.node 511 ti511 .leaf .leaf) (.node 514 ti514 .leaf .leaf)) (.node 517 ti517 (.node 516 ti516 .leaf .leaf) (.node 518 ti518 .leaf .leaf)))))) (.node 554 ti554 (.node 537 ti537 (.node 529 ti529 (.node 524 ti524 (.node 522 ti522 (.node 521 ti521 (.node 520 ti520 .leaf .leaf) .leaf) (.node 523 ti523 .leaf .leaf)) (.node 527 ti527 (.node 525 ti525 .leaf .leaf) (.node 528 ti528 .leaf .leaf))) (.node 533 ti533 (.node 531 ti531 (.node 530 ti530 .leaf .leaf) (.node 532 ti532 .leaf .leaf)) (.node 535 ti535 (.node 534 ti534 .leaf .leaf) (.node 536 ti536 .leaf .leaf)))) (.node 546 ti546 (.node 542 ti542 (.node 540 ti540 (.node 539 ti539 (.node 538 ti538 .leaf .leaf) .leaf) (.node 541 ti541 .leaf .leaf)) (.node 544 ti544 (.node 543 ti543 .leaf .leaf) (.node 545 ti545 .leaf .leaf))) (.node 550 ti550 (.node 548 ti548 (.node 547 ti547 .leaf .leaf) (.node 549 ti549 .leaf .leaf)) (.node 552 ti552 (.node 551 ti551 .leaf .leaf) (.node 553 ti553 .leaf .leaf))))) (.node 573 ti573 (.node 565 ti565 (.node 560 ti560 (.node 558 ti558 (.node 557 ti557 (.node 556 ti556 .leaf .leaf) .leaf) (.node 559 ti559 .leaf .leaf)) (.node 562 ti562 (.node 561 ti561 .leaf .leaf) (.node 564 ti564 .leaf .leaf))) (.node 569 ti569 (.node 567 ti567 (.node 566 ti566 .leaf .leaf) (.node 568 ti568 .leaf .leaf)) (.node 571 ti571 (.node 570 ti570 .leaf .leaf) (.node 572 ti572 .leaf .leaf)))) (.node 582 ti582 (.node 578 ti578 (.node 576 ti576 (.node 575 ti575 (.node 574 ti574 .leaf .leaf) .leaf) (.node 577 ti577 .leaf .leaf)) (.node 580 ti580 (.node 579 ti579 .leaf .leaf) (.node 581 ti581 .leaf .leaf))) (.node 586 ti586 (.node 584 ti584 (.node 583 ti583 .leaf .leaf) (.node 585 ti585 .leaf .leaf)) (.node 588 ti588 (.node 587 ti587 .leaf .leaf) (.node 589 ti589 .leaf .leaf)))))))))
noncomputable def fnTree : Tr Func := (.node 289 Tryz.f289 (.node 144 Tryz.f144 (.node 72 Tryz.f72 (.node 36 Tryz.f36 (.node 18 Tryz.f18 (.node 9 Tryz.f9 (.node 4 Tryz.f4 (.node 2 Tryz.f2 (.node 1 Tryz.f1 (.node 0 Tryz.f0 .leaf .leaf) .leaf) (.node 3 Tryz.f3 .leaf .leaf)) (.node 7 Tryz.f7 (.node 6 Tryz.f6 (.node 5 Tryz.f5 .leaf .leaf) .leaf) (.node 8 Tryz.f8 .leaf .leaf))) (.node 14 Tryz.f14 (.node 12 Tryz.f12 (.node 11 Tryz.f11 (.node 10 Tryz.f10 .leaf .leaf) .leaf) (.node 13 Tryz.f13 .leaf .leaf)) (.node 16 Tryz.f16 (.node 15 Tryz.f15 .leaf .leaf) (.node 17 Tryz.f17 .leaf .leaf)))) (.node 27 Tryz.f27 (.node 23 Tryz.f23 (.node 21 Tryz.f21 (.node 20 Tryz.f20 (.node 19 Tryz.f19 .leaf .leaf) .leaf) (.node 22 Tryz.f22 .leaf .leaf)) (.node 25 Tryz.f25 (.node 24 Tryz.f24 .leaf .leaf) (.node 26 Tryz.f26 .leaf .leaf))) (.node 32 Tryz.f32 (.node 30 Tryz.f30 (.node 29 Tryz.f29 (.node 28 Tryz.f28 .leaf .leaf) .leaf) (.node 31 Tryz.f31 .leaf .leaf)) (.node 34 Tryz.f34 (.node 33 Tryz.f33 .leaf .leaf) (.node 35 Tryz.f35 .leaf .leaf))))) (.node 54 Tryz.f54 (.node 45 Tryz.f45 (.node 41 Tryz.f41 (.node 39 Tryz.f39 (.node 38 Tryz.f38 (.node 37 Tryz.f37 .leaf .leaf) .leaf) (.node 40 Tryz.f40 .leaf .leaf)) (.node 43 Tryz.f43 (.node 42 Tryz.f42 .leaf .leaf) (.node 44 Tryz.f44 .leaf .leaf))) (.node 50 Tryz.f50 (.node 48 Tryz.f48 (.node 47 Tryz.f47 (.node 46 Tryz.f46 .leaf .leaf) .leaf) (.node 49 Tryz.f49 .leaf .leaf)) (.node 52 Tryz.f52 (.node 51 Tryz.f51 .leaf .leaf) (.node 53 Tryz.f53 .leaf .leaf)))) (.node 63 Tryz.f63 (.node 59 Tryz.f59 (.node 57 Tryz.f57 (.node 56 Tryz.f56 (.node 55 Tryz.f55 .leaf .leaf) .leaf) (.node 58 Tryz.f58 .leaf .leaf)) (.node 61 Tryz.f61 (.node 60 Tryz.f60 .leaf .leaf) (.node 62 Tryz.f62 .leaf .leaf))) (.node 68 Tryz.f68 (.node 66 Tryz.f66 (.node 65 Tryz.f65 (.node 64 Tryz.f64 .leaf .leaf) .leaf) (.node 67 Tryz.f67 .leaf .leaf)) (.node 70 Tryz.f70 (.node 69 Tryz.f69 .leaf .leaf) (.node 71 Tryz.f71 .leaf .leaf)))))) (.node 108 Tryz.f108 (.node 90 Tryz.f90 (.node 81 Tryz.f81 (.node 77 Tryz.f77 (.node 75 Tryz.f75 (.node 74 Tryz.f74 (.node 73 Tryz.f73 .leaf .leaf) .leaf) (.node 76 Tryz.f76 .leaf .leaf)) (.node 79 Tryz.f79 (.node 78 Tryz.f78 .leaf .leaf) (.node 80 Tryz.f80 .leaf .leaf))) (.node 86 Tryz.f86 (.node 84 Tryz.f84 (.node 83 Tryz.f83 (.node 82 Tryz.f82 .leaf .leaf) .leaf) (.node 85 Tryz.f85 .leaf .leaf)) (.node 88 Tryz.f88 (.node 87 Tryz.f87 .leaf .leaf) (.node 89 Tryz.f89 .leaf .leaf)))) (.node 99 Tryz.f99 (.node 95 Tryz.f95 (.node 93 Tryz.f93 (.node 92 Tryz.f92 (.node 91 Tryz.f91 .leaf .leaf) .leaf) (.node 94 Tryz.f94 .leaf .leaf)) (.node 97 Tryz.f97 (.node 96 Tryz.f96 .leaf .leaf) (.node 98 Tryz.f98 .leaf .leaf))) (.node 104 Tryz.f104 (.node 102 Tryz.f102 (.node 101 Tryz.f101 (.node 100 Tryz.f100 .leaf .leaf) .leaf) (.node 103 Tryz.f103 .leaf .leaf)) (.node 106 Tryz.f106 (.node 105 Tryz.f105 .leaf .leaf) (.node 107 Tryz.f107 .leaf .leaf))))) (.node 126 Tryz.f126 (.node 117 Tryz.f117 (.node 113 Tryz.f113 (.node 111 Tryz.f111 (.node 110 Tryz.f110 (.node 109 Tryz.f109 .leaf .leaf) .leaf) (.node 112 Tryz.f112 .leaf .leaf)) (.node 115 Tryz.f115 (.node 114 Tryz.f114 .leaf .leaf) (.node 116 Tryz.f116 .leaf .leaf))) (.node 122 Tryz.f122 (.node 120 Tryz.f120 (.node 119 Tryz.f119 (.node 118 Tryz.f118 .leaf .leaf) .leaf) (.node 121 Tryz.f121 .leaf .leaf)) (.node 124 Tryz.f124 (.node 123 Tryz.f123 .leaf .leaf) (.node 125 Tryz.f125 .leaf .leaf)))) (.node 135 Tryz.f135 (.node 131 Tryz.f131 (.node 129 Tryz.f129 (.node 128 Tryz.f128 (.node 127 Tryz.f127 .leaf .leaf) .leaf) (.node 130 Tryz.f130 .leaf .leaf)) (.node 133 Tryz.f133 (.node 132 Tryz.f132 .leaf .leaf) (.node 134 Tryz.f134 .leaf .leaf))) (.node 140 Tryz.f140 (.node 138 Tryz.f138 (.node 137 Tryz.f137 (.node 136 Tryz.f136 .leaf .leaf) .leaf) (.node 139 Tryz.f139 .leaf .leaf)) (.node 142 Tryz.f142 (.node 141 Tryz.f141 .leaf .leaf) (.node 143 Tryz.f143 .leaf .leaf))))))) (.node 217 Tryz.f217 (.node 181 Tryz.f181 (.node 163 Tryz.f163 (.node 154 Tryz.f154 (.node 149 Tryz.f149 (.node 147 Tryz.f147 (.node 146 Tryz.f146 (.node 145 Tryz.f145 .leaf .leaf) .leaf) (.node 148 Tryz.f148 .leaf .leaf)) (.node 152 Tryz.f152 (.node 151 Tryz.f151 (.node 150 Tryz.f150 .leaf .leaf) .leaf) (.node 153 Tryz.f153 .leaf .leaf))) (.node 159 Tryz.f159 (.node 157 Tryz.f157 (.node 156 Tryz.f156 (.node 155 Tryz.f155 .leaf .leaf) .leaf) (.node 158 Tryz.f158 .leaf .leaf)) (.node 161 Tryz.f161 (.node 160 Tryz.f160 .leaf .leaf) (.node 162 Tryz.f162 .leaf .leaf)))) (.node 172 Tryz.f172 (.node 168 Tryz.f168 (.node 166 Tryz.f166 (.node 165 Tryz.f165 (.node 164 Tryz.f164 .leaf .leaf) .leaf) (.node 167 Tryz.f167 .leaf .leaf)) (.node 170 Tryz.f170 (.node 169 Tryz.f169 .leaf .leaf) (.node 171 Tryz.f171 .leaf .leaf))) (.node 177 Tryz.f177 (.node 175 Tryz.f175 (.node 174 Tryz.f174 (.node 173 Tryz.f173 .leaf .leaf) .leaf) (.node 176 Tryz.f176 .leaf .leaf)) (.node 179 Tryz.f179 (.node 178 Tryz.f178 .leaf .leaf) (.node 180 Tryz.f180 .leaf .leaf))))) (.node 199 Tryz.f199 (.node 190 Tryz.f190 (.node 186 Tryz.f186 (.node 184 Tryz.f184 (.node 183 Tryz.f183 (.node 182 Tryz.f182 .leaf .leaf) .leaf) (.node 185 Tryz.f185 .leaf .leaf)) (.node 188 Tryz.f188 (.node 187 Tryz.f187 .leaf .leaf) (.node 189 Tryz.f189 .leaf .leaf))) (.node 195 Tryz.f195 (.node 193 Tryz.f193 (.node 192 Tryz.f192 (.node 191 Tryz.f191 .leaf .leaf) .leaf) (.node 194 Tryz.f194 .leaf .leaf)) (.node 197 Tryz.f197 (.node 196 Tryz.f196 .leaf .leaf) (.node 198 Tryz.f198 .leaf .leaf)))) (.node 208 Tryz.f208 (.node 204 Tryz.f204 (.node 202 Tryz.f202 (.node 201 Tryz.f201 (.node 200 Tryz.f200 .leaf .leaf) .leaf) (.node 203 Tryz.f203 .leaf .leaf)) (.node 206 Tryz.f206 (.node 205 Tryz.f205 .leaf .leaf) (.node 207 Tryz.f207 .leaf .leaf))) (.node 213 Tryz.f213 (.node 211 Tryz.f211 (.node 210 Tryz.f210 (.node 209 Tryz.f209 .leaf .leaf) .leaf) (.node 212 Tryz.f212 .leaf .leaf)) (.node 215 Tryz.f215 (.node 214 Tryz.f214 .leaf .leaf) (.node 216 Tryz.f216 .leaf .leaf)))))) (.node 253 Tryz.f253 (.node 235 Tryz.f235 (.node 226 Tryz.f226 (.node 222 Tryz.f222 (.node 220 Tryz.f220 (.node 219 Tryz.f219 (.node 218 Tryz.f218 .leaf .leaf) .leaf) (.node 221 Tryz.f221 .leaf .leaf)) (.node 224 Tryz.f224 (.node 223 Tryz.f223 .leaf .leaf) (.node 225 Tryz.f225 .leaf .leaf))) (.node 231 Tryz.f231 (.node 229 Tryz.f229 (.node 228 Tryz.f228 (.node 227 Tryz.f227 .leaf .leaf) .leaf) (.node 230 Tryz.f230 .leaf .leaf)) (.node 233 Tryz.f233 (.node 232 Tryz.f232 .leaf .leaf) (.node 234 Tryz.f234 .leaf .leaf)))) (.node 244 Tryz.f244 (.node 240 Tryz.f240 (.node 238 Tryz.f238 (.node 237 Tryz.f237 (.node 236 Tryz.f236 .leaf .leaf) .leaf) (.node 239 Tryz.f239 .leaf .leaf)) (.node 242 Tryz.f242 (.node 241 Tryz.f241 .leaf .leaf) (.node 243 Tryz.f243 .leaf .leaf))) (.node 249 Tryz.f249 (.node 247 Tryz.f247 (.node 246 Tryz.f246 (.node 245 Tryz.f245 .leaf .leaf) .leaf) (.node 248 Tryz.f248 .leaf .leaf)) (.node 251 Tryz.f251 (.node 250 Tryz.f250 .leaf .leaf) (.node 252 Tryz.f252 .leaf .leaf))))) (.node 271 Tryz.f271 (.node 262 Tryz.f262 (.node 258 Tryz.f258 (.node 256 Tryz.f256 (.node 255 Tryz.f255 (.node 254 Tryz.f254 .leaf .leaf) .leaf) (.node 257 Tryz.f257 .leaf .leaf)) (.node 260 Tryz.f260 (.node 259 Tryz.f259 .leaf .leaf) (.node 261 Tryz.f261 .leaf .leaf))) (.node 267 Tryz.f267 (.node 265 Tryz.f265 (.node 264 Tryz.f264 (.node 263 Tryz.f263 .leaf .leaf) .leaf) (.node 266 Tryz.f266 .leaf .leaf)) (.node 269 Tryz.f269 (.node 268 Tryz.f268 .leaf .leaf) (.node 270 Tryz.f270 .leaf .leaf)))) (.node 280 Tryz.f280 (.node 276 Tryz.f276 (.node 274 Tryz.f274 (.node 273 Tryz.f273 (.node 272 Tryz.f272 .leaf .leaf) .leaf) (.node 275 Tryz.f275 .leaf .leaf)) (.node 278 Tryz.f278 (.node 277 Tryz.f277 .leaf .leaf) (.node 279 Tryz.f279 .leaf .leaf))) (.node 285 Tryz.f285 (.node 283 Tryz.f283 (.node 282 Tryz.f282 (.node 281 Tryz.f281 .leaf .leaf) .leaf) (.node 284 Tryz.f284 .leaf .leaf)) (.node 287 Tryz.f287 (.node 286 Tryz.f286 .leaf .leaf) (.node 288 Tryz.f288 .leaf .leaf)))))))) (.node 434 Tryz.f434 (.node 362 Tryz.f362 (.node 326 Tryz.f326 (.node 308 Tryz.f308 (.node 299 Tryz.f299 (.node 294 Tryz.f294 (.node 292 Tryz.f292 (.node 291 Tryz.f291 (.node 290 Tryz.f290 .leaf .leaf) .leaf) (.node 293 Tryz.f293 .leaf .leaf)) (.node 297 Tryz.f297 (.node 296 Tryz.f296 (.node 295 Tryz.f295 .leaf .leaf) .leaf) (.node 298 Tryz.f298 .leaf .leaf))) (.node 304 Tryz.f304 (.node 302 Tryz.f302 (.node 301 Tryz.f301 (.node 300 Tryz.f300 .leaf .leaf) .leaf) (.node 303 Tryz.f303 .leaf .leaf)) (.node 306 Tryz.f306 (.node 305 Tryz.f305 .leaf .leaf) (.node 307 Tryz.f307 .leaf .leaf)))) (.node 317 Tryz.f317 (.node 313 Tryz.f313 (.node 311 Tryz.f311 (.node 310 Tryz.f310 (.node 309 Tryz.f309 .leaf .leaf) .leaf) (.node 312 Tryz.f312 .leaf .leaf)) (.node 315 Tryz.f315 (.node 314 Tryz.f314 .leaf .leaf) (.node 316 Tryz.f316 .leaf .leaf))) (.node 322 Tryz.f322 (.node 320 Tryz.f320 (.node 319 Tryz.f319 (.node 318 Tryz.f318 .leaf .leaf) .leaf) (.node 321 Tryz.f321 .leaf .leaf)) (.node 324 Tryz.f324 (.node 323 Tryz.f323 .leaf .leaf) (.node 325 Tryz.f325 .leaf .leaf))))) (.node 344 Tryz.f344 (.node 335 Tryz.f335 (.node 331 Tryz.f331 (.node 329 Tryz.f329 (.node 328 Tryz.f328 (.node 327 Tryz.f327 .leaf .leaf) .leaf) (.node 330 Tryz.f330 .leaf .leaf)) (.node 333 Tryz.f333 (.node 332 Tryz.f332 .leaf .leaf) (.node 334 Tryz.f334 .leaf .leaf))) (.node 340 Tryz.f340 (.node 338 Tryz.f338 (.node 337 Tryz.f337 (.node 336 Tryz.f336 .leaf .leaf) .leaf) (.node 339 Tryz.f339 .leaf .leaf)) (.node 342 Tryz.f342 (.node 341 Tryz.f341 .leaf .leaf) (.node 343 Tryz.f343 .leaf .leaf)))) (.node 353 Tryz.f353 (.node 349 Tryz.f349 (.node 347 Tryz.f347 (.node 346 Tryz.f346 (.node 345 Tryz.f345 .leaf .leaf) .leaf) (.node 348 Tryz.f348 .leaf .leaf)) (.node 351 Tryz.f351 (.node 350 Tryz.f350 .leaf .leaf) (.node 352 Tryz.f352 .leaf .leaf))) (.node 358 Tryz.f358 (.node 356 Tryz.f356 (.node 355 Tryz.f355 (.node 354 Tryz.f354 .leaf .leaf) .leaf) (.node 357 Tryz.f357 .leaf .leaf)) (.node 360 Tryz.f360 (.node 359 Tryz.f359 .leaf .leaf) (.node 361 Tryz.f361 .leaf .leaf)))))) (.node 398 Tryz.f398 (.node 380 Tryz.f380 (.node 371 Tryz.f371 (.node 367 Tryz.f367 (.node 365 Tryz.f365 (.node 364 Tryz.f364 (.node 363 Tryz.f363 .leaf .leaf) .leaf) (.node 366 Tryz.f366 .leaf .leaf)) (.node 369 Tryz.f369 (.node 368 Tryz.f368 .leaf .leaf) (.node 370 Tryz.f370 .leaf .leaf))) (.node 376 Tryz.f376 (.node 374 Tryz.f374 (.node 373 Tryz.f373 (.node 372 Tryz.f372 .leaf .leaf) .leaf) (.node 375 Tryz.f375 .leaf .leaf)) (.node 378 Tryz.f378 (.node 377 Tryz.f377 .leaf .leaf) (.node 379 Tryz.f379 .leaf .leaf)))) (.node 389 Tryz.f389 (.node 385 Tryz.f385 (.node 383 Tryz.f383 (.node 382 Tryz.f382 (.node 381 Tryz.f381 .leaf .leaf) .leaf) (.node 384 Tryz.f384 .leaf .leaf)) (.node 387 Tryz.f387 (.node 386 Tryz.f386 .leaf .leaf) (.node 388 Tryz.f388 .leaf .leaf))) (.node 394 Tryz.f394 (.node 392 Tryz.f392 (.node 391 Tryz.f391 (.node 390 Tryz.f390 .leaf .leaf) .leaf) (.node 393 Tryz.f393 .leaf .leaf)) (.node 396 Tryz.f396 (.node 395 Tryz.f395 .leaf .leaf) (.node 397 Tryz.f397 .leaf .leaf))))) (.node 416 Tryz.f416 (.node 407 Tryz.f407 (.node 403 Tryz.f403 (.node 401 Tryz.f401 (.node 400 Tryz.f400 (.node 399 Tryz.f399 .leaf .leaf) .leaf) (.node 402 Tryz.f402 .leaf .leaf)) (.node 405 Tryz.f405 (.node 404 Tryz.f404 .leaf .leaf) (.node 406 Tryz.f406 .leaf .leaf))) (.node 412 Tryz.f412 (.node 410 Tryz.f410 (.node 409 Tryz.f409 (.node 408 Tryz.f408 .leaf .leaf) .leaf) (.node 411 Tryz.f411 .leaf .leaf)) (.node 414 Tryz.f414 (.node 413 Tryz.f413 .leaf .leaf) (.node 415 Tryz.f415 .leaf .leaf)))) (.node 425 Tryz.f425 (.node 421 Tryz.f421 (.node 419 Tryz.f419 (.node 418 Tryz.f418 (.node 417 Tryz.f417 .leaf .leaf) .leaf) (.node 420 Tryz.f420 .leaf .leaf)) (.node 423 Tryz.f423 (.node 422 Tryz.f422 .leaf .leaf) (.node 424 Tryz.f424 .leaf .leaf))) (.node 430 Tryz.f430 (.node 428 Tryz.f428 (.node 427 Tryz.f427 (.node 426 Tryz.f426 .leaf .leaf) .leaf) (.node 429 Tryz.f429 .leaf .leaf)) (.node 432 Tryz.f432 (.node 431 Tryz.f431 .leaf .leaf) (.node 433 Tryz.f433 .leaf .leaf))))))) (.node 507 Tryz.f507 (.node 471 Tryz.f471 (.node 453 Tryz.f453 (.node 444 Tryz.f444 (.node 439 Tryz.f439 (.node 437 Tryz.f437 (.node 436 Tryz.f436 (.node 435 Tryz.f435 .leaf .leaf) .leaf) (.node 438 Tryz.f438 .leaf .leaf)) (.node 442 Tryz.f442 (.node 441 Tryz.f441 (.node 440 Tryz.f440 .leaf .leaf) .leaf) (.node 443 Tryz.f443 .leaf .leaf))) (.node 449 Tryz.f449 (.node 447 Tryz.f447 (.node 446 Tryz.f446 (.node 445 Tryz.f445 .leaf .leaf) .leaf) (.node 448 Tryz.f448 .leaf .leaf)) (.node 451 Tryz.f451 (.node 450 Tryz.f450 .leaf .leaf) (.node 452 Tryz.f452 .leaf .leaf)))) (.node 462 Tryz.f462 (.node 458 Tryz.f458 (.node 456 Tryz.f456 (.node 455 Tryz.f455 (.node 454 Tryz.f454 .leaf .leaf) .leaf) (.node 457 Tryz.f457 .leaf .leaf)) (.node 460 Tryz.f460 (.node 459 Tryz.f459 .leaf .leaf) (.node 461 Tryz.f461 .leaf .leaf))) (.node 467 Tryz.f467 (.node 465 Tryz.f465 (.node 464 Tryz.f464 (.node 463 Tryz.f463 .leaf .leaf) .leaf) (.node 466 Tryz.f466 .leaf .leaf)) (.node 469 Tryz.f469 (.node 468 Tryz.f468 .leaf .leaf) (.node 470 Tryz.f470 .leaf .leaf))))) (.node 489 Tryz.f489 (.node 480 Tryz.f480 (.node 476 Tryz.f476 (.node 474 Tryz.f474 (.node 473 Tryz.f473 (.node 472 Tryz.f472 .leaf .leaf) .leaf) (.node 475 Tryz.f475 .leaf .leaf)) (.node 478 Tryz.f478 (.node 477 Tryz.f477 .leaf .leaf) (.node 479 Tryz.f479 .leaf .leaf))) (.node 485 Tryz.f485 (.node 483 Tryz.f483 (.node 482 Tryz.f482 (.node 481 Tryz.f481 .leaf .leaf) .leaf) (.node 484 Tryz.f484 .leaf .leaf)) (.node 487 Tryz.f487 (.node 486 Tryz.f486 .leaf .leaf) (.node 488 Tryz.f488 .leaf .leaf)))) (.node 498 Tryz.f498 (.node 494 Tryz.f494 (.node 492 Tryz.f492 (.node 491 Tryz.f491 (.node 490 Tryz.f490 .leaf .leaf) .leaf) (.node 493 Tryz.f493 .leaf .leaf)) (.node 496 Tryz.f496 (.node 495 Tryz.f495 .leaf .leaf) (.node 497 Tryz.f497 .leaf .leaf))) (.node 503 Tryz.f503 (.node 501 Tryz.f501 (.node 500 Tryz.f500 (.node 499 Tryz.f499 .leaf .leaf) .leaf) (.node 502 Tryz.f502 .leaf .leaf)) (.node 505 Tryz.f505 (.node 504 Tryz.f504 .leaf .leaf) (.node 506 Tryz.f506 .leaf .leaf)))))) (.node 543 Tryz.f543 (.node 525 Tryz.f525 (.node 516 Tryz.f516 (.node 512 Tryz.f512 (.node 510 Tryz.f510 (.node 509 Tryz.f509 (.node 508 Tryz.f508 .leaf .leaf) .leaf) (.node 511 Tryz.f511 .leaf .leaf)) (.node 514 Tryz.f514 (.node 513 Tryz.f513 .leaf .leaf) (.node 515 Tryz.f515 .leaf .leaf))) (.node 521 Tryz.f521 (.node 519 Tryz.f519 (.node 518 Tryz.f518 (.node 517 Tryz.f517 .leaf .leaf) .leaf) (.node 520 Tryz.f520 .leaf .leaf)) (.node 523 Tryz.f523 (.node 522 Tryz.f522 .leaf .leaf) (.node 524 Tryz.f524 .leaf .leaf)))) (.node 534 Tryz.f534 (.node 530 Tryz.f530 (.node 528 Tryz.f528 (.node 527 Tryz.f527 (.node 526 Tryz.f526 .leaf .leaf) .leaf) (.node 529 Tryz.f529 .leaf .leaf)) (.node 532 Tryz.f532 (.node 531 Tryz.f531 .leaf .leaf) (.node 533 Tryz.f533 .leaf .leaf))) (.node 539 Tryz.f539 (.node 537 Tryz.f537 (.node 536 Tryz.f536 (.node 535 Tryz.f535 .leaf .leaf) .leaf) (.node 538 Tryz.f538 .leaf .leaf)) (.node 541 Tryz.f541 (.node 540 Tryz.f540 .leaf .leaf) (.node 542 Tryz.f542 .leaf .leaf))))) (.node 561 Tryz.f561 (.node 552 Tryz.f552 (.node 548 Tryz.f548 (.node 546 Tryz.f546 (.node 545 Tryz.f545 (.node 544 Tryz.f544 .leaf .leaf) .leaf) (.node 547 Tryz.f547 .leaf .leaf)) (.node 550 Tryz.f550 (.node 549 Tryz.f549 .leaf .leaf) (.node 551 Tryz.f551 .leaf .leaf))) (.node 557 Tryz.f557 (.node 555 Tryz.f555 (.node 554 Tryz.f554 (.node 553 Tryz.f553 .leaf .leaf) .leaf) (.node 556 Tryz.f556 .leaf .leaf)) (.node 559 Tryz.f559 (.node 558 Tryz.f558 .leaf .leaf) (.node 560 Tryz.f560 .leaf .leaf)))) (.node 570 Tryz.f570 (.node 566 Tryz.f566 (.node 564 Tryz.f564 (.node 563 Tryz.f563 (.node 562 Tryz.f562 .leaf .leaf) .leaf) (.node 565 Tryz.f565 .leaf .leaf)) (.node 568 Tryz.f568 (.node 567 Tryz.f567 .leaf .leaf) (.node 569 Tryz.f569 .leaf .leaf))) (.node 575 Tryz.f575 (.node 573 Tryz.f573 (.node 572 Tryz.f572 (.node 571 Tryz.f571 .leaf .leaf) .leaf) (.node 574 Tryz.f574 .leaf .leaf)) (.node 577 Tryz.f577 (.node 576 Tryz.f576 .leaf .leaf) (.node 578 Tryz.f578 .leaf .leaf)))))))))
theorem ti_ok : tiTree.all (tiOk Tryz.prog) = true := by kernel_rfl
theorem flat_ok : tiTree.all (flatOk Tryz.prog) = true := by kernel_rfl
theorem name0 : (Tryz.f0.name == "runtime.NumGoroutine") = false := by kernel_rfl
theorem name1 : (Tryz.f1.name == "runtime.NumGoroutine") = false := by kernel_rfl
theorem name2 : (Tryz.f2.name == "runtime.NumGoroutine") = false := by kernel_rfl
theorem name3 : (Tryz.f3.name == "runtime.NumGoroutine") = false := by kernel_rfl
theorem name4 : (Tryz.f4.name == "runtime.NumGoroutine") = false := by kernel_rfl
theorem name5 : (Tryz.f5.name == "runtime.NumGoroutine") = false := by kernel_rfl
theorem name6 : (Tryz.f6.name == "runtime.NumGoroutine") = false := by kernel_rfl
theorem name7 : (Tryz.f7.name == "runtime.NumGoroutine") = false := by kernel_rfl
theorem name8 : (Tryz.f8.name == "runtime.NumGoroutine") = false := by kernel_rfl
theorem name9 : (Tryz.f9.name == "runtime.NumGoroutine") = false := by kernel_rfl
theorem name10 : (Tryz.f10.name == "runtime.NumGoroutine") = false := by kernel_rfl
theorem name11 : (Tryz.f11.name == "runtime.NumGoroutine") = false := by kernel_rfl
theorem name12 : (Tryz.f12.name == "runtime.NumGoroutine") = false := by kernel_rfl
theorem name13 : (Tryz.f13.name == "runtime.NumGoroutine") = false := by kernel_rfl
theorem name14 : (Tryz.f14.name == "runtime.NumGoroutine") = false := by kernel_rfl
theorem name15 : (Tryz.f15.name == "runtime.NumGoroutine") = false := by kernel_rfl
theorem name16 : (Tryz.f16.name == "runtime.NumGoroutine") = false := by kernel_rfl
theorem name17 : (Tryz.f17.name == "runtime.NumGoroutine") = false := by kernel_rfl
theorem name18 : (Tryz.f18.name == "runtime.NumGoroutine") = false := by kernel_rfl
theorem name19 : (Tryz.f19.name == "runtime.NumGoroutine") = false := by kernel_rfl
theorem name20 : (Tryz.f20.name == "runtime.NumGoroutine") = false := by kernel_rfl
theorem name21 : (Tryz.f21.name == "runtime.NumGoroutine") = false := by kernel_rfl
theorem name22 : (Tryz.f22.name == "runtime.NumGoroutine") = false := by kernel_rfl
theorem name23 : (Tryz.f23.name == "runtime.NumGoroutine") = false := by kernel_rfl
theorem name24 : (Tryz.f24.name == "runtime.NumGoroutine") = false := by kernel_rfl
theorem name25 : (Tryz.f25.name == "runtime.NumGoroutine") = false := by kernel_rfl
theorem name26 : (Tryz.f26.name == "runtime.NumGoroutine") = false := by kernel_rfl
theorem name27 : (Tryz.f27.name == "runtime.NumGoroutine") = false := by kernel_rfl
theorem name28 : (Tryz.f28.name == "runtime.NumGoroutine") = false := by kernel_rfl
theorem name29 : (Tryz.f29.name == "runtime.NumGoroutine") = false := by kernel_rfl
theorem name30 : (Tryz.f30.name == "runtime.NumGoroutine") = false := by kernel_rfl
theorem name31 : (Tryz.f31.name == "runtime.NumGoroutine") = false := by kernel_rfl
theorem name32 : (Tryz.f32.name == "runtime.NumGoroutine") = false := by kernel_rfl
theorem name33 : (Tryz.f33.name == "runtime.NumGoroutine") = false := by kernel_rfl
theorem name34 : (Tryz.f34.name == "runtime.NumGoroutine") = false := by kernel_rfl
theorem name35 : (Tryz.f35.name == "runtime.NumGoroutine") = false := by kernel_rfl
theorem name36 : (Tryz.f36.name == "runtime.NumGoroutine") = false := by kernel_rfl
theorem name37 : (Tryz.f37.name == "runtime.NumGoroutine") = false := by kernel_rfl
theorem name38 : (Tryz.f38.name == "runtime.NumGoroutine") = false := by kernel_rfl
theorem name39 : (Tryz.f39.name == "runtime.NumGoroutine") = false := by kernel_rfl
theorem name40 : (Tryz.f40.name == "runtime.NumGoroutine") = false := by kernel_rfl
theorem name41 : (Tryz.f41.name == "runtime.NumGoroutine") = false := by kernel_rfl
theorem name42 : (Tryz.f42.name == "runtime.NumGoroutine") = false := by kernel_rfl
theorem name43 : (Tryz.f43.name == "runtime.NumGoroutine") = false := by kernel_rfl
theorem name44 : (Tryz.f44.name == "runtime.NumGoroutine") = false := by kernel_rfl
theorem name45 : (Tryz.f45.name == "runtime.NumGoroutine") = false := by kernel_rfl
theorem name46 : (Tryz.f46.name == "runtime.NumGoroutine") = false := by kernel_rfl
theorem name47 : (Tryz.f47.name == "runtime.NumGoroutine") = false := by kernel_rfl
theorem name48 : (Tryz.f48.name == "runtime.NumGoroutine") = false := by kernel_rfl
theorem name49 : (Tryz.f49.name == "runtime.NumGoroutine") = false := by kernel_rfl
theorem name50 : (Tryz.f50.name == "runtime.NumGoroutine") = false := by kernel_rfl
theorem name51 : (Tryz.f51.name == "runtime.NumGoroutine") = false := by kernel_rfl
theorem name52 : (Tryz.f52.name == "runtime.NumGoroutine") = false := by kernel_rfl
theorem name53 : (Tryz.f53.name == "runtime.NumGoroutine") = false := by kernel_rfl
theorem name54 : (Tryz.f54.name == "runtime.NumGoroutine") = false := by kernel_rfl
theorem name55 : (Tryz.f55.name == "runtime.NumGoroutine") = false := by kernel_rfl
theorem name56 : (Tryz.f56.name == "runtime.NumGoroutine") = false := by kernel_rfl
theorem name57 : (Tryz.f57.name == "runtime.NumGoroutine") = false := by kernel_rfl
theorem name58 : (Tryz.f58.name == "runtime.NumGoroutine") = false := by kernel_rfl
theorem name59 : (Tryz.f59.name == "runtime.NumGoroutine") = false := by kernel_rfl
theorem name60 : (Tryz.f60.name == "runtime.NumGoroutine") = false := by kernel_rfl
theorem name61 : (Tryz.f61.name == "runtime.NumGoroutine") = false := by kernel_rfl
theorem name62 : (Tryz.f62.name == "runtime.NumGoroutine") = false := by kernel_rfl
theorem name63 : (Tryz.f63.name == "runtime.NumGoroutine") = false := by kernel_rfl
theorem name64 : (Tryz.f64.name == "runtime.NumGoroutine") = false := by kernel_rfl
theorem name65 : (Tryz.f65.name == "runtime.NumGoroutine") = false := by kernel_rfl
theorem name66 : (Tryz.f66.name == "runtime.NumGoroutine") = false := by kernel_rfl
theorem name67 : (Tryz.f67.name == "runtime.NumGoroutine") = false := by kernel_rfl
theorem name68 : (Tryz.f68.name == "runtime.NumGoroutine") = false := by kernel_rfl
theorem name69 : (Tryz.f69.name == "runtime.NumGoroutine") = false := by kernel_rfl
theorem name70 : (Tryz.f70.name == "runtime.NumGoroutine") = false := by kernel_rfl
theorem name71 : (Tryz.f71.name == "runtime.NumGoroutine") = false := by kernel_rfl
theorem name72 : (Tryz.f72.name == "runtime.NumGoroutine") = false := by kernel_rfl
theorem name73 : (Tryz.f73.name == "runtime.NumGoroutine") = false := by kernel_rfl
theorem name74 : (Tryz.f74.name == "runtime.NumGoroutine") = false := by kernel_rfl
theorem name75 : (Tryz.f75.name == "runtime.NumGoroutine") = false := by kernel_rfl
theorem name76 : (Tryz.f76.name == "runtime.NumGoroutine") = false := by kernel_rfl
theorem name77 : (Tryz.f77.name == "runtime.NumGoroutine") = false := by kernel_rfl
theorem name78 : (Tryz.f78.name == "runtime.NumGoroutine") = false := by kernel_rfl
theorem name79 : (Tryz.f79.name == "runtime.NumGoroutine") = false := by kernel_rfl
theorem name80 : (Tryz.f80.name == "runtime.NumGoroutine") = false := by kernel_rfl
theorem name81 : (Tryz.f81.name == "runtime.NumGoroutine") = false := by kernel_rfl
theorem name82 : (Tryz.f82.name == "runtime.NumGoroutine") = false := by kernel_rfl
theorem name83 : (Tryz.f83.name == "runtime.NumGoroutine") = false := by kernel_rfl
theorem name84 : (Tryz.f84.name == "runtime.NumGoroutine") = false := by kernel_rfl
theorem name85 : (Tryz.f85.name == "runtime.NumGoroutine") = false := by kernel_rfl
theorem name86 : (Tryz.f86.name == "runtime.NumGoroutine") = false := by kernel_rfl
theorem name87 : (Tryz.f87.name == "runtime.NumGoroutine") = false := by kernel_rfl
theorem name88 : (Tryz.f88.name == "runtime.NumGoroutine") = false := by kernel_rfl
theorem name89 : (Tryz.f89.name == "runtime.NumGoroutine") = false := by kernel_rfl
theorem name90 : (Tryz.f90.name == "runtime.NumGoroutine") = false := by kernel_rfl
theorem name91 : (Tryz.f91.name == "runtime.NumGoroutine") = false := by kernel_rfl
theorem name92 : (Tryz.f92.name == "runtime.NumGoroutine") = false := by kernel_rfl
theorem name93 : (Tryz.f93.name == "runtime.NumGoroutine") = false := by kernel_rfl
theorem name94 : (Tryz.f94.name == "runtime.NumGoroutine") = false := by kernel_rfl
theorem name95 : (Tryz.f95.name == "runtime.NumGoroutine") = false := by kernel_rfl
theorem name96 : (Tryz.f96.name == "runtime.NumGoroutine") = false := by kernel_rfl
theorem name97 : (Tryz.f97.name == "runtime.NumGoroutine") = false := by kernel_rfl
theorem name98 : (Tryz.f98.name == "runtime.NumGoroutine") = false := by kernel_rfl
theorem name99 : (Tryz.f99.name == "runtime.NumGoroutine") = false := by kernel_rfl
theorem name100 : (Tryz.f100.name == "runtime.NumGoroutine") = false := by kernel_rfl
theorem name101 : (Tryz.f101.name == "runtime.NumGoroutine") = false := by kernel_rfl
theorem name102 : (Tryz.f102.name == "runtime.NumGoroutine") = false := by kernel_rfl
theorem name103 : (Tryz.f103.name == "runtime.NumGoroutine") = false := by kernel_rfl
theorem name104 : (Tryz.f104.name == "runtime.NumGoroutine") = false := by kernel_rfl
theorem name105 : (Tryz.f105.name == "runtime.NumGoroutine") = false := by kernel_rfl
theorem name106 : (Tryz.f106.name == "runtime.NumGoroutine") = false := by kernel_rfl
theorem name107 : (Tryz.f107.name == "runtime.NumGoroutine") = false := by kernel_rfl
theorem name108 : (Tryz.f108.name == "runtime.NumGoroutine") = false := by kernel_rfl
theorem name109 : (Tryz.f109.name == "runtime.NumGoroutine") = false := by kernel_rfl
theorem name110 : (Tryz.f110.name == "runtime.NumGoroutine") = false := by kernel_rfl
theorem name111 : (Tryz.f111.name == "runtime.NumGoroutine") = false := by kernel_rfl
theorem name112 : (Tryz.f112.name == "runtime.NumGoroutine") = false := by kernel_rfl
theorem name113 : (Tryz.f113.name == "runtime.NumGoroutine") = false := by kernel_rfl
theorem name114 : (Tryz.f114.name == "runtime.NumGoroutine") = false := by kernel_rfl
theorem name115 : (Tryz.f115.name == "runtime.NumGoroutine") = false := by kernel_rfl
theorem name116 : (Tryz.f116.name == "runtime.NumGoroutine") = false := by kernel_rfl
theorem name117 : (Tryz.f117.name == "runtime.NumGoroutine") = false := by kernel_rfl
theorem name118 : (Tryz.f118.name == "runtime.NumGoroutine") = false := by kernel_rfl
theorem name119 : (Tryz.f119.name == "runtime.NumGoroutine") = false := by kernel_rfl
theorem name120 : (Tryz.f120.name == "runtime.NumGoroutine") = false := by kernel_rfl
theorem name121 : (Tryz.f121.name == "runtime.NumGoroutine") = false := by kernel_rfl
theorem name122 : (Tryz.f122.name == "runtime.NumGoroutine") = false := by kernel_rfl
theorem name123 : (Tryz.f123.name == "runtime.NumGoroutine") = false := by kernel_rfl
theorem name124 : (Tryz.f124.name == "runtime.NumGoroutine") = false := by kernel_rfl
theorem name125 : (Tryz.f125.name == "runtime.NumGoroutine") = false := by kernel_rfl
theorem name126 : (Tryz.f126.name == "runtime.NumGoroutine") = false := by kernel_rfl
theorem name127 : (Tryz.f127.name == "runtime.NumGoroutine") = false := by kernel_rfl
theorem name128 : (Tryz.f128.name == "runtime.NumGoroutine") = false := by kernel_rfl
theorem name129 : (Tryz.f129.name == "runtime.NumGoroutine") = false := by kernel_rfl
theorem name130 : (Tryz.f130.name == "runtime.NumGoroutine") = false := by kernel_rfl
theorem name131 : (Tryz.f131.name == "runtime.NumGoroutine") = false := by kernel_rfl
theorem name132 : (Tryz.f132.name == "runtime.NumGoroutine") = false := by kernel_rfl
theorem name133 : (Tryz.f133.name == "runtime.NumGoroutine") = false := by kernel_rfl
theorem name134 : (Tryz.f134.name == "runtime.NumGoroutine") = false := by kernel_rfl
theorem name135 : (Tryz.f135.name == "runtime.NumGoroutine") = false := by kernel_rfl
theorem name136 : (Tryz.f136.name == "runtime.NumGoroutine") = false := by kernel_rfl
theorem name137 : (Tryz.f137.name == "runtime.NumGoroutine") = false := by kernel_rfl
theorem name138 : (Tryz.f138.name == "runtime.NumGoroutine") = false := by kernel_rfl
theorem name139 : (Tryz.f139.name == "runtime.NumGoroutine") = false := by kernel_rfl
theorem name140 : (Tryz.f140.name == "runtime.NumGoroutine") = false := by kernel_rfl
theorem name141 : (Tryz.f141.name == "runtime.NumGoroutine") = false := by kernel_rfl
theorem name142 : (Tryz.f142.name == "runtime.NumGoroutine") = false := by kernel_rfl
theorem name143 : (Tryz.f143.name == "runtime.NumGoroutine") = false := by kernel_rfl
theorem name144 : (Tryz.f144.name == "runtime.NumGoroutine") = false := by kernel_rfl
theorem name145 : (Tryz.f145.name == "runtime.NumGoroutine") = false := by kernel_rfl
theorem name146 : (Tryz.f146.name == "runtime.NumGoroutine") = false := by kernel_rfl
theorem name147 : (Tryz.f147.name == "runtime.NumGoroutine") = false := by kernel_rfl
theorem name148 : (Tryz.f148.name == "runtime.NumGoroutine") = false := by kernel_rfl
theorem name149 : (Tryz.f149.name == "runtime.NumGoroutine") = false := by kernel_rfl
theorem name150 : (Tryz.f150.name == "runtime.NumGoroutine") = false := by kernel_rfl
theorem name151 : (Tryz.f151.name == "runtime.NumGoroutine") = false := by kernel_rfl
theorem name152 : (Tryz.f152.name == "runtime.NumGoroutine") = false := by kernel_rfl
theorem name153 : (Tryz.f153.name == "runtime.NumGoroutine") = false := by kernel_rfl
theorem name154 : (Tryz.f154.name == "runtime.NumGoroutine") = false := by kernel_rfl
theorem name155 : (Tryz.f155.name == "runtime.NumGoroutine") = false := by kernel_rfl
theorem name156 : (Tryz.f156.name == "runtime.NumGoroutine") = false := by kernel_rfl
theorem name157 : (Tryz.f157.name == "runtime.NumGoroutine") = false := by kernel_rfl
theorem name158 : (Tryz.f158.name == "runtime.NumGoroutine") = false := by kernel_rfl
theorem name159 : (Tryz.f159.name == "runtime.NumGoroutine") = false := by kernel_rfl
theorem name160 : (Tryz.f160.name == "runtime.NumGoroutine") = false := by kernel_rfl
theorem name161 : (Tryz.f161.name == "runtime.NumGoroutine") = false := by kernel_rfl
theorem name162 : (Tryz.f162.name == "runtime.NumGoroutine") = false := by kernel_rfl
theorem name163 : (Tryz.f163.name == "runtime.NumGoroutine") = false := by kernel_rfl
theorem name164 : (Tryz.f164.name == "runtime.NumGoroutine") = false := by kernel_rfl
theorem name165 : (Tryz.f165.name == "runtime.NumGoroutine") = false := by kernel_rfl
theorem name166 : (Tryz.f166.name == "runtime.NumGoroutine") = false := by kernel_rfl
theorem name167 : (Tryz.f167.name == "runtime.NumGoroutine") = false := by kernel_rfl
theorem name168 : (Tryz.f168.name == "runtime.NumGoroutine") = false := by kernel_rfl
theorem name169 : (Tryz.f169.name == "runtime.NumGoroutine") = false := by kernel_rfl
theorem name170 : (Tryz.f170.name == "runtime.NumGoroutine") = false := by kernel_rfl
theorem name171 : (Tryz.f171.name == "runtime.NumGoroutine") = false := by kernel_rfl
theorem name172 : (Tryz.f172.name == "runtime.NumGoroutine") = false := by kernel_rfl
theorem name173 : (Tryz.f173.name == "runtime.NumGoroutine") = false := by kernel_rfl
theorem name174 : (Tryz.f174.name == "runtime.NumGoroutine") = false := by kernel_rfl
theorem name175 : (Tryz.f175.name == "runtime.NumGoroutine") = false := by kernel_rfl
theorem name176 : (Tryz.f176.name == "runtime.NumGoroutine") = false := by kernel_rfl
theorem name177 : (Tryz.f177.name == "runtime.NumGoroutine") = false := by kernel_rfl
theorem name178 : (Tryz.f178.name == "runtime.NumGoroutine") = false := by kernel_rfl
theorem name179 : (Tryz.f179.name == "runtime.NumGoroutine") = false := by kernel_rfl
theorem name180 : (Tryz.f180.name == "runtime.NumGoroutine") = false := by kernel_rfl
theorem name181 : (Tryz.f181.name == "runtime.NumGoroutine") = false := by kernel_rfl
theorem name182 : (Tryz.f182.name == "runtime.NumGoroutine") = false := by kernel_rfl
theorem name183 : (Tryz.f183.name == "runtime.NumGoroutine") = false := by kernel_rfl
theorem name184 : (Tryz.f184.name == "runtime.NumGoroutine") = false := by kernel_rfl
theorem name185 : (Tryz.f185.name == "runtime.NumGoroutine") = false := by kernel_rfl
theorem name186 : (Tryz.f186.name == "runtime.NumGoroutine") = false := by kernel_rfl
theorem name187 : (Tryz.f187.name == "runtime.NumGoroutine") = false := by kernel_rfl
theorem name188 : (Tryz.f188.name == "runtime.NumGoroutine") = false := by kernel_rfl
theorem name189 : (Tryz.f189.name == "runtime.NumGoroutine") = false := by kernel_rfl
theorem name190 : (Tryz.f190.name == "runtime.NumGoroutine") = false := by kernel_rfl
theorem name191 : (Tryz.f191.name == "runtime.NumGoroutine") = false := by kernel_rfl
theorem name192 : (Tryz.f192.name == "runtime.NumGoroutine") = false := by kernel_rfl
theorem name193 : (Tryz.f193.name == "runtime.NumGoroutine") = false := by kernel_rfl
theorem name194 : (Tryz.f194.name == "runtime.NumGoroutine") = false := by kernel_rfl
theorem name195 : (Tryz.f195.name == "runtime.NumGoroutine") = false := by kernel_rfl
theorem name196 : (Tryz.f196.name == "runtime.NumGoroutine") = false := by kernel_rfl
theorem name197 : (Tryz.f197.name == "runtime.NumGoroutine") = false := by kernel_rfl
theorem name198 : (Tryz.f198.name == "runtime.NumGoroutine") = false := by kernel_rfl
theorem name199 : (Tryz.f199.name == "runtime.NumGoroutine") = false := by kernel_rfl
theorem name200 : (Tryz.f200.name == "runtime.NumGoroutine") = false := by kernel_rfl
theorem name201 : (Tryz.f201.name == "runtime.NumGoroutine") = false := by kernel_rfl
theorem name202 : (Tryz.f202.name == "runtime.NumGoroutine") = false := by kernel_rfl
theorem name203 : (Tryz.f203.name == "runtime.NumGoroutine") = false := by kernel_rfl
theorem name204 : (Tryz.f204.name == "runtime.NumGoroutine") = false := by kernel_rfl
theorem name205 : (Tryz.f205.name == "runtime.NumGoroutine") = false := by kernel_rfl
theorem name206 : (Tryz.f206.name == "runtime.NumGoroutine") = false := by kernel_rfl
theorem name207 : (Tryz.f207.name == "runtime.NumGoroutine") = false := by kernel_rfl
theorem name208 : (Tryz.f208.name == "runtime.NumGoroutine") = false := by kernel_rfl
theorem name209 : (Tryz.f209.name == "runtime.NumGoroutine") = false := by kernel_rfl
theorem name210 : (Tryz.f210.name == "runtime.NumGoroutine") = false := by kernel_rfl
theorem name211 : (Tryz.f211.name == "runtime.NumGoroutine") = false := by kernel_rfl
theorem name212 : (Tryz.f212.name == "runtime.NumGoroutine") = false := by kernel_rfl
theorem name213 : (Tryz.f213.name == "runtime.NumGoroutine") = false := by kernel_rfl
theorem name214 : (Tryz.f214.name == "runtime.NumGoroutine") = false := by kernel_rfl
theorem name215 : (Tryz.f215.name == "runtime.NumGoroutine") = false := by kernel_rfl
theorem name216 : (Tryz.f216.name == "runtime.NumGoroutine") = false := by kernel_rfl
theorem name217 : (Tryz.f217.name == "runtime.NumGoroutine") = false := by kernel_rfl
theorem name218 : (Tryz.f218.name == "runtime.NumGoroutine") = false := by kernel_rfl
theorem name219 : (Tryz.f219.name == "runtime.NumGoroutine") = false := by kernel_rfl
theorem name220 : (Tryz.f220.name == "runtime.NumGoroutine") = false := by kernel_rfl
theorem name221 : (Tryz.f221.name == "runtime.NumGoroutine") = false := by kernel_rfl
theorem name222 : (Tryz.f222.name == "runtime.NumGoroutine") = false := by kernel_rfl
theorem name223 : (Tryz.f223.name == "runtime.NumGoroutine") = false := by kernel_rfl
theorem name224 : (Tryz.f224.name == "runtime.NumGoroutine") = false := by kernel_rfl
theorem name225 : (Tryz.f225.name == "runtime.NumGoroutine") = false := by kernel_rfl
theorem name226 : (Tryz.f226.name == "runtime.NumGoroutine") = false := by kernel_rfl
theorem name227 : (Tryz.f227.name == "runtime.NumGoroutine") = false := by kernel_rfl
theorem name228 : (Tryz.f228.name == "runtime.NumGoroutine") = false := by kernel_rfl
theorem name229 : (Tryz.f229.name == "runtime.NumGoroutine") = false := by kernel_rfl
theorem name230 : (Tryz.f230.name == "runtime.NumGoroutine") = false := by kernel_rfl
theorem name231 : (Tryz.f231.name == "runtime.NumGoroutine") = false := by kernel_rfl
theorem name232 : (Tryz.f232.name == "runtime.NumGoroutine") = false := by kernel_rfl
theorem name233 : (Tryz.f233.name == "runtime.NumGoroutine") = false := by kernel_rfl
theorem name234 : (Tryz.f234.name == "runtime.NumGoroutine") = false := by kernel_rfl
theorem name235 : (Tryz.f235.name == "runtime.NumGoroutine") = false := by kernel_rfl
theorem name236 : (Tryz.f236.name == "runtime.NumGoroutine") = false := by kernel_rfl
theorem name237 : (Tryz.f237.name == "runtime.NumGoroutine") = false := by kernel_rfl
theorem name238 : (Tryz.f238.name == "runtime.NumGoroutine") = false := by kernel_rfl
theorem name239 : (Tryz.f239.name == "runtime.NumGoroutine") = false := by kernel_rfl
theorem name240 : (Tryz.f240.name == "runtime.NumGoroutine") = false := by kernel_rfl
theorem name241 : (Tryz.f241.name == "runtime.NumGoroutine") = false := by kernel_rfl
theorem name242 : (Tryz.f242.name == "runtime.NumGoroutine") = false := by kernel_rfl
theorem name243 : (Tryz.f243.name == "runtime.NumGoroutine") = false := by kernel_rfl
theorem name244 : (Tryz.f244.name == "runtime.NumGoroutine") = false := by kernel_rfl
theorem name245 : (Tryz.f245.name == "runtime.NumGoroutine") = false := by kernel_rfl
theorem name246 : (Tryz.f246.name == "runtime.NumGoroutine") = false := by kernel_rfl
theorem name247 : (Tryz.f247.name == "runtime.NumGoroutine") = false := by kernel_rfl
theorem name248 : (Tryz.f248.name == "runtime.NumGoroutine") = false := by kernel_rfl
theorem name249 : (Tryz.f249.name == "runtime.NumGoroutine") = false := by kernel_rfl
theorem name250 : (Tryz.f250.name == "runtime.NumGoroutine") = false := by kernel_rfl
theorem name251 : (Tryz.f251.name == "runtime.NumGoroutine") = false := by kernel_rfl
theorem name252 : (Tryz.f252.name == "runtime.NumGoroutine") = false := by kernel_rfl
theorem name253 : (Tryz.f253.name == "runtime.NumGoroutine") = false := by kernel_rfl
theorem name254 : (Tryz.f254.name == "runtime.NumGoroutine") = false := by kernel_rfl
theorem name255 : (Tryz.f255.name == "runtime.NumGoroutine") = false := by kernel_rfl
theorem name256 : (Tryz.f256.name == "runtime.NumGoroutine") = false := by kernel_rfl
theorem name257 : (Tryz.f257.name == "runtime.NumGoroutine") = false := by kernel_rfl
theorem name258 : (Tryz.f258.name == "runtime.NumGoroutine") = false := by kernel_rfl
theorem name259 : (Tryz.f259.name == "runtime.NumGoroutine") = false := by kernel_rfl
theorem name260 : (Tryz.f260.name == "runtime.NumGoroutine") = false := by kernel_rfl
theorem name261 : (Tryz.f261.name == "runtime.NumGoroutine") = false := by kernel_rfl
theorem name262 : (Tryz.f262.name == "runtime.NumGoroutine") = false := by kernel_rfl
theorem name263 : (Tryz.f263.name == "runtime.NumGoroutine") = false := by kernel_rfl
theorem name264 : (Tryz.f264.name == "runtime.NumGoroutine") = false := by kernel_rfl
theorem name265 : (Tryz.f265.name == "runtime.NumGoroutine") = false := by kernel_rfl
theorem name266 : (Tryz.f266.name == "runtime.NumGoroutine") = false := by kernel_rfl
theorem name267 : (Tryz.f267.name == "runtime.NumGoroutine") = false := by kernel_rfl
theorem name268 : (Tryz.f268.name == "runtime.NumGoroutine") = false := by kernel_rfl
theorem name269 : (Tryz.f269.name == "runtime.NumGoroutine") = false := by kernel_rfl
theorem name270 : (Tryz.f270.name == "runtime.NumGoroutine") = false := by kernel_rfl
theorem name271 : (Tryz.f271.name == "runtime.NumGoroutine") = false := by kernel_rfl
theorem name272 : (Tryz.f272.name == "runtime.NumGoroutine") = false := by kernel_rfl
theorem name273 : (Tryz.f273.name == "runtime.NumGoroutine") = false := by kernel_rfl
theorem name274 : (Tryz.f274.name == "runtime.NumGoroutine") = false := by kernel_rfl
theorem name275 : (Tryz.f275.name == "runtime.NumGoroutine") = false := by kernel_rfl
theorem name276 : (Tryz.f276.name == "runtime.NumGoroutine") = false := by kernel_rfl
theorem name277 : (Tryz.f277.name == "runtime.NumGoroutine") = false := by kernel_rfl
theorem name278 : (Tryz.f278.name == "runtime.NumGoroutine") = false := by kernel_rfl
theorem name279 : (Tryz.f279.name == "runtime.NumGoroutine") = false := by kernel_rfl
theorem name280 : (Tryz.f280.name == "runtime.NumGoroutine") = false := by kernel_rfl
theorem name281 : (Tryz.f281.name == "runtime.NumGoroutine") = false := by kernel_rfl
theorem name282 : (Tryz.f282.name == "runtime.NumGoroutine") = false := by kernel_rfl
theorem name283 : (Tryz.f283.name == "runtime.NumGoroutine") = false := by kernel_rfl
theorem name284 : (Tryz.f284.name == "runtime.NumGoroutine") = false := by kernel_rfl
theorem name285 : (Tryz.f285.name == "runtime.NumGoroutine") = false := by kernel_rfl
theorem name286 : (Tryz.f286.name == "runtime.NumGoroutine") = false := by kernel_rfl
theorem name287 : (Tryz.f287.name == "runtime.NumGoroutine") = false := by kernel_rfl
theorem name288 : (Tryz.f288.name == "runtime.NumGoroutine") = false := by kernel_rfl
theorem name289 : (Tryz.f289.name == "runtime.NumGoroutine") = false := by kernel_rfl
theorem name290 : (Tryz.f290.name == "runtime.NumGoroutine") = false := by kernel_rfl
theorem name291 : (Tryz.f291.name == "runtime.NumGoroutine") = false := by kernel_rfl
theorem name292 : (Tryz.f292.name == "runtime.NumGoroutine") = false := by kernel_rfl
theorem name293 : (Tryz.f293.name == "runtime.NumGoroutine") = false := by kernel_rfl
theorem name294 : (Tryz.f294.name == "runtime.NumGoroutine") = false := by kernel_rfl
theorem name295 : (Tryz.f295.name == "runtime.NumGoroutine") = false := by kernel_rfl
theorem name296 : (Tryz.f296.name == "runtime.NumGoroutine") = false := by kernel_rfl
theorem name297 : (Tryz.f297.name == "runtime.NumGoroutine") = false := by kernel_rfl
theorem name298 : (Tryz.f298.name == "runtime.NumGoroutine") = false := by kernel_rfl
theorem name299 : (Tryz.f299.name == "runtime.NumGoroutine") = false := by kernel_rfl
theorem name300 : (Tryz.f300.name == "runtime.NumGoroutine") = false := by kernel_rfl
theorem name301 : (Tryz.f301.name == "runtime.NumGoroutine") = false := by kernel_rfl
theorem name302 : (Tryz.f302.name == "runtime.NumGoroutine") = false := by kernel_rfl
theorem name303 : (Tryz.f303.name == "runtime.NumGoroutine") = false := by kernel_rfl
theorem name304 : (Tryz.f304.name == "runtime.NumGoroutine") = false := by kernel_rfl
theorem name305 : (Tryz.f305.name == "runtime.NumGoroutine") = false := by kernel_rfl
theorem name306 : (Tryz.f306.name == "runtime.NumGoroutine") = false := by kernel_rfl
theorem name307 : (Tryz.f307.name == "runtime.NumGoroutine") = false := by kernel_rfl
theorem name308 : (Tryz.f308.name == "runtime.NumGoroutine") = false := by kernel_rfl
theorem name309 : (Tryz.f309.name == "runtime.NumGoroutine") = false := by kernel_rfl
theorem name310 : (Tryz.f310.name == "runtime.NumGoroutine") = false := by kernel_rfl
theorem name311 : (Tryz.f311.name == "runtime.NumGoroutine") = false := by kernel_rfl
theorem name312 : (Tryz.f312.name == "runtime.NumGoroutine") = false := by kernel_rfl
theorem name313 : (Tryz.f313.name == "runtime.NumGoroutine") = false := by kernel_rfl
theorem name314 : (Tryz.f314.name == "runtime.NumGoroutine") = false := by kernel_rfl
theorem name315 : (Tryz.f315.name == "runtime.NumGoroutine") = false := by kernel_rfl
theorem name316 : (Tryz.f316.name == "runtime.NumGoroutine") = false := by kernel_rfl
theorem name317 : (Tryz.f317.name == "runtime.NumGoroutine") = false := by kernel_rfl
theorem name318 : (Tryz.f318.name == "runtime.NumGoroutine") = false := by kernel_rfl
theorem name319 : (Tryz.f319.name == "runtime.NumGoroutine") = false := by kernel_rfl
theorem name320 : (Tryz.f320.name == "runtime.NumGoroutine") = false := by kernel_rfl
theorem name321 : (Tryz.f321.name == "runtime.NumGoroutine") = false := by kernel_rfl
theorem name322 : (Tryz.f322.name == "runtime.NumGoroutine") = false := by kernel_rfl
theorem name323 : (Tryz.f323.name == "runtime.NumGoroutine") = false := by kernel_rfl
theorem name324 : (Tryz.f324.name == "runtime.NumGoroutine") = false := by kernel_rfl
theorem name325 : (Tryz.f325.name == "runtime.NumGoroutine") = false := by kernel_rfl
theorem name326 : (Tryz.f326.name == "runtime.NumGoroutine") = false := by kernel_rfl
theorem name327 : (Tryz.f327.name == "runtime.NumGoroutine") = false := by kernel_rfl
theorem name328 : (Tryz.f328.name == "runtime.NumGoroutine") = false := by kernel_rfl
theorem name329 : (Tryz.f329.name == "runtime.NumGoroutine") = false := by kernel_rfl
theorem name330 : (Tryz.f330.name == "runtime.NumGoroutine") = false := by kernel_rfl
theorem name331 : (Tryz.f331.name == "runtime.NumGoroutine") = false := by kernel_rfl
theorem name332 : (Tryz.f332.name == "runtime.NumGoroutine") = false := by kernel_rfl
theorem name333 : (Tryz.f333.name == "runtime.NumGoroutine") = false := by kernel_rfl
theorem name334 : (Tryz.f334.name == "runtime.NumGoroutine") = false := by kernel_rfl
theorem name335 : (Tryz.f335.name == "runtime.NumGoroutine") = false := by kernel_rfl
theorem name336 : (Tryz.f336.name == "runtime.NumGoroutine") = false := by kernel_rfl
theorem name337 : (Tryz.f337.name == "runtime.NumGoroutine") = false := by kernel_rfl
theorem name338 : (Tryz.f338.name == "runtime.NumGoroutine") = false := by kernel_rfl
theorem name339 : (Tryz.f339.name == "runtime.NumGoroutine") = false := by kernel_rfl
theorem name340 : (Tryz.f340.name == "runtime.NumGoroutine") = false := by kernel_rfl
theorem name341 : (Tryz.f341.name == "runtime.NumGoroutine") = false := by kernel_rfl
theorem name342 : (Tryz.f342.name == "runtime.NumGoroutine") = false := by kernel_rfl
theorem name343 : (Tryz.f343.name == "runtime.NumGoroutine") = false := by kernel_rfl
theorem name344 : (Tryz.f344.name == "runtime.NumGoroutine") = false := by kernel_rfl
theorem name345 : (Tryz.f345.name == "runtime.NumGoroutine") = false := by kernel_rfl
theorem name346 : (Tryz.f346.name == "runtime.NumGoroutine") = false := by kernel_rfl
theorem name347 : (Tryz.f347.name == "runtime.NumGoroutine") = false := by kernel_rfl
theorem name348 : (Tryz.f348.name == "runtime.NumGoroutine") = false := by kernel_rfl
theorem name349 : (Tryz.f349.name == "runtime.NumGoroutine") = false := by kernel_rfl
theorem name350 : (Tryz.f350.name == "runtime.NumGoroutine") = false := by kernel_rfl
theorem name351 : (Tryz.f351.name == "runtime.NumGoroutine") = false := by kernel_rfl
theorem name352 : (Tryz.f352.name == "runtime.NumGoroutine") = false := by kernel_rfl
theorem name353 : (Tryz.f353.name == "runtime.NumGoroutine") = false := by kernel_rfl
theorem name354 : (Tryz.f354.name == "runtime.NumGoroutine") = false := by kernel_rfl
theorem name355 : (Tryz.f355.name == "runtime.NumGoroutine") = false := by kernel_rfl
theorem name356 : (Tryz.f356.name == "runtime.NumGoroutine") = false := by kernel_rfl
theorem name357 : (Tryz.f357.name == "runtime.NumGoroutine") = false := by kernel_rfl
theorem name358 : (Tryz.f358.name == "runtime.NumGoroutine") = false := by kernel_rfl
theorem name359 : (Tryz.f359.name == "runtime.NumGoroutine") = false := by kernel_rfl
theorem name360 : (Tryz.f360.name == "runtime.NumGoroutine") = false := by kernel_rfl
theorem name361 : (Tryz.f361.name == "runtime.NumGoroutine") = false := by kernel_rfl
theorem name362 : (Tryz.f362.name == "runtime.NumGoroutine") = false := by kernel_rfl
theorem name363 : (Tryz.f363.name == "runtime.NumGoroutine") = false := by kernel_rfl
theorem name364 : (Tryz.f364.name == "runtime.NumGoroutine") = false := by kernel_rfl
theorem name365 : (Tryz.f365.name == "runtime.NumGoroutine") = false := by kernel_rfl
theorem name366 : (Tryz.f366.name == "runtime.NumGoroutine") = false := by kernel_rfl
theorem name367 : (Tryz.f367.name == "runtime.NumGoroutine") = false := by kernel_rfl
theorem name368 : (Tryz.f368.name == "runtime.NumGoroutine") = false := by kernel_rfl
theorem name369 : (Tryz.f369.name == "runtime.NumGoroutine") = false := by kernel_rfl
theorem name370 : (Tryz.f370.name == "runtime.NumGoroutine") = false := by kernel_rfl
theorem name371 : (Tryz.f371.name == "runtime.NumGoroutine") = false := by kernel_rfl
theorem name372 : (Tryz.f372.name == "runtime.NumGoroutine") = false := by kernel_rfl
theorem name373 : (Tryz.f373.name == "runtime.NumGoroutine") = false := by kernel_rfl
theorem name374 : (Tryz.f374.name == "runtime.NumGoroutine") = false := by kernel_rfl
theorem name375 : (Tryz.f375.name == "runtime.NumGoroutine") = false := by kernel_rfl
theorem name376 : (Tryz.f376.name == "runtime.NumGoroutine") = false := by kernel_rfl
theorem name377 : (Tryz.f377.name == "runtime.NumGoroutine") = false := by kernel_rfl
theorem name378 : (Tryz.f378.name == "runtime.NumGoroutine") = false := by kernel_rfl
theorem name379 : (Tryz.f379.name == "runtime.NumGoroutine") = false := by kernel_rfl
theorem name380 : (Tryz.f380.name == "runtime.NumGoroutine") = false := by kernel_rfl
theorem name381 : (Tryz.f381.name == "runtime.NumGoroutine") = false := by kernel_rfl
theorem name382 : (Tryz.f382.name == "runtime.NumGoroutine") = false := by kernel_rfl
theorem name383 : (Tryz.f383.name == "runtime.NumGoroutine") = false := by kernel_rfl
theorem name384 : (Tryz.f384.name == "runtime.NumGoroutine") = false := by kernel_rfl
theorem name385 : (Tryz.f385.name == "runtime.NumGoroutine") = false := by kernel_rfl
theorem name386 : (Tryz.f386.name == "runtime.NumGoroutine") = false := by kernel_rfl
theorem name387 : (Tryz.f387.name == "runtime.NumGoroutine") = false := by kernel_rfl
theorem name388 : (Tryz.f388.name == "runtime.NumGoroutine") = false := by kernel_rfl
theorem name389 : (Tryz.f389.name == "runtime.NumGoroutine") = false := by kernel_rfl
theorem name390 : (Tryz.f390.name == "runtime.NumGoroutine") = false := by kernel_rfl
theorem name391 : (Tryz.f391.name == "runtime.NumGoroutine") = false := by kernel_rfl
theorem name392 : (Tryz.f392.name == "runtime.NumGoroutine") = false := by kernel_rfl
theorem name393 : (Tryz.f393.name == "runtime.NumGoroutine") = false := by kernel_rfl
theorem name394 : (Tryz.f394.name == "runtime.NumGoroutine") = false := by kernel_rfl
theorem name395 : (Tryz.f395.name == "runtime.NumGoroutine") = false := by kernel_rfl
theorem name396 : (Tryz.f396.name == "runtime.NumGoroutine") = false := by kernel_rfl
theorem name397 : (Tryz.f397.name == "runtime.NumGoroutine") = false := by kernel_rfl
theorem name398 : (Tryz.f398.name == "runtime.NumGoroutine") = false := by kernel_rfl
theorem name399 : (Tryz.f399.name == "runtime.NumGoroutine") = false := by kernel_rfl
theorem name400 : (Tryz.f400.name == "runtime.NumGoroutine") = false := by kernel_rfl
theorem name401 : (Tryz.f401.name == "runtime.NumGoroutine") = false := by kernel_rfl
theorem name402 : (Tryz.f402.name == "runtime.NumGoroutine") = false := by kernel_rfl
theorem name403 : (Tryz.f403.name == "runtime.NumGoroutine") = false := by kernel_rfl
theorem name404 : (Tryz.f404.name == "runtime.NumGoroutine") = false := by kernel_rfl
theorem name405 : (Tryz.f405.name == "runtime.NumGoroutine") = false := by kernel_rfl
theorem name406 : (Tryz.f406.name == "runtime.NumGoroutine") = false := by kernel_rfl
theorem name407 : (Tryz.f407.name == "runtime.NumGoroutine") = false := by kernel_rfl
theorem name408 : (Tryz.f408.name == "runtime.NumGoroutine") = false := by kernel_rfl
theorem name409 : (Tryz.f409.name == "runtime.NumGoroutine") = false := by kernel_rfl
theorem name410 : (Tryz.f410.name == "runtime.NumGoroutine") = false := by kernel_rfl
theorem name411 : (Tryz.f411.name == "runtime.NumGoroutine") = false := by kernel_rfl
theorem name412 : (Tryz.f412.name == "runtime.NumGoroutine") = false := by kernel_rfl
theorem name413 : (Tryz.f413.name == "runtime.NumGoroutine") = false := by kernel_rfl
theorem name414 : (Tryz.f414.name == "runtime.NumGoroutine") = false := by kernel_rfl
theorem name415 : (Tryz.f415.name == "runtime.NumGoroutine") = false := by kernel_rfl
theorem name416 : (Tryz.f416.name == "runtime.NumGoroutine") = false := by kernel_rfl
theorem name417 : (Tryz.f417.name == "runtime.NumGoroutine") = false := by kernel_rfl
theorem name418 : (Tryz.f418.name == "runtime.NumGoroutine") = false := by kernel_rfl
theorem name419 : (Tryz.f419.name == "runtime.NumGoroutine") = false := by kernel_rfl
theorem name420 : (Tryz.f420.name == "runtime.NumGoroutine") = false := by kernel_rfl
theorem name421 : (Tryz.f421.name == "runtime.NumGoroutine") = false := by kernel_rfl
theorem name422 : (Tryz.f422.name == "runtime.NumGoroutine") = false := by kernel_rfl
theorem name423 : (Tryz.f423.name == "runtime.NumGoroutine") = false := by kernel_rfl
theorem name424 : (Tryz.f424.name == "runtime.NumGoroutine") = false := by kernel_rfl
theorem name425 : (Tryz.f425.name == "runtime.NumGoroutine") = false := by kernel_rfl
theorem name426 : (Tryz.f426.name == "runtime.NumGoroutine") = false := by kernel_rfl
theorem name427 : (Tryz.f427.name == "runtime.NumGoroutine") = false := by kernel_rfl
theorem name428 : (Tryz.f428.name == "runtime.NumGoroutine") = false := by kernel_rfl
theorem name429 : (Tryz.f429.name == "runtime.NumGoroutine") = false := by kernel_rfl
theorem name430 : (Tryz.f430.name == "runtime.NumGoroutine") = false := by kernel_rfl
theorem name431 : (Tryz.f431.name == "runtime.NumGoroutine") = false := by kernel_rfl
theorem name432 : (Tryz.f432.name == "runtime.NumGoroutine") = false := by kernel_rfl
theorem name433 : (Tryz.f433.name == "runtime.NumGoroutine") = false := by kernel_rfl
theorem name434 : (Tryz.f434.name == "runtime.NumGoroutine") = false := by kernel_rfl
theorem name435 : (Tryz.f435.name == "runtime.NumGoroutine") = false := by kernel_rfl
theorem name436 : (Tryz.f436.name == "runtime.NumGoroutine") = false := by kernel_rfl
theorem name437 : (Tryz.f437.name == "runtime.NumGoroutine") = false := by kernel_rfl
theorem name438 : (Tryz.f438.name == "runtime.NumGoroutine") = false := by kernel_rfl
theorem name439 : (Tryz.f439.name == "runtime.NumGoroutine") = false := by kernel_rfl
theorem name440 : (Tryz.f440.name == "runtime.NumGoroutine") = false := by kernel_rfl
theorem name441 : (Tryz.f441.name == "runtime.NumGoroutine") = false := by kernel_rfl
theorem name442 : (Tryz.f442.name == "runtime.NumGoroutine") = false := by kernel_rfl
theorem name443 : (Tryz.f443.name == "runtime.NumGoroutine") = false := by kernel_rfl
theorem name444 : (Tryz.f444.name == "runtime.NumGoroutine") = false := by kernel_rfl
theorem name445 : (Tryz.f445.name == "runtime.NumGoroutine") = false := by kernel_rfl
theorem name446 : (Tryz.f446.name == "runtime.NumGoroutine") = false := by kernel_rfl
theorem name447 : (Tryz.f447.name == "runtime.NumGoroutine") = false := by kernel_rfl
theorem name448 : (Tryz.f448.name == "runtime.NumGoroutine") = false := by kernel_rfl
theorem name449 : (Tryz.f449.name == "runtime.NumGoroutine") = false := by kernel_rfl
theorem name450 : (Tryz.f450.name == "runtime.NumGoroutine") = false := by kernel_rfl
theorem name451 : (Tryz.f451.name == "runtime.NumGoroutine") = false := by kernel_rfl
theorem name452 : (Tryz.f452.name == "runtime.NumGoroutine") = false := by kernel_rfl
theorem name453 : (Tryz.f453.name == "runtime.NumGoroutine") = false := by kernel_rfl
theorem name454 : (Tryz.f454.name == "runtime.NumGoroutine") = false := by kernel_rfl
theorem name455 : (Tryz.f455.name == "runtime.NumGoroutine") = false := by kernel_rfl
theorem name456 : (Tryz.f456.name == "runtime.NumGoroutine") = false := by kernel_rfl
theorem name457 : (Tryz.f457.name == "runtime.NumGoroutine") = false := by kernel_rfl
theorem name458 : (Tryz.f458.name == "runtime.NumGoroutine") = false := by kernel_rfl
theorem name459 : (Tryz.f459.name == "runtime.NumGoroutine") = false := by kernel_rfl
theorem name460 : (Tryz.f460.name == "runtime.NumGoroutine") = false := by kernel_rfl
theorem name461 : (Tryz.f461.name == "runtime.NumGoroutine") = false := by kernel_rfl
theorem name462 : (Tryz.f462.name == "runtime.NumGoroutine") = false := by kernel_rfl
theorem name463 : (Tryz.f463.name == "runtime.NumGoroutine") = false := by kernel_rfl
theorem name464 : (Tryz.f464.name == "runtime.NumGoroutine") = false := by kernel_rfl
theorem name465 : (Tryz.f465.name == "runtime.NumGoroutine") = false := by kernel_rfl
theorem name466 : (Tryz.f466.name == "runtime.NumGoroutine") = false := by kernel_rfl
theorem name467 : (Tryz.f467.name == "runtime.NumGoroutine") = false := by kernel_rfl
theorem name468 : (Tryz.f468.name == "runtime.NumGoroutine") = false := by kernel_rfl
theorem name469 : (Tryz.f469.name == "runtime.NumGoroutine") = false := by kernel_rfl
theorem name470 : (Tryz.f470.name == "runtime.NumGoroutine") = false := by kernel_rfl
theorem name471 : (Tryz.f471.name == "runtime.NumGoroutine") = false := by kernel_rfl
theorem name472 : (Tryz.f472.name == "runtime.NumGoroutine") = false := by kernel_rfl
theorem name473 : (Tryz.f473.name == "runtime.NumGoroutine") = false := by kernel_rfl
theorem name474 : (Tryz.f474.name == "runtime.NumGoroutine") = false := by kernel_rfl
theorem name475 : (Tryz.f475.name == "runtime.NumGoroutine") = false := by kernel_rfl
theorem name476 : (Tryz.f476.name == "runtime.NumGoroutine") = false := by kernel_rfl
theorem name477 : (Tryz.f477.name == "runtime.NumGoroutine") = false := by kernel_rfl
theorem name478 : (Tryz.f478.name == "runtime.NumGoroutine") = false := by kernel_rfl
theorem name479 : (Tryz.f479.name == "runtime.NumGoroutine") = false := by kernel_rfl
theorem name480 : (Tryz.f480.name == "runtime.NumGoroutine") = false := by kernel_rfl
theorem name481 : (Tryz.f481.name == "runtime.NumGoroutine") = false := by kernel_rfl
theorem name482 : (Tryz.f482.name == "runtime.NumGoroutine") = false := by kernel_rfl
theorem name483 : (Tryz.f483.name == "runtime.NumGoroutine") = false := by kernel_rfl
theorem name484 : (Tryz.f484.name == "runtime.NumGoroutine") = false := by kernel_rfl
theorem name485 : (Tryz.f485.name == "runtime.NumGoroutine") = false := by kernel_rfl
theorem name486 : (Tryz.f486.name == "runtime.NumGoroutine") = false := by kernel_rfl
theorem name487 : (Tryz.f487.name == "runtime.NumGoroutine") = false := by kernel_rfl
theorem name488 : (Tryz.f488.name == "runtime.NumGoroutine") = false := by kernel_rfl
theorem name489 : (Tryz.f489.name == "runtime.NumGoroutine") = false := by kernel_rfl
theorem name490 : (Tryz.f490.name == "runtime.NumGoroutine") = false := by kernel_rfl
theorem name491 : (Tryz.f491.name == "runtime.NumGoroutine") = false := by kernel_rfl
theorem name492 : (Tryz.f492.name == "runtime.NumGoroutine") = false := by kernel_rfl
theorem name493 : (Tryz.f493.name == "runtime.NumGoroutine") = false := by kernel_rfl
theorem name494 : (Tryz.f494.name == "runtime.NumGoroutine") = false := by kernel_rfl
theorem name495 : (Tryz.f495.name == "runtime.NumGoroutine") = false := by kernel_rfl
theorem name496 : (Tryz.f496.name == "runtime.NumGoroutine") = false := by kernel_rfl
theorem name497 : (Tryz.f497.name == "runtime.NumGoroutine") = false := by kernel_rfl
theorem name498 : (Tryz.f498.name == "runtime.NumGoroutine") = false := by kernel_rfl
theorem name499 : (Tryz.f499.name == "runtime.NumGoroutine") = false := by kernel_rfl
theorem name500 : (Tryz.f500.name == "runtime.NumGoroutine") = false := by kernel_rfl
theorem name501 : (Tryz.f501.name == "runtime.NumGoroutine") = false := by kernel_rfl
theorem name502 : (Tryz.f502.name == "runtime.NumGoroutine") = false := by kernel_rfl
theorem name503 : (Tryz.f503.name == "runtime.NumGoroutine") = false := by kernel_rfl
theorem name504 : (Tryz.f504.name == "runtime.NumGoroutine") = false := by kernel_rfl
theorem name505 : (Tryz.f505.name == "runtime.NumGoroutine") = false := by kernel_rfl
theorem name506 : (Tryz.f506.name == "runtime.NumGoroutine") = false := by kernel_rfl
theorem name507 : (Tryz.f507.name == "runtime.NumGoroutine") = false := by kernel_rfl
theorem name508 : (Tryz.f508.name == "runtime.NumGoroutine") = false := by kernel_rfl
theorem name509 : (Tryz.f509.name == "runtime.NumGoroutine") = false := by kernel_rfl
theorem name510 : (Tryz.f510.name == "runtime.NumGoroutine") = false := by kernel_rfl
theorem name511 : (Tryz.f511.name == "runtime.NumGoroutine") = false := by kernel_rfl
theorem name512 : (Tryz.f512.name == "runtime.NumGoroutine") = false := by kernel_rfl
theorem name513 : (Tryz.f513.name == "runtime.NumGoroutine") = false := by kernel_rfl
theorem name514 : (Tryz.f514.name == "runtime.NumGoroutine") = false := by kernel_rfl
theorem name515 : (Tryz.f515.name == "runtime.NumGoroutine") = false := by kernel_rfl
theorem name516 : (Tryz.f516.name == "runtime.NumGoroutine") = false := by kernel_rfl
theorem name517 : (Tryz.f517.name == "runtime.NumGoroutine") = false := by kernel_rfl
theorem name518 : (Tryz.f518.name == "runtime.NumGoroutine") = false := by kernel_rfl
theorem name519 : (Tryz.f519.name == "runtime.NumGoroutine") = false := by kernel_rfl
theorem name520 : (Tryz.f520.name == "runtime.NumGoroutine") = false := by kernel_rfl
theorem name521 : (Tryz.f521.name == "runtime.NumGoroutine") = false := by kernel_rfl
theorem name522 : (Tryz.f522.name == "runtime.NumGoroutine") = false := by kernel_rfl
theorem name523 : (Tryz.f523.name == "runtime.NumGoroutine") = false := by kernel_rfl
theorem name524 : (Tryz.f524.name == "runtime.NumGoroutine") = false := by kernel_rfl
theorem name525 : (Tryz.f525.name == "runtime.NumGoroutine") = false := by kernel_rfl
theorem name526 : (Tryz.f526.name == "runtime.NumGoroutine") = false := by kernel_rfl
theorem name527 : (Tryz.f527.name == "runtime.NumGoroutine") = false := by kernel_rfl
theorem name528 : (Tryz.f528.name == "runtime.NumGoroutine") = false := by kernel_rfl
theorem name529 : (Tryz.f529.name == "runtime.NumGoroutine") = false := by kernel_rfl
theorem name530 : (Tryz.f530.name == "runtime.NumGoroutine") = false := by kernel_rfl
theorem name531 : (Tryz.f531.name == "runtime.NumGoroutine") = false := by kernel_rfl
theorem name532 : (Tryz.f532.name == "runtime.NumGoroutine") = false := by kernel_rfl
theorem name533 : (Tryz.f533.name == "runtime.NumGoroutine") = false := by kernel_rfl
theorem name534 : (Tryz.f534.name == "runtime.NumGoroutine") = false := by kernel_rfl
theorem name535 : (Tryz.f535.name == "runtime.NumGoroutine") = false := by kernel_rfl
theorem name536 : (Tryz.f536.name == "runtime.NumGoroutine") = false := by kernel_rfl
theorem name537 : (Tryz.f537.name == "runtime.NumGoroutine") = false := by kernel_rfl
theorem name538 : (Tryz.f538.name == "runtime.NumGoroutine") = false := by kernel_rfl
theorem name539 : (Tryz.f539.name == "runtime.NumGoroutine") = false := by kernel_rfl
theorem name540 : (Tryz.f540.name == "runtime.NumGoroutine") = false := by kernel_rfl
theorem name541 : (Tryz.f541.name == "runtime.NumGoroutine") = false := by kernel_rfl
theorem name542 : (Tryz.f542.name == "runtime.NumGoroutine") = false := by kernel_rfl
theorem name543 : (Tryz.f543.name == "runtime.NumGoroutine") = false := by kernel_rfl
theorem name544 : (Tryz.f544.name == "runtime.NumGoroutine") = false := by kernel_rfl
theorem name545 : (Tryz.f545.name == "runtime.NumGoroutine") = false := by kernel_rfl
theorem name546 : (Tryz.f546.name == "runtime.NumGoroutine") = false := by kernel_rfl
theorem name547 : (Tryz.f547.name == "runtime.NumGoroutine") = false := by kernel_rfl
theorem name548 : (Tryz.f548.name == "runtime.NumGoroutine") = false := by kernel_rfl
theorem name549 : (Tryz.f549.name == "runtime.NumGoroutine") = false := by kernel_rfl
theorem name550 : (Tryz.f550.name == "runtime.NumGoroutine") = false := by kernel_rfl
theorem name551 : (Tryz.f551.name == "runtime.NumGoroutine") = false := by kernel_rfl
theorem name552 : (Tryz.f552.name == "runtime.NumGoroutine") = false := by kernel_rfl
theorem name553 : (Tryz.f553.name == "runtime.NumGoroutine") = false := by kernel_rfl
theorem name554 : (Tryz.f554.name == "runtime.NumGoroutine") = false := by kernel_rfl
theorem name555 : (Tryz.f555.name == "runtime.NumGoroutine") = false := by kernel_rfl
theorem name556 : (Tryz.f556.name == "runtime.NumGoroutine") = false := by kernel_rfl
theorem name557 : (Tryz.f557.name == "runtime.NumGoroutine") = false := by kernel_rfl
theorem name558 : (Tryz.f558.name == "runtime.NumGoroutine") = false := by kernel_rfl
theorem name559 : (Tryz.f559.name == "runtime.NumGoroutine") = false := by kernel_rfl
theorem name560 : (Tryz.f560.name == "runtime.NumGoroutine") = false := by kernel_rfl
theorem name561 : (Tryz.f561.name == "runtime.NumGoroutine") = false := by kernel_rfl
theorem name562 : (Tryz.f562.name == "runtime.NumGoroutine") = false := by kernel_rfl
theorem name563 : (Tryz.f563.name == "runtime.NumGoroutine") = false := by kernel_rfl
theorem name564 : (Tryz.f564.name == "runtime.NumGoroutine") = false := by kernel_rfl
theorem name565 : (Tryz.f565.name == "runtime.NumGoroutine") = false := by kernel_rfl
theorem name566 : (Tryz.f566.name == "runtime.NumGoroutine") = false := by kernel_rfl
theorem name567 : (Tryz.f567.name == "runtime.NumGoroutine") = false := by kernel_rfl
theorem name568 : (Tryz.f568.name == "runtime.NumGoroutine") = false := by kernel_rfl
theorem name569 : (Tryz.f569.name == "runtime.NumGoroutine") = false := by kernel_rfl
theorem name570 : (Tryz.f570.name == "runtime.NumGoroutine") = false := by kernel_rfl
theorem name571 : (Tryz.f571.name == "runtime.NumGoroutine") = false := by kernel_rfl
theorem name572 : (Tryz.f572.name == "runtime.NumGoroutine") = false := by kernel_rfl
theorem name573 : (Tryz.f573.name == "runtime.NumGoroutine") = false := by kernel_rfl
theorem name574 : (Tryz.f574.name == "runtime.NumGoroutine") = false := by kernel_rfl
theorem name575 : (Tryz.f575.name == "runtime.NumGoroutine") = false := by kernel_rfl
theorem name576 : (Tryz.f576.name == "runtime.NumGoroutine") = false := by kernel_rfl
theorem name577 : (Tryz.f577.name == "runtime.NumGoroutine") = false := by kernel_rfl
theorem name578 : (Tryz.f578.name == "runtime.NumGoroutine") = false := by kernel_rfl
theorem fn_ok : fnTree.AllP (FnOK Tryz.prog) := ⟨⟨Tryz.func289, name289⟩, ⟨⟨Tryz.func144, name144⟩, ⟨⟨Tryz.func72, name72⟩, ⟨⟨Tryz.func36, name36⟩, ⟨⟨Tryz.func18, name18⟩, ⟨⟨Tryz.func9, name9⟩, ⟨⟨Tryz.func4, name4⟩, ⟨⟨Tryz.func2, name2⟩, ⟨⟨Tryz.func1, name1⟩, ⟨⟨Tryz.func0, name0⟩, trivial, trivial⟩, trivial⟩, ⟨⟨Tryz.func3, name3⟩, trivial, trivial⟩⟩, ⟨⟨Tryz.func7, name7⟩, ⟨⟨Tryz.func6, name6⟩, ⟨⟨Tryz.func5, name5⟩, trivial, trivial⟩, trivial⟩, ⟨⟨Tryz.func8, name8⟩, trivial, trivial⟩⟩⟩, ⟨⟨Tryz.func14, name14⟩, ⟨⟨Tryz.func12, name12⟩, ⟨⟨Tryz.func11, name11⟩, ⟨⟨Tryz.func10, name10⟩, trivial, trivial⟩, trivial⟩, ⟨⟨Tryz.func13, name13⟩, trivial, trivial⟩⟩, ⟨⟨Tryz.func16, name16⟩, ⟨⟨Tryz.func15, name15⟩, trivial, trivial⟩, ⟨⟨Tryz.func17, name17⟩, trivial, trivial⟩⟩⟩⟩, ⟨⟨Tryz.func27, name27⟩, ⟨⟨Tryz.func23, name23⟩, ⟨⟨Tryz.func21, name21⟩, ⟨⟨Tryz.func20, name20⟩, ⟨⟨Tryz.func19, name19⟩, trivial, trivial⟩, trivial⟩, ⟨⟨Tryz.func22, name22⟩, trivial, trivial⟩⟩, ⟨⟨Tryz.func25, name25⟩, ⟨⟨Tryz.func24, name24⟩, trivial, trivial⟩, ⟨⟨Tryz.func26, name26⟩, trivial, trivial⟩⟩⟩, ⟨⟨Tryz.func32, name32⟩, ⟨⟨Tryz.func30, name30⟩, ⟨⟨Tryz.func29, name29⟩, ⟨⟨Tryz.func28, name28⟩, trivial, trivial⟩, trivial⟩, ⟨⟨Tryz.func31, name31⟩, trivial, trivial⟩⟩, ⟨⟨Tryz.func34, name34⟩, ⟨⟨Tryz.func33, name33⟩, trivial, trivial⟩, ⟨⟨Tryz.func35, name35⟩, trivial, trivial⟩⟩⟩⟩⟩, ⟨⟨Tryz.func54, name54⟩, ⟨⟨Tryz.func45, name45⟩, ⟨⟨Tryz.func41, name41⟩, ⟨⟨Tryz.func39, name39⟩, ⟨⟨Tryz.func38, name38⟩, ⟨⟨Tryz.func37, name37⟩, trivial, trivial⟩, trivial⟩, ⟨⟨Tryz.func40, name40⟩, trivial, trivial⟩⟩, ⟨⟨Tryz.func43, name43⟩, ⟨⟨Tryz.func42, name42⟩, trivial, trivial⟩, ⟨⟨Tryz.func44, name44⟩, trivial, trivial⟩⟩⟩, ⟨⟨Tryz.func50, name50⟩, ⟨⟨Tryz.func48, name48⟩, ⟨⟨Tryz.func47, name47⟩, ⟨⟨Tryz.func46, name46⟩, trivial, trivial⟩, trivial⟩, ⟨⟨Tryz.func49, name49⟩, trivial, trivial⟩⟩, ⟨⟨Tryz.func52, name52⟩, ⟨⟨Tryz.func51, name51⟩, trivial, trivial⟩, ⟨⟨Tryz.func53, name53⟩, trivial, trivial⟩⟩⟩⟩, ⟨⟨Tryz.func63, name63⟩, ⟨⟨Tryz.func59, name59⟩, ⟨⟨Tryz.func57, name57⟩, ⟨⟨Tryz.func56, name56⟩, ⟨⟨Tryz.func55, name55⟩, trivial, trivial⟩, trivial⟩, ⟨⟨Tryz.func58, name58⟩, trivial, trivial⟩⟩, ⟨⟨Tryz.func61, name61⟩, ⟨⟨Tryz.func60, name60⟩, trivial, trivial⟩, ⟨⟨Tryz.func62, name62⟩, trivial, trivial⟩⟩⟩, ⟨⟨Tryz.func68, name68⟩, ⟨⟨Tryz.func66, name66⟩, ⟨⟨Tryz.func65, name65⟩, ⟨⟨Tryz.func64, name64⟩, trivial, trivial⟩, trivial⟩, ⟨⟨Tryz.func67, name67⟩, trivial, trivial⟩⟩, ⟨⟨Tryz.func70, name70⟩, ⟨⟨Tryz.func69, name69⟩, trivial, trivial⟩, ⟨⟨Tryz.func71, name71⟩, trivial, trivial⟩⟩⟩⟩⟩⟩, ⟨⟨Tryz.func108, name108⟩, ⟨⟨Tryz.func90, name90⟩, ⟨⟨Tryz.func81, name81⟩, ⟨⟨Tryz.func77, name77⟩, ⟨⟨Tryz.func75, name75⟩, ⟨⟨Tryz.func74, name74⟩, ⟨⟨Tryz.func73, name73⟩, trivial, trivial⟩, trivial⟩, ⟨⟨Tryz.func76, name76⟩, trivial, trivial⟩⟩, ⟨⟨Tryz.func79, name79⟩, ⟨⟨Tryz.func78, name78⟩, trivial, trivial⟩, ⟨⟨Tryz.func80, name80⟩, trivial, trivial⟩⟩⟩, ⟨⟨Tryz.func86, name86⟩, ⟨⟨Tryz.func84, name84⟩, ⟨⟨Tryz.func83, name83⟩, ⟨⟨Tryz.func82, name82⟩, trivial, trivial⟩, trivial⟩, ⟨⟨Tryz.func85, name85⟩, trivial, trivial⟩⟩, ⟨⟨Tryz.func88, name88⟩, ⟨⟨Tryz.func87, name87⟩, trivial, trivial⟩, ⟨⟨Tryz.func89, name89⟩, trivial, trivial⟩⟩⟩⟩, ⟨⟨Tryz.func99, name99⟩, ⟨⟨Tryz.func95, name95⟩, ⟨⟨Tryz.func93, name93⟩, ⟨⟨Tryz.func92, name92⟩, ⟨⟨Tryz.func91, name91⟩, trivial, trivial⟩, trivial⟩, ⟨⟨Tryz.func94, name94⟩, trivial, trivial⟩⟩, ⟨⟨Tryz.func97, name97⟩, ⟨⟨Tryz.func96, name96⟩, trivial, trivial⟩, ⟨⟨Tryz.func98, name98⟩, trivial, trivial⟩⟩⟩, ⟨⟨Tryz.func104, name104⟩, ⟨⟨Tryz.func102, name102⟩, ⟨⟨Tryz.func101, name101⟩, ⟨⟨Tryz.func100, name100⟩, trivial, trivial⟩, trivial⟩, ⟨⟨Tryz.func103, name103⟩, trivial, trivial⟩⟩, ⟨⟨Tryz.func106, name106⟩, ⟨⟨Tryz.func105, name105⟩, trivial, trivial⟩, ⟨⟨Tryz.func107, name107⟩, trivial, trivial⟩⟩⟩⟩⟩, ⟨⟨Tryz.func126, name126⟩, ⟨⟨Tryz.func117, name117⟩, ⟨⟨Tryz.func113, name113⟩, ⟨⟨Tryz.func111, name111⟩, ⟨⟨Tryz.func110, name110⟩, ⟨⟨Tryz.func109, name109⟩, trivial, trivial⟩, trivial⟩, ⟨⟨Tryz.func112, name112⟩, trivial, trivial⟩⟩, ⟨⟨Tryz.func115, name115⟩, ⟨⟨Tryz.func114, name114⟩, trivial, trivial⟩, ⟨⟨Tryz.func116, name116⟩, trivial, trivial⟩⟩⟩, ⟨⟨Tryz.func122, name122⟩, ⟨⟨Tryz.func120, name120⟩, ⟨⟨Tryz.func119, name119⟩, ⟨⟨Tryz.func118, name118⟩, trivial, trivial⟩, trivial⟩, ⟨⟨Tryz.func121, name121⟩, trivial, trivial⟩⟩, ⟨⟨Tryz.func124, name124⟩, ⟨⟨Tryz.func123, name123⟩, trivial, trivial⟩, ⟨⟨Tryz.func125, name125⟩, trivial, trivial⟩⟩⟩⟩, ⟨⟨Tryz.func135, name135⟩, ⟨⟨Tryz.func131, name131⟩, ⟨⟨Tryz.func129, name129⟩, ⟨⟨Tryz.func128, name128⟩, ⟨⟨Tryz.func127, name127⟩, trivial, trivial⟩, trivial⟩, ⟨⟨Tryz.func130, name130⟩, trivial, trivial⟩⟩, ⟨⟨Tryz.func133, name133⟩, ⟨⟨Tryz.func132, name132⟩, trivial, trivial⟩, ⟨⟨Tryz.func134, name134⟩, trivial, trivial⟩⟩⟩, ⟨⟨Tryz.func140, name140⟩, ⟨⟨Tryz.func138, name138⟩, ⟨⟨Tryz.func137, name137⟩, ⟨⟨Tryz.func136, name136⟩, trivial, trivial⟩, trivial⟩, ⟨⟨Tryz.func139, name139⟩, trivial, trivial⟩⟩, ⟨⟨Tryz.func142, name142⟩, ⟨⟨Tryz.func141, name141⟩, trivial, trivial⟩, ⟨⟨Tryz.func143, name143⟩, trivial, trivial⟩⟩⟩⟩⟩⟩⟩, ⟨⟨Tryz.func217, name217⟩, ⟨⟨Tryz.func181, name181⟩, ⟨⟨Tryz.func163, name163⟩, ⟨⟨Tryz.func154, name154⟩, ⟨⟨Tryz.func149, name149⟩, ⟨⟨Tryz.func147, name147⟩, ⟨⟨Tryz.func146, name146⟩, ⟨⟨Tryz.func145, name145⟩, trivial, trivial⟩, trivial⟩, ⟨⟨Tryz.func148, name148⟩, trivial, trivial⟩⟩, ⟨⟨Tryz.func152, name152⟩, ⟨⟨Tryz.func151, name151⟩, ⟨⟨Tryz.func150, name150⟩, trivial, trivial⟩, trivial⟩, ⟨⟨Tryz.func153, name153⟩, trivial, trivial⟩⟩⟩, ⟨⟨Tryz.func159, name159⟩, ⟨⟨Tryz.func157, name157⟩, ⟨⟨Tryz.func156, name156⟩, ⟨⟨Tryz.func155, name155⟩, trivial, trivial⟩, trivial⟩, ⟨⟨Tryz.func158, name158⟩, trivial, trivial⟩⟩, ⟨⟨Tryz.func161, name161⟩, ⟨⟨Tryz.func160, name160⟩, trivial, trivial⟩, ⟨⟨Tryz.func162, name162⟩, trivial, trivial⟩⟩⟩⟩, ⟨⟨Tryz.func172, name172⟩, ⟨⟨Tryz.func168, name168⟩, ⟨⟨Tryz.func166, name166⟩, ⟨⟨Tryz.func165, name165⟩, ⟨⟨Tryz.func164, name164⟩, trivial, trivial⟩, trivial⟩, ⟨⟨Tryz.func167, name167⟩, trivial, trivial⟩⟩, ⟨⟨Tryz.func170, name170⟩, ⟨⟨Tryz.func169, name169⟩, trivial, trivial⟩, ⟨⟨Tryz.func171, name171⟩, trivial, trivial⟩⟩⟩, ⟨⟨Tryz.func177, name177⟩, ⟨⟨Tryz.func175, name175⟩, ⟨⟨Tryz.func174, name174⟩, ⟨⟨Tryz.func173, name173⟩, trivial, trivial⟩, trivial⟩, ⟨⟨Tryz.func176, name176⟩, trivial, trivial⟩⟩, ⟨⟨Tryz.func179, name179⟩, ⟨⟨Tryz.func178, name178⟩, trivial, trivial⟩, ⟨⟨Tryz.func180, name180⟩, trivial, trivial⟩⟩⟩⟩⟩, ⟨⟨Tryz.func199, name199⟩, ⟨⟨Tryz.func190, name190⟩, ⟨⟨Tryz.func186, name186⟩, ⟨⟨Tryz.func184, name184⟩, ⟨⟨Tryz.func183, name183⟩, ⟨⟨Tryz.func182, name182⟩, trivial, trivial⟩, trivial⟩, ⟨⟨Tryz.func185, name185⟩, trivial, trivial⟩⟩, ⟨⟨Tryz.func188, name188⟩, ⟨⟨Tryz.func187, name187⟩, trivial, trivial⟩, ⟨⟨Tryz.func189, name189⟩, trivial, trivial⟩⟩⟩, ⟨⟨Tryz.func195, name195⟩, ⟨⟨Tryz.func193, name193⟩, ⟨⟨Tryz.func192, name192⟩, ⟨⟨Tryz.func191, name191⟩, trivial, trivial⟩, trivial⟩, ⟨⟨Tryz.func194, name194⟩, trivial, trivial⟩⟩, ⟨⟨Tryz.func197, name197⟩, ⟨⟨Tryz.func196, name196⟩, trivial, trivial⟩, ⟨⟨Tryz.func198, name198⟩, trivial, trivial⟩⟩⟩⟩, ⟨⟨Tryz.func208, name208⟩, ⟨⟨Tryz.func204, name204⟩, ⟨⟨Tryz.func202, name202⟩, ⟨⟨Tryz.func201, name201⟩, ⟨⟨Tryz.func200, name200⟩, trivial, trivial⟩, trivial⟩, ⟨⟨Tryz.func203, name203⟩, trivial, trivial⟩⟩, ⟨⟨Tryz.func206, name206⟩, ⟨⟨Tryz.func205, name205⟩, trivial, trivial⟩, ⟨⟨Tryz.func207, name207⟩, trivial, trivial⟩⟩⟩, ⟨⟨Tryz.func213, name213⟩, ⟨⟨Tryz.func211, name211⟩, ⟨⟨Tryz.func210, name210⟩, ⟨⟨Tryz.func209, name209⟩, trivial, trivial⟩, trivial⟩, ⟨⟨Tryz.func212, name212⟩, trivial, trivial⟩⟩, ⟨⟨Tryz.func215, name215⟩, ⟨⟨Tryz.func214, name214⟩, trivial, trivial⟩, ⟨⟨Tryz.func216, name216⟩, trivial, trivial⟩⟩⟩⟩⟩⟩, ⟨⟨Tryz.func253, name253⟩, ⟨⟨Tryz.func235, name235⟩, ⟨⟨Tryz.func226, name226⟩, ⟨⟨Tryz.func222, name222⟩, ⟨⟨Tryz.func220, name220⟩, ⟨⟨Tryz.func219, name219⟩, ⟨⟨Tryz.func218, name218⟩, trivial, trivial⟩, trivial⟩, ⟨⟨Tryz.func221, name221⟩, trivial, trivial⟩⟩, ⟨⟨Tryz.func224, name224⟩, ⟨⟨Tryz.func223, name223⟩, trivial, trivial⟩, ⟨⟨Tryz.func225, name225⟩, trivial, trivial⟩⟩⟩, ⟨⟨Tryz.func231, name231⟩, ⟨⟨Tryz.func229, name229⟩, ⟨⟨Tryz.func228, name228⟩, ⟨⟨Tryz.func227, name227⟩, trivial, trivial⟩, trivial⟩, ⟨⟨Tryz.func230, name230⟩, trivial, trivial⟩⟩, ⟨⟨Tryz.func233, name233⟩, ⟨⟨Tryz.func232, name232⟩, trivial, trivial⟩, ⟨⟨Tryz.func234, name234⟩, trivial, trivial⟩⟩⟩⟩, ⟨⟨Tryz.func244, name244⟩, ⟨⟨Tryz.func240, name240⟩, ⟨⟨Tryz.func238, name238⟩, ⟨⟨Tryz.func237, name237⟩, ⟨⟨Tryz.func236, name236⟩, trivial, trivial⟩, trivial⟩, ⟨⟨Tryz.func239, name239⟩, trivial, trivial⟩⟩, ⟨⟨Tryz.func242, name242⟩, ⟨⟨Tryz.func241, name241⟩, trivial, trivial⟩, ⟨⟨Tryz.func243, name243⟩, trivial, trivial⟩⟩⟩, ⟨⟨Tryz.func249, name249⟩, ⟨⟨Tryz.func247, name247⟩, ⟨⟨Tryz.func246, name246⟩, ⟨⟨Tryz.func245, name245⟩, trivial, trivial⟩, trivial⟩, ⟨⟨Tryz.func248, name248⟩, trivial, trivial⟩⟩, ⟨⟨Tryz.func251, name251⟩, ⟨⟨Tryz.func250, name250⟩, trivial, trivial⟩, ⟨⟨Tryz.func252, name252⟩, trivial, trivial⟩⟩⟩⟩⟩, ⟨⟨Tryz.func271, name271⟩, ⟨⟨Tryz.func262, name262⟩, ⟨⟨Tryz.func258, name258⟩, ⟨⟨Tryz.func256, name256⟩, ⟨⟨Tryz.func255, name255⟩, ⟨⟨Tryz.func254, name254⟩, trivial, trivial⟩, trivial⟩, ⟨⟨Tryz.func257, name257⟩, trivial, trivial⟩⟩, ⟨⟨Tryz.func260, name260⟩, ⟨⟨Tryz.func259, name259⟩, trivial, trivial⟩, ⟨⟨Tryz.func261, name261⟩, trivial, trivial⟩⟩⟩, ⟨⟨Tryz.func267, name267⟩, ⟨⟨Tryz.func265, name265⟩, ⟨⟨Tryz.func264, name264⟩, ⟨⟨Tryz.func263, name263⟩, trivial, trivial⟩, trivial⟩, ⟨⟨Tryz.func266, name266⟩, trivial, trivial⟩⟩, ⟨⟨Tryz.func269, name269⟩, ⟨⟨Tryz.func268, name268⟩, trivial, trivial⟩, ⟨⟨Tryz.func270, name270⟩, trivial, trivial⟩⟩⟩⟩, ⟨⟨Tryz.func280, name280⟩, ⟨⟨Tryz.func276, name276⟩, ⟨⟨Tryz.func274, name274⟩, ⟨⟨Tryz.func273, name273⟩, ⟨⟨Tryz.func272, name272⟩, trivial, trivial⟩, trivial⟩, ⟨⟨Tryz.func275, name275⟩, trivial, trivial⟩⟩, ⟨⟨Tryz.func278, name278⟩, ⟨⟨Tryz.func277, name277⟩, trivial, trivial⟩, ⟨⟨Tryz.func279, name279⟩, trivial, trivial⟩⟩⟩, ⟨⟨Tryz.func285, name285⟩, ⟨⟨Tryz.func283, name283⟩, ⟨⟨Tryz.func282, name282⟩, ⟨⟨Tryz.func281, name281⟩, trivial, trivial⟩, trivial⟩, ⟨⟨Tryz.func284, name284⟩, trivial, trivial⟩⟩, ⟨⟨Tryz.func287, name287⟩, ⟨⟨Tryz.func286, name286⟩, trivial, trivial⟩, ⟨⟨Tryz.func288, name288⟩, trivial, trivial⟩⟩⟩⟩⟩⟩⟩⟩, ⟨⟨Tryz.func434, name434⟩, ⟨⟨Tryz.func362, name362⟩, ⟨⟨Tryz.func326, name326⟩, ⟨⟨Tryz.func308, name308⟩, ⟨⟨Tryz.func299, name299⟩, ⟨⟨Tryz.func294, name294⟩, ⟨⟨Tryz.func292, name292⟩, ⟨⟨Tryz.func291, name291⟩, ⟨⟨Tryz.func290, name290⟩, trivial, trivial⟩, trivial⟩, ⟨⟨Tryz.func293, name293⟩, trivial, trivial⟩⟩, ⟨⟨Tryz.func297, name297⟩, ⟨⟨Tryz.func296, name296⟩, ⟨⟨Tryz.func295, name295⟩, trivial, trivial⟩, trivial⟩, ⟨⟨Tryz.func298, name298⟩, trivial, trivial⟩⟩⟩, ⟨⟨Tryz.func304, name304⟩, ⟨⟨Tryz.func302, name302⟩, ⟨⟨Tryz.func301, name301⟩, ⟨⟨Tryz.func300, name300⟩, trivial, trivial⟩, trivial⟩, ⟨⟨Tryz.func303, name303⟩, trivial, trivial⟩⟩, ⟨⟨Tryz.func306, name306⟩, ⟨⟨Tryz.func305, name305⟩, trivial, trivial⟩, ⟨⟨Tryz.func307, name307⟩, trivial, trivial⟩⟩⟩⟩, ⟨⟨Tryz.func317, name317⟩, ⟨⟨Tryz.func313, name313⟩, ⟨⟨Tryz.func311, name311⟩, ⟨⟨Tryz.func310, name310⟩, ⟨⟨Tryz.func309, name309⟩, trivial, trivial⟩, trivial⟩, ⟨⟨Tryz.func312, name312⟩, trivial, trivial⟩⟩, ⟨⟨Tryz.func315, name315⟩, ⟨⟨Tryz.func314, name314⟩, trivial, trivial⟩, ⟨⟨Tryz.func316, name316⟩, trivial, trivial⟩⟩⟩, ⟨⟨Tryz.func322, name322⟩, ⟨⟨Tryz.func320, name320⟩, ⟨⟨Tryz.func319, name319⟩, ⟨⟨Tryz.func318, name318⟩, trivial, trivial⟩, trivial⟩, ⟨⟨Tryz.func321, name321⟩, trivial, trivial⟩⟩, ⟨⟨Tryz.func324, name324⟩, ⟨⟨Tryz.func323, name323⟩, trivial, trivial⟩, ⟨⟨Tryz.func325, name325⟩, trivial, trivial⟩⟩⟩⟩⟩, ⟨⟨Tryz.func344, name344⟩, ⟨⟨Tryz.func335, name335⟩, ⟨⟨Tryz.func331, name331⟩, ⟨⟨Tryz.func329, name329⟩, ⟨⟨Tryz.func328, name328⟩, ⟨⟨Tryz.func327, name327⟩, trivial, trivial⟩, trivial⟩, ⟨⟨Tryz.func330, name330⟩, trivial, trivial⟩⟩, ⟨⟨Tryz.func333, name333⟩, ⟨⟨Tryz.func332, name332⟩, trivial, trivial⟩, ⟨⟨Tryz.func334, name334⟩, trivial, trivial⟩⟩⟩, ⟨⟨Tryz.func340, name340⟩, ⟨⟨Tryz.func338, name338⟩, ⟨⟨Tryz.func337, name337⟩, ⟨⟨Tryz.func336, name336⟩, trivial, trivial⟩, trivial⟩, ⟨⟨Tryz.func339, name339⟩, trivial, trivial⟩⟩, ⟨⟨Tryz.func342, name342⟩, ⟨⟨Tryz.func341, name341⟩, trivial, trivial⟩, ⟨⟨Tryz.func343, name343⟩, trivial, trivial⟩⟩⟩⟩, ⟨⟨Tryz.func353, name353⟩, ⟨⟨Tryz.func349, name349⟩, ⟨⟨Tryz.func347, name347⟩, ⟨⟨Tryz.func346, name346⟩, ⟨⟨Tryz.func345, name345⟩, trivial, trivial⟩, trivial⟩, ⟨⟨Tryz.func348, name348⟩, trivial, trivial⟩⟩, ⟨⟨Tryz.func351, name351⟩, ⟨⟨Tryz.func350, name350⟩, trivial, trivial⟩, ⟨⟨Tryz.func352, name352⟩, trivial, trivial⟩⟩⟩, ⟨⟨Tryz.func358, name358⟩, ⟨⟨Tryz.func356, name356⟩, ⟨⟨Tryz.func355, name355⟩, ⟨⟨Tryz.func354, name354⟩, trivial, trivial⟩, trivial⟩, ⟨⟨Tryz.func357, name357⟩, trivial, trivial⟩⟩, ⟨⟨Tryz.func360, name360⟩, ⟨⟨Tryz.func359, name359⟩, trivial, trivial⟩, ⟨⟨Tryz.func361, name361⟩, trivial, trivial⟩⟩⟩⟩⟩⟩, ⟨⟨Tryz.func398, name398⟩, ⟨⟨Tryz.func380, name380⟩, ⟨⟨Tryz.func371, name371⟩, ⟨⟨Tryz.func367, name367⟩, ⟨⟨Tryz.func365, name365⟩, ⟨⟨Tryz.func364, name364⟩, ⟨⟨Tryz.func363, name363⟩, trivial, trivial⟩, trivial⟩, ⟨⟨Tryz.func366, name366⟩, trivial, trivial⟩⟩, ⟨⟨Tryz.func369, name369⟩, ⟨⟨Tryz.func368, name368⟩, trivial, trivial⟩, ⟨⟨Tryz.func370, name370⟩, trivial, trivial⟩⟩⟩, ⟨⟨Tryz.func376, name376⟩, ⟨⟨Tryz.func374, name374⟩, ⟨⟨Tryz.func373, name373⟩, ⟨⟨Tryz.func372, name372⟩, trivial, trivial⟩, trivial⟩, ⟨⟨Tryz.func375, name375⟩, trivial, trivial⟩⟩, ⟨⟨Tryz.func378, name378⟩, ⟨⟨Tryz.func377, name377⟩, trivial, trivial⟩, ⟨⟨Tryz.func379, name379⟩, trivial, trivial⟩⟩⟩⟩, ⟨⟨Tryz.func389, name389⟩, ⟨⟨Tryz.func385, name385⟩, ⟨⟨Tryz.func383, name383⟩, ⟨⟨Tryz.func382, name382⟩, ⟨⟨Tryz.func381, name381⟩, trivial, trivial⟩, trivial⟩, ⟨⟨Tryz.func384, name384⟩, trivial, trivial⟩⟩, ⟨⟨Tryz.func387, name387⟩, ⟨⟨Tryz.func386, name386⟩, trivial, trivial⟩, ⟨⟨Tryz.func388, name388⟩, trivial, trivial⟩⟩⟩, ⟨⟨Tryz.func394, name394⟩, ⟨⟨Tryz.func392, name392⟩, ⟨⟨Tryz.func391, name391⟩, ⟨⟨Tryz.func390, name390⟩, trivial, trivial⟩, trivial⟩, ⟨⟨Tryz.func393, name393⟩, trivial, trivial⟩⟩, ⟨⟨Tryz.func396, name396⟩, ⟨⟨Tryz.func395, name395⟩, trivial, trivial⟩, ⟨⟨Tryz.func397, name397⟩, trivial, trivial⟩⟩⟩⟩⟩, ⟨⟨Tryz.func416, name416⟩, ⟨⟨Tryz.func407, name407⟩, ⟨⟨Tryz.func403, name403⟩, ⟨⟨Tryz.func401, name401⟩, ⟨⟨Tryz.func400, name400⟩, ⟨⟨Tryz.func399, name399⟩, trivial, trivial⟩, trivial⟩, ⟨⟨Tryz.func402, name402⟩, trivial, trivial⟩⟩, ⟨⟨Tryz.func405, name405⟩, ⟨⟨Tryz.func404, name404⟩, trivial, trivial⟩, ⟨⟨Tryz.func406, name406⟩, trivial, trivial⟩⟩⟩, ⟨⟨Tryz.func412, name412⟩, ⟨⟨Tryz.func410, name410⟩, ⟨⟨Tryz.func409, name409⟩, ⟨⟨Tryz.func408, name408⟩, trivial, trivial⟩, trivial⟩, ⟨⟨Tryz.func411, name411⟩, trivial, trivial⟩⟩, ⟨⟨Tryz.func414, name414⟩, ⟨⟨Tryz.func413, name413⟩, trivial, trivial⟩, ⟨⟨Tryz.func415, name415⟩, trivial, trivial⟩⟩⟩⟩, ⟨⟨Tryz.func425, name425⟩, ⟨⟨Tryz.func421, name421⟩, ⟨⟨Tryz.func419, name419⟩, ⟨⟨Tryz.func418, name418⟩, ⟨⟨Tryz.func417, name417⟩, trivial, trivial⟩, trivial⟩, ⟨⟨Tryz.func420, name420⟩, trivial, trivial⟩⟩, ⟨⟨Tryz.func423, name423⟩, ⟨⟨Tryz.func422, name422⟩, trivial, trivial⟩, ⟨⟨Tryz.func424, name424⟩, trivial, trivial⟩⟩⟩, ⟨⟨Tryz.func430, name430⟩, ⟨⟨Tryz.func428, name428⟩, ⟨⟨Tryz.func427, name427⟩, ⟨⟨Tryz.func426, name426⟩, trivial, trivial⟩, trivial⟩, ⟨⟨Tryz.func429, name429⟩, trivial, trivial⟩⟩, ⟨⟨Tryz.func432, name432⟩, ⟨⟨Tryz.func431, name431⟩, trivial, trivial⟩, ⟨⟨Tryz.func433, name433⟩, trivial, trivial⟩⟩⟩⟩⟩⟩⟩, ⟨⟨Tryz.func507, name507⟩, ⟨⟨Tryz.func471, name471⟩, ⟨⟨Tryz.func453, name453⟩, ⟨⟨Tryz.func444, name444⟩, ⟨⟨Tryz.func439, name439⟩, ⟨⟨Tryz.func437, name437⟩, ⟨⟨Tryz.func436, name436⟩, ⟨⟨Tryz.func435, name435⟩, trivial, trivial⟩, trivial⟩, ⟨⟨Tryz.func438, name438⟩, trivial, trivial⟩⟩, ⟨⟨Tryz.func442, name442⟩, ⟨⟨Tryz.func441, name441⟩, ⟨⟨Tryz.func440, name440⟩, trivial, trivial⟩, trivial⟩, ⟨⟨Tryz.func443, name443⟩, trivial, trivial⟩⟩⟩, ⟨⟨Tryz.func449, name449⟩, ⟨⟨Tryz.func447, name447⟩, ⟨⟨Tryz.func446, name446⟩, ⟨⟨Tryz.func445, name445⟩, trivial, trivial⟩, trivial⟩, ⟨⟨Tryz.func448, name448⟩, trivial, trivial⟩⟩, ⟨⟨Tryz.func451, name451⟩, ⟨⟨Tryz.func450, name450⟩, trivial, trivial⟩, ⟨⟨Tryz.func452, name452⟩, trivial, trivial⟩⟩⟩⟩, ⟨⟨Tryz.func462, name462⟩, ⟨⟨Tryz.func458, name458⟩, ⟨⟨Tryz.func456, name456⟩, ⟨⟨Tryz.func455, name455⟩, ⟨⟨Tryz.func454, name454⟩, trivial, trivial⟩, trivial⟩, ⟨⟨Tryz.func457, name457⟩, trivial, trivial⟩⟩, ⟨⟨Tryz.func460, name460⟩, ⟨⟨Tryz.func459, name459⟩, trivial, trivial⟩, ⟨⟨Tryz.func461, name461⟩, trivial, trivial⟩⟩⟩, ⟨⟨Tryz.func467, name467⟩, ⟨⟨Tryz.func465, name465⟩, ⟨⟨Tryz.func464, name464⟩, ⟨⟨Tryz.func463, name463⟩, trivial, trivial⟩, trivial⟩, ⟨⟨Tryz.func466, name466⟩, trivial, trivial⟩⟩, ⟨⟨Tryz.func469, name469⟩, ⟨⟨Tryz.func468, name468⟩, trivial, trivial⟩, ⟨⟨Tryz.func470, name470⟩, trivial, trivial⟩⟩⟩⟩⟩, ⟨⟨Tryz.func489, name489⟩, ⟨⟨Tryz.func480, name480⟩, ⟨⟨Tryz.func476, name476⟩, ⟨⟨Tryz.func474, name474⟩, ⟨⟨Tryz.func473, name473⟩, ⟨⟨Tryz.func472, name472⟩, trivial, trivial⟩, trivial⟩, ⟨⟨Tryz.func475, name475⟩, trivial, trivial⟩⟩, ⟨⟨Tryz.func478, name478⟩, ⟨⟨Tryz.func477, name477⟩, trivial, trivial⟩, ⟨⟨Tryz.func479, name479⟩, trivial, trivial⟩⟩⟩, ⟨⟨Tryz.func485, name485⟩, ⟨⟨Tryz.func483, name483⟩, ⟨⟨Tryz.func482, name482⟩, ⟨⟨Tryz.func481, name481⟩, trivial, trivial⟩, trivial⟩, ⟨⟨Tryz.func484, name484⟩, trivial, trivial⟩⟩, ⟨⟨Tryz.func487, name487⟩, ⟨⟨Tryz.func486, name486⟩, trivial, trivial⟩, ⟨⟨Tryz.func488, name488⟩, trivial, trivial⟩⟩⟩⟩, ⟨⟨Tryz.func498, name498⟩, ⟨⟨Tryz.func494, name494⟩, ⟨⟨Tryz.func492, name492⟩, ⟨⟨Tryz.func491, name491⟩, ⟨⟨Tryz.func490, name490⟩, trivial, trivial⟩, trivial⟩, ⟨⟨Tryz.func493, name493⟩, trivial, trivial⟩⟩, ⟨⟨Tryz.func496, name496⟩, ⟨⟨Tryz.func495, name495⟩, trivial, trivial⟩, ⟨⟨Tryz.func497, name497⟩, trivial, trivial⟩⟩⟩, ⟨⟨Tryz.func503, name503⟩, ⟨⟨Tryz.func501, name501⟩, ⟨⟨Tryz.func500, name500⟩, ⟨⟨Tryz.func499, name499⟩, trivial, trivial⟩, trivial⟩, ⟨⟨Tryz.func502, name502⟩, trivial, trivial⟩⟩, ⟨⟨Tryz.func505, name505⟩, ⟨⟨Tryz.func504, name504⟩, trivial, trivial⟩, ⟨⟨Tryz.func506, name506⟩, trivial, trivial⟩⟩⟩⟩⟩⟩, ⟨⟨Tryz.func543, name543⟩, ⟨⟨Tryz.func525, name525⟩, ⟨⟨Tryz.func516, name516⟩, ⟨⟨Tryz.func512, name512⟩, ⟨⟨Tryz.func510, name510⟩, ⟨⟨Tryz.func509, name509⟩, ⟨⟨Tryz.func508, name508⟩, trivial, trivial⟩, trivial⟩, ⟨⟨Tryz.func511, name511⟩, trivial, trivial⟩⟩, ⟨⟨Tryz.func514, name514⟩, ⟨⟨Tryz.func513, name513⟩, trivial, trivial⟩, ⟨⟨Tryz.func515, name515⟩, trivial, trivial⟩⟩⟩, ⟨⟨Tryz.func521, name521⟩, ⟨⟨Tryz.func519, name519⟩, ⟨⟨Tryz.func518, name518⟩, ⟨⟨Tryz.func517, name517⟩, trivial, trivial⟩, trivial⟩, ⟨⟨Tryz.func520, name520⟩, trivial, trivial⟩⟩, ⟨⟨Tryz.func523, name523⟩, ⟨⟨Tryz.func522, name522⟩, trivial, trivial⟩, ⟨⟨Tryz.func524, name524⟩, trivial, trivial⟩⟩⟩⟩, ⟨⟨Tryz.func534, name534⟩, ⟨⟨Tryz.func530, name530⟩, ⟨⟨Tryz.func528, name528⟩, ⟨⟨Tryz.func527, name527⟩, ⟨⟨Tryz.func526, name526⟩, trivial, trivial⟩, trivial⟩, ⟨⟨Tryz.func529, name529⟩, trivial, trivial⟩⟩, ⟨⟨Tryz.func532, name532⟩, ⟨⟨Tryz.func531, name531⟩, trivial, trivial⟩, ⟨⟨Tryz.func533, name533⟩, trivial, trivial⟩⟩⟩, ⟨⟨Tryz.func539, name539⟩, ⟨⟨Tryz.func537, name537⟩, ⟨⟨Tryz.func536, name536⟩, ⟨⟨Tryz.func535, name535⟩, trivial, trivial⟩, trivial⟩, ⟨⟨Tryz.func538, name538⟩, trivial, trivial⟩⟩, ⟨⟨Tryz.func541, name541⟩, ⟨⟨Tryz.func540, name540⟩, trivial, trivial⟩, ⟨⟨Tryz.func542, name542⟩, trivial, trivial⟩⟩⟩⟩⟩, ⟨⟨Tryz.func561, name561⟩, ⟨⟨Tryz.func552, name552⟩, ⟨⟨Tryz.func548, name548⟩, ⟨⟨Tryz.func546, name546⟩, ⟨⟨Tryz.func545, name545⟩, ⟨⟨Tryz.func544, name544⟩, trivial, trivial⟩, trivial⟩, ⟨⟨Tryz.func547, name547⟩, trivial, trivial⟩⟩, ⟨⟨Tryz.func550, name550⟩, ⟨⟨Tryz.func549, name549⟩, trivial, trivial⟩, ⟨⟨Tryz.func551, name551⟩, trivial, trivial⟩⟩⟩, ⟨⟨Tryz.func557, name557⟩, ⟨⟨Tryz.func555, name555⟩, ⟨⟨Tryz.func554, name554⟩, ⟨⟨Tryz.func553, name553⟩, trivial, trivial⟩, trivial⟩, ⟨⟨Tryz.func556, name556⟩, trivial, trivial⟩⟩, ⟨⟨Tryz.func559, name559⟩, ⟨⟨Tryz.func558, name558⟩, trivial, trivial⟩, ⟨⟨Tryz.func560, name560⟩, trivial, trivial⟩⟩⟩⟩, ⟨⟨Tryz.func570, name570⟩, ⟨⟨Tryz.func566, name566⟩, ⟨⟨Tryz.func564, name564⟩, ⟨⟨Tryz.func563, name563⟩, ⟨⟨Tryz.func562, name562⟩, trivial, trivial⟩, trivial⟩, ⟨⟨Tryz.func565, name565⟩, trivial, trivial⟩⟩, ⟨⟨Tryz.func568, name568⟩, ⟨⟨Tryz.func567, name567⟩, trivial, trivial⟩, ⟨⟨Tryz.func569, name569⟩, trivial, trivial⟩⟩⟩, ⟨⟨Tryz.func575, name575⟩, ⟨⟨Tryz.func573, name573⟩, ⟨⟨Tryz.func572, name572⟩, ⟨⟨Tryz.func571, name571⟩, trivial, trivial⟩, trivial⟩, ⟨⟨Tryz.func574, name574⟩, trivial, trivial⟩⟩, ⟨⟨Tryz.func577, name577⟩, ⟨⟨Tryz.func576, name576⟩, trivial, trivial⟩, ⟨⟨Tryz.func578, name578⟩, trivial, trivial⟩⟩⟩⟩⟩⟩⟩⟩⟩
end Am
